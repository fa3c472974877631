/-
  FilterFirst: what the decision says of the rules.
-/
import Derived.Test.YtkopnooajikpmaaGreatQFlKn
import Derived.Test.YtkopnooajikpmaaGreatQFlCo
import Derived.Test.YtkopnooajikpmaaGreatQFlDy
namespace Go.Proofs.YtkopnooajikpmaaGreat
open Go.RowKit Go.Lib

theorem fi_plain {f : Fl} {b : Rb} {c : Ca} (g : goodF f b c = true) (hb : c.back = false) :
    ∃ a r F P, decF f b c = ⟨a, r, F, P⟩ ∧ (∀ j, (hj : j < f.rus.length) → (hk : j < F.length) → mB b c f.rus[j] = false ∧ matchI b c f.rus[j].cds = F[j] ∧ 0 ≤ F[j]) ∧
      ((r = -1 ∧ F.length = f.rus.length ∧ a = f.dfl) ∨ (r = F.length ∧ ∃ h : F.length < f.rus.length, mB b c f.rus[F.length] = true ∧ a = f.rus[F.length].act)) := by
  obtain ⟨e1, e2, _, e4, e5, e6⟩ := decF_eq g hb
  obtain ⟨⟨a, r, F, P⟩, hd⟩ : ∃ D, decF f b c = D := ⟨_, rfl⟩
  simp only [hd] at e1 e2 e4 e5 e6
  refine ⟨a, r, F, P, hd, fun j hj hk => ?_, ?_⟩
  · obtain ⟨h1, x, h2, h3⟩ := e4 j hj hk
    refine ⟨h1, ?_, h3⟩
    unfold matchI
    rw [h2]
    exact Int.toNat_of_nonneg h3
  · by_cases hr : r = -1
    · refine .inl ⟨hr, e5 hr, ?_⟩
      rw [e1]
      exact (rule_none' (by rw [← e2]; exact hr)).2
    · obtain ⟨h1, h2⟩ := e6 hr
      obtain ⟨j, hj, k1, k2, k3, _⟩ := rule_some (f := f) (by rw [← e2]; exact hr)
      have hjF : j = F.length := by rw [← e2] at k1; omega
      subst hjF
      exact .inr ⟨h1.symm, hj, k2, by rw [e1]; exact k3⟩
theorem fi_why {w W : World} {bF bR bC : Nat} {v vc vr vf : Value} {ys : List RuV} {dfl : Int} {zs : List ClV} {b : Rb} {ca cd at_ lv fw : Int} {M : Int} (k : Nat) (hk : k < ys.length) (hM : matchI b ⟨ca, cd, at_, lv, fw, false⟩ ys[k].x.cds = M) (h0 : 0 ≤ M) (h : LwS w bF bR bC v ys dfl vc vr vf zs b ⟨ca, cd, at_, lv, fw, false⟩ W) :
    Calls Tryz.prog 35 #[.agg #[v, .int .i64 dfl], .agg #[vc, vr, vf], .agg #[.int .i64 ca, .int .i64 cd, .int .i64 at_, .int .i64 lv, .int .i64 fw, .bool false], .int .i64 k] W fun e w' => e = .returned (.tuple #[.int .i64 M, .bool true]) ∧ Fr [] W w' := by
  have := fWhy_c v ys (flOf ys dfl) _ _ _ zs b _ k hk W h.flAt h.rbAt h.cok h.good
  rw [hM, Int.max_eq_left h0, decide_eq_true h0] at this
  exact this
theorem fi_mat {w W : World} {bF bR bC : Nat} {v vc vr vf : Value} {ys : List RuV} {dfl : Int} {zs : List ClV} {b : Rb} {ca cd at_ lv fw : Int} {M : Bool} (k : Nat) (hk : k < ys.length) (hM : mB b ⟨ca, cd, at_, lv, fw, false⟩ ys[k].x = M) (h : LwS w bF bR bC v ys dfl vc vr vf zs b ⟨ca, cd, at_, lv, fw, false⟩ W) :
    Calls Tryz.prog 34 #[.agg #[v, .int .i64 dfl], .agg #[vc, vr, vf], .agg #[.int .i64 ca, .int .i64 cd, .int .i64 at_, .int .i64 lv, .int .i64 fw, .bool false], .int .i64 k] W fun e w' => e = .returned (.tuple #[.bool M, .int .i64 0]) ∧ Fr [] W w' := by
  have := fMatches_c v ys (flOf ys dfl) _ _ _ zs b _ k hk W h.flAt h.rbAt h.cok h.good
  rw [hM] at this
  exact this

/-- What the changed filter has in common with the filter. -/
structure FiR (b : Rb) (c : Ca) (n : Nat) (da dfl' : Int) (l : List RuV) : Prop where
  none : ∀ j, (hj : j < l.length) → j < n → mB b c l[j].x = false
  le : n ≤ l.length
  ends : (n = l.length ∧ dfl' = da) ∨ ∃ h : n < l.length, mB b c l[n].x = true ∧ l[n].x.act = da
theorem FiR.act {b : Rb} {c : Ca} {n : Nat} {da dfl' : Int} {l : List RuV} (h : FiR b c n da dfl' l) : actOf b c (flOf l dfl') = da := by
  rcases h.ends with ⟨h1, h2⟩ | ⟨h1, h2, h3⟩
  · rw [act_none (f := flOf l dfl') fun x hx => by
      obtain ⟨y, hy, rfl⟩ := List.mem_map.1 hx
      obtain ⟨j, hj, rfl⟩ := List.getElem_of_mem hy
      exact h.none j hj (by omega)]
    exact h2
  · rw [act_at (f := flOf l dfl') (A := (l.take n).map (·.x)) (B := (l.drop (n + 1)).map (·.x)) (r := l[n].x) ?_ ?_ h2]
    · exact h3
    · show l.map (·.x) = _
      rw [← List.map_cons, ← List.map_append, ← List.drop_eq_getElem_cons h1, List.take_append_drop]
    · intro x hx
      obtain ⟨y, hy, rfl⟩ := List.mem_map.1 hx
      obtain ⟨j, hj, rfl⟩ := List.getElem_of_mem hy
      rw [List.length_take] at hj
      rw [List.getElem_take]
      exact h.none j (by omega) (by omega)
theorem FiR.erase {b : Rb} {c : Ca} {n k : Nat} {da dfl' : Int} {l : List RuV} (h : FiR b c n da dfl' l) (hk : k < n) : FiR b c (n - 1) da dfl' (l.eraseIdx k) := by
  have hle := h.le
  have hl : (l.eraseIdx k).length = l.length - 1 := by rw [List.length_eraseIdx, if_pos (by omega)]
  refine ⟨fun j hj hjn => ?_, by rw [hl]; omega, ?_⟩
  · rw [List.getElem_eraseIdx]
    split
    · exact h.none j (by omega) (by omega)
    · exact h.none (j + 1) (by omega) (by omega)
  · rcases h.ends with ⟨h1, h2⟩ | ⟨h1, h2, h3⟩
    · exact .inl ⟨by rw [hl]; omega, h2⟩
    · refine .inr ⟨by rw [hl]; omega, ?_⟩
      have e : (l.eraseIdx k)[n - 1]'(by rw [hl]; omega) = l[n] := by
        rw [List.getElem_eraseIdx]
        rw [dif_neg (by omega)]
        congr 1
        omega
      rw [e]
      exact ⟨h2, h3⟩
/-- A rule behind the one that counts is changed. -/
theorem FiR.set {b : Rb} {c : Ca} {n i : Nat} {da dfl' : Int} {l : List RuV} {y : RuV} (h : FiR b c n da dfl' l) (hi : n < i) : FiR b c n da dfl' (l.set i y) := by
  refine ⟨fun j hj hjn => ?_, by rw [List.length_set]; exact h.le, ?_⟩
  · rw [List.getElem_set_ne (by omega)]
    exact h.none j (by simpa using hj) hjn
  · rcases h.ends with ⟨h1, h2⟩ | ⟨h1, h2⟩
    · exact .inl ⟨by rw [List.length_set]; exact h1, h2⟩
    · refine .inr ⟨by rw [List.length_set]; exact h1, ?_⟩
      rw [List.getElem_set_ne (by omega)]
      exact h2
theorem FiR.dfl {b : Rb} {c : Ca} {n : Nat} {da d1 d2 : Int} {l : List RuV} (h : FiR b c n da d1 l) (hn : n < l.length) : FiR b c n da d2 l := by
  refine ⟨h.none, h.le, ?_⟩
  rcases h.ends with ⟨h1, _⟩ | h1
  · omega
  · exact .inr h1
theorem FiR.of_eq {b : Rb} {c : Ca} {n : Nat} {da dfl' : Int} {l m : List RuV} (h : FiR b c n da dfl' l) (he : m.map (·.x) = l.map (·.x)) : FiR b c n da dfl' m := by
  have hl : m.length = l.length := by have := congrArg List.length he; simpa using this
  have key : ∀ j (h1 : j < m.length) (h2 : j < l.length), m[j].x = l[j].x := fun j h1 h2 => by
    have : (m.map (·.x))[j]? = (l.map (·.x))[j]? := by rw [he]
    simpa [h1, h2] using this
  refine ⟨fun j hj hjn => by rw [key j hj (by omega)]; exact h.none j (by omega) hjn, by rw [hl]; exact h.le, ?_⟩
  rcases h.ends with ⟨h1, h2⟩ | ⟨h1, h2, h3⟩
  · exact .inl ⟨by rw [hl]; exact h1, h2⟩
  · exact .inr ⟨by rw [hl]; exact h1, by rw [key n (by omega) h1]; exact h2, by rw [key n (by omega) h1]; exact h3⟩
/-- A rule is stored. -/
theorem FlOwn.putRu {N : Nat} {W : World} {g cap : Nat} {ys : List RuV} {i : Nat} {a : Int} (h : FlOwn N W (.slice (some ⟨g, 0, none⟩) ys.length cap) ys) (hi : i < ys.length) :
    FlOwn N ((W.setCell ⟨g, i * 2, none⟩ (.slice none 0 0)).setCell ⟨g, i * 2 + 1, none⟩ (.int .i64 a)) (.slice (some ⟨g, 0, none⟩) ys.length cap) (ys.set i ⟨⟨[], a⟩, .slice none 0 0⟩) ∧ N ≤ g := by
  have h0 := row_setC ruC_len rfl h.row i 0 ⟨⟨[], ys[i].x.act⟩, .slice none 0 0⟩ (.slice none 0 0) hi (by omega) rfl
  have h1 := row_setC ruC_len (by simp) h0 i 1 ⟨⟨[], a⟩, .slice none 0 0⟩ (.int .i64 a) (by simpa using hi) (by omega) (by rw [List.getElem_set_self]; rfl)
  simp only [List.set_set, Nat.add_zero] at h1
  have hf : Fr [g] W ((W.setCell ⟨g, i * 2, none⟩ (.slice none 0 0)).setCell ⟨g, i * 2 + 1, none⟩ (.int .i64 a)) := (Fr.setCell _ _ (by simp)).trans (Fr.setCell _ _ (by simp))
  have hm : ∀ y, y ∈ ys.set i ⟨⟨[], a⟩, .slice none 0 0⟩ → y ∈ ys ∨ y = ⟨⟨[], a⟩, .slice none 0 0⟩ := fun y hy => List.mem_or_eq_of_mem_set hy
  refine ⟨{
    row := by rw [List.length_set]; exact h1
    cds := fun y hy => by
      rcases hm y hy with hy | rfl
      · exact row_fr (h.cds y hy) hf (fun q hq hm2 => by
          rw [List.mem_singleton] at hm2; subst hm2
          exact row_apart (h.cds y hy) h.row (by decide) hq rfl)
      · exact ⟨rfl, .inl ⟨rfl, rfl⟩⟩
    newR := h.newR
    newC := fun y hy q hq => by
      rcases hm y hy with hy | rfl
      · exact h.newC y hy q hq
      · cases hq
    apart := by
      rw [List.pairwise_iff_getElem]
      intro a2 b2 ha hb hab q hq
      rw [List.getElem_set] at hq ⊢
      split at hq
      · cases hq
      · split
        · intro h5; cases h5
        · exact List.pairwise_iff_getElem.1 h.apart a2 b2 (by simpa using ha) (by simpa using hb) hab q hq }, h.newR g rfl⟩
theorem DyS.putRu {w W : World} {bF g cap : Nat} {ys : List RuV} {dfl a : Int} {i : Nat} (h : DyS w bF (.slice (some ⟨g, 0, none⟩) ys.length cap) ys dfl W) (hi : i < ys.length) (ha : actB a = true) :
    DyS w bF (.slice (some ⟨g, 0, none⟩) ys.length cap) (ys.set i ⟨⟨[], a⟩, .slice none 0 0⟩) dfl ((W.setCell ⟨g, i * 2, none⟩ (.slice none 0 0)).setCell ⟨g, i * 2 + 1, none⟩ (.int .i64 a)) := by
  obtain ⟨ho, hg⟩ := h.own.putRu (a := a) hi
  have hf : Fr [g] W ((W.setCell ⟨g, i * 2, none⟩ (.slice none 0 0)).setCell ⟨g, i * 2 + 1, none⟩ (.int .i64 a)) := (Fr.setCell _ _ (by simp)).trans (Fr.setCell _ _ (by simp))
  refine ⟨h.fr.step hf (fun q hq => by rw [List.mem_singleton] at hq; subst hq; exact .inr hg), hf.keep h.fbox (fun hm => ?_), ho, ⟨fun z hz => ?_, fun z hz => ?_⟩, by simpa using h.len, h.adfl⟩
  · rw [List.mem_singleton] at hm; subst hm
    exact row_box h.own.row h.fbox (by decide) rfl
  · rcases List.mem_or_eq_of_mem_set hz with hz | rfl
    · exact h.ok.act z hz
    · exact ha
  · rcases List.mem_or_eq_of_mem_set hz with hz | rfl
    · exact h.ok.cds z hz
    · exact ⟨by simp, fun x hx => by cases hx⟩
theorem DyS.putDfl {w W : World} {bF : Nat} {v : Value} {ys : List RuV} {dfl a : Int} (h : DyS w bF v ys dfl W) (hb : w.heap.size ≤ bF) (ha : actB a = true) : DyS w bF v ys a (W.setCell ⟨bF, 1, none⟩ (.int .i64 a)) := by
  have hf : Fr [bF] W (W.setCell ⟨bF, 1, none⟩ (.int .i64 a)) := Fr.setCell _ _ (by simp)
  exact ⟨h.fr.step hf (fun q hq => by rw [List.mem_singleton] at hq; subst hq; exact .inr hb), heap_setCell_same (i := 1) _ h.fbox, h.own.box h.fbox (by decide) (by decide) hf, h.ok, h.len, ha⟩

/-- The other filter, as Decide reads it. -/
structure FeS (w : World) (bF : Nat) (b : Rb) (c : Ca) (da : Int) (v : Value) (l : List RuV) (d : Int) (W : World) : Prop where
  fr : Fr [] w W
  fbox : W.heap[bF]? = some (.cells #[v, .int .i64 d] 65 (0, 0))
  fl : FlAt W v l (flOf l d)
  good : flB (flOf l d) = true
  act : actOf b c (flOf l d) = da
theorem FeS.same {w W W' : World} {bF : Nat} {b : Rb} {c : Ca} {da d : Int} {v : Value} {l : List RuV} (h : FeS w bF b c da v l d W) (hf : Fr [] W W') : FeS w bF b c da v l d W' := ⟨h.fr.trans hf, hf.keep h.fbox (by simp), h.fl.same hf, h.good, h.act⟩
theorem DyS.fe {w W : World} {bF n : Nat} {v : Value} {l : List RuV} {d da : Int} {b : Rb} {c : Ca} (h : DyS w bF v l d W) (hr : FiR b c n da d l) : FeS w bF b c da v l d W := ⟨h.fr, h.fbox, h.flAt, h.flB, hr.act⟩
theorem flat_takeR (l : List RuV) (k : Nat) : (l.flatMap ruC).take (k * 2) = (l.take k).flatMap ruC := by
  induction l generalizing k with
  | nil => simp
  | cons x l ih =>
    cases k with
    | zero => simp
    | succ k =>
      rw [List.flatMap_cons, List.take_succ_cons, List.flatMap_cons, Nat.succ_mul, ← ih k]
      rw [show k * 2 + 2 = (ruC x).length + k * 2 by rw [ruC_len]; omega, List.take_length_add_append]
theorem flat_dropR (l : List RuV) (k n : Nat) (hn : l.length = n) : ((l.flatMap ruC).drop ((k + 1) * 2)).take ((n - (k + 1)) * 2) = (l.drop (k + 1)).flatMap ruC := by
  have e : (l.flatMap ruC).drop ((k + 1) * 2) = (l.drop (k + 1)).flatMap ruC := by
    have h1 : l.flatMap ruC = (l.take (k + 1)).flatMap ruC ++ (l.drop (k + 1)).flatMap ruC := by rw [← List.flatMap_append, List.take_append_drop]
    rcases Nat.lt_or_ge l.length (k + 1) with hlt | hge
    · rw [List.drop_of_length_le (by rw [flat_len ruC_len]; omega), List.drop_of_length_le (by omega)]; rfl
    · rw [h1, List.drop_append_of_le_length (by rw [flat_len ruC_len]; simp; omega), List.drop_of_length_le (by rw [flat_len ruC_len]; simp; omega)]; simp
  rw [e, List.take_of_length_le (by rw [flat_len ruC_len]; simp; omega)]
theorem erase_flatR (l : List RuV) (k : Nat) : (l.eraseIdx k).flatMap ruC = (l.take k).flatMap ruC ++ (l.drop (k + 1)).flatMap ruC := by
  rw [List.eraseIdx_eq_take_drop_succ, List.flatMap_append]
theorem mem_erase {α : Type} {l : List α} {k : Nat} {y : α} (h : y ∈ l.eraseIdx k) : y ∈ l := by
  rw [List.eraseIdx_eq_take_drop_succ] at h
  rcases List.mem_append.1 h with h | h
  · exact List.mem_of_mem_take h
  · exact List.mem_of_mem_drop h
/-- The slice without one rule, and the store of it. -/
theorem DyS.drop {w W W1 : World} {bF k n : Nat} {v v2 : Value} {l : List RuV} {d da : Int} {b : Rb} {c : Ca} {S : List Nat} (h : DyS w bF v l d W) (hr : FiR b c n da d l) (hk : k < n) (hf : Fr S W W1) (hS : ∀ q, q ∈ S → w.heap.size ≤ q ∧ q ≠ bF ∧ ∀ y, y ∈ l → y.v.ownBlock ≠ some q) (hb : w.heap.size ≤ bF)
    (hs : Sl W1 v2 (l.eraseIdx k).length ((l.eraseIdx k).flatMap ruC)) (hv : v2.ownBlock ≠ some bF) :
    W1.heap[bF]? = some (.cells #[v, .int .i64 d] 65 (0, 0)) ∧ FeS w bF b c da v2 (l.eraseIdx k) d (W1.setCell ⟨bF, 0, none⟩ v2) := by
  have hbox := hf.keep h.fbox (fun hm => (hS _ hm).2.1 rfl)
  have hsc : Fr [bF] W1 (W1.setCell ⟨bF, 0, none⟩ v2) := Fr.setCell _ _ (by simp)
  have hok : RusOk (l.eraseIdx k) := ⟨fun y hy => h.ok.act y (mem_erase hy), fun y hy => h.ok.cds y (mem_erase hy)⟩
  have hlen : (l.eraseIdx k).length ≤ 8 := by
    have := h.len
    rw [List.length_eraseIdx]
    split <;> omega
  refine ⟨hbox, (h.fr.step hf (fun q hq => .inr (hS q hq).1)).step hsc (fun q hq => by rw [List.mem_singleton] at hq; subst hq; exact .inr hb), heap_setCell_same (i := 0) _ hbox, ?_, hok.flB (by omega) h.adfl, (hr.erase hk).act⟩
  refine ⟨rfl, hs.fr hsc (fun g hg hm => by rw [List.mem_singleton] at hm; subst hm; exact hv hg), fun y hy => ?_, fun y hy => ⟨actB_i64 (hok.act y hy), fun x hx => ((hok.cds y hy).2 x hx).2⟩, actB_i64 h.adfl⟩
  have hrow := h.own.cds y (mem_erase hy)
  have h1 := row_fr hrow hf (fun g hg hm => (hS g hm).2.2 y (mem_erase hy) hg)
  exact (sl_of_row h1).fr hsc (fun g hg hm => by
    rw [List.mem_singleton] at hm; subst hm
    exact row_box h1 hbox (by decide) hg)

theorem fe_dec {w W : World} {bF : Nat} {v vc vr vf : Value} {l : List RuV} {d da : Int} {zs : List ClV} {b : Rb} {ca cd at_ lv fw : Int} (h : FeS w bF b ⟨ca, cd, at_, lv, fw, false⟩ da v l d W) (hr : RbAt W vc vr vf zs b) (hm : MadeOk b) (hc : CaOk ⟨ca, cd, at_, lv, fw, false⟩) (hcb : caB ⟨ca, cd, at_, lv, fw, false⟩ = true) :
    Calls Tryz.prog 31 #[.agg #[v, .int .i64 d], .agg #[vc, vr, vf], .agg #[.int .i64 ca, .int .i64 cd, .int .i64 at_, .int .i64 lv, .int .i64 fw, .bool false]] W fun e w' => Fr [] W w' ∧ ∃ r aF nF pF aP nP pP, e = .returned (.tuple #[.agg #[.int .i64 da, .int .i64 r, .slice aF nF pF, .slice aP nP pP], .int .i64 0]) := by
  have hg := goodF_of h.good hm hcb
  refine (decF_c h.fl hr hc hg rfl).mono ?_
  rintro e w' ⟨f1, aF, pF, aP, pP, zp, he, _⟩
  have ha : (decF (flOf l d) b ⟨ca, cd, at_, lv, fw, false⟩).act = da := by rw [(decF_eq hg rfl).1, h.act]
  rw [ha] at he
  exact ⟨f1, _, aF, _, pF, aP, _, pP, he⟩

end Go.Proofs.YtkopnooajikpmaaGreat
