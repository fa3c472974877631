/-
  A filter that is changed in place: a condition, a rule.
-/
import Derived.Test.YtkopnooajikpmaaGreatQFlL
namespace Go.Proofs.YtkopnooajikpmaaGreat
open Go.RowKit Go.Lib

theorem flat_setC {α : Type} {enc : α → List Value} {c : Nat} (hc : ∀ x, (enc x).length = c) : ∀ (l : List α) (k j : Nat) (x : α) (u : Value) (hk : k < l.length), j < c → (enc l[k]).set j u = enc x → (l.flatMap enc).set (k * c + j) u = (l.set k x).flatMap enc
  | [], k, _, _, _, hk, _, _ => by simp at hk
  | y :: l, 0, j, x, u, _, hj, hx => by
    simp only [List.getElem_cons_zero] at hx
    simp only [List.flatMap_cons, List.set_cons_zero, Nat.zero_mul, Nat.zero_add]
    rw [List.set_append_left _ _ (by rw [hc]; exact hj), hx]
  | y :: l, k + 1, j, x, u, hk, hj, hx => by
    simp only [List.getElem_cons_succ] at hx
    simp only [List.flatMap_cons, List.set_cons_succ]
    rw [List.set_append_right _ _ (by rw [hc, Nat.succ_mul]; omega), ← flat_setC hc l k j x u (by simpa using hk) hj hx]
    congr 2
    rw [hc, Nat.succ_mul]; omega
theorem row_setC {α : Type} {enc : α → List Value} {c : Nat} (hc : ∀ x, (enc x).length = c) {w : World} {e : TypeId} {g cap n : Nat} {l : List α} (_hn : n = l.length) (h : w.ownsRow 0 e c (.slice (some ⟨g, 0, none⟩) n cap) n (l.flatMap enc)) (k j : Nat) (x : α) (u : Value) (hk : k < l.length) (hj : j < c) (hx : (enc l[k]).set j u = enc x) :
    (w.setCell ⟨g, k * c + j, none⟩ u).ownsRow 0 e c (.slice (some ⟨g, 0, none⟩) n cap) n ((l.set k x).flatMap enc) := by
  have h1 := row_set h (k * c + j) u (by
    rw [flat_len hc]
    have : (k + 1) * c ≤ l.length * c := Nat.mul_le_mul_right c hk
    rw [Nat.succ_mul] at this
    omega)
  rw [flat_setC hc l k j x u hk hj hx] at h1
  exact h1
theorem row_frz {w : World} {e : TypeId} {size g n m cap : Nat} {xs : List Value} (h : w.ownsRow 0 e size (.slice (some ⟨g, 0, none⟩) m cap) n xs) (i : Nat) : w.frozen? ⟨g, i, none⟩ = false := by
  rcases h.2 with ⟨h0, _⟩ | ⟨g', cap', cur, hv, r0, hg, _⟩
  · cases h0
  · simp only [Value.slice.injEq, Option.some.injEq, Addr.mk.injEq] at hv
    obtain ⟨⟨rfl, _⟩, _⟩ := hv
    exact free_of_blk hg i
theorem set_same {α : Type} : ∀ (l : List α) (m : Nat) (u : α), l[m]? = some u → l.set m u = l
  | [], _, _, h => by simp at h
  | y :: l, 0, u, h => by simp at h; simp [h]
  | y :: l, m + 1, u, h => by simp only [List.getElem?_cons_succ] at h; rw [List.set_cons_succ, set_same l m u h]
theorem ruC_len : ∀ y : RuV, (ruC y).length = 2 := fun _ => rfl
theorem cdC_len4 : ∀ x : Cd, (cdC x).length = 4 := fun _ => rfl
abbrev cdPut (w : World) (g k : Nat) (x : Cd) : World := (((w.setCell ⟨g, k * 4, none⟩ (.int .i64 x.kind)).setCell ⟨g, k * 4 + 1, none⟩ (.int .i64 x.lo)).setCell ⟨g, k * 4 + 2, none⟩ (.int .i64 x.hi)).setCell ⟨g, k * 4 + 3, none⟩ (.bool x.neg)
theorem cdPut_fr (w : World) (g k : Nat) (x : Cd) : Fr [g] w (cdPut w g k x) := (((Fr.setCell _ _ (by simp)).trans (Fr.setCell _ _ (by simp))).trans (Fr.setCell _ _ (by simp))).trans (Fr.setCell _ _ (by simp))
theorem cdRow_put {w : World} {g cap : Nat} {l : List Cd} (h : CdRow w (.slice (some ⟨g, 0, none⟩) l.length cap) l) (k : Nat) (x : Cd) (hk : k < l.length) : CdRow (cdPut w g k x) (.slice (some ⟨g, 0, none⟩) l.length cap) (l.set k x) := by
  have h0 := row_setC cdC_len4 rfl h k 0 ⟨x.kind, l[k].lo, l[k].hi, l[k].neg⟩ (.int .i64 x.kind) hk (by omega) rfl
  have h1 := row_setC cdC_len4 (by simp) h0 k 1 ⟨x.kind, x.lo, l[k].hi, l[k].neg⟩ (.int .i64 x.lo) (by simpa using hk) (by omega) (by rw [List.getElem_set_self]; rfl)
  have h2 := row_setC cdC_len4 (by simp) h1 k 2 ⟨x.kind, x.lo, x.hi, l[k].neg⟩ (.int .i64 x.hi) (by simpa using hk) (by omega) (by rw [List.getElem_set_self]; rfl)
  have h3 := row_setC cdC_len4 (by simp) h2 k 3 x (.bool x.neg) (by simpa using hk) (by omega) (by rw [List.getElem_set_self]; rfl)
  simp only [List.set_set, Nat.add_zero] at h3
  unfold CdRow
  rw [List.length_set]
  exact h3

/-- A list of rules in which one has other conditions, of the same number, at the same place. -/
abbrev ysSet (ys : List RuV) (i : Nat) (hi : i < ys.length) (l : List Cd) : List RuV := ys.set i ⟨⟨l, ys[i].x.act⟩, ys[i].v⟩
theorem FlOwn.putCd {N : Nat} {W : World} {v : Value} {ys : List RuV} {i k g cap : Nat} {l : List Cd} {act : Int} {x : Cd} (h : FlOwn N W v ys) (hi : i < ys.length) (hy : ys[i] = ⟨⟨l, act⟩, .slice (some ⟨g, 0, none⟩) l.length cap⟩) (hk : k < l.length) :
    FlOwn N (cdPut W g k x) v (ys.set i ⟨⟨l.set k x, act⟩, .slice (some ⟨g, 0, none⟩) l.length cap⟩) ∧ N ≤ g := by
  have hm : ys[i] ∈ ys := List.getElem_mem hi
  have hrow := h.cds _ hm
  have hN := h.newC _ hm g (by rw [hy]; rfl)
  have hap : ∀ j (hj : j < ys.length), j ≠ i → ∀ q, ys[j].v.ownBlock = some q → q ≠ g := by
    intro j hj hne q hq he
    subst he
    have hp := List.pairwise_iff_getElem.1 h.apart
    rcases Nat.lt_or_gt_of_ne hne with hlt | hlt
    · exact hp j i hj hi hlt q hq (by rw [hy]; rfl)
    · exact hp i j hi hj hlt q (by rw [hy]; rfl) hq
  rw [hy] at hrow
  simp only at hrow
  have hput := cdRow_put (x := x) hrow k hk
  have hf := cdPut_fr W g k x
  have hrb : ∀ q, v.ownBlock = some q → q ∉ [g] := fun q hq hm2 => by
    rw [List.mem_singleton] at hm2; subst hm2
    exact row_apart h.row hrow (by decide) hq rfl
  refine ⟨?_, hN⟩
  have hC : ∀ j (hj : j < (ys.set i ⟨⟨l.set k x, act⟩, .slice (some ⟨g, 0, none⟩) l.length cap⟩).length), (ys.set i ⟨⟨l.set k x, act⟩, .slice (some ⟨g, 0, none⟩) l.length cap⟩)[j].v = (ys[j]'(by simpa using hj)).v := by
    intro j hj
    rw [List.getElem_set]
    split
    · next he => subst he; rw [hy]
    · rfl
  exact {
    row := by
      have e : (ys.set i ⟨⟨l.set k x, act⟩, .slice (some ⟨g, 0, none⟩) l.length cap⟩).flatMap ruC = ys.flatMap ruC := by
        have := flat_setC ruC_len ys i 0 ⟨⟨l.set k x, act⟩, .slice (some ⟨g, 0, none⟩) l.length cap⟩ (.slice (some ⟨g, 0, none⟩) l.length cap) hi (by omega) (by rw [hy]; rfl)
        rw [← this]
        refine set_same _ _ _ ?_
        rw [flat_get ruC_len ys i hi 0 (by omega), hy]
        rfl
      rw [e, List.length_set]
      exact row_fr h.row hf hrb
    cds := fun y hy2 => by
      obtain ⟨j, hj, rfl⟩ := List.getElem_of_mem hy2
      have hj2 : j < ys.length := by simpa using hj
      rw [List.getElem_set]
      split
      · exact hput
      · next hne => exact row_fr (h.cds _ (List.getElem_mem hj2)) hf (fun q hq hm2 => by rw [List.mem_singleton] at hm2; exact hap j hj2 (Ne.symm hne) q hq hm2)
    newR := h.newR
    newC := fun y hy2 q hq => by
      obtain ⟨j, hj, rfl⟩ := List.getElem_of_mem hy2
      rw [hC j hj] at hq
      exact h.newC _ (List.getElem_mem _) q hq
    apart := by
      rw [List.pairwise_iff_getElem]
      intro a b2 ha hb hab q hq
      rw [hC a ha] at hq
      rw [hC b2 hb]
      exact List.pairwise_iff_getElem.1 h.apart a b2 (by simpa using ha) (by simpa using hb) hab q hq }
theorem RusOk.putCd {ys : List RuV} {i k : Nat} {l : List Cd} {act : Int} {u : Value} {x : Cd} (h : RusOk ys) (hi : i < ys.length) (hy : ys[i] = ⟨⟨l, act⟩, u⟩) (hx : cdB x = true ∧ CdOk x) : RusOk (ys.set i ⟨⟨l.set k x, act⟩, u⟩) := by
  have hm : ys[i] ∈ ys := List.getElem_mem hi
  constructor
  · intro z hz
    rcases List.mem_or_eq_of_mem_set hz with hz | rfl
    · exact h.act z hz
    · have := h.act _ hm; rw [hy] at this; exact this
  · intro z hz
    rcases List.mem_or_eq_of_mem_set hz with hz | rfl
    · exact h.cds z hz
    · have := h.cds _ hm
      rw [hy] at this
      refine ⟨by simpa using this.1, fun y hy2 => ?_⟩
      rcases List.mem_or_eq_of_mem_set hy2 with hy2 | rfl
      · exact this.2 y hy2
      · exact hx

/-- The filter of FilterDays, being made mute. -/
structure DyS (w : World) (bF : Nat) (v : Value) (ys : List RuV) (dfl : Int) (W : World) : Prop where
  fr : Fr [] w W
  fbox : W.heap[bF]? = some (.cells #[v, .int .i64 dfl] 65 (0, 0))
  own : FlOwn w.heap.size W v ys
  ok : RusOk ys
  len : ys.length ≤ 8
  adfl : actB dfl = true
theorem DyS.same {w W W' : World} {bF : Nat} {v : Value} {ys : List RuV} {dfl : Int} (h : DyS w bF v ys dfl W) (hf : Fr [] W W') : DyS w bF v ys dfl W' := ⟨h.fr.trans hf, hf.keep h.fbox (by simp), h.own.same hf, h.ok, h.len, h.adfl⟩
theorem DyS.put {w W : World} {bF : Nat} {v : Value} {ys : List RuV} {dfl : Int} {i k g cap : Nat} {l : List Cd} {act : Int} {x : Cd} (h : DyS w bF v ys dfl W) (hi : i < ys.length) (hy : ys[i] = ⟨⟨l, act⟩, .slice (some ⟨g, 0, none⟩) l.length cap⟩) (hk : k < l.length) (hx : cdB x = true ∧ CdOk x) :
    DyS w bF v (ys.set i ⟨⟨l.set k x, act⟩, .slice (some ⟨g, 0, none⟩) l.length cap⟩) dfl (cdPut W g k x) := by
  obtain ⟨ho, hg⟩ := h.own.putCd (x := x) hi hy hk
  have hf := cdPut_fr W g k x
  have hrow := h.own.cds _ (List.getElem_mem hi)
  rw [hy] at hrow
  refine ⟨h.fr.step hf (fun q hq => by rw [List.mem_singleton] at hq; subst hq; exact .inr hg), hf.keep h.fbox (fun hm => ?_), ho, h.ok.putCd hi hy hx, by simpa using h.len, h.adfl⟩
  rw [List.mem_singleton] at hm; subst hm
  exact row_box hrow h.fbox (by decide) rfl
theorem DyS.flAt {w W : World} {bF : Nat} {v : Value} {ys : List RuV} {dfl : Int} (h : DyS w bF v ys dfl W) : FlAt W v ys (flOf ys dfl) := h.own.at_ h.ok (actB_i64 h.adfl)
theorem DyS.flB {w W : World} {bF : Nat} {v : Value} {ys : List RuV} {dfl : Int} (h : DyS w bF v ys dfl W) : flB (flOf ys dfl) = true := h.ok.flB (by have := h.len; omega) h.adfl
/-- The first rules are mute, and the first conditions of the next one. -/
def MuteTo (ys : List RuV) (i k : Nat) : Prop := ∀ j, (hj : j < ys.length) → ∀ m, (hm : m < ys[j].x.cds.length) → (j < i ∨ j = i ∧ m < k) → (ys[j].x.cds[m]).kind ≠ 5
theorem MuteTo.start (ys : List RuV) : MuteTo ys 0 0 := fun j hj m hm h => by omega
theorem MuteTo.next {ys : List RuV} {i : Nat} (hi : i < ys.length) (h : MuteTo ys i ys[i].x.cds.length) : MuteTo ys (i + 1) 0 := fun j hj m hm hh => by
  rcases Nat.lt_or_ge j i with hlt | hge
  · exact h j hj m hm (.inl hlt)
  · obtain rfl : j = i := by omega
    exact h j hj m hm (.inr ⟨rfl, hm⟩)
theorem MuteTo.keep {ys : List RuV} {i k : Nat} (hi : i < ys.length) (hk : k < ys[i].x.cds.length) (h : MuteTo ys i k) (hx : (ys[i].x.cds[k]).kind ≠ 5) : MuteTo ys i (k + 1) := fun j hj m hm hh => by
  rcases Nat.lt_or_ge j i with hlt | hge
  · exact h j hj m hm (.inl hlt)
  · obtain rfl : j = i := by omega
    rcases Nat.lt_or_ge m k with hlt | hge
    · exact h j hj m hm (.inr ⟨rfl, hlt⟩)
    · obtain rfl : m = k := by omega
      exact hx
theorem MuteTo.put {ys : List RuV} {i k : Nat} {l : List Cd} {act : Int} {u : Value} {x : Cd} (hi : i < ys.length) (hy : ys[i] = ⟨⟨l, act⟩, u⟩) (h : MuteTo ys i k) (hx : x.kind ≠ 5) : MuteTo (ys.set i ⟨⟨l.set k x, act⟩, u⟩) i (k + 1) := fun j hj m hm hh => by
  have hj2 : j < ys.length := by simpa using hj
  rcases Nat.lt_or_ge j i with hlt | hge
  · have e : (ys.set i ⟨⟨l.set k x, act⟩, u⟩)[j] = ys[j] := List.getElem_set_ne (by omega) _
    have := h j hj2 m (by rw [e] at hm; exact hm) (.inl hlt)
    simp only [e]; exact this
  · obtain rfl : j = i := by omega
    have e : (ys.set j ⟨⟨l.set k x, act⟩, u⟩)[j] = ⟨⟨l.set k x, act⟩, u⟩ := List.getElem_set_self _
    simp only [e]
    simp only [e] at hm
    have hm2 : m < l.length := by simpa using hm
    by_cases hmk : m = k
    · subst hmk
      rw [List.getElem_set_self]; exact hx
    · rw [List.getElem_set_ne (Ne.symm hmk)]
      have := h j hj2 m (by rw [hy]; exact hm2) (.inr ⟨rfl, by omega⟩)
      simp only [hy] at this
      exact this
theorem MuteTo.mute {ys : List RuV} {dfl : Int} (h : MuteTo ys ys.length 0) : Mute (flOf ys dfl) := fun r hr x hx => by
  obtain ⟨y, hy, rfl⟩ := List.mem_map.1 hr
  obtain ⟨j, hj, rfl⟩ := List.getElem_of_mem hy
  obtain ⟨m, hm, rfl⟩ := List.getElem_of_mem hx
  exact h j hj m hm (.inl hj)
theorem callC_at (a b c d e : Int) : 0 ≤ (callC a b c d e).at_ ∧ (callC a b c d e).at_ ≤ 169299 := by
  have b3 := pickI_bound c 100 (by omega)
  have b4 := pickI_bound (c.tdiv 100) 48 (by omega)
  simp only [callC]; omega
theorem caB_later {ca cd at_ lv fw p : Int} (h : caB ⟨ca, cd, at_, lv, fw, false⟩ = true) (h1 : 0 ≤ at_ ∧ at_ ≤ 169299) (h2 : 0 ≤ p ∧ p < 100) : caB ⟨ca, cd, at_ + 86400 * p, lv, fw, false⟩ = true := by
  simp only [caB, Bool.and_eq_true] at h ⊢
  exact ⟨⟨⟨⟨h.1.1.1.1, h.1.1.1.2⟩, isInB_iff.2 (by omega)⟩, h.1.2⟩, h.2⟩
theorem day_mod (a p : Int) : a % 86400 = (a + 86400 * p) % 86400 := by omega

theorem dy_good {f : Fl} {c : Ca} (h1 : flB f = true) (h3 : caB c = true) : goodF f rb0 c = true := by
  unfold goodF
  rw [h1, h3]
  rfl
theorem days_plain {f : Fl} {c c' : Ca} (h1 : c.caller = c'.caller) (h2 : c.level = c'.level) (h3 : c.fwd = c'.fwd) (h4 : c.at_ % 86400 = c'.at_ % 86400) (h5 : c.back = false) (h6 : c'.back = false) (h : Mute f) (hg : goodF f rb0 c' = true) :
    ∃ a r F, decF f rb0 c = ⟨a, r, F, []⟩ ∧ decF f rb0 c' = ⟨a, r, F, []⟩ ∧ checkF f rb0 c' ⟨a, r, F, []⟩ = true ∧ F.length ≤ f.rus.length := by
  obtain ⟨e1, e2⟩ := decF_days (b := rb0) h1 h2 h3 h4 h5 h6 h
  obtain ⟨_, _, e3, _, e4, e5⟩ := decF_eq hg h6
  rw [← e1] at e3 e4 e5
  obtain ⟨⟨a, r, F, P⟩, hd⟩ : ∃ D, decF f rb0 c = D := ⟨_, rfl⟩
  rw [hd] at e1 e2 e3 e4 e5
  simp only at e2 e4 e5
  subst e2
  refine ⟨a, r, F, hd, e1.symm, e3, ?_⟩
  by_cases hr : r = -1
  · exact Nat.le_of_eq (e4 hr)
  · exact Nat.le_of_lt (e5 hr).2
theorem dy_dec {f : Fl} {c : Ca} {a r : Int} {F : List Int} {v : Value} {ys : List RuV} {W : World} (h : FlAt W v ys f) (hc : CaOk c) (hg : goodF f rb0 c = true) (hd : decF f rb0 c = ⟨a, r, F, []⟩) :
    Calls Tryz.prog 31 #[.agg #[v, .int .i64 f.dfl], .agg #[.slice none 0 0, .slice none 0 0, .slice none 0 0], .agg #[.int .i64 c.caller, .int .i64 c.called, .int .i64 c.at_, .int .i64 c.level, .int .i64 c.fwd, .bool c.back]] W fun e w' => Fr [] W w' ∧ ∃ aF' pF' aP' pP', e = .returned (.tuple #[.agg #[.int .i64 a, .int .i64 r, .slice aF' F.length pF', .slice aP' 0 pP'], .int .i64 0]) ∧ w'.ownsRow 0 3 1 (.slice aF' F.length pF') F.length (intC F) ∧ PrAt w' (.slice aP' 0 pP') [] := by
  refine (decF_c h (rb0_at W) hc hg hd).mono ?_
  rintro e w' ⟨f1, aF, pF, aP, pP, zp, he, hd⟩
  obtain rfl : zp = [] := List.map_eq_nil_iff.1 hd.eq
  exact ⟨f1, aF, pF, aP, pP, he, hd.fails, hd.own.at_⟩
theorem dy_chk {f : Fl} {c : Ca} {a r : Int} {F : List Int} {v : Value} {ys : List RuV} {W : World} (h : FlAt W v ys f) (hc : CaOk c) (hg : goodF f rb0 c = true) (hk : checkF f rb0 c ⟨a, r, F, []⟩ = true) (aF aP : Option Addr) (pF pP : Nat) (hF : IntsAt W (.slice aF F.length pF) F) (hP : PrAt W (.slice aP 0 pP) []) (hl : F.length ≤ 100) :
    Calls Tryz.prog 32 #[.agg #[v, .int .i64 f.dfl], .agg #[.slice none 0 0, .slice none 0 0, .slice none 0 0], .agg #[.int .i64 c.caller, .int .i64 c.called, .int .i64 c.at_, .int .i64 c.level, .int .i64 c.fwd, .bool c.back], .agg #[.int .i64 a, .int .i64 r, .slice aF F.length pF, .slice aP 0 pP]] W fun e w' => e = .returned (.bool true) ∧ Fr [] W w' := by
  refine (fCheck_c v ys f _ _ _ [] rb0 c (.slice aF F.length pF) (.slice aP 0 pP) ⟨a, r, F, []⟩ [] W h (rb0_at _) hc hF hP rfl ⟨by show F.length ≤ 1000000; omega, by simp⟩).mono ?_
  rintro e w3 h3
  rw [hg, hk] at h3
  exact h3

end Go.Proofs.YtkopnooajikpmaaGreat
