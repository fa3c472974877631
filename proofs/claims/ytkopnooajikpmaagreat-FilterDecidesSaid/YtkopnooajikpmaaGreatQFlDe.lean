/-
  FilterDecides: the proofs of a decision are short; a filter, a rulebook and a call beside a box that is written; the beginning of a list.
-/
import Derived.Test.YtkopnooajikpmaaGreatQFlBd
import Derived.Test.YtkopnooajikpmaaGreatQFlKn
namespace Go.Proofs.YtkopnooajikpmaaGreat
open Go.RowKit Go.Lib

theorem prfs_short {b : Rb} {c : Ca} {x : Cd} {l : List Cd} (h : AskOk b c l) (hx : x ∈ l) : ∀ p, p ∈ prfsF b c x → p.length ≤ 20 := by
  intro p hp
  unfold prfsF at hp
  split at hp
  · rename_i hk
    rw [List.mem_singleton] at hp
    subst hp
    exact (decide_len (h x hx hk)).2
  · cases hp
theorem decGo_each {b : Rb} {c : Ca} {dfl : Int} : ∀ (l : List Ru) (i : Nat) (F : List Int) (P : List (List Fd)), (∀ r, r ∈ l → AskOk b c r.cds) → (∀ p, p ∈ P → p.length ≤ 20) → ∀ p, p ∈ (decGo b c dfl i F P l).prfs → p.length ≤ 20
  | [], i, F, P, _, hP => hP
  | r :: l, i, F, P, hA, hP => by
    unfold decGo
    cases hk : failK b c 0 r.cds with
    | none =>
      simp only
      intro p hp
      rcases List.mem_append.1 hp with hp | hp
      · exact hP p hp
      · obtain ⟨x, hx, hp⟩ := List.mem_flatMap.1 hp
        exact prfs_short (hA r (by simp)) hx p hp
    | some q =>
      simp only
      refine decGo_each l _ _ _ (fun r hr => hA r (by simp [hr])) fun p hp => ?_
      rcases List.mem_append.1 hp with hp | hp
      · exact hP p hp
      · obtain ⟨j, hj, _, h2, _⟩ := fail_some hk
        exact prfs_short (hA r (by simp)) (by rw [← h2]; exact List.getElem_mem hj) p hp
theorem decF_each {f : Fl} {b : Rb} {c : Ca} (hg : goodF f b c = true) (hb : c.back = false) : ∀ p, p ∈ (decF f b c).prfs → p.length ≤ 20 := by
  have hd : decF f b c = decGo b c f.dfl 0 [] [] f.rus := by unfold decF; rw [hb]; simp
  rw [hd]
  exact decGo_each _ _ _ _ (goodF_ask hg) (by simp)

/-- A box is written that is older than the rulebook. -/
theorem LwS.box {w W W' : World} {bF bR bC : Nat} {v vc vr vf : Value} {ys : List RuV} {dfl : Int} {zs : List ClV} {b : Rb} {c : Ca} {k : Nat} {cs : Array Value} {fz : Nat × Nat} (h : LwS w bF bR bC v ys dfl vc vr vf zs b c W)
    (hb : W.heap[k]? = some (.cells cs 62 fz)) (hw : w.heap.size ≤ k) (hr : RbOwn (k + 1) W vc vr vf zs b) (hf : Fr [k] W W') : LwS w bF bR bC v ys dfl vc vr vf zs b c W' := by
  have ne : ∀ {j : Nat} {ds : Array Value} {e : TypeId} {fy : Nat × Nat}, W.heap[j]? = some (.cells ds e fy) → 62 ≠ e → j ∉ [k] := fun hj he hm => by
    rw [List.mem_singleton] at hm
    subst hm
    rw [hb] at hj
    simp only [Option.some.injEq, Obj.cells.injEq] at hj
    exact he hj.2.1
  exact ⟨h.fr.step hf (fun i hi => by simp at hi; exact .inr (by omega)), hf.keep h.fbox (ne h.fbox (by decide)), hf.keep h.rbox (ne h.rbox (by decide)), hf.keep h.cbox (ne h.cbox (by decide)), h.own.box hb (by decide) (by decide) hf, h.ok, h.len, h.adfl,
    (hr.fr hf (fun g hg => by simp at hg; omega)).older (by omega), h.made, h.cok, h.cb, h.back⟩
/-- A decision's rows beside a box that is written. -/
theorem DnOwn.box {w W W' : World} {vF vP : Value} {x : Dn} {zs : List PrV} {k : Nat} {cs : Array Value} {fz : Nat × Nat} (h : DnOwn w W vF vP x zs) (hb : W.heap[k]? = some (.cells cs 62 fz)) (hf : Fr [k] W W') : DnOwn w W' vF vP x zs :=
  ⟨row_fr h.fails hf (fun g hg hm => by rw [List.mem_singleton] at hm; subst hm; exact row_box h.fails hb (by decide) hg), h.own.box hb (by decide) (by decide) hf, h.eq, h.newF, h.newP⟩
theorem DnOwn.dd {w W : World} {vF vP : Value} {x : Dn} {zs : List PrV} (h : DnOwn w W vF vP x zs) : DdAt W vF vP x.fails zs :=
  ⟨⟨sl_of_row h.fails, srcAt_of_row h.fails⟩, sl_of_row h.own.row, srcAt_of_row h.own.row, fun z hz => fdAt_of_row (h.own.fds z hz)⟩

theorem DdAt.pr {w : World} {vF vP : Value} {F : List Int} {zs : List PrV} (h : DdAt w vF vP F zs) : PrAt w vP zs := ⟨h.sl, fun z hz => (h.fds z hz).sl⟩

theorem Sl.cut {w : World} {a : Option Addr} {n cap : Nat} {cs : List Value} (h : Sl w (.slice a n cap) n cs) (m : Nat) (hm : m ≤ n) (ds : List Value) (hd : ∀ (j : Nat) (u : Value), ds[j]? = some u → cs[j]? = some u) : Sl w (.slice a m cap) m ds := by
  obtain ⟨a', cap', hv, h1, h2, h3⟩ := h
  cases hv
  refine ⟨_, _, rfl, by omega, h2, fun h0 => ?_⟩
  obtain ⟨b, off, hb, hc⟩ := h3 (by omega)
  exact ⟨b, off, hb, fun j u hu => hc j u (hd j u hu)⟩
theorem take_get {α : Type} {l : List α} {m j : Nat} {u : α} (h : (l.take m)[j]? = some u) : l[j]? = some u := by
  rw [List.getElem?_take] at h
  split at h
  · exact h
  · cases h
theorem ints_cut {w : World} {a : Option Addr} {cap : Nat} {F : List Int} (h : IntsAt w (.slice a F.length cap) F) (m : Nat) (hm : m ≤ F.length) : IntsAt w (.slice a m cap) (F.take m) := by
  have hl : (F.take m).length = m := by simp; omega
  show Sl w _ (F.take m).length _
  rw [hl]
  exact h.cut m hm _ fun j u hu => by rw [intC, List.map_take] at hu; exact take_get hu
theorem pr_cut {w : World} {a : Option Addr} {cap : Nat} {zs : List PrV} (h : PrAt w (.slice a zs.length cap) zs) (m : Nat) (hm : m ≤ zs.length) : PrAt w (.slice a m cap) (zs.take m) := by
  have hl : (zs.take m).length = m := by simp; omega
  refine ⟨?_, fun z hz => h.fds z (List.mem_of_mem_take hz)⟩
  rw [hl]
  exact h.sl.cut m hm _ fun j u hu => by rw [List.map_take] at hu; exact take_get hu

/-- Check of a decision that can be read: where it says yes, action and rule are the right ones. -/
theorem dec_chk {w W : World} {bF bR bC : Nat} {v vc vr vf : Value} {ys : List RuV} {dfl : Int} {zs : List ClV} {b : Rb} {ca cd at_ lv fw : Int} {da dr : Int} (h : LwS w bF bR bC v ys dfl vc vr vf zs b ⟨ca, cd, at_, lv, fw, false⟩ W) (e1 : da = actOf b ⟨ca, cd, at_, lv, fw, false⟩ (flOf ys dfl)) (e2 : dr = ruleOf b ⟨ca, cd, at_, lv, fw, false⟩ (flOf ys dfl))
    (xa xr : Int) (vF vP : Value) (F : List Int) (zp : List PrV) (hF : IntsAt W vF F) (hP : PrAt W vP zp) (hl : F.length ≤ 1000000 ∧ zp.length ≤ 1000000) :
    ∃ M : Bool, (M = true → xa = da ∧ xr = dr) ∧ Calls Tryz.prog 32 #[.agg #[v, .int .i64 dfl], .agg #[vc, vr, vf], .agg #[.int .i64 ca, .int .i64 cd, .int .i64 at_, .int .i64 lv, .int .i64 fw, .bool false], .agg #[.int .i64 xa, .int .i64 xr, vF, vP]] W fun e w' => e = .returned (.bool M) ∧ Fr [] W w' := by
  have hc := fCheck_c v ys (flOf ys dfl) vc vr vf zs b ⟨ca, cd, at_, lv, fw, false⟩ vF vP ⟨xa, xr, F, zp.map (·.l)⟩ zp W h.flAt h.rbAt h.cok hF hP rfl hl
  rw [h.good, Bool.true_and] at hc
  refine ⟨_, fun hM => ?_, hc⟩
  obtain ⟨h1, h2⟩ := check_same rfl hM
  exact ⟨h1.trans e1.symm, h2.trans e2.symm⟩

end Go.Proofs.YtkopnooajikpmaaGreat
