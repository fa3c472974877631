/-
  FilterKnown: the rulebook with what becomes known later, and facts about another.
-/
import Derived.Test.YtkopnooajikpmaaGreatQFlL
import Derived.Test.YtkopnooajikpmaaGreatQL8
namespace Go.Proofs.YtkopnooajikpmaaGreat
open Go.RowKit Go.Lib

/-- The rulebook under way in its box, and two spells. -/
structure KnS (w : World) (bM : Nat) (vc vr vf : Value) (zs : List ClV) (d : Rb) (A : Nat) (kf : Int) (W : World) : Prop where
  bx : BxS w bM vc vr vf zs d W
  sa : W.heap[A]? = some (.cells #[.int .i64 0, .int .i64 10000001] 86 (0, 0))
  sk : W.heap[A + 1]? = some (.cells #[.int .i64 kf, .int .i64 10000001] 86 (0, 0))
theorem KnS.same {w W W' : World} {bM A : Nat} {kf : Int} {vc vr vf : Value} {zs : List ClV} {d : Rb} (h : KnS w bM vc vr vf zs d A kf W) (hf : Fr [] W W') : KnS w bM vc vr vf zs d A kf W' := ⟨h.bx.same hf, hf.keep h.sa (by simp), hf.keep h.sk (by simp)⟩
theorem keep_sp {W W1 : World} {e : TypeId} {s n : Nat} {v v' : Value} {xs : List Value} {A b j : Nat} {a c : Value} {cs : Array Value} (hr : W.ownsRow 0 e s v n xs) (he : e ≠ 86) (hA : W.heap[A]? = some (.cells #[a, c] 86 (0, 0))) (hf : Fr v.ownBlock.toList W W1) (hb : W.heap[b]? = some (.cells cs 30 (0, 0))) :
    W1.heap[A]? = some (.cells #[a, c] 86 (0, 0)) ∧ (W1.setCell ⟨b, j, none⟩ v').heap[A]? = some (.cells #[a, c] 86 (0, 0)) := by
  have h1 := hf.keep hA (fun hm => row_box hr hA he (by simpa using hm))
  refine ⟨h1, heap_setCell_other _ h1 (fun hab => ?_)⟩
  simp only at hab
  subst hab
  rw [hA] at hb
  simp at hb
theorem faC_two (a b : Fa) : ([a, b] : List Fa).flatMap faC = faC a ++ faC b := by simp
theorem KnS.putFa {w W W1 : World} {bM A : Nat} {kf : Int} {vc vr vf v' : Value} {zs : List ClV} {d : Rb} {rs : List Fa} {n : Nat} {xs : List Value} (h : KnS w bM vc vr vf zs d A kf W) (hr : W1.ownsRow 0 88 6 v' n xs) (hn : n = (d.fas ++ rs).length) (hx : xs = (d.fas ++ rs).flatMap faC)
    (hf1 : Fr vf.ownBlock.toList W W1) (ho : v'.ownBlock = vf.ownBlock ∨ v'.ownBlock = some W.heap.size) : KnS w bM vc vr v' zs ⟨d.cls, d.rps, d.fas ++ rs⟩ A kf (W1.setCell ⟨bM, 2, none⟩ v') :=
  ⟨h.bx.putFa hr hn hx hf1 (own_new ho), (keep_sp h.bx.own.fas (by decide) h.sa hf1 h.bx.box).2, (keep_sp h.bx.own.fas (by decide) h.sk hf1 h.bx.box).2⟩
theorem KnS.putCl {w W W1 : World} {bM A : Nat} {kf : Int} {vc vr vf v' : Value} {zs : List ClV} {d : Rb} {x : Cl} {n : Nat} {xs : List Value} (h : KnS w bM vc vr vf zs d A kf W) (h1 : x.needs = []) (h2 : x.bars = []) (hr : W1.ownsRow 0 90 6 v' n xs) (hn : n = zs.length + 1) (hx : xs = zs.flatMap clC ++ clC ⟨x, .slice none 0 0, .slice none 0 0⟩)
    (hf1 : Fr vc.ownBlock.toList W W1) (ho : v'.ownBlock = vc.ownBlock ∨ v'.ownBlock = some W.heap.size) : KnS w bM v' vr vf (zs ++ [⟨x, .slice none 0 0, .slice none 0 0⟩]) ⟨d.cls ++ [x], d.rps, d.fas⟩ A kf (W1.setCell ⟨bM, 0, none⟩ v') := by
  have hi : IntsR W (.slice none 0 0) [] := ⟨Sl.nil _, ⟨.inl ⟨rfl, rfl, rfl⟩⟩⟩
  exact ⟨h.bx.putCl (y := ⟨x, .slice none 0 0, .slice none 0 0⟩) (by rw [h1]; exact hi) (by rw [h2]; exact hi) (fun g hg => by rcases hg with hg | hg <;> cases hg) hr hn hx hf1 ho, (keep_sp h.bx.own.cls (by decide) h.sa hf1 h.bx.box).2, (keep_sp h.bx.own.cls (by decide) h.sk hf1 h.bx.box).2⟩

/-- What regions that draw read. -/
structure KnC (bM A bC : Nat) (vc vr vf : Value) (kf : Int) (cs : Array Value) (W : World) : Prop where
  rb : W.heap[bM]? = some (.cells #[vc, vr, vf] 30 (0, 0))
  sa : W.heap[A]? = some (.cells #[.int .i64 0, .int .i64 10000001] 86 (0, 0))
  sk : W.heap[A + 1]? = some (.cells #[.int .i64 kf, .int .i64 10000001] 86 (0, 0))
  cb : W.heap[bC]? = some (.cells cs 68 (0, 0))
theorem KnC.same {bM A bC : Nat} {vc vr vf : Value} {kf : Int} {cs : Array Value} {W W' : World} (h : KnC bM A bC vc vr vf kf cs W) (hf : Fr [] W W') : KnC bM A bC vc vr vf kf cs W' := ⟨hf.keep h.rb (by simp), hf.keep h.sa (by simp), hf.keep h.sk (by simp), hf.keep h.cb (by simp)⟩
theorem KnC.row {bM A bC : Nat} {vc vr vf v : Value} {kf : Int} {cs : Array Value} {W W' : World} {e : TypeId} {s n : Nat} {xs : List Value} (h : KnC bM A bC vc vr vf kf cs W) (hr : W.ownsRow 0 e s v n xs) (hf : Fr v.ownBlock.toList W W') (h1 : e ≠ 30) (h2 : e ≠ 86) (h3 : e ≠ 68) : KnC bM A bC vc vr vf kf cs W' :=
  ⟨hf.keep h.rb (fun hm => row_box hr h.rb h1 (by simpa using hm)), hf.keep h.sa (fun hm => row_box hr h.sa h2 (by simpa using hm)), hf.keep h.sk (fun hm => row_box hr h.sk h2 (by simpa using hm)), hf.keep h.cb (fun hm => row_box hr h.cb h3 (by simpa using hm))⟩
theorem srcAt_newN (w : World) (c : Array Value) (t : TypeId) (n cap : Nat) : SrcAt (w.alloc (.cells c t)) (.slice (some ⟨w.heap.size, 0, none⟩) n cap) n c.toList :=
  ⟨.inr ⟨_, cap, rfl, fun j u hu => by
    rw [addr_add, Nat.zero_add, cell_of_blk (heap_alloc_new _ _)]
    rwa [Array.getElem?_toList] at hu⟩⟩
theorem who_b {ca po : Int} (_h1 : 0 ≤ ca ∧ ca < 10) (h2 : 0 ≤ po ∧ po < 9) : (0 ≤ (ca + 1 + po) % 10 ∧ (ca + 1 + po) % 10 ≤ 10) ∧ ca ≠ (ca + 1 + po) % 10 := by omega

def knFa (t s a b : Int) : Fa := ⟨t, s, 0, 10000001, a, b⟩
def knCl (p g : Int) : Cl := ⟨p, 0, 10000001, [], [], g⟩
/-- The rulebook with more in it. -/
def knRb (b : Rb) (ca who s kf : Int) : Rb := ⟨b.cls ++ [knCl kf s], b.rps, b.fas ++ [knFa ca s kf 10000001, knFa who s 0 10000001]⟩
theorem knRb_ok {b : Rb} {ca who s kf : Int} (h : MadeOk b) (h1 : 0 ≤ ca ∧ ca ≤ 10) (h2 : 0 ≤ who ∧ who ≤ 10) (h3 : 0 ≤ s ∧ s < 8) (h4 : 0 ≤ kf ∧ kf ≤ 1000000) : RbOk (knRb b ca who s kf) := by
  have k := h.ok
  refine ⟨fun x hx => ?_, k.rps, fun x hx => ?_⟩
  · rcases List.mem_append.1 hx with hx | hx
    · exact k.cls x hx
    · rw [List.mem_singleton] at hx; subst hx
      refine ⟨⟨by show _ ≤ kf; omega, by show kf ≤ _; omega⟩, by constructor <;> simp [knCl], by constructor <;> simp [knCl], ⟨by show _ ≤ s; omega, by show s ≤ _; omega⟩, fun m hm => (by cases hm), fun m hm => (by cases hm)⟩
  · rcases List.mem_append.1 hx with hx | hx
    · exact k.fas x hx
    · simp only [List.mem_cons, List.not_mem_nil, or_false] at hx
      rcases hx with rfl | rfl
      · refine ⟨⟨by show _ ≤ ca; omega, by show ca ≤ _; omega⟩, ⟨by show _ ≤ s; omega, by show s ≤ _; omega⟩, by constructor <;> simp [knFa], by constructor <;> simp [knFa], ⟨by show _ ≤ kf; omega, by show kf ≤ _; omega⟩, by constructor <;> simp [knFa]⟩
      · refine ⟨⟨by show _ ≤ who; omega, by show who ≤ _; omega⟩, ⟨by show _ ≤ s; omega, by show s ≤ _; omega⟩, by constructor <;> simp [knFa], by constructor <;> simp [knFa], by constructor <;> simp [knFa], by constructor <;> simp [knFa]⟩
theorem knRb_valid {b : Rb} {ca who s kf : Int} (h : MadeOk b) (h1 : 0 ≤ ca ∧ ca ≤ 10) (h2 : 0 ≤ who ∧ who ≤ 10) (h3 : 0 ≤ s ∧ s < 8) (h4 : 0 ≤ kf ∧ kf ≤ 1000000) : validB (knRb b ca who s kf) = true := by
  have e1 : isInB kf 0 10000000 = true := isInB_iff.2 (by omega)
  have e2 : isInB s 0 19 = true := isInB_iff.2 (by omega)
  have e3 : isInB 10000001 (kf + 1) 10000001 = true := isInB_iff.2 (by omega)
  have e4 : isInB ca 0 99999999 = true := isInB_iff.2 (by omega)
  have e5 : isInB who 0 99999999 = true := isInB_iff.2 (by omega)
  have n1 := h.nc; have n2 := h.nr; have n3 := h.nf
  have c1 : clB (knCl kf s) = true := by
    simp only [clB, knCl, secB, spellB, e1, e2, ascB, ascGo]
    rfl
  have f1 : faB (knFa ca s kf 10000001) = true := by
    simp only [faB, knFa, secB, spellB, e1, e2, e3, e4]
    rfl
  have f2 : faB (knFa who s 0 10000001) = true := by
    simp only [faB, knFa, secB, spellB, e2, e5]
    rfl
  unfold validB knRb
  simp only [Bool.and_eq_true, List.all_append, List.all_cons, List.all_nil, Bool.and_true, c1, f1, f2, List.length_append, List.length_cons, List.length_nil]
  refine ⟨⟨⟨⟨⟨?_, ?_⟩, ?_⟩, ?_⟩, ?_⟩, ?_⟩
  · apply decide_eq_true; omega
  · apply decide_eq_true; omega
  · apply decide_eq_true; omega
  · exact List.all_eq_true.2 fun x hx => (h.cls x hx).clB
  · exact List.all_eq_true.2 fun x hx => ((h.rps x hx).more (by omega)).rpB
  · exact List.all_eq_true.2 fun x hx => (h.fas x hx).faB
theorem knRb_past {b : Rb} {c : Ca} {who s kf : Int} (x : Cd) (h1 : c.caller ≠ who) (h2 : c.at_ < kf) : PastExt b (knRb b c.caller who s kf) (qnOf c x) where
  cls := ⟨_, rfl, fun y hy => by
    rw [List.mem_singleton] at hy; subst hy
    exact .inl h2⟩
  rps := ⟨[], by simp [knRb], fun r hr => by cases hr⟩
  fas := ⟨_, rfl, fun y hy => by
    simp only [List.mem_cons, List.not_mem_nil, or_false] at hy
    rcases hy with rfl | rfl
    · have : isInB c.at_ kf (10000001 - 1) = false := by
        cases hi : isInB c.at_ kf (10000001 - 1) with
        | false => rfl
        | true => rw [isInB_iff] at hi; omega
      simp only [statesB, knFa, qnOf, hasB, this, Bool.and_false]
    · cases hs : statesB (knFa who s 0 10000001) (qnOf c x) with
      | false => rfl
      | true =>
        exfalso
        simp only [statesB, Bool.and_eq_true, decide_eq_true_eq] at hs
        exact h1 hs.1.1.symm⟩

theorem decGo_len {b : Rb} {c : Ca} {dfl : Int} : ∀ (l : List Ru) (i : Nat) (F : List Int) (P : List (List Fd)), (∀ r, r ∈ l → r.cds.length ≤ 4) → (decGo b c dfl i F P l).prfs.length ≤ P.length + 4 * l.length
  | [], _, _, _, _ => by simp [decGo]
  | r :: l, i, F, P, h => by
    rw [decGo]
    have hr := h r (by simp)
    have h1 := prfs_lens b c r.cds
    cases hk : failK b c 0 r.cds with
    | none => simp only [List.length_append, List.length_cons]; omega
    | some p =>
      simp only
      have h2 := prfs_len b c p.2
      have h3 := decGo_len (b := b) (c := c) (dfl := dfl) l (i + 1) (F ++ [(p.1 : Int)]) (P ++ prfsF b c p.2) fun r hr => h r (by simp [hr])
      simp only [List.length_append, List.length_cons] at h3 ⊢
      omega
theorem decF_len {f : Fl} {b : Rb} {c : Ca} (hg : goodF f b c = true) (hb : c.back = false) (hl : f.rus.length ≤ 8) : (decF f b c).fails.length ≤ 8 ∧ (decF f b c).prfs.length ≤ 32 := by
  obtain ⟨_, _, _, _, e4, e5⟩ := decF_eq hg hb
  constructor
  · by_cases hr : (decF f b c).rule = -1
    · have := e4 hr; omega
    · have := (e5 hr).2; omega
  · unfold decF
    rw [hb]
    have := decGo_len (b := b) (c := c) (dfl := f.dfl) f.rus 0 [] [] fun r hr => (good_ru hg hr).1
    simp only [List.length_nil] at this
    simp only [Bool.false_eq_true, if_false]
    omega
/-- What Check says of what Decide has returned. -/
theorem lw_chk {v : Value} {ys : List RuV} {f : Fl} {vc vp vf : Value} {zs : List ClV} {b : Rb} {c : Ca} {W : World} {vF vP : Value} {D : Dn} {zp : List PrV} (h : FlAt W v ys f) (hb : RbAt W vc vp vf zs b) (hc : CaOk c) (hg : goodF f b c = true) (hF : IntsAt W vF D.fails) (hP : PrAt W vP zp) (he : zp.map (·.l) = D.prfs) (hl : D.fails.length ≤ 100 ∧ D.prfs.length ≤ 100) :
    Calls Tryz.prog 32 #[.agg #[v, .int .i64 f.dfl], .agg #[vc, vp, vf], .agg #[.int .i64 c.caller, .int .i64 c.called, .int .i64 c.at_, .int .i64 c.level, .int .i64 c.fwd, .bool c.back], .agg #[.int .i64 D.act, .int .i64 D.rule, vF, vP]] W fun e w' => e = .returned (.bool (checkF f b c D)) ∧ Fr [] W w' := by
  have hzl : zp.length = D.prfs.length := by have := congrArg List.length he; rwa [List.length_map] at this
  refine (fCheck_c v ys f vc vp vf zs b c vF vP D zp W h hb hc hF hP he ⟨by omega, by omega⟩).mono ?_
  rintro e w3 h3
  rw [hg, Bool.true_and] at h3
  exact h3

theorem kn_plain {f : Fl} {b e : Rb} {c : Ca} (g : goodF f b c = true) (g' : goodF f e c = true) (hp : ∀ x, PastExt b e (qnOf c x)) (hb : c.back = false) (hl : f.rus.length ≤ 8) :
    ∃ a r F1 P1 F2 P2, decF f b c = ⟨a, r, F1, P1⟩ ∧ decF f e c = ⟨a, r, F2, P2⟩ ∧ checkF f e c ⟨a, r, F2, P2⟩ = true ∧ F2.length ≤ 100 ∧ P2.length ≤ 100 := by
  obtain ⟨a1, a2, _⟩ := decF_eq g hb
  obtain ⟨b1, b2, b3, _⟩ := decF_eq g' hb
  obtain ⟨k1, k2⟩ := known_same g g' hp
  obtain ⟨l1, l2⟩ := decF_len g' hb hl
  rw [k1, ← b1] at a1
  rw [k2, ← b2] at a2
  obtain ⟨⟨x1, x2, x3, x4⟩, h1⟩ : ∃ D, decF f b c = D := ⟨_, rfl⟩
  obtain ⟨⟨y1, y2, y3, y4⟩, h2⟩ : ∃ D, decF f e c = D := ⟨_, rfl⟩
  rw [h1, h2] at a1 a2
  rw [h2] at b3 l1 l2
  simp only at a1 a2 l1 l2
  subst a1 a2
  exact ⟨_, _, _, _, _, _, h1, h2, b3, by omega, by omega⟩
theorem kn_dec {v : Value} {ys : List RuV} {f : Fl} {vc vp vf : Value} {zs : List ClV} {b : Rb} {c : Ca} {w : World} {a r : Int} {F : List Int} {P : List (List Fd)} (h : FlAt w v ys f) (hb : RbAt w vc vp vf zs b) (hc : CaOk c) (hg : goodF f b c = true) (hd : decF f b c = ⟨a, r, F, P⟩) :
    Calls Tryz.prog 31 #[.agg #[v, .int .i64 f.dfl], .agg #[vc, vp, vf], .agg #[.int .i64 c.caller, .int .i64 c.called, .int .i64 c.at_, .int .i64 c.level, .int .i64 c.fwd, .bool c.back]] w fun e w' => Fr [] w w' ∧ ∃ aF pF aP pP zp, e = .returned (.tuple #[.agg #[.int .i64 a, .int .i64 r, .slice aF F.length pF, .slice aP P.length pP], .int .i64 0]) ∧ DnOwn w w' (.slice aF F.length pF) (.slice aP P.length pP) ⟨a, r, F, P⟩ zp :=
  decF_c h hb hc hg hd
theorem kn_chk {v : Value} {ys : List RuV} {f : Fl} {vc vp vf : Value} {zs : List ClV} {b : Rb} {c : Ca} {W : World} {vF vP : Value} {a r : Int} {F : List Int} {P : List (List Fd)} {zp : List PrV} (h : FlAt W v ys f) (hb : RbAt W vc vp vf zs b) (hc : CaOk c) (hg : goodF f b c = true) (hF : IntsAt W vF F) (hP : PrAt W vP zp) (he : zp.map (·.l) = P) (hl : F.length ≤ 100 ∧ P.length ≤ 100) (hk : checkF f b c ⟨a, r, F, P⟩ = true) :
    Calls Tryz.prog 32 #[.agg #[v, .int .i64 f.dfl], .agg #[vc, vp, vf], .agg #[.int .i64 c.caller, .int .i64 c.called, .int .i64 c.at_, .int .i64 c.level, .int .i64 c.fwd, .bool c.back], .agg #[.int .i64 a, .int .i64 r, vF, vP]] W fun e w' => e = .returned (.bool true) ∧ Fr [] W w' := by
  have := lw_chk (D := ⟨a, r, F, P⟩) h hb hc hg hF hP he hl
  rw [hk] at this
  exact this

end Go.Proofs.YtkopnooajikpmaaGreat
