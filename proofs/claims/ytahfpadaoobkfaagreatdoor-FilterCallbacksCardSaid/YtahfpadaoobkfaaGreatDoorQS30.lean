/-
  Rules in a box, under construction; dialtoneref08's Copy.
-/
import Derived.Test.YtahfpadaoobkfaaGreatDoorQS29
import Derived.Test.YtahfpadaoobkfaaGreatDoorQS26
import Derived.Deep.CutBlock
import Derived.Deep.DeepCutAuto
namespace Go.Proofs.YtahfpadaoobkfaaGreatDoor
open Go.RowKit Go.Lib

/-- The walk leaves a goal of this name as it is. -/
theorem stop_in {p : Prop} (roundEnd : p) (_other : True) : p := roundEnd

/-- Is g one of the blocks of the rules? -/
def RbHas (vc vr vf : Value) (ys : List ClV) (g : Nat) : Prop := vc.ownBlock = some g ∨ vr.ownBlock = some g ∨ vf.ownBlock = some g ∨ ∃ y, y ∈ ys ∧ (y.vn.ownBlock = some g ∨ y.vb.ownBlock = some g)
theorem RbOwn.lt {N : Nat} {W : World} {vc vr vf : Value} {ys : List ClV} {c : Rb} (h : RbOwn N W vc vr vf ys c) {g : Nat} (hg : RbHas vc vr vf ys g) : g < W.heap.size := by
  rcases hg with hg | hg | hg | ⟨y, hy, hg⟩
  · exact ownsRow_lt h.cls hg
  · exact ownsRow_lt h.rps hg
  · exact ownsRow_lt h.fas hg
  · exact (h.term y hy g hg).2.1
theorem RbOwn.frH {N : Nat} {W W' : World} {vc vr vf : Value} {ys : List ClV} {c : Rb} {S : List Nat} (h : RbOwn N W vc vr vf ys c) (hf : Fr S W W') (hS : ∀ g, RbHas vc vr vf ys g → g ∉ S) : RbOwn N W' vc vr vf ys c :=
  ⟨h.eq, row_fr h.cls hf (fun g hg => hS g (.inl hg)), row_fr h.rps hf (fun g hg => hS g (.inr (.inl hg))), row_fr h.fas hf (fun g hg => hS g (.inr (.inr (.inl hg)))),
    fun y hy => (h.needs y hy).fr hf (fun g hg => hS g (.inr (.inr (.inr ⟨y, hy, .inl hg⟩)))), fun y hy => (h.bars y hy).fr hf (fun g hg => hS g (.inr (.inr (.inr ⟨y, hy, .inr hg⟩)))),
    fun y hy g hg => ⟨(h.term y hy g hg).1, Nat.lt_of_lt_of_le (h.term y hy g hg).2.1 hf.size, (h.term y hy g hg).2.2⟩, h.nc, h.nr, h.nf⟩

/-- Rules in the box b, their rows and the box newer than w. -/
structure BxS (w : World) (b : Nat) (vc vr vf : Value) (ys : List ClV) (c : Rb) (W : World) : Prop where
  fr : Fr [] w W
  hb : w.heap.size ≤ b
  box : W.heap[b]? = some (.cells #[vc, vr, vf] 36 (0, 0))
  own : RbOwn 0 W vc vr vf ys c
  rows : ∀ g, vc.ownBlock = some g ∨ vr.ownBlock = some g ∨ vf.ownBlock = some g → w.heap.size ≤ g
  nb : ¬ RbHas vc vr vf ys b
theorem BxS.same {w : World} {b : Nat} {vc vr vf : Value} {ys : List ClV} {c : Rb} {W W' : World} (h : BxS w b vc vr vf ys c W) (hf : Fr [] W W') : BxS w b vc vr vf ys c W' :=
  ⟨h.fr.trans hf, h.hb, hf.keep h.box (by simp), h.own.same hf, h.rows, h.nb⟩
theorem BxS.store {w : World} {b : Nat} {vc vr vf vc' vr' vf' v' : Value} {ys : List ClV} {c : Rb} {W W1 : World} {S : List Nat} {j : Nat} {ys' : List ClV} {c' : Rb} (h : BxS w b vc vr vf ys c W) (hf1 : Fr S W W1) (hS : ∀ g, g ∈ S → w.heap.size ≤ g ∧ g ≠ b)
    (own : RbOwn 0 W1 vc' vr' vf' ys' c') (rows : ∀ g, vc'.ownBlock = some g ∨ vr'.ownBlock = some g ∨ vf'.ownBlock = some g → w.heap.size ≤ g) (nb : ¬ RbHas vc' vr' vf' ys' b) (he : #[vc, vr, vf].setIfInBounds j v' = #[vc', vr', vf']) : BxS w b vc' vr' vf' ys' c' (W1.setCell ⟨b, j, none⟩ v') := by
  have hsc : Fr [b] W1 (W1.setCell ⟨b, j, none⟩ v') := Fr.setCell _ _ (by simp)
  refine ⟨(h.fr.step hf1 (fun i hi => .inr (hS i hi).1)).step hsc (fun i hi => .inr (by simp at hi; rw [hi]; exact h.hb)), h.hb, ?_, own.frH hsc (fun g hg hm => by simp at hm; subst hm; exact nb hg), rows, nb⟩
  rw [heap_setCell_same _ (hf1.keep h.box (fun hm => (hS b hm).2 rfl)), he]
theorem BxS.start {w W : World} {b : Nat} (hf : Fr [] w W) (hb : w.heap.size ≤ b) (hx : W.heap[b]? = some (.cells #[.slice none 0 0, .slice none 0 0, .slice none 0 0] 36 (0, 0))) : BxS w b (.slice none 0 0) (.slice none 0 0) (.slice none 0 0) [] ⟨[], [], []⟩ W := by
  refine ⟨hf, hb, hx, RbOwn.start _ _, fun g hg => ?_, fun hg => ?_⟩
  · rcases hg with hg | hg | hg <;> cases hg
  · rcases hg with hg | hg | hg | ⟨y, hy, _⟩
    · cases hg
    · cases hg
    · cases hg
    · cases hy
end Go.Proofs.YtahfpadaoobkfaaGreatDoor

/-
  filter: match.
-/
namespace Go.Proofs.YtahfpadaoobkfaaGreatDoor
open Go.RowKit Go.Lib

theorem infoFds : (Tryz.prog.info? 96).map (fun i => (i.zero, i.size, i.bytes)) = some (some (.slice none 0 0), 1, 24) := by kernel_rfl
theorem ruRow_cells {w : World} {v : Value} {ys : List RuV} (h : Sl w v ys.length (ys.flatMap ruC)) (k : Nat) (hk : k < ys.length) : ∃ b off cap, v = .slice (some ⟨b, off, none⟩) ys.length cap ∧ ∀ j u, (ruC ys[k])[j]? = some u → w.cell? ⟨b, off + k * 2 + j, none⟩ = some u := by
  obtain ⟨a, cap, rfl⟩ := h.val
  obtain ⟨b, off, rfl, hc⟩ := h.at_ (by omega)
  refine ⟨b, off, cap, rfl, fun j u hu => ?_⟩
  have hj : j < 2 := by have := (List.getElem?_eq_some_iff.1 hu).1; simpa [ruC] using this
  have := hc (k * 2 + j) u ((flat_get (enc := ruC) (k := 2) (fun _ => rfl) ys k hk j hj).trans hu)
  rwa [← Nat.add_assoc] at this
theorem cdRow_cells {w : World} {v : Value} {l : List Cd} (h : CdsAt w v l) (k : Nat) (hk : k < l.length) : ∃ b off cap, v = .slice (some ⟨b, off, none⟩) l.length cap ∧ ∀ j u, (cdC l[k])[j]? = some u → w.cell? ⟨b, off + k * 4 + j, none⟩ = some u := by
  obtain ⟨a, cap, rfl⟩ := h.val
  obtain ⟨b, off, rfl, hc⟩ := h.at_ (by omega)
  refine ⟨b, off, cap, rfl, fun j u hu => ?_⟩
  have hj : j < 4 := by have := (List.getElem?_eq_some_iff.1 hu).1; simpa [cdC] using this
  have := hc (k * 4 + j) u ((flat_get (enc := cdC) (k := 4) (fun _ => rfl) l k hk j hj).trans hu)
  rwa [← Nat.add_assoc] at this

/-- Proofs under way. -/
structure MtS (w : World) (v : Value) (zs : List PrV) (W : World) : Prop where
  fr : Fr [] w W
  own : PrOwn W v zs
  new : ∀ g, v.ownBlock = some g → w.heap.size ≤ g
theorem MtS.same {w W W' : World} {v : Value} {zs : List PrV} (h : MtS w v zs W) (hf : Fr [] W W') : MtS w v zs W' := ⟨h.fr.trans hf, h.own.same hf, h.new⟩
theorem MtS.add {w W W' : World} {v v2 v' : Value} {zs zs2 : List PrV} (h : MtS w v zs W) (h2 : PrOwn W v2 zs2) (hr : W'.ownsRow 0 96 1 v' (zs.length + zs2.length) (zs.map (·.v) ++ zs2.map (·.v))) (hf : Fr v.ownBlock.toList W W') (hb : v'.ownBlock = v.ownBlock ∨ v'.ownBlock = some W.heap.size) : MtS w v' (zs ++ zs2) W' where
  fr := h.fr.step hf (fun i hi => .inr (h.new i (by simpa using hi)))
  own := ⟨by rw [List.length_append, List.map_append]; exact hr, fun z hz => by
    have hz2 : FdRow W z.v z.l := by
      rcases List.mem_append.1 hz with hz | hz
      · exact h.own.fds z hz
      · exact h2.fds z hz
    refine fdRow_keep hz2 (fun g hg => hf.block g (ownsRow_lt hz2 hg) fun hm => ?_)
    exact row_apart hz2 h.own.row (by decide) hg (by simpa using hm)⟩
  new := fun g hg => by
    rcases hb with hb | hb
    · exact h.new g (hb ▸ hg)
    · rw [hb] at hg; cases hg; exact h.fr.size

theorem failK_at {b : Rb} {c : Ca} {l : List Cd} {k : Nat} (hk : k < l.length) (h : failK b c 0 l = failK b c k (l.drop k)) :
    (holdsF b c l[k] = true → failK b c 0 l = failK b c (k + 1) (l.drop (k + 1))) ∧ (holdsF b c l[k] = false → failK b c 0 l = some (k, l[k])) := by
  rw [List.drop_eq_getElem_cons hk, failK] at h
  constructor
  · intro hh; rw [hh] at h; exact h
  · intro hh; rw [hh] at h; exact h

/-- What match returns. -/
def Matched (D : De) (l : List Cd) (w : World) (e : Ending) (w' : World) : Prop :=
  Fr [] w w' ∧ ∃ v zs, e = .returned (.tuple #[.int .i64 (matchI D.b D.c l), v]) ∧ PrOwn w' v zs ∧ zs.map (·.l) = matchP D.b D.c l ∧ ∀ g, v.ownBlock = some g → w.heap.size ≤ g

theorem good_ru {f : Fl} {b : Rb} {c : Ca} (h : goodF f b c = true) {r : Ru} (hr : r ∈ f.rus) : r.cds.length ≤ 4 ∧ ∀ x, x ∈ r.cds → cdB x = true := by
  simp only [goodF, flB, Bool.and_eq_true] at h
  have := List.all_eq_true.1 h.1.1.2 r hr
  simp only [ruB, Bool.and_eq_true, decide_eq_true_eq] at this
  exact ⟨this.1.1, List.all_eq_true.1 this.2⟩
theorem prfs_len (b : Rb) (c : Ca) (x : Cd) : (prfsF b c x).length ≤ 1 := by unfold prfsF; split <;> simp
theorem prfs_lens (b : Rb) (c : Ca) : ∀ l : List Cd, (l.flatMap (prfsF b c)).length ≤ l.length
  | [] => by simp
  | x :: l => by
    have := prfs_lens b c l
    have := prfs_len b c x
    simp only [List.flatMap_cons, List.length_append, List.length_cons]; omega

set_option maxRecDepth 100000 in
set_option maxHeartbeats 4000000 in
theorem fMatch_c (D : De) (i : Nat) (hi : i < D.ys.length) (w : World) (h : DeAt D w) : Calls Tryz.prog 56 #[.pointer (some ⟨D.bd, 0, none⟩), .int .i64 i] w (Matched D D.ys[i].x.cds w) := by
  have hm : D.ys[i] ∈ D.ys := List.getElem_mem hi
  have hg := good_ru h.good (r := D.ys[i].x) (by rw [h.fl.eq]; exact List.mem_map_of_mem hm)
  have hcd := h.fl.cds _ hm
  obtain ⟨rb, ro, rcap, hv, hrc⟩ := ruRow_cells h.fl.sl i hi
  have HRC := Lib.hid (hrc 0 _ rfl)
  have hyl := h.fl.sl.len
  have HD := Lib.hid h
  have hd0 := cell_of_blk h.str 0
  have HCH := Lib.hid (fun x W (hf : Fr [] w W) => fHolds_c D x W (h.same hf))
  clear h hm hrc
  obtain ⟨bd, vr, ys, f, vc, vp, vf, zs, b, c⟩ := D
  simp only at hi hg hcd hv HRC hyl hd0 ⊢
  subst hv
  generalize ys[i] = y at *
  obtain ⟨⟨l, act⟩, vl⟩ := y
  simp only at hg hcd
  obtain ⟨al, pl, rfl⟩ := hcd.val
  have HCD := Lib.hid hcd
  have HG := Lib.hid hg.2
  have hl4 := hg.1
  simp only [Nat.add_zero] at HRC
  have r0 := HRC.out
  clear hcd hg HRC
  unfold Matched
  simp only
  go_enter Tryz.func56, Tryz.ntmps56
  go_wp2_with fail
  clear r0 hd0
  go_loopw [6, 21] (fun v s wr => ∃ (k : Nat) (zs : List PrV), k ≤ l.length ∧ s = .int .i64 k ∧ zs.length ≤ k ∧ Hid (MtS w v zs wr) ∧ Hid (zs.map (·.l) = (l.take k).flatMap (prfsF b c)) ∧ Hid (failK b c 0 l = failK b c k (l.drop k))) (fun _ s _ => l.length - (intOf s).toNat)
  case atStart => exact ⟨0, [], Nat.zero_le _, rfl, Nat.le_refl _, Lib.hid ⟨Fr.refl _ _, PrOwn.nil _, fun g hg => by cases hg⟩, Lib.hid rfl, Lib.hid rfl⟩
  case round =>
    obtain ⟨k, zs, hk, rfl, hzk, HM, HZ, HFK⟩ := hrel
    obtain ⟨va, vq, rfl⟩ := (sl_of_row HM.out.own.row).val
    by_cases hlt : k < l.length
    · obtain ⟨cb, co, cc, hv, hc⟩ := cdRow_cells (HCD.out.same HM.out.fr) k hlt
      cases hv
      have e0 := hc 0 _ rfl
      have e1 := hc 1 _ rfl
      have e2 := hc 2 _ rfl
      have e3 := hc 3 _ rfl
      simp only [Nat.add_zero] at e0 e1 e2 e3
      have hx := HG.out _ (List.getElem_mem hlt)
      have HST := Lib.hid (failK_at hlt HFK.out)
      have HZ2 : Hid ((l.take (k + 1)).flatMap (prfsF b c) = (l.take k).flatMap (prfsF b c) ++ prfsF b c l[k]) := Lib.hid (by rw [List.take_succ_eq_append_getElem hlt, List.flatMap_append]; simp)
      have HPL := Lib.hid (prfs_len b c l[k])
      obtain ⟨x, hxx⟩ : ∃ x, l[k] = x := ⟨_, rfl⟩
      rw [hxx] at e0 e1 e2 e3 hx HST HZ2 HPL
      have CH := Lib.hid (HCH.out x (wr.alloc (.cells #[.int .i64 x.kind, .int .i64 x.lo, .int .i64 x.hi, .bool x.neg] 62)) (HM.out.fr.trans (Fr.alloc _ _ _)) hx)
      have FA := Lib.hid (Fr.alloc [] wr (.cells #[.int .i64 x.kind, .int .i64 x.lo, .int .i64 x.hi, .bool x.neg] 62))
      obtain ⟨xk, xl, xh, xn⟩ := x
      simp only at e0 e1 e2 e3 CH FA
      unfold cdV at CH
      simp only at CH
      clear hc hx hxx
      go_wp2_with fail
      refine CH.out.mono ?_
      rintro e w1 ⟨f1, v1, zs1, rfl, hp1, hz1, hn1⟩
      simp only at hz1 hn1
      obtain ⟨a1, p1, rfl⟩ := (sl_of_row hp1.row).val
      have M1 := Lib.hid (HM.out.same (FA.out.trans f1))
      have HP1 := Lib.hid hp1
      have HZ1 := Lib.hid hz1
      have HN1 : Hid (∀ g, (Value.slice a1 zs1.length p1).ownBlock = some g → w.heap.size ≤ g) := Lib.hid fun g hg => Nat.le_trans (HM.out.fr.trans FA.out).size (hn1 g hg)
      have hz1l : zs1.length ≤ 1 := by
        have := congrArg List.length hz1
        rw [List.length_map] at this
        have := HPL.out
        omega
      clear CH f1 hp1 hz1 hn1 e0 e1 e2 e3 HM HPL
      simp only
      cases hh : holdsF b c ⟨xk, xl, xh, xn⟩ with
      | false =>
        have HE := Lib.hid (HST.out.2 hh)
        clear hh
        go_wp2_with fail
        go_ret2
        refine ⟨M1.out.fr, _, zs1, ?_, HP1.out, ?_, HN1.out⟩
        · unfold matchI; rw [HE.out]; rfl
        · unfold matchP; rw [HE.out]; exact HZ1.out
      | true =>
        have HE := Lib.hid (HST.out.1 hh)
        clear hh
        go_wp2_with (first | ((with_reducible refine wpList_of_wp (o := ⟨some 38, _, _, _, _, _⟩) rfl (fun K hK => ?_)); apply stop_in; case _other => exact trivial))
        (refine stop_in ?_ ?_; rotate_left; exact trivial)
        refine wp_append_src (.tmp 36) (.tmp 37) 73 96 _ 1 24 rfl Tryz.underlying73 infoFds rfl (by decide) (.slice va zs.length vq) zs.length _ rfl M1.out.own.row (.slice a1 zs1.length p1) zs1.length _ rfl (srcAt_of_row HP1.out.row) (by simp) (fun u hu => by obtain ⟨z, _, rfl⟩ := List.mem_map.1 hu; obtain ⟨_, _, hzv⟩ := (sl_of_row (HP1.out.fds z ‹_›)).val; rw [hzv]; rfl) (by omega) (by omega) ?_
        intro ga cap8 W8 r8 f8 b8
        refine hK _ _ ?_
        clear hK K
        have M8 := Lib.hid (M1.out.add HP1.out r8 f8 b8)
        clear r8 f8 b8
        go_wp2_with fail
        go_roundw
        case rel => exact ⟨k + 1, zs ++ zs1, by omega, by go_num, by rw [List.length_append]; omega, M8, Lib.hid (by rw [List.map_append, HZ.out, HZ1.out, HZ2.out]), HE⟩
        case measure => simp [intOf]; omega
    · obtain rfl : k = l.length := by omega
      have HE : Hid (failK b c 0 l = none) := Lib.hid (by rw [HFK.out, List.drop_length]; rfl)
      go_wp2_with fail
      go_ret2
      refine ⟨HM.out.fr, _, zs, ?_, HM.out.own, ?_, HM.out.new⟩
      · unfold matchI; rw [HE.out]; rfl
      · unfold matchP; rw [HE.out, HZ.out, List.take_length]

end Go.Proofs.YtahfpadaoobkfaaGreatDoor

/-
  filter: Matches, Why.
-/
namespace Go.Proofs.YtahfpadaoobkfaaGreatDoor
open Go.RowKit Go.Lib

theorem matchI_neg (b : Rb) (c : Ca) (r : Ru) : decide (matchI b c r.cds < 0) = mB b c r := by
  unfold matchI mB
  cases h : failK b c 0 r.cds with
  | none => rw [fail_none.1 h]; rfl
  | some p =>
    cases ha : r.cds.all (holdsF b c) with
    | true => rw [fail_none.2 ha] at h; cases h
    | false => simp

set_option maxRecDepth 100000 in
set_option maxHeartbeats 2000000 in
theorem fMatches_c (v : Value) (ys : List RuV) (f : Fl) (vc vp vf : Value) (zs : List ClV) (b : Rb) (c : Ca) (i : Nat) (hi : i < ys.length) (w : World) (h : FlAt w v ys f) (hb : RbAt w vc vp vf zs b) (hc : CaOk c) (hg : goodF f b c = true) :
    Calls Tryz.prog 16 #[flV v f.dfl, rbV vc vp vf, caV c, .int .i64 i] w fun e w' => e = .returned (.tuple #[.bool (mB b c ys[i].x), .int .i64 0]) ∧ Fr [] w w' := by
  have HA := Lib.hid (alloc3' w (.cells #[v, .int .i64 f.dfl] 69) (.cells #[vc, vp, vf] 36) (.cells #[.int .i64 c.caller, .int .i64 c.called, .int .i64 c.at_, .int .i64 c.level, .int .i64 c.fwd, .bool c.back] 54))
  have FA : Hid (Fr [] w (((w.alloc (.cells #[v, .int .i64 f.dfl] 69)).alloc (.cells #[vc, vp, vf] 36)).alloc (.cells #[.int .i64 c.caller, .int .i64 c.called, .int .i64 c.at_, .int .i64 c.level, .int .i64 c.fwd, .bool c.back] 54))) := Lib.hid (((Fr.alloc _ _ _).trans (Fr.alloc _ _ _)).trans (Fr.alloc _ _ _))
  obtain ⟨a, cap, rfl⟩ := h.sl.val
  have hl := h.sl.len
  obtain ⟨ac, pc, rfl⟩ := hb.cls.sl.val
  obtain ⟨ar, pr, rfl⟩ := hb.rps.val
  obtain ⟨af, pf, rfl⟩ := hb.fas.val
  have CO := Lib.hid (fOpen_c _ ys f _ _ _ zs b c _ (h.same FA.out) (hb.same FA.out) hc)
  have HI : Hid (isInB (i : Int) 0 ((ys.length : Int) - 1) = true) := Lib.hid (isInB_iff.2 (by omega))
  have HM := Lib.hid (matchI_neg b c ys[i].x)
  have HG := Lib.hid hg
  obtain ⟨ca, cd, at_, lv, fw, bk⟩ := c
  clear h hb hc hg
  unfold flV caV rbV at *
  simp only at CO HA FA HM
  go_enter Tryz.func16, Tryz.ntmps16
  go_wp2_with fail
  refine CO.out.mono ?_
  rintro e w1 ⟨f1, hr⟩
  rcases hr with ⟨h0, _⟩ | ⟨_, bd, rfl, hbd, hd⟩
  · simp only at h0; rw [HG.out] at h0; cases h0
  have HD := Lib.hid hd
  have F1 := Lib.hid (FA.out.trans f1)
  have B0 := f1.keep HA.out.1 (by simp)
  have d0 := cell_of_blk B0 0; have d1 := cell_of_blk B0 1
  have CM := Lib.hid (fMatch_c _ i hi w1 hd)
  clear f1 hd hbd B0 CO
  go_wp2_with fail
  refine (fIsIn_c _ _ _ _).mono ?_
  rintro e w2 ⟨rfl, rfl⟩
  rw [HI.out]
  go_wp2_with fail
  refine CM.out.mono ?_
  rintro e w2 ⟨f2, v2, zs2, rfl, _, _, _⟩
  clear d0 d1
  go_wp2_with fail
  go_ret2
  exact ⟨by rw [← HM.out]; rfl, F1.out.trans f2⟩

set_option maxRecDepth 100000 in
set_option maxHeartbeats 2000000 in
theorem fWhy_c (v : Value) (ys : List RuV) (f : Fl) (vc vp vf : Value) (zs : List ClV) (b : Rb) (c : Ca) (i : Nat) (hi : i < ys.length) (w : World) (h : FlAt w v ys f) (hb : RbAt w vc vp vf zs b) (hc : CaOk c) (hg : goodF f b c = true) :
    Calls Tryz.prog 23 #[flV v f.dfl, rbV vc vp vf, caV c, .int .i64 i] w fun e w' => e = .returned (.tuple #[.int .i64 (max (matchI b c ys[i].x.cds) 0), .bool (decide (0 ≤ matchI b c ys[i].x.cds))]) ∧ Fr [] w w' := by
  have HA := Lib.hid (alloc3' w (.cells #[v, .int .i64 f.dfl] 69) (.cells #[vc, vp, vf] 36) (.cells #[.int .i64 c.caller, .int .i64 c.called, .int .i64 c.at_, .int .i64 c.level, .int .i64 c.fwd, .bool c.back] 54))
  have FA : Hid (Fr [] w (((w.alloc (.cells #[v, .int .i64 f.dfl] 69)).alloc (.cells #[vc, vp, vf] 36)).alloc (.cells #[.int .i64 c.caller, .int .i64 c.called, .int .i64 c.at_, .int .i64 c.level, .int .i64 c.fwd, .bool c.back] 54))) := Lib.hid (((Fr.alloc _ _ _).trans (Fr.alloc _ _ _)).trans (Fr.alloc _ _ _))
  obtain ⟨a, cap, rfl⟩ := h.sl.val
  have hl := h.sl.len
  obtain ⟨ac, pc, rfl⟩ := hb.cls.sl.val
  obtain ⟨ar, pr, rfl⟩ := hb.rps.val
  obtain ⟨af, pf, rfl⟩ := hb.fas.val
  have CO := Lib.hid (fOpen_c _ ys f _ _ _ zs b c _ (h.same FA.out) (hb.same FA.out) hc)
  have HI : Hid (isInB (i : Int) 0 ((ys.length : Int) - 1) = true) := Lib.hid (isInB_iff.2 (by omega))
  have HG := Lib.hid hg
  obtain ⟨ca, cd, at_, lv, fw, bk⟩ := c
  clear h hb hc hg
  unfold flV caV rbV at *
  simp only at CO HA FA
  go_enter Tryz.func23, Tryz.ntmps23
  go_wp2_with fail
  refine CO.out.mono ?_
  rintro e w1 ⟨f1, hr⟩
  rcases hr with ⟨h0, _⟩ | ⟨_, bd, rfl, hbd, hd⟩
  · simp only at h0; rw [HG.out] at h0; cases h0
  have HD := Lib.hid hd
  have F1 := Lib.hid (FA.out.trans f1)
  have B0 := f1.keep HA.out.1 (by simp)
  have d0 := cell_of_blk B0 0; have d1 := cell_of_blk B0 1
  have CM := Lib.hid (fMatch_c _ i hi w1 hd)
  clear f1 hd hbd B0 CO
  go_wp2_with fail
  refine (fIsIn_c _ _ _ _).mono ?_
  rintro e w2 ⟨rfl, rfl⟩
  rw [HI.out]
  go_wp2_with fail
  refine CM.out.mono ?_
  rintro e w2 ⟨f2, v2, zs2, rfl, _, _, _⟩
  clear d0 d1
  go_wp2_with fail
  go_ret2
  exact ⟨rfl, F1.out.trans f2⟩

end Go.Proofs.YtahfpadaoobkfaaGreatDoor

/-
  filter: Decide.
-/
namespace Go.Proofs.YtahfpadaoobkfaaGreatDoor
open Go.RowKit Go.Lib

/-- A decision under way, in its box. -/
structure DcS (w : World) (act rule : Int) (vF vP : Value) (F : List Int) (zs : List PrV) (W : World) : Prop where
  fr : Fr [] w W
  box : W.heap[w.heap.size]? = some (.cells #[.int .i64 act, .int .i64 rule, vF, vP] 75 (0, 0))
  fails : W.ownsRow 0 3 1 vF F.length (intC F)
  own : PrOwn W vP zs
  newF : ∀ g, vF.ownBlock = some g → w.heap.size ≤ g
  newP : ∀ g, vP.ownBlock = some g → w.heap.size ≤ g
theorem DcS.same {w W W' : World} {act rule : Int} {vF vP : Value} {F : List Int} {zs : List PrV} (h : DcS w act rule vF vP F zs W) (hf : Fr [] W W') : DcS w act rule vF vP F zs W' :=
  ⟨h.fr.trans hf, hf.keep h.box (by simp), ownsRow_keep h.fails (fun g hg => hf.block g (ownsRow_lt h.fails hg) (by simp)), h.own.same hf, h.newF, h.newP⟩
theorem PrOwn.box {w : World} {v : Value} {zs : List PrV} (h : PrOwn w v zs) {b : Nat} {cs : Array Value} {fz : Nat × Nat} {e : TypeId} (hb : w.heap[b]? = some (.cells cs e fz)) (h1 : 96 ≠ e) (h2 : 98 ≠ e) {W : World} (hf : Fr [b] w W) : PrOwn W v zs :=
  h.fr hf (fun g hg hm => by rw [List.mem_singleton] at hm; subst hm; exact row_box h.row hb h1 hg) (fun z hz g hg hm => by rw [List.mem_singleton] at hm; subst hm; exact row_box (h.fds z hz) hb h2 hg)
/-- A store into the box. -/
theorem DcS.put {w W : World} {act rule act' rule' : Int} {vF vP vF' vP' : Value} {F F' : List Int} {zs zs' : List PrV} {i : Nat} {u : Value} (h : DcS w act rule vF vP F zs W) (hr : W.ownsRow 0 3 1 vF' F'.length (intC F')) (hp : PrOwn W vP' zs') (n1 : ∀ g, vF'.ownBlock = some g → w.heap.size ≤ g) (n2 : ∀ g, vP'.ownBlock = some g → w.heap.size ≤ g)
    (hc : (#[.int .i64 act, .int .i64 rule, vF, vP] : Array Value).setIfInBounds i u = #[.int .i64 act', .int .i64 rule', vF', vP']) : DcS w act' rule' vF' vP' F' zs' (W.setCell ⟨w.heap.size, i, none⟩ u) where
  fr := h.fr.step (Fr.setCell (fp := [w.heap.size]) _ _ (by simp)) (fun i hi => by simp at hi; exact .inr (by omega))
  box := by rw [heap_setCell_same _ h.box, hc]
  fails := ownsRow_keep hr (fun g hg => (Fr.setCell (fp := [w.heap.size]) W (p := ⟨w.heap.size, i, none⟩) u (by simp)).block g (ownsRow_lt hr hg) (fun hm => by rw [List.mem_singleton] at hm; subst hm; exact row_box hr h.box (by decide) hg))
  own := hp.box h.box (by decide) (by decide) (Fr.setCell (fp := [w.heap.size]) W (p := ⟨w.heap.size, i, none⟩) u (by simp))
  newF := n1
  newP := n2
/-- Proofs are added; then they are stored. -/
theorem DcS.addP {w W W' : World} {act rule : Int} {vF vP v2 v' : Value} {F : List Int} {zs zs2 : List PrV} (h : DcS w act rule vF vP F zs W) (h2 : PrOwn W v2 zs2) (hr : W'.ownsRow 0 96 1 v' (zs.length + zs2.length) (zs.map (·.v) ++ zs2.map (·.v))) (hf : Fr vP.ownBlock.toList W W') (hb : v'.ownBlock = vP.ownBlock ∨ v'.ownBlock = some W.heap.size) :
    W'.heap[w.heap.size]? = some (.cells #[.int .i64 act, .int .i64 rule, vF, vP] 75 (0, 0)) ∧ DcS w act rule vF v' F (zs ++ zs2) (W'.setCell ⟨w.heap.size, 3, none⟩ v') := by
  have hbox := hf.keep h.box (fun hm => row_box h.own.row h.box (by decide) (by simpa using hm))
  have hm := MtS.add ⟨h.fr, h.own, h.newP⟩ h2 hr hf hb
  have hF : W'.ownsRow 0 3 1 vF F.length (intC F) := ownsRow_keep h.fails (fun g hg => hf.block g (ownsRow_lt h.fails hg) (fun hm => row_apart h.fails h.own.row (by decide) hg (by simpa using hm)))
  refine ⟨hbox, ?_⟩
  exact {
    fr := hm.fr.step (Fr.setCell (fp := [w.heap.size]) _ _ (by simp)) (fun i hi => by simp at hi; exact .inr (by omega))
    box := heap_setCell_same _ hbox
    fails := ownsRow_keep hF (fun g hg => (Fr.setCell (fp := [w.heap.size]) W' (p := ⟨w.heap.size, 3, none⟩) v' (by simp)).block g (ownsRow_lt hF hg) (fun hm => by rw [List.mem_singleton] at hm; subst hm; exact row_box hF hbox (by decide) hg))
    own := hm.own.box hbox (by decide) (by decide) (Fr.setCell (fp := [w.heap.size]) W' (p := ⟨w.heap.size, 3, none⟩) v' (by simp))
    newF := h.newF
    newP := hm.new }
/-- A number is added to the fails; then they are stored. -/
theorem DcS.addF {w W W' : World} {act rule k : Int} {vF vP v' : Value} {F : List Int} {zs : List PrV} (h : DcS w act rule vF vP F zs W) (hr : W'.ownsRow 0 3 1 v' (F.length + 1) (intC F ++ [.int .i64 k])) (hf : Fr vF.ownBlock.toList W W') (hb : v'.ownBlock = vF.ownBlock ∨ v'.ownBlock = some W.heap.size) :
    W'.heap[w.heap.size]? = some (.cells #[.int .i64 act, .int .i64 rule, vF, vP] 75 (0, 0)) ∧ DcS w act rule v' vP (F ++ [k]) zs (W'.setCell ⟨w.heap.size, 2, none⟩ v') := by
  have hbox := hf.keep h.box (fun hm => row_box h.fails h.box (by decide) (by simpa using hm))
  have hfr : Fr [] w W' := h.fr.step hf (fun i hi => .inr (h.newF i (by simpa using hi)))
  have hP : PrOwn W' vP zs := h.own.fr hf (fun g hg hm => row_apart h.own.row h.fails (by decide) hg (by simpa using hm)) (fun z hz g hg hm => row_apart (h.own.fds z hz) h.fails (by decide) hg (by simpa using hm))
  have hR : W'.ownsRow 0 3 1 v' (F ++ [k]).length (intC (F ++ [k])) := by rw [List.length_append, intC, List.map_append]; exact hr
  refine ⟨hbox, ?_⟩
  exact {
    fr := hfr.step (Fr.setCell (fp := [w.heap.size]) _ _ (by simp)) (fun i hi => by simp at hi; exact .inr (by omega))
    box := heap_setCell_same _ hbox
    fails := ownsRow_keep hR (fun g hg => (Fr.setCell (fp := [w.heap.size]) W' (p := ⟨w.heap.size, 2, none⟩) v' (by simp)).block g (ownsRow_lt hR hg) (fun hm => by rw [List.mem_singleton] at hm; subst hm; exact row_box hR hbox (by decide) hg))
    own := hP.box hbox (by decide) (by decide) (Fr.setCell (fp := [w.heap.size]) W' (p := ⟨w.heap.size, 2, none⟩) v' (by simp))
    newF := fun g hg => by
      rcases hb with hb | hb
      · exact h.newF g (hb ▸ hg)
      · rw [hb] at hg; cases hg; exact h.fr.size
    newP := h.newP }

/-- A decision that a call has made. -/
structure DnOwn (w W : World) (vF vP : Value) (x : Dn) (zs : List PrV) : Prop where
  fails : W.ownsRow 0 3 1 vF x.fails.length (intC x.fails)
  own : PrOwn W vP zs
  eq : zs.map (·.l) = x.prfs
  newF : ∀ g, vF.ownBlock = some g → w.heap.size ≤ g
  newP : ∀ g, vP.ownBlock = some g → w.heap.size ≤ g
theorem DnOwn.same {w W W' : World} {vF vP : Value} {x : Dn} {zs : List PrV} (h : DnOwn w W vF vP x zs) (hf : Fr [] W W') : DnOwn w W' vF vP x zs := ⟨ownsRow_keep h.fails (fun g hg => hf.block g (ownsRow_lt h.fails hg) (by simp)), h.own.same hf, h.eq, h.newF, h.newP⟩
abbrev dnV (act rule : Int) (vF vP : Value) : Value := .agg #[.int .i64 act, .int .i64 rule, vF, vP]
/-- What Decide returns. -/
def FDecided (f : Fl) (b : Rb) (c : Ca) (w : World) (e : Ending) (w' : World) : Prop :=
  Fr [] w w' ∧ ((goodF f b c = false ∧ e = .returned (.tuple #[dnV 0 0 (.slice none 0 0) (.slice none 0 0), .int .i64 260])) ∨
    (goodF f b c = true ∧ ∃ vF vP zs, e = .returned (.tuple #[dnV (decF f b c).act (decF f b c).rule vF vP, .int .i64 0]) ∧ DnOwn w w' vF vP (decF f b c) zs))

end Go.Proofs.YtahfpadaoobkfaaGreatDoor
