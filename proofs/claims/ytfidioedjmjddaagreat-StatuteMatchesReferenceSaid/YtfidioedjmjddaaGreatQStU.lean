/-
  statute: Uses.
-/
import Derived.Test.YtfidioedjmjddaaGreatQStD4
namespace Go.Proofs.YtfidioedjmjddaaGreat
open Go.RowKit Go.Lib Go.Maps

/-- Two ascending rows of the call's own. -/
structure U2 (w : World) (v1 v2 : Value) (F C : List Int) (wr : World) : Prop where
  fr : Fr [] w wr
  r1 : wr.ownsRow 0 3 1 v1 F.length (intC F)
  r2 : wr.ownsRow 0 3 1 v2 C.length (intC C)
  n1 : ∀ g, v1.ownBlock = some g → w.heap.size ≤ g
  n2 : ∀ g, v2.ownBlock = some g → w.heap.size ≤ g
  ne : ∀ g, v1.ownBlock = some g → v2.ownBlock ≠ some g
  s1 : F.Pairwise (· < ·)
  s2 : C.Pairwise (· < ·)
theorem U2.start (w : World) : U2 w (.slice none 0 0) (.slice none 0 0) [] [] w := ⟨Fr.refl _ _, ⟨rfl, .inl ⟨rfl, rfl⟩⟩, ⟨rfl, .inl ⟨rfl, rfl⟩⟩, (fun g hg => by cases hg), (fun g hg => by cases hg), (fun g hg => by cases hg), List.Pairwise.nil, List.Pairwise.nil⟩
theorem U2.same {w wr w' : World} {v1 v2 : Value} {F C : List Int} (h : U2 w v1 v2 F C wr) (hf : Fr [] wr w') : U2 w v1 v2 F C w' :=
  ⟨h.fr.trans hf, ownsRow_keep h.r1 (fun g hg => hf.block g (ownsRow_lt h.r1 hg) (by simp)), ownsRow_keep h.r2 (fun g hg => hf.block g (ownsRow_lt h.r2 hg) (by simp)), h.n1, h.n2, h.ne, h.s1, h.s2⟩
theorem insI_len (l : List Int) (x : Int) : (insI l x).length ≤ l.length + 1 := by
  induction l with
  | nil => simp [insI]
  | cons a l ih =>
    unfold insI
    split
    · simp
    · split
      · simp
      · simp only [List.length_cons]; omega
theorem U2.ins1 {w wr : World} {v1 v2 sv : Value} {F C : List Int} {x : Int} (h : U2 w v1 v2 F C wr) (hl : F.length ≤ 1000000) (hs : SrcAt wr sv 1 [.int .i64 x]) :
    Calls Tryz.prog 51 #[v1, sv] wr fun e w' => ∃ v', e = .returned v' ∧ U2 w v' v2 (insI F x) C w' := by
  refine (insert_c v1 sv F x wr h.r1 hs h.s1 hl).mono ?_
  rintro e w' ⟨v', rfl, h1, h2, h3⟩
  refine ⟨v', rfl, h.fr.step h2 (fun i hi => .inr (h.n1 i (by simpa using hi))), h1, ownsRow_keep h.r2 (fun g hg => h2.block g (ownsRow_lt h.r2 hg) (fun hm => h.ne g (by simpa using hm) hg)), fun g hg => ?_, h.n2, fun g hg hg2 => ?_, insI_sorted h.s1, h.s2⟩
  · rcases h3 g hg with h4 | h4
    · exact h.n1 g h4
    · exact Nat.le_trans h.fr.size h4
  · rcases h3 g hg with h4 | h4
    · exact h.ne g h4 hg2
    · have := ownsRow_lt h.r2 hg2; omega
theorem U2.ins2 {w wr : World} {v1 v2 sv : Value} {F C : List Int} {x : Int} (h : U2 w v1 v2 F C wr) (hl : C.length ≤ 1000000) (hs : SrcAt wr sv 1 [.int .i64 x]) :
    Calls Tryz.prog 51 #[v2, sv] wr fun e w' => ∃ v', e = .returned v' ∧ U2 w v1 v' F (insI C x) w' := by
  refine (insert_c v2 sv C x wr h.r2 hs h.s2 hl).mono ?_
  rintro e w' ⟨v', rfl, h1, h2, h3⟩
  refine ⟨v', rfl, h.fr.step h2 (fun i hi => .inr (h.n2 i (by simpa using hi))), ownsRow_keep h.r1 (fun g hg => h2.block g (ownsRow_lt h.r1 hg) (fun hm => h.ne g hg (by simpa using hm))), h1, h.n1, fun g hg => ?_, fun g hg hg2 => ?_, h.s1, insI_sorted h.s2⟩
  · rcases h3 g hg with h4 | h4
    · exact h.n2 g h4
    · exact Nat.le_trans h.fr.size h4
  · rcases h3 g hg2 with h4 | h4
    · exact h.ne g hg h4
    · have := ownsRow_lt h.r1 hg; omega

/-- What Uses returns. -/
def Used (c : Rb) (q : Qn) (l : List Fd) (w : World) (e : Ending) (w' : World) : Prop :=
  Fr [] w w' ∧ ((usesB c q l = false ∧ e = .returned (.tuple #[.slice none 0 0, .slice none 0 0, .int .i64 80])) ∨
    (usesB c q l = true ∧ ∃ v1 v2, e = .returned (.tuple #[v1, v2, .int .i64 0]) ∧ U2 w v1 v2 (useF l) (useC c (clausesOf c q) l) w'))

theorem srcAt_two (w : World) (o : Obj) (x : Value) (e : TypeId) : SrcAt ((w.alloc o).alloc (.cells #[x] e)) (.slice (some ⟨w.heap.size + 1, 0, none⟩) 1 1) 1 [x] := by
  have h := srcAt_one (w.alloc o) x e
  rwa [show (w.alloc o).heap.size = w.heap.size + 1 from Array.size_push ..] at h
theorem U2.ins2' {w wr : World} {v1 v2 sv : Value} {F C : List Int} {x : Int} {xb : Nat} {o : Obj} (h : U2 w v1 v2 F C wr) (hl : C.length ≤ 1000000) (hs : SrcAt wr sv 1 [.int .i64 x]) (hx : wr.heap[xb]? = some o) (hn : v2.ownBlock ≠ some xb) :
    Calls Tryz.prog 51 #[v2, sv] wr fun e w' => ∃ v', e = .returned v' ∧ U2 w v1 v' F (insI C x) w' ∧ w'.heap[xb]? = some o ∧ v'.ownBlock ≠ some xb := by
  refine (insert_c v2 sv C x wr h.r2 hs h.s2 hl).mono ?_
  rintro e w' ⟨v', rfl, h1, h2, h3⟩
  have hxl := blk_lt hx
  refine ⟨v', rfl, ⟨h.fr.step h2 (fun i hi => .inr (h.n2 i (by simpa using hi))), ownsRow_keep h.r1 (fun g hg => h2.block g (ownsRow_lt h.r1 hg) (fun hm => h.ne g hg (by simpa using hm))), h1, h.n1, fun g hg => ?_, fun g hg hg2 => ?_, h.s1, insI_sorted h.s2⟩, h2.keep hx (fun hm => hn (by simpa using hm)), fun hg => ?_⟩
  · rcases h3 g hg with h4 | h4
    · exact h.n2 g h4
    · exact Nat.le_trans h.fr.size h4
  · rcases h3 g hg2 with h4 | h4
    · exact h.ne g hg h4
    · have := ownsRow_lt h.r1 hg; omega
  · rcases h3 xb hg with h4 | h4
    · exact hn h4
    · omega

def useC1 (c : Rb) (cs : List Int) (says : Int) (C : List Int) (j : Nat) : List Int := (cs.take j).foldl (fun a i => if (c.cl i).gives = says then insI a i else a) C
theorem useC1_len (c : Rb) (cs : List Int) (says : Int) (C : List Int) : ∀ j, (useC1 c cs says C j).length ≤ C.length + j := by
  intro j
  induction j with
  | zero => simp [useC1]
  | succ j ih =>
    by_cases hj : j < cs.length
    · unfold useC1 at ih ⊢
      rw [List.take_succ_eq_append_getElem hj, List.foldl_append]
      simp only [List.foldl_cons, List.foldl_nil]
      split
      · have := insI_len ((cs.take j).foldl (fun a i => if (c.cl i).gives = says then insI a i else a) C) cs[j]; omega
      · omega
    · unfold useC1 at ih ⊢
      rw [List.take_of_length_le (by omega)]
      rw [List.take_of_length_le (by omega)] at ih
      omega
theorem useF_snoc (l : List Fd) (x : Fd) : useF (l ++ [x]) = if 0 ≤ x.fact then insI (useF l) x.fact else useF l := by simp [useF, List.foldl_append]
theorem useC_snoc (c : Rb) (cs : List Int) (l : List Fd) (x : Fd) : useC c cs (l ++ [x]) = if 0 ≤ x.fact then useC c cs l else if 0 ≤ x.cl then insI (useC c cs l) x.cl else useC1 c cs x.says (useC c cs l) cs.length := by simp [useC, useC1, List.foldl_append]
theorem useF_len (l : List Fd) : (useF l).length ≤ l.length := by
  have key : ∀ k, (useF (l.take k)).length ≤ k := by
    intro k
    induction k with
    | zero => simp [useF]
    | succ k ih =>
      by_cases hk : k < l.length
      · rw [List.take_succ_eq_append_getElem hk, useF_snoc]
        split
        · have := insI_len (useF (l.take k)) l[k].fact; omega
        · omega
      · rw [List.take_of_length_le (by omega)]
        rw [List.take_of_length_le (by omega)] at ih
        omega
  have := key l.length
  rwa [List.take_length] at this
theorem useC_len (c : Rb) (cs : List Int) (l : List Fd) : (useC c cs l).length ≤ l.length * (cs.length + 1) := by
  have key : ∀ k, (useC c cs (l.take k)).length ≤ k * (cs.length + 1) := by
    intro k
    induction k with
    | zero => simp [useC]
    | succ k ih =>
      rw [Nat.succ_mul]
      by_cases hk : k < l.length
      · rw [List.take_succ_eq_append_getElem hk, useC_snoc]
        split
        · omega
        · split
          · have := insI_len (useC c cs (l.take k)) l[k].cl; omega
          · have := useC1_len c cs l[k].says (useC c cs (l.take k)) cs.length; omega
      · rw [List.take_of_length_le (by omega)]
        rw [List.take_of_length_le (by omega)] at ih
        omega
  have := key l.length
  rwa [List.take_length] at this

/-- A list that proves something is short. -/
theorem proves_short {c : Rb} {fs cs : List Int} {l : List Fd} (h : provesGo c fs cs l (-1) l = true) : l.length ≤ 20 := by
  have hs := provesGo_sorted h
  have hall := provesGo_all h
  have key : ∀ (k : Nat) (hk : k < l.length), (k : Int) ≤ l[k].says := by
    intro k
    induction k with
    | zero => intro hk; have := (hall l[0] (List.getElem_mem hk)).1; omega
    | succ k ih =>
      intro hk
      have h1 := ih (by omega)
      have h2 := List.pairwise_iff_getElem.1 hs k (k + 1) (by omega) hk (by omega)
      omega
  rcases Nat.eq_zero_or_pos l.length with h0 | h0
  · omega
  · have h1 := key (l.length - 1) (by omega)
    have h2 := (hall l[l.length - 1] (List.getElem_mem (by omega))).2.1
    omega

set_option maxRecDepth 100000 in
set_option maxHeartbeats 2000000 in
theorem uses_c (vc vr vf vl : Value) (ys : List ClV) (c : Rb) (q : Qn) (l : List Fd) (w : World) (h : RbAt w vc vr vf ys c) (hl : Sl w vl l.length (l.flatMap fdC)) : Calls Tryz.prog 19 #[rbV vc vr vf, qnV q, vl] w (Used c q l w) := by
  have heq := h.eq
  obtain ⟨ac, pc, rfl⟩ := h.cls.sl.val
  obtain ⟨ar, pr, rfl⟩ := h.rps.val
  obtain ⟨af, pf, rfl⟩ := h.fas.val
  obtain ⟨al, pl, rfl⟩ := hl.val
  obtain ⟨th, sa, at_, kn⟩ := q
  have A2 := alloc2' w (.cells #[.slice ac ys.length pc, .slice ar c.rps.length pr, .slice af c.fas.length pf] 30) (.cells #[.int .i64 th, .int .i64 sa, .int .i64 at_, .int .i64 kn] 33)
  have F2 : Fr [] w ((w.alloc (.cells #[.slice ac ys.length pc, .slice ar c.rps.length pr, .slice af c.fas.length pf] 30)).alloc (.cells #[.int .i64 th, .int .i64 sa, .int .i64 at_, .int .i64 kn] 33)) := (Fr.alloc _ _ _).trans (Fr.alloc _ _ _)
  have CO := Lib.hid (open_c _ _ _ ys c ⟨th, sa, at_, kn⟩ _ (h.same F2))
  have HA := Lib.hid A2; have HF := Lib.hid F2; have HR := Lib.hid h; have HL := Lib.hid hl; clear A2 F2 h hl
  have hll := HL.out.len
  have hyl := HR.out.cls.sl.len
  unfold rbV qnV at *
  simp only at CO ⊢
  go_enter Tryz.func19, Tryz.ntmps19
  go_wp2_with fail
  refine CO.out.mono ?_
  rintro e w2 ⟨f1, h1⟩
  have HQ := Lib.hid (f1.keep HA.out.2 (by simp))
  have HC := Lib.hid (f1.keep HA.out.1 (by simp))
  have F2 := Lib.hid (HF.out.trans f1)
  have c1 : w2.cell? ⟨w.heap.size + 1, 1, none⟩ = some (.int .i64 sa) := cell_of_blk HQ.out 1
  clear f1 CO
  rcases h1 with ⟨ho, p, rfl⟩ | ⟨ho, J, D, rfl, hJ, hD, rfl, e2, e3, rfl, hbm, hbj⟩
  · have hu : usesB c ⟨th, sa, at_, kn⟩ l = false := by simp [usesB, checkB, ho]
    have HU := Lib.hid hu; clear ho hu
    go_wp2_with fail
    go_ret3
    exact ⟨F2.out, .inl ⟨HU.out, rfl⟩⟩
  · have hu : usesB J.c ⟨th, sa, at_, kn⟩ l = (provesB J.c J.fs J.cs sa true l || provesB J.c J.fs J.cs sa false l) := by
      unfold usesB checkB; rw [ho, ← e2, ← e3]; simp
    have HE3 : Hid (clausesOf J.c ⟨th, sa, at_, kn⟩ = J.cs) := Lib.hid e3.symm
    have CP1 := Lib.hid (proves_c J sa true _ l w2 hJ (HL.out.same F2.out))
    have CP2 : Hid (∀ W, Fr [] w2 W → Calls Tryz.prog 48 #[.pointer (some ⟨J.bj, 0, none⟩), .int .i64 sa, .bool false, .slice al l.length pl] W fun e w' => e = .returned (.bool (provesB J.c J.fs J.cs sa false l)) ∧ Fr [] W w') := Lib.hid fun W hf => proves_c J sa false _ l W (hJ.same hf) (HL.out.same (F2.out.trans hf))
    have HSH : Hid (usesB J.c ⟨th, sa, at_, kn⟩ l = true → l.length ≤ 20) := Lib.hid fun hh => by
      rw [hu, Bool.or_eq_true] at hh
      rcases hh with hh | hh <;> (simp only [provesB, Bool.and_eq_true] at hh; exact proves_short hh.1.1.1)
    have hcs20 : J.cs.length ≤ 20 := by
      have h2 := (valid_lens hJ.valid).1
      have h3 := pickN_len (rulesB J.c ⟨th, sa, at_, kn⟩) J.c.cls.length
      rw [show pickN (rulesB J.c ⟨th, sa, at_, kn⟩) J.c.cls.length = J.cs from e3.symm] at h3
      omega
    have HU := Lib.hid hu; have HJ := Lib.hid hJ
    clear ho hu hJ hD e2 e3
    go_wp2_with fail
    refine CP1.out.mono ?_
    rintro e w3 ⟨rfl, f3⟩
    have F3 := Lib.hid f3
    have c3 : w3.cell? ⟨w.heap.size + 1, 1, none⟩ = some (.int .i64 sa) := cell_of_blk (f3.keep HQ.out (by simp)) 1
    clear f3 CP1 c1
    have fin : ∀ W, Fr [] w2 W → usesB J.c ⟨th, sa, at_, kn⟩ l = true → Hid (Fr [] w2 W ∧ usesB J.c ⟨th, sa, at_, kn⟩ l = true) := fun W h1 h2 => Lib.hid ⟨h1, h2⟩
    cases hb1 : provesB J.c J.fs J.cs sa true l
    · go_wp2_with fail
      refine (CP2.out w3 F3.out).mono ?_
      rintro e w4 ⟨rfl, f4⟩
      have F4 := Lib.hid (F3.out.trans f4); clear f4
      cases hb2 : provesB J.c J.fs J.cs sa false l
      · have HU0 : Hid (usesB J.c ⟨th, sa, at_, kn⟩ l = false) := Lib.hid (by rw [HU.out, hb1, hb2]; rfl)
        go_wp2_with fail
        go_ret3
        exact ⟨F2.out.trans F4.out, .inl ⟨HU0.out, rfl⟩⟩
      · have HU1 : Hid (usesB J.c ⟨th, sa, at_, kn⟩ l = true) := Lib.hid (by rw [HU.out, hb2]; simp)
        clear hb1 hb2
        have hsh := HSH.out HU1.out
        clear HSH
        go_wp2_with fail
        go_loopw [11, 12, 43] (fun v1 v2 i wr => ∃ k : Nat, k ≤ l.length ∧ i = .int .i64 k ∧ Hid (U2 w2 v1 v2 (useF (l.take k)) (useC J.c J.cs (l.take k)) wr)) (fun _ _ i _ => l.length - (intOf i).toNat)
        case atStart => exact ⟨0, Nat.zero_le _, rfl, Lib.hid ⟨F4.out, (U2.start w4).r1, (U2.start w4).r2, (fun g hg => by cases hg), (fun g hg => by cases hg), (fun g hg => by cases hg), List.Pairwise.nil, List.Pairwise.nil⟩⟩
        case round =>
          obtain ⟨k, hk, rfl, HU2⟩ := hrel
          obtain ⟨b1, q1, rfl⟩ := (sl_of_row HU2.out.r1).val
          obtain ⟨b2, q2, rfl⟩ := (sl_of_row HU2.out.r2).val
          by_cases hlt : k < l.length
          · obtain ⟨b, off, ha, hc⟩ := (HL.out.same (F2.out.trans HU2.out.fr)).at_ (by omega)
            subst ha
            have d0 := hc (k * 4 + 0) _ ((flat_get (enc := fdC) (k := 4) (fun _ => rfl) l k hlt 0 (by omega)).trans rfl)
            have d1 := hc (k * 4 + 1) _ ((flat_get (enc := fdC) (k := 4) (fun _ => rfl) l k hlt 1 (by omega)).trans rfl)
            have d2 := hc (k * 4 + 2) _ ((flat_get (enc := fdC) (k := 4) (fun _ => rfl) l k hlt 2 (by omega)).trans rfl)
            have d3 := hc (k * 4 + 3) _ ((flat_get (enc := fdC) (k := 4) (fun _ => rfl) l k hlt 3 (by omega)).trans rfl)
            simp only [Nat.add_zero, ← Nat.add_assoc] at d0 d1 d2 d3
            have HT : Hid (l.take (k + 1) = l.take k ++ [l[k]]) := Lib.hid (List.take_succ_eq_append_getElem hlt)
            have hlF : (useF (l.take k)).length ≤ 20 := by have := useF_len (l.take k); simp at this; omega
            have hlC : (useC J.c J.cs (l.take k)).length ≤ 20 * (J.cs.length + 1) := by
              have := useC_len J.c J.cs (l.take k)
              have h2 : (l.take k).length * (J.cs.length + 1) ≤ 20 * (J.cs.length + 1) := Nat.mul_le_mul_right _ (by simp; omega)
              omega
            clear hc
            generalize l[k] = x at *
            obtain ⟨x0, x1, x2, x3⟩ := x
            simp only at d0 d1 d2 d3
            have UA := Lib.hid (HU2.out.same (Fr.alloc [] wr (.cells #[.int .i64 x0, .bool x1, .int .i64 x2, .int .i64 x3] 62)))
            have XB : Hid ((wr.alloc (.cells #[.int .i64 x0, .bool x1, .int .i64 x2, .int .i64 x3] 62)).heap[wr.heap.size]? = some (.cells #[.int .i64 x0, .bool x1, .int .i64 x2, .int .i64 x3] 62 (0, 0))) := Lib.hid (heap_alloc_new _ _)
            by_cases hx2 : 0 ≤ x2
            · have CI := Lib.hid ((UA.out.same (Fr.alloc [] _ (.cells #[.int .i64 x2] 3))).ins1 (x := x2) (by omega) (srcAt_two _ _ (.int .i64 x2) 3))
              have EF : Hid (useF (l.take (k + 1)) = insI (useF (l.take k)) x2) := Lib.hid (by rw [HT.out, useF_snoc, if_pos hx2])
              have EC : Hid (useC J.c J.cs (l.take (k + 1)) = useC J.c J.cs (l.take k)) := Lib.hid (by rw [HT.out, useC_snoc, if_pos hx2])
              clear UA
              go_wp2_with fail
              refine CI.out.mono ?_
              rintro e w5 ⟨v', rfl, u5⟩
              have U5 := Lib.hid u5; clear u5 CI
              go_wp2_with fail
              go_roundw
              case rel => exact ⟨k + 1, by omega, by go_num, Lib.hid (by rw [EF.out, EC.out]; exact U5.out)⟩
              case measure => simp [intOf]; omega
            · have EF : Hid (useF (l.take (k + 1)) = useF (l.take k)) := Lib.hid (by rw [HT.out, useF_snoc, if_neg hx2])
              by_cases hx3 : 0 ≤ x3
              · have CI := Lib.hid ((UA.out.same (Fr.alloc [] _ (.cells #[.int .i64 x3] 3))).ins2 (x := x3) (by omega) (srcAt_two _ _ (.int .i64 x3) 3))
                have EC : Hid (useC J.c J.cs (l.take (k + 1)) = insI (useC J.c J.cs (l.take k)) x3) := Lib.hid (by rw [HT.out, useC_snoc, if_neg hx2, if_pos hx3])
                clear UA
                go_wp2_with fail
                refine CI.out.mono ?_
                rintro e w5 ⟨v', rfl, u5⟩
                have U5 := Lib.hid u5; clear u5 CI
                go_wp2_with fail
                go_roundw
                case rel => exact ⟨k + 1, by omega, by go_num, Lib.hid (by rw [EF.out, EC.out]; exact U5.out)⟩
                case measure => simp [intOf]; omega
              · have EC : Hid (useC J.c J.cs (l.take (k + 1)) = useC1 J.c J.cs x0 (useC J.c J.cs (l.take k)) J.cs.length) := Lib.hid (by rw [HT.out, useC_snoc, if_neg hx2, if_neg hx3])
                have JA := Lib.hid (HJ.out.same UA.out.fr)
                obtain ⟨a2, p2, hv2⟩ := JA.out.c.val
                have cj : (wr.alloc (.cells #[.int .i64 x0, .bool x1, .int .i64 x2, .int .i64 x3] 62)).cell? ⟨J.bj, 2 + 2, none⟩ = some (.slice a2 J.cs.length p2) := by
                  rw [← hv2]; exact cell_of_blk JA.out.str 4
                have hxb : (Value.slice b2 (useC J.c J.cs (l.take k)).length q2).ownBlock ≠ some wr.heap.size := fun hg => by
                  have := ownsRow_lt HU2.out.r2 hg; omega
                have HXB := Lib.hid hxb
                have hJl := JA.out.c.len
                clear HU2 JA hxb
                go_wp2_with fail
                clear d0 d1 d2 d3
                obtain ⟨xb, hxb⟩ : ∃ xb, xb = wr.heap.size := ⟨_, rfl⟩
                rw [← hxb]
                rw [← hxb] at XB HXB
                have HXE := Lib.hid hxb; clear hxb
                generalize hWA : wr.alloc (.cells #[.int .i64 x0, .bool x1, .int .i64 x2, .int .i64 x3] 62) = WA at *
                have HWA := Lib.hid hWA; clear hWA
                go_loopw [12, 52] (fun v2 i wr => ∃ j : Nat, j ≤ J.cs.length ∧ i = .int .i64 j ∧ Hid (U2 w2 (.slice b1 (useF (l.take k)).length q1) v2 (useF (l.take k)) (useC1 J.c J.cs x0 (useC J.c J.cs (l.take k)) j) wr ∧ wr.heap[xb]? = some (.cells #[.int .i64 x0, .bool x1, .int .i64 x2, .int .i64 x3] 62 (0, 0)) ∧ v2.ownBlock ≠ some xb)) (fun _ i _ => J.cs.length - (intOf i).toNat)
                case atStart => exact ⟨0, Nat.zero_le _, rfl, Lib.hid ⟨UA.out, XB.out, HXB.out⟩⟩
                case round =>
                  obtain ⟨j, hj, rfl, HV⟩ := hrel
                  obtain ⟨b3, q3, rfl⟩ := (sl_of_row HV.out.1.r2).val
                  by_cases hjl : j < J.cs.length
                  · obtain ⟨m, hm⟩ : ∃ m : Nat, J.cs[j] = m := ⟨J.cs[j].toNat, by have := (HJ.out.csub _ (List.getElem_mem hjl)).1; omega⟩
                    have hml : m < J.ys.length := by have := (HJ.out.csub _ (List.getElem_mem hjl)).2; rw [hm] at this; omega
                    have hcl : J.c.cl m = J.ys[m].x := by simp [Rb.cl, heq, hml]
                    obtain ⟨bc, oc, hbc, hcc⟩ := (hv2 ▸ (HJ.out.same HV.out.1.fr).c : IntsAt _ _ _).at_ (by omega)
                    subst hbc
                    have e0 : wr.cell? ⟨bc, oc + j, none⟩ = some (.int .i64 m) := hcc j _ (by simp [intC, hjl, hm])
                    obtain ⟨bg, og, hbg, hcg⟩ := (HR.out.same (F2.out.trans HV.out.1.fr)).cls.sl.at_ (by omega)
                    subst hbg
                    have g5 := hcg (m * 6 + 5) _ ((flat_get (enc := clC) (k := 6) (fun _ => rfl) J.ys m hml 5 (by omega)).trans rfl)
                    simp only [← Nat.add_assoc] at g5
                    have cc0 : wr.cell? ⟨w.heap.size, 0, none⟩ = some (.slice (some ⟨bg, og, none⟩) J.ys.length pc) := cell_of_blk (HV.out.1.fr.keep HC.out (by simp)) 0
                    have x00 : wr.cell? ⟨xb, 0, none⟩ = some (.int .i64 x0) := cell_of_blk HV.out.2.1 0
                    have HS1 : Hid (useC1 J.c J.cs x0 (useC J.c J.cs (l.take k)) (j + 1) = if J.ys[m].x.gives = x0 then insI (useC1 J.c J.cs x0 (useC J.c J.cs (l.take k)) j) m else useC1 J.c J.cs x0 (useC J.c J.cs (l.take k)) j) := Lib.hid (by
                      unfold useC1
                      rw [List.take_succ_eq_append_getElem hjl, List.foldl_append, hm]
                      simp only [List.foldl_cons, List.foldl_nil, hcl])
                    have hl1 := useC1_len J.c J.cs x0 (useC J.c J.cs (l.take k)) j
                    clear hcc hcg hm hcl
                    generalize J.ys[m].x.gives = gv at *
                    by_cases hg : gv = x0
                    · subst hg
                      rw [if_pos rfl] at HS1
                      have CI := Lib.hid fun nq => ((HV.out.1.same ((Fr.drewN [] wr nq).trans (Fr.alloc [] _ (.cells #[.int .i64 (m : Int)] 3)))).ins2' (x := m) (by omega) (srcAt_one (wr.drewN nq) (.int .i64 (m : Int)) 3) (heap_alloc_old (o := .cells #[.int .i64 (m : Int)] 3) (w := wr.drewN nq) HV.out.2.1) HV.out.2.2)
                      go_wp2_with (first | go_quiet (fail) | fail)
                      refine (CI.out nq).mono ?_
                      rintro e w5 ⟨v', rfl, u5⟩
                      have U5 := Lib.hid u5; clear u5 CI
                      go_wp2_with fail
                      go_roundw
                      case rel => exact ⟨j + 1, by omega, by go_num, Lib.hid (by rw [HS1.out]; exact U5.out)⟩
                      case measure => simp [intOf]; omega
                    · rw [if_neg hg] at HS1
                      have hgb : (gv == x0) = false := by simpa using hg
                      go_wp2_with (first | go_quiet (fail) | fail)
                      refine ⟨⟨j + 1, by omega, by go_num, Lib.hid ⟨by rw [HS1.out]; exact HV.out.1.same (Fr.drewN [] wr nq), HV.out.2⟩⟩, ?_⟩
                      simp [intOf]; omega
                  · obtain rfl : j = J.cs.length := by omega
                    go_wp2_with fail
                    go_roundw
                    case rel => exact ⟨k + 1, by omega, by go_num, Lib.hid (by rw [EF.out, EC.out]; exact HV.out.1)⟩
                    case measure => simp [intOf]; omega
          · obtain rfl : k = l.length := by omega
            go_wp2_with fail
            go_ret3
            refine ⟨F2.out.trans HU2.out.fr, .inr ⟨HU1.out, .slice b1 (useF (l.take l.length)).length q1, .slice b2 (useC J.c J.cs (l.take l.length)).length q2, rfl, ?_⟩⟩
            rw [HE3.out]
            rw [List.take_length] at HU2 ⊢
            have hsz := F2.out.size
            exact ⟨F2.out.trans HU2.out.fr, HU2.out.r1, HU2.out.r2, fun g hg => Nat.le_trans hsz (HU2.out.n1 g hg), fun g hg => Nat.le_trans hsz (HU2.out.n2 g hg), HU2.out.ne, HU2.out.s1, HU2.out.s2⟩
    · have HU1 : Hid (usesB J.c ⟨th, sa, at_, kn⟩ l = true) := Lib.hid (by rw [HU.out, hb1]; simp)
      clear hb1
      have hsh := HSH.out HU1.out
      clear HSH CP2
      go_wp2_with fail
      go_loopw [11, 12, 43] (fun v1 v2 i wr => ∃ k : Nat, k ≤ l.length ∧ i = .int .i64 k ∧ Hid (U2 w2 v1 v2 (useF (l.take k)) (useC J.c J.cs (l.take k)) wr)) (fun _ _ i _ => l.length - (intOf i).toNat)
      case atStart => exact ⟨0, Nat.zero_le _, rfl, Lib.hid ⟨F3.out, (U2.start w3).r1, (U2.start w3).r2, (fun g hg => by cases hg), (fun g hg => by cases hg), (fun g hg => by cases hg), List.Pairwise.nil, List.Pairwise.nil⟩⟩
      case round =>
        obtain ⟨k, hk, rfl, HU2⟩ := hrel
        obtain ⟨b1, q1, rfl⟩ := (sl_of_row HU2.out.r1).val
        obtain ⟨b2, q2, rfl⟩ := (sl_of_row HU2.out.r2).val
        by_cases hlt : k < l.length
        · obtain ⟨b, off, ha, hc⟩ := (HL.out.same (F2.out.trans HU2.out.fr)).at_ (by omega)
          subst ha
          have d0 := hc (k * 4 + 0) _ ((flat_get (enc := fdC) (k := 4) (fun _ => rfl) l k hlt 0 (by omega)).trans rfl)
          have d1 := hc (k * 4 + 1) _ ((flat_get (enc := fdC) (k := 4) (fun _ => rfl) l k hlt 1 (by omega)).trans rfl)
          have d2 := hc (k * 4 + 2) _ ((flat_get (enc := fdC) (k := 4) (fun _ => rfl) l k hlt 2 (by omega)).trans rfl)
          have d3 := hc (k * 4 + 3) _ ((flat_get (enc := fdC) (k := 4) (fun _ => rfl) l k hlt 3 (by omega)).trans rfl)
          simp only [Nat.add_zero, ← Nat.add_assoc] at d0 d1 d2 d3
          have HT : Hid (l.take (k + 1) = l.take k ++ [l[k]]) := Lib.hid (List.take_succ_eq_append_getElem hlt)
          have hlF : (useF (l.take k)).length ≤ 20 := by have := useF_len (l.take k); simp at this; omega
          have hlC : (useC J.c J.cs (l.take k)).length ≤ 20 * (J.cs.length + 1) := by
            have := useC_len J.c J.cs (l.take k)
            have h2 : (l.take k).length * (J.cs.length + 1) ≤ 20 * (J.cs.length + 1) := Nat.mul_le_mul_right _ (by simp; omega)
            omega
          clear hc
          generalize l[k] = x at *
          obtain ⟨x0, x1, x2, x3⟩ := x
          simp only at d0 d1 d2 d3
          have UA := Lib.hid (HU2.out.same (Fr.alloc [] wr (.cells #[.int .i64 x0, .bool x1, .int .i64 x2, .int .i64 x3] 62)))
          have XB : Hid ((wr.alloc (.cells #[.int .i64 x0, .bool x1, .int .i64 x2, .int .i64 x3] 62)).heap[wr.heap.size]? = some (.cells #[.int .i64 x0, .bool x1, .int .i64 x2, .int .i64 x3] 62 (0, 0))) := Lib.hid (heap_alloc_new _ _)
          by_cases hx2 : 0 ≤ x2
          · have CI := Lib.hid ((UA.out.same (Fr.alloc [] _ (.cells #[.int .i64 x2] 3))).ins1 (x := x2) (by omega) (srcAt_two _ _ (.int .i64 x2) 3))
            have EF : Hid (useF (l.take (k + 1)) = insI (useF (l.take k)) x2) := Lib.hid (by rw [HT.out, useF_snoc, if_pos hx2])
            have EC : Hid (useC J.c J.cs (l.take (k + 1)) = useC J.c J.cs (l.take k)) := Lib.hid (by rw [HT.out, useC_snoc, if_pos hx2])
            clear UA
            go_wp2_with fail
            refine CI.out.mono ?_
            rintro e w5 ⟨v', rfl, u5⟩
            have U5 := Lib.hid u5; clear u5 CI
            go_wp2_with fail
            go_roundw
            case rel => exact ⟨k + 1, by omega, by go_num, Lib.hid (by rw [EF.out, EC.out]; exact U5.out)⟩
            case measure => simp [intOf]; omega
          · have EF : Hid (useF (l.take (k + 1)) = useF (l.take k)) := Lib.hid (by rw [HT.out, useF_snoc, if_neg hx2])
            by_cases hx3 : 0 ≤ x3
            · have CI := Lib.hid ((UA.out.same (Fr.alloc [] _ (.cells #[.int .i64 x3] 3))).ins2 (x := x3) (by omega) (srcAt_two _ _ (.int .i64 x3) 3))
              have EC : Hid (useC J.c J.cs (l.take (k + 1)) = insI (useC J.c J.cs (l.take k)) x3) := Lib.hid (by rw [HT.out, useC_snoc, if_neg hx2, if_pos hx3])
              clear UA
              go_wp2_with fail
              refine CI.out.mono ?_
              rintro e w5 ⟨v', rfl, u5⟩
              have U5 := Lib.hid u5; clear u5 CI
              go_wp2_with fail
              go_roundw
              case rel => exact ⟨k + 1, by omega, by go_num, Lib.hid (by rw [EF.out, EC.out]; exact U5.out)⟩
              case measure => simp [intOf]; omega
            · have EC : Hid (useC J.c J.cs (l.take (k + 1)) = useC1 J.c J.cs x0 (useC J.c J.cs (l.take k)) J.cs.length) := Lib.hid (by rw [HT.out, useC_snoc, if_neg hx2, if_neg hx3])
              have JA := Lib.hid (HJ.out.same UA.out.fr)
              obtain ⟨a2, p2, hv2⟩ := JA.out.c.val
              have cj : (wr.alloc (.cells #[.int .i64 x0, .bool x1, .int .i64 x2, .int .i64 x3] 62)).cell? ⟨J.bj, 2 + 2, none⟩ = some (.slice a2 J.cs.length p2) := by
                rw [← hv2]; exact cell_of_blk JA.out.str 4
              have hxb : (Value.slice b2 (useC J.c J.cs (l.take k)).length q2).ownBlock ≠ some wr.heap.size := fun hg => by
                have := ownsRow_lt HU2.out.r2 hg; omega
              have HXB := Lib.hid hxb
              have hJl := JA.out.c.len
              clear HU2 JA hxb
              go_wp2_with fail
              clear d0 d1 d2 d3
              obtain ⟨xb, hxb⟩ : ∃ xb, xb = wr.heap.size := ⟨_, rfl⟩
              rw [← hxb]
              rw [← hxb] at XB HXB
              have HXE := Lib.hid hxb; clear hxb
              generalize hWA : wr.alloc (.cells #[.int .i64 x0, .bool x1, .int .i64 x2, .int .i64 x3] 62) = WA at *
              have HWA := Lib.hid hWA; clear hWA
              go_loopw [12, 52] (fun v2 i wr => ∃ j : Nat, j ≤ J.cs.length ∧ i = .int .i64 j ∧ Hid (U2 w2 (.slice b1 (useF (l.take k)).length q1) v2 (useF (l.take k)) (useC1 J.c J.cs x0 (useC J.c J.cs (l.take k)) j) wr ∧ wr.heap[xb]? = some (.cells #[.int .i64 x0, .bool x1, .int .i64 x2, .int .i64 x3] 62 (0, 0)) ∧ v2.ownBlock ≠ some xb)) (fun _ i _ => J.cs.length - (intOf i).toNat)
              case atStart => exact ⟨0, Nat.zero_le _, rfl, Lib.hid ⟨UA.out, XB.out, HXB.out⟩⟩
              case round =>
                obtain ⟨j, hj, rfl, HV⟩ := hrel
                obtain ⟨b3, q3, rfl⟩ := (sl_of_row HV.out.1.r2).val
                by_cases hjl : j < J.cs.length
                · obtain ⟨m, hm⟩ : ∃ m : Nat, J.cs[j] = m := ⟨J.cs[j].toNat, by have := (HJ.out.csub _ (List.getElem_mem hjl)).1; omega⟩
                  have hml : m < J.ys.length := by have := (HJ.out.csub _ (List.getElem_mem hjl)).2; rw [hm] at this; omega
                  have hcl : J.c.cl m = J.ys[m].x := by simp [Rb.cl, heq, hml]
                  obtain ⟨bc, oc, hbc, hcc⟩ := (hv2 ▸ (HJ.out.same HV.out.1.fr).c : IntsAt _ _ _).at_ (by omega)
                  subst hbc
                  have e0 : wr.cell? ⟨bc, oc + j, none⟩ = some (.int .i64 m) := hcc j _ (by simp [intC, hjl, hm])
                  obtain ⟨bg, og, hbg, hcg⟩ := (HR.out.same (F2.out.trans HV.out.1.fr)).cls.sl.at_ (by omega)
                  subst hbg
                  have g5 := hcg (m * 6 + 5) _ ((flat_get (enc := clC) (k := 6) (fun _ => rfl) J.ys m hml 5 (by omega)).trans rfl)
                  simp only [← Nat.add_assoc] at g5
                  have cc0 : wr.cell? ⟨w.heap.size, 0, none⟩ = some (.slice (some ⟨bg, og, none⟩) J.ys.length pc) := cell_of_blk (HV.out.1.fr.keep HC.out (by simp)) 0
                  have x00 : wr.cell? ⟨xb, 0, none⟩ = some (.int .i64 x0) := cell_of_blk HV.out.2.1 0
                  have HS1 : Hid (useC1 J.c J.cs x0 (useC J.c J.cs (l.take k)) (j + 1) = if J.ys[m].x.gives = x0 then insI (useC1 J.c J.cs x0 (useC J.c J.cs (l.take k)) j) m else useC1 J.c J.cs x0 (useC J.c J.cs (l.take k)) j) := Lib.hid (by
                    unfold useC1
                    rw [List.take_succ_eq_append_getElem hjl, List.foldl_append, hm]
                    simp only [List.foldl_cons, List.foldl_nil, hcl])
                  have hl1 := useC1_len J.c J.cs x0 (useC J.c J.cs (l.take k)) j
                  clear hcc hcg hm hcl
                  generalize J.ys[m].x.gives = gv at *
                  by_cases hg : gv = x0
                  · subst hg
                    rw [if_pos rfl] at HS1
                    have CI := Lib.hid fun nq => ((HV.out.1.same ((Fr.drewN [] wr nq).trans (Fr.alloc [] _ (.cells #[.int .i64 (m : Int)] 3)))).ins2' (x := m) (by omega) (srcAt_one (wr.drewN nq) (.int .i64 (m : Int)) 3) (heap_alloc_old (o := .cells #[.int .i64 (m : Int)] 3) (w := wr.drewN nq) HV.out.2.1) HV.out.2.2)
                    go_wp2_with (first | go_quiet (fail) | fail)
                    refine (CI.out nq).mono ?_
                    rintro e w5 ⟨v', rfl, u5⟩
                    have U5 := Lib.hid u5; clear u5 CI
                    go_wp2_with fail
                    go_roundw
                    case rel => exact ⟨j + 1, by omega, by go_num, Lib.hid (by rw [HS1.out]; exact U5.out)⟩
                    case measure => simp [intOf]; omega
                  · rw [if_neg hg] at HS1
                    have hgb : (gv == x0) = false := by simpa using hg
                    go_wp2_with (first | go_quiet (fail) | fail)
                    refine ⟨⟨j + 1, by omega, by go_num, Lib.hid ⟨by rw [HS1.out]; exact HV.out.1.same (Fr.drewN [] wr nq), HV.out.2⟩⟩, ?_⟩
                    simp [intOf]; omega
                · obtain rfl : j = J.cs.length := by omega
                  go_wp2_with fail
                  go_roundw
                  case rel => exact ⟨k + 1, by omega, by go_num, Lib.hid (by rw [EF.out, EC.out]; exact HV.out.1)⟩
                  case measure => simp [intOf]; omega
        · obtain rfl : k = l.length := by omega
          go_wp2_with fail
          go_ret3
          refine ⟨F2.out.trans HU2.out.fr, .inr ⟨HU1.out, .slice b1 (useF (l.take l.length)).length q1, .slice b2 (useC J.c J.cs (l.take l.length)).length q2, rfl, ?_⟩⟩
          rw [HE3.out]
          rw [List.take_length] at HU2 ⊢
          have hsz := F2.out.size
          exact ⟨F2.out.trans HU2.out.fr, HU2.out.r1, HU2.out.r2, fun g hg => Nat.le_trans hsz (HU2.out.n1 g hg), fun g hg => Nat.le_trans hsz (HU2.out.n2 g hg), HU2.out.ne, HU2.out.s1, HU2.out.s2⟩

end Go.Proofs.YtfidioedjmjddaaGreat
