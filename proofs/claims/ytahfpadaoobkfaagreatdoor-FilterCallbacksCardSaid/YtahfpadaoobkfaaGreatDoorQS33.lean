/-
  filter: Check, its loop over what a decision claims.
-/
import Derived.Test.YtahfpadaoobkfaaGreatDoorQS32
namespace Go.Proofs.YtahfpadaoobkfaaGreatDoor
open Go.RowKit Go.Lib Go.Shelf

attribute [local go_sem] Oper.semAt_some

theorem runC_snoc (b : Rb) (c : Ca) : ∀ (l : List Clm) (m : Clm) (P : List (List Fd)), runC b c (l ++ [m]) P = (match runC b c l P with
    | none => none
    | some R => runC b c [m] R)
  | [], m, P => rfl
  | x :: l, m, P => by
    rw [List.cons_append, runC, runC]
    cases x.ok with
    | false => rfl
    | true =>
      simp only [if_true]
      cases takeF b c x.x x.want P with
      | none => rfl
      | some R => exact runC_snoc b c l m R
theorem runC_app (b : Rb) (c : Ca) : ∀ (l r : List Clm) (P : List (List Fd)), runC b c l P = none → runC b c (l ++ r) P = none
  | [], r, P, h => by cases h
  | x :: l, r, P, h => by
    rw [runC] at h
    rw [List.cons_append, runC]
    cases hx : x.ok with
    | false => rfl
    | true =>
      rw [hx] at h
      simp only [if_true] at h ⊢
      cases ht : takeF b c x.x x.want P with
      | none => rfl
      | some R => rw [ht] at h; exact runC_app b c l r R h

/-- A claim whose condition is valid, if it has one. -/
abbrev ClmO := { m : Clm // m.ok = true → cdB m.x = true }
theorem claims_ok {f : Fl} {b : Rb} {c : Ca} (hg : goodF f b c = true) (x : Dn) : ∀ m, m ∈ claimsL f x → m.ok = true → cdB m.x = true := by
  have hru : ∀ r, r ∈ f.rus → ∀ y, y ∈ r.cds → cdB y = true := fun r hr => (good_ru hg hr).2
  have h1 : ∀ m, m ∈ claimsR f x.rule → cdB m.x = true := by
    intro m hm
    unfold claimsR at hm
    split at hm
    · cases hm
    · obtain ⟨y, hy, rfl⟩ := List.mem_map.1 hm
      by_cases hl : x.rule.toNat < f.rus.length
      · rw [List.getD_eq_getElem?_getD, List.getElem?_eq_getElem hl, Option.getD_some] at hy
        exact hru _ (List.getElem_mem hl) y hy
      · rw [List.getD_eq_getElem?_getD, List.getElem?_eq_none (by omega)] at hy
        cases hy
  have h2 : ∀ (rs : List Ru) (ks : List Int) (E : List Clm), (∀ r, r ∈ rs → ∀ y, y ∈ r.cds → cdB y = true) → (∀ m, m ∈ E → cdB m.x = true) → ∀ m, m ∈ claimsF rs ks E → m.ok = true → cdB m.x = true := by
    intro rs
    induction rs with
    | nil => intro ks E _ hE m hm _; rw [claimsF] at hm; exact hE m hm; simp
    | cons r rs ih =>
      intro ks E hr hE m hm hok
      cases ks with
      | nil => rw [claimsF_nil] at hm; exact hE m hm
      | cons k ks =>
        rw [claimsF] at hm
        cases hi : isInB k 0 (r.cds.length - 1) with
        | false =>
          rw [hi] at hm
          simp only [Bool.false_eq_true, if_false, List.mem_singleton] at hm
          subst hm
          cases hok
        | true =>
          rw [hi] at hm
          simp only [if_true, List.mem_cons] at hm
          rcases hm with rfl | hm
          · have hb := isInB_iff.1 hi
            have hl : k.toNat < r.cds.length := by omega
            show cdB (r.cds.getD k.toNat default) = true
            rw [List.getD_eq_getElem?_getD, List.getElem?_eq_getElem hl, Option.getD_some]
            exact hr r (by simp) _ (List.getElem_mem hl)
          · exact ih ks E (fun r hr' => hr r (by simp [hr'])) hE m hm hok
  exact h2 f.rus x.fails _ hru h1

/-- The claims themselves. -/
def bare (pre : List ClmO) : List Clm := pre.map (·.1)
theorem bare_snoc (pre : List ClmO) (m : ClmO) : bare (pre ++ [m]) = bare pre ++ [m.1] := by unfold bare; rw [List.map_append]; rfl
/-- Between two rounds. -/
def LpI (Wd W0 : World) (b : Rb) (c : Ca) (P : List (List Fd)) (pre : List ClmO) (W : World) : Prop :=
  ∃ v zr, W.heap[Wd.heap.size]? = some (.cells #[v] 73 (0, 0)) ∧ PrAt Wd v zr ∧ runC b c (bare pre) P = some (zr.map (·.l)) ∧ Fr [Wd.heap.size] W0 W
/-- Where a round has left. -/
def LpX (Wd W0 : World) (R : Nat) (b : Rb) (c : Ca) (P : List (List Fd)) (jc : Code) (pre : List ClmO) (W : World) : Prop :=
  jc = .ret ∧ runC b c (bare pre) P = none ∧ Fr [Wd.heap.size, R] W0 W ∧ W.heap[R]? = some (.cells #[.bool false] 4 (0, 0))
theorem taken_run {w0 : World} {b : Rb} {c : Ca} {x : Cd} {want : Bool} {bP : Nat} {zs : List PrV} {w w' : World} {e : Ending} (hT : Taken w0 b (qnOf c x) (want != x.neg) bP zs w e w') (hk : x.kind = 5) : ∃ r, e = .returned (.bool r) ∧ Fr [bP] w w' ∧
    (r = true → ∃ v' zr, w'.heap[bP]? = some (.cells #[v'] 73 (0, 0)) ∧ PrAt w0 v' zr ∧ runC b c [⟨x, want, true⟩] (zs.map (·.l)) = some (zr.map (·.l))) ∧ (r = false → runC b c [⟨x, want, true⟩] (zs.map (·.l)) = none) := by
  cases zs with
  | nil =>
    obtain ⟨h1, h2⟩ := hT
    exact ⟨false, h1, h2.mono (by simp), fun h => (by cases h), fun _ => (by simp [runC, takeF, hk])⟩
  | cons z zr =>
    obtain ⟨h1, h2, v', h3, h4⟩ := hT
    exact ⟨_, h1, h2, fun hc => ⟨v', zr, h3, h4, by simp [runC, takeF, hk, hc]⟩, fun hc => by simp [runC, takeF, hk, hc]⟩
theorem keepsFrom_fr {B bP : Nat} {W W' : World} (hf : Fr [bP] W W') (hb : bP < B) : KeepsFrom B W W' := ⟨hf.size, fun k o hk hB _ => hf.keep hB (by simp; omega)⟩
theorem KpB.put {n bq : Nat} (W : World) (l : Nat) (o o' : Obj) (hn : n ≤ l) (h : W.heap[l]? = some o) : KpB n bq W (W.putObj l o') := by
  have hg := grownBy_putObj' W l o'
  have hl := (Array.getElem?_eq_some_iff.1 h).1
  exact ⟨hg.os, hg.tape, hg.output, hg.size, fun k hk _ => hg.block k (by omega) (fun e => by cases e; omega)⟩
theorem Fr.grownNone {A B : World} (hf : Fr [] A B) : A.grownBy B none := ⟨hf.os, hf.tape, hf.output, hf.size, fun k hk _ => hf.block k hk (by simp)⟩

/-- The iterator's contract, as a loop wants it. -/
theorem claims_seq (D : De) (bx bp : Nat) (act rule : Int) (vF vP : Value) (x : Dn) (hxr : x.rule = rule) (W0 : World) (bq : Nat) (h : ∀ W, Fr [bq] W0 W → ClAt D bx bp act rule vF vP x.fails W) (hFl : x.fails.length ≤ D.ys.length) (hr : rule = -1 ∨ isInB rule 0 (D.ys.length - 1) = true) :
    SeqStopsK Fence.wide 2 Tryz.prog 96 #[.pointer (some ⟨bx, 0, none⟩), .pointer (some ⟨bp, 0, none⟩)] (fun m : ClmO => clmE m.1) (KpB W0.heap.size bq) (fun ys => ys.map (·.1) = claimsL D.f x) (fun pre => pre.map (·.1) <+: claimsL D.f x) (claimsL D.f x).length W0 := by
  intro l J Jx W hW hJ hJx hY h0
  have hok := claims_ok (h W0 (Fr.refl _ _)).de.good x
  refine (claims1_in 2 l D bx bp act rule vF vP x.fails x rfl hxr W0 bq h hFl hr (fun pre W => ∃ pre' : List ClmO, pre'.map (·.1) = pre ∧ J pre' W) (fun pre W => ∃ pre' : List ClmO, pre'.map (·.1) = pre ∧ Jx pre' W) ?_ ?_ W hW ⟨[], rfl, h0⟩).mono ?_
  · rintro pre m W2 ⟨pre', rfl, hj⟩ hp
    have hm : m ∈ claimsL D.f x := hp.subset (by simp)
    have hl : pre'.length < (claimsL D.f x).length := by
      have := hp.length_le
      rw [List.length_append, List.length_map] at this
      simp only [List.length_cons, List.length_nil] at this
      omega
    obtain ⟨fn, tmps, assign, body, hy, hR⟩ := hY pre' ⟨m, hok m hm⟩ W2 hj hl
    refine ⟨fn, tmps, assign, body, hy, hR.mono ?_⟩
    rintro e W3 (⟨he, hj3, hk⟩ | ⟨he, hj3⟩)
    · exact .inl ⟨he, ⟨_, by rw [List.map_append]; rfl, hj3⟩, hk⟩
    · exact .inr ⟨he, ⟨_, by rw [List.map_append]; rfl, hj3⟩⟩
  · rintro s A B ⟨pre', rfl, hj⟩ hf
    exact ⟨pre', rfl, hJ _ A B none hj hf.grownNone (fun r e => by cases e)⟩
  · rintro e W' ⟨he, ⟨ys, rfl, pre', hp, hj⟩ | ⟨pre, hpre, pre', rfl, hj⟩⟩
    · exact ⟨he, .inl ⟨pre', hp, hj⟩⟩
    · exact ⟨he, .inr ⟨pre', hpre, hj⟩⟩

/-- Temporaries of which five are known. -/
theorem tmps_fix (L : List Value) (r d n x o : Value) (hl : L.length = 118) (h8 : L[8]? = some r) (h9 : L[9]? = some d) (h14 : L[14]? = some n) (h15 : L[15]? = some x) (h16 : L[16]? = some o) : ∃ T : Nat → Value, ({ tmps := L.toArray, defers := [] } : Act) = { tmps := #[T 0, T 1, T 2, T 3, T 4, T 5, T 6, T 7, r, d, T 10, T 11, T 12, T 13, n, x, o, T 17, T 18, T 19, T 20, T 21, T 22, T 23, T 24, T 25, T 26, T 27, T 28, T 29, T 30, T 31, T 32, T 33, T 34, T 35, T 36, T 37, T 38, T 39, T 40, T 41, T 42, T 43, T 44, T 45, T 46, T 47, T 48, T 49, T 50, T 51, T 52, T 53, T 54, T 55, T 56, T 57, T 58, T 59, T 60, T 61, T 62, T 63, T 64, T 65, T 66, T 67, T 68, T 69, T 70, T 71, T 72, T 73, T 74, T 75, T 76, T 77, T 78, T 79, T 80, T 81, T 82, T 83, T 84, T 85, T 86, T 87, T 88, T 89, T 90, T 91, T 92, T 93, T 94, T 95, T 96, T 97, T 98, T 99, T 100, T 101, T 102, T 103, T 104, T 105, T 106, T 107, T 108, T 109, T 110, T 111, T 112, T 113, T 114, T 115, T 116, T 117], defers := [] } := by
  refine ⟨fun i => L.getD i undef, ?_⟩
  have e : L = (List.range 118).map (fun i => if i = 8 then r else if i = 9 then d else if i = 14 then n else if i = 15 then x else if i = 16 then o else L.getD i undef) := by
    apply List.ext_getElem?
    intro i
    rw [List.getElem?_map]
    by_cases hi : i < 118
    · rw [List.getElem?_range hi, Option.map_some]
      split
      · rename_i h; rw [h]; exact h8
      · split
        · rename_i h; rw [h]; exact h9
        · split
          · rename_i h; rw [h]; exact h14
          · split
            · rename_i h; rw [h]; exact h15
            · split
              · rename_i h; rw [h]; exact h16
              · rw [List.getD_eq_getElem?_getD, List.getElem?_eq_getElem (by omega)]; rfl
    · rw [List.getElem?_eq_none (by omega), List.getElem?_eq_none (by simp; omega)]; rfl
  conv => lhs; rw [e]
  rfl

set_option maxRecDepth 1000000 in
set_option maxHeartbeats 16000000 in
theorem fCheck_main (v : Value) (ys : List RuV) (f : Fl) (vc vp vf : Value) (zsR : List ClV) (b : Rb) (ca cd at_ lv fw : Int) (bk : Bool) (xa xr : Int) (F : List Int) (aF aP : Option Addr) (pF pP : Nat) (zs : List PrV) (w : World) (h : FlAt w v ys f) (hb : RbAt w vc vp vf zsR b) (hc : CaOk ⟨ca, cd, at_, lv, fw, bk⟩)
    (hg : goodF f b ⟨ca, cd, at_, lv, fw, bk⟩ = true) (hbk : bk = false) (hr : xr = -1 ∨ ∃ m : Nat, xr = m ∧ m < ys.length) (hn : (F.length : Int) = if xr = -1 then (ys.length : Int) else xr) (hxa : xa = if xr = -1 then f.dfl else (f.rus.getD xr.toNat default).act)
    (hF : IntsAt w (.slice aF F.length pF) F) (hz : PrAt w (.slice aP zs.length pP) zs) :
    Calls Tryz.prog 20 #[flV v f.dfl, rbV vc vp vf, caV ⟨ca, cd, at_, lv, fw, bk⟩, dnV xa xr (.slice aF F.length pF) (.slice aP zs.length pP)] w (Chk (checkF f b ⟨ca, cd, at_, lv, fw, bk⟩ ⟨xa, xr, F, zs.map (·.l)⟩) w) := by
  subst hbk
  obtain ⟨a, cap, rfl⟩ := h.sl.val
  have hl := h.sl.len
  obtain ⟨ac, pc, rfl⟩ := hb.cls.sl.val
  obtain ⟨ar, pr, rfl⟩ := hb.rps.val
  obtain ⟨af, pf, rfl⟩ := hb.fas.val
  have HA := Lib.hid (alloc5f w (.cells #[.slice a ys.length cap, .int .i64 f.dfl] 69) (.cells #[.slice ac zsR.length pc, .slice ar b.rps.length pr, .slice af b.fas.length pf] 36) (.cells #[.int .i64 ca, .int .i64 cd, .int .i64 at_, .int .i64 lv, .int .i64 fw, .bool false] 54) (.cells #[.int .i64 xa, .int .i64 xr, .slice aF F.length pF, .slice aP zs.length pP] 75) (.cells #[.bool false] 4))
  have CO := Lib.hid (fOpen_c _ ys f _ _ _ zsR b ⟨ca, cd, at_, lv, fw, false⟩ _ (h.same HA.out.2.2.2.2.2) (hb.same HA.out.2.2.2.2.2) hc)
  have HFE := Lib.hid h.eq
  have HG := Lib.hid hg
  have HRB := Lib.hid hb
  have HFA := Lib.hid hF
  have HPR := Lib.hid hz
  have HR := Lib.hid hr
  have HN := Lib.hid hn
  have HXA := Lib.hid hxa
  have hiR : xr = -1 ∨ isInB xr 0 ((ys.length : Int) - 1) = true := hr.imp id (fun ⟨m, e, hm⟩ => isInB_iff.2 (by omega))
  have HIR := Lib.hid hiR
  have HCK : Hid (checkF f b ⟨ca, cd, at_, lv, fw, false⟩ ⟨xa, xr, F, zs.map (·.l)⟩ = decide (runC b ⟨ca, cd, at_, lv, fw, false⟩ (claimsL f ⟨xa, xr, F, zs.map (·.l)⟩) (zs.map (·.l)) = some [])) := Lib.hid (checkF_run f b _ ⟨xa, xr, F, zs.map (·.l)⟩ rfl (by rw [h.eq, List.length_map]; exact hiR) (by rw [h.eq, List.length_map]; exact hn) hxa)
  have hFl : F.length ≤ ys.length := by
    rcases hr with h1 | ⟨m, h1, hm⟩
    · rw [if_pos h1] at hn; omega
    · rw [if_neg (by omega)] at hn; omega
  have hFn := hF.len
  have hZn := hz.sl.len
  clear h hb hc hg hF hz hr hn hxa hiR
  unfold flV caV rbV dnV at *
  simp only at CO HA
  refine (callsIn_wide (n := 3)).1 (callsIn_of_wp_marks Tryz.func20 rfl trivial ?_ rfl)
  simp only [Tryz.ntmps20, List.size_toArray, List.length_cons, List.length_nil, Nat.reduceAdd, Nat.reduceSub, Array.replicate_succ, Array.replicate_zero, List.push_toArray, List.append_toArray, List.nil_append, List.cons_append]
  refine wpIn_wide.2 ?_
  go_wp2_with fail
  refine CO.out.mono ?_
  rintro e w1 ⟨f1, hr⟩
  have F1 := Lib.hid (HA.out.2.2.2.2.2.trans f1)
  have B0 := Lib.hid (f1.keep HA.out.1 (by simp))
  have B1 := Lib.hid (f1.keep HA.out.2.1 (by simp))
  have B2 := Lib.hid (f1.keep HA.out.2.2.1 (by simp))
  have B3 := Lib.hid (f1.keep HA.out.2.2.2.1 (by simp))
  have B4 := Lib.hid (f1.keep HA.out.2.2.2.2.1 (by simp))
  clear f1 CO
  rcases hr with ⟨h0, _⟩ | ⟨_, bd, rfl, hbd, hd⟩
  · simp only at h0; rw [HG.out] at h0; cases h0
  clear hbd
  go_upto_region 2 with fail
  have FD := Fr.alloc [] w1 (.cells #[.pointer (some ⟨bd, 0, none⟩)] 134)
  have D1 := Lib.hid (FD.keep B1.out (by simp)); have DD := Lib.hid (heap_alloc_new w1 (.cells #[.pointer (some ⟨bd, 0, none⟩)] 134)); have D0 := Lib.hid (FD.keep B0.out (by simp)); have D2 := Lib.hid (FD.keep B2.out (by simp)); have D3 := Lib.hid (FD.keep B3.out (by simp)); have D4 := Lib.hid (FD.keep B4.out (by simp))
  have F2 := Lib.hid (F1.out.trans FD)
  have HFD := Lib.hid FD
  clear FD
  generalize w1.alloc (.cells #[.pointer (some ⟨bd, 0, none⟩)] 134) = W2 at *
  have r0 := cell_of_blk D4.out 0
  have y0 := free_of_blk D4.out 0
  have HD := Lib.hid (hd.same HFD.out)
  clear hd r0 y0
  have c5 := cell_of_blk D2.out 5
  have g0 := cell_of_blk D0.out 0; have g1 := cell_of_blk D0.out 1
  go_wp2_with fail
  refine reg_mix (Fr [] W2) [0, 1, 2, 5, 3, 4, 6] (by kernel_rfl) (by kernel_rfl) (by kernel_rfl) rfl (Fr.drew _ _) ?_
  have FC : Fr [] W2 W2.drew := Fr.drew _ _
  generalize W2.drew = WC at FC ⊢
  iterate 7 (refine mix_take1 (v := ?_) rfl rfl rfl rfl (fun w hS => ?_) ?_; rotate_left; (focus (have s0 := hS.cel g0 (by simp); have s1 := hS.cel g1 (by simp); clear hS; go_simp; rfl)); simp only [List.setIfInBounds_toArray, List.set_cons_succ, List.set_cons_zero])
  refine mix_end ?_
  have E0 := Lib.hid (FC.keep D0.out (by simp)); have E1 := Lib.hid (FC.keep D1.out (by simp)); have E3 := Lib.hid (FC.keep D3.out (by simp)); have E4 := Lib.hid (FC.keep D4.out (by simp)); have ED := Lib.hid (FC.keep DD.out (by simp))
  have F3 := Lib.hid (F2.out.trans FC)
  have HD3 := Lib.hid (HD.out.same FC)
  clear FC g0 g1 c5 B0 B1 B2 B3 B4 D0 D1 D2 D3 D4 DD F1 F2 HD HA HFD
  have x1 := cell_of_blk E3.out 1
  go_upto_if 53 with fail
  clear x1
  go_cut [11, 12] from 17 to 82 (fun many action W => many = .int .i64 F.length ∧ action = .int .i64 xa ∧ Hid (Fr [] WC W))
  case first =>
    have g0 := cell_of_blk E0.out 0
    have x1 := cell_of_blk E3.out 1
    rcases HR.out with hr | ⟨m, hr, hm⟩
    · have hre : (xr != -1) = false := by simp [hr]
      have hn := HN.out
      have hxa := HXA.out
      rw [if_pos hr] at hn hxa
      have hn' : ys.length = F.length := by omega
      clear hr
      go_wp2_with fail
      go_meet
      case rel => exact ⟨by rw [hn'], by rw [hxa], Lib.hid (Fr.refl _ _)⟩
    · have hre : (xr != -1) = true := by simp [hr]
      have hn := HN.out
      have hxa := HXA.out
      rw [if_neg (by omega)] at hn hxa
      rw [HFE.out, hr, Int.toNat_natCast, List.getD_eq_getElem?_getD, List.getElem?_map, List.getElem?_eq_getElem hm] at hxa
      simp only [Option.map_some, Option.getD_some] at hxa
      have hI := HIR.out.resolve_left (by omega)
      have HI := Lib.hid hI
      have HNN := Lib.hid hn
      have HXX := Lib.hid hxa
      subst hr
      clear hn hxa hI
      go_wp2_with fail
      refine (fIsIn_c _ _ _ _).mono ?_
      rintro e w00 ⟨rfl, rfl⟩
      rw [HI.out]
      obtain ⟨rb, ro, rcap, hv, hrc⟩ := ruRow_cells HD3.out.fl.sl m hm
      cases hv
      have e1 := hrc 1 _ rfl
      clear hrc
      go_wp2_with fail
      refine reg_mix (Fr [] WC) [0, 1, 9, 2, 3, 4, 5, 6, 7, 8, 10] (by kernel_rfl) (by kernel_rfl) (by kernel_rfl) rfl (Fr.drew _ _) ?_
      have FC : Fr [] WC WC.drew := Fr.drew _ _
      generalize WC.drew = WE at FC ⊢
      iterate 11 (refine mix_take1 (v := ?_) rfl rfl rfl rfl (fun w hS => ?_) ?_; rotate_left; (focus (have s0 := hS.cel g0 (by simp); have s1 := hS.cel x1 (by simp); have s2 := hS.cel e1 (by simp); clear hS; go_simp; rfl)); simp only [List.setIfInBounds_toArray, List.set_cons_succ, List.set_cons_zero])
      refine mix_end ?_
      have HFC := Lib.hid FC
      clear FC g0 x1 e1
      try go_wp2_with fail
      go_meet
      case rel => exact ⟨by rw [HNN.out], by rw [HXX.out], HFC⟩
  case rest =>
    obtain ⟨rfl, rfl, HFW⟩ := hcut
    obtain ⟨Wd, hWd⟩ : ∃ W : World, wc = W := ⟨_, rfl⟩
    rw [hWd] at HFW ⊢
    clear hWd
    have G1 := Lib.hid (HFW.out.keep E1.out (by simp)); have G3 := Lib.hid (HFW.out.keep E3.out (by simp)); have G4 := Lib.hid (HFW.out.keep E4.out (by simp)); have GD := Lib.hid (HFW.out.keep ED.out (by simp))
    have F4 := Lib.hid (F3.out.trans HFW.out)
    have HD4 := Lib.hid (HD3.out.same HFW.out)
    clear E0 E1 E3 E4 ED F3 HD3 HFW
    have x0 := cell_of_blk G3.out 0; have x2 := cell_of_blk G3.out 2; have x3 := cell_of_blk G3.out 3
    have hl3 := blk_lt G3.out
    go_upto_region 15 with fail
    have A2 := Lib.hid (alloc2' Wd (.cells #[.slice aP zs.length pP] 73) (.cells #[.func (.func 58) #[] #[.pointer (some ⟨Wd.heap.size, 0, none⟩), .pointer (some ⟨w.heap.size + 1, 0, none⟩)]] 144))
    have FX : Fr [] Wd ((Wd.alloc (.cells #[.slice aP zs.length pP] 73)).alloc (.cells #[.func (.func 58) #[] #[.pointer (some ⟨Wd.heap.size, 0, none⟩), .pointer (some ⟨w.heap.size + 1, 0, none⟩)]] 144)) := (Fr.alloc _ _ _).trans (Fr.alloc _ _ _)
    have HFX := Lib.hid FX
    have hszX : ((Wd.alloc (.cells #[.slice aP zs.length pP] 73)).alloc (.cells #[.func (.func 58) #[] #[.pointer (some ⟨Wd.heap.size, 0, none⟩), .pointer (some ⟨w.heap.size + 1, 0, none⟩)]] 144)).heap.size = Wd.heap.size + 1 + 1 := by simp
    have HSX := Lib.hid hszX
    clear x0 x2 x3 hl3 FX hszX
    generalize (Wd.alloc (.cells #[.slice aP zs.length pP] 73)).alloc (.cells #[.func (.func 58) #[] #[.pointer (some ⟨Wd.heap.size, 0, none⟩), .pointer (some ⟨w.heap.size + 1, 0, none⟩)]] 144) = WA at *
    have q0 := cell_of_blk (HFX.out.keep GD.out (by simp)) 0
    have x0 := cell_of_blk (HFX.out.keep G3.out (by simp)) 0; have x1 := cell_of_blk (HFX.out.keep G3.out (by simp)) 1; have x2 := cell_of_blk (HFX.out.keep G3.out (by simp)) 2; have x3 := cell_of_blk (HFX.out.keep G3.out (by simp)) 3
    have CL := Lib.hid (claims_c ⟨bd, .slice a ys.length cap, ys, f, .slice ac zsR.length pc, .slice ar b.rps.length pr, .slice af b.fas.length pf, zsR, b, ⟨ca, cd, at_, lv, fw, false⟩⟩ xa xr aF aP F.length pF zs.length pP WA)
    unfold dnV at CL
    simp only at CL
    go_wp2_with fail
    refine CL.out.mono ?_
    rintro e W0 ⟨rfl, hW0⟩
    have B2 := alloc2' WA (.cells #[.pointer (some ⟨bd, 0, none⟩)] 134) (.cells #[.int .i64 xa, .int .i64 xr, .slice aF F.length pF, .slice aP zs.length pP] 75)
    have FY : Fr [] WA ((WA.alloc (.cells #[.pointer (some ⟨bd, 0, none⟩)] 134)).alloc (.cells #[.int .i64 xa, .int .i64 xr, .slice aF F.length pF, .slice aP zs.length pP] 75)) := (Fr.alloc _ _ _).trans (Fr.alloc _ _ _)
    rw [← hW0] at B2 FY
    have HB2 := Lib.hid B2
    have F0 := Lib.hid (HFX.out.trans FY)
    have JP := Lib.hid (FY.keep A2.out.1 (by simp)); have JN := Lib.hid (FY.keep A2.out.2 (by simp))
    have HCL : Hid (∀ W, Fr [Wd.heap.size] W0 W → ClAt ⟨bd, .slice a ys.length cap, ys, f, .slice ac zsR.length pc, .slice ar b.rps.length pr, .slice af b.fas.length pf, zsR, b, ⟨ca, cd, at_, lv, fw, false⟩⟩ (WA.heap.size + 1) WA.heap.size xa xr (.slice aF F.length pF) (.slice aP zs.length pP) F W) := Lib.hid fun W hf => by
      have hs := HSX.out
      have hd : Fr [] Wd W := F0.out.step hf (fun i hi => by simp at hi; exact .inr (by omega))
      exact ⟨HD4.out.same hd, hf.keep B2.2 (by simp; omega), hf.keep B2.1 (by simp; omega), HFA.out.same (F4.out.trans hd)⟩
    have HZD := Lib.hid (HPR.out.same F4.out)
    have HBD := Lib.hid (HRB.out.same F4.out)
    have HD0 := Lib.hid (HD4.out.same F0.out)
    have K1 := Lib.hid (F0.out.keep G1.out (by simp)); have K4 := Lib.hid (F0.out.keep G4.out (by simp)); have KD := Lib.hid (F0.out.keep GD.out (by simp))
    have hb4 := blk_lt G4.out; have hbD := blk_lt GD.out; have hbP : Wd.heap.size < W0.heap.size := blk_lt JP.out
    clear hW0 B2 FY q0 x0 x1 x2 x3 CL A2 G1 G3 G4 GD HB2
    go_wp2_with fail
    refine (wpIn_wide (n := 3)).1 ?_
    refine wpIn_rangeFunc_ownH (F := Fence.wide) (n := 3) rfl (by omega) (gf := 96) (lb := #[.pointer (some ⟨WA.heap.size + 1, 0, none⟩), .pointer (some ⟨WA.heap.size, 0, none⟩)]) rfl trivial (fun _ _ => rfl)
      (claims_seq ⟨bd, .slice a ys.length cap, ys, f, .slice ac zsR.length pc, .slice ar b.rps.length pr, .slice af b.fas.length pf, zsR, b, ⟨ca, cd, at_, lv, fw, false⟩⟩ (WA.heap.size + 1) WA.heap.size xa xr (.slice aF F.length pF) (.slice aP zs.length pP) ⟨xa, xr, F, zs.map (·.l)⟩ rfl W0 Wd.heap.size HCL.out hFl HIR.out) KpB.trans (fun W l o o' hl h _ _ => KpB.put W l o o' hl h) (Below.refl _ _) (fun _ => rfl)
      (LpI Wd W0 b ⟨ca, cd, at_, lv, fw, false⟩ (zs.map (·.l)))
      (LpX Wd W0 (w.heap.size + 1 + 1 + 1 + 1) b ⟨ca, cd, at_, lv, fw, false⟩ (zs.map (·.l)))
      ?hI ?hIx ⟨_, zs, JP.out, HZD.out, rfl, Fr.refl _ _⟩
      (fun m a' W => ∃ Bx, W0.heap.size ≤ Bx ∧ W.heap[Bx]? = some (.cells #[.int .i64 m.1.x.kind, .int .i64 m.1.x.lo, .int .i64 m.1.x.hi, .bool m.1.x.neg, .bool m.1.want] 149 (0, 0)) ∧ ∃ (T : Nat → Value), a' = { tmps := #[T 0, T 1, T 2, T 3, T 4, T 5, T 6, T 7, .pointer (some ⟨w.heap.size + 1 + 1 + 1 + 1, 0, none⟩), .pointer (some ⟨w1.heap.size, 0, none⟩), T 10, T 11, T 12, T 13, .pointer (some ⟨Wd.heap.size + 1, 0, none⟩), .pointer (some ⟨Bx, 0, none⟩), .bool m.1.ok, T 17, T 18, T 19, T 20, T 21, T 22, T 23, T 24, T 25, T 26, T 27, T 28, T 29, T 30, T 31, T 32, T 33, T 34, T 35, T 36, T 37, T 38, T 39, T 40, T 41, T 42, T 43, T 44, T 45, T 46, T 47, T 48, T 49, T 50, T 51, T 52, T 53, T 54, T 55, T 56, T 57, T 58, T 59, T 60, T 61, T 62, T 63, T 64, T 65, T 66, T 67, T 68, T 69, T 70, T 71, T 72, T 73, T 74, T 75, T 76, T 77, T 78, T 79, T 80, T 81, T 82, T 83, T 84, T 85, T 86, T 87, T 88, T 89, T 90, T 91, T 92, T 93, T 94, T 95, T 96, T 97, T 98, T 99, T 100, T 101, T 102, T 103, T 104, T 105, T 106, T 107, T 108, T 109, T 110, T 111, T 112, T 113, T 114, T 115, T 116, T 117], defers := [] })
      ?hAx ?assign ?body ?done ?stop
    case hI =>
      rintro s X Y row ⟨v, zr, h1, h2, h3, h4⟩ hg hr
      refine ⟨v, zr, (hg.block _ (blk_lt h1) (fun e => ?_)).trans h1, h2, h3, h4.step (Fr.grown (fp := row.toList) hg (fun k hk => by simp [hk])) (fun i hi => .inr (hr i (by simpa using hi)).1)⟩
      have := (hr _ e.symm).1
      omega
    case hIx =>
      rintro jc s X Y row ⟨h0, h1, h2, h3⟩ hg hr
      refine ⟨h0, h1, h2.step (Fr.grown (fp := row.toList) hg (fun k hk => by simp [hk])) (fun i hi => .inr (hr i (by simpa using hi)).1), (hg.block _ (blk_lt h3) (fun e => ?_)).trans h3⟩
      have := (hr _ e.symm).1
      have := F0.out.size
      omega
    case hAx =>
      rintro m a' s X Y row ⟨Bx, hB, hc, hrest⟩ hg hr
      refine ⟨Bx, hB, (hg.block _ (blk_lt hc) (fun e => ?_)).trans hc, hrest⟩
      obtain ⟨_, o, ho, hn⟩ := hr _ e.symm
      rw [hc] at ho
      cases ho
      cases hn
    case assign =>
      rintro l pre ⟨⟨⟨mk, ml, mh, mn⟩, mw, mo⟩, hm⟩ W K ⟨v, zr, h1, h2, h3, h4⟩ hK
      have hWs := h4.size
      gi_wp2
      refine hK _ _ ((KeepsOthers.alloc _ _).from _) (KpB.of (Fr.alloc [Wd.heap.size] _ _) hWs) ⟨v, zr, heap_alloc_old _ h1, h2, h3, h4.trans (Fr.alloc _ _ _)⟩ ⟨W.heap.size, hWs, heap_alloc_new _ _, ?_⟩
      exact tmps_fix _ _ _ _ _ _ rfl rfl rfl rfl rfl rfl
    case body =>
      rintro l pre ⟨⟨⟨mk, ml, mh, mn⟩, mw, mo⟩, hm⟩ a' W hl hrec ⟨v, zr, h1, h2, h3, h4⟩ ⟨Bx, hB, hc, T, rfl⟩ hlt
      clear hl hrec hlt
      have hR : w.heap.size + 1 + 1 + 1 + 1 ≠ Wd.heap.size := by omega
      have L4 := Lib.hid (h4.keep K4.out (by simpa using hR))
      have r0 := cell_of_blk L4.out 0
      have y0 := free_of_blk L4.out 0
      have H1 := Lib.hid h1; have H2 := Lib.hid h2; have H3 := Lib.hid h3; have H4 := Lib.hid h4; have HBX := Lib.hid hc
      have hWs := h4.size
      have HSN : Hid (runC b ⟨ca, cd, at_, lv, fw, false⟩ (bare (pre ++ [(⟨⟨⟨mk, ml, mh, mn⟩, mw, mo⟩, hm⟩ : ClmO)])) (zs.map (·.l)) = runC b ⟨ca, cd, at_, lv, fw, false⟩ [⟨⟨mk, ml, mh, mn⟩, mw, mo⟩] (zr.map (·.l))) := Lib.hid (by rw [bare_snoc, runC_snoc, h3])
      have HNO : Hid (∀ W', Fr [Wd.heap.size] W W' → runC b ⟨ca, cd, at_, lv, fw, false⟩ [⟨⟨mk, ml, mh, mn⟩, mw, mo⟩] (zr.map (·.l)) = none → KeepsFrom W0.heap.size W W' → KeepsFrom W0.heap.size W (W'.setCell ⟨w.heap.size + 1 + 1 + 1 + 1, 0, none⟩ (.bool false)) ∧ LpX Wd W0 (w.heap.size + 1 + 1 + 1 + 1) b ⟨ca, cd, at_, lv, fw, false⟩ (zs.map (·.l)) .ret (pre ++ [(⟨⟨⟨mk, ml, mh, mn⟩, mw, mo⟩, hm⟩ : ClmO)]) (W'.setCell ⟨w.heap.size + 1 + 1 + 1 + 1, 0, none⟩ (.bool false))) := Lib.hid (by
        intro W' hf hn hk
        refine ⟨hk.trans ((KeepsOthers.setCell _ _ _).from _), rfl, by rw [HSN.out]; exact hn, ((h4.trans hf).mono (by simp)).trans (Fr.setCell _ _ (by simp)), heap_setCell_same (i := 0) _ (hf.keep L4.out (by simpa using hR))⟩)
      clear h1 h2 h3 h4 hc
      cases mo with
      | false =>
        have HN := Lib.hid (HNO.out W (Fr.refl _ _) rfl (KeepsFrom.refl _ _))
        gi_wp2
        exact HN.out
      | true =>
        have e0 := cell_of_blk HBX.out 0; have e1 := cell_of_blk HBX.out 1; have e2 := cell_of_blk HBX.out 2; have e3 := cell_of_blk HBX.out 3; have e4 := cell_of_blk HBX.out 4
        have hcd : cdB ⟨mk, ml, mh, mn⟩ = true := hm rfl
        have LD := Lib.hid (H4.out.keep KD.out (by simp; omega))
        have LN := Lib.hid (H4.out.keep JN.out (by simp))
        have L1 := Lib.hid (H4.out.keep K1.out (by simp; omega))
        have d0 := cell_of_blk LD.out 0
        have n0 := cell_of_blk LN.out 0
        have HDW := Lib.hid fun W' (hf : Fr [Wd.heap.size] W W') => HD4.out.same (F0.out.step (H4.out.trans hf) (fun i hi => by simp at hi; exact .inr (by omega)))
        have HFD := Lib.hid fun W' (hf : Fr [Wd.heap.size] W W') => (F0.out.step (H4.out.trans hf) (fun i hi => by simp at hi; exact .inr (by omega)) : Fr [] Wd W')
        have hBxP : Bx ≠ Wd.heap.size := by omega
        have hDP : w1.heap.size ≠ Wd.heap.size := by omega
        by_cases hk5 : mk = 5
        · subst hk5
          have CQ := Lib.hid fun W' hf => fQuestion_c _ ⟨5, ml, mh, mn⟩ W' (HDW.out W' hf)
          have CN := Lib.hid fun W' (hf : Fr [] W W') => fNext_c Wd (qnOf ⟨ca, cd, at_, lv, fw, false⟩ ⟨5, ml, mh, mn⟩) (mw != mn) Wd.heap.size (w.heap.size + 1) v zr _ _ _ zsR b W' (hf.keep H1.out (by simp)) (hf.keep L1.out (by simp)) H2.out HBD.out (HFD.out W' (hf.mono (by simp))) (Nat.le_refl _)
          have HTR := Lib.hid fun e W' W2 (hT : Taken Wd b (qnOf ⟨ca, cd, at_, lv, fw, false⟩ ⟨5, ml, mh, mn⟩) (mw != mn) Wd.heap.size zr W' e W2) => taken_run (x := ⟨5, ml, mh, mn⟩) hT rfl
          simp only at CQ
          generalize qnOf ⟨ca, cd, at_, lv, fw, false⟩ ⟨5, ml, mh, mn⟩ = q at *
          obtain ⟨qa, qb, qc, qd⟩ := q
          unfold qnV at CQ CN
          simp only at CQ CN
          gi_wp2
          refine reg_mixR (Fr [Wd.heap.size] W) [0, 1, 2, 3, 5, 6, 7, 8, 9, 10, 4, 11, 12] (by kernel_rfl) (by kernel_rfl) (by kernel_rfl) rfl (by kernel_rfl) (by rintro ⟨a, w, h⟩; exact h) (Fr.drew _ _) ?_
          have FC : Fr [] W W.drew := Fr.drew _ _
          generalize W.drew = WC2 at FC ⊢
          iterate 10 (refine mix_take1 (v := ?_) rfl rfl rfl rfl (fun w hS => ?_) ?_; rotate_left; (focus (have s0 := hS.cel e0 (by simpa using hBxP); have s1 := hS.cel e1 (by simpa using hBxP); have s2 := hS.cel e2 (by simpa using hBxP); have s3 := hS.cel e3 (by simpa using hBxP); have s4 := hS.cel e4 (by simpa using hBxP); have s5 := hS.cel d0 (by simpa using hDP); have s6 := hS.cel n0 (by simp); clear hS; go_simp; rfl)); simp only [List.setIfInBounds_toArray, List.set_cons_succ, List.set_cons_zero])
          refine mix_do rfl rfl rfl (fun K hK => ?_)
          go_simp
          refine (CQ.out _ (FC.mono (by simp))).mono ?_
          rintro e wq ⟨rfl, fq⟩
          have FC := FC.trans fq
          refine hK _ _ (FC.mono (by simp)) ?_
          clear hK K
          try simp only [Act.put, List.setIfInBounds_toArray, List.set_cons_succ, List.set_cons_zero]
          refine mix_do rfl rfl rfl (fun K hK => ?_)
          go_simp
          refine (CN.out _ FC).mono ?_
          rintro e wn hT
          obtain ⟨r, rfl, fn, ht, hf⟩ := HTR.out _ _ _ hT
          have FN := (FC.mono (fp2 := [Wd.heap.size]) (by simp)).trans fn
          refine hK _ _ FN ?_
          clear hK K hT
          try simp only [Act.put, List.setIfInBounds_toArray, List.set_cons_succ, List.set_cons_zero]
          (refine mix_take1 (v := ?_) rfl rfl rfl rfl (fun w hS => ?_) ?_; rotate_left; (focus (clear hS; go_simp; rfl)); simp only [List.setIfInBounds_toArray, List.set_cons_succ, List.set_cons_zero])
          refine mix_end ?_
          have hkf := keepsFrom_fr FN hbP
          have HN : Hid (r = false → _) := Lib.hid fun hr => HNO.out wn FN (hf hr) hkf
          have HY : Hid (r = true → KeepsFrom W0.heap.size W wn ∧ KpB W0.heap.size Wd.heap.size W wn ∧ LpI Wd W0 b ⟨ca, cd, at_, lv, fw, false⟩ (zs.map (·.l)) (pre ++ [(⟨⟨⟨5, ml, mh, mn⟩, mw, true⟩, hm⟩ : ClmO)]) wn) := Lib.hid fun hr => by
            obtain ⟨v', zr', g1, g2, g3⟩ := ht hr
            exact ⟨hkf, KpB.of FN hWs, v', zr', g1, g2, by rw [HSN.out]; exact g3, H4.out.trans FN⟩
          have LR := Lib.hid (FN.keep L4.out (by simpa using hR))
          clear r0 y0 e0 e1 e2 e3 e4 d0 n0 FC FN fn ht hf fq hkf
          have r0 := cell_of_blk LR.out 0
          have y0 := free_of_blk LR.out 0
          cases r with
          | false =>
            have HN2 := Lib.hid (HN.out rfl)
            gi_wp2
            exact HN2.out
          | true =>
            have HY2 := Lib.hid (HY.out rfl)
            gi_wp2
            exact HY2.out
        · have hke : (mk == 5) = false := by simpa using hk5
          have HRN : Hid (runC b ⟨ca, cd, at_, lv, fw, false⟩ [⟨⟨mk, ml, mh, mn⟩, mw, true⟩] (zr.map (·.l)) = if plainB ⟨ca, cd, at_, lv, fw, false⟩ ⟨mk, ml, mh, mn⟩ == mw then some (zr.map (·.l)) else none) := Lib.hid (by
            unfold runC
            simp only [if_true, takeF, hk5, if_false]
            cases plainB ⟨ca, cd, at_, lv, fw, false⟩ ⟨mk, ml, mh, mn⟩ == mw <;> rfl)
          have CP := Lib.hid fun W' hf => fPlain_c _ ⟨mk, ml, mh, mn⟩ W' (HDW.out W' hf) hcd
          simp only at CP
          clear hk5
          gi_wp2
          refine reg_mixR (Fr [] W) [0, 1, 2, 4, 5, 3, 6, 7] (by kernel_rfl) (by kernel_rfl) (by kernel_rfl) rfl (by kernel_rfl) (by rintro ⟨a, w, h⟩; exact h) (Fr.drew _ _) ?_
          have FC : Fr [] W W.drew := Fr.drew _ _
          generalize W.drew = WC2 at FC ⊢
          iterate 5 (refine mix_take1 (v := ?_) rfl rfl rfl rfl (fun w hS => ?_) ?_; rotate_left; (focus (have s0 := hS.cel e0 (by simp); have s1 := hS.cel e1 (by simp); have s2 := hS.cel e2 (by simp); have s3 := hS.cel e3 (by simp); have s4 := hS.cel e4 (by simp); have s5 := hS.cel d0 (by simp); clear hS; go_simp; rfl)); simp only [List.setIfInBounds_toArray, List.set_cons_succ, List.set_cons_zero])
          refine mix_do rfl rfl rfl (fun K hK => ?_)
          go_simp
          refine (CP.out _ (FC.mono (by simp))).mono ?_
          rintro e wq ⟨rfl, fq⟩
          have FC := FC.trans fq
          refine hK _ _ FC ?_
          clear hK K
          try simp only [Act.put, List.setIfInBounds_toArray, List.set_cons_succ, List.set_cons_zero]
          iterate 2 (refine mix_take1 (v := ?_) rfl rfl rfl rfl (fun w hS => ?_) ?_; rotate_left; (focus (clear hS; go_simp; rfl)); simp only [List.setIfInBounds_toArray, List.set_cons_succ, List.set_cons_zero])
          refine mix_end ?_
          have FN := FC.mono (fp2 := [Wd.heap.size]) (by simp)
          have hkf := keepsFrom_fr FN hbP
          obtain ⟨r, hr⟩ : ∃ r, (plainB ⟨ca, cd, at_, lv, fw, false⟩ ⟨mk, ml, mh, mn⟩ == mw) = r := ⟨_, rfl⟩
          rw [hr] at HRN ⊢
          have HN : Hid (r = false → _) := Lib.hid fun h => HNO.out wq FN (by rw [HRN.out, h]; rfl) hkf
          have HY : Hid (r = true → KeepsFrom W0.heap.size W wq ∧ KpB W0.heap.size Wd.heap.size W wq ∧ LpI Wd W0 b ⟨ca, cd, at_, lv, fw, false⟩ (zs.map (·.l)) (pre ++ [(⟨⟨⟨mk, ml, mh, mn⟩, mw, true⟩, hm⟩ : ClmO)]) wq) := Lib.hid fun h => by
            exact ⟨hkf, KpB.of FN hWs, v, zr, FC.keep H1.out (by simp), H2.out, by rw [HSN.out, HRN.out, h]; rfl, H4.out.trans FN⟩
          have LR := Lib.hid (FC.keep L4.out (by simp))
          clear r0 y0 e0 e1 e2 e3 e4 d0 n0 FC FN fq hkf hr
          have r0 := cell_of_blk LR.out 0
          have y0 := free_of_blk LR.out 0
          cases r with
          | false =>
            have HN2 := Lib.hid (HN.out rfl)
            gi_wp2
            exact HN2.out
          | true =>
            have HY2 := Lib.hid (HY.out rfl)
            gi_wp2
            exact HY2.out
    case done =>
      rintro E ys' W hE hS ⟨v, zr, h1, h2, h3, h4⟩ hK
      obtain ⟨av, pv, rfl⟩ := h2.sl.val
      have hzr := h2.sl.len
      have hR : w.heap.size + 1 + 1 + 1 + 1 ≠ Wd.heap.size := by omega
      have L4 := Lib.hid (h4.keep K4.out (by simpa using hR))
      have r0 := cell_of_blk L4.out 0
      have y0 := free_of_blk L4.out 0
      have c0 : W.cell? ⟨Wd.heap.size, 0, none⟩ = some (.slice av zr.length pv) := cell_of_blk h1 0
      have hbe : bare ys' = claimsL f ⟨xa, xr, F, zs.map (·.l)⟩ := hS
      rw [hbe] at h3
      have HV : Hid (checkF f b ⟨ca, cd, at_, lv, fw, false⟩ ⟨xa, xr, F, zs.map (·.l)⟩ = ((zr.length : Int) == 0)) := Lib.hid (by
        rw [HCK.out, h3]
        cases zr with
        | nil => rfl
        | cons z zr => simp; omega)
      have HKE := Lib.hid hK
      have HW := Lib.hid (F4.out.trans F0.out)
      have H4 := Lib.hid h4
      clear h1 h2 h3 hS hbe hK h4
      go_wp2_with fail
      have KS := heap_setCell_same (i := 0) (.bool ((zr.length : Int) == 0)) L4.out
      have FS : Fr [w.heap.size + 1 + 1 + 1 + 1] W (W.setCell ⟨w.heap.size + 1 + 1 + 1 + 1, 0, none⟩ (.bool ((zr.length : Int) == 0))) := Fr.setCell _ _ (by simp)
      have hE2 : E ≠ w.heap.size + 1 + 1 + 1 + 1 := by have := F0.out.size; omega
      have hK3 := FS.keep HKE.out (by simpa using hE2)
      have FW := (HW.out.step H4.out (fun i hi => by simp at hi; have := F4.out.size; exact .inr (by omega))).step FS (fun i hi => by simp at hi; exact .inr (by omega))
      have FQ := FW.step (Fr.grown (fp := [E]) (grownBy_putObj' (W.setCell ⟨w.heap.size + 1 + 1 + 1 + 1, 0, none⟩ (.bool ((zr.length : Int) == 0))) E (.deferred none)) (fun k hk => by cases hk; simp)) (fun i hi => by simp at hi; have := F4.out.size; have := F0.out.size; exact .inr (by omega))
      refine ⟨by simp, .inl ⟨_, _, rfl, run_takeDeferred hK3, ?_⟩⟩
      have k0 : ((W.setCell ⟨w.heap.size + 1 + 1 + 1 + 1, 0, none⟩ (.bool ((zr.length : Int) == 0))).putObj E (.deferred none)).cell? ⟨w.heap.size + 1 + 1 + 1 + 1, 0, none⟩ = some (.bool ((zr.length : Int) == 0)) := cell_of_blk ((World.putObj_heap_other (fun e => hE2 e.symm)).trans KS) 0
      generalize (W.setCell ⟨w.heap.size + 1 + 1 + 1 + 1, 0, none⟩ (.bool ((zr.length : Int) == 0))).putObj E (.deferred none) = W3 at *
      refine ⟨.bool ((zr.length : Int) == 0), by simp [results, Tryz.results20, go_sem, k0]; try rfl, ?_⟩
      exact ⟨by rw [HV.out], FQ⟩
    case stop =>
      rintro E jc pre W hE hSp ⟨rfl, h1, h2, h3⟩ hK
      have HV : Hid (checkF f b ⟨ca, cd, at_, lv, fw, false⟩ ⟨xa, xr, F, zs.map (·.l)⟩ = false) := Lib.hid (by
        obtain ⟨rest, hrest⟩ := hSp
        have := runC_app b ⟨ca, cd, at_, lv, fw, false⟩ (bare pre) rest (zs.map (·.l)) h1
        have h5 : runC b ⟨ca, cd, at_, lv, fw, false⟩ (claimsL f ⟨xa, xr, F, zs.map (·.l)⟩) (zs.map (·.l)) = none := by rw [← hrest]; exact this
        rw [HCK.out]
        exact decide_eq_false (by rw [h5]; simp))
      have HKE := Lib.hid hK
      have H2 := Lib.hid h2
      have H3 := Lib.hid h3
      have HW := Lib.hid (F4.out.trans F0.out)
      clear h1 h2 h3 hSp hK
      refine wpIn_wide.2 ?_
      go_wp2_with fail
      have hE2 : E ≠ w.heap.size + 1 + 1 + 1 + 1 := by have := F0.out.size; omega
      have FW := HW.out.step H2.out (fun i hi => by simp at hi; have := F4.out.size; exact .inr (by omega))
      have FQ := FW.step (Fr.grown (fp := [E]) (grownBy_putObj' W E (.deferred none)) (fun k hk => by cases hk; simp)) (fun i hi => by simp at hi; have := F4.out.size; have := F0.out.size; exact .inr (by omega))
      refine ⟨by simp, .inl ⟨_, _, rfl, run_takeDeferred HKE.out, ?_⟩⟩
      have k0 : (W.putObj E (.deferred none)).cell? ⟨w.heap.size + 1 + 1 + 1 + 1, 0, none⟩ = some (.bool false) := cell_of_blk ((World.putObj_heap_other (fun e => hE2 e.symm)).trans H3.out) 0
      generalize W.putObj E (.deferred none) = W3 at *
      refine ⟨.bool false, by simp [results, Tryz.results20, go_sem, k0]; try rfl, ?_⟩
      exact ⟨by rw [HV.out], FQ⟩

end Go.Proofs.YtahfpadaoobkfaaGreatDoor

/-
  filter: Check.
-/
namespace Go.Proofs.YtahfpadaoobkfaaGreatDoor
open Go.RowKit Go.Lib

theorem fCheck_c (v : Value) (ys : List RuV) (f : Fl) (vc vp vf : Value) (zsR : List ClV) (b : Rb) (c : Ca) (vF vP : Value) (x : Dn) (zs : List PrV) (w : World) (h : FlAt w v ys f) (hb : RbAt w vc vp vf zsR b) (hc : CaOk c) (hF : IntsAt w vF x.fails) (hz : PrAt w vP zs) (hzx : zs.map (·.l) = x.prfs) (hn : x.fails.length ≤ 1000000 ∧ zs.length ≤ 1000000) :
    Calls Tryz.prog 20 #[flV v f.dfl, rbV vc vp vf, caV c, dnV x.act x.rule vF vP] w (Chk (goodF f b c && checkF f b c x) w) := by
  obtain ⟨ca, cd, at_, lv, fw, bk⟩ := c
  obtain ⟨xa, xr, F, P⟩ := x
  simp only at hF hzx hn
  subst hzx
  obtain ⟨aF, pF, rfl⟩ := hF.val
  obtain ⟨aP, pP, rfl⟩ := hz.sl.val
  cases hg : goodF f b ⟨ca, cd, at_, lv, fw, bk⟩ with
  | false => exact fCheck_bad v ys f vc vp vf zsR b ca cd at_ lv fw bk xa xr aF aP F.length pF zs.length pP w h hb hc hg
  | true =>
    rw [Bool.true_and]
    cases bk with
    | true =>
      have e : checkF f b ⟨ca, cd, at_, lv, fw, true⟩ ⟨xa, xr, F, zs.map (·.l)⟩ = (decide (xr = -2) && decide (xa = 1) && decide (F.length + zs.length = 0)) := by
        unfold checkF
        simp only [if_true, List.length_map]
      rw [e]
      exact fCheck_back v ys f vc vp vf zsR b ca cd at_ lv fw true xa xr aF aP F.length pF zs.length pP w h hb hc hg rfl hn
    | false =>
      have hrl : f.rus.length = ys.length := by rw [h.eq, List.length_map]
      by_cases hr1 : xr = -1
      · by_cases hbad : F.length = ys.length ∧ xa = f.dfl
        · exact fCheck_main v ys f vc vp vf zsR b ca cd at_ lv fw false xa xr F aF aP pF pP zs w h hb hc hg rfl (.inl hr1) (by rw [if_pos hr1, hbad.1]) (by rw [if_pos hr1, hbad.2]) hF hz
        · have e : checkF f b ⟨ca, cd, at_, lv, fw, false⟩ ⟨xa, xr, F, zs.map (·.l)⟩ = false := by
            unfold checkF
            simp only [Bool.false_eq_true, if_false, hr1, if_true]
            by_cases h1 : F.length = f.rus.length
            · have h2 : xa ≠ f.dfl := fun e => hbad ⟨by rw [h1, hrl], e⟩
              simp [h2]
            · simp [h1]
          rw [e]
          exact fCheck_off0 v ys f vc vp vf zsR b ca cd at_ lv fw false xa xr aF aP F.length pF zs.length pP w h hb hc hg rfl hr1 (fun h1 h2 => hbad ⟨h1, h2⟩)
      · cases hi : isInB xr 0 ((ys.length : Int) - 1) with
        | false =>
          have e : checkF f b ⟨ca, cd, at_, lv, fw, false⟩ ⟨xa, xr, F, zs.map (·.l)⟩ = false := by
            unfold checkF
            simp only [Bool.false_eq_true, if_false, hr1]
            rw [hrl, hi]
            rfl
          rw [e]
          exact fCheck_none v ys f vc vp vf zsR b ca cd at_ lv fw false xa xr aF aP F.length pF zs.length pP w h hb hc hg rfl hr1 hi
        | true =>
          have hb2 := isInB_iff.1 hi
          obtain ⟨m, rfl⟩ := Int.eq_ofNat_of_zero_le hb2.1
          have hm : m < ys.length := by omega
          have hga : (f.rus.getD m default).act = ys[m].x.act := by
            rw [h.eq, List.getD_eq_getElem?_getD, List.getElem?_map, List.getElem?_eq_getElem hm]; rfl
          by_cases hbad : F.length = m ∧ xa = ys[m].x.act
          · exact fCheck_main v ys f vc vp vf zsR b ca cd at_ lv fw false xa m F aF aP pF pP zs w h hb hc hg rfl (.inr ⟨m, rfl, hm⟩) (by rw [if_neg hr1, hbad.1]) (by rw [if_neg hr1, Int.toNat_natCast, hga, hbad.2]) hF hz
          · have e : checkF f b ⟨ca, cd, at_, lv, fw, false⟩ ⟨xa, m, F, zs.map (·.l)⟩ = false := by
              unfold checkF
              simp only [Bool.false_eq_true, if_false, hr1]
              rw [Int.toNat_natCast, hga]
              by_cases h1 : F.length = m
              · have h2 : xa ≠ ys[m].x.act := fun e => hbad ⟨h1, e⟩
                simp [h2]
              · have h1' : ¬ ((F.length : Int) = m) := by omega
                rw [decide_eq_false h1', Bool.and_false, Bool.false_and, Bool.false_and]
            rw [e]
            exact fCheck_off1 v ys f vc vp vf zsR b ca cd at_ lv fw false xa m aF aP F.length pF zs.length pP w h hb hc hg rfl m rfl hm (fun h1 h2 => hbad ⟨h1, h2⟩)

end Go.Proofs.YtahfpadaoobkfaaGreatDoor
