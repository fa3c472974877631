/-
  statute: so for every number; slices.Contains; the predicates of isRight.
-/
import Derived.Test.YtfidioedjmjddaaGreatQSJ
namespace Go.Proofs.YtfidioedjmjddaaGreat
open Go.RowKit Go.Lib Go.Maps

theorem so_ok (J : Jn) (n : Nat) (hn : n < 20) : SoOk J n := by
  induction n using Nat.strongRecOn with
  | ind n ih =>
    refine so_of_find J n hn (find_of_so J n fun m h0 h1 => ?_)
    obtain ⟨k, rfl⟩ := Int.eq_ofNat_of_zero_le h0
    exact ih k (by omega) (by omega)

set_option maxRecDepth 100000 in
set_option maxHeartbeats 1000000 in
theorem indexInt_c (v : Value) (zs : List Int) (x : Int) (w : World) (h : IntsAt w v zs) :
    Calls Tryz.prog 86 #[v, .int .i64 x] w fun e w' => e = .returned (.int .i64 (idxN (fun k => x == zs.getD k 0) zs.length)) ∧ w = w' := by
  obtain ⟨a, cap, rfl⟩ := h.val
  have hlen := h.len
  have HS := Lib.hid h; clear h
  go_enter Tryz.func86, Tryz.ntmps86
  go_wp2_with fail
  go_loopw [8] (fun i wr => ∃ k : Nat, k ≤ zs.length ∧ i = .int .i64 k ∧ w = wr ∧ Hid (∀ j, j < k → (x == zs.getD j 0) = false)) (fun i _ => zs.length - (intOf i).toNat)
  case atStart => exact ⟨0, Nat.zero_le _, rfl, rfl, Lib.hid fun j h => by omega⟩
  case round =>
    obtain ⟨k, hk, rfl, rfl, HP⟩ := hrel
    by_cases hlt : k < zs.length
    · obtain ⟨b, off, ha, hc⟩ := HS.out.at_ (by omega)
      subst ha
      have c0 := hc k (.int .i64 (zs.getD k 0)) (by simp [hlt])
      clear hc
      cases hb : (x == zs.getD k 0) with
      | true =>
        have HI : Hid (idxN (fun k => x == zs.getD k 0) zs.length = k) := Lib.hid (idxN_some hlt hb HP.out)
        obtain ⟨y, hy⟩ : ∃ y, y = zs.getD k 0 := ⟨_, rfl⟩
        rw [← hy] at c0 hb
        clear hy
        go_wp2_with fail
        go_ret
        exact ⟨by rw [HI.out]; rfl, rfl⟩
      | false =>
        have Hb0 := Lib.hid hb
        have HN : Hid (∀ j, j < k + 1 → (x == zs.getD j 0) = false) := Lib.hid fun j h => by
          rcases Nat.lt_or_ge j k with h1 | h1
          · exact HP.out j h1
          · obtain rfl : j = k := by omega
            exact Hb0.out
        clear Hb0
        obtain ⟨y, hy⟩ : ∃ y, y = zs.getD k 0 := ⟨_, rfl⟩
        rw [← hy] at c0 hb
        clear hy
        go_wp2_with fail
        go_roundw
        case rel => exact ⟨k + 1, by omega, by go_num, by first | rfl | trivial, HN⟩
        case measure => simp [intOf]; omega
    · obtain rfl : k = zs.length := by omega
      go_wp2_with fail
      go_ret
      exact ⟨by rw [idxN_none HP.out]; rfl, rfl⟩

theorem contains_any (l : List Int) (x : Int) : l.any (fun y => x == y) = l.contains x := by
  induction l with
  | nil => rfl
  | cons a l ih => rw [List.any_cons, List.contains_cons, ih]
theorem contInt_c (v : Value) (zs : List Int) (x : Int) (w : World) (h : IntsAt w v zs) :
    Calls Tryz.prog 78 #[v, .int .i64 x] w fun e w' => e = .returned (.bool (zs.contains x)) ∧ w = w' := by
  have c := Lib.hid (indexInt_c v zs x w h)
  rw [← contains_any, ← anyN_list zs (fun y => x == y) 0, ← idxN_ge]
  generalize idxN (fun k => x == zs.getD k 0) zs.length = r at *
  clear h
  go_enter Tryz.func78, Tryz.ntmps78
  go_wp2_with (go_at_call 86; refine c.out.mono ?_; rintro e w1 ⟨rfl, rfl⟩)
  go_ret
  exact ⟨rfl, rfl⟩

/-- The variables that isRight's predicates lean on. -/
structure REnv (J : Jn) (B3 B4 B5 B7 B8 : Nat) (x : Fd) (vl : Value) (l : List Fd) (w : World) : Prop where
  h3 : w.heap[B3]? = some (.cells #[.pointer (some ⟨J.bj, 0, none⟩)] 86 (0, 0))
  h4 : w.heap[B4]? = some (.cells #[.int .i64 x.says, .bool x.holds, .int .i64 x.fact, .int .i64 x.cl] 62 (0, 0))
  h5 : w.heap[B5]? = some (.cells #[vl] 34 (0, 0))
  h7 : w.heap[B7]? = some (.cells #[.func (.func 72) #[] #[.pointer (some ⟨B5, 0, none⟩)]] 116 (0, 0))
  h8 : w.heap[B8]? = some (.cells #[.func (.func 75) #[] #[.pointer (some ⟨B3, 0, none⟩), .pointer (some ⟨B7, 0, none⟩)]] 77 (0, 0))
  js : JS J w
  sl : Sl w vl l.length (l.flatMap fdC)
theorem REnv.same {J : Jn} {B3 B4 B5 B7 B8 : Nat} {x : Fd} {vl : Value} {l : List Fd} {w w' : World} (h : REnv J B3 B4 B5 B7 B8 x vl l w) (hf : Fr [] w w') : REnv J B3 B4 B5 B7 B8 x vl l w' :=
  ⟨hf.keep h.h3 (by simp), hf.keep h.h4 (by simp), hf.keep h.h5 (by simp), hf.keep h.h7 (by simp), hf.keep h.h8 (by simp), h.js.same hf, h.sl.same hf⟩

set_option maxRecDepth 100000 in
set_option maxHeartbeats 1000000 in
theorem right11_c (y : Fd) (Bn Bh : Nat) (n : Int) (h : Bool) (w : World) (hn : w.heap[Bn]? = some (.cells #[.int .i64 n] 3 (0, 0))) (hh : w.heap[Bh]? = some (.cells #[.bool h] 4 (0, 0))) :
    Calls Tryz.prog 74 #[fdV y, .pointer (some ⟨Bn, 0, none⟩), .pointer (some ⟨Bh, 0, none⟩)] w fun e w' => e = .returned (.bool (decide (y.says = n) && y.holds == h)) ∧ Fr [] w w' := by
  obtain ⟨y0, y1, y2, y3⟩ := y
  have k1 := heap_alloc_old (.cells #[.int .i64 y0, .bool y1, .int .i64 y2, .int .i64 y3] 62) hn
  have k2 := heap_alloc_old (.cells #[.int .i64 y0, .bool y1, .int .i64 y2, .int .i64 y3] 62) hh
  have c1 : (w.alloc (.cells #[.int .i64 y0, .bool y1, .int .i64 y2, .int .i64 y3] 62)).cell? ⟨Bn, 0, none⟩ = some (.int .i64 n) := cell_of_blk k1 0
  have c2 : (w.alloc (.cells #[.int .i64 y0, .bool y1, .int .i64 y2, .int .i64 y3] 62)).cell? ⟨Bh, 0, none⟩ = some (.bool h) := cell_of_blk k2 0
  clear k1 k2 hn hh
  unfold fdV
  simp only
  by_cases h1 : y0 = n
  · subst h1
    go_enter Tryz.func74, Tryz.ntmps74
    go_wp2_with fail
    go_ret
    exact ⟨by simp, Fr.alloc _ _ _⟩
  · go_enter Tryz.func74, Tryz.ntmps74
    go_wp2_with fail
    go_ret
    exact ⟨by simp [h1], Fr.alloc _ _ _⟩

set_option maxRecDepth 100000 in
set_option maxHeartbeats 1000000 in
set_option maxRecDepth 100000 in
theorem right1_c (B5 : Nat) (vl : Value) (l : List Fd) (n : Int) (h : Bool) (w : World) (h5 : w.heap[B5]? = some (.cells #[vl] 34 (0, 0))) (hs : Sl w vl l.length (l.flatMap fdC)) :
    Calls Tryz.prog 72 #[.int .i64 n, .bool h, .pointer (some ⟨B5, 0, none⟩)] w fun e w' => e = .returned (.bool (findsB l n h)) ∧ Fr [] w w' := by
  obtain ⟨a, cap, rfl⟩ := hs.val
  have A2 := alloc2' w (.cells #[.int .i64 n] 3) (.cells #[.bool h] 4)
  have F2 : Fr [] w ((w.alloc (.cells #[.int .i64 n] 3)).alloc (.cells #[.bool h] 4)) := (Fr.alloc _ _ _).trans (Fr.alloc _ _ _)
  have c5 : ((w.alloc (.cells #[.int .i64 n] 3)).alloc (.cells #[.bool h] 4)).cell? ⟨B5, 0, none⟩ = some (.slice a l.length cap) := cell_of_blk (F2.keep h5 (by simp)) 0
  have CC : Hid (Calls Tryz.prog 73 #[.slice a l.length cap, .func (.func 74) #[] #[.pointer (some ⟨w.heap.size, 0, none⟩), .pointer (some ⟨w.heap.size + 1, 0, none⟩)]] ((w.alloc (.cells #[.int .i64 n] 3)).alloc (.cells #[.bool h] 4)) fun e w' => e = .returned (.bool (findsB l n h)) ∧ Fr [] w w') := Lib.hid (by
    refine (cfFd_c 74 _ (fun _ _ => rfl) a cap l (fun k => decide ((l.getD k default).says = n) && (l.getD k default).holds == h) (fun _ W => Fr [] ((w.alloc (.cells #[.int .i64 n] 3)).alloc (.cells #[.bool h] 4)) W) _ (fun k W hJ => hs.same (F2.trans hJ)) ?_ (Fr.refl _ _)).mono ?_
    · intro k W hk _ hJ
      refine (right11_c (l.getD k default) _ _ n h W (hJ.keep A2.1 (by simp)) (hJ.keep A2.2 (by simp))).mono ?_
      rintro e w' ⟨rfl, f⟩
      exact ⟨rfl, hJ.trans f⟩
    · rintro e w' ⟨rfl, k, hJ⟩
      exact ⟨by rw [anyN_list l (fun y => decide (y.says = n) && y.holds == h) default]; rfl, F2.trans hJ⟩)
  clear h5 hs A2 F2
  go_enter Tryz.func72, Tryz.ntmps72
  go_wp2_with (first | (go_at_call 73; refine CC.out.mono ?_; rintro e w1 ⟨rfl, f1⟩; have F1 := Lib.hid f1; clear f1))
  go_ret
  exact ⟨rfl, F1.out⟩

end Go.Proofs.YtfidioedjmjddaaGreat

/-
  statute: the predicates of isRight, second part.
-/
namespace Go.Proofs.YtfidioedjmjddaaGreat
open Go.RowKit Go.Lib Go.Maps

set_option maxRecDepth 100000 in
theorem right3_c {J : Jn} {B3 B4 B5 B7 B8 : Nat} {x : Fd} {vl : Value} {l : List Fd} (n : Int) (w : World) (h : REnv J B3 B4 B5 B7 B8 x vl l w) :
    Calls Tryz.prog 79 #[.int .i64 n, .pointer (some ⟨B7, 0, none⟩)] w fun e w' => e = .returned (.bool (!findsB l n true)) ∧ Fr [] w w' := by
  have c7 : w.cell? ⟨B7, 0, none⟩ = some (.func (.func 72) #[] #[.pointer (some ⟨B5, 0, none⟩)]) := cell_of_blk h.h7 0
  have C := Lib.hid (right1_c B5 vl l n true w h.h5 h.sl)
  clear h
  go_enter Tryz.func79, Tryz.ntmps79
  go_wp2_with (first | (go_at_call 72; refine C.out.mono ?_; rintro e w1 ⟨rfl, f1⟩; have F1 := Lib.hid f1; clear f1))
  go_ret
  exact ⟨rfl, F1.out⟩
set_option maxRecDepth 100000 in
theorem cf_right3 {J : Jn} {B3 B4 B5 B7 B8 : Nat} {x : Fd} {vl : Value} {l : List Fd} (v : Value) (zs : List Int) (w : World) (h : REnv J B3 B4 B5 B7 B8 x vl l w) (hz : IntsAt w v zs) :
    Calls Tryz.prog 58 #[v, .func (.func 79) #[] #[.pointer (some ⟨B7, 0, none⟩)]] w fun e w' => e = .returned (.bool (zs.any fun n => !findsB l n true)) ∧ Fr [] w w' := by
  obtain ⟨a, cap, rfl⟩ := hz.val
  refine (cfInt_c 79 #[.pointer (some ⟨B7, 0, none⟩)] (fun _ _ => rfl) a cap zs (fun k => (fun n => !findsB l n true) (zs.getD k 0)) (fun _ W => Fr [] w W) w (fun k W hJ => hz.same hJ) ?_ (Fr.refl _ _)).mono ?_
  · intro k W hk _ hJ
    refine (right3_c (zs.getD k 0) W (h.same hJ)).mono ?_
    rintro e w' ⟨rfl, f⟩
    exact ⟨rfl, hJ.trans f⟩
  · rintro e w' ⟨rfl, k, hJ⟩
    exact ⟨by rw [anyN_list zs (fun n => !findsB l n true) 0], hJ⟩

set_option maxRecDepth 100000 in
theorem right4_c {J : Jn} {B3 B4 B5 B7 B8 : Nat} {x : Fd} {vl : Value} {l : List Fd} (n : Int) (w : World) (h : REnv J B3 B4 B5 B7 B8 x vl l w) :
    Calls Tryz.prog 80 #[.int .i64 n, .pointer (some ⟨B7, 0, none⟩)] w fun e w' => e = .returned (.bool (!findsB l n false)) ∧ Fr [] w w' := by
  have c7 : w.cell? ⟨B7, 0, none⟩ = some (.func (.func 72) #[] #[.pointer (some ⟨B5, 0, none⟩)]) := cell_of_blk h.h7 0
  have C := Lib.hid (right1_c B5 vl l n false w h.h5 h.sl)
  clear h
  go_enter Tryz.func80, Tryz.ntmps80
  go_wp2_with (first | (go_at_call 72; refine C.out.mono ?_; rintro e w1 ⟨rfl, f1⟩; have F1 := Lib.hid f1; clear f1))
  go_ret
  exact ⟨rfl, F1.out⟩
set_option maxRecDepth 100000 in
theorem cf_right4 {J : Jn} {B3 B4 B5 B7 B8 : Nat} {x : Fd} {vl : Value} {l : List Fd} (v : Value) (zs : List Int) (w : World) (h : REnv J B3 B4 B5 B7 B8 x vl l w) (hz : IntsAt w v zs) :
    Calls Tryz.prog 58 #[v, .func (.func 80) #[] #[.pointer (some ⟨B7, 0, none⟩)]] w fun e w' => e = .returned (.bool (zs.any fun n => !findsB l n false)) ∧ Fr [] w w' := by
  obtain ⟨a, cap, rfl⟩ := hz.val
  refine (cfInt_c 80 #[.pointer (some ⟨B7, 0, none⟩)] (fun _ _ => rfl) a cap zs (fun k => (fun n => !findsB l n false) (zs.getD k 0)) (fun _ W => Fr [] w W) w (fun k W hJ => hz.same hJ) ?_ (Fr.refl _ _)).mono ?_
  · intro k W hk _ hJ
    refine (right4_c (zs.getD k 0) W (h.same hJ)).mono ?_
    rintro e w' ⟨rfl, f⟩
    exact ⟨rfl, hJ.trans f⟩
  · rintro e w' ⟨rfl, k, hJ⟩
    exact ⟨by rw [anyN_list zs (fun n => !findsB l n false) 0], hJ⟩

set_option maxRecDepth 100000 in
theorem right21_c {J : Jn} {B3 B4 B5 B7 B8 : Nat} {x : Fd} {vl : Value} {l : List Fd} (n : Int) (w : World) (h : REnv J B3 B4 B5 B7 B8 x vl l w) :
    Calls Tryz.prog 76 #[.int .i64 n, .pointer (some ⟨B7, 0, none⟩)] w fun e w' => e = .returned (.bool (findsB l n false)) ∧ Fr [] w w' := by
  have c7 : w.cell? ⟨B7, 0, none⟩ = some (.func (.func 72) #[] #[.pointer (some ⟨B5, 0, none⟩)]) := cell_of_blk h.h7 0
  have C := Lib.hid (right1_c B5 vl l n false w h.h5 h.sl)
  clear h
  go_enter Tryz.func76, Tryz.ntmps76
  go_wp2_with (first | (go_at_call 72; refine C.out.mono ?_; rintro e w1 ⟨rfl, f1⟩; have F1 := Lib.hid f1; clear f1))
  go_ret
  exact ⟨rfl, F1.out⟩
set_option maxRecDepth 100000 in
theorem cf_right21 {J : Jn} {B3 B4 B5 B7 B8 : Nat} {x : Fd} {vl : Value} {l : List Fd} (v : Value) (zs : List Int) (w : World) (h : REnv J B3 B4 B5 B7 B8 x vl l w) (hz : IntsAt w v zs) :
    Calls Tryz.prog 58 #[v, .func (.func 76) #[] #[.pointer (some ⟨B7, 0, none⟩)]] w fun e w' => e = .returned (.bool (zs.any fun n => findsB l n false)) ∧ Fr [] w w' := by
  obtain ⟨a, cap, rfl⟩ := hz.val
  refine (cfInt_c 76 #[.pointer (some ⟨B7, 0, none⟩)] (fun _ _ => rfl) a cap zs (fun k => (fun n => findsB l n false) (zs.getD k 0)) (fun _ W => Fr [] w W) w (fun k W hJ => hz.same hJ) ?_ (Fr.refl _ _)).mono ?_
  · intro k W hk _ hJ
    refine (right21_c (zs.getD k 0) W (h.same hJ)).mono ?_
    rintro e w' ⟨rfl, f⟩
    exact ⟨rfl, hJ.trans f⟩
  · rintro e w' ⟨rfl, k, hJ⟩
    exact ⟨by rw [anyN_list zs (fun n => findsB l n false) 0], hJ⟩

set_option maxRecDepth 100000 in
theorem right22_c {J : Jn} {B3 B4 B5 B7 B8 : Nat} {x : Fd} {vl : Value} {l : List Fd} (n : Int) (w : World) (h : REnv J B3 B4 B5 B7 B8 x vl l w) :
    Calls Tryz.prog 77 #[.int .i64 n, .pointer (some ⟨B7, 0, none⟩)] w fun e w' => e = .returned (.bool (findsB l n true)) ∧ Fr [] w w' := by
  have c7 : w.cell? ⟨B7, 0, none⟩ = some (.func (.func 72) #[] #[.pointer (some ⟨B5, 0, none⟩)]) := cell_of_blk h.h7 0
  have C := Lib.hid (right1_c B5 vl l n true w h.h5 h.sl)
  clear h
  go_enter Tryz.func77, Tryz.ntmps77
  go_wp2_with (first | (go_at_call 72; refine C.out.mono ?_; rintro e w1 ⟨rfl, f1⟩; have F1 := Lib.hid f1; clear f1))
  go_ret
  exact ⟨rfl, F1.out⟩
set_option maxRecDepth 100000 in
theorem cf_right22 {J : Jn} {B3 B4 B5 B7 B8 : Nat} {x : Fd} {vl : Value} {l : List Fd} (v : Value) (zs : List Int) (w : World) (h : REnv J B3 B4 B5 B7 B8 x vl l w) (hz : IntsAt w v zs) :
    Calls Tryz.prog 58 #[v, .func (.func 77) #[] #[.pointer (some ⟨B7, 0, none⟩)]] w fun e w' => e = .returned (.bool (zs.any fun n => findsB l n true)) ∧ Fr [] w w' := by
  obtain ⟨a, cap, rfl⟩ := hz.val
  refine (cfInt_c 77 #[.pointer (some ⟨B7, 0, none⟩)] (fun _ _ => rfl) a cap zs (fun k => (fun n => findsB l n true) (zs.getD k 0)) (fun _ W => Fr [] w W) w (fun k W hJ => hz.same hJ) ?_ (Fr.refl _ _)).mono ?_
  · intro k W hk _ hJ
    refine (right22_c (zs.getD k 0) W (h.same hJ)).mono ?_
    rintro e w' ⟨rfl, f⟩
    exact ⟨rfl, hJ.trans f⟩
  · rintro e w' ⟨rfl, k, hJ⟩
    exact ⟨by rw [anyN_list zs (fun n => findsB l n true) 0], hJ⟩

set_option maxRecDepth 100000 in
set_option maxHeartbeats 2000000 in
theorem right2_c {J : Jn} {B3 B4 B5 B7 B8 : Nat} {x : Fd} {vl : Value} {l : List Fd} (i : Int) (w : World) (h : REnv J B3 B4 B5 B7 B8 x vl l w) (hi : i ∈ J.cs) :
    Calls Tryz.prog 75 #[.int .i64 i, .pointer (some ⟨B3, 0, none⟩), .pointer (some ⟨B7, 0, none⟩)] w fun e w' => e = .returned (.bool (barredB J.c l i)) ∧ Fr [] w w' := by
  have hsub := h.js.csub i hi
  obtain ⟨ii, rfl⟩ := Int.eq_ofNat_of_zero_le hsub.1
  have hil : ii < J.ys.length := by omega
  have heq : J.c.cls = J.ys.map (·.x) := h.js.rb.eq
  have hcl : J.c.cl ii = J.ys[ii].x := by simp [Rb.cl, heq, hil]
  have hbar : barredB J.c l ii = ((J.ys[ii].x).needs.any (fun n => findsB l n false) || (J.ys[ii].x).bars.any (fun n => findsB l n true)) := by unfold barredB; rw [hcl]
  rw [hbar]
  obtain ⟨ac, pc, hvc⟩ := h.js.rb.cls.sl.val
  have hsl := h.js.rb.cls.sl
  rw [hvc] at hsl
  obtain ⟨b2, o2, h2, hc2⟩ := hsl.at_ (by omega)
  subst h2
  have d0 := hc2 (ii * 6 + 0) _ ((flat_get (enc := clC) (k := 6) (fun _ => rfl) J.ys ii hil 0 (by omega)).trans rfl)
  have d1 := hc2 (ii * 6 + 1) _ ((flat_get (enc := clC) (k := 6) (fun _ => rfl) J.ys ii hil 1 (by omega)).trans rfl)
  have d2 := hc2 (ii * 6 + 2) _ ((flat_get (enc := clC) (k := 6) (fun _ => rfl) J.ys ii hil 2 (by omega)).trans rfl)
  have d3 := hc2 (ii * 6 + 3) _ ((flat_get (enc := clC) (k := 6) (fun _ => rfl) J.ys ii hil 3 (by omega)).trans rfl)
  have d4 := hc2 (ii * 6 + 4) _ ((flat_get (enc := clC) (k := 6) (fun _ => rfl) J.ys ii hil 4 (by omega)).trans rfl)
  have d5 := hc2 (ii * 6 + 5) _ ((flat_get (enc := clC) (k := 6) (fun _ => rfl) J.ys ii hil 5 (by omega)).trans rfl)
  simp only [Nat.add_zero, ← Nat.add_assoc] at d0 d1 d2 d3 d4 d5
  have HN := Lib.hid (h.js.rb.cls.needs J.ys[ii] (List.getElem_mem hil))
  have HB := Lib.hid (h.js.rb.cls.bars J.ys[ii] (List.getElem_mem hil))
  obtain ⟨an, pn, hvn⟩ := HN.out.val
  obtain ⟨ab, pb, hvb⟩ := HB.out.val
  have c3 : w.cell? ⟨B3, 0, none⟩ = some (.pointer (some ⟨J.bj, 0, none⟩)) := cell_of_blk h.h3 0
  have q0 : w.cell? ⟨J.bj, 0, none⟩ = some (.slice (some ⟨b2, o2, none⟩) J.ys.length pc) := by rw [← hvc]; exact cell_of_blk h.js.str 0
  have hyl := h.js.rb.cls.sl.len
  clear hc2 hsl hbar hcl heq hsub
  generalize J.ys[ii] = y at *
  obtain ⟨⟨pub, f, t, needs, bars, gives⟩, vn, vb⟩ := y
  simp only at d0 d1 d2 d3 d4 d5 hvn hvb HN HB ⊢
  subst hvn hvb
  have R1 := Lib.hid (h.same (Fr.alloc [] w (.cells #[.int .i64 pub, .int .i64 f, .int .i64 t, .slice an needs.length pn, .slice ab bars.length pb, .int .i64 gives] 67)))
  have KX := Lib.hid (heap_alloc_new w (.cells #[.int .i64 pub, .int .i64 f, .int .i64 t, .slice an needs.length pn, .slice ab bars.length pb, .int .i64 gives] 67))
  have CN := Lib.hid (cf_right21 _ needs _ R1.out (HN.out.same (Fr.alloc _ _ _)))
  clear h
  go_enter Tryz.func75, Tryz.ntmps75
  go_wp2_with fail
  refine CN.out.mono ?_
  rintro e w1 ⟨rfl, f1⟩
  have K1 := f1.keep KX.out (by simp)
  have r4 : w1.cell? ⟨w.heap.size, 4, none⟩ = some (.slice ab bars.length pb) := cell_of_blk K1 4
  have F1 := Lib.hid ((Fr.alloc [] _ _).trans f1)
  have CB := Lib.hid (cf_right22 _ bars _ (R1.out.same f1) (HB.out.same F1.out))
  clear K1 f1
  cases hb : needs.any (fun n => findsB l n false)
  · go_wp2_with fail
    refine CB.out.mono ?_
    rintro e w2 ⟨rfl, f2⟩
    have F2 := Lib.hid (F1.out.trans f2); clear f2
    go_wp2_with fail
    go_ret
    exact ⟨by rw [hb, Bool.false_or]; rfl, F2.out⟩
  · go_wp2_with fail
    go_ret
    exact ⟨by rw [hb, Bool.true_or]; rfl, F1.out⟩

end Go.Proofs.YtfidioedjmjddaaGreat

/-
  statute: the predicates of isRight, third part.
-/
namespace Go.Proofs.YtfidioedjmjddaaGreat
open Go.RowKit Go.Lib Go.Maps

set_option maxRecDepth 100000 in
set_option maxHeartbeats 2000000 in
theorem right5_c {J : Jn} {B3 B4 B5 B7 B8 : Nat} {x : Fd} {vl : Value} {l : List Fd} (i : Int) (w : World) (h : REnv J B3 B4 B5 B7 B8 x vl l w) (hi : i ∈ J.fs) :
    Calls Tryz.prog 81 #[.int .i64 i, .pointer (some ⟨B3, 0, none⟩), .pointer (some ⟨B4, 0, none⟩)] w fun e w' => e = .returned (.bool (decide ((J.c.fa i).says = x.says))) ∧ Fr [] w w' := by
  have hsub := h.js.fsub i hi
  obtain ⟨ii, rfl⟩ := Int.eq_ofNat_of_zero_le hsub.1
  have hil : ii < J.c.fas.length := by omega
  have hfa : J.c.fa ii = J.c.fas[ii] := by simp [Rb.fa, hil]
  rw [hfa]
  obtain ⟨af, pf, hvf⟩ := h.js.rb.fas.val
  have hsl := h.js.rb.fas
  rw [hvf] at hsl
  obtain ⟨b2, o2, h2, hc2⟩ := hsl.at_ (by omega)
  subst h2
  have e1 := hc2 (ii * 6 + 1) _ ((flat_get (enc := faC) (k := 6) (fun _ => rfl) J.c.fas ii hil 1 (by omega)).trans rfl)
  simp only [← Nat.add_assoc] at e1
  have c3 : w.cell? ⟨B3, 0, none⟩ = some (.pointer (some ⟨J.bj, 0, none⟩)) := cell_of_blk h.h3 0
  have c4 : w.cell? ⟨B4, 0, none⟩ = some (.int .i64 x.says) := cell_of_blk h.h4 0
  have q2 : w.cell? ⟨J.bj, 2, none⟩ = some (.slice (some ⟨b2, o2, none⟩) J.c.fas.length pf) := by rw [← hvf]; exact cell_of_blk h.js.str 2
  have hfl := h.js.rb.fas.len
  have hix : (ii : Int) < (J.c.fas.length : Int) := by omega
  clear hc2 hsl hfa hsub h
  generalize (J.c.fas[ii]).says = sy at *
  generalize x.says = sx at *
  go_enter Tryz.func81, Tryz.ntmps81
  go_wp2_with fail
  go_quiet (fail)
  go_wp2_with fail
  go_ret
  refine ⟨?_, Fr.drewN _ _ _⟩
  by_cases h : sy = sx <;> simp [h]

set_option maxRecDepth 100000 in
set_option maxHeartbeats 2000000 in
theorem right6_c {J : Jn} {B3 B4 B5 B7 B8 : Nat} {x : Fd} {vl : Value} {l : List Fd} (i : Int) (w : World) (h : REnv J B3 B4 B5 B7 B8 x vl l w) (hi : i ∈ J.cs) :
    Calls Tryz.prog 82 #[.int .i64 i, .pointer (some ⟨B3, 0, none⟩), .pointer (some ⟨B4, 0, none⟩), .pointer (some ⟨B8, 0, none⟩)] w fun e w' => e = .returned (.bool (decide ((J.c.cl i).gives = x.says) && !barredB J.c l i)) ∧ Fr [] w w' := by
  have hsub := h.js.csub i hi
  obtain ⟨ii, rfl⟩ := Int.eq_ofNat_of_zero_le hsub.1
  have hil : ii < J.ys.length := by omega
  have heq : J.c.cls = J.ys.map (·.x) := h.js.rb.eq
  have hcl : J.c.cl ii = J.ys[ii].x := by simp [Rb.cl, heq, hil]
  have CB := Lib.hid (right2_c ii w.drew (h.same (Fr.drew _ _)) hi)
  rw [hcl]
  obtain ⟨ac, pc, hvc⟩ := h.js.rb.cls.sl.val
  have hsl := h.js.rb.cls.sl
  rw [hvc] at hsl
  obtain ⟨b2, o2, h2, hc2⟩ := hsl.at_ (by omega)
  subst h2
  have d5 := hc2 (ii * 6 + 5) _ ((flat_get (enc := clC) (k := 6) (fun _ => rfl) J.ys ii hil 5 (by omega)).trans rfl)
  simp only [← Nat.add_assoc] at d5
  have c3 : w.cell? ⟨B3, 0, none⟩ = some (.pointer (some ⟨J.bj, 0, none⟩)) := cell_of_blk h.h3 0
  have c4 : w.cell? ⟨B4, 0, none⟩ = some (.int .i64 x.says) := cell_of_blk h.h4 0
  have c8 : w.cell? ⟨B8, 0, none⟩ = some (.func (.func 75) #[] #[.pointer (some ⟨B3, 0, none⟩), .pointer (some ⟨B7, 0, none⟩)]) := cell_of_blk h.h8 0
  have q0 : w.cell? ⟨J.bj, 0, none⟩ = some (.slice (some ⟨b2, o2, none⟩) J.ys.length pc) := by rw [← hvc]; exact cell_of_blk h.js.str 0
  have hyl := h.js.rb.cls.sl.len
  have hix : (ii : Int) < (J.ys.length : Int) := by omega
  have H3 := Lib.hid h.h3; have H4 := Lib.hid h.h4; have H8 := Lib.hid h.h8; have HJ := Lib.hid h.js.str
  have DC : Hid (∀ W : World, Fr [] w W → W.cell? ⟨b2, o2 + ii * 6 + 5, none⟩ = some (.int .i64 (J.ys[ii].x).gives)) := Lib.hid fun W hf => (World.cell?_of_block (hf.block b2 (World.block_lt_of_cell? w _ d5) (by simp))).trans d5
  clear hc2 hsl hcl hsub h heq
  generalize (J.ys[ii].x).gives = sy at *
  generalize x.says = sx at *
  generalize barredB J.c l ii = bb at *
  by_cases hg : sy = sx
  · subst hg
    have S0 : w.drew.cell? ⟨B3, 0, none⟩ = some (.pointer (some ⟨J.bj, 0, none⟩)) ∧ w.drew.cell? ⟨B4, 0, none⟩ = some (.int .i64 sy) ∧ w.drew.cell? ⟨B8, 0, none⟩ = some (.func (.func 75) #[] #[.pointer (some ⟨B3, 0, none⟩), .pointer (some ⟨B7, 0, none⟩)]) ∧ w.drew.cell? ⟨J.bj, 0, none⟩ = some (.slice (some ⟨b2, o2, none⟩) J.ys.length pc) ∧ w.drew.cell? ⟨b2, o2 + ii * 6 + 5, none⟩ = some (.int .i64 sy) := ⟨c3, c4, c8, q0, d5⟩
    go_enter Tryz.func82, Tryz.ntmps82
    go_wp2_with fail
    go_region_held3 (fun W : World => W.cell? ⟨B3, 0, none⟩ = some (.pointer (some ⟨J.bj, 0, none⟩)) ∧ W.cell? ⟨B4, 0, none⟩ = some (.int .i64 sy) ∧ W.cell? ⟨B8, 0, none⟩ = some (.func (.func 75) #[] #[.pointer (some ⟨B3, 0, none⟩), .pointer (some ⟨B7, 0, none⟩)]) ∧ W.cell? ⟨J.bj, 0, none⟩ = some (.slice (some ⟨b2, o2, none⟩) J.ys.length pc) ∧ W.cell? ⟨b2, o2 + ii * 6 + 5, none⟩ = some (.int .i64 sy)) (first | exact S0 | assumption) (first | (go_at_call 75; refine CB.out.mono ?_; rintro e w1 ⟨rfl, f1⟩; have F1 := Lib.hid ((Fr.drew [] w).trans f1); have S1 : w1.cell? ⟨B3, 0, none⟩ = some (.pointer (some ⟨J.bj, 0, none⟩)) ∧ w1.cell? ⟨B4, 0, none⟩ = some (.int .i64 sy) ∧ w1.cell? ⟨B8, 0, none⟩ = some (.func (.func 75) #[] #[.pointer (some ⟨B3, 0, none⟩), .pointer (some ⟨B7, 0, none⟩)]) ∧ w1.cell? ⟨J.bj, 0, none⟩ = some (.slice (some ⟨b2, o2, none⟩) J.ys.length pc) ∧ w1.cell? ⟨b2, o2 + ii * 6 + 5, none⟩ = some (.int .i64 sy) := ⟨cell_of_blk (F1.out.keep H3.out (by simp)) 0, cell_of_blk (F1.out.keep H4.out (by simp)) 0, cell_of_blk (F1.out.keep H8.out (by simp)) 0, by rw [← hvc]; exact cell_of_blk (F1.out.keep HJ.out (by simp)) 0, DC.out w1 F1.out⟩; clear f1))
    go_wp2_with fail
    go_ret
    exact ⟨by simp, F1.out⟩
  · have hgd : (sy == sx) = false := by simpa using hg
    have e : decide (sy = sx) = false := by simpa using hg
    rw [e]
    clear hg e
    go_enter Tryz.func82, Tryz.ntmps82
    go_wp2_with fail
    go_quiet (fail)
    go_wp2_with fail
    go_ret
    exact ⟨by simp, Fr.drewN _ _ _⟩

set_option maxRecDepth 100000 in
theorem cf_right5 {J : Jn} {B3 B4 B5 B7 B8 : Nat} {x : Fd} {vl : Value} {l : List Fd} (w : World) (h : REnv J B3 B4 B5 B7 B8 x vl l w) :
    Calls Tryz.prog 58 #[J.v1, .func (.func 81) #[] #[.pointer (some ⟨B3, 0, none⟩), .pointer (some ⟨B4, 0, none⟩)]] w fun e w' => e = .returned (.bool (J.fs.any fun i => decide ((J.c.fa i).says = x.says))) ∧ Fr [] w w' := by
  obtain ⟨a, cap, hv⟩ := h.js.f.val
  have hz := h.js.f
  rw [hv] at hz
  rw [hv]
  refine (cfInt_c 81 #[.pointer (some ⟨B3, 0, none⟩), .pointer (some ⟨B4, 0, none⟩)] (fun _ _ => rfl) a cap J.fs (fun k => decide ((J.c.fa (J.fs.getD k 0)).says = x.says)) (fun _ W => Fr [] w W) w (fun k W hJ => hz.same hJ) ?_ (Fr.refl _ _)).mono ?_
  · intro k W hk _ hJ
    refine (right5_c (J.fs.getD k 0) W (h.same hJ) (by simp [hk])).mono ?_
    rintro e w' ⟨rfl, f⟩
    exact ⟨rfl, hJ.trans f⟩
  · rintro e w' ⟨rfl, k, hJ⟩
    exact ⟨by rw [anyN_list J.fs (fun i => decide ((J.c.fa i).says = x.says)) 0], hJ⟩
set_option maxRecDepth 100000 in
theorem cf_right6 {J : Jn} {B3 B4 B5 B7 B8 : Nat} {x : Fd} {vl : Value} {l : List Fd} (w : World) (h : REnv J B3 B4 B5 B7 B8 x vl l w) :
    Calls Tryz.prog 58 #[J.v2, .func (.func 82) #[] #[.pointer (some ⟨B3, 0, none⟩), .pointer (some ⟨B4, 0, none⟩), .pointer (some ⟨B8, 0, none⟩)]] w fun e w' => e = .returned (.bool (J.cs.any fun i => decide ((J.c.cl i).gives = x.says) && !barredB J.c l i)) ∧ Fr [] w w' := by
  obtain ⟨a, cap, hv⟩ := h.js.c.val
  have hz := h.js.c
  rw [hv] at hz
  rw [hv]
  refine (cfInt_c 82 #[.pointer (some ⟨B3, 0, none⟩), .pointer (some ⟨B4, 0, none⟩), .pointer (some ⟨B8, 0, none⟩)] (fun _ _ => rfl) a cap J.cs (fun k => decide ((J.c.cl (J.cs.getD k 0)).gives = x.says) && !barredB J.c l (J.cs.getD k 0)) (fun _ W => Fr [] w W) w (fun k W hJ => hz.same hJ) ?_ (Fr.refl _ _)).mono ?_
  · intro k W hk _ hJ
    refine (right6_c (J.cs.getD k 0) W (h.same hJ) (by simp [hk])).mono ?_
    rintro e w' ⟨rfl, f⟩
    exact ⟨rfl, hJ.trans f⟩
  · rintro e w' ⟨rfl, k, hJ⟩
    exact ⟨by rw [anyN_list J.cs (fun i => decide ((J.c.cl i).gives = x.says) && !barredB J.c l i) 0], hJ⟩

end Go.Proofs.YtfidioedjmjddaaGreat
