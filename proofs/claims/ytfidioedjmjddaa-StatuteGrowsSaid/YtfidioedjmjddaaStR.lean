/-
  statute: so for every number; slices.Contains; the predicates of isRight.
-/
import Derived.Test.YtfidioedjmjddaaStJ3
namespace Go.Proofs.Ytfidioedjmjddaa
open Go.RowKit Go.Lib Go.Maps

theorem so_ok (J : Jn) (n : Nat) (hn : n < 20) : SoOk J n := by
  induction n using Nat.strongRecOn with
  | ind n ih =>
    refine so_of_find J n hn (find_of_so J n fun m h0 h1 => ?_)
    obtain ⟨k, rfl⟩ := Int.eq_ofNat_of_zero_le h0
    exact ih k (by omega) (by omega)

set_option maxRecDepth 100000 in
set_option maxHeartbeats 1000000 in
theorem indexInt_c (v : Value) (zs : List Int) (x : Int) (w : World) (h : IntsAt w v zs) :
    Calls Try.prog 66 #[v, .int .i64 x] w fun e w' => e = .returned (.int .i64 (idxN (fun k => x == zs.getD k 0) zs.length)) ∧ w = w' := by
  obtain ⟨a, cap, rfl⟩ := h.val
  have hlen := h.len
  have HS := Lib.hid h; clear h
  go_enter Try.func66, Try.ntmps66
  go_wp2_with fail
  go_loopw [8] (fun i wr => ∃ k : Nat, k ≤ zs.length ∧ i = .int .i64 k ∧ w = wr ∧ Hid (∀ j, j < k → (x == zs.getD j 0) = false)) (fun i _ => zs.length - (intOf i).toNat)
  case atStart => exact ⟨0, Nat.zero_le _, rfl, rfl, Lib.hid fun j h => by omega⟩
  case round =>
    obtain ⟨k, hk, rfl, rfl, HP⟩ := hrel
    by_cases hlt : k < zs.length
    · obtain ⟨b, off, ha, hc⟩ := HS.out.at_ (by omega)
      subst ha
      have c0 := hc k (.int .i64 (zs.getD k 0)) (by simp [hlt])
      clear hc
      cases hb : (x == zs.getD k 0) with
      | true =>
        have HI : Hid (idxN (fun k => x == zs.getD k 0) zs.length = k) := Lib.hid (idxN_some hlt hb HP.out)
        obtain ⟨y, hy⟩ : ∃ y, y = zs.getD k 0 := ⟨_, rfl⟩
        rw [← hy] at c0 hb
        clear hy
        go_wp2_with fail
        go_ret
        exact ⟨by rw [HI.out]; rfl, rfl⟩
      | false =>
        have Hb0 := Lib.hid hb
        have HN : Hid (∀ j, j < k + 1 → (x == zs.getD j 0) = false) := Lib.hid fun j h => by
          rcases Nat.lt_or_ge j k with h1 | h1
          · exact HP.out j h1
          · obtain rfl : j = k := by omega
            exact Hb0.out
        clear Hb0
        obtain ⟨y, hy⟩ : ∃ y, y = zs.getD k 0 := ⟨_, rfl⟩
        rw [← hy] at c0 hb
        clear hy
        go_wp2_with fail
        go_roundw
        case rel => exact ⟨k + 1, by omega, by go_num, by first | rfl | trivial, HN⟩
        case measure => simp [intOf]; omega
    · obtain rfl : k = zs.length := by omega
      go_wp2_with fail
      go_ret
      exact ⟨by rw [idxN_none HP.out]; rfl, rfl⟩

theorem contains_any (l : List Int) (x : Int) : l.any (fun y => x == y) = l.contains x := by
  induction l with
  | nil => rfl
  | cons a l ih => rw [List.any_cons, List.contains_cons, ih]
theorem contInt_c (v : Value) (zs : List Int) (x : Int) (w : World) (h : IntsAt w v zs) :
    Calls Try.prog 57 #[v, .int .i64 x] w fun e w' => e = .returned (.bool (zs.contains x)) ∧ w = w' := by
  have c := Lib.hid (indexInt_c v zs x w h)
  rw [← contains_any, ← anyN_list zs (fun y => x == y) 0, ← idxN_ge]
  generalize idxN (fun k => x == zs.getD k 0) zs.length = r at *
  clear h
  go_enter Try.func57, Try.ntmps57
  go_wp2_with (go_at_call 66; refine c.out.mono ?_; rintro e w1 ⟨rfl, rfl⟩)
  go_ret
  exact ⟨rfl, rfl⟩

/-- The variables that isRight's predicates lean on. -/
structure REnv (J : Jn) (B3 B4 B5 B7 B8 : Nat) (x : Fd) (vl : Value) (l : List Fd) (w : World) : Prop where
  h3 : w.heap[B3]? = some (.cells #[.pointer (some ⟨J.bj, 0, none⟩)] 68 (0, 0))
  h4 : w.heap[B4]? = some (.cells #[.int .i64 x.says, .bool x.holds, .int .i64 x.fact, .int .i64 x.cl] 58 (0, 0))
  h5 : w.heap[B5]? = some (.cells #[vl] 42 (0, 0))
  h7 : w.heap[B7]? = some (.cells #[.func (.func 51) #[] #[.pointer (some ⟨B5, 0, none⟩)]] 102 (0, 0))
  h8 : w.heap[B8]? = some (.cells #[.func (.func 54) #[] #[.pointer (some ⟨B3, 0, none⟩), .pointer (some ⟨B7, 0, none⟩)]] 71 (0, 0))
  js : JS J w
  sl : Sl w vl l.length (l.flatMap fdC)
theorem REnv.same {J : Jn} {B3 B4 B5 B7 B8 : Nat} {x : Fd} {vl : Value} {l : List Fd} {w w' : World} (h : REnv J B3 B4 B5 B7 B8 x vl l w) (hf : Fr [] w w') : REnv J B3 B4 B5 B7 B8 x vl l w' :=
  ⟨hf.keep h.h3 (by simp), hf.keep h.h4 (by simp), hf.keep h.h5 (by simp), hf.keep h.h7 (by simp), hf.keep h.h8 (by simp), h.js.same hf, h.sl.same hf⟩

set_option maxRecDepth 100000 in
set_option maxHeartbeats 1000000 in
theorem right11_c (y : Fd) (Bn Bh : Nat) (n : Int) (h : Bool) (w : World) (hn : w.heap[Bn]? = some (.cells #[.int .i64 n] 3 (0, 0))) (hh : w.heap[Bh]? = some (.cells #[.bool h] 4 (0, 0))) :
    Calls Try.prog 53 #[fdV y, .pointer (some ⟨Bn, 0, none⟩), .pointer (some ⟨Bh, 0, none⟩)] w fun e w' => e = .returned (.bool (decide (y.says = n) && y.holds == h)) ∧ Fr [] w w' := by
  obtain ⟨y0, y1, y2, y3⟩ := y
  have k1 := heap_alloc_old (.cells #[.int .i64 y0, .bool y1, .int .i64 y2, .int .i64 y3] 58) hn
  have k2 := heap_alloc_old (.cells #[.int .i64 y0, .bool y1, .int .i64 y2, .int .i64 y3] 58) hh
  have c1 : (w.alloc (.cells #[.int .i64 y0, .bool y1, .int .i64 y2, .int .i64 y3] 58)).cell? ⟨Bn, 0, none⟩ = some (.int .i64 n) := cell_of_blk k1 0
  have c2 : (w.alloc (.cells #[.int .i64 y0, .bool y1, .int .i64 y2, .int .i64 y3] 58)).cell? ⟨Bh, 0, none⟩ = some (.bool h) := cell_of_blk k2 0
  clear k1 k2 hn hh
  unfold fdV
  simp only
  by_cases h1 : y0 = n
  · subst h1
    go_enter Try.func53, Try.ntmps53
    go_wp2_with fail
    go_ret
    exact ⟨by simp, Fr.alloc _ _ _⟩
  · go_enter Try.func53, Try.ntmps53
    go_wp2_with fail
    go_ret
    exact ⟨by simp [h1], Fr.alloc _ _ _⟩

set_option maxRecDepth 100000 in
set_option maxHeartbeats 1000000 in
theorem right1_c (B5 : Nat) (vl : Value) (l : List Fd) (n : Int) (h : Bool) (w : World) (h5 : w.heap[B5]? = some (.cells #[vl] 42 (0, 0))) (hs : Sl w vl l.length (l.flatMap fdC)) :
    Calls Try.prog 51 #[.int .i64 n, .bool h, .pointer (some ⟨B5, 0, none⟩)] w fun e w' => e = .returned (.bool (findsB l n h)) ∧ Fr [] w w' := by
  obtain ⟨a, cap, rfl⟩ := hs.val
  have A2 := alloc2' w (.cells #[.int .i64 n] 3) (.cells #[.bool h] 4)
  have F2 : Fr [] w ((w.alloc (.cells #[.int .i64 n] 3)).alloc (.cells #[.bool h] 4)) := (Fr.alloc _ _ _).trans (Fr.alloc _ _ _)
  have c5 : ((w.alloc (.cells #[.int .i64 n] 3)).alloc (.cells #[.bool h] 4)).cell? ⟨B5, 0, none⟩ = some (.slice a l.length cap) := cell_of_blk (F2.keep h5 (by simp)) 0
  have CC : Hid (Calls Try.prog 52 #[.slice a l.length cap, .func (.func 53) #[] #[.pointer (some ⟨w.heap.size, 0, none⟩), .pointer (some ⟨w.heap.size + 1, 0, none⟩)]] ((w.alloc (.cells #[.int .i64 n] 3)).alloc (.cells #[.bool h] 4)) fun e w' => e = .returned (.bool (findsB l n h)) ∧ Fr [] w w') := Lib.hid (by
    refine (cfFd_c 53 _ (fun _ _ => rfl) a cap l (fun k => decide ((l.getD k default).says = n) && (l.getD k default).holds == h) (fun _ W => Fr [] ((w.alloc (.cells #[.int .i64 n] 3)).alloc (.cells #[.bool h] 4)) W) _ (fun k W hJ => hs.same (F2.trans hJ)) ?_ (Fr.refl _ _)).mono ?_
    · intro k W hk _ hJ
      refine (right11_c (l.getD k default) _ _ n h W (hJ.keep A2.1 (by simp)) (hJ.keep A2.2 (by simp))).mono ?_
      rintro e w' ⟨rfl, f⟩
      exact ⟨rfl, hJ.trans f⟩
    · rintro e w' ⟨rfl, k, hJ⟩
      exact ⟨by rw [anyN_list l (fun y => decide (y.says = n) && y.holds == h) default]; rfl, F2.trans hJ⟩)
  clear h5 hs A2 F2
  go_enter Try.func51, Try.ntmps51
  go_wp2_with (first | (go_at_call 52; refine CC.out.mono ?_; rintro e w1 ⟨rfl, f1⟩; have F1 := Lib.hid f1; clear f1))
  go_ret
  exact ⟨rfl, F1.out⟩

end Go.Proofs.Ytfidioedjmjddaa
