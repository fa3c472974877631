/-
  dialtonelaw08: the reference's comparisons; the chapter's example.
-/
import Derived.Test.YtahfpadaoobkfaaGreatDoorQS18
import Derived.Handy
import Derived.Test.YtahfpadaoobkfaaGreatDoorQS03
namespace Go.Proofs.YtahfpadaoobkfaaGreatDoor
open Go.RowKit Go.Lib

/-- A block that is known whole, as a slice. -/
theorem sl_blk {w : World} {b n cap : Nat} {c : Array Value} {e : TypeId} {f : Nat × Nat} {cs : List Value} (h : w.heap[b]? = some (.cells c e f)) (hc : c.toList = cs) (h1 : n ≤ cap) (h2 : cap ≤ 9223372036854775807) : Sl w (.slice (some ⟨b, 0, none⟩) n cap) n cs :=
  ⟨_, cap, rfl, h1, h2, fun _ => ⟨b, 0, rfl, fun j u hu => by
    rw [Nat.zero_add, cell_of_blk h]
    rw [← hc, Array.getElem?_toList] at hu
    exact hu⟩⟩
def exC : Rb := ⟨[⟨100, 200, 1000, [0], [2], 3⟩, ⟨300, 250, 1000, [1], [], 3⟩], [], [⟨7, 0, 0, 1000, 150, 1000⟩, ⟨7, 2, 500, 1000, 600, 1000⟩]⟩
def exR : Rb := ⟨exC.cls, [⟨0, 350, 300⟩], exC.fas⟩
def exQ : Qn := ⟨7, 3, 400, 400⟩
def exL : Qn := ⟨7, 3, 700, 650⟩
def ex1 : List Fd := [⟨0, true, 0, -1⟩, ⟨2, false, -1, -1⟩, ⟨3, true, -1, 0⟩]
def ex2 : List Fd := [⟨1, false, -1, -1⟩, ⟨2, true, 1, -1⟩, ⟨3, false, -1, -1⟩]
end Go.Proofs.YtahfpadaoobkfaaGreatDoor

/-
  dialtonelaw08: sane.
-/
namespace Go.Proofs.YtahfpadaoobkfaaGreatDoor
open Go.RowKit Go.Lib

abbrev exW (w : World) (ac af : Nat) : World := ((w.alloc (.cells #[.slice (some ⟨ac, 0, none⟩) 2 2, .slice none 0 0, .slice (some ⟨af, 0, none⟩) 2 2] 36)).alloc (.cells #[.int .i64 7, .int .i64 3, .int .i64 400, .int .i64 400] 142)).alloc (.cells #[.int .i64 7, .int .i64 3, .int .i64 700, .int .i64 650] 142)
abbrev exR6 (w : World) (ac af : Nat) : World := (w.alloc (.cells #[.slice (some ⟨ac, 0, none⟩) 2 2, .slice (some ⟨w.heap.size + 1, 0, none⟩) 1 1, .slice (some ⟨af, 0, none⟩) 2 2] 36)).alloc (.cells #[.int .i64 0, .int .i64 350, .int .i64 300] 108)
end Go.Proofs.YtahfpadaoobkfaaGreatDoor

/-
  dialtoneref08: pick, part, bits, Ask.
-/
namespace Go.Proofs.YtahfpadaoobkfaaGreatDoor
open Go.RowKit Go.Lib

/-- An index in 0 .. n - 1. -/
def pickI (c n : Int) : Int := (if c < 0 then -(c + 1) else c) % n
theorem pickI_bound (c n : Int) (h : 1 ≤ n) : 0 ≤ pickI c n ∧ pickI c n < n := ⟨Int.emod_nonneg _ (by omega), Int.emod_lt_of_pos _ (by omega)⟩

set_option maxHeartbeats 400000 in
theorem pick8_c (c n : Int) (w : World) (hc : I64 c) (hn : 1 ≤ n) (hn2 : n ≤ 9223372036854775807) :
    Calls Tryz.prog 26 #[.int .i64 c, .int .i64 n] w fun e w' => e = .returned (.int .i64 (pickI c n)) ∧ w = w' := by
  obtain ⟨hc, hc2⟩ := hc
  by_cases h : c < 0
  · have h1 : 0 ≤ -(c + 1) := by omega
    have e : pickI c n = (-(c + 1)).tmod n := by
      unfold pickI; rw [if_pos h, Int.tmod_eq_emod_of_nonneg h1]
    rw [e]
    go_enter Tryz.func26, Tryz.ntmps26
    go_wp2
    go_ret
    exact ⟨by simp, rfl⟩
  · have e : pickI c n = c % n := by unfold pickI; rw [if_neg h]
    rw [e]
    go_enter Tryz.func26, Tryz.ntmps26
    go_wp2
    go_ret
    exact ⟨rfl, rfl⟩
set_option maxRecDepth 100000 in
set_option maxHeartbeats 1000000 in
theorem part_c (x y : Int) (w : World) (hx : I64 x) (hy : I64 y) : Calls Tryz.prog 27 #[.int .i64 x, .int .i64 y] w fun e w' => e = .returned (.agg #[.int .i64 (pickI x 50), .int .i64 (pickI x 50 + 1 + pickI y 50)]) ∧ Fr [] w w' := by
  have c1 := Lib.hid fun w => pick8_c x 50 w hx (by omega) (by omega)
  have c2 := Lib.hid fun w => pick8_c y 50 w hy (by omega) (by omega)
  have b1 := pickI_bound x 50 (by omega)
  have b2 := pickI_bound y 50 (by omega)
  generalize pickI x 50 = px at *
  generalize pickI y 50 = py at *
  go_enter Tryz.func27, Tryz.ntmps27
  go_wp2_with fail
  refine (c1.out _).mono ?_
  rintro e w1 ⟨rfl, rfl⟩
  go_wp2_with fail
  refine (c2.out _).mono ?_
  rintro e w1 ⟨rfl, rfl⟩
  go_wp2_with fail
  go_returns
  exact ⟨rfl, Fr.alloc _ _ _⟩

/-- At most three numbers below g, ascending. -/
structure TermM (l : List Int) (g : Int) : Prop where
  len : l.length ≤ 3
  asc : l.Pairwise (· < ·)
  bnd : ∀ m, m ∈ l → 0 ≤ m ∧ m < g

set_option maxRecDepth 100000 in
set_option maxHeartbeats 1000000 in
theorem bits_c (x g : Int) (w : World) (hx : I64 x) (hg : 0 ≤ g ∧ g ≤ 8) : Calls Tryz.prog 28 #[.int .i64 x, .int .i64 g] w fun e w' => ∃ v l, e = .returned v ∧ Fr [] w w' ∧ w'.ownsRow 0 3 1 v l.length (intC l) ∧ TermM l g ∧ ∀ b, v.ownBlock = some b → w.heap.size ≤ b := by
  have c1 := Lib.hid fun w => pick8_c x 4096 w hx (by omega) (by omega)
  have b1 := pickI_bound x 4096 (by omega)
  generalize pickI x 4096 = px at *
  go_enter Tryz.func28, Tryz.ntmps28
  go_wp2_with fail
  go_loopw [5, 6] (fun v i wr => ∃ (k : Nat) (l : List Int), (k : Int) ≤ g ∧ i = .int .i64 k ∧ l.length ≤ 3 ∧ Hid (Fr [] w wr ∧ wr.ownsRow 0 3 1 v l.length (intC l) ∧ TermM l k ∧ ∀ b, v.ownBlock = some b → w.heap.size ≤ b)) (fun _ i _ => g.toNat - (intOf i).toNat)
  case atStart => exact ⟨0, [], hg.1, rfl, by simp, Lib.hid ⟨Fr.refl _ _, ⟨rfl, .inl ⟨rfl, rfl⟩⟩, ⟨by simp, List.Pairwise.nil, by simp⟩, fun b hb => by cases hb⟩⟩
  case round =>
    obtain ⟨k, l, hk, rfl, hl3, H⟩ := hrel
    obtain ⟨va, vp, rfl⟩ := (sl_of_row H.out.2.1).val
    by_cases hlt : (k : Int) < g
    · by_cases hl : l.length < 3
      · have HL : Hid ((intC l ++ [.int .i64 (k : Int)]) = intC (l ++ [(k : Int)])) := Lib.hid (by simp [intC])
        have HT : Hid (TermM (l ++ [(k : Int)]) ((k + 1 : Nat) : Int)) := Lib.hid ⟨by simp; omega, List.pairwise_append.2 ⟨H.out.2.2.1.asc, List.pairwise_singleton _ _, fun a ha b hb => by have := H.out.2.2.1.bnd a ha; simp at hb; omega⟩, fun m hm => by
          rcases List.mem_append.1 hm with hm | hm
          · have := H.out.2.2.1.bnd m hm; omega
          · simp at hm; omega⟩
        have HSr : Hid (SrcAt (wr.alloc (.cells #[.int .i64 (k : Int)] 3)) (.slice (some ⟨wr.heap.size, 0, none⟩) 1 1) 1 [.int .i64 (k : Int)]) := Lib.hid (srcAt_one wr (.int .i64 (k : Int)) 3)
        have RA : Hid ((wr.alloc (.cells #[.int .i64 (k : Int)] 3)).ownsRow 0 3 1 (.slice va l.length vp) l.length (intC l)) := Lib.hid (ownsRow_keep H.out.2.1 (fun g hg => (Fr.alloc [] wr _).block g (ownsRow_lt H.out.2.1 hg) (by simp)))
        by_cases hb : ((px / 2 ^ k).tmod 2 == 1) = true
        · go_wp2_with fail
          refine (c1.out _).mono ?_
          rintro e w1 ⟨rfl, rfl⟩
          go_wp2_with (first | ((with_reducible refine wpList_of_wp (o := ⟨some 26, _, _, _, _, _⟩) rfl (fun K hK => ?_)); refine wp_append_src (.tmp 23) (.tmp 25) 23 3 (.int .i64 0) 1 8 rfl Tryz.underlying23 infoI8 rfl (by decide) (.slice va l.length vp) l.length _ rfl RA.out _ 1 _ rfl HSr.out rfl (by simp [Value.oneCell']) (by omega) (by omega) ?_; intro ga cap w' h1 h2 h3; have H1 := Lib.hid h1; have H2 := Lib.hid h2; have H3 := Lib.hid h3; clear h1 h2 h3; refine hK _ _ ?_; clear hK))
          go_roundw
          case rel =>
            refine ⟨k + 1, l ++ [(k : Int)], by omega, by go_num, by simp; omega, Lib.hid ⟨?_, ?_, HT.out, fun b hb => ?_⟩⟩
            · exact (H.out.1.trans (Fr.alloc _ _ _)).step H2.out (fun i hi => .inr (H.out.2.2.2 i (by simpa using hi)))
            · have := H1.out
              rw [HL.out] at this
              simpa using this
            · rcases H3.out with h | h
              · exact H.out.2.2.2 b (by rw [← h]; exact hb)
              · rw [h] at hb
                cases hb
                exact Nat.le_trans H.out.1.size (by simp)
          case measure => simp [intOf]; omega
        · have hb' : ((px / 2 ^ k).tmod 2 == 1) = false := by simpa using hb
          clear hb
          go_wp2_with fail
          refine (c1.out _).mono ?_
          rintro e w1 ⟨rfl, rfl⟩
          go_wp2_with fail
          go_roundw
          case rel => exact ⟨k + 1, l, by omega, by go_num, hl3, Lib.hid ⟨H.out.1, H.out.2.1, ⟨H.out.2.2.1.len, H.out.2.2.1.asc, fun m hm => by have := H.out.2.2.1.bnd m hm; omega⟩, H.out.2.2.2⟩⟩
          case measure => simp [intOf]; omega
      · go_wp2_with fail
        go_ret
        first | exact ⟨.slice va l.length vp, l, rfl, H.out.1, H.out.2.1, ⟨H.out.2.2.1.len, H.out.2.2.1.asc, fun m hm => by have := H.out.2.2.1.bnd m hm; omega⟩, H.out.2.2.2⟩ | exact ⟨.slice va l.length vp, rfl, H.out.1, l, H.out.2.1, ⟨H.out.2.2.1.len, H.out.2.2.1.asc, fun m hm => by have := H.out.2.2.1.bnd m hm; omega⟩, H.out.2.2.2⟩
    · go_wp2_with fail
      go_ret
      first | exact ⟨.slice va l.length vp, l, rfl, H.out.1, H.out.2.1, ⟨H.out.2.2.1.len, H.out.2.2.1.asc, fun m hm => by have := H.out.2.2.1.bnd m hm; omega⟩, H.out.2.2.2⟩ | exact ⟨.slice va l.length vp, rfl, H.out.1, l, H.out.2.1, ⟨H.out.2.2.1.len, H.out.2.2.1.asc, fun m hm => by have := H.out.2.2.1.bnd m hm; omega⟩, H.out.2.2.2⟩


end Go.Proofs.YtahfpadaoobkfaaGreatDoor
