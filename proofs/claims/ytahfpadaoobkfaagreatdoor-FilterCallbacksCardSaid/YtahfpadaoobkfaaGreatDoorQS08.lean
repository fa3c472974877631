/-
  The plain model of a journal (chapters 1, 2, 10): how integers, strings and records are stored, and how a content is read.
-/
import Derived.Test.YtahfpadaoobkfaaGreatDoorQS06
import Derived.Test.YtahfpadaoobkfaaGreatDoorQS07
import Derived.Test.YtahfpadaoobkfaaGreatDoorQS02
import Derived.Test.YtahfpadaoobkfaaGreatDoorQS01
namespace Go.Proofs.YtahfpadaoobkfaaGreatDoor
open Go.RowKit Go.Lib

/-- An integer as a natural number, and back. -/
def zig (n : Int) : Nat := if n < 0 then (-2 * n - 1).toNat else (2 * n).toNat
def unz (z : Nat) : Int := if z % 2 = 0 then ((z / 2 : Nat) : Int) else -((z / 2 : Nat) : Int) - 1
/-- The groups of seven bits. -/
def encZ (z : Nat) : List UInt8 := if z < 128 then [UInt8.ofNat z] else UInt8.ofNat (z % 128 + 128) :: encZ (z / 128)
termination_by z
decreasing_by omega
def getGo (s : List UInt8) (p : Nat) : Nat → Nat → Nat → Option (Int × Nat)
  | 0, _, _ => none
  | f + 1, i, z =>
    match s[p + i]? with
    | none => none
    | some b =>
      if 128 ≤ b.toNat then getGo s p f (i + 1) (z + b.toNat % 128 * 2 ^ (7 * i))
      else if (b.toNat = 0 ∧ 0 < i) ∨ unz (z + b.toNat % 128 * 2 ^ (7 * i)) < -4611686018427387903 then none
      else some (unz (z + b.toNat % 128 * 2 ^ (7 * i)), p + i + 1)
def getI (s : List UInt8) (p : Nat) : Option (Int × Nat) := getGo s p 9 0 0
def getS (s : List UInt8) (p : Nat) : Option (List UInt8 × Nat) :=
  match getI s p with
  | none => none
  | some (n, q) => if n < 0 ∨ 65536 < n ∨ (s.length : Int) - q < n then none else some ((s.drop q).take n.toNat, q + n.toNat)

def bts (s : ByteArray) : List UInt8 := s.data.toList
def str (l : List UInt8) : ByteArray := ⟨l.toArray⟩
theorem bts_str (l : List UInt8) : bts (str l) = l := rfl
theorem str_bts (s : ByteArray) : str (bts s) = s := rfl
theorem bts_len (s : ByteArray) : (bts s).length = s.size := rfl
theorem str_size (l : List UInt8) : (str l).size = l.length := rfl

def chainM (h r : ByteArray) : ByteArray := shaB (str (2 :: (bts h ++ bts r)))
/-- Records as they are stored. -/
structure Tp where
  recs : List ByteArray
  head : ByteArray
  size : Nat
def putS (r : ByteArray) : List UInt8 := encZ (2 * r.size) ++ bts r
def recL (h r : ByteArray) : List UInt8 := 1 :: (putS r ++ bts (chainM h r))
def Tp.add (t : Tp) (r : ByteArray) : Tp := ⟨t.recs ++ [r], chainM t.head r, t.size + (recL t.head r).length⟩
def Tp.adds (t : Tp) (l : List ByteArray) : Tp := l.foldl Tp.add t
def encAll (h : ByteArray) : List ByteArray → List UInt8
  | [] => []
  | r :: l => recL h r ++ encAll (chainM h r) l
def head0 : ByteArray := str (List.replicate 32 0)
def tp0 : Tp := ⟨[], head0, 0⟩
/-- A content is read. -/
def ldM (s : List UInt8) : Nat → Tp → Option Tp
  | 0, _ => none
  | f + 1, t =>
    match s[t.size]? with
    | none => some t
    | some b =>
      if b = 0 then some t
      else if b ≠ 1 then none
      else match getS s (t.size + 1) with
        | none => none
        | some (r, q) =>
          if s.length < q + 32 then none
          else if recL t.head (str r) = (s.drop t.size).take (q + 32 - t.size) then ldM s f (t.add (str r)) else none
def openM (s : List UInt8) : Option Tp := ldM s (s.length + 1) tp0

/-! ### What is stored is read back -/
theorem encZ_one {z : Nat} (h : z < 128) : encZ z = [UInt8.ofNat z] := by rw [encZ, if_pos h]
theorem encZ_more {z : Nat} (h : ¬ z < 128) : encZ z = UInt8.ofNat (z % 128 + 128) :: encZ (z / 128) := by rw [encZ, if_neg h]
theorem unz_two (n : Nat) : unz (2 * n) = n := by simp [unz]
def headOf (h : ByteArray) (l : List ByteArray) : ByteArray := l.foldl chainM h
end Go.Proofs.YtahfpadaoobkfaaGreatDoor

/-
  wire: the groups of seven bits, and PutInt.
-/
namespace Go.Proofs.YtahfpadaoobkfaaGreatDoor
open Go.RowKit Go.Shelf Go.Lib

attribute [local go_sem] Oper.semAt_some

/-- The groups, the least first, and whether each is the last one. -/
def grpL (z : Nat) : List (Int × Bool) := if z < 128 then [((z : Int), true)] else ((z : Int) % 128, false) :: grpL (z / 128)
termination_by z
decreasing_by omega
theorem grpL_one {z : Nat} (h : z < 128) : grpL z = [((z : Int), true)] := by rw [grpL, if_pos h]
theorem grpL_more {z : Nat} (h : ¬ z < 128) : grpL z = ((z : Int) % 128, false) :: grpL (z / 128) := by rw [grpL, if_neg h]
abbrev grpE (x : Int × Bool) : Array Value := #[.int .u8 x.1, .bool x.2]
theorem and127 (c : Nat) (hc : c < 18446744073709551616) : bits .and .u64 (c : Int) 127 = (c : Int) % 128 := by
  have h := bits_and_u64_nat c 127 hc (by omega)
  rw [show ((127 : Nat) : Int) = 127 from rfl] at h
  rw [h, show (127 : Nat) = 2 ^ 7 - 1 from rfl, Nat.and_two_pow_sub_one_eq_mod]
  rfl
def zOf (b : Nat) (w : World) : Nat := match w.cell? ⟨b, 0, none⟩ with
  | some (.int _ z) => z.toNat
  | _ => 0
theorem zOf_at {b : Nat} {w : World} {k : IntKind} {z : Nat} (h : w.cell? ⟨b, 0, none⟩ = some (.int k z)) : zOf b w = z := by simp [zOf, h]

set_option maxRecDepth 100000 in
set_option maxHeartbeats 4000000 in
theorem groups_seq (N bx bq z : Nat) (w : World) (hz : z < 18446744073709551616) (hb : w.heap[bx]? = some (.cells #[.int .u64 z] 196 (0, 0))) (hbq : bx ≠ bq) :
    SeqW Fence.wide N Tryz.prog 164 #[.pointer (some ⟨bx, 0, none⟩)] grpE (KpO w.heap.size bq) (fun xs => xs = grpL z) (grpL z).length bx w := by
  intro l J W hW hJ hY h0
  have hltb := blk_lt hb
  have HB := Lib.hid (hW.keep hb (by simp))
  have HY := Lib.hid hY; have HJ := Lib.hid hJ; have HJ0 := Lib.hid h0
  clear hb hY hJ h0 hW
  refine callsIn_of_wp Tryz.func164 rfl trivial ?_ rfl
  simp only [Tryz.ntmps164, List.size_toArray, List.length_cons, List.length_nil, Nat.reduceAdd, Nat.reduceSub, Array.replicate_succ, Array.replicate_zero, List.push_toArray, List.append_toArray, List.nil_append, List.cons_append]
  gi_wp2
  gi_loopw [] (fun wr => ∃ (pre : List (Int × Bool)) (c : Nat), c ≤ z ∧ Hid (wr.heap[bx]? = some (.cells #[.int .u64 c] 196 (0, 0))) ∧ Hid (J pre wr) ∧ Hid (grpL z = pre ++ grpL c)) (fun wr => zOf bx wr)
  case atStart => exact ⟨[], z, Nat.le_refl _, HB, HJ0, Lib.hid rfl⟩
  case round =>
    obtain ⟨pre, c, hc, H1, HP, HG⟩ := hrel
    have x0 := cell_of_blk H1.out 0
    have y0 := free_of_blk H1.out 0
    by_cases hlt : c < 128
    · have HL : Hid (grpL z = pre ++ [((c : Int), true)]) := Lib.hid (by rw [HG.out, grpL_one hlt])
      obtain ⟨fn, tmps, assign, body, hy, hR⟩ := HY.out pre ((c : Int), true) wr HP.out (by rw [HL.out, List.length_append]; simp)
      dsimp only [grpE] at hy
      have HRR := Lib.hid hR
      have hb1 := and127 c (by omega)
      have hb2 : (c : Int) % 128 = c := by omega
      have hb3 : (c : Int) % 256 = c := by omega
      have hd : decide ((c : Int) < 128) = true := by simp; omega
      clear hR
      gi_wp2
      refine ⟨fun hh => (by cases hh), ?_⟩
      refine HRR.out.mono ?_
      rintro e W3 ⟨rfl, hJ3, hk3⟩
      have HJ3 := Lib.hid hJ3
      clear hy hb1 hb2 hb3 hd hk3 hJ3
      gi_wp2
      refine bodyPost_ret (results_none rfl _ _ _) rfl ?_
      exact ⟨⟨_, rfl⟩, _, HL.out.symm, HJ3.out⟩
    · have HL : Hid (grpL z = pre ++ ((c : Int) % 128, false) :: grpL (c / 128)) := Lib.hid (by rw [HG.out, grpL_more hlt])
      obtain ⟨fn, tmps, assign, body, hy, hR⟩ := HY.out pre ((c : Int) % 128, false) wr HP.out (by rw [HL.out, List.length_append]; simp)
      dsimp only [grpE] at hy
      have HRR := Lib.hid hR
      have hb1 := and127 c (by omega)
      have hb3 : (c : Int) % 128 % 256 = (c : Int) % 128 := by omega
      have hd : decide ((c : Int) < 128) = false := by simp; omega
      clear hR
      gi_wp2
      refine ⟨fun hh => (by cases hh), ?_⟩
      refine HRR.out.mono ?_
      rintro e W3 ⟨rfl, hJ3, hk3⟩
      have h3 := (hk3.block bx hltb hbq).trans H1.out
      have HS := Lib.hid (heap_setCell_same (i := 0) (.int .u64 ((c / 128 : Nat) : Int)) h3)
      have HJ4 := Lib.hid (HJ.out _ _ _ hJ3 (Fr.setCell (fp := [bx]) W3 (p := ⟨bx, 0, none⟩) (.int .u64 ((c / 128 : Nat) : Int)) (by simp)))
      have x3 := cell_of_blk h3 0
      have y3 := free_of_blk h3 0
      have hz0 := Lib.hid (zOf_at x0)
      clear hy hb1 hb3 hd hk3 hJ3 h3 x0 y0
      gi_wp2
      go_roundw
      case rel => exact ⟨_, c / 128, by omega, HS, HJ4, Lib.hid (by rw [HL.out, List.append_assoc]; rfl)⟩
      case measure =>
        rw [hz0.out]
        have := zOf_at (cell_of_blk HS.out 0)
        show zOf bx (W3.setCell ⟨bx, 0, none⟩ (.int .u64 ((c / 128 : Nat) : Int))) < c
        rw [this]
        omega

end Go.Proofs.YtahfpadaoobkfaaGreatDoor

/-
  wire: PutInt of a number that is not negative.
-/
namespace Go.Proofs.YtahfpadaoobkfaaGreatDoor
open Go.RowKit Go.Shelf Go.Lib

attribute [local go_sem] Oper.semAt_some

def encV (x : Int × Bool) : Value := .int .u8 (if x.2 then x.1 else bits .or .u8 x.1 128)
theorem or128 : ∀ a : Fin 128, bits .or .u8 ((a.val : Nat) : Int) 128 = ((a.val : Nat) : Int) + 128 := by decide
theorem encV_grp (z : Nat) : (grpL z).map encV = byteCells (encZ z) := by
  induction z using Nat.strongRecOn with
  | _ z ih =>
    by_cases h : z < 128
    · rw [grpL_one h, encZ_one h]
      simp only [List.map_cons, List.map_nil, encV, if_true, byteCells, UInt8.toNat_ofNat']
      rw [Nat.mod_eq_of_lt (by omega)]
    · rw [grpL_more h, encZ_more h]
      have hb := or128 ⟨z % 128, Nat.mod_lt _ (by omega)⟩
      simp only at hb
      simp only [List.map_cons, encV, Bool.false_eq_true, if_false, ih (z / 128) (by omega), byteCells, UInt8.toNat_ofNat']
      rw [show (z : Int) % 128 = ((z % 128 : Nat) : Int) by omega, hb, Nat.mod_eq_of_lt (by omega : z % 128 + 128 < 256)]
      congr 2

theorem wp_sl_str {o : Oper} {a : Act} {w : World} {K : Act → World → Prop} {Q : Exit → Act → World → Prop} (x : Operand) (ho : o.op = .convert 160 9 x) (ad : Option Addr) (n cap : Nat) (l : List UInt8) (hx : a.eval x = .slice ad n cap) (hs : Sl w (.slice ad n cap) n (byteCells l)) (hn : 0 < n) (hl : l.length = n)
    (h : K (a.put o.dst (.string ⟨l.toArray⟩)) w) : o.wp Tryz.prog a w K Q := by
  obtain ⟨b, off, rfl, hc⟩ := hs.at_ hn
  have hrun := run_convert_bytes_back (P := Tryz.prog) w 160 9 5 ⟨b, off, none⟩ cap l Tryz.underlying160 Tryz.underlying5 Tryz.underlying9 (fun j hj => by
    have ha : (⟨b, off, none⟩ : Addr).add j = ⟨b, off + j, none⟩ := by
      unfold Addr.add; split
      · rename_i h0; subst h0; rfl
      · rfl
    rw [ha]
    exact hc j _ (by simp [byteCells, hj]))
  rw [hl] at hrun
  unfold Oper.wp execOp
  simp only [ho, Sem.run_bind, Sem.run_pure, Result.andThen_ok, hx, hrun]
  exact h

/-- What a box and its row say behind an append and the store. -/
theorem app_box {W0 W w1 : World} {Bo bx n m : Nat} {v v' : Value} {tmp : Obj} {xs ys : List Value} (hB : Bo < W0.heap.size) (h1 : W.heap[Bo]? = some (.cells #[v] 160 (0, 0))) (h2 : W.ownsRow W0.heap.size 5 1 v n xs) (h3 : Fr [Bo, bx] W0 W) (ho : w1.ownsRow W0.heap.size 5 1 v' m ys)
    (hg : (W.alloc tmp).grownBy w1 v.ownBlock) : w1.heap[Bo]? = some (.cells #[v] 160 (0, 0)) ∧ KeepsFrom W0.heap.size W (w1.setCell ⟨Bo, 0, none⟩ v') ∧ KpO W0.heap.size Bo W (w1.setCell ⟨Bo, 0, none⟩ v') ∧
    (w1.setCell ⟨Bo, 0, none⟩ v').heap[Bo]? = some (.cells #[v'] 160 (0, 0)) ∧ (w1.setCell ⟨Bo, 0, none⟩ v').ownsRow W0.heap.size 5 1 v' m ys ∧ Fr [Bo, bx] W0 (w1.setCell ⟨Bo, 0, none⟩ v') := by
  have lo : ∀ {u : World} {s : Value} {k : Nat} {zs : List Value}, u.ownsRow W0.heap.size 5 1 s k zs → ∀ g, s.ownBlock = some g → W0.heap.size ≤ g ∧ ∃ c, u.heap[g]? = some (.cells c 5 (0, 0)) := by
    intro u s k zs hr g hs
    rcases hr.2 with ⟨rfl, _⟩ | ⟨g', cap, cur, rfl, hb, hgb, _⟩
    · cases hs
    · cases hs; exact ⟨hb, _, hgb⟩
  have fA : Fr v.ownBlock.toList (W.alloc tmp) w1 := Fr.grown hg fun k hk => by simp [hk]
  have inL : ∀ i, i ∈ v.ownBlock.toList → W0.heap.size ≤ i ∧ ∃ c, W.heap[i]? = some (.cells c 5 (0, 0)) := fun i hi => lo h2 i (by simpa using hi)
  have hBo : Bo ∉ v.ownBlock.toList := fun hm => by have := (inL _ hm).1; omega
  have h4 := fA.keep (heap_alloc_old tmp h1) hBo
  have f4 : Fr [Bo, bx] W0 w1 := (h3.trans (Fr.alloc _ _ tmp)).step fA (fun i hi => .inr (inL i hi).1)
  refine ⟨h4, ⟨?_, ?_⟩, ⟨?_, ?_, ?_, ?_, ?_⟩, heap_setCell_same (i := 0) v' h4, ?_, f4.trans (Fr.setCell _ _ (by simp))⟩
  · have := fA.size
    simp only [World.size_alloc] at this
    show W.heap.size ≤ (w1.heap.modify _ _).size
    rw [Array.size_modify]; omega
  · intro k o hk hw hc
    have hkB : k ≠ Bo := by omega
    refine (Below.heap_setCell _ _ _ _ hkB).trans (fA.keep (heap_alloc_old tmp hw) fun hm => ?_)
    obtain ⟨_, c, h5⟩ := inL k hm
    rw [h5] at hw
    cases hw
    cases hc
  · exact fA.os
  · exact fA.tape
  · exact fA.output
  · have := fA.size
    simp only [World.size_alloc] at this
    show W.heap.size ≤ (w1.heap.modify _ _).size
    rw [Array.size_modify]; omega
  · intro k hk hne
    have hs := h3.size
    refine (Below.heap_setCell _ _ _ _ hne).trans ((fA.block k (by simp; omega) fun hm => ?_).trans (Below.heap_alloc _ _ _ (by omega)))
    have := (inL k hm).1
    omega
  · refine ho.kept (grownBy_setCell' w1 Bo v') (.inr fun e => ?_)
    have := (lo ho Bo e).1
    omega

/-- Between two rounds. -/
def PiI (W0 : World) (Bo bx : Nat) (pre : List (Int × Bool)) (W : World) : Prop :=
  ∃ v, W.heap[Bo]? = some (.cells #[v] 160 (0, 0)) ∧ W.ownsRow W0.heap.size 5 1 v pre.length (pre.map encV) ∧ Fr [Bo, bx] W0 W
theorem ownRow_at {u : World} {base : Nat} {e : TypeId} {s : Value} {k : Nat} {zs : List Value} (hr : u.ownsRow base e 1 s k zs) (g : Nat) (hs : s.ownBlock = some g) : base ≤ g ∧ ∃ c, u.heap[g]? = some (.cells c e (0, 0)) := by
  rcases hr.2 with ⟨rfl, _⟩ | ⟨g', cap, cur, rfl, hb, hgb, _⟩
  · cases hs
  · cases hs; exact ⟨hb, _, hgb⟩
theorem piI_fr {W0 : World} {Bo bx : Nat} (hx : bx < W0.heap.size) (hne : Bo ≠ bx) (s : List (Int × Bool)) (X Y : World) (h : PiI W0 Bo bx s X) (hf : Fr [bx] X Y) : PiI W0 Bo bx s Y := by
  obtain ⟨v, h1, h2, h3⟩ := h
  refine ⟨v, hf.keep h1 (by simpa using hne), h2.kept (row := some bx) ⟨hf.os, hf.tape, hf.output, hf.size, fun k hk hn => hf.block k hk (by simp; exact fun e => hn (by rw [e]))⟩ (.inr fun e => ?_), h3.trans (hf.mono (by simp))⟩
  have := (ownRow_at h2 bx e).1
  omega
theorem piI_own {W0 : World} {Bo bx : Nat} (hB : Bo < W0.heap.size) : OwnFrom W0.heap.size (PiI W0 Bo bx) := by
  rintro s X Y row ⟨v, h1, h2, h3⟩ hg hr
  refine ⟨v, (hg.block _ (blk_lt h1) (fun e => by have := (hr _ e.symm).1; omega)).trans h1, h2.kept hg ?_, h3.step (Fr.grown (fp := row.toList) hg (fun k hk => by simp [hk])) (fun i hi => .inr (hr i (by simpa using hi)).1)⟩
  cases hv : v.ownBlock with
  | none => exact .inl rfl
  | some g =>
    refine .inr fun e => ?_
    obtain ⟨_, o, ho, hc⟩ := hr g e.symm
    obtain ⟨_, c, hcc⟩ := ownRow_at h2 g hv
    rw [hcc] at ho
    cases ho
    cases hc
theorem row_zero {u : World} {base : Nat} {e : TypeId} {sz k : Nat} {s : Value} {zs : List Value} (h : u.ownsRow base e sz s k zs) : u.ownsRow 0 e sz s k zs := ⟨h.1, h.2.imp id fun ⟨g, cap, cur, a, _, c⟩ => ⟨g, cap, cur, a, Nat.zero_le _, c⟩⟩
theorem grpL_len : ∀ (k z : Nat), z < 128 ^ (k + 1) → (grpL z).length ≤ k + 1 ∧ 0 < (grpL z).length
  | 0, z, h => by rw [grpL_one (by simpa using h)]; simp
  | k + 1, z, h => by
    by_cases h1 : z < 128
    · rw [grpL_one h1]; simp
    · rw [grpL_more h1]
      have := grpL_len k (z / 128) (by rw [Nat.pow_succ] at h; omega)
      simp only [List.length_cons]
      omega
theorem zig_bits (n : Nat) (hn : n ≤ 4611686018427387903) : bits .xor .u64 ((n : Int) * 2) ((n : Int) / 9223372036854775808) = ((2 * n : Nat) : Int) := by
  have h := u64_xor_nat (2 * n) 0 (by omega) (by omega)
  rw [show (n : Int) * 2 = ((2 * n : Nat) : Int) by omega, show (n : Int) / 9223372036854775808 = ((0 : Nat) : Int) by omega, h, Nat.xor_zero]

set_option maxRecDepth 100000 in
set_option maxHeartbeats 4000000 in
theorem groups_c (z : Int) (w : World) : Calls Tryz.prog 131 #[.int .u64 z] w fun e w' => e = .returned (.func (.func 164) #[] #[.pointer (some ⟨w.heap.size, 0, none⟩)]) ∧ w' = w.alloc (.cells #[.int .u64 z] 196) := by
  go_enter Tryz.func131, Tryz.ntmps131
  go_wp2_with fail
  go_ret
  exact ⟨rfl, rfl⟩

set_option maxRecDepth 100000 in
set_option maxHeartbeats 4000000 in
theorem putInt_c (n : Nat) (hn : n ≤ 4611686018427387903) (w : World) : Calls Tryz.prog 108 #[.int .i64 n] w fun e w' => e = .returned (.tuple #[.string (str (encZ (2 * n))), .int .i64 0]) ∧ Fr [] w w' := by
  refine (callsIn_wide (n := 3)).1 (callsIn_of_wp_marks Tryz.func108 rfl trivial ?_ rfl)
  simp only [Tryz.ntmps108, List.size_toArray, List.length_cons, List.length_nil, Nat.reduceAdd, Nat.reduceSub, Array.replicate_succ, Array.replicate_zero, List.push_toArray, List.append_toArray, List.nil_append, List.cons_append]
  refine wpIn_wide.2 ?_
  go_wp2_with fail
  rw [zig_bits n hn]
  refine (groups_c _ _).mono ?_
  rintro e W0 ⟨rfl, hW0⟩
  have hB0 : W0.heap[w.heap.size]? = some (.cells #[.slice none 0 0] 160 (0, 0)) := by rw [hW0]; exact heap_alloc_old _ (heap_alloc_new _ _)
  have hX0 : W0.heap[w.heap.size + 1]? = some (.cells #[.int .u64 ((2 * n : Nat) : Int)] 196 (0, 0)) := by
    rw [hW0]
    have := heap_alloc_new (w.alloc (.cells #[.slice none 0 0] 160)) (.cells #[.int .u64 ((2 * n : Nat) : Int)] 196)
    simpa using this
  have F0 : Fr [] w W0 := by rw [hW0]; exact (Fr.alloc _ _ _).trans (Fr.alloc _ _ _)
  have hz0 : W0.heap.size = w.heap.size + 2 := by rw [hW0]; simp
  have HB0 := Lib.hid hB0; have HX0 := Lib.hid hX0; have HF0 := Lib.hid F0; have HZ0 := Lib.hid hz0
  have hgl := (grpL_len 9 (2 * n) (by omega)).1
  have hgp := (grpL_len 9 (2 * n) (by omega)).2
  clear hB0 hX0 F0 hz0 hW0
  go_wp2_with fail
  refine (wpIn_wide (n := 3)).1 ?_
  apply range_wr (F := Fence.wide) (n := 3) rfl (by omega) (gf := 164) (lb := #[.pointer (some ⟨w.heap.size + 1, 0, none⟩)]) rfl trivial (fun _ _ => rfl) (by rw [HZ0.out]; omega)
    (groups_seq 2 (w.heap.size + 1) w.heap.size (2 * n) W0 (by omega) HX0.out (by omega)) KpO.trans (fun W l o o' hl h => KpO.put W l o o' hl h) (fun _ => rfl)
    (PiI W0 w.heap.size (w.heap.size + 1)) (piI_fr (by rw [HZ0.out]; omega) (by omega)) (piI_own (by rw [HZ0.out]; omega)) ⟨_, HB0.out, World.ownsRow_nil _ _ _ _, Fr.refl _ _⟩
  case hassign =>
    intro l x W K hK
    gi_wp2
    exact hK
  case hbody =>
    rintro l pre ⟨g, last⟩ W ⟨v, h1, h2, h3⟩ hlt
    have c0 := cell_of_blk h1 0
    have hsz := h3.size
    have hBo : w.heap.size < W0.heap.size := by rw [HZ0.out]; omega
    obtain ⟨i0, hi, hz0, hz1, hz2⟩ := info_parts infoBy
    have H1 := Lib.hid h1; have H2 := Lib.hid h2; have H3 := Lib.hid h3; have HI := Lib.hid hi; have HI0 := Lib.hid hz0; have HI1 := Lib.hid hz1; have HI2 := Lib.hid hz2
    clear h1 h2 h3 hi hz0 hz1 hz2
    cases last
    · gi_wp2_with (gi_at_builtin; refine wpListIn_append_own _ rfl _ _ 160 rfl W0.heap.size 5 i0 (.int .u8 0) 1 1 Tryz.underlying160 HI.out HI0.out HI1.out HI2.out rfl (by decide) _ _ _ rfl (H2.out.alloc _) ⟨W.heap.size, 0, none⟩ 1 1 [.int .u8 (bits .or .u8 g 128)] rfl rfl (cell_one_new _ _ _) (by simp [Value.oneCell']) (by simp only [maxLen]; omega) (by omega) (by simp; omega) ?_; intro v' w1 hown hgrow _; obtain ⟨g', cap', rfl⟩ := ownsRow_succ hown; obtain ⟨k1, k2, k3, k4, k5, k6⟩ := app_box hBo H1.out H2.out H3.out hown hgrow; have hc1 := cell_of_blk k1 0; have hf1 := free_of_blk k1 0; have K2 := Lib.hid k2; have K3 := Lib.hid k3; have K4 := Lib.hid k4; have K5 := Lib.hid k5; have K6 := Lib.hid k6; clear k1 k2 k3 k4 k5 k6 hown hgrow)
      exact ⟨K2.out, K3.out, _, K4.out, by simpa [encV] using K5.out, K6.out⟩
    · gi_wp2_with (gi_at_builtin; refine wpListIn_append_own _ rfl _ _ 160 rfl W0.heap.size 5 i0 (.int .u8 0) 1 1 Tryz.underlying160 HI.out HI0.out HI1.out HI2.out rfl (by decide) _ _ _ rfl (H2.out.alloc _) ⟨W.heap.size, 0, none⟩ 1 1 [.int .u8 g] rfl rfl (cell_one_new _ _ _) (by simp [Value.oneCell']) (by simp only [maxLen]; omega) (by omega) (by simp; omega) ?_; intro v' w1 hown hgrow _; obtain ⟨g', cap', rfl⟩ := ownsRow_succ hown; obtain ⟨k1, k2, k3, k4, k5, k6⟩ := app_box hBo H1.out H2.out H3.out hown hgrow; have hc1 := cell_of_blk k1 0; have hf1 := free_of_blk k1 0; have K2 := Lib.hid k2; have K3 := Lib.hid k3; have K4 := Lib.hid k4; have K5 := Lib.hid k5; have K6 := Lib.hid k6; clear k1 k2 k3 k4 k5 k6 hown hgrow)
      exact ⟨K2.out, K3.out, _, K4.out, by simpa [encV] using K5.out, K6.out⟩
  case hdone =>
    rintro D xs W hD hS ⟨v, h1, h2, h3⟩ hK
    have hS' : xs = grpL (2 * n) := hS
    subst hS'
    rw [encV_grp] at h2
    obtain ⟨k, hk⟩ : ∃ k, (grpL (2 * n)).length = k + 1 := ⟨(grpL (2 * n)).length - 1, by omega⟩
    rw [hk] at h2
    obtain ⟨g, cap, rfl⟩ := ownsRow_succ h2
    have c0 := cell_of_blk h1 0
    have HSL := Lib.hid (sl_of_row (row_zero h2))
    have hel : (encZ (2 * n)).length = k + 1 := by
      have := congrArg List.length (encV_grp (2 * n))
      simp only [List.length_map, byteCells] at this
      omega
    have HEL := Lib.hid hel
    have hwD : w.heap.size ≤ D := by rw [HZ0.out] at hD; omega
    have FQ := (HF0.out.step h3 (fun i hi => by simp at hi; exact .inr (by omega))).step (Fr.grown (fp := [D]) (grownBy_putObj' W D (.deferred none)) (fun k hk => by cases hk; simp)) (fun i hi => .inr (by rw [List.mem_singleton] at hi; omega))
    have HQ := Lib.hid FQ; have HKE := Lib.hid hK
    clear h1 h2 h3 hK hS hk hel FQ hD
    go_wp2_with (first | ((with_reducible refine wpList_of_wp (o := ⟨some 32, _, _, _, _, _⟩) rfl (fun K hK => ?_)); apply stopD; case _other => exact trivial))
    (refine stopD ?_ ?_; rotate_left; exact trivial)
    refine wp_sl_str (.tmp 31) rfl _ (k + 1) cap _ rfl HSL.out (by omega) HEL.out ?_
    refine hK _ _ ?_
    clear hK K
    go_wp2_with fail
    refine ⟨by simp, .inl ⟨_, _, rfl, run_takeDeferred HKE.out, ?_⟩⟩
    exact ⟨_, results_tmp2 rfl _ _ _, rfl, HQ.out⟩

end Go.Proofs.YtahfpadaoobkfaaGreatDoor

/-
  Rows under a frame; made bytes.
-/
namespace Go.Proofs.YtahfpadaoobkfaaGreatDoor
open Go.RowKit Go.Lib

theorem row_fr {w w' : World} {e : TypeId} {sz n : Nat} {v : Value} {xs : List Value} {S : List Nat} (h : w.ownsRow 0 e sz v n xs) (hf : Fr S w w') (hS : ∀ g, v.ownBlock = some g → g ∉ S) : w'.ownsRow 0 e sz v n xs := by
  refine ⟨h.1, h.2.imp id ?_⟩
  rintro ⟨g, cap, cur, rfl, h1, h2, h3⟩
  exact ⟨g, cap, cur, rfl, h1, hf.keep h2 (hS g rfl), h3⟩
theorem made_bytes (n : Nat) : madeCells #[Value.int .u8 0] n = (byteCells (List.replicate n 0)).toArray := by
  apply Array.ext'
  simp only [madeCells, Array.toList_map, Array.toList_range, byteCells]
  apply List.ext_getElem
  · simp
  · intro i h1 h2
    simp [Nat.mod_one]

theorem src_one (w : World) (v : Value) (t : TypeId) : SrcAt (w.alloc (.cells #[v] t)) (.slice (some ⟨w.heap.size, 0, none⟩) 1 1) 1 [v] :=
  ⟨.inr ⟨_, 1, rfl, fun j u hu => by
    rw [add_at, cell_of_blk (heap_alloc_new _ _)]
    simpa using hu⟩⟩

end Go.Proofs.YtahfpadaoobkfaaGreatDoor
