/-
  A disk beside the reference's disk: both go on alike.
-/
import Derived.Test.YtanjjgodlgmfcaaRfW3
namespace Go.Proofs.Ytanjjgodlgmfcaa
open Go.RowKit Go.Lib

structure Two (w w' : World) (b x : Nat) (fp fx : List Nat) (D R : Dk) : Prop where
  d : Own w w' b fp D
  r : RfA w' x fx R
  sep : ∀ k, k ∈ fp → k ∉ fx
  new : ∀ k, k ∈ fx → w.heap.size ≤ k

theorem Two.same {w w1 w2 : World} {b x : Nat} {fp fx : List Nat} {D R : Dk} (h : Two w w1 b x fp fx D R) (hf : Fr [] w1 w2) : Two w w2 b x fp fx D R := ⟨h.d.same hf, h.r.keep hf (by simp), h.sep, h.new⟩
theorem Two.stepD {w w1 w2 : World} {b x : Nat} {fp fx : List Nat} {D R D' : Dk} {r : Value} {e : Ending} (h : Two w w1 b x fp fx D R) (k : DkStep b fp r D' w1 e w2) : e = .returned r ∧ ∃ fp', Two w w2 b x fp' fx D' R ∧ Upd fp fp' w1 w2 := by
  obtain ⟨he, fp', h1, h2⟩ := h.d.stepU k
  exact ⟨he, fp', ⟨h1, h.r.keep h2.fr (fun q hq hm => h.sep q hm hq), fun q hq hm => h2.notin (fun hh => h.sep q hh hm) (h.r.lt q hm) hq, h.new⟩, h2⟩
theorem Two.stepR {w w1 w2 : World} {b x : Nat} {fp fx : List Nat} {D R R' : Dk} {r : Value} {e : Ending} (h : Two w w1 b x fp fx D R) (k : RfStep x fx r R' w1 e w2) : e = .returned r ∧ ∃ fx', Two w w2 b x fp fx' D R' ∧ Upd fx fx' w1 w2 := by
  obtain ⟨he, fx', h1, h2⟩ := k
  refine ⟨he, fx', ⟨⟨h.d.at_.keep h2.fr h.sep, h.d.fr.step h2.fr (fun i hi => .inr (h.new i hi)), h.d.new⟩, h1, fun q hq => h2.notin (h.sep q hq) (h.d.at_.lt q hq), fun q hq => ?_⟩, h2⟩
  rcases h2.sub q hq with hh | hh
  · exact h.new q hh
  · exact Nat.le_trans h.d.fr.size hh
theorem Two.young {w w1 : World} {b x : Nat} {fp fx : List Nat} {D R : Dk} (h : Two w w1 b x fp fx D R) {k : Nat} (hk : w1.heap.size ≤ k) : k ∉ fp ∧ k ∉ fx := ⟨h.d.young hk, fun hm => by have := h.r.lt k hm; omega⟩

/-- The parameters of a step. -/
structure Sp where
  call : Int
  off : Int
  n : Int
  s : ByteArray
  ka : Option Addr
  kcap : Nat
  keep : List Int
structure Sp.Ok (y : Sp) (w : World) : Prop where
  c1 : -9223372036854775808 ≤ y.call
  c2 : y.call ≤ 9223372036854775807
  o1 : -9223372036854775808 ≤ y.off
  o2 : y.off ≤ 9223372036854775807
  n1 : -9223372036854775808 ≤ y.n
  n2 : y.n ≤ 9223372036854775807
  s1 : y.s.size ≤ 9223372036854775807
  row : RowI w y.ka y.kcap y.keep

theorem intsB_of_rowI {w : World} {a : Option Addr} {cap : Nat} {zs : List Int} (h : RowI w a cap zs) : IntsB w.heap.size w (.slice a zs.length cap) zs := by
  rcases Nat.eq_zero_or_pos zs.length with h0 | h0
  · have := List.eq_nil_of_length_eq_zero h0
    subst this
    exact .inl ⟨rfl, a, cap, rfl⟩
  · obtain ⟨b, off, rfl, hb, hc⟩ := h.cells h0
    exact .inr ⟨b, off, cap, rfl, hb, fun j hj => by rw [hc j hj]; simp [hj]⟩

theorem write_lens {D : Dk} (off : Int) (s : ByteArray) : (D.writeD off s).dur.length = D.dur.length ∧ (D.writeD off s).pend.length ≤ D.pend.length + 1 := by
  unfold Dk.writeD Dk.write Dk.use Dk.put
  split
  · exact ⟨rfl, by omega⟩
  · split
    · simp only
      split
      · exact ⟨rfl, by simp⟩
      · exact ⟨rfl, by simp⟩
    · exact ⟨rfl, by omega⟩
theorem sync_lens {D : Dk} (h : D.Ok) : D.syncD.dur.length = D.dur.length ∧ D.syncD.pend.length ≤ D.pend.length + 1 := by
  unfold Dk.syncD Dk.sync
  split
  · exact ⟨rfl, by omega⟩
  · exact ⟨h.len, by simp⟩
theorem cut_lens {D : Dk} (n : Int) : (D.cutD n).dur.length = D.dur.length ∧ (D.cutD n).pend.length ≤ D.pend.length + 1 := by
  unfold Dk.cutD Dk.cut
  split
  · exact ⟨rfl, by omega⟩
  · split
    · exact ⟨rfl, by omega⟩
    · exact ⟨rfl, by simp⟩
theorem crash_lens {D : Dk} (h : D.Ok) (keep : List Int) (torn : Int) : (D.crash keep torn).dur.length = D.dur.length ∧ (D.crash keep torn).pend.length ≤ D.pend.length + 1 :=
  ⟨crashTo_length h keep torn _ (Nat.le_refl _), by simp [Dk.crash]⟩

theorem Two.ok {w w1 : World} {b x : Nat} {fp fx : List Nat} {D R : Dk} (h : Two w w1 b x fp fx D R) : D.Ok := by
  obtain ⟨_, _, _, h, _⟩ := h.d.at_
  exact h.ok

/-- What a step leaves. -/
def Stepped (w : World) (b x : Nat) (D : Dk) (e : Ending) (w' : World) : Prop := e = .returned (.bool true) ∧ ∃ fp fx D', Two w w' b x fp fx D' D' ∧ D'.dur.length = D.dur.length ∧ D'.pend.length ≤ D.pend.length + 1

abbrev spCells (y : Sp) : Array Value := #[.int .i64 y.call, .int .i64 y.off, .int .i64 y.n, .string y.s, .slice y.ka y.keep.length y.kcap]

set_option maxRecDepth 1000000 in
set_option maxHeartbeats 8000000 in
theorem step_c (w w1 : World) (b x : Nat) (fp fx : List Nat) (D : Dk) (y : Sp) (h : Two w w1 b x fp fx D D) (hy : y.Ok w) (hp : D.pend.length ≤ 1000000) :
    Calls Try.prog 19 #[.pointer (some ⟨b, 0, none⟩), .pointer (some ⟨x, 0, none⟩), .agg (spCells y)] w1 (Stepped w b x D) := by
  obtain ⟨call, off, n, s, ka, kcap, keep⟩ := y
  obtain ⟨c1, c2, o1, o2, n1, n2, s1, row⟩ := hy
  simp only at c1 c2 o1 o2 n1 n2 s1 row
  have hpk := pickI_bound call 6 (by omega)
  have cP := Lib.hid (fun w => pick_any call 6 w c1 c2 (by omega) (by omega))
  generalize pickI call 6 = pk at *
  have hok := h.ok
  have H2 := Lib.hid (h.same (Fr.alloc [] w1 (.cells (spCells ⟨call, off, n, s, ka, kcap, keep⟩) 39)))
  have hyo := h.young (Nat.le_refl _)
  have hnv := Lib.hid (heap_alloc_new w1 (.cells (spCells ⟨call, off, n, s, ka, kcap, keep⟩) 39))
  clear h
  have hcase : (pk = 0 ∨ pk = 1) ∨ pk = 2 ∨ pk = 3 ∨ pk = 4 ∨ pk = 5 := by omega
  rcases hcase with h01 | rfl | rfl | rfl | rfl
  · have cC := Lib.hid (fun w => cut_str s 300 w s1 (by omega))
    have hsz : (s.extract 0 (min s.size 300)).size ≤ 9223372036854775807 := by simp; omega
    generalize s.extract 0 (min s.size 300) = s' at *
    have CW : Hid (∀ W : World, Two w W b x fp fx D D → Calls Try.prog 21 #[.pointer (some ⟨b, 0, none⟩), .int .i64 off, .string s'] W fun e w2 => e = .returned (.int .i64 (D.writeE off s')) ∧ ∃ fp', Two w w2 b x fp' fx (D.writeD off s') D ∧ Upd fp fp' W w2) := Lib.hid fun W hT => (write_dk b fp D off s' W hT.d.at_ o1 o2 hsz (by omega)).mono fun _ _ k => hT.stepD k
    have CR : Hid (∀ (W : World) (fp' : List Nat), Two w W b x fp' fx (D.writeD off s') D → Calls Try.prog 30 #[.pointer (some ⟨x, 0, none⟩), .int .i64 off, .string s'] W fun e w2 => e = .returned (.int .i64 (D.writeE off s')) ∧ ∃ fx', Two w w2 b x fp' fx' (D.writeD off s') (D.writeD off s') ∧ Upd fx fx' W w2) := Lib.hid fun W fp' hT => (rWrite_dk x fx D off s' W hT.r o1 o2 hsz (by omega)).mono fun _ _ k => hT.stepR k
    have HL := Lib.hid (write_lens (D := D) off s')
    generalize D.writeE off s' = we at *
    generalize D.writeD off s' = D' at *
    rcases h01 with rfl | rfl
    all_goals
      go_enter Try.func19, Try.ntmps19
      go_wp2_with (first | (go_at_call 15; refine (cP.out _).mono ?_; rintro e w2 ⟨rfl, rfl⟩) | (go_at_call 22; refine (cC.out _).mono ?_; rintro e w2 ⟨rfl, rfl⟩))
      have Y := Lib.hid hyo
      generalize w1.alloc (.cells (spCells ⟨call, off, n, s, ka, kcap, keep⟩) 39) = W2 at *
      have hbb := blk_lt hnv.out
      generalize w1.heap.size = B at *
      have t1 : W2.cell? ⟨B, 1, none⟩ = some (.int .i64 off) := cell_of_blk hnv.out 1
      have t1d : W2.drew.cell? ⟨B, 1, none⟩ = some (.int .i64 off) := t1
      go_region_held3 (fun W' : World => W'.cell? ⟨B, 1, none⟩ = some (.int .i64 off)) (first | exact t1d | assumption) (first | (go_at_call 21; refine (CW.out _ (H2.out.same (Fr.drew _ _))).mono ?_; rintro e w3 ⟨rfl, fp3, o3, f3⟩; have O3 := Lib.hid o3; have V3 := Lib.hid (f3.fr.keep (w := W2.drew) hnv.out Y.out.1); have t3 : w3.cell? ⟨B, 1, none⟩ = some (.int .i64 off) := cell_of_blk V3.out 1; clear o3 f3) | (go_at_call 30; refine (CR.out _ _ O3.out).mono ?_; rintro e w4 ⟨rfl, fx4, o4, f4⟩; have O4 := Lib.hid o4; have t4 : w4.cell? ⟨B, 1, none⟩ = some (.int .i64 off) := cell_of_blk (f4.fr.keep V3.out Y.out.2) 1; clear o4 f4))
      all_goals
        go_wp2
        go_ret
        exact ⟨by simp, fp3, fx4, D', O4.out, HL.out⟩
  · have CY : Hid (∀ W : World, Two w W b x fp fx D D → Calls Try.prog 23 #[.pointer (some ⟨b, 0, none⟩)] W fun e w2 => e = .returned (.int .i64 D.syncE) ∧ ∃ fp', Two w w2 b x fp' fx D.syncD D ∧ Upd fp fp' W w2) := Lib.hid fun W hT => (sync_dk b fp D W hT.d.at_).mono fun _ _ k => hT.stepD k
    have CR : Hid (∀ (W : World) (fp' : List Nat), Two w W b x fp' fx D.syncD D → Calls Try.prog 31 #[.pointer (some ⟨x, 0, none⟩)] W fun e w2 => e = .returned (.int .i64 D.syncE) ∧ ∃ fx', Two w w2 b x fp' fx' D.syncD D.syncD ∧ Upd fx fx' W w2) := Lib.hid fun W fp' hT => (rSync_dk x fx D W hT.r (by omega)).mono fun _ _ k => hT.stepR k
    have HL := Lib.hid (sync_lens hok)
    generalize D.syncE = we at *
    generalize D.syncD = D' at *
    go_enter Try.func19, Try.ntmps19
    go_wp2_with (first | (go_at_call 15; refine (cP.out _).mono ?_; rintro e w2 ⟨rfl, rfl⟩) | (go_at_call 23; refine (CY.out _ H2.out).mono ?_; rintro e w3 ⟨rfl, fp3, o3, f3⟩; have O3 := Lib.hid o3; clear o3 f3) | (go_at_call 31; refine (CR.out _ _ O3.out).mono ?_; rintro e w4 ⟨rfl, fx4, o4, f4⟩; have O4 := Lib.hid o4; clear o4 f4))
    go_ret
    exact ⟨by simp, fp3, fx4, D', O4.out, HL.out⟩
  · have CR1 : Hid (∀ W : World, Two w W b x fp fx D D → Calls Try.prog 14 #[.pointer (some ⟨b, 0, none⟩), .int .i64 off, .int .i64 n] W fun e w2 => e = .returned (.tuple #[.string ⟨(D.readS off n).toArray⟩, .int .i64 (D.readE off n)]) ∧ W = w2) := Lib.hid fun W hT => read_dk b fp D off n W hT.d.at_ o1 o2 n1 n2
    have CR2 : Hid (∀ W : World, Two w W b x fp fx D D → Calls Try.prog 20 #[.pointer (some ⟨x, 0, none⟩), .int .i64 off, .int .i64 n] W fun e w2 => e = .returned (.tuple #[.string ⟨(D.readS off n).toArray⟩, .int .i64 (D.readE off n)]) ∧ Fr [] W w2) := Lib.hid fun W hT => rRead_dk x fx D off n W hT.r o1 o2 n1 n2 (by omega)
    generalize (⟨(D.readS off n).toArray⟩ : ByteArray) = rs at *
    generalize D.readE off n = re at *
    go_enter Try.func19, Try.ntmps19
    go_wp2_with (first | (go_at_call 15; refine (cP.out _).mono ?_; rintro e w2 ⟨rfl, rfl⟩) | (go_at_call 14; refine (CR1.out _ H2.out).mono ?_; rintro e w3 ⟨rfl, rfl⟩) | (go_at_call 20; refine (CR2.out _ H2.out).mono ?_; rintro e w4 ⟨rfl, f4⟩; have k1 := (World.cell?_of_block (f4.block w1.heap.size (by simp) (by simp))).trans (cell_of_blk hnv.out 1); have O4 := Lib.hid (H2.out.same f4); clear f4))
    go_ret
    exact ⟨by simp, fp, fx, D, O4.out, rfl, by omega⟩
  · have CY : Hid (∀ W : World, Two w W b x fp fx D D → Calls Try.prog 24 #[.pointer (some ⟨b, 0, none⟩), .int .i64 n] W fun e w2 => e = .returned (.int .i64 (D.cutE n)) ∧ ∃ fp', Two w w2 b x fp' fx (D.cutD n) D ∧ Upd fp fp' W w2) := Lib.hid fun W hT => (cut_dk b fp D n W hT.d.at_ n2).mono fun _ _ ⟨he, h1, h2⟩ => hT.stepD ⟨he, fp, h1, h2, fun _ h => .inl h⟩
    have CR : Hid (∀ (W : World) (fp' : List Nat), Two w W b x fp' fx (D.cutD n) D → Calls Try.prog 32 #[.pointer (some ⟨x, 0, none⟩), .int .i64 n] W fun e w2 => e = .returned (.int .i64 (D.cutE n)) ∧ ∃ fx', Two w w2 b x fp' fx' (D.cutD n) (D.cutD n) ∧ Upd fx fx' W w2) := Lib.hid fun W fp' hT => (rCut_dk x fx D n W hT.r n2).mono fun _ _ k => hT.stepR k
    have HL := Lib.hid (cut_lens (D := D) n)
    generalize D.cutE n = we at *
    generalize D.cutD n = D' at *
    go_enter Try.func19, Try.ntmps19
    go_wp2_with (first | (go_at_call 15; refine (cP.out _).mono ?_; rintro e w2 ⟨rfl, rfl⟩))
    have Y := Lib.hid hyo
    generalize w1.alloc (.cells (spCells ⟨call, off, n, s, ka, kcap, keep⟩) 39) = W2 at *
    generalize w1.heap.size = B at *
    have t1 : W2.cell? ⟨B, 2, none⟩ = some (.int .i64 n) := cell_of_blk hnv.out 2
    have t1d : W2.drew.cell? ⟨B, 2, none⟩ = some (.int .i64 n) := t1
    go_region_held3 (fun W' : World => W'.cell? ⟨B, 2, none⟩ = some (.int .i64 n)) (first | exact t1d | assumption) (first | (go_at_call 24; refine (CY.out _ (H2.out.same (Fr.drew _ _))).mono ?_; rintro e w3 ⟨rfl, fp3, o3, f3⟩; have O3 := Lib.hid o3; have V3 := Lib.hid (f3.fr.keep (w := W2.drew) hnv.out Y.out.1); have t3 : w3.cell? ⟨B, 2, none⟩ = some (.int .i64 n) := cell_of_blk V3.out 2; clear o3 f3) | (go_at_call 32; refine (CR.out _ _ O3.out).mono ?_; rintro e w4 ⟨rfl, fx4, o4, f4⟩; have O4 := Lib.hid o4; have t4 : w4.cell? ⟨B, 2, none⟩ = some (.int .i64 n) := cell_of_blk (f4.fr.keep V3.out Y.out.2) 2; clear o4 f4))
    all_goals
      go_wp2
      go_ret
      exact ⟨by simp, fp3, fx4, D', O4.out, HL.out⟩
  · have hmn : Hid ((min (keep.length : Int) 100).toNat = (keep.take 100).length) := Lib.hid (by simp; omega)
    have hrt := row.take (min keep.length 100) (by omega)
    have e100 : keep.take (min keep.length 100) = keep.take 100 := by
      rcases Nat.le_total keep.length 100 with h | h
      · rw [Nat.min_eq_left h, List.take_length, List.take_of_length_le h]
      · rw [Nat.min_eq_right h]
    rw [e100] at hrt
    have hk100 : (keep.take 100).length ≤ 100 := by simp; omega
    have hle := row.le
    have hmx := row.max
    have hm1 : min (keep.length : Int) 100 ≤ kcap := by omega
    have hm0 : 0 ≤ min (keep.length : Int) 100 := by omega
    generalize keep.take 100 = kk at *
    have CX : Hid (∀ (W : World) (fx' : List Nat), Two w W b x fp fx' D (D.crash kk n) → Calls Try.prog 25 #[.pointer (some ⟨b, 0, none⟩), .slice ka kk.length kcap, .int .i64 n] W fun e w2 => e = .returned (.int .i64 0) ∧ ∃ fp', Two w w2 b x fp' fx' (D.crash kk n) (D.crash kk n) ∧ Upd fp fp' W w2) := Lib.hid fun W fx' hT => (crash_dk b fp _ D kk n W hT.d.at_ (intsB_of_rowI (hrt.keep hT.d.fr.below)) (by omega) hrt.wf n1 n2).mono fun _ _ k => hT.stepD k
    have CR : Hid (∀ W : World, Two w W b x fp fx D D → Calls Try.prog 33 #[.pointer (some ⟨x, 0, none⟩), .slice ka kk.length kcap, .int .i64 n] W fun e w2 => e = .returned (.tuple #[]) ∧ ∃ fx', Two w w2 b x fp fx' D (D.crash kk n) ∧ Upd fx fx' W w2) := Lib.hid fun W hT => (rCrash_dk x fx D ka kcap kk n W hT.r (hrt.keep hT.d.fr.below) n1 n2 (by omega)).mono fun _ _ k => hT.stepR k
    have HL := Lib.hid (crash_lens hok kk n)
    generalize D.crash kk n = D' at *
    rw [← hmn.out] at CX CR
    clear hrt row e100
    have Y := Lib.hid hyo
    go_enter Try.func19, Try.ntmps19
    go_wp2_with (first | (go_at_call 15; refine (cP.out _).mono ?_; rintro e w2 ⟨rfl, rfl⟩) | (go_at_call 33; refine (CR.out _ H2.out).mono ?_; rintro e w3 ⟨rfl, fx3, o3, f3⟩; have O3 := Lib.hid o3; have V3 := Lib.hid (f3.fr.keep hnv.out Y.out.2); have t3 : w3.cell? ⟨w1.heap.size, 2, none⟩ = some (.int .i64 n) := cell_of_blk V3.out 2; clear o3 f3) | (go_at_call 25; refine (CX.out _ _ O3.out).mono ?_; rintro e w4 ⟨rfl, fp4, o4, f4⟩; have O4 := Lib.hid o4; clear o4 f4))
    go_ret
    exact ⟨by simp, fp4, fx3, D', O4.out, HL.out⟩

end Go.Proofs.Ytanjjgodlgmfcaa
