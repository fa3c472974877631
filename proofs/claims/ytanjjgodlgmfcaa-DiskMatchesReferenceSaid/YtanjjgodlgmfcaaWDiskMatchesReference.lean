/-
  The walk of DiskMatchesReference.
-/
import Derived.Test.YtanjjgodlgmfcaaL9h
namespace Go.Proofs.Ytanjjgodlgmfcaa
open Go.RowKit Go.Lib

/-- A slice of the parameters of steps. -/
structure RowS (W : World) (a : Option Addr) (cap : Nat) (l : List Sp) : Prop where
  le : l.length ≤ cap
  max : cap ≤ 9223372036854775807
  ok : ∀ y, y ∈ l → y.Ok W
  cells : 0 < l.length → ∃ b off, a = some ⟨b, off, none⟩ ∧ b < W.heap.size ∧ ∀ i, (h : i < l.length) → W.cell? ⟨b, off + i * 5, none⟩ = some (.int .i64 l[i].call) ∧ W.cell? ⟨b, off + i * 5 + 1, none⟩ = some (.int .i64 l[i].off) ∧ W.cell? ⟨b, off + i * 5 + 2, none⟩ = some (.int .i64 l[i].n) ∧ W.cell? ⟨b, off + i * 5 + 3, none⟩ = some (.string l[i].s) ∧ W.cell? ⟨b, off + i * 5 + 4, none⟩ = some (.slice l[i].ka l[i].keep.length l[i].kcap)

instance : Inhabited Sp := ⟨⟨0, 0, 0, ByteArray.empty, none, 0, []⟩⟩

set_option maxRecDepth 100000 in
theorem rowS_of_open {H : Type} {enc : TypeId × Value → H} {W : World} {base : Nat} {v : Value} {d : DataW H} {p : List MemPlace}
    (k : Value.okWide Try.prog W .any base 32 v) (h : DataW.Trod enc Try.prog W 0 (fun _ => true) true 32 v d p) : ∃ a cap l, v = .slice a l.length cap ∧ RowS W a cap l := by
  obtain ⟨a0, len0, cap0, rfl⟩ := Go.WideShapes.okWide_slice Try.underlying32 k
  obtain ⟨fuel, hf⟩ := h
  obtain ⟨a, len, cap, hv, h1, h2, h3⟩ := structs_of_trod Try.underlying32 Try.underlying39 (by kernel_rfl) (by kernel_rfl) (by decide) (by simpa [Value.cells] using hf)
  rcases Nat.eq_zero_or_pos len with h0 | h0
  · exact ⟨a, cap, [], by rw [hv, h0]; rfl, by simp, h2, by simp, by simp⟩
  · obtain ⟨b, off, ha, hb, hc⟩ := h3 h0
    have each : ∀ i, i < len → ∃ y : Sp, y.Ok W ∧ W.cell? ⟨b, off + i * 5, none⟩ = some (.int .i64 y.call) ∧ W.cell? ⟨b, off + i * 5 + 1, none⟩ = some (.int .i64 y.off) ∧ W.cell? ⟨b, off + i * 5 + 2, none⟩ = some (.int .i64 y.n) ∧ W.cell? ⟨b, off + i * 5 + 3, none⟩ = some (.string y.s) ∧ W.cell? ⟨b, off + i * 5 + 4, none⟩ = some (.slice y.ka y.keep.length y.kcap) := by
      intro i hi
      obtain ⟨u0, _, _, c0, t0⟩ := hc i hi 0 _ rfl
      obtain ⟨u1, _, _, c1, t1⟩ := hc i hi 1 _ rfl
      obtain ⟨u2, _, _, c2, t2⟩ := hc i hi 2 _ rfl
      obtain ⟨u3, _, _, c3, t3⟩ := hc i hi 3 _ rfl
      obtain ⟨u4, _, _, c4, t4⟩ := hc i hi 4 _ rfl
      obtain ⟨x0, rfl, b0, b1⟩ := trod_i64 Try.underlying3 t0
      obtain ⟨x1, rfl, b2, b3⟩ := trod_i64 Try.underlying3 t1
      obtain ⟨x2, rfl, b4, b5⟩ := trod_i64 Try.underlying3 t2
      obtain ⟨s, rfl, s1⟩ := trod_str Try.underlying9 t3
      obtain ⟨ka, kcap, zs, rfl, hr⟩ := rowI_of_trod Try.underlying37 Try.underlying3 (by kernel_rfl) t4
      exact ⟨⟨x0, x1, x2, s, ka, kcap, zs⟩, ⟨b0, b1, b2, b3, b4, b5, s1, hr⟩, c0, c1, c2, c3, c4⟩
    obtain ⟨l, hl, hQ⟩ := list_of_each len each
    refine ⟨a, cap, l, by rw [hv, hl], by omega, h2, fun x hx => ?_, fun _ => ⟨b, off, ha, hb, fun i hi => (hQ i hi).2⟩⟩
    obtain ⟨j, hj, rfl⟩ := List.getElem_of_mem hx
    exact (hQ j hj).1

set_option maxRecDepth 1000000 in
set_option maxHeartbeats 20000000 in
theorem diskMatchesReference_c (size : Int) (a : Option Addr) (cap : Nat) (l : List Sp) (w : World) (h1 : -9223372036854775808 ≤ size) (h2 : size ≤ 9223372036854775807) (hr : RowS w a cap l) :
    Calls Try.prog 4 #[.int .i64 size, .slice a l.length cap] w fun e w' => e = .returned (.bool true) ∧ Below w.heap.size w w' := by
  have hlm : l.length ≤ 9223372036854775807 := Nat.le_trans hr.le hr.max
  have cS := Lib.hid (sane_c w)
  have hp := pickI_bound size 400 (by omega)
  have cP := Lib.hid (fun w => pick_any size 400 w h1 h2 (by omega) (by omega))
  generalize pickI size 400 = sz at *
  obtain ⟨m, rfl⟩ := Int.eq_ofNat_of_zero_le hp.1
  have hn1 : m + 1 ≤ 400 := by omega
  have cN := Lib.hid (fun w => new_own (m + 1) w (by omega) (by omega))
  have cR := Lib.hid (fun w => rNew_ok (m + 1) w (by omega) (by omega))
  have en : ((m + 1 : Nat) : Int) = 1 + (m : Int) := by omega
  rw [en] at cN cR
  have HR := Lib.hid hr; clear hr
  have Hen := Lib.hid en; clear en
  go_enter Try.func4, Try.ntmps4
  go_wp2_with fail
  refine cS.out.mono ?_
  rintro e w1 ⟨rfl, f1⟩
  go_wp2_with fail
  refine (cP.out _).mono ?_
  rintro e w1b ⟨rfl, rfl⟩
  go_wp2_with fail
  refine (cN.out _).mono ?_
  rintro e w2 ⟨b, fp, rfl, o1⟩
  have O1 := Lib.hid (o1.older f1); clear o1 f1
  go_wp2_with fail
  refine (cR.out _).mono ?_
  rintro e w3 ⟨x, fx, rfl, r3, f3, n3⟩
  have HT : Hid (Two w w3 b x fp fx (Dk.new (m + 1)) (Dk.new (m + 1))) := Lib.hid ⟨O1.out.same f3, r3, fun k hk hm => by have := O1.out.at_.lt k hk; have := n3 k hm; omega, fun k hk => Nat.le_trans O1.out.fr.size (n3 k hk)⟩
  have hd0 : (Dk.new (m + 1)).dur.length = m + 1 ∧ (Dk.new (m + 1)).pend.length ≤ 0 := by simp [Dk.new]
  generalize Dk.new (m + 1) = D0 at *
  clear r3 f3 n3 O1 cN cR
  go_wp2
  go_loopw [10] (fun i wr => ∃ (k : Nat) (fp fx : List Nat) (D : Dk), k ≤ l.length ∧ k ≤ 60 ∧ i = .int .i64 k ∧ Hid (Two w wr b x fp fx D D) ∧ D.dur.length = m + 1 ∧ D.pend.length ≤ k) (fun i _ => l.length - (intOf i).toNat)
  case atStart => exact ⟨0, fp, fx, D0, Nat.zero_le _, by omega, rfl, HT, hd0⟩
  case round =>
    obtain ⟨k, fp, fx, D, hk, hk60, rfl, HO, hdl, hpl⟩ := hrel
    by_cases hlt : k < l.length ∧ k < 60
    · obtain ⟨hlt, h60⟩ := hlt
      obtain ⟨b', off', ha, hb', hcs⟩ := HR.out.cells (by omega)
      subst ha
      have hbel := HO.out.d.fr.below
      obtain ⟨q0, q1, q2, q3, q4⟩ := hcs k hlt
      have e0 := (hbel.cell (p := ⟨b', off' + k * 5, none⟩) hb').trans q0
      have e1 := (hbel.cell (p := ⟨b', off' + k * 5 + 1, none⟩) hb').trans q1
      have e2 := (hbel.cell (p := ⟨b', off' + k * 5 + 2, none⟩) hb').trans q2
      have e3 := (hbel.cell (p := ⟨b', off' + k * 5 + 3, none⟩) hb').trans q3
      have e4 := (hbel.cell (p := ⟨b', off' + k * 5 + 4, none⟩) hb').trans q4
      have hok := HR.out.ok _ (List.getElem_mem hlt)
      clear hcs q0 q1 q2 q3 q4 hbel
      generalize l[k] = y at *
      have CS := Lib.hid (step_c w wr.drew b x fp fx D y (HO.out.same (Fr.drew _ _)) hok (by omega))
      obtain ⟨call, off, n, s, ka, kcap, keep⟩ := y
      simp only [spCells] at e0 e1 e2 e3 e4 CS
      go_wp2_with fail
      go_region_law (first | (go_simp; go_at_call 19; refine CS.out.mono ?_; rintro e w4 ⟨rfl, fp4, fx4, D4, o4, hd4, hp4⟩; obtain ⟨sv, pv, hin, hfx⟩ := o4.r; obtain ⟨pa, pc, hpv⟩ := ownsRow_slice hin.pend; subst hpv; have k1 : w4.cell? ⟨x, 1, none⟩ = some (.slice pa D4.pend.length pc) := cell_of_blk hin.str 1; have CPe := Lib.hid (pending_own o4.d); have cSz := size_own o4.d; rw [hd4, hdl, Hen.out] at cSz; have CSz := Lib.hid cSz; have O4 := Lib.hid o4; clear o4 hin hfx cSz) | (go_simp; go_at_call 17; refine CPe.out.mono ?_; rintro e w5 ⟨rfl, rfl⟩) | (go_simp; go_at_call 16; refine CSz.out.mono ?_; rintro e w5 ⟨rfl, rfl⟩))
      all_goals
        have CR1 := Lib.hid (read_own O4.out.d 0 (1 + m) (by omega) (by omega) (by omega) (by omega))
        have CR2 := Lib.hid (rRead_dk x fx4 D4 0 (1 + m) w4 O4.out.r (by omega) (by omega) (by omega) (by omega) (by omega))
        generalize (⟨(D4.readS 0 (1 + m)).toArray⟩ : ByteArray) = rs at *
        generalize D4.readE 0 (1 + m) = re at *
        clear CPe CSz CS k1
        go_wp2_with (first | (go_at_call 14; refine CR1.out.mono ?_; rintro e w5 ⟨rfl, rfl⟩) | (go_at_call 20; refine CR2.out.mono ?_; rintro e w6 ⟨rfl, f6⟩; have O6 := Lib.hid (O4.out.same f6); clear f6))
        go_roundw
        case rel => exact ⟨k + 1, fp4, fx4, D4, by omega, by omega, by go_num, O6, by omega, by omega⟩
        case measure => simp [intOf]; omega
    · have HBel := Lib.hid HO.out.d.fr.below
      have hkk : ¬ (k < l.length) ∨ (k < l.length ∧ 60 ≤ k) := by omega
      clear hlt
      rcases hkk with hkk | ⟨hkk, hkk2⟩
      all_goals
        go_wp2_with fail
        go_ret
        exact ⟨rfl, HBel.out⟩

set_option maxRecDepth 100000 in
theorem walk_DiskMatchesReference {H : Type} {enc : TypeId × Value → H} {base : Nat} (W : World) {v0 v1 : Value} {d0 d1 : DataW H} {p0 p1 : List MemPlace}
    (k0 : Value.okWide Try.prog W .any base 3 v0) (h0 : DataW.Trod enc Try.prog W 0 (fun _ => true) true 3 v0 d0 p0)
    (k1 : Value.okWide Try.prog W .any base 32 v1) (h1 : DataW.Trod enc Try.prog W 0 (fun _ => true) true 32 v1 d1 p1) :
    Calls Try.prog 4 #[v0, v1] W fun e W' => e = .returned (.bool true) ∧ Below W.heap.size W W' := by
  obtain ⟨a0, rfl, l0, u0⟩ := open_i64 Try.underlying3 k0 h0
  obtain ⟨a, cap, l, rfl, hr⟩ := rowS_of_open k1 h1
  exact diskMatchesReference_c a0 a cap l W l0 u0 hr

end Go.Proofs.Ytanjjgodlgmfcaa
