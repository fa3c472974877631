/-
  The reference's attestations: Begin, Pass.
-/
import Derived.Test.YtahfpadaoobkfaaGreatDoorQAtWi
namespace Go.Proofs.YtahfpadaoobkfaaGreatDoor
open Go.RowKit Go.Lib

set_option maxRecDepth 100000 in
set_option maxHeartbeats 4000000 in
theorem begin25_c (key : ByteArray) (d : Dl) (c lev : Int) (w : World) (hk : key.size = 32) (hd : dlB d = true) (hc : 0 ≤ c ∧ c ≤ 7) (hl : 0 ≤ lev ∧ lev ≤ 3) :
    Calls Tryz.prog 31 #[.string key, dlV d, .int .i64 c, .int .i64 lev] w fun e w' => ∃ v' x, e = .returned (.tuple #[atV d v', .int .i64 0]) ∧ x.car = c ∧ fmB ⟨d, [x]⟩ = true ∧ HdY w w' v' [x] := by
  have hf : ∀ s : ByteArray, s.size = 32 → fmB ⟨d, [] ++ [⟨c, lev, s⟩]⟩ = true := fun s hs => fmB_snoc hd (by simp) rfl ⟨c, lev, s⟩ hc (fun y hy => by cases hy) hl hs
  have HFM := Lib.hid hf
  have CW := Lib.hid fun W => with25_c key d (.slice none 0 0) [] c lev W hk ⟨.inl ⟨rfl, rfl, rfl⟩⟩ (hf zs32 zs32_size)
  obtain ⟨d0, d1, d2, d3⟩ := d
  clear hk hd hc hl hf
  have A2 := alloc2' w (.cells #[.int .i64 d0, .int .i64 d1, .int .i64 d2, .int .i64 d3] 41) (.cells #[.int .i64 0, .int .i64 0, .int .i64 0, .int .i64 0, .slice none 0 0] 44)
  have F2 := Lib.hid ((Fr.alloc [] w (.cells #[.int .i64 d0, .int .i64 d1, .int .i64 d2, .int .i64 d3] 41)).trans (Fr.alloc [] _ (.cells #[.int .i64 0, .int .i64 0, .int .i64 0, .int .i64 0, .slice none 0 0] 44)))
  have HZ := Lib.hid A2.2
  have HSZ : Hid (((w.alloc (.cells #[.int .i64 d0, .int .i64 d1, .int .i64 d2, .int .i64 d3] 41)).alloc (.cells #[.int .i64 0, .int .i64 0, .int .i64 0, .int .i64 0, .slice none 0 0] 44)).heap.size = w.heap.size + 2) := Lib.hid (by simp)
  clear A2
  go_enter Tryz.func31, Tryz.ntmps31
  go_wp2_with fail
  refine (CW.out _).mono ?_
  rintro e w1 ⟨v', s, rfl, hs, hY⟩
  obtain ⟨a, cap, rfl⟩ := hY.at_.val
  have HZ1 := Lib.hid (hY.fr.keep HZ.out (by simp))
  have HY := Lib.hid hY; have HS := Lib.hid hs
  have z0 := cell_of_blk HZ1.out 0; have z1 := cell_of_blk HZ1.out 1; have z2 := cell_of_blk HZ1.out 2; have z3 := cell_of_blk HZ1.out 3; have z4 := cell_of_blk HZ1.out 4
  have y0 := free_of_blk HZ1.out 0; have y1 := free_of_blk HZ1.out 1; have y2 := free_of_blk HZ1.out 2; have y3 := free_of_blk HZ1.out 3; have y4 := free_of_blk HZ1.out 4
  simp only [List.nil_append] at HY
  obtain ⟨KF, FF⟩ := set5 HZ1.out (.int .i64 d0) (.int .i64 d1) (.int .i64 d2) (.int .i64 d3) (.slice a ([] ++ [(⟨c, lev, s⟩ : Hd)]).length cap)
  simp only [List.nil_append, List.length_cons, List.length_nil, Nat.zero_add] at KF FF HY
  have HE : Hid (HdY w _ (.slice a 1 cap) [⟨c, lev, s⟩]) := Lib.hid ⟨row_fr HY.out.row FF (fun b hb hm => by have := HY.out.young b hb; have := HSZ.out; simp at hm; omega), fun b hb => by have := HY.out.young b hb; have := HSZ.out; omega, (F2.out.trans HY.out.fr).step FF (fun i hi => .inr (by simp at hi; omega))⟩
  have k0 := cell_of_blk KF 0; have k1 := cell_of_blk KF 1; have k2 := cell_of_blk KF 2; have k3 := cell_of_blk KF 3; have k4 := cell_of_blk KF 4
  clear hY hs KF FF CW
  simp only [List.nil_append, List.length_cons, List.length_nil, Nat.zero_add]
  go_wp2_with fail
  refine bodyPost_ret (v := .tuple #[.agg #[.int .i64 d0, .int .i64 d1, .int .i64 d2, .int .i64 d3, .slice a 1 cap], .int .i64 0]) (by simp [results, Tryz.results31, go_sem, k0, k1, k2, k3, k4]; try rfl) rfl ?_
  exact ⟨_, ⟨c, lev, s⟩, rfl, rfl, HFM.out s HS.out, HE.out⟩

set_option maxRecDepth 100000 in
set_option maxHeartbeats 4000000 in
theorem pass25_c (key : ByteArray) (kv : Value) (keys : List ByteArray) (d : Dl) (v : Value) (l : List Hd) (c : Int) (w : World) (hk : key.size = 32) (hks : Sl w kv keys.length (keys.map Value.string)) (hko : keysOkB false keys = true) (hkl : keys.length = 8) (hkz : ∀ k, k ∈ keys → k.size ≤ 1000)
    (hs : HdsAt w v l) (hsrc : SrcAt w v l.length (l.flatMap hdC)) (hf : fmB ⟨d, l⟩ = true) (hl : l.length ≤ 7) (hc : 0 ≤ c ∧ c ≤ 7) (hcl : ∀ y, l.getLast? = some y → c ≠ y.car) :
    Calls Tryz.prog 33 #[.string key, kv, atV d v, .int .i64 c] w fun e w' => ∃ v' x, e = .returned (.tuple #[atV d v', .int .i64 0]) ∧ x.car = c ∧ fmB ⟨d, l ++ [x]⟩ = true ∧ HdY w w' v' (l ++ [x]) := by
  obtain ⟨hdl, hln, hgo⟩ := fmB_parts hf
  simp only at hln hdl hgo
  obtain ⟨i, hi⟩ : ∃ i, l.length = i + 1 := ⟨l.length - 1, by omega⟩
  have hil : i < l.length := by omega
  obtain ⟨bf, hbf⟩ : ∃ bf, bf = if i = 0 then ByteArray.empty else (l.getD (i - 1) default).sig := ⟨_, rfl⟩
  have hbz : bf.size ≤ 1000 := by
    rw [hbf]
    split
    · decide
    · have hm1 : i - 1 < l.length := by omega
      rw [List.getD_eq_getElem?_getD, List.getElem?_eq_getElem hm1, Option.getD_some]
      have := (fmGo_le l (-1) 3 hgo _ (List.getElem_mem hm1)).2.2.2.2
      omega
  obtain ⟨hc1, hc2, hc3, hc4, hc5⟩ := fmGo_le l (-1) 3 hgo _ (List.getElem_mem hil)
  have hlast : l.getLast? = some l[i] := by rw [List.getLast?_eq_getElem?, List.getElem?_eq_getElem (by omega)]; congr 2; omega
  have hsl := saysM_le keys (l[i], cntM d i l[i] bf) hc3
  have CF := Lib.hid fun W (hf' : Fr [] w W) => formed25_c d v l W (hs.same hf') hf
  have CK := Lib.hid fun W (hf' : Fr [] w W) => keys25_c kv keys false W (hks.same hf') (by omega) (fun k hk => by have := hkz k hk; omega)
  rw [hko] at CK
  have CS := Lib.hid fun W (hf' : Fr [] w W) => says25_c kv keys d v l i W (hks.same hf') hkl hkz (hs.same hf') hil hi (by omega) bf hbf hdl ⟨hc1, hc2⟩ ⟨hc3, hc4⟩ hbz
  generalize saysM keys (l[i], cntM d i l[i] bf) = lev at *
  simp only at hsl
  have hfa : ∀ s : ByteArray, s.size = 32 → fmB ⟨d, l ++ [⟨c, lev, s⟩]⟩ = true := fun s hs => fmB_snoc hdl hl hgo ⟨c, lev, s⟩ hc (fun y hy => by
    have h1 := hcl y hy
    rw [hlast] at hy
    cases hy
    exact ⟨h1, hsl.2⟩) ⟨hsl.1, by simp only; omega⟩ hs
  have HFM := Lib.hid hfa
  have CW := Lib.hid fun W (hf' : Fr [] w W) => with25_c key d v l c lev W hk (hsrc.same hf') (hfa zs32 zs32_size)
  obtain ⟨ka, kc, rfl⟩ := hks.val
  obtain ⟨a, cap, rfl⟩ := hs.val
  obtain ⟨d0, d1, d2, d3⟩ := d
  clear hk hks hko hkl hkz hs hsrc hf hl hc hcl hdl hln hgo hi hc1 hc2 hc3 hc4 hc5 hlast hsl hfa hbf hbz hil
  have A2 := alloc2' w (.cells #[.int .i64 d0, .int .i64 d1, .int .i64 d2, .int .i64 d3, .slice a l.length cap] 44) (.cells #[.int .i64 0, .int .i64 0, .int .i64 0, .int .i64 0, .slice none 0 0] 44)
  have F2 := Lib.hid ((Fr.alloc [] w (.cells #[.int .i64 d0, .int .i64 d1, .int .i64 d2, .int .i64 d3, .slice a l.length cap] 44)).trans (Fr.alloc [] _ (.cells #[.int .i64 0, .int .i64 0, .int .i64 0, .int .i64 0, .slice none 0 0] 44)))
  have HA := Lib.hid A2
  have HSZ : Hid (((w.alloc (.cells #[.int .i64 d0, .int .i64 d1, .int .i64 d2, .int .i64 d3, .slice a l.length cap] 44)).alloc (.cells #[.int .i64 0, .int .i64 0, .int .i64 0, .int .i64 0, .slice none 0 0] 44)).heap.size = w.heap.size + 2) := Lib.hid (by simp)
  clear A2
  go_enter Tryz.func33, Tryz.ntmps33
  go_wp2_with fail
  refine (CF.out _ F2.out).mono ?_
  rintro e w1 ⟨rfl, f1⟩
  have F1 := Lib.hid (F2.out.trans f1)
  have HA1 := Lib.hid (And.intro (f1.keep HA.out.1 (by simp)) (f1.keep HA.out.2 (by simp)))
  have HS1 : Hid (w.heap.size + 2 ≤ w1.heap.size) := Lib.hid (by have := HSZ.out; have := f1.size; omega)
  clear CF f1 HA HSZ
  go_wp2_with fail
  refine (CK.out _ F1.out).mono ?_
  rintro e w2 ⟨rfl, f1⟩
  have F3 := Lib.hid (F1.out.trans f1)
  have HA3 := Lib.hid (And.intro (f1.keep HA1.out.1 (by simp)) (f1.keep HA1.out.2 (by simp)))
  have HS3 : Hid (w.heap.size + 2 ≤ w2.heap.size) := Lib.hid (by have := HS1.out; have := f1.size; omega)
  have c0 := cell_of_blk HA3.out.1 0; have c1 := cell_of_blk HA3.out.1 1; have c2 := cell_of_blk HA3.out.1 2; have c3 := cell_of_blk HA3.out.1 3; have c4 := cell_of_blk HA3.out.1 4
  clear CK f1 HA1 HS1
  go_wp2_with fail
  refine reg_mix (Fr [w.heap.size + 1] w2) [0, 1, 2, 3, 4, 5, 6, 7, 8, 9, 10] (by kernel_rfl) (by kernel_rfl) (by kernel_rfl) rfl (Fr.drew _ _) ?_
  have FC : Fr [] w2 w2.drew := Fr.drew _ _
  generalize w2.drew = WC at FC ⊢
  iterate 5 (refine mix_take1 (v := ?_) rfl rfl rfl rfl (fun w hS => ?_) ?_; rotate_left; (focus (have e0 := hS.cel c0 (by simp); have e1 := hS.cel c1 (by simp); have e2 := hS.cel c2 (by simp); have e3 := hS.cel c3 (by simp); have e4 := hS.cel c4 (by simp); clear hS; go_simp; rfl)); simp only [List.setIfInBounds_toArray, List.set_cons_succ, List.set_cons_zero])
  refine mix_do rfl rfl rfl (fun K hK => ?_)
  go_simp
  refine (CS.out _ (F3.out.trans FC)).mono ?_
  rintro e w3 ⟨rfl, f1⟩
  have FC := FC.trans f1
  have HS4 : Hid (w.heap.size + 2 ≤ w3.heap.size) := Lib.hid (by have := HS3.out; have := FC.size; omega)
  clear f1 c0 c1 c2 c3 c4
  refine hK _ _ (FC.mono (by simp)) ?_
  clear hK K
  try simp only [Act.put, List.setIfInBounds_toArray, List.set_cons_succ, List.set_cons_zero]
  refine mix_do rfl rfl rfl (fun K hK => ?_)
  go_simp
  refine (CW.out _ (F3.out.trans FC)).mono ?_
  rintro e w4 ⟨v', s, rfl, hs, hY⟩
  obtain ⟨a', cap', rfl⟩ := hY.at_.val
  have FC := FC.trans hY.fr
  have HY := Lib.hid hY; have HS := Lib.hid hs
  obtain ⟨n, hn⟩ : ∃ n, (l ++ [(⟨c, lev, s⟩ : Hd)]).length = n := ⟨_, rfl⟩
  rw [hn] at HY ⊢
  clear hY hs hn
  refine hK _ _ (FC.mono (by simp)) ?_
  clear hK K
  try simp only [Act.put, List.setIfInBounds_toArray, List.set_cons_succ, List.set_cons_zero]
  iterate 2 (refine mix_take1 (v := ?_) rfl rfl rfl rfl (fun w hS => ?_) ?_; rotate_left; (focus (clear hS; go_simp; rfl)); simp only [List.setIfInBounds_toArray, List.set_cons_succ, List.set_cons_zero])
  have HZ4 := Lib.hid (FC.keep HA3.out.2 (by simp))
  have y0 := free_of_blk HZ4.out 0; have y1 := free_of_blk HZ4.out 1; have y2 := free_of_blk HZ4.out 2; have y3 := free_of_blk HZ4.out 3; have y4 := free_of_blk HZ4.out 4
  have z0 := cell_of_blk HZ4.out 0; have z1 := cell_of_blk HZ4.out 1; have z2 := cell_of_blk HZ4.out 2; have z3 := cell_of_blk HZ4.out 3; have z4 := cell_of_blk HZ4.out 4
  refine mix_do (o := ⟨none, _, _, _, _, _⟩) rfl rfl rfl (fun K hK => ?_)
  go_simp
  try go_upon
  try go_simp
  obtain ⟨KF, FF⟩ := set5 HZ4.out (.int .i64 d0) (.int .i64 d1) (.int .i64 d2) (.int .i64 d3) (.slice a' n cap')
  have HE : Hid (HdY w _ (.slice a' n cap') (l ++ [⟨c, lev, s⟩])) := Lib.hid ⟨row_fr HY.out.row FF (fun b hb hm => by have := HY.out.young b hb; have := HS4.out; simp at hm; omega), fun b hb => by have := HY.out.young b hb; have := HS4.out; omega, (F3.out.trans FC).step FF (fun i hi => .inr (by simp at hi; omega))⟩
  have k0 := cell_of_blk KF 0; have k1 := cell_of_blk KF 1; have k2 := cell_of_blk KF 2; have k3 := cell_of_blk KF 3; have k4 := cell_of_blk KF 4
  refine hK _ _ ((FC.mono (by simp)).trans FF) ?_
  clear hK K z0 z1 z2 z3 z4 y0 y1 y2 y3 y4 KF FF FC
  generalize (((((w4.setCell ⟨w.heap.size + 1, 0, none⟩ (.int .i64 d0)).setCell ⟨w.heap.size + 1, 1, none⟩ (.int .i64 d1)).setCell ⟨w.heap.size + 1, 2, none⟩ (.int .i64 d2)).setCell ⟨w.heap.size + 1, 3, none⟩ (.int .i64 d3)).setCell ⟨w.heap.size + 1, 4, none⟩ (.slice a' n cap')) = w5 at *
  try simp only [Act.put, List.setIfInBounds_toArray, List.set_cons_succ, List.set_cons_zero]
  (refine mix_take1 (v := ?_) rfl rfl rfl rfl (fun w hS => ?_) ?_; rotate_left; (focus (clear hS; go_simp; rfl)); simp only [List.setIfInBounds_toArray, List.set_cons_succ, List.set_cons_zero])
  refine mix_end ?_
  go_wp2_with fail
  refine bodyPost_ret (v := .tuple #[.agg #[.int .i64 d0, .int .i64 d1, .int .i64 d2, .int .i64 d3, .slice a' n cap'], .int .i64 0]) (by simp [results, Tryz.results33, go_sem, k0, k1, k2, k3, k4]; try rfl) rfl ?_
  exact ⟨_, ⟨c, lev, s⟩, rfl, rfl, HFM.out s HS.out, HE.out⟩

end Go.Proofs.YtahfpadaoobkfaaGreatDoor
