/-
  digest: Chain.
-/
import Derived.Test.YtbogljpafpkikaaGreatDoorQShX
import Derived.LaidEql
import Derived.Stop.Asserts
namespace Go.Proofs.YtbogljpafpkikaaGreatDoor
open Go.RowKit Go.Lib

theorem marked_c (m : ByteArray) (w : World) : Calls Tryz.prog 89 #[.string m] w fun e w' => e = .returned (.func (.func 104) #[] #[.pointer (some ⟨w.heap.size, 0, none⟩)]) ∧ w' = w.alloc (.cells #[.string m] 9) := by
  go_enter Tryz.func89, Tryz.ntmps89
  go_wp2_with fail
  go_ret
  exact ⟨rfl, rfl⟩

theorem join2 (h r : ByteArray) : Lib.join ([h, r].map (·.data.toList)) (⟨#[]⟩ : ByteArray).data.toList = bts h ++ bts r := by simp [Lib.join, bts]

set_option maxRecDepth 100000 in
set_option maxHeartbeats 4000000 in
theorem marked1_c (m h r : ByteArray) (hs : m.size + h.size + r.size ≤ 1000000000000) (b mb : Nat) (w : World) (hR : RndAt w) (hm : w.heap[mb]? = some (.cells #[.string m] 9 (0, 0))) (hb : w.heap[b]? = some (.cells #[.string h, .string r] 9 (0, 0))) :
    Calls Tryz.prog 104 #[.slice (some ⟨b, 0, none⟩) 2 2, .pointer (some ⟨mb, 0, none⟩)] w fun e w' => e = .returned (.string (shaB (str (bts m ++ (bts h ++ bts r))))) ∧ Fr [] w w' := by
  have CJ : ∀ W : World, Fr [] w W → Calls Tryz.prog 106 #[.slice (some ⟨b, 0, none⟩) 2 2, .string ⟨#[]⟩] W fun e w' => e = .returned (.string (str (bts h ++ bts r))) ∧ Fr [] W w' := by
    intro W hf
    have hb2 := hf.keep hb (by simp)
    have h1 := Tryz.strings_Join b 0 2 [h, r] ⟨#[]⟩ W (by
      intro j x hx
      rw [cell_of_blk hb2]
      match j, hx with
      | 0, hx => simp at hx ⊢; exact hx
      | 1, hx => simp at hx ⊢; exact hx
      | j + 2, hx => simp at hx) (blk_lt hb2) (by simp) (by simp) (by rw [join2, List.length_append, bts_len, bts_len]; omega)
    rw [join2] at h1
    exact h1.mono fun e w' ⟨he, hbw⟩ => ⟨he, Fr.of_below [] hbw⟩
  have CS : ∀ W : World, Fr [] w W → Calls Tryz.prog 105 #[.string (str (bts m ++ (bts h ++ bts r)))] W fun e w' => e = .returned (.string (shaB (str (bts m ++ (bts h ++ bts r))))) ∧ Fr [] W w' := fun W hf =>
    sum_c _ (by rw [str_size]; simp only [List.length_append, bts_len]; omega) W (hR.same hf (by simp))
  have HJ := Lib.hid CJ; have HS := Lib.hid CS
  have c0 := cell_of_blk hm 0
  have hsz : (str (bts h ++ bts r)).size = h.size + r.size := by rw [str_size]; simp only [List.length_append, bts_len]
  have hcat : m ++ str (bts h ++ bts r) = str (bts m ++ (bts h ++ bts r)) := by
    apply ByteArray.ext; simp [str, bts]
  have HC := Lib.hid hcat
  have HZ := Lib.hid hsz
  clear CJ CS hm hb hR hsz hcat
  go_enter Tryz.func104, Tryz.ntmps104
  go_wp2_with fail
  refine reg_mix (Fr [] w) [0, 1, 2, 3, 4, 5] (by kernel_rfl) (by kernel_rfl) (by kernel_rfl) rfl (Fr.drew _ _) ?_
  have FC : Fr [] w w.drew := Fr.drew _ _
  generalize w.drew = WC at FC ⊢
  iterate 2 (refine mix_take1 (v := ?_) rfl rfl rfl rfl (fun w hS => ?_) ?_; rotate_left; (focus (have s0 := hS.cel c0 (by simp); clear hS; go_simp; rfl)); simp only [List.setIfInBounds_toArray, List.set_cons_succ, List.set_cons_zero])
  refine mix_do rfl rfl rfl (fun K hK => ?_)
  go_simp
  refine (HJ.out _ FC).mono ?_
  rintro e wq ⟨rfl, fq⟩
  have FC := FC.trans fq
  refine hK _ _ FC ?_
  clear hK K fq
  try simp only [Act.put, List.setIfInBounds_toArray, List.set_cons_succ, List.set_cons_zero]
  (refine mix_take1 (v := ?_) rfl rfl rfl rfl (fun w hS => ?_) ?_; rotate_left; (focus (clear hS; go_simp; rw [if_neg (by rw [HZ.out]; omega), HC.out])); simp only [List.setIfInBounds_toArray, List.set_cons_succ, List.set_cons_zero])
  refine mix_do rfl rfl rfl (fun K hK => ?_)
  go_simp
  refine (HS.out _ FC).mono ?_
  rintro e wr ⟨rfl, fq⟩
  have FC := FC.trans fq
  refine hK _ _ FC ?_
  clear hK K fq
  try simp only [Act.put, List.setIfInBounds_toArray, List.set_cons_succ, List.set_cons_zero]
  (refine mix_take1 (v := ?_) rfl rfl rfl rfl (fun w hS => ?_) ?_; rotate_left; (focus (clear hS; go_simp; rfl)); simp only [List.setIfInBounds_toArray, List.set_cons_succ, List.set_cons_zero])
  refine mix_end ?_
  have HF := Lib.hid FC
  clear FC c0
  go_wp2_with fail
  go_ret
  exact ⟨rfl, HF.out⟩

set_option maxRecDepth 100000 in
theorem chain_c (h r : ByteArray) (hs : h.size + r.size ≤ 900000000000) (w : World) (hR : RndAt w) : Calls Tryz.prog 62 #[.string h, .string r] w fun e w' => e = .returned (.string (chainM h r)) ∧ Fr [] w w' := by
  have HR := Lib.hid hR
  clear hR
  go_enter Tryz.func62, Tryz.ntmps62
  go_wp2_with fail
  refine (marked_c _ _).mono ?_
  rintro e w1 ⟨rfl, hw1⟩
  have F1 := Fr.alloc [] w (.cells #[.string ⟨#[2]⟩] 9)
  have B1 := heap_alloc_new w (.cells #[.string ⟨#[2]⟩] 9)
  rw [← hw1] at F1 B1
  have F2 := Fr.alloc [] w1 (.cells #[.string h, .string r] 9)
  have CM := Lib.hid (marked1_c ⟨#[2]⟩ h r (by show 1 + h.size + r.size ≤ _; omega) w1.heap.size w.heap.size _ (HR.out.same (F1.trans F2) (by simp)) (F2.keep B1 (by simp)) (heap_alloc_new _ _))
  have HF := Lib.hid (F1.trans F2)
  clear hw1 F1 B1 F2
  go_wp2_with fail
  refine CM.out.mono ?_
  rintro e w2 ⟨rfl, f2⟩
  have HF2 := Lib.hid (HF.out.trans f2)
  clear f2
  go_wp2_with fail
  go_ret
  exact ⟨rfl, HF2.out⟩

end Go.Proofs.YtbogljpafpkikaaGreatDoor

/-
  journal: a record is added to a tape.
-/
namespace Go.Proofs.YtbogljpafpkikaaGreatDoor
open Go.RowKit Go.Lib

/-- The cells of a tape, and of what lies behind it. -/
def tpC (vr : Value) (h : ByteArray) (n : Nat) (X : List Value) : Array Value := (vr :: .string h :: .int .i64 n :: X).toArray
theorem tpC_set0 (vr : Value) (h : ByteArray) (n : Nat) (X : List Value) (v : Value) : (tpC vr h n X).setIfInBounds 0 v = tpC v h n X := by simp [tpC]
theorem tpC_set1 (vr : Value) (h : ByteArray) (n : Nat) (X : List Value) (k : ByteArray) : (tpC vr h n X).setIfInBounds 1 (.string k) = tpC vr k n X := by simp [tpC]
theorem tpC_set2 (vr : Value) (h : ByteArray) (n : Nat) (X : List Value) (k : Nat) : (tpC vr h n X).setIfInBounds 2 (.int .i64 k) = tpC vr h k X := by simp [tpC]
theorem infoStr : (Tryz.prog.info? 9).map (fun i => (i.zero, i.size, i.bytes)) = some (some (.string ⟨#[]⟩), 1, 16) := by kernel_rfl
theorem src_one (w : World) (v : Value) (t : TypeId) : SrcAt (w.alloc (.cells #[v] t)) (.slice (some ⟨w.heap.size, 0, none⟩) 1 1) 1 [v] :=
  ⟨.inr ⟨_, 1, rfl, fun j u hu => by
    rw [add_at, cell_of_blk (heap_alloc_new _ _)]
    simpa using hu⟩⟩

theorem cat_one (l : List UInt8) : (⟨#[1]⟩ : ByteArray) ++ str l = str (1 :: l) := by
  apply ByteArray.ext; simp [str]
/-- A tape in memory: block b, its records' row. -/
structure TapeAt (w : World) (b : Nat) (X : List Value) (ty : TypeId) (vr : Value) (t : Tp) : Prop where
  blk : w.heap[b]? = some (.cells (tpC vr t.head t.size X) ty (0, 0))
  row : w.ownsRow 0 9 1 vr t.recs.length (t.recs.map Value.string)
  ne : vr.ownBlock ≠ some b
/-- The blocks of a tape. -/
def tpB (b : Nat) (vr : Value) : List Nat := b :: vr.ownBlock.toList
theorem row_fr {w w' : World} {e : TypeId} {sz n : Nat} {v : Value} {xs : List Value} {S : List Nat} (h : w.ownsRow 0 e sz v n xs) (hf : Fr S w w') (hS : ∀ g, v.ownBlock = some g → g ∉ S) : w'.ownsRow 0 e sz v n xs := by
  refine ⟨h.1, h.2.imp id ?_⟩
  rintro ⟨g, cap, cur, rfl, h1, h2, h3⟩
  exact ⟨g, cap, cur, rfl, h1, hf.keep h2 (hS g rfl), h3⟩
theorem TapeAt.fr {w w' : World} {b : Nat} {X : List Value} {ty : TypeId} {vr : Value} {t : Tp} {S : List Nat} (h : TapeAt w b X ty vr t) (hf : Fr S w w') (hS : ∀ k, k ∈ tpB b vr → k ∉ S) : TapeAt w' b X ty vr t :=
  ⟨hf.keep h.blk (hS b (by simp [tpB])), row_fr h.row hf (fun g hg => hS g (by simp [tpB, hg])), h.ne⟩
theorem TapeAt.same {w w' : World} {b : Nat} {X : List Value} {ty : TypeId} {vr : Value} {t : Tp} (h : TapeAt w b X ty vr t) (hf : Fr [] w w') : TapeAt w' b X ty vr t := h.fr hf (by simp)

set_option maxRecDepth 100000 in
set_option maxHeartbeats 4000000 in
theorem add_c (b : Nat) (X : List Value) (ty : TypeId) (vr : Value) (t : Tp) (r : ByteArray) (w : World) (h : TapeAt w b X ty vr t) (hr : r.size ≤ 65536) (hh : t.head.size = 32) (hn : t.recs.length ≤ 1000000000) (hs : t.size ≤ 1000000000000) (hR : RndAt w) (hg : ∀ k, k ∈ tpB b vr → k ≠ 3) :
    Calls Tryz.prog 34 #[.pointer (some ⟨b, 0, none⟩), .string r] w fun e w' => e = .returned (.string (str (recL t.head r))) ∧ ∃ vr', TapeAt w' b X ty vr' (t.add r) ∧ Upd (tpB b vr) (tpB b vr') w w' := by
  obtain ⟨hb, hrow, hne⟩ := h
  have hbr : b ≠ 3 := hg b (by simp [tpB])
  have CH := Lib.hid (chain_c t.head r (by omega) w hR)
  have HHd : Shut (recL t.head r = 1 :: (putS r ++ bts (chainM t.head r))) := ⟨rfl⟩
  have hpl : (putS r).length ≤ 65539 := by
    have := (encZ_len (2 * r.size) (by omega)).1
    simp only [putS, List.length_append, bts_len]; omega
  have hcs := chainM_size t.head r
  have HCS := Lib.hid hcs; have HPL := Lib.hid hpl
  have HAdd : Shut (t.add r = ⟨t.recs ++ [r], chainM t.head r, t.size + (recL t.head r).length⟩) := ⟨rfl⟩
  have HLen : Shut ((recL t.head r).length = 33 + (putS r).length) := ⟨recL_len _ _⟩
  obtain ⟨rs, hd, sz⟩ := t
  simp only at hb hrow hh hn hs CH HHd HAdd HLen HCS ⊢
  have HB := Lib.hid hb; have HW := Lib.hid hrow; have HNE := Lib.hid hne; have HR := Lib.hid hR; have HG := Lib.hid hg
  have c1 : w.cell? ⟨b, 1, none⟩ = some (.string hd) := cell_of_blk hb 1
  clear hb hrow hR hcs hpl hg hh
  generalize hhd : chainM hd r = hd' at *
  clear hhd
  go_enter Tryz.func34, Tryz.ntmps34
  go_wp2_with fail
  refine CH.out.mono ?_
  rintro e w1 ⟨rfl, f1⟩
  have b1 := f1.keep HB.out (by simp)
  have d1 : w1.cell? ⟨b, 1, none⟩ = some (.string hd) := cell_of_blk b1 1
  have y1 := free_of_blk b1 1
  have HF1 := Lib.hid f1; have HB1 := Lib.hid b1
  clear c1 f1 b1 CH
  go_upto_region 2 with fail
  have b2 := heap_setCell_same (i := 1) (.string hd') HB1.out
  rw [tpC_set1] at b2
  have f2 : Fr [b] w1 (w1.setCell ⟨b, 1, none⟩ (.string hd')) := Fr.setCell _ _ (by simp)
  have F2 := Lib.hid ((HF1.out.mono (fp2 := [b]) (by simp)).trans f2)
  have HB2 := Lib.hid b2
  clear d1 y1 f2 b2 HB1 HF1
  generalize w1.setCell ⟨b, 1, none⟩ (.string hd') = W2 at *
  have c0 : W2.cell? ⟨b, 0, none⟩ = some vr := cell_of_blk HB2.out 0
  have HW2 := Lib.hid (row_fr HW.out F2.out (fun g hg => by simp; rintro rfl; exact HNE.out hg))
  go_wp2_with (first | ((with_reducible refine wpList_of_wp (o := ⟨some 24, _, _, _, _, _⟩) rfl (fun K hK => ?_)); apply stopD; case _other => exact trivial))
  (refine stopD ?_ ?_; rotate_left; exact trivial)
  have fA := Fr.alloc [] W2 (.cells #[.string r] 9)
  have hlen := HW2.out.1
  refine wp_append_src (.tmp 21) (.tmp 23) 22 9 _ 1 16 rfl Tryz.underlying22 infoStr rfl (by decide) vr rs.length _ rfl (row_fr HW2.out fA (by simp)) (.slice (some ⟨W2.heap.size, 0, none⟩) 1 1) 1 [.string r] rfl (src_one W2 _ _) (by simp) (by simp [Value.oneCell']) (by omega) (by omega) ?_
  intro ga cap W4 r4 f4 o4
  refine hK _ _ ?_
  clear hK K hlen
  have hs2 : w.heap.size ≤ W2.heap.size := F2.out.size
  have hvb : ∀ g, vr.ownBlock = some g → g ≠ b := fun g hg e => HNE.out (by rw [hg, e])
  have f24 : Fr (tpB b vr) w W4 := (F2.out.mono (by simp [tpB])).trans ((fA.mono (by simp)).trans (f4.mono (by intro i hi; simp [tpB]; right; simpa using hi)))
  have b4 : W4.heap[b]? = some (.cells (tpC vr hd' sz X) ty (0, 0)) := f4.keep (heap_alloc_old _ HB2.out) (fun hm => hvb b (by simpa using hm) rfl)
  have hbl := blk_lt HB.out
  have ho : ∀ g, (Value.slice ga (rs.length + 1) cap).ownBlock = some g → vr.ownBlock = some g ∨ W2.heap.size ≤ g := fun g hg => by
    rcases o4 with h | h
    · exact .inl (h ▸ hg)
    · rw [hg] at h
      right
      simp at h
      omega
  have hn4 : (Value.slice ga (rs.length + 1) cap).ownBlock ≠ some b := fun e => by
    rcases ho b e with h | h
    · exact HNE.out h
    · omega
  have d0 : W4.cell? ⟨b, 0, none⟩ = some vr := cell_of_blk b4 0
  have y0 := free_of_blk b4 0
  have HB4 := Lib.hid b4; have HF4 := Lib.hid f24; have HO := Lib.hid ho; have HN4 := Lib.hid hn4; have HR4 := Lib.hid r4
  clear c0 fA f4 f24 b4 o4 ho hn4 r4 HW2 F2 HB2 hvb
  go_upto_region 3 with fail
  have b5 := heap_setCell_same (i := 0) (.slice ga (rs.length + 1) cap) HB4.out
  rw [tpC_set0] at b5
  have f5 : Fr [b] W4 (W4.setCell ⟨b, 0, none⟩ (.slice ga (rs.length + 1) cap)) := Fr.setCell _ _ (by simp)
  have r5 := row_fr HR4.out f5 (fun g hg => by simp; rintro rfl; exact HN4.out hg)
  have F5 := Lib.hid (HF4.out.trans (f5.mono (by simp [tpB])))
  have HB5 := Lib.hid b5; have HR5 := Lib.hid r5
  have hs4 := HF4.out.size
  clear d0 y0 f5 b5 r5 HB4 HF4 HR4
  generalize W4.setCell ⟨b, 0, none⟩ (.slice ga (rs.length + 1) cap) = W5 at *
  go_wp2_with fail
  refine (putStr_c r hr _).mono ?_
  rintro e w6 ⟨rfl, f6⟩
  have HB6 := Lib.hid (f6.keep HB5.out (by simp)); have HR6 := Lib.hid (row_fr HR5.out f6 (by simp)); have F6 := Lib.hid (F5.out.trans (f6.mono (by simp)))
  clear f6 HB5 HR5 F5
  have c1 : w6.cell? ⟨b, 1, none⟩ = some (.string hd') := cell_of_blk HB6.out 1
  go_wp2_with fail
  -- @@4
  refine reg_tree (Fr [] w6) 9 (.take 2 (.take 4 (.take 5 (.take 6 (.take 7 (.one 0 (.one 1 (.take 3 (.take 8 (.one 9 .nil)))))))))) (by kernel_rfl) (by kernel_rfl) (by kernel_rfl) rfl ?_
  have S0 : Fr [] w6 w6.drew := Fr.drew _ _
  generalize w6.drew = WC at S0 ⊢
  iterate 5 (refine tree_take (v := ?_) rfl rfl rfl S0 (fun w hS => ?_) ?_; rotate_left; (focus (have s0 := hS.cel c1 (by simp); clear hS; go_simp; rfl)); simp only [List.setIfInBounds_toArray, List.set_cons_succ, List.set_cons_zero])
  refine tree_one rfl rfl (fun K hK => ?_)
  go_simp
  have fa := Fr.alloc [] WC (.cells #[.int .u8 1] 5)
  refine hK _ _ (S0.trans fa) ?_
  have S0 := S0.trans fa
  have s1 : Sl (WC.alloc (.cells #[.int .u8 1] 5)) (.slice (some ⟨WC.heap.size, 0, none⟩) 1 1) 1 (byteCells [1]) := ⟨_, _, rfl, Nat.le_refl _, by omega, fun _ => ⟨_, 0, rfl, fun j u hu => by
    rw [cell_of_blk (heap_alloc_new _ _), Nat.zero_add]
    simpa [byteCells] using hu⟩⟩
  generalize WC.alloc (.cells #[.int .u8 1] 5) = WD at *
  clear hK K fa
  try simp only [Act.put, List.setIfInBounds_toArray, List.set_cons_succ, List.set_cons_zero]
  refine tree_one rfl rfl (fun K hK => ?_)
  refine wp_sl_str (.tmp 32) rfl _ 1 1 [1] rfl s1 (by omega) rfl ?_
  refine hK _ _ S0 ?_
  clear hK K s1
  try simp only [Act.put, List.setIfInBounds_toArray]
  (refine tree_take (v := ?_) rfl rfl rfl S0 (fun w hS => ?_) ?_; rotate_left; (focus (clear hS; go_simp; rw [if_neg (by rw [str_size]; have := HPL.out; omega), cat_one])); try simp only [List.setIfInBounds_toArray, List.set_cons_succ, List.set_cons_zero])
  (refine tree_take (v := ?_) rfl rfl rfl S0 (fun w hS => ?_) ?_; rotate_left; (focus (clear hS; go_simp; rw [if_neg (by rw [str_size, List.length_cons]; have := HPL.out; have := HCS.out; omega), str_app])); try simp only)
  refine tree_last rfl rfl (fun K hK => ?_)
  go_simp
  try go_upon
  try go_simp
  refine hK _ _ ?_
  clear hK K
  refine noPanicN ?_
  rw [← HHd.out]
  have HB7 := Lib.hid (S0.keep HB6.out (by simp)); have HR7 := Lib.hid (row_fr HR6.out S0 (by simp)); have F7 := Lib.hid (F6.out.trans (S0.mono (by simp)))
  clear S0 c1 HB6 HR6 F6
  have hrz : (str (recL hd r)).size = (recL hd r).length := rfl
  have hrl : (recL hd r).length ≤ 70000 := by have := HLen.out; have := HPL.out; omega
  have c2 : WD.cell? ⟨b, 2, none⟩ = some (.int .i64 sz) := cell_of_blk HB7.out 2
  have y2 := free_of_blk HB7.out 2
  generalize hLe : recL hd r = L at *
  have HLE : Shut (recL hd r = L) := ⟨hLe⟩
  clear hLe
  obtain ⟨N, hN⟩ : ∃ N, N = L.length := ⟨_, rfl⟩
  rw [← hN] at hrz hrl
  have HN : Shut (N = L.length) := ⟨hN⟩
  clear hN
  go_upto_region 6 with fail
  have b8 := heap_setCell_same (i := 2) (.int .i64 ((sz + N : Nat) : Int)) HB7.out
  rw [tpC_set2] at b8
  have e8 : ((sz + N : Nat) : Int) = (sz : Int) + (N : Int) := by omega
  rw [e8] at b8
  have f8 : Fr [b] WD (WD.setCell ⟨b, 2, none⟩ (.int .i64 ((sz : Int) + (N : Int)))) := Fr.setCell _ _ (by simp)
  have r8 := row_fr HR7.out f8 (fun g hg => by simp; rintro rfl; exact HN4.out hg)
  have F8 := Lib.hid (F7.out.trans (f8.mono (by simp [tpB])))
  have HB8 := Lib.hid b8; have HR8 := Lib.hid r8
  clear c2 y2 f8 b8 r8 e8 hrz
  generalize WD.setCell ⟨b, 2, none⟩ (.int .i64 ((sz : Int) + (N : Int))) = W9 at *
  go_wp2_with fail
  go_ret
  refine ⟨by rw [HLE.out]; rfl, .slice ga (rs.length + 1) cap, ?_, F8.out, ?_⟩
  · rw [HAdd.out, ← HN.out]
    exact ⟨HB8.out, by simpa using HR8.out, HN4.out⟩
  · intro k hk
    rcases List.mem_cons.1 hk with rfl | hk
    · exact .inl (by simp [tpB])
    · rcases HO.out k (by simpa using hk) with h | h
      · exact .inl (by simp [tpB, h])
      · exact .inr (by omega)

end Go.Proofs.YtbogljpafpkikaaGreatDoor

/-
  errors.Is of a sentinel and itself.
-/
namespace Go.Proofs.YtbogljpafpkikaaGreatDoor
open Go.RowKit Go.Lib

theorem reTypeOf_call (v : Value) (w : World) : (callFunc 92 #[.iface 221 v]).run Tryz.prog w = .ok (.value (.iface 167 (.agg #[.pointer (some ⟨5, 221, none⟩)]))) w := by kernel_rfl
theorem reComp_call (w : World) : (callFunc 169 #[.agg #[.pointer (some ⟨5, 221, none⟩)]]).run Tryz.prog w = .ok (.value (.bool true)) w := by kernel_rfl

set_option maxRecDepth 100000 in
set_option maxHeartbeats 4000000 in
theorem is_same (a : Addr) (w : World) : Calls Tryz.prog 70 #[.iface 221 (.pointer (some a)), .iface 221 (.pointer (some a))] w fun e w' => e = .returned (.bool true) ∧ w = w' := by
  have isComp : (Tryz.prog.info? 221).map (·.comparable) = some true := by kernel_rfl
  have isSize : (Tryz.prog.info? 243).map (·.size) = some 1 := by kernel_rfl
  obtain ⟨i, hi, hcmp⟩ := Option.map_eq_some_iff.1 isComp
  obtain ⟨j, hj, hjs⟩ := Option.map_eq_some_iff.1 isSize
  have heq := run_eql_iface_ptr_same (P := Tryz.prog) w a Tryz.underlying77 Tryz.underlying221 hi hcmp hj
  have hT := reTypeOf_call
  have hC := reComp_call
  go_enter Tryz.func70, Tryz.ntmps70
  go_wp2
  refine wp_loop_rounds 1 ?_
  rw [rounds_succ]
  go_wp2
  go_ret
  exact ⟨rfl, rfl⟩

end Go.Proofs.YtbogljpafpkikaaGreatDoor
