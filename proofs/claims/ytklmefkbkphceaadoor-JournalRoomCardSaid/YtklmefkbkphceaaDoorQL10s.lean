/-
  The journal's laws: sane.
-/
import Derived.Test.YtklmefkbkphceaaDoorQLA
namespace Go.Proofs.YtklmefkbkphceaaDoor
open Go.RowKit Go.Lib

/-- How many bytes records take. -/
def encN : List ByteArray → Nat
  | [] => 0
  | r :: l => 33 + ((encZ (2 * r.size)).length + r.size) + encN l
theorem enc_size : ∀ (l : List ByteArray) (h : ByteArray), (encAll h l).length = encN l
  | [], _ => rfl
  | r :: l, h => by rw [encAll, List.length_append, recL_len, enc_size l, encN, putS, List.length_append, bts_len]
theorem encN_append (l m : List ByteArray) : encN (l ++ m) = encN l + encN m := by
  induction l with
  | nil => simp [encN]
  | cons r l ih => rw [List.cons_append, encN, ih, encN]; omega

theorem rec_s {w0 w : World} {db : Nat} {fp : List Nat} {D : Dk} {js : List Jb} {b : Nat} {vr : Value} {L : List ByteArray} {br : Bool} (h : JS w0 w db fp D js) (hj : ⟨b, vr, tp0.adds L, br⟩ ∈ js) (hl : L.length ≤ 1000000) :
    Calls Tryd.prog 13 #[.pointer (some ⟨b, 0, none⟩)] w fun e w' => ∃ a cap, e = .returned (.slice a L.length cap) ∧ Sl w' (.slice a L.length cap) L.length (L.map Value.string) ∧ Fr [] w w' := by
  refine (records_c (h.jn hj) (by rw [tpL_recs]; omega)).mono ?_
  rintro e w' ⟨v', rfl, h1, _, h3⟩
  rw [tpL_recs] at h1
  have h2 := sl_of_row h1
  obtain ⟨a, cap, rfl⟩ := h2.val
  exact ⟨a, cap, rfl, h2, h3⟩
theorem room_s {w0 w : World} {db : Nat} {fp : List Nat} {D : Dk} {js : List Jb} {b : Nat} {vr : Value} {L : List ByteArray} {br : Bool} (h : JS w0 w db fp D js) (hj : ⟨b, vr, tp0.adds L, br⟩ ∈ js) (hl : encN L ≤ 4194304) :
    Calls Tryd.prog 12 #[.pointer (some ⟨b, 0, none⟩)] w fun e w' => e = .returned (.int .i64 ((D.dur.length : Int) - encN L)) ∧ Fr [] w w' := by
  have e : (tp0.adds L).size = encN L := by rw [tpL_size, enc_size]
  have := room_c (h.jn hj) (by simp only [e]; exact hl)
  simp only [e] at this
  exact this

def sA : List ByteArray := [⟨#[97, 98]⟩, ⟨#[]⟩]
def sB (n : Nat) : List ByteArray := [zeros n]
theorem sA_n : encN sA = 70 := by
  show 33 + ((encZ (2 * 2)).length + 2) + (33 + ((encZ (2 * 0)).length + 0) + 0) = 70
  rw [encZ_one (by omega), encZ_one (by omega)]; rfl
theorem zeros_size (n : Nat) : (zeros n).size = n := by rw [zeros, str_size, List.length_replicate]
theorem sB_n (n : Nat) (h1 : 64 ≤ n) (h2 : n ≤ 100) : encN (sB n) = 35 + n := by
  rw [sB, encN, encN, zeros_size, encZ_more (by omega), encZ_one (by omega)]
  simp; omega
theorem sA_long : sA.any longB = false := rfl
theorem sB_long (n : Nat) (h2 : n ≤ 100) : (sB n).any longB = false := by
  simp only [sB, List.any_cons, List.any_nil, Bool.or_false, longB, zeros_size, decide_eq_false_iff_not]
  omega
theorem opens_two {D : Dk} {v : List UInt8} (ho : D.off = false) (hv : D.vis = 2 :: v) : D.opens = (102, none, D) := by
  have h1 : openM D.vis = none := by
    rw [hv, openM, ldM]
    rfl
  simp only [Dk.opens, ho, h1]
  rfl

set_option maxRecDepth 100000 in
set_option maxHeartbeats 2000000 in
theorem sane10_c (a : Addr) (w : World) (hR : RndAt w) (hA : DmgAt w a) : Calls Tryd.prog 5 #[] w fun e w' => e = .returned (.bool true) ∧ Fr [] w w' := by
  have hmk : ∀ (m : Nat), m ≤ 100 → ∀ W : World, (Instr.makeSlice 38 (.int .i64 (m : Int)) (.int .i64 (m : Int))).run Tryd.prog W = .ok (.slice (some ⟨W.heap.size, 0, none⟩) m m) (W.alloc (.cells (madeCells #[Value.int .u8 0] m) 5)) := fun m hm W => run_make_row' (P := Tryd.prog) 38 5 (.int .u8 0) 1 Tryd.underlying38 infoBy rfl .i64 .i64 m (by omega) (by omega) W
  have hmk1 : ∀ W : World, (Instr.makeSlice 38 (.int .i64 96) (.int .i64 96)).run Tryd.prog W = .ok (.slice (some ⟨W.heap.size, 0, none⟩) 96 96) (W.alloc (.cells (madeCells #[Value.int .u8 0] 96) 5)) := hmk 96 (by omega)
  have hmk2 : ∀ W : World, (Instr.makeSlice 38 (.int .i64 95) (.int .i64 95)).run Tryd.prog W = .ok (.slice (some ⟨W.heap.size, 0, none⟩) 95 95) (W.alloc (.cells (madeCells #[Value.int .u8 0] 95) 5)) := hmk 95 (by omega)
  rw [made_bytes] at hmk1 hmk2
  obtain ⟨z1, hz1, hl1⟩ : ∃ zs : List UInt8, List.replicate 96 0 = zs ∧ zs.length = 96 := ⟨_, rfl, rfl⟩
  obtain ⟨z2, hz2, hl2⟩ : ∃ zs : List UInt8, List.replicate 95 0 = zs ∧ zs.length = 95 := ⟨_, rfl, rfl⟩
  rw [hz1] at hmk1
  rw [hz2] at hmk2
  have HZ1 : Shut (sB 96 = [⟨z1.toArray⟩]) := ⟨by rw [← hz1]; rfl⟩
  have HZ2 : Shut (sB 95 = [⟨z2.toArray⟩]) := ⟨by rw [← hz2]; rfl⟩
  have HL1 := Lib.hid hl1; have HL2 := Lib.hid hl2
  clear hz1 hz2 hmk hl1 hl2
  -- the plain states
  have C0 := clean_new 200
  obtain ⟨D1, E1, C1, N1⟩ := clean_fit C0 sA sA_long (by rw [enc_size, List.nil_append, sA_n]; simp [Dk.new])
  have E2 := clean_full C1 (sB 96) (sB_long 96 (by omega)) (by rw [enc_size, encN_append, List.nil_append, sA_n, sB_n 96 (by omega) (by omega), N1]; simp [Dk.new])
  obtain ⟨D3, E3, C3, N3⟩ := clean_fit C1 (sB 95) (sB_long 95 (by omega)) (by rw [enc_size, encN_append, List.nil_append, sA_n, sB_n 95 (by omega) (by omega), N1]; simp [Dk.new])
  have O0 := clean_open C0
  have O3 := clean_open C3
  have n0 : (Dk.new 200).dur.length = 200 := by simp [Dk.new]
  rw [List.nil_append] at E1 E2 E3 C1 C3 O3
  have HE1 : Shut ((Dk.new 200).apps (tp0.adds []) false sA = (0, tp0.adds sA, false, D1)) := ⟨E1⟩
  have HE2 : Shut (D1.apps (tp0.adds sA) false (sB 96) = (101, tp0.adds sA, false, D1)) := ⟨E2⟩
  have HE3 : Shut (D1.apps (tp0.adds sA) false (sB 95) = (0, tp0.adds (sA ++ sB 95), false, D3)) := ⟨E3⟩
  have HO0 : Shut ((Dk.new 200).opens = (0, some (tp0.adds []), Dk.new 200)) := ⟨O0⟩
  have HO3 : Shut (D3.opens = (0, some (tp0.adds (sA ++ sB 95)), D3)) := ⟨O3⟩
  have HN1 : Shut (D1.dur.length = 200) := ⟨by rw [N1, n0]⟩
  have HN3 : Shut (D3.dur.length = 200) := ⟨by rw [N3, N1, n0]⟩
  have HC1 := Lib.hid C1; have HC3 := Lib.hid C3
  have HR := Lib.hid hR; have HA := Lib.hid hA
  clear E1 E2 E3 O0 O3 N1 N3 C0 C1 C3 hR hA n0
  have HN := Lib.hid (new_s 200 w w (Fr.refl _ _) (by omega) (by omega))
  go_enter Tryd.func5, Tryd.ntmps5
  go_wp2_with fail
  refine HN.out.mono ?_
  rintro e w1 ⟨db, fp, rfl, js1⟩
  have HOp := open_s js1 HR.out HA.out (by simp [Dk.new])
  rw [HO0.out] at HOp
  have HP := Lib.hid HOp
  clear HOp js1 HN
  go_wp2_with fail
  refine HP.out.mono ?_
  rintro e w2 ⟨jb, vr, fp2, rfl, js2⟩
  have HJ := Lib.hid js2
  clear js2 HP
  go_wp2_with fail
  refine (rec_s (L := []) HJ.out (List.mem_singleton.2 rfl) (by simp)).mono ?_
  rintro e w3 ⟨ra, rc, rfl, _, f3⟩
  have HJ3 := Lib.hid (HJ.out.same f3)
  clear HJ f3
  go_wp2_with fail
  refine (room_s (L := []) HJ3.out (List.mem_singleton.2 rfl) (by simp [encN])).mono ?_
  rintro e w4 ⟨rfl, f4⟩
  rw [show ((Dk.new 200).dur.length : Int) - (encN [] : Nat) = 200 by simp [Dk.new, encN]]
  have HJ4 := Lib.hid (HJ3.out.same f4)
  clear HJ3 f4
  go_wp2_with fail
  have f5 := Fr.alloc [] w4 (.cells #[.string ⟨#[97, 98]⟩, .string ⟨#[]⟩] 9)
  have sl5 := sl_vals (heap_alloc_new w4 (.cells #[.string ⟨#[97, 98]⟩, .string ⟨#[]⟩] 9)) (n := 2) rfl (by decide)
  have AP := app_s (HJ4.out.same f5) HR.out sA (some ⟨w4.heap.size, 0, none⟩) 2 sl5 (by simp [encAll]) (by decide) (fun _ => by rw [enc_size, sA_n]; omega) (by simp [Dk.new])
  rw [HE1.out] at AP
  have HAP := Lib.hid AP
  clear AP f5 sl5 HJ4
  refine HAP.out.mono ?_
  rintro e w5 ⟨he, vr5, fp5, js5⟩
  have he' : e = .returned (.int .i64 0) := he
  subst he'
  have HJ5 := Lib.hid js5
  clear he js5 HAP
  go_wp2_with (first | ((with_reducible refine wpList_of_wp (o := ⟨some 46, _, _, _, _, _⟩) rfl (fun K hK => ?_)); apply stopD; case _other => exact trivial))
  (refine stopD ?_ ?_; rotate_left; exact trivial)
  have fb1 := Fr.alloc [] w5 (.cells (byteCells z1).toArray 5)
  have sb1 := sl_bytes (heap_alloc_new w5 (.cells (byteCells z1).toArray 5)) HL1.out (by decide)
  refine wp_sl_str (.tmp 45) rfl _ 96 96 z1 rfl sb1 (by omega) HL1.out ?_
  refine hK _ _ ?_
  clear hK K sb1
  generalize World.alloc w5 (.cells (byteCells z1).toArray 5) = WB1 at *
  go_wp2_with fail
  have HJb := Lib.hid (HJ5.out.same fb1)
  have f6 := Fr.alloc [] WB1 (.cells #[.string ⟨z1.toArray⟩] 9)
  have sl6 := sl_vals (heap_alloc_new WB1 (.cells #[.string ⟨z1.toArray⟩] 9)) (n := 1) rfl (by decide)
  have AP := app_s (HJb.out.same f6) HR.out (sB 96) (some ⟨WB1.heap.size, 0, none⟩) 1 (by rw [HZ1.out]; exact sl6) (by rw [enc_size, sA_n, HN1.out]; omega) (by rw [HZ1.out]; simp) (fun _ => by rw [enc_size, sB_n 96 (by omega) (by omega)]; omega) (by rw [HC1.out.pend]; simp)
  rw [HE2.out, show (sB 96).length = 1 from rfl] at AP
  have HAP := Lib.hid AP
  clear AP f6 sl6 HJ5 fb1
  refine HAP.out.mono ?_
  rintro e w6 ⟨he, vr6, fp6, js6⟩
  have he' : e = .returned (.int .i64 101) := he
  subst he'
  have HJ6 := Lib.hid js6
  clear he js6 HAP HJb
  go_wp2_with fail
  refine (room_s (L := sA) HJ6.out (List.mem_singleton.2 rfl) (by rw [sA_n]; omega)).mono ?_
  rintro e w7 ⟨rfl, f7⟩
  rw [show ((D1.dur.length : Nat) : Int) - (encN sA : Nat) = 130 by rw [sA_n, HN1.out]; rfl]
  have HJ7 := Lib.hid (HJ6.out.same f7)
  clear HJ6 f7
  go_wp2_with (first | ((with_reducible refine wpList_of_wp (o := ⟨some 53, _, _, _, _, _⟩) rfl (fun K hK => ?_)); apply stopD; case _other => exact trivial))
  (refine stopD ?_ ?_; rotate_left; exact trivial)
  have fb2 := Fr.alloc [] w7 (.cells (byteCells z2).toArray 5)
  have sb2 := sl_bytes (heap_alloc_new w7 (.cells (byteCells z2).toArray 5)) HL2.out (by decide)
  refine wp_sl_str (.tmp 52) rfl _ 95 95 z2 rfl sb2 (by omega) HL2.out ?_
  refine hK _ _ ?_
  clear hK K sb2
  generalize World.alloc w7 (.cells (byteCells z2).toArray 5) = WB2 at *
  go_wp2_with fail
  have HJb := Lib.hid (HJ7.out.same fb2)
  have f6 := Fr.alloc [] WB2 (.cells #[.string ⟨z2.toArray⟩] 9)
  have sl6 := sl_vals (heap_alloc_new WB2 (.cells #[.string ⟨z2.toArray⟩] 9)) (n := 1) rfl (by decide)
  have AP := app_s (HJb.out.same f6) HR.out (sB 95) (some ⟨WB2.heap.size, 0, none⟩) 1 (by rw [HZ2.out]; exact sl6) (by rw [enc_size, sA_n, HN1.out]; omega) (by rw [HZ2.out]; simp) (fun _ => by rw [enc_size, sB_n 95 (by omega) (by omega)]; omega) (by rw [HC1.out.pend]; simp)
  rw [HE3.out, show (sB 95).length = 1 from rfl] at AP
  have HAP := Lib.hid AP
  clear AP f6 sl6 HJ7 fb2
  refine HAP.out.mono ?_
  rintro e w8 ⟨he, vr8, fp8, js8⟩
  have he' : e = .returned (.int .i64 0) := he
  subst he'
  have js8 : JS w w8 db fp8 D3 [⟨jb, vr8, tp0.adds (sA ++ sB 95), false⟩] := js8
  have HOp := open_s js8 HR.out HA.out (by rw [HC3.out.pend]; simp)
  rw [HO3.out] at HOp
  have HP := Lib.hid HOp
  clear HOp he js8 HAP HJb
  go_wp2_with fail
  refine HP.out.mono ?_
  rintro e w9 ⟨kb, vk, fp9, he, js9⟩
  have he' : e = .returned (.tuple #[.pointer (some ⟨kb, 0, none⟩), .int .i64 0]) := he
  subst he'
  have js9 : JS w w9 db fp9 D3 [⟨kb, vk, tp0.adds (sA ++ sB 95), false⟩, ⟨jb, vr8, tp0.adds (sA ++ sB 95), false⟩] := js9
  have HW := write_dk db fp9 D3 0 ⟨#[2]⟩ w9 js9.disk (by omega) (by omega) (by decide) (by rw [HC3.out.pend]; simp)
  have hwr := writeU (D := D3) (o := 0) (s := ⟨#[2]⟩) HC3.out.off HC3.out.left (by omega) (by rw [HN3.out]; decide)
  rw [hwr.1, hwr.2] at HW
  have hv : ∃ v, (D3.put (0 : Int).toNat ⟨#[2]⟩).vis = 2 :: v := ⟨_, rfl⟩
  have hoff : (D3.put (0 : Int).toNat ⟨#[2]⟩).off = false := HC3.out.off
  have hlen : (D3.put (0 : Int).toNat ⟨#[2]⟩).dur.length = 200 := HN3.out
  have hpe : (D3.put (0 : Int).toNat ⟨#[2]⟩).pend.length = 1 := by simp [Dk.put, HC3.out.pend]
  generalize D3.put (0 : Int).toNat ⟨#[2]⟩ = D4 at *
  obtain ⟨v, hv⟩ := hv
  have HO4 : Shut (D4.opens = (102, none, D4)) := ⟨opens_two hoff hv⟩
  have HL4 : Shut (D4.dur.length = 200) := ⟨hlen⟩
  have HPE : Shut (D4.pend.length = 1) := ⟨hpe⟩
  have HWW := Lib.hid HW
  have HJ9 := Lib.hid js9
  clear he js9 HP HW hwr hoff hlen hpe hv
  go_wp2_with fail
  refine HWW.out.mono ?_
  rintro e w10 hst
  obtain ⟨rfl, fpa, jsa⟩ := HJ9.out.step hst
  have HOp := open_s jsa HR.out HA.out (by rw [HPE.out]; omega)
  rw [HO4.out] at HOp
  have HP := Lib.hid HOp
  clear HOp jsa HWW hst HJ9
  go_wp2_with fail
  refine HP.out.mono ?_
  rintro e w11 ⟨he, fpb, jsb⟩
  have he' : e = .returned (.tuple #[.pointer none, .int .i64 102]) := he
  subst he'
  have jsb : JS w w11 db fpb D4 [⟨kb, vk, tp0.adds (sA ++ sB 95), false⟩, ⟨jb, vr8, tp0.adds (sA ++ sB 95), false⟩] := jsb
  have HJb := Lib.hid jsb
  clear he jsb HP
  go_wp2_with fail
  refine (open_nil _).mono ?_
  rintro e w12 ⟨rfl, rfl⟩
  have HNL : Shut (encN (sA ++ sB 95) = 200) := ⟨by rw [encN_append, sA_n, sB_n 95 (by omega) (by omega)]⟩
  go_wp2_with fail
  refine (room_s (L := sA ++ sB 95) HJb.out (List.mem_cons_of_mem _ (List.mem_singleton.2 rfl)) (by rw [HNL.out]; omega)).mono ?_
  rintro e w13 ⟨rfl, f13⟩
  rw [show ((D4.dur.length : Nat) : Int) - (encN (sA ++ sB 95) : Nat) = 0 by rw [HNL.out, HL4.out]; rfl]
  have HJc := Lib.hid (HJb.out.same f13)
  clear HJb f13
  go_wp2_with fail
  have h3 : (sA ++ sB 95).length = 3 := rfl
  have CR := rec_s (L := sA ++ sB 95) HJc.out (List.mem_cons_self) (by rw [h3]; omega)
  rw [h3] at CR
  have HCR := Lib.hid CR
  clear CR h3
  refine HCR.out.mono ?_
  rintro e w14 ⟨ra2, rc2, rfl, _, f14⟩
  have HJd := Lib.hid (HJc.out.same f14)
  clear HJc f14 HCR
  go_wp2_with fail
  have h3 : (sA ++ sB 95).length = 3 := rfl
  have CR := rec_s (L := sA ++ sB 95) HJd.out (List.mem_cons_self) (by rw [h3]; omega)
  rw [h3] at CR
  have HCR := Lib.hid CR
  clear CR h3
  refine HCR.out.mono ?_
  rintro e w15 ⟨ra3, rc3, rfl, hsl, f15⟩
  obtain ⟨b3, o3, rfl, hc3⟩ := hsl.at_ (by omega)
  have ck : w15.cell? ⟨b3, o3, none⟩ = some (.string ⟨#[97, 98]⟩) := hc3 0 _ rfl
  have HF15 := Lib.hid (HJd.out.same f15).fr
  clear hsl hc3 f15 HJd HCR
  go_wp2_with fail
  go_ret
  exact ⟨rfl, HF15.out⟩

end Go.Proofs.YtklmefkbkphceaaDoor
