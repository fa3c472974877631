/-
  The journal's laws: sane.
-/
import Derived.Test.YtbogljpafpkikaaGreatDoorQLA
namespace Go.Proofs.YtbogljpafpkikaaGreatDoor
open Go.RowKit Go.Lib

/-- How many bytes records take. -/
def encN : List ByteArray → Nat
  | [] => 0
  | r :: l => 33 + ((encZ (2 * r.size)).length + r.size) + encN l
theorem enc_size : ∀ (l : List ByteArray) (h : ByteArray), (encAll h l).length = encN l
  | [], _ => rfl
  | r :: l, h => by rw [encAll, List.length_append, recL_len, enc_size l, encN, putS, List.length_append, bts_len]
theorem encN_append (l m : List ByteArray) : encN (l ++ m) = encN l + encN m := by
  induction l with
  | nil => simp [encN]
  | cons r l ih => rw [List.cons_append, encN, ih, encN]; omega

theorem rec_s {w0 w : World} {db : Nat} {fp : List Nat} {D : Dk} {js : List Jb} {b : Nat} {vr : Value} {L : List ByteArray} {br : Bool} (h : JS w0 w db fp D js) (hj : ⟨b, vr, tp0.adds L, br⟩ ∈ js) (hl : L.length ≤ 1000000) :
    Calls Tryz.prog 17 #[.pointer (some ⟨b, 0, none⟩)] w fun e w' => ∃ a cap, e = .returned (.slice a L.length cap) ∧ Sl w' (.slice a L.length cap) L.length (L.map Value.string) ∧ Fr [] w w' := by
  refine (records_c (h.jn hj) (by rw [tpL_recs]; omega)).mono ?_
  rintro e w' ⟨v', rfl, h1, _, h3⟩
  rw [tpL_recs] at h1
  have h2 := sl_of_row h1
  obtain ⟨a, cap, rfl⟩ := h2.val
  exact ⟨a, cap, rfl, h2, h3⟩
theorem room_s {w0 w : World} {db : Nat} {fp : List Nat} {D : Dk} {js : List Jb} {b : Nat} {vr : Value} {L : List ByteArray} {br : Bool} (h : JS w0 w db fp D js) (hj : ⟨b, vr, tp0.adds L, br⟩ ∈ js) (hl : encN L ≤ 4194304) :
    Calls Tryz.prog 18 #[.pointer (some ⟨b, 0, none⟩)] w fun e w' => e = .returned (.int .i64 ((D.dur.length : Int) - encN L)) ∧ Fr [] w w' := by
  have e : (tp0.adds L).size = encN L := by rw [tpL_size, enc_size]
  have := room_c (h.jn hj) (by simp only [e]; exact hl)
  simp only [e] at this
  exact this

def sA : List ByteArray := [⟨#[97, 98]⟩, ⟨#[]⟩]
def sB (n : Nat) : List ByteArray := [zeros n]
theorem sA_n : encN sA = 70 := by
  show 33 + ((encZ (2 * 2)).length + 2) + (33 + ((encZ (2 * 0)).length + 0) + 0) = 70
  rw [encZ_one (by omega), encZ_one (by omega)]; rfl
theorem zeros_size (n : Nat) : (zeros n).size = n := by rw [zeros, str_size, List.length_replicate]
theorem sB_n (n : Nat) (h1 : 64 ≤ n) (h2 : n ≤ 100) : encN (sB n) = 35 + n := by
  rw [sB, encN, encN, zeros_size, encZ_more (by omega), encZ_one (by omega)]
  simp; omega
theorem sA_long : sA.any longB = false := rfl
theorem sB_long (n : Nat) (h2 : n ≤ 100) : (sB n).any longB = false := by
  simp only [sB, List.any_cons, List.any_nil, Bool.or_false, longB, zeros_size, decide_eq_false_iff_not]
  omega
theorem opens_two {D : Dk} {v : List UInt8} (ho : D.off = false) (hv : D.vis = 2 :: v) : D.opens = (102, none, D) := by
  have h1 : openM D.vis = none := by
    rw [hv, openM, ldM]
    rfl
  simp only [Dk.opens, ho, h1]
  rfl

set_option maxRecDepth 100000 in
set_option maxHeartbeats 2000000 in
theorem sane10_c (a : Addr) (w : World) (hR : RndAt w) (hA : DmgAt w a) : Calls Tryz.prog 6 #[] w fun e w' => e = .returned (.bool true) ∧ Fr [] w w' := by
  have hmk : ∀ (m : Nat), m ≤ 100 → ∀ W : World, (Instr.makeSlice 39 (.int .i64 (m : Int)) (.int .i64 (m : Int))).run Tryz.prog W = .ok (.slice (some ⟨W.heap.size, 0, none⟩) m m) (W.alloc (.cells (madeCells #[Value.int .u8 0] m) 5)) := fun m hm W => run_make_row' (P := Tryz.prog) 39 5 (.int .u8 0) 1 Tryz.underlying39 infoBy rfl .i64 .i64 m (by omega) (by omega) W
  have hmk1 : ∀ W : World, (Instr.makeSlice 39 (.int .i64 96) (.int .i64 96)).run Tryz.prog W = .ok (.slice (some ⟨W.heap.size, 0, none⟩) 96 96) (W.alloc (.cells (madeCells #[Value.int .u8 0] 96) 5)) := hmk 96 (by omega)
  have hmk2 : ∀ W : World, (Instr.makeSlice 39 (.int .i64 95) (.int .i64 95)).run Tryz.prog W = .ok (.slice (some ⟨W.heap.size, 0, none⟩) 95 95) (W.alloc (.cells (madeCells #[Value.int .u8 0] 95) 5)) := hmk 95 (by omega)
  rw [made_bytes] at hmk1 hmk2
  obtain ⟨z1, hz1, hl1⟩ : ∃ zs : List UInt8, List.replicate 96 0 = zs ∧ zs.length = 96 := ⟨_, rfl, rfl⟩
  obtain ⟨z2, hz2, hl2⟩ : ∃ zs : List UInt8, List.replicate 95 0 = zs ∧ zs.length = 95 := ⟨_, rfl, rfl⟩
  rw [hz1] at hmk1
  rw [hz2] at hmk2
  have HZ1 : Shut (sB 96 = [⟨z1.toArray⟩]) := ⟨by rw [← hz1]; rfl⟩
  have HZ2 : Shut (sB 95 = [⟨z2.toArray⟩]) := ⟨by rw [← hz2]; rfl⟩
  have HL1 := Lib.hid hl1; have HL2 := Lib.hid hl2
  clear hz1 hz2 hmk hl1 hl2
  -- the plain states
  have C0 := clean_new 200
  obtain ⟨D1, E1, C1, N1⟩ := clean_fit C0 sA sA_long (by rw [enc_size, List.nil_append, sA_n]; simp [Dk.new])
  have E2 := clean_full C1 (sB 96) (sB_long 96 (by omega)) (by rw [enc_size, encN_append, List.nil_append, sA_n, sB_n 96 (by omega) (by omega), N1]; simp [Dk.new])
  obtain ⟨D3, E3, C3, N3⟩ := clean_fit C1 (sB 95) (sB_long 95 (by omega)) (by rw [enc_size, encN_append, List.nil_append, sA_n, sB_n 95 (by omega) (by omega), N1]; simp [Dk.new])
  have O0 := clean_open C0
  have O3 := clean_open C3
  have n0 : (Dk.new 200).dur.length = 200 := by simp [Dk.new]
  rw [List.nil_append] at E1 E2 E3 C1 C3 O3
  have HE1 : Shut ((Dk.new 200).apps (tp0.adds []) false sA = (0, tp0.adds sA, false, D1)) := ⟨E1⟩
  have HE2 : Shut (D1.apps (tp0.adds sA) false (sB 96) = (101, tp0.adds sA, false, D1)) := ⟨E2⟩
  have HE3 : Shut (D1.apps (tp0.adds sA) false (sB 95) = (0, tp0.adds (sA ++ sB 95), false, D3)) := ⟨E3⟩
  have HO0 : Shut ((Dk.new 200).opens = (0, some (tp0.adds []), Dk.new 200)) := ⟨O0⟩
  have HO3 : Shut (D3.opens = (0, some (tp0.adds (sA ++ sB 95)), D3)) := ⟨O3⟩
  have HN1 : Shut (D1.dur.length = 200) := ⟨by rw [N1, n0]⟩
  have HN3 : Shut (D3.dur.length = 200) := ⟨by rw [N3, N1, n0]⟩
  have HC1 := Lib.hid C1; have HC3 := Lib.hid C3
  have HR := Lib.hid hR; have HA := Lib.hid hA
  clear E1 E2 E3 O0 O3 N1 N3 C0 C1 C3 hR hA n0
  have HN := Lib.hid (new_s 200 w w (Fr.refl _ _) (by omega) (by omega))
  go_enter Tryz.func6, Tryz.ntmps6
  go_wp2_with fail
  refine HN.out.mono ?_
  rintro e w1 ⟨db, fp, rfl, js1⟩
  have HOp := open_s js1 HR.out HA.out (by simp [Dk.new])
  rw [HO0.out] at HOp
  have HP := Lib.hid HOp
  clear HOp js1 HN
  go_wp2_with fail
  refine HP.out.mono ?_
  rintro e w2 ⟨jb, vr, fp2, rfl, js2⟩
  have HJ := Lib.hid js2
  clear js2 HP
  go_wp2_with fail
  refine (rec_s (L := []) HJ.out (List.mem_singleton.2 rfl) (by simp)).mono ?_
  rintro e w3 ⟨ra, rc, rfl, _, f3⟩
  have HJ3 := Lib.hid (HJ.out.same f3)
  clear HJ f3
  go_wp2_with fail
  refine (room_s (L := []) HJ3.out (List.mem_singleton.2 rfl) (by simp [encN])).mono ?_
  rintro e w4 ⟨rfl, f4⟩
  rw [show ((Dk.new 200).dur.length : Int) - (encN [] : Nat) = 200 by simp [Dk.new, encN]]
  have HJ4 := Lib.hid (HJ3.out.same f4)
  clear HJ3 f4
  go_wp2_with fail
  have f5 := Fr.alloc [] w4 (.cells #[.string ⟨#[97, 98]⟩, .string ⟨#[]⟩] 9)
  have sl5 := sl_vals (heap_alloc_new w4 (.cells #[.string ⟨#[97, 98]⟩, .string ⟨#[]⟩] 9)) (n := 2) rfl (by decide)
  have AP := app_s (HJ4.out.same f5) HR.out sA (some ⟨w4.heap.size, 0, none⟩) 2 sl5 (by simp [encAll]) (by decide) (fun _ => by rw [enc_size, sA_n]; omega) (by simp [Dk.new])
  rw [HE1.out] at AP
  have HAP := Lib.hid AP
  clear AP f5 sl5 HJ4
  refine HAP.out.mono ?_
  rintro e w5 ⟨he, vr5, fp5, js5⟩
  have he' : e = .returned (.int .i64 0) := he
  subst he'
  have HJ5 := Lib.hid js5
  clear he js5 HAP
  go_wp2_with (first | ((with_reducible refine wpList_of_wp (o := ⟨some 46, _, _, _, _, _⟩) rfl (fun K hK => ?_)); apply stopD; case _other => exact trivial))
  (refine stopD ?_ ?_; rotate_left; exact trivial)
  have fb1 := Fr.alloc [] w5 (.cells (byteCells z1).toArray 5)
  have sb1 := sl_bytes (heap_alloc_new w5 (.cells (byteCells z1).toArray 5)) HL1.out (by decide)
  refine wp_sl_str (.tmp 45) rfl _ 96 96 z1 rfl sb1 (by omega) HL1.out ?_
  refine hK _ _ ?_
  clear hK K sb1
  generalize World.alloc w5 (.cells (byteCells z1).toArray 5) = WB1 at *
  go_wp2_with fail
  have HJb := Lib.hid (HJ5.out.same fb1)
  have f6 := Fr.alloc [] WB1 (.cells #[.string ⟨z1.toArray⟩] 9)
  have sl6 := sl_vals (heap_alloc_new WB1 (.cells #[.string ⟨z1.toArray⟩] 9)) (n := 1) rfl (by decide)
  have AP := app_s (HJb.out.same f6) HR.out (sB 96) (some ⟨WB1.heap.size, 0, none⟩) 1 (by rw [HZ1.out]; exact sl6) (by rw [enc_size, sA_n, HN1.out]; omega) (by rw [HZ1.out]; simp) (fun _ => by rw [enc_size, sB_n 96 (by omega) (by omega)]; omega) (by rw [HC1.out.pend]; simp)
  rw [HE2.out, show (sB 96).length = 1 from rfl] at AP
  have HAP := Lib.hid AP
  clear AP f6 sl6 HJ5 fb1
  refine HAP.out.mono ?_
  rintro e w6 ⟨he, vr6, fp6, js6⟩
  have he' : e = .returned (.int .i64 101) := he
  subst he'
  have HJ6 := Lib.hid js6
  clear he js6 HAP HJb
  go_wp2_with fail
  refine (room_s (L := sA) HJ6.out (List.mem_singleton.2 rfl) (by rw [sA_n]; omega)).mono ?_
  rintro e w7 ⟨rfl, f7⟩
  rw [show ((D1.dur.length : Nat) : Int) - (encN sA : Nat) = 130 by rw [sA_n, HN1.out]; rfl]
  have HJ7 := Lib.hid (HJ6.out.same f7)
  clear HJ6 f7
  go_wp2_with (first | ((with_reducible refine wpList_of_wp (o := ⟨some 53, _, _, _, _, _⟩) rfl (fun K hK => ?_)); apply stopD; case _other => exact trivial))
  (refine stopD ?_ ?_; rotate_left; exact trivial)
  have fb2 := Fr.alloc [] w7 (.cells (byteCells z2).toArray 5)
  have sb2 := sl_bytes (heap_alloc_new w7 (.cells (byteCells z2).toArray 5)) HL2.out (by decide)
  refine wp_sl_str (.tmp 52) rfl _ 95 95 z2 rfl sb2 (by omega) HL2.out ?_
  refine hK _ _ ?_
  clear hK K sb2
  generalize World.alloc w7 (.cells (byteCells z2).toArray 5) = WB2 at *
  go_wp2_with fail
  have HJb := Lib.hid (HJ7.out.same fb2)
  have f6 := Fr.alloc [] WB2 (.cells #[.string ⟨z2.toArray⟩] 9)
  have sl6 := sl_vals (heap_alloc_new WB2 (.cells #[.string ⟨z2.toArray⟩] 9)) (n := 1) rfl (by decide)
  have AP := app_s (HJb.out.same f6) HR.out (sB 95) (some ⟨WB2.heap.size, 0, none⟩) 1 (by rw [HZ2.out]; exact sl6) (by rw [enc_size, sA_n, HN1.out]; omega) (by rw [HZ2.out]; simp) (fun _ => by rw [enc_size, sB_n 95 (by omega) (by omega)]; omega) (by rw [HC1.out.pend]; simp)
  rw [HE3.out, show (sB 95).length = 1 from rfl] at AP
  have HAP := Lib.hid AP
  clear AP f6 sl6 HJ7 fb2
  refine HAP.out.mono ?_
  rintro e w8 ⟨he, vr8, fp8, js8⟩
  have he' : e = .returned (.int .i64 0) := he
  subst he'
  have js8 : JS w w8 db fp8 D3 [⟨jb, vr8, tp0.adds (sA ++ sB 95), false⟩] := js8
  have HOp := open_s js8 HR.out HA.out (by rw [HC3.out.pend]; simp)
  rw [HO3.out] at HOp
  have HP := Lib.hid HOp
  clear HOp he js8 HAP HJb
  go_wp2_with fail
  refine HP.out.mono ?_
  rintro e w9 ⟨kb, vk, fp9, he, js9⟩
  have he' : e = .returned (.tuple #[.pointer (some ⟨kb, 0, none⟩), .int .i64 0]) := he
  subst he'
  have js9 : JS w w9 db fp9 D3 [⟨kb, vk, tp0.adds (sA ++ sB 95), false⟩, ⟨jb, vr8, tp0.adds (sA ++ sB 95), false⟩] := js9
  have HW := write_dk db fp9 D3 0 ⟨#[2]⟩ w9 js9.disk (by omega) (by omega) (by decide) (by rw [HC3.out.pend]; simp)
  have hwr := writeU (D := D3) (o := 0) (s := ⟨#[2]⟩) HC3.out.off HC3.out.left (by omega) (by rw [HN3.out]; decide)
  rw [hwr.1, hwr.2] at HW
  have hv : ∃ v, (D3.put (0 : Int).toNat ⟨#[2]⟩).vis = 2 :: v := ⟨_, rfl⟩
  have hoff : (D3.put (0 : Int).toNat ⟨#[2]⟩).off = false := HC3.out.off
  have hlen : (D3.put (0 : Int).toNat ⟨#[2]⟩).dur.length = 200 := HN3.out
  have hpe : (D3.put (0 : Int).toNat ⟨#[2]⟩).pend.length = 1 := by simp [Dk.put, HC3.out.pend]
  generalize D3.put (0 : Int).toNat ⟨#[2]⟩ = D4 at *
  obtain ⟨v, hv⟩ := hv
  have HO4 : Shut (D4.opens = (102, none, D4)) := ⟨opens_two hoff hv⟩
  have HL4 : Shut (D4.dur.length = 200) := ⟨hlen⟩
  have HPE : Shut (D4.pend.length = 1) := ⟨hpe⟩
  have HWW := Lib.hid HW
  have HJ9 := Lib.hid js9
  clear he js9 HP HW hwr hoff hlen hpe hv
  go_wp2_with fail
  refine HWW.out.mono ?_
  rintro e w10 hst
  obtain ⟨rfl, fpa, jsa⟩ := HJ9.out.step hst
  have HOp := open_s jsa HR.out HA.out (by rw [HPE.out]; omega)
  rw [HO4.out] at HOp
  have HP := Lib.hid HOp
  clear HOp jsa HWW hst HJ9
  go_wp2_with fail
  refine HP.out.mono ?_
  rintro e w11 ⟨he, fpb, jsb⟩
  have he' : e = .returned (.tuple #[.pointer none, .int .i64 102]) := he
  subst he'
  have jsb : JS w w11 db fpb D4 [⟨kb, vk, tp0.adds (sA ++ sB 95), false⟩, ⟨jb, vr8, tp0.adds (sA ++ sB 95), false⟩] := jsb
  have HJb := Lib.hid jsb
  clear he jsb HP
  go_wp2_with fail
  refine (open_nil _).mono ?_
  rintro e w12 ⟨rfl, rfl⟩
  have HNL : Shut (encN (sA ++ sB 95) = 200) := ⟨by rw [encN_append, sA_n, sB_n 95 (by omega) (by omega)]⟩
  go_wp2_with fail
  refine (room_s (L := sA ++ sB 95) HJb.out (List.mem_cons_of_mem _ (List.mem_singleton.2 rfl)) (by rw [HNL.out]; omega)).mono ?_
  rintro e w13 ⟨rfl, f13⟩
  rw [show ((D4.dur.length : Nat) : Int) - (encN (sA ++ sB 95) : Nat) = 0 by rw [HNL.out, HL4.out]; rfl]
  have HJc := Lib.hid (HJb.out.same f13)
  clear HJb f13
  go_wp2_with fail
  have h3 : (sA ++ sB 95).length = 3 := rfl
  have CR := rec_s (L := sA ++ sB 95) HJc.out (List.mem_cons_self) (by rw [h3]; omega)
  rw [h3] at CR
  have HCR := Lib.hid CR
  clear CR h3
  refine HCR.out.mono ?_
  rintro e w14 ⟨ra2, rc2, rfl, _, f14⟩
  have HJd := Lib.hid (HJc.out.same f14)
  clear HJc f14 HCR
  go_wp2_with fail
  have h3 : (sA ++ sB 95).length = 3 := rfl
  have CR := rec_s (L := sA ++ sB 95) HJd.out (List.mem_cons_self) (by rw [h3]; omega)
  rw [h3] at CR
  have HCR := Lib.hid CR
  clear CR h3
  refine HCR.out.mono ?_
  rintro e w15 ⟨ra3, rc3, rfl, hsl, f15⟩
  obtain ⟨b3, o3, rfl, hc3⟩ := hsl.at_ (by omega)
  have ck : w15.cell? ⟨b3, o3, none⟩ = some (.string ⟨#[97, 98]⟩) := hc3 0 _ rfl
  have HF15 := Lib.hid (HJd.out.same f15).fr
  clear hsl hc3 f15 HJd HCR
  go_wp2_with fail
  go_ret
  exact ⟨rfl, HF15.out⟩

end Go.Proofs.YtbogljpafpkikaaGreatDoor

/-
  The journal's laws: JournalReopens, from readable arguments.
-/
namespace Go.Proofs.YtbogljpafpkikaaGreatDoor
open Go.RowKit Go.Lib

/-- A value that is a readable list of strings. -/
def GOk (w : World) (v : Value) (l : List ByteArray) : Prop := ∃ a c, v = .slice a l.length c ∧ Sl w (.slice a l.length c) l.length (l.map Value.string) ∧ ∀ s, s ∈ l → s.size ≤ 9223372036854775807
theorem few_long (l : List ByteArray) : (fewM l).any longB = false := by
  rw [List.any_eq_false]
  intro r hr
  have := fewM_size hr
  simp only [longB, decide_eq_true_eq]; omega
/-- A group of few records goes in, or not. -/
theorem few_app {D : Dk} {L : List ByteArray} (h : Clean D L) (hL : encN L ≤ D.dur.length) (l : List ByteArray) : ∃ n L' D', D.apps (tp0.adds L) false (fewM l) = (n, tp0.adds L', false, D') ∧ Clean D' L' ∧ D'.dur.length = D.dur.length ∧ encN L' ≤ D.dur.length := by
  by_cases hf : (encAll head0 (L ++ fewM l)).length ≤ D.dur.length
  · obtain ⟨D', h1, h2, h3⟩ := clean_fit h (fewM l) (few_long l) hf
    exact ⟨_, _, D', h1, h2, h3, by rw [enc_size] at hf; exact hf⟩
  · exact ⟨_, _, D, clean_full h (fewM l) (few_long l) (by omega), h, rfl, hL⟩
theorem few_s {w0 w : World} {jb db : Nat} {fp : List Nat} {D : Dk} {vr : Value} {L : List ByteArray} {br : Bool} (h : JS w0 w db fp D [⟨jb, vr, tp0.adds L, br⟩]) (hR : RndAt w0) (l : List ByteArray) (a : Option Addr) (cap : Nat) (hs : Sl w (.slice a (fewM l).length cap) (fewM l).length ((fewM l).map Value.string))
    (hL : encN L ≤ D.dur.length) (hp : D.pend.length ≤ 4000000000) : Calls Tryz.prog 8 #[.pointer (some ⟨jb, 0, none⟩), .slice a (fewM l).length cap] w (AppS w0 jb db (D.apps (tp0.adds L) br (fewM l))) := by
  have hl := fewM_len l
  refine app_s h hR (fewM l) a cap hs (by rw [enc_size]; exact hL) (by omega) (fun _ => ?_) hp
  have := enc_few (fewM l) (fun r hr => by have := fewM_size hr; omega) (tp0.adds L).head
  have : (fewM l).length * 65572 ≤ 6 * 65572 := Nat.mul_le_mul_right _ hl
  omega


end Go.Proofs.YtbogljpafpkikaaGreatDoor

/-
  The journal's laws: JournalRoom, the plain part.
-/
namespace Go.Proofs.YtbogljpafpkikaaGreatDoor
open Go.RowKit Go.Lib

theorem apps_long (D : Dk) (t : Tp) (br : Bool) (l : List ByteArray) (h : l.any longB = true) : D.apps t br l = (100, t, br, D) := by simp [Dk.apps, h]
theorem apps_broken (D : Dk) (t : Tp) (l : List ByteArray) : D.apps t true l = (100, t, true, D) := by simp [Dk.apps]
theorem apps_none (D : Dk) (L : List ByteArray) (h : encN L ≤ D.dur.length) : D.apps (tp0.adds L) false [] = (0, tp0.adds L, false, D) := by
  have hsz : (tp0.adds L).size = encN L := by rw [tpL_size, enc_size]
  simp only [Dk.apps, List.any_nil, Bool.or_self, Bool.false_eq_true, if_false, if_true]
  rw [if_neg (by rw [hsz]; simp [encAll]; omega)]
def xL : List ByteArray := [⟨#[120]⟩]
theorem xL_n : encN xL = 35 := by
  show 33 + ((encZ (2 * 1)).length + 1) + 0 = 35
  rw [encZ_one (by omega)]; rfl
/-- One record more where the power is off. -/
theorem apps_off_small (D : Dk) (L : List ByteArray) (h : (D.dur.length : Int) - encN L < 35) : D.apps (tp0.adds L) false xL = (101, tp0.adds L, false, D) := by
  have hsz : (tp0.adds L).size = encN L := by rw [tpL_size, enc_size]
  have hx : xL.any longB = false := rfl
  simp only [Dk.apps, hx, Bool.or_self, Bool.false_eq_true, if_false]
  rw [if_pos (by rw [enc_size, xL_n, hsz]; omega)]
theorem apps_off (D : Dk) (L : List ByteArray) (ho : D.off = true) (h : ¬ (D.dur.length : Int) - encN L < 35) : D.apps (tp0.adds L) false xL = (91, tp0.adds L, true, D) := by
  have hsz : (tp0.adds L).size = encN L := by rw [tpL_size, enc_size]
  have hx : xL.any longB = false := rfl
  simp only [Dk.apps, hx, Bool.or_self, Bool.false_eq_true, if_false]
  rw [if_neg (by rw [enc_size, xL_n, hsz]; omega), if_neg (by simp [xL])]
  simp [Dk.runs, Dk.doE, Dk.doD, Dk.writeE, Dk.writeD, ho]

/-! ### Slices that live on beside a journal -/
/-- A slice's block is none of these, and is there. -/
def Far (w : World) (v : Value) (f : List Nat) : Prop := ∀ g, v.ownBlock = some g → g ∉ f ∧ g < w.heap.size
theorem Far.upd {w w' : World} {v : Value} {f1 f2 : List Nat} (h : Far w v f1) (hu : Upd f1 f2 w w') : Far w' v f2 := fun g hg => by
  obtain ⟨h1, h2⟩ := h g hg
  refine ⟨fun hm => ?_, Nat.lt_of_lt_of_le h2 hu.fr.size⟩
  rcases hu.sub g hm with h | h
  · exact h1 h
  · omega
theorem Far.same {w w' : World} {v : Value} {f : List Nat} (h : Far w v f) (hf : Fr [] w w') : Far w' v f := fun g hg => ⟨(h g hg).1, Nat.lt_of_lt_of_le (h g hg).2 hf.size⟩
theorem Sl.upd {w w' : World} {v : Value} {n : Nat} {cs : List Value} {f1 f2 : List Nat} (h : Sl w v n cs) (hf : Far w v f1) (hu : Upd f1 f2 w w') : Sl w' v n cs := h.fr hu.fr (fun g hg => (hf g hg).1)
/-- All the blocks of a disk and its one journal. -/
def jsB (jb : Nat) (vr : Value) (fp : List Nat) : List Nat := tpB jb vr ++ fp
theorem JS.lt {w0 w : World} {jb db : Nat} {fp : List Nat} {D : Dk} {vr : Value} {t : Tp} {br : Bool} (h : JS w0 w db fp D [⟨jb, vr, t, br⟩]) : ∀ i, i ∈ jsB jb vr fp → i < w.heap.size := fun i hi => by
  rcases List.mem_append.1 hi with h' | h'
  · exact tape_lt (h.js _ (List.mem_singleton.2 rfl)).1 i h'
  · exact DkAt.lt h.disk i h'
theorem far_new {w0 w w' : World} {jb db : Nat} {fp : List Nat} {D : Dk} {vr v : Value} {t : Tp} {br : Bool} (h : JS w0 w db fp D [⟨jb, vr, t, br⟩]) (hy : ∀ g, v.ownBlock = some g → w.heap.size ≤ g ∧ g < w'.heap.size) : Far w' v (jsB jb vr fp) := fun g hg =>
  ⟨fun hm => by have := h.lt g hm; have := (hy g hg).1; omega, (hy g hg).2⟩
/-- What Append leaves, with its blocks. -/
def AppU (w0 : World) (jb db : Nat) (fp : List Nat) (vr : Value) (w : World) (o : Int × Tp × Bool × Dk) (e : Ending) (w' : World) : Prop := e = .returned (.int .i64 o.1) ∧ ∃ vr' fp', JS w0 w' db fp' o.2.2.2 [⟨jb, vr', o.2.1, o.2.2.1⟩] ∧ Upd (jsB jb vr fp) (jsB jb vr' fp') w w'
theorem app_u {w0 w : World} {jb db : Nat} {fp : List Nat} {D : Dk} {vr : Value} {L : List ByteArray} {br : Bool} (h : JS w0 w db fp D [⟨jb, vr, tp0.adds L, br⟩]) (hR : RndAt w0) (l : List ByteArray) (a : Option Addr) (cap : Nat) (hs : Sl w (.slice a l.length cap) l.length (l.map Value.string))
    (hL : (encAll head0 L).length ≤ D.dur.length) (hll : l.length ≤ 1000) (hN : l.any longB = false → (encAll (tp0.adds L).head l).length ≤ 1000000000) (hp : D.pend.length ≤ 4000000000) : Calls Tryz.prog 8 #[.pointer (some ⟨jb, 0, none⟩), .slice a l.length cap] w (AppU w0 jb db fp vr w (D.apps (tp0.adds L) br l)) := by
  have hm : D.dur.length ≤ 4194304 := by obtain ⟨_, _, _, hd, _⟩ := h.disk; exact hd.ok.max
  have hj := h.jn (List.mem_singleton.2 rfl)
  refine (app_c hj l a cap hs (by rw [tpL_head]; exact headOf_size _ _ rfl) (by rw [tpL_size]; exact hL) ?_ (by omega) hN (hR.same h.fr (by simp)) hp).mono fun e w' k => ?_
  · rw [tpL_recs]
    have := encAll_len L head0
    omega
  · obtain ⟨h1, vr', fp', h2, h3⟩ := k
    have hy : ∀ i, i ∈ tpB jb vr ++ fp → w0.heap.size ≤ i := fun i hi => by
      rcases List.mem_append.1 hi with h' | h'
      · exact ((h.js _ (List.mem_singleton.2 rfl)).2 i h').1
      · exact h.young i h'
    have hy2 : ∀ i, i ∈ tpB jb vr' ++ fp' → w0.heap.size ≤ i := fun i hi => by
      rcases h3.sub i hi with h' | h'
      · exact hy i h'
      · exact Nat.le_trans h.fr.size h'
    refine ⟨h1, vr', fp', ⟨h2.disk, h.fr.step h3.fr (fun i hi => .inr (hy i hi)), fun k hk => hy2 k (by simp [hk]), fun j hj => ?_⟩, h3⟩
    obtain rfl := List.mem_singleton.1 hj
    exact ⟨h2.tape, fun k hk => ⟨hy2 k (by simp [hk]), h2.apart k hk⟩⟩

theorem rec_u {w0 w : World} {db : Nat} {fp : List Nat} {D : Dk} {js : List Jb} {b : Nat} {vr : Value} {L : List ByteArray} {br : Bool} (h : JS w0 w db fp D js) (hj : ⟨b, vr, tp0.adds L, br⟩ ∈ js) (hl : L.length ≤ 1000000) :
    Calls Tryz.prog 17 #[.pointer (some ⟨b, 0, none⟩)] w fun e w' => ∃ a cap, e = .returned (.slice a L.length cap) ∧ Sl w' (.slice a L.length cap) L.length (L.map Value.string) ∧ Fr [] w w' ∧ ∀ g, (Value.slice a L.length cap).ownBlock = some g → w.heap.size ≤ g ∧ g < w'.heap.size := by
  refine (records_c (h.jn hj) (by rw [tpL_recs]; omega)).mono ?_
  rintro e w' ⟨v', rfl, h1, h2, h3⟩
  rw [tpL_recs] at h1
  have h4 := sl_of_row h1
  obtain ⟨a, cap, rfl⟩ := h4.val
  exact ⟨a, cap, rfl, h4, h3, fun g hg => ⟨h2 g hg, ownsRow_lt h1 hg⟩⟩

end Go.Proofs.YtbogljpafpkikaaGreatDoor
