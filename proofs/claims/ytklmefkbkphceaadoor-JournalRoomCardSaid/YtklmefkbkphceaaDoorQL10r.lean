/-
  The journal's laws: JournalReopens, from readable arguments.
-/
import Derived.Test.YtklmefkbkphceaaDoorQL10s
namespace Go.Proofs.YtklmefkbkphceaaDoor
open Go.RowKit Go.Lib

/-- A value that is a readable list of strings. -/
def GOk (w : World) (v : Value) (l : List ByteArray) : Prop := ∃ a c, v = .slice a l.length c ∧ Sl w (.slice a l.length c) l.length (l.map Value.string) ∧ ∀ s, s ∈ l → s.size ≤ 9223372036854775807
theorem few_long (l : List ByteArray) : (fewM l).any longB = false := by
  rw [List.any_eq_false]
  intro r hr
  have := fewM_size hr
  simp only [longB, decide_eq_true_eq]; omega
/-- A group of few records goes in, or not. -/
theorem few_app {D : Dk} {L : List ByteArray} (h : Clean D L) (hL : encN L ≤ D.dur.length) (l : List ByteArray) : ∃ n L' D', D.apps (tp0.adds L) false (fewM l) = (n, tp0.adds L', false, D') ∧ Clean D' L' ∧ D'.dur.length = D.dur.length ∧ encN L' ≤ D.dur.length := by
  by_cases hf : (encAll head0 (L ++ fewM l)).length ≤ D.dur.length
  · obtain ⟨D', h1, h2, h3⟩ := clean_fit h (fewM l) (few_long l) hf
    exact ⟨_, _, D', h1, h2, h3, by rw [enc_size] at hf; exact hf⟩
  · exact ⟨_, _, D, clean_full h (fewM l) (few_long l) (by omega), h, rfl, hL⟩
theorem few_s {w0 w : World} {jb db : Nat} {fp : List Nat} {D : Dk} {vr : Value} {L : List ByteArray} {br : Bool} (h : JS w0 w db fp D [⟨jb, vr, tp0.adds L, br⟩]) (hR : RndAt w0) (l : List ByteArray) (a : Option Addr) (cap : Nat) (hs : Sl w (.slice a (fewM l).length cap) (fewM l).length ((fewM l).map Value.string))
    (hL : encN L ≤ D.dur.length) (hp : D.pend.length ≤ 4000000000) : Calls Tryd.prog 11 #[.pointer (some ⟨jb, 0, none⟩), .slice a (fewM l).length cap] w (AppS w0 jb db (D.apps (tp0.adds L) br (fewM l))) := by
  have hl := fewM_len l
  refine app_s h hR (fewM l) a cap hs (by rw [enc_size]; exact hL) (by omega) (fun _ => ?_) hp
  have := enc_few (fewM l) (fun r hr => by have := fewM_size hr; omega) (tp0.adds L).head
  have : (fewM l).length * 65572 ≤ 6 * 65572 := Nat.mul_le_mul_right _ hl
  omega

set_option maxRecDepth 100000 in
set_option maxHeartbeats 2000000 in
theorem reopens_c (n : Int) (a0 : Addr) (a : Option Addr) (cap : Nat) (xs : List (Value × List ByteArray)) (w : World) (hn : -9223372036854775808 ≤ n ∧ n ≤ 9223372036854775807) (hs : Sl w (.slice a xs.length cap) xs.length (xs.map (·.1))) (hx : ∀ x, x ∈ xs → GOk w x.1 x.2) (hR : RndAt w) (hA : DmgAt w a0) :
    Calls Tryd.prog 4 #[.int .i64 n, .slice a xs.length cap] w fun e w' => e = .returned (.bool true) ∧ Fr [] w w' := by
  have hlen := hs.len
  have HSa := Lib.hid (sane10_c a0 w hR hA)
  have HSz := Lib.hid fun w => size10_c n w hn
  have hmb := szJ_bound n
  generalize szJ n = m at *
  have HS := Lib.hid hs; have HX := Lib.hid hx; have HR := Lib.hid hR; have HA := Lib.hid hA
  clear hs hx hR hA
  go_enter Tryd.func4, Tryd.ntmps4
  go_wp2_with fail
  refine HSa.out.mono ?_
  rintro e w1 ⟨rfl, f1⟩
  have HF1 := Lib.hid f1
  clear f1 HSa
  go_wp2_with fail
  refine (HSz.out _).mono ?_
  rintro e w1' ⟨rfl, rfl⟩
  go_wp2_with fail
  refine (new_s m w w1 HF1.out (by omega) (by omega)).mono ?_
  rintro e w2 ⟨db, fp, rfl, js2⟩
  have C0 := clean_new m
  have hd0 : (Dk.new m).dur.length = m := by simp [Dk.new]
  have HOp := open_s js2 HR.out HA.out (by simp [Dk.new])
  rw [clean_open C0] at HOp
  have HP := Lib.hid HOp
  have HC0 := Lib.hid C0; have HD0 := Lib.hid hd0
  clear js2 HOp C0 hd0 HF1
  go_wp2_with fail
  refine HP.out.mono ?_
  rintro e w3 ⟨jb, vr, fp3, he, js3⟩
  have he' : e = .returned (.tuple #[.pointer (some ⟨jb, 0, none⟩), .int .i64 0]) := he
  subst he'
  have js3 : JS w w3 db fp3 (Dk.new m) [⟨jb, vr, tp0.adds [], false⟩] := js3
  have HJ3 := Lib.hid js3
  clear he js3 HP
  go_wp2_with fail
  go_loopw [10] (fun i wr => ∃ (k : Nat) (fp' : List Nat) (D : Dk) (vr' : Value) (L : List ByteArray), i = .int .i64 k ∧ k ≤ xs.length ∧ k ≤ 8 ∧ Hid (JS w wr db fp' D [⟨jb, vr', tp0.adds L, false⟩]) ∧ Hid (Clean D L ∧ D.dur.length = m ∧ encN L ≤ m)) (fun i _ => 8 - (RowKit.intOf i).toNat)
  case atStart => exact ⟨0, fp3, _, vr, [], rfl, Nat.zero_le _, by omega, HJ3, Lib.hid ⟨HC0.out, HD0.out, by simp [encN]⟩⟩
  case round =>
    obtain ⟨k, fp', D, vr', L, rfl, hk, hk8, HJ, HC⟩ := hrel
    by_cases hlt : k < xs.length
    · by_cases hl8 : k < 8
      · obtain ⟨b, off, rfl, hc⟩ := (HS.out.same HJ.out.fr).at_ (by omega)
        obtain ⟨ga, gc, hg1, hg2, hg3⟩ := HX.out _ (List.getElem_mem hlt)
        have ck : wr.cell? ⟨b, off + k, none⟩ = some (.slice ga (xs[k]).2.length gc) := by rw [← hg1]; exact hc k _ (by simp [hlt])
        have HFe := Lib.hid (few10_c ga gc (xs[k]).2 wr (hg2.same HJ.out.fr) hg3)
        clear hc hg1 hg2 hg3
        generalize (xs[k]).2 = l at *
        go_wp2_with fail
        refine HFe.out.mono ?_
        rintro e w5 ⟨v, rfl, hr5, _, f5⟩
        have s5 := sl_of_row hr5
        obtain ⟨va, vc, rfl⟩ := s5.val
        have hjs := HJ.out.same f5
        obtain ⟨n', L', D', e1, C', d1, hL'⟩ := few_app HC.out.1 (by rw [HC.out.2.1]; exact HC.out.2.2) l
        have AP := few_s hjs HR.out l va vc s5 (by rw [HC.out.2.1]; exact HC.out.2.2) (by rw [HC.out.1.pend]; simp)
        rw [e1] at AP
        have HAP := Lib.hid AP
        have HC' : Hid (Clean D' L' ∧ D'.dur.length = m ∧ encN L' ≤ m) := Lib.hid ⟨C', by rw [d1]; exact HC.out.2.1, by have := HC.out.2.1; omega⟩
        clear AP hjs s5 hr5 f5 HFe e1 C' d1 hL'
        generalize (fewM l).length = fl at *
        go_wp2_with fail
        refine HAP.out.mono ?_
        rintro e w6 ⟨he, vr6, fp6, js6⟩
        have he' : e = .returned (.int .i64 n') := he
        subst he'
        have HJ6 : Hid (JS w w6 db fp6 D' [⟨jb, vr6, tp0.adds L', false⟩]) := Lib.hid js6
        clear he js6 HAP
        go_wp2_with fail
        go_roundw
        case rel => exact ⟨k + 1, fp6, D', vr6, L', by go_num, hlt, by omega, HJ6, HC'⟩
        case measure => simp [RowKit.intOf]; omega
      · go_wp2_with fail
        have hjs := HJ.out
        obtain ⟨C, hdm, hLm⟩ := HC.out
        refine (cut_dk db fp' D 1 wr hjs.disk (by omega)).mono ?_
        rintro e w5 ⟨rfl, hd5, f5⟩
        have js5 : JS w w5 db fp' (D.cutD 1) [⟨jb, vr', tp0.adds L, false⟩] := hjs.upd hd5 ⟨f5, fun _ h => .inl h⟩
        obtain ⟨z, hv⟩ := C.vis
        have hcd : D.cutD 1 = D.cut 1 := by simp [Dk.cutD, C.off]
        rw [hcd] at js5 hd5
        have ho : (D.cut 1).off = false := rfl
        have hvi : (D.cut 1).vis = encAll head0 L ++ List.replicate z 0 := hv
        have hpe : (D.cut 1).pend.length = 0 := by simp [Dk.cut, C.pend]
        have hdl : (D.cut 1).dur.length = m := hdm
        have hvl : (str (D.cut 1).vis).size = m := by rw [str_size]; show D.vis.length = m; rw [← C.dur]; exact hdm
        have HOp := open_s js5 HR.out HA.out (by omega)
        rw [opens_of ho hvi C.small] at HOp
        have HP := Lib.hid HOp
        generalize D.cut 1 = D5 at *
        have HDL : Shut (D5.dur.length = m) := ⟨hdl⟩
        have HPE : Shut (D5.pend.length = 0) := ⟨hpe⟩
        have HVL : Shut ((str D5.vis).size = m) := ⟨hvl⟩
        have HOF : Shut (D5.off = false) := ⟨ho⟩
        have hLl : L.length ≤ 1500 := by have := encAll_len L head0; rw [enc_size] at this; omega
        clear hd5 f5 hcd hv hvi HOp js5 hjs C hdm hpe hdl hvl ho
        go_wp2_with fail
        refine HP.out.mono ?_
        rintro e w6 ⟨kb, vk, fp6, he, js6⟩
        have he' : e = .returned (.tuple #[.pointer (some ⟨kb, 0, none⟩), .int .i64 0]) := he
        subst he'
        have js6 : JS w w6 db fp6 D5 [⟨kb, vk, tp0.adds L, false⟩, ⟨jb, vr', tp0.adds L, false⟩] := js6
        have HJ6 := Lib.hid js6
        clear he js6 HP
        go_wp2_with fail
        refine (rec_s (L := L) HJ6.out (List.mem_cons_of_mem _ (List.mem_singleton.2 rfl)) (by omega)).mono ?_
        rintro e w7 ⟨ra, rc, rfl, s7, f7⟩
        have HJ7 := Lib.hid (HJ6.out.same f7); have HS7 := Lib.hid s7
        clear f7 s7 HJ6
        go_wp2_with fail
        refine (rec_s (L := L) HJ7.out (List.mem_cons_self) (by omega)).mono ?_
        rintro e w8 ⟨ra2, rc2, rfl, s8, f8⟩
        have HJ8 := Lib.hid (HJ7.out.same f8); have HS8 := Lib.hid s8; have HS7b := Lib.hid (HS7.out.same f8)
        clear f8 s8 HJ7 HS7
        go_wp2_with fail
        refine (same10_c ra ra2 rc rc2 L L w8 HS7b.out HS8.out).mono ?_
        rintro e w9 ⟨rfl, f9⟩
        have HJ9 := Lib.hid (HJ8.out.same f9)
        rw [decide_eq_true (rfl : L = L)]
        clear f9 HJ8 HS8 HS7b
        go_wp2_with fail
        refine (room_s (L := L) HJ9.out (List.mem_cons_of_mem _ (List.mem_singleton.2 rfl)) (by omega)).mono ?_
        rintro e wa ⟨rfl, fa⟩
        have HJa := Lib.hid (HJ9.out.same fa)
        clear fa HJ9
        go_wp2_with fail
        refine (room_s (L := L) HJa.out (List.mem_cons_self) (by omega)).mono ?_
        rintro e wb ⟨rfl, fb⟩
        have HJb := Lib.hid (HJa.out.same fb)
        clear fb HJa
        go_wp2_with fail
        refine (pending_dk db fp6 D5 wb HJb.out.disk).mono ?_
        rintro e wc ⟨rfl, rfl⟩
        rw [HPE.out]
        go_wp2_with fail
        refine (content10_c db fp6 D5 wb HJb.out.disk HOF.out).mono ?_
        rintro e wc ⟨rfl, rfl⟩
        have hvl := HVL.out
        generalize str D5.vis = S5 at *
        go_wp2_with fail
        refine (HSz.out _).mono ?_
        rintro e wc ⟨rfl, rfl⟩
        go_wp2_with fail
        go_ret
        exact ⟨rfl, HJb.out.fr⟩
    · go_wp2_with fail
      have hjs := HJ.out
      obtain ⟨C, hdm, hLm⟩ := HC.out
      refine (cut_dk db fp' D 1 wr hjs.disk (by omega)).mono ?_
      rintro e w5 ⟨rfl, hd5, f5⟩
      have js5 : JS w w5 db fp' (D.cutD 1) [⟨jb, vr', tp0.adds L, false⟩] := hjs.upd hd5 ⟨f5, fun _ h => .inl h⟩
      obtain ⟨z, hv⟩ := C.vis
      have hcd : D.cutD 1 = D.cut 1 := by simp [Dk.cutD, C.off]
      rw [hcd] at js5 hd5
      have ho : (D.cut 1).off = false := rfl
      have hvi : (D.cut 1).vis = encAll head0 L ++ List.replicate z 0 := hv
      have hpe : (D.cut 1).pend.length = 0 := by simp [Dk.cut, C.pend]
      have hdl : (D.cut 1).dur.length = m := hdm
      have hvl : (str (D.cut 1).vis).size = m := by rw [str_size]; show D.vis.length = m; rw [← C.dur]; exact hdm
      have HOp := open_s js5 HR.out HA.out (by omega)
      rw [opens_of ho hvi C.small] at HOp
      have HP := Lib.hid HOp
      generalize D.cut 1 = D5 at *
      have HDL : Shut (D5.dur.length = m) := ⟨hdl⟩
      have HPE : Shut (D5.pend.length = 0) := ⟨hpe⟩
      have HVL : Shut ((str D5.vis).size = m) := ⟨hvl⟩
      have HOF : Shut (D5.off = false) := ⟨ho⟩
      have hLl : L.length ≤ 1500 := by have := encAll_len L head0; rw [enc_size] at this; omega
      clear hd5 f5 hcd hv hvi HOp js5 hjs C hdm hpe hdl hvl ho
      go_wp2_with fail
      refine HP.out.mono ?_
      rintro e w6 ⟨kb, vk, fp6, he, js6⟩
      have he' : e = .returned (.tuple #[.pointer (some ⟨kb, 0, none⟩), .int .i64 0]) := he
      subst he'
      have js6 : JS w w6 db fp6 D5 [⟨kb, vk, tp0.adds L, false⟩, ⟨jb, vr', tp0.adds L, false⟩] := js6
      have HJ6 := Lib.hid js6
      clear he js6 HP
      go_wp2_with fail
      refine (rec_s (L := L) HJ6.out (List.mem_cons_of_mem _ (List.mem_singleton.2 rfl)) (by omega)).mono ?_
      rintro e w7 ⟨ra, rc, rfl, s7, f7⟩
      have HJ7 := Lib.hid (HJ6.out.same f7); have HS7 := Lib.hid s7
      clear f7 s7 HJ6
      go_wp2_with fail
      refine (rec_s (L := L) HJ7.out (List.mem_cons_self) (by omega)).mono ?_
      rintro e w8 ⟨ra2, rc2, rfl, s8, f8⟩
      have HJ8 := Lib.hid (HJ7.out.same f8); have HS8 := Lib.hid s8; have HS7b := Lib.hid (HS7.out.same f8)
      clear f8 s8 HJ7 HS7
      go_wp2_with fail
      refine (same10_c ra ra2 rc rc2 L L w8 HS7b.out HS8.out).mono ?_
      rintro e w9 ⟨rfl, f9⟩
      have HJ9 := Lib.hid (HJ8.out.same f9)
      rw [decide_eq_true (rfl : L = L)]
      clear f9 HJ8 HS8 HS7b
      go_wp2_with fail
      refine (room_s (L := L) HJ9.out (List.mem_cons_of_mem _ (List.mem_singleton.2 rfl)) (by omega)).mono ?_
      rintro e wa ⟨rfl, fa⟩
      have HJa := Lib.hid (HJ9.out.same fa)
      clear fa HJ9
      go_wp2_with fail
      refine (room_s (L := L) HJa.out (List.mem_cons_self) (by omega)).mono ?_
      rintro e wb ⟨rfl, fb⟩
      have HJb := Lib.hid (HJa.out.same fb)
      clear fb HJa
      go_wp2_with fail
      refine (pending_dk db fp6 D5 wb HJb.out.disk).mono ?_
      rintro e wc ⟨rfl, rfl⟩
      rw [HPE.out]
      go_wp2_with fail
      refine (content10_c db fp6 D5 wb HJb.out.disk HOF.out).mono ?_
      rintro e wc ⟨rfl, rfl⟩
      have hvl := HVL.out
      generalize str D5.vis = S5 at *
      go_wp2_with fail
      refine (HSz.out _).mono ?_
      rintro e wc ⟨rfl, rfl⟩
      go_wp2_with fail
      go_ret
      exact ⟨rfl, HJb.out.fr⟩

end Go.Proofs.YtklmefkbkphceaaDoor
