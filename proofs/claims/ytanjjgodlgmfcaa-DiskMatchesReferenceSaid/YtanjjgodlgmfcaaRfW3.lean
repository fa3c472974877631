/-
  The reference's disk: Crash.
-/
import Derived.Test.YtanjjgodlgmfcaaRfW2
namespace Go.Proofs.Ytanjjgodlgmfcaa
open Go.RowKit Go.Lib

/-- The world in the first loop: the kept writes lie in a row of the call's own. -/
structure RcAt (w : World) (D : Dk) (kp : Nat → Bool) (k : Nat) (v : Value) (wr : World) : Prop where
  fr : Fr [] w wr
  row : wr.ownsRow 0 80 2 v (keptP D.pend kp k).length (pendC (keptP D.pend kp k))
  new : ∀ g, v.ownBlock = some g → w.heap.size ≤ g

theorem RcAt.app {w wr w9 : World} {D : Dk} {kp : Nat → Bool} {k o : Nat} {s : ByteArray} {v : Value} {g cap : Nat} {x : Obj} (h : RcAt w D kp k v wr) (he : keptP D.pend kp (k + 1) = keptP D.pend kp k ++ [(o, s)])
    (X1 : w9.ownsRow 0 80 2 (.slice (some ⟨g, 0, none⟩) ((keptP D.pend kp k).length + 1) cap) ((keptP D.pend kp k).length + 1) (pendC (keptP D.pend kp k) ++ [.int .i64 o, .string s])) (X2 : Fr v.ownBlock.toList (wr.alloc x) w9) (X3 : v.ownBlock = some g ∨ g = (wr.alloc x).heap.size) :
    RcAt w D kp (k + 1) (.slice (some ⟨g, 0, none⟩) ((keptP D.pend kp k).length + 1) cap) w9 := by
  refine ⟨(h.fr.trans (Fr.alloc _ _ _)).step X2 (fun i hi => .inr (h.new i (by simpa using hi))), ?_, fun q hq => ?_⟩
  · rw [he, pendC_snoc]
    simpa using X1
  · simp [Value.ownBlock] at hq
    subst hq
    rcases X3 with h3 | h3
    · exact h.new _ h3
    · have := h.fr.size; simp at h3; omega

/-- What is applied of a survivor. -/
def tornS (torn : Int) (last : Prop) [Decidable last] (s : ByteArray) : ByteArray := if last ∧ 0 ≤ torn ∧ torn < s.size then s.extract 0 torn.toNat else s

set_option maxRecDepth 1000000 in
set_option maxHeartbeats 8000000 in
theorem rCrash_dk (b : Nat) (fp : List Nat) (D : Dk) (ka : Option Addr) (kcap : Nat) (keep : List Int) (torn : Int) (w : World) (h : RfA w b fp D) (hr : RowI w ka kcap keep) (ht1 : -9223372036854775808 ≤ torn) (ht2 : torn ≤ 9223372036854775807) (hp : D.pend.length ≤ 4294967296) :
    Calls Try.prog 33 #[.pointer (some ⟨b, 0, none⟩), .slice ka keep.length kcap, .int .i64 torn] w (RfStep b fp (.tuple #[]) (D.crash keep torn) w) := by
  obtain ⟨sv, pv, h, rfl⟩ := h
  have hcr : Hid (D.crash keep torn = ⟨false, 0, crashTo D (keptI (fun i => keep.contains (i : Int)) D.pend.length) torn (keptP D.pend (fun i => keep.contains (i : Int)) D.pend.length).length, crashTo D (keptI (fun i => keep.contains (i : Int)) D.pend.length) torn (keptP D.pend (fun i => keep.contains (i : Int)) D.pend.length).length, []⟩) := Lib.hid (by
    unfold Dk.crash
    rw [survL_eq, keptP_len])
  have CH : Hid (∀ (wr : World) (k : Nat), Fr [] w wr → Calls Try.prog 43 #[.slice ka keep.length kcap, .int .i64 k] wr fun e w' => e = .returned (.bool (keep.contains (k : Int))) ∧ wr = w') := Lib.hid fun wr k hf => rhas_c ka kcap keep k wr (hr.keep hf.below)
  have hlen : Hid (∀ j, j ≤ (keptP D.pend (fun i => keep.contains (i : Int)) D.pend.length).length → (crashTo D (keptI (fun i => keep.contains (i : Int)) D.pend.length) torn j).length = D.dur.length) := Lib.hid fun j hj => by
    have := crashTo_length h.ok keep torn j (by rw [survL_eq, ← keptP_len D.pend]; exact hj)
    rw [survL_eq] at this
    exact this
  have hfit : Hid (∀ j, j < (keptP D.pend (fun i => keep.contains (i : Int)) D.pend.length).length → (survS D.pend (keptI (fun i => keep.contains (i : Int)) D.pend.length) torn j).1 + (survS D.pend (keptI (fun i => keep.contains (i : Int)) D.pend.length) torn j).2.size ≤ D.dur.length) := Lib.hid fun j hj => by
    have := survS_fits h.ok (keep := keep) (torn := torn) (j := j) (by rw [survL_eq, ← keptP_len D.pend]; exact hj)
    rw [survL_eq] at this
    exact this
  have hss : Hid (∀ j (hj : j < (keptP D.pend (fun i => keep.contains (i : Int)) D.pend.length).length), _) := Lib.hid fun j hj => survS_kept D.pend (fun i => keep.contains (i : Int)) D.pend.length torn j hj
  have hkl : Hid (∀ k, (keptP D.pend (fun i => keep.contains (i : Int)) k).length ≤ k) := Lib.hid fun k => by rw [keptP_len]; exact keptI_len _ _
  rw [hcr.out]
  clear hr hcr
  generalize hkp : (fun (i : Nat) => keep.contains (i : Int)) = kp at *
  have Hkp : Hid (∀ k : Nat, keep.contains (k : Int) = kp k) := Lib.hid fun k => by rw [← hkp]
  clear hkp
  obtain ⟨gs, cs, rfl, _, _⟩ := h.sure.form h.ok.pos
  obtain ⟨pa, pc, rfl⟩ := ownsRow_slice h.pend
  have hm := h.ok.max
  have hbl := blk_lt h.str
  have H := Lib.hid h; clear h
  go_enter Try.func33, Try.ntmps33
  go_wp2
  go_loopw [6, 7] (fun v i wr => ∃ k : Nat, k ≤ D.pend.length ∧ i = .int .i64 k ∧ Hid (RcAt w D kp k v wr)) (fun _ i _ => D.pend.length - (intOf i).toNat)
  case atStart => exact ⟨0, Nat.zero_le _, rfl, Lib.hid ⟨Fr.refl _ _, ⟨by simp [keptP, keptI, pendC], .inl ⟨rfl, by simp [keptP, keptI]⟩⟩, fun g hg => by cases hg⟩⟩
  case round =>
    obtain ⟨k, hk, rfl, HA⟩ := hrel
    obtain ⟨va, vc, rfl⟩ := ownsRow_slice HA.out.row
    have hke := hkl.out k
    have HI := Lib.hid (H.out.keep (w' := wr) (fun q hq => HA.out.fr.block q (H.out.fp_lt q hq) (by simp)))
    have c1 : wr.cell? ⟨b, 1, none⟩ = some (.slice pa D.pend.length pc) := cell_of_blk HI.out.str 1
    by_cases hlt : k < D.pend.length
    · have ch := CH.out wr k HA.out.fr
      rw [Hkp.out] at ch
      obtain ⟨gp, c', hv, p1, p2⟩ := pend_cells HI.out.pend k hlt
      have EP : Hid (kp k = true → keptP D.pend kp (k + 1) = keptP D.pend kp k ++ [D.pend[k]]) := Lib.hid (keptP_pos D.pend kp k hlt)
      have EN : Hid (kp k = false → keptP D.pend kp (k + 1) = keptP D.pend kp k) := Lib.hid (keptP_neg D.pend kp k)
      cases hv
      generalize D.pend[k] = q at *
      obtain ⟨o, s⟩ := q
      simp only at p1 p2
      cases hb : kp k
      · rw [hb] at ch
        have CHk := Lib.hid ch; clear ch
        go_wp2_with (first | (go_at_call 43; refine CHk.out.mono ?_; rintro e w1 ⟨rfl, rfl⟩))
        go_roundw
        case rel => exact ⟨k + 1, by omega, by go_num, Lib.hid ⟨HA.out.fr, by rw [EN.out hb]; exact HA.out.row, HA.out.new⟩⟩
        case measure => simp [intOf]; omega
      · rw [hb] at ch
        have CHk := Lib.hid ch; clear ch
        have Hnew := Lib.hid (heap_alloc_new wr (.cells #[.int .i64 o, .string s] 80))
        have Hrow := Lib.hid (ownsRow_keep (w' := wr.alloc (.cells #[.int .i64 o, .string s] 80)) HA.out.row fun g hg => Below.heap_alloc _ _ _ (ownsRow_lt HA.out.row hg))
        go_wp2_with (first | (go_at_call 43; refine CHk.out.mono ?_; rintro e w1 ⟨rfl, rfl⟩) | ((with_reducible refine wpList_of_wp (o := ⟨some 31, _, _, _, _, _⟩) rfl (fun K hK => ?_)); refine wp_append_blk (.tmp 22) (.tmp 30) 41 80 _ 2 24 rfl Try.underlying41 infoCh rfl (by decide) (.slice va (keptP D.pend kp k).length vc) (keptP D.pend kp k).length (pendC (keptP D.pend kp k)) rfl Hrow.out wr.heap.size 1 1 #[.int .i64 o, .string s] _ _ rfl Hnew.out rfl (by simp [Value.oneCell']) (by decide) (by omega) (by omega) (fun g cap2 w9 x1 x2 x3 => hK _ _ ?_); have X := Lib.hid (HA.out.app (EP.out hb) x1 x2 x3); clear x1 x2 x3 hK K))
        go_roundw
        case rel => exact ⟨k + 1, by omega, by go_num, X⟩
        case measure => simp [intOf]; omega
    · obtain rfl : k = D.pend.length := by omega
      have ES : Hid (∀ j (hj : j < (keptP D.pend kp D.pend.length).length), crashTo D (keptI kp D.pend.length) torn (j + 1) = paste (crashTo D (keptI kp D.pend.length) torn j) (keptP D.pend kp D.pend.length)[j].1 (tornS torn (j + 1 = (keptP D.pend kp D.pend.length).length) (keptP D.pend kp D.pend.length)[j].2).data.toList) := Lib.hid fun j hj => by
        rw [crashTo, hss.out j hj]
        rfl
      have EF : Hid (∀ j (hj : j < (keptP D.pend kp D.pend.length).length), (keptP D.pend kp D.pend.length)[j].1 + (tornS torn (j + 1 = (keptP D.pend kp D.pend.length).length) (keptP D.pend kp D.pend.length)[j].2).size ≤ D.dur.length) := Lib.hid fun j hj => by
        have := hfit.out j hj
        rw [hss.out j hj] at this
        exact this
      have E0 : Hid (crashTo D (keptI kp D.pend.length) torn 0 = D.dur) := Lib.hid rfl
      have R1 := Lib.hid HA.out.row
      have F1 := Lib.hid HA.out.fr
      have N1 := Lib.hid HA.out.new
      clear HA hss hfit CH hkl
      generalize keptP D.pend kp D.pend.length = L at *
      generalize crashTo D (keptI kp D.pend.length) torn = ct at *
      have ngs := H.out.nes gs rfl
      have hgl := ownsRow_lt HI.out.sure (g := gs) rfl
      have hgl0 := ownsRow_lt H.out.sure (g := gs) rfl
      have W1 : Hid (wr.ownsRow 0 5 1 (.slice (some ⟨gs, 0, none⟩) D.dur.length cs) D.dur.length (byteCells (ct 0))) := Lib.hid (by rw [E0.out]; exact HI.out.sure)
      obtain ⟨w4, hw4⟩ : ∃ w4, w4 = wr := ⟨wr, rfl⟩
      subst hw4
      have hLl : L.length ≤ 4294967296 := by omega
      go_wp2
      go_loopw [8] (fun i wr => ∃ k : Nat, k ≤ L.length ∧ i = .int .i64 k ∧ Hid (Fr [gs] w4 wr) ∧ Hid (wr.ownsRow 0 5 1 (.slice (some ⟨gs, 0, none⟩) D.dur.length cs) D.dur.length (byteCells (ct k)))) (fun i _ => L.length - (intOf i).toNat)
      case atStart => exact ⟨0, Nat.zero_le _, rfl, Lib.hid (Fr.refl _ _), W1⟩
      case round =>
        obtain ⟨k, hk, rfl, HF, HB⟩ := hrel
        have KB := Lib.hid (HF.out.keep HI.out.str (by simp only [List.mem_singleton]; exact fun e => ngs e.symm))
        by_cases hlt : k < L.length
        · obtain ⟨gv, c', hv, p1, p2⟩ := pend_cells R1.out k hlt
          cases hv
          have hgv := N1.out gv rfl
          have hne : gv ≠ gs := by omega
          have q1 : wr.cell? ⟨gv, k * 2, none⟩ = some (.int .i64 (L[k]).1) := (World.cell?_of_block (HF.out.block gv (World.block_lt_of_cell? w4 _ p1) (by simpa using hne))).trans p1
          have q2 : wr.cell? ⟨gv, k * 2 + 1, none⟩ = some (.string (L[k]).2) := (World.cell?_of_block (HF.out.block gv (World.block_lt_of_cell? w4 _ p1) (by simpa using hne))).trans p2
          have d0 : wr.cell? ⟨b, 0, none⟩ = some (.slice (some ⟨gs, 0, none⟩) D.dur.length cs) := cell_of_blk KB.out 0
          have es := ES.out k hlt
          have ef := EF.out k hlt
          clear p1 p2
          generalize L[k] = q at *
          obtain ⟨o, s⟩ := q
          simp only at q1 q2 es ef
          have CA : Hid (∀ s', tornS torn (k + 1 = L.length) s = s' → Calls Try.prog 44 #[.slice (some ⟨gs, 0, none⟩) D.dur.length cs, .int .i64 o, .string s'] wr.drew fun e w' => e = .returned (.tuple #[]) ∧ Fr [gs] w4 w' ∧ w'.ownsRow 0 5 1 (.slice (some ⟨gs, 0, none⟩) D.dur.length cs) D.dur.length (byteCells (ct (k + 1))) ∧ (w'.cell? ⟨b, 0, none⟩ = some (.slice (some ⟨gs, 0, none⟩) D.dur.length cs) ∧ w'.cell? ⟨gv, k * 2, none⟩ = some (.int .i64 o))) := Lib.hid fun s' hs' => by
            rw [hs'] at es ef
            refine (rapply_c gs D.dur.length cs o s' _ wr.drew HB.out ef hm).mono fun e w' ⟨h1, h2, h3⟩ => ⟨h1, HF.out.trans ((Fr.drew _ _).trans h2), by rw [es]; exact h3, ?_, ?_⟩
            · exact (World.cell?_of_block (h2.block b (blk_lt KB.out) (by simp only [List.mem_singleton]; exact fun e => ngs e.symm))).trans d0
            · exact (World.cell?_of_block (h2.block gv (World.block_lt_of_cell? wr _ q1) (by simpa using hne))).trans q1
          clear es ef
          have hlen1 : (1 : Int) ≤ L.length := by omega
          have hcase : (k + 1 = L.length ∧ 0 ≤ torn ∧ torn < s.size) ∨ (k + 1 = L.length ∧ 0 ≤ torn ∧ (s.size : Int) ≤ torn) ∨ (k + 1 = L.length ∧ torn < 0) ∨ ¬ (k + 1 = L.length) := by omega
          have hdt : k + 1 = L.length → ((k : Int) == (L.length : Int) - 1) = true := fun h => by simp; omega
          have hdf : ¬ (k + 1 = L.length) → ((k : Int) == (L.length : Int) - 1) = false := fun h => by simp; omega
          rcases hcase with ⟨h1, h2, h3⟩ | ⟨h1, h2, h3⟩ | ⟨h1, h2⟩ | h1
          · obtain ⟨tn, rfl⟩ := Int.eq_ofNat_of_zero_le h2
            have CA' := Lib.hid (CA.out (s.extract 0 tn) (by simp [tornS, h1, h3]))
            have hd := hdt h1
            have h4 : tn ≤ s.size := by omega
            clear CA h1 hdt hdf
            go_wp2_with fail
            go_region_held3 (fun W' : World => W'.cell? ⟨b, 0, none⟩ = some (.slice (some ⟨gs, 0, none⟩) D.dur.length cs) ∧ W'.cell? ⟨gv, k * 2, none⟩ = some (.int .i64 o)) (first | exact ⟨d0, q1⟩ | assumption) (first | (go_at_call 44; refine CA'.out.mono ?_; rintro e w5 ⟨rfl, f5, b5, s5⟩))
            clear s5
            go_wp2
            go_roundw
            case rel => exact ⟨k + 1, by omega, by go_num, Lib.hid f5, Lib.hid b5⟩
            case measure => simp [intOf]; omega
          · have CA' := Lib.hid (CA.out s (by simp only [tornS]; rw [if_neg]; omega))
            have hd := hdt h1
            clear CA h1 hdt hdf
            go_wp2_with fail
            go_region_held3 (fun W' : World => W'.cell? ⟨b, 0, none⟩ = some (.slice (some ⟨gs, 0, none⟩) D.dur.length cs) ∧ W'.cell? ⟨gv, k * 2, none⟩ = some (.int .i64 o)) (first | exact ⟨d0, q1⟩ | assumption) (first | (go_at_call 44; refine CA'.out.mono ?_; rintro e w5 ⟨rfl, f5, b5, s5⟩))
            clear s5
            go_wp2
            go_roundw
            case rel => exact ⟨k + 1, by omega, by go_num, Lib.hid f5, Lib.hid b5⟩
            case measure => simp [intOf]; omega
          · have CA' := Lib.hid (CA.out s (by simp only [tornS]; rw [if_neg]; omega))
            have hd := hdt h1
            clear CA h1 hdt hdf
            go_wp2_with fail
            go_region_held3 (fun W' : World => W'.cell? ⟨b, 0, none⟩ = some (.slice (some ⟨gs, 0, none⟩) D.dur.length cs) ∧ W'.cell? ⟨gv, k * 2, none⟩ = some (.int .i64 o)) (first | exact ⟨d0, q1⟩ | assumption) (first | (go_at_call 44; refine CA'.out.mono ?_; rintro e w5 ⟨rfl, f5, b5, s5⟩))
            clear s5
            go_wp2
            go_roundw
            case rel => exact ⟨k + 1, by omega, by go_num, Lib.hid f5, Lib.hid b5⟩
            case measure => simp [intOf]; omega
          · have CA' := Lib.hid (CA.out s (by simp only [tornS]; rw [if_neg]; omega))
            have hd := hdf h1
            clear CA h1 hdt hdf
            go_wp2_with fail
            go_region_held3 (fun W' : World => W'.cell? ⟨b, 0, none⟩ = some (.slice (some ⟨gs, 0, none⟩) D.dur.length cs) ∧ W'.cell? ⟨gv, k * 2, none⟩ = some (.int .i64 o)) (first | exact ⟨d0, q1⟩ | assumption) (first | (go_at_call 44; refine CA'.out.mono ?_; rintro e w5 ⟨rfl, f5, b5, s5⟩))
            clear s5
            go_wp2
            go_roundw
            case rel => exact ⟨k + 1, by omega, by go_num, Lib.hid f5, Lib.hid b5⟩
            case measure => simp [intOf]; omega
        · obtain rfl : k = L.length := by omega
          have d1 : wr.cell? ⟨b, 1, none⟩ = some (.slice pa D.pend.length pc) := cell_of_blk KB.out 1
          have d2 : wr.cell? ⟨b, 2, none⟩ = some (.bool D.off) := cell_of_blk KB.out 2
          have d3 : wr.cell? ⟨b, 3, none⟩ = some (.int .i64 D.left) := cell_of_blk KB.out 3
          have z1 := free_of_blk KB.out 1
          have z2 := free_of_blk KB.out 2
          have z3 := free_of_blk KB.out 3
          go_wp2
          go_end0
          have hs := heap_setCell_same (i := 3) (.int .i64 0) (heap_setCell_same (i := 2) (.bool false) (heap_setCell_same (i := 1) (.slice none 0 0) KB.out))
          have f2 : Fr [b] wr (((wr.setCell ⟨b, 1, none⟩ (.slice none 0 0)).setCell ⟨b, 2, none⟩ (.bool false)).setCell ⟨b, 3, none⟩ (.int .i64 0)) := ((Fr.setCell _ _ (by simp)).trans (Fr.setCell _ _ (by simp))).trans (Fr.setCell _ _ (by simp))
          have hl := hlen.out L.length (Nat.le_refl _)
          have hin : RfIn (((wr.setCell ⟨b, 1, none⟩ (.slice none 0 0)).setCell ⟨b, 2, none⟩ (.bool false)).setCell ⟨b, 3, none⟩ (.int .i64 0)) b (.slice (some ⟨gs, 0, none⟩) D.dur.length cs) (.slice none 0 0) ⟨false, 0, ct L.length, ct L.length, []⟩ := by
            refine ⟨⟨rfl, by simp only [hl]; exact H.out.ok.pos, by simp only [hl]; exact hm, by simp, by simp⟩, rfl, hs, ?_, ⟨by simp [pendC], .inl ⟨rfl, rfl⟩⟩, fun k hk => by simp [Value.ownBlock] at hk; omega, fun k hk => by cases hk⟩
            simp only [hl]
            exact ownsRow_keep HB.out fun k hk => f2.block k (ownsRow_lt HB.out hk) (by simp [Value.ownBlock] at hk; simp; omega)
          exact rfStep_in rfl hin (((F1.out.mono (by simp)).trans (HF.out.mono (by simp))).trans (f2.mono (by simp)) : Fr [b, gs] w _) (by simp [Value.ownBlock]) (by simp) (fun k hk => .inl (by simp [hk])) (fun k hk => by cases hk)

end Go.Proofs.Ytanjjgodlgmfcaa
