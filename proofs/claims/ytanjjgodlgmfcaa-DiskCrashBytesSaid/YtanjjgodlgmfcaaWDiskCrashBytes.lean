/-
  The walk of DiskCrashBytes.
-/
import Derived.Test.YtanjjgodlgmfcaaL9f
import Derived.Test.YtanjjgodlgmfcaaApp
namespace Go.Proofs.Ytanjjgodlgmfcaa
open Go.RowKit Go.Lib Go.ChangeShapes Go.WideShapes Go.ChangeAt Go.Deep

/-- A slice of bools, read: where its elements lie. -/
structure RowB (W : World) (a : Option Addr) (cap : Nat) (zs : List Bool) : Prop where
  le : zs.length ≤ cap
  max : cap ≤ 9223372036854775807
  cells : 0 < zs.length → ∃ b off, a = some ⟨b, off, none⟩ ∧ b < W.heap.size ∧ ∀ j, (h : j < zs.length) → W.cell? ⟨b, off + j, none⟩ = some (.bool zs[j])

/-- An argument that is a slice of elements of one cell. -/
theorem elems_of_trod {P : Program} {H : Type} {enc : TypeId × Value → H} {W : World} {t e : TypeId} {v : Value} {fuel : Nat} {x : DataW H × List MemPlace} (ht : P.underlying t = some (.slice e))
    (hC : P.cellsOf e = 1) (h : DataW.trod enc P W 0 (fun _ => true) true fuel t [v] = some x) :
    ∃ a len cap, v = .slice a len cap ∧ len ≤ cap ∧ cap ≤ 9223372036854775807 ∧ (0 < len → ∃ b off, a = some ⟨b, off, none⟩ ∧ b < W.heap.size ∧
      ∀ i, i < len → ∃ u y n, W.cell? ⟨b, off + i, none⟩ = some u ∧ DataW.trod enc P W 0 (fun _ => true) true n e [u] = some y) := by
  rcases open_slice ht h with ⟨hcs, _⟩ | ⟨a, len, cap, m, n, D, Pl, hcs, _, hl, hm, hmm, _, hi⟩
  · simp only [List.cons.injEq, and_true] at hcs
    exact ⟨none, 0, 0, hcs, by omega, by omega, fun h => by omega⟩
  · simp only [List.cons.injEq, and_true] at hcs
    simp only [if_true] at hmm
    refine ⟨some a, len, cap, hcs, hl, hm, fun h0 => ?_⟩
    have each : ∀ i, i < len → ∃ u y n, W.cell? (a.add i) = some u ∧ DataW.trod enc P W 0 (fun _ => true) true n e [u] = some y := by
      intro i hil
      obtain ⟨cs, hc, htr⟩ := hi i (by omega)
      rw [hC, Nat.mul_one] at hc
      obtain ⟨_, hcl, hat⟩ := World.cells?_some hc
      have h1 := hat 0 (by omega)
      obtain ⟨u, rfl⟩ : ∃ u, cs = [u] := by
        match cs, hcl with
        | [u], _ => exact ⟨u, rfl⟩
      have ha : (a.add i).add 0 = a.add i := by simp [Addr.add]
      rw [ha] at h1
      exact ⟨u, _, _, by simpa using h1, htr⟩
    obtain ⟨u0, _, _, hu0, _⟩ := each 0 h0
    have ha : a.add 0 = a := by simp [Addr.add]
    rw [ha] at hu0
    have hs := cell_spot hu0
    obtain ⟨b, off, sp⟩ := a
    simp only at hs
    subst hs
    refine ⟨b, off, rfl, World.block_lt_of_cell? W _ hu0, fun i hil => ?_⟩
    obtain ⟨u, y, n, h1, h2⟩ := each i hil
    have e : (⟨b, off, none⟩ : Addr).add i = ⟨b, off + i, none⟩ := by
      unfold Addr.add
      split
      · rename_i h; rw [h]; rfl
      · rfl
    rw [e] at h1
    exact ⟨u, y, n, h1, h2⟩

theorem rowB_of_open {P : Program} {H : Type} {enc : TypeId × Value → H} {W : World} {base : Nat} {t e : TypeId} {v : Value} {d : DataW H} {p : List MemPlace} (ht : P.underlying t = some (.slice e)) (he : P.underlying e = some .bool) (hc : P.cellsOf e = 1)
    (k : Value.okWide P W .any base t v) (h : DataW.Trod enc P W 0 (fun _ => true) true t v d p) : ∃ a cap zs, v = .slice a zs.length cap ∧ RowB W a cap zs := by
  obtain ⟨a0, len0, cap0, rfl⟩ := okWide_slice ht k
  obtain ⟨fuel, hf⟩ := h
  obtain ⟨a, len, cap, hv, h1, h2, h3⟩ := elems_of_trod ht hc (by simpa [Value.cells] using hf)
  rcases Nat.eq_zero_or_pos len with h0 | h0
  · exact ⟨a, cap, [], by rw [hv, h0]; rfl, by simp, h2, by simp⟩
  · obtain ⟨b, off, ha, hb, hcs⟩ := h3 h0
    have each : ∀ i, i < len → ∃ x : Bool, W.cell? ⟨b, off + i, none⟩ = some (.bool x) := by
      intro i hi
      obtain ⟨u, y, n, c, tr⟩ := hcs i hi
      obtain ⟨x, rfl⟩ := trod_bool he tr
      exact ⟨x, c⟩
    obtain ⟨zs, hl, hQ⟩ := list_of_each len each
    exact ⟨a, cap, zs, by rw [hv, hl], by omega, h2, fun _ => ⟨b, off, ha, hb, hQ⟩⟩

theorem getD_of_lt {kb : List Bool} {k : Nat} (h : k < kb.length) : kb.getD k false = kb[k] := by simp [h]
theorem getD_of_ge {kb : List Bool} {k : Nat} (h : ¬ k < kb.length) : kb.getD k false = false := by simp [h]

theorem wantW_pos {F : List UInt8} {pw : Nat → Nat × ByteArray} {kp : Nat → Bool} {last torn : Int} {k : Nat} (h : kp k = true) : wantW F pw kp last torn (k + 1) = paste (wantW F pw kp last torn k) (pw k).1 (if (k : Int) = last ∧ 0 ≤ torn then (pw k).2.extract 0 (min (pw k).2.size torn.toNat) else (pw k).2).data.toList := by
  simp only [wantW, h, if_true]
theorem wantW_neg {F : List UInt8} {pw : Nat → Nat × ByteArray} {kp : Nat → Bool} {last torn : Int} {k : Nat} (h : kp k = false) : wantW F pw kp last torn (k + 1) = wantW F pw kp last torn k := by
  simp only [wantW, h, Bool.false_eq_true, if_false]

theorem digit_val (k : Nat) : (((48 + k % 10).toUInt8).toNat : Int) = 48 + (k : Int) % 10 := by
  have h : 48 + k % 10 < 256 := by omega
  have : ((48 + k % 10).toUInt8).toNat = 48 + k % 10 := by
    rw [Nat.toUInt8, UInt8.toNat_ofNat']
    omega
  omega

/-- The facts of the third loop. -/
structure CbAt (D : Dk) (F : List UInt8) (pw : Nat → Nat × ByteArray) (k : Nat) : Prop where
  up : D.up
  dur : D.dur = F
  pend : D.pend = (List.range k).map pw
theorem cbAt_put {D : Dk} {F : List UInt8} {pw : Nat → Nat × ByteArray} {k : Nat} (h : CbAt D F pw k) {o : Nat} {s : ByteArray} (hp : pw k = (o, s)) : CbAt (D.put o s) F pw (k + 1) :=
  ⟨put_up h.up o s, h.dur, by simp [Dk.put, h.pend, List.range_succ, hp]⟩

set_option maxRecDepth 1000000 in
set_option maxHeartbeats 20000000 in
theorem diskCrashBytes_c (size torn : Int) (a ak : Option Addr) (cap capk : Nat) (l : List Wp) (kb : List Bool) (w : World) (h1 : -9223372036854775808 ≤ size) (h2 : size ≤ 9223372036854775807) (t1 : -9223372036854775808 ≤ torn) (t2 : torn ≤ 9223372036854775807) (hr : RowW w a cap l) (hq : RowB w ak capk kb) :
    Calls Try.prog 8 #[.int .i64 size, .slice a l.length cap, .slice ak kb.length capk, .int .i64 torn] w fun e w' => e = .returned (.bool true) ∧ Below w.heap.size w w' := by
  have hlm : l.length ≤ 9223372036854775807 := Nat.le_trans hr.le hr.max
  have hkm : kb.length ≤ 9223372036854775807 := Nat.le_trans hq.le hq.max
  have cS := Lib.hid (sane_c w)
  have hp := pickI_bound size 100 (by omega)
  have cP := Lib.hid (fun w => pick_any size 100 w h1 h2 (by omega) (by omega))
  generalize pickI size 100 = sz at *
  obtain ⟨m, rfl⟩ := Int.eq_ofNat_of_zero_le hp.1
  have hn1 : m + 1 ≤ 100 := by omega
  have cN := Lib.hid (fun w => new_own (m + 1) w (by omega) (by omega))
  have en : ((m + 1 : Nat) : Int) = 1 + (m : Int) := by omega
  have hmk := fun w => run_make_row' (P := Try.prog) 40 5 (.int .u8 0) 1 Try.underlying40 infoB rfl .i64 .i64 (m + 1) (by omega) (by omega) w
  rw [en] at cN
  simp only [en] at hmk
  have HR := Lib.hid hr; clear hr
  have HQ := Lib.hid hq; clear hq
  have Hen := Lib.hid en; clear en
  go_enter Try.func8, Try.ntmps8
  go_wp2_with fail
  refine cS.out.mono ?_
  rintro e w1 ⟨rfl, f1⟩
  go_wp2_with fail
  refine (cP.out _).mono ?_
  rintro e w1b ⟨rfl, rfl⟩
  go_wp2_with fail
  refine (cN.out _).mono ?_
  rintro e w2 ⟨b, fp, rfl, o1⟩
  have O1 := Lib.hid (o1.older f1); clear o1 f1
  go_wp2
  have O2 : OwnB w (w2.alloc (.cells (madeCells #[Value.int .u8 0] (m + 1)) 5)) b fp (Dk.new (m + 1)) w2.heap.size (digsTo (m + 1) 0) :=
    ⟨O1.out.same (Fr.alloc _ _ _), by rw [digsTo_zero]; exact bytes_new _ _, fun hm => by have := O1.out.at_.lt _ hm; omega, O1.out.fr.size⟩
  have HO2 := Lib.hid O2; clear O2 O1
  go_loopw [13] (fun i wr => ∃ k : Nat, k ≤ m + 1 ∧ i = .int .i64 k ∧ Hid (OwnB w wr b fp (Dk.new (m + 1)) w2.heap.size (digsTo (m + 1) k))) (fun i _ => m + 1 - (intOf i).toNat)
  case atStart => exact ⟨0, Nat.zero_le _, rfl, HO2⟩
  case round =>
    obtain ⟨k, hk, rfl, HO⟩ := hrel
    by_cases hlt : k < m + 1
    · have hci : ∃ v, wr.cell? ⟨w2.heap.size, k, none⟩ = some v := by
        rw [cell_of_blk HO.out.buf]
        have : k < (byteCells (digsTo (m + 1) k)).toArray.size := by simp [byteCells_length, digsTo_length (m + 1) k hk]; omega
        exact ⟨_, Array.getElem?_eq_getElem this⟩
      obtain ⟨vi, hci⟩ := hci
      have hfi := free_of_blk HO.out.buf k
      go_wp2
      go_roundw
      case rel =>
        refine ⟨k + 1, by omega, by go_num, Lib.hid ?_⟩
        have h1 := bytesAt_set (i := k) (48 + k % 10).toUInt8 HO.out.buf
        rw [digsTo_set (m + 1) k hlt, digit_val] at h1
        have h2 := HO.out.put (c' := digsTo (m + 1) (k + 1)) (Fr.setCell _ _ (by simp)) h1
        exact h2
      case measure => simp [intOf]; omega
    · obtain rfl : k = m + 1 := by omega
      have hw0 := write_up (up_new (m + 1)) (o := 0) (s := ⟨(digs (m + 1)).toArray⟩) (by simp [Dk.new, digs_length, ByteArray.size])
      have cW : Calls Try.prog 21 #[.pointer (some ⟨b, 0, none⟩), .int .i64 0, .string ⟨(digs (m + 1)).toArray⟩] wr (OwnBStep w wr b fp (.int .i64 ((Dk.new (m + 1)).writeE (0 : Nat) ⟨(digs (m + 1)).toArray⟩)) ((Dk.new (m + 1)).writeD (0 : Nat) ⟨(digs (m + 1)).toArray⟩) w2.heap.size (digsTo (m + 1) (m + 1))) := writeB HO.out 0 ⟨(digs (m + 1)).toArray⟩ (by omega) (by omega) (by simp [ByteArray.size, digs_length]; omega) (by simp [Dk.new])
      rw [hw0.1, hw0.2, digsTo_all] at cW
      have CW := Lib.hid cW; clear cW hw0
      have B1 := Lib.hid HO.out.buf
      rw [digsTo_all] at B1
      have hUp : Hid ((Dk.new (m + 1)).put 0 ⟨(digs (m + 1)).toArray⟩).up := Lib.hid (put_up (up_new _) _ _)
      have hSy : Hid (((Dk.new (m + 1)).put 0 ⟨(digs (m + 1)).toArray⟩).sync.dur = digs (m + 1) ∧ ((Dk.new (m + 1)).put 0 ⟨(digs (m + 1)).toArray⟩).sync.pend = []) := Lib.hid ⟨by
        show paste (List.replicate (m + 1) 0) 0 (digs (m + 1)) = digs (m + 1)
        exact paste_all _ _ (by simp [digs_length]), rfl⟩
      have hdl : Hid ((digs (m + 1)).length = m + 1) := Lib.hid (digs_length _)
      generalize (Dk.new (m + 1)).put 0 ⟨(digs (m + 1)).toArray⟩ = D1 at *
      generalize digs (m + 1) = F at *
      go_wp2_with (first | ((with_reducible refine wpList_of_wp (o := ⟨some 50, _, _, _, _, _⟩) rfl (fun K hK => ?_)); refine wp_bytes_all (.tmp 49) 40 9 5 rfl Try.underlying40 Try.underlying5 Try.underlying9 w2.heap.size (m + 1) (m + 1) F 5 rfl B1.out hdl.out (hK _ _ ?_)) | (go_at_call 21; refine CW.out.mono ?_; rintro e w3 ⟨rfl, fp3, o3, f3⟩; have cY := syncB o3; rw [(sync_up hUp.out).1, (sync_up hUp.out).2.1] at cY; have CY := Lib.hid cY; clear o3 f3 cY) | (go_at_call 23; refine CY.out.mono ?_; rintro e w4 ⟨rfl, fp4, o4, f4⟩; have O4 := Lib.hid o4; clear o4 f4))
      have hU2 := Lib.hid (sync_up hUp.out).2.2
      generalize D1.sync = D2 at *
      clear CW CY hUp B1 HO
      have hgk : Hid (∀ k, (h : k < kb.length) → kb.getD k false = kb[k]) := Lib.hid fun k h => getD_of_lt h
      have hgn : Hid (∀ k, ¬ k < kb.length → kb.getD k false = false) := Lib.hid fun k h => getD_of_ge h
      generalize hkp : (fun k => kb.getD k false) = kp at *
      have hKp : Hid (∀ k, kb.getD k false = kp k) := Lib.hid fun k => by rw [← hkp]
      clear hkp
      go_loopw [14, 15] (fun la i wr => ∃ k : Nat, k ≤ l.length ∧ k ≤ 20 ∧ i = .int .i64 k ∧ la = .int .i64 (lastK kp k) ∧ Hid (Fr [] w4 wr)) (fun _ i _ => l.length - (intOf i).toNat)
      case atStart => exact ⟨0, Nat.zero_le _, by omega, rfl, rfl, Lib.hid (Fr.refl _ _)⟩
      case round =>
        obtain ⟨k, hk, hk20, rfl, rfl, HF⟩ := hrel
        by_cases hlt : k < l.length ∧ k < 20
        · obtain ⟨hlt, h20⟩ := hlt
          by_cases hkk : k < kb.length
          · obtain ⟨b', off', ha, hb', hcs⟩ := HQ.out.cells (by omega)
            subst ha
            have e0 := ((O4.out.own.fr.trans HF.out).below.cell (p := ⟨b', off' + k, none⟩) hb').trans (hcs k hkk)
            rw [← hgk.out k hkk, hKp.out k] at e0
            clear hcs
            cases hkv : kp k with
            | true =>
              rw [hkv] at e0
              go_wp2
              go_roundw
              case rel => exact ⟨k + 1, by omega, by omega, by go_num, by simp [lastK, hkv], HF⟩
              case measure => simp [intOf]; omega
            | false =>
              rw [hkv] at e0
              go_wp2
              go_roundw
              case rel => exact ⟨k + 1, by omega, by omega, by go_num, by simp [lastK, hkv], HF⟩
              case measure => simp [intOf]; omega
          · have hkv : kp k = false := by rw [← hKp.out k]; exact hgn.out k hkk
            go_wp2
            go_roundw
            case rel => exact ⟨k + 1, by omega, by omega, by go_num, by simp [lastK, hkv], HF⟩
            case measure => simp [intOf]; omega
        · have hKe : Hid (k = min l.length 20) := Lib.hid (by omega)
          have hl1 := lastK_lt kp k
          have hl2 := lastK_ge kp k
          have hLa : Hid (∀ K, K = min l.length 20 → lastK kp K = lastK kp k) := Lib.hid fun K hK => by rw [hK, ← hKe.out]
          have hkk : ¬ (k < l.length) ∨ (k < l.length ∧ 20 ≤ k) := by omega
          clear hlt hKe
          generalize lastK kp k = la at *
          have X4 : Hid (OwnX w wr b fp4 D2 [w2.heap.size]) := Lib.hid ⟨O4.out.own.same HF.out, fun q hq => by
            simp only [List.mem_singleton] at hq
            subst hq
            exact ⟨O4.out.ne, O4.out.new, Nat.lt_of_lt_of_le (blk_lt O4.out.buf) HF.out.size⟩⟩
          have B4 := Lib.hid (HF.out.keep O4.out.buf (by simp))
          have C4 : Hid (CbAt D2 F (fun i => fitW (l.getD i default) (m + 1)) 0) := Lib.hid ⟨hU2.out, hSy.out.1, by simp [hSy.out.2]⟩
          have hFit : Hid (∀ i, (fitW (l.getD i default) (m + 1)).1 + (fitW (l.getD i default) (m + 1)).2.size ≤ m + 1) := Lib.hid fun i => fitW_fits _ _
          have hpw : Hid (∀ i, (h : i < l.length) → fitW (l.getD i default) (m + 1) = fitW l[i] (m + 1)) := Lib.hid fun i h => by simp [h]
          have hWl : Hid (∀ k, (wantW F (fun i => fitW (l.getD i default) (m + 1)) kp la torn k).length = m + 1) := Lib.hid fun k => wantW_length hdl.out hFit.out k
          obtain ⟨w5, hw5⟩ : ∃ w5, w5 = wr := ⟨wr, rfl⟩
          subst hw5
          have hpw2 : Hid (∀ i, (fun i => fitW (l.getD i default) (m + 1)) i = fitW (l.getD i default) (m + 1)) := Lib.hid fun i => rfl
          generalize (fun i => fitW (l.getD i default) (m + 1)) = pw at *
          generalize w2.heap.size = bb at *
          clear O4 HF hU2 hSy
          rcases hkk with hkk | ⟨hkk, hkk2⟩
          all_goals
            go_wp2
            go_loopw [16, 17] (fun v i wr => ∃ (k : Nat) (fp : List Nat) (D : Dk), k ≤ l.length ∧ k ≤ 20 ∧ i = .int .i64 k ∧ Hid (wr.ownsRow 0 3 1 v (keptI kp k).length ((keptI kp k).reverse.map (Value.int .i64))) ∧ Hid (OwnX w wr b fp D (bb :: v.ownBlock.toList)) ∧ Hid (v.ownBlock ≠ some bb) ∧ Hid (BytesAt wr bb 5 (wantW F pw kp la torn k)) ∧ Hid (CbAt D F pw k)) (fun _ i _ => l.length - (intOf i).toNat)
            case atStart => exact ⟨0, fp4, D2, Nat.zero_le _, by omega, rfl, Lib.hid ⟨by simp [keptI], .inl ⟨rfl, by simp [keptI]⟩⟩, X4, Lib.hid (by simp [Value.ownBlock]), B4, C4⟩
            case round =>
              clear X4 B4 C4
              obtain ⟨k, fp, D, hk, hk20, rfl, HV, HX, HNE, HB, HD⟩ := hrel
              obtain ⟨va, vc, rfl⟩ := ownsRow_slice HV.out
              have hkl := keptI_len kp k
              by_cases hlt : k < l.length ∧ k < 20
              · obtain ⟨hlt, h20⟩ := hlt
                obtain ⟨b', off', ha, hb', hcs⟩ := HR.out.cells (by omega)
                subst ha
                have hbel := HX.out.own.fr.below
                obtain ⟨q0, q1, q2⟩ := hcs k hlt
                have e0 := (hbel.cell (p := ⟨b', off' + k * 3, none⟩) hb').trans q0
                have e1 := (hbel.cell (p := ⟨b', off' + k * 3 + 1, none⟩) hb').trans q1
                have e2 := (hbel.cell (p := ⟨b', off' + k * 3 + 2, none⟩) hb').trans q2
                have hok := HR.out.ok _ (List.getElem_mem hlt)
                have hpk := hpw.out k hlt
                rw [← hpw2.out k] at hpk
                clear hcs q0 q1 q2 hbel
                generalize l[k] = x at *
                have cF := Lib.hid (fun w => fits_c x (m + 1) w hok (by omega))
                rw [Hen.out] at cF
                have hft := fitW_fits x (m + 1)
                have Hpk : Hid (pw k = ((fitW x (m + 1)).1, (fitW x (m + 1)).2)) := Lib.hid hpk
                clear hpk
                generalize (fitW x (m + 1)).1 = o at *
                generalize (fitW x (m + 1)).2 = s at *
                go_wp2_with (first | (go_at_call 26; refine (cF.out _).mono ?_; rintro e w5 ⟨rfl, f5⟩; have F5 := Lib.hid f5; clear f5))
                generalize x.sync = y at *
                have X5 := Lib.hid (HX.out.same (F5.out.trans (Fr.alloc _ _ (.cells #[.int .i64 o, .string s, .bool y] 53))))
                have hny := (HX.out.same F5.out).own.young (Nat.le_refl _)
                have hnv := Lib.hid (heap_alloc_new w5 (.cells #[.int .i64 o, .string s, .bool y] 53))
                have hss : s.size ≤ 100 := by omega
                have B5 := Lib.hid ((F5.out.trans (Fr.alloc _ _ (.cells #[.int .i64 o, .string s, .bool y] 53))).keep HB.out (by simp))
                have V5 := Lib.hid (ownsRow_keep HV.out (fun g hg => (F5.out.trans (Fr.alloc _ _ (.cells #[.int .i64 o, .string s, .bool y] 53))).block g (ownsRow_lt HV.out hg) (by simp)))
                have cW := writeX X5.out o s (by omega) (by omega) (by omega) (by rw [HD.out.pend]; simp; omega)
                have hwu := write_up HD.out.up (show o + s.size ≤ D.dur.length by rw [HD.out.dur, hdl.out]; exact hft)
                rw [hwu.1, hwu.2] at cW
                have CW := Lib.hid cW; clear cW hwu
                have HD6 := Lib.hid (cbAt_put HD.out Hpk.out)
                refine CW.out.mono ?_
                rintro e w6 ⟨rfl, fp6, o6, f6⟩
                have O6 := Lib.hid o6; have F6 := Lib.hid f6; clear o6 f6
                have V6 := Lib.hid (F6.out.fr.keep hnv.out hny)
                have B6 := Lib.hid ((X5.out.kept F6.out (by simp)).trans B5.out)
                have R6 := Lib.hid (ownsRow_keep V5.out (fun g hg => X5.out.kept F6.out (by simp [hg])))
                generalize D.put o s = D6 at *
                have hbx := blk_lt V6.out
                have hbb := blk_lt B6.out
                have hcond : ¬ k < kb.length ∨ k < kb.length := by omega
                rcases hcond with hnk | hkb
                · have hkv : kp k = false := by rw [← hKp.out k]; exact hgn.out k hnk
                  go_wp2_with fail
                  go_roundw
                  case rel => exact ⟨k + 1, fp6, D6, by omega, by omega, by go_num, Lib.hid (by rw [keptI_neg kp k hkv]; exact R6.out), O6, HNE, Lib.hid (by rw [wantW_neg hkv]; exact B6.out), HD6⟩
                  case measure => simp [intOf]; omega
                · obtain ⟨bk, offk, hak, hbk, hck⟩ := HQ.out.cells (by omega)
                  subst hak
                  have e6 := (O6.out.own.fr.below.cell (p := ⟨bk, offk + k, none⟩) hbk).trans (hck k hkb)
                  rw [← hgk.out k hkb, hKp.out k] at e6
                  clear hck
                  cases hkv : kp k with
                  | false =>
                    rw [hkv] at e6
                    go_wp2_with fail
                    go_roundw
                    case rel => exact ⟨k + 1, fp6, D6, by omega, by omega, by go_num, Lib.hid (by rw [keptI_neg kp k hkv]; exact R6.out), O6, HNE, Lib.hid (by rw [wantW_neg hkv]; exact B6.out), HD6⟩
                    case measure => simp [intOf]; omega
                  | true =>
                    rw [hkv] at e6
                    have hsv := Lib.hid (srcAt_of_row (ownsRow_keep (w' := w6.alloc (.cells #[.int .i64 k] 3)) R6.out (fun g hg => Below.heap_alloc _ _ _ (ownsRow_lt R6.out hg))))
                    have hone : Hid (∀ u, u ∈ (keptI kp k).reverse.map (Value.int .i64) → u.oneCell' = true) := Lib.hid fun u hu => by
                      obtain ⟨z, _, rfl⟩ := List.mem_map.1 hu
                      rfl
                    have hlnn : Hid (((keptI kp k).reverse.map (Value.int .i64)).length = (keptI kp k).length * 1) := Lib.hid (by simp)
                    have CP : Hid (∀ (s' : ByteArray) (W : World), BytesAt W bb 5 (wantW F pw kp la torn k) → o + s'.size ≤ m + 1 → Calls Try.prog 27 #[.slice (some ⟨bb, 0, none⟩) (m + 1) (m + 1), .int .i64 o, .string s'] W fun e w' => e = .returned (.tuple #[]) ∧ Fr [bb] W w' ∧ BytesAt w' bb 5 (paste (wantW F pw kp la torn k) o s'.data.toList)) := Lib.hid fun s' W hB hs' => put_c bb (m + 1) o s' _ W hB (hWl.out k) hs' (by omega)
                    have hdt : (k : Int) = la → ((k : Int) == la) = true := fun h => by simp [h]
                    have hdf : ¬ ((k : Int) = la) → ((k : Int) == la) = false := fun h => by simp [h]
                    have hcases : ((k : Int) = la ∧ 0 ≤ torn) ∨ ((k : Int) = la ∧ torn < 0) ∨ ¬ ((k : Int) = la) := by omega
                    rcases hcases with ⟨c1, c2⟩ | ⟨c1, c2⟩ | c1
                    · obtain ⟨tn, rfl⟩ := Int.eq_ofNat_of_zero_le c2
                      have EW : Hid (wantW F pw kp la tn (k + 1) = paste (wantW F pw kp la tn k) o (s.extract 0 (min s.size tn)).data.toList) := Lib.hid (by rw [wantW_pos hkv, Hpk.out, if_pos ⟨c1, c2⟩, Int.toNat_natCast])
                      have cC := Lib.hid (fun w => cut_str s tn w (by omega) (by omega))
                      have hfe : o + (s.extract 0 (min s.size tn)).size ≤ m + 1 := by simp; omega
                      have hd := hdt c1
                      clear c1 hdt hdf
                      generalize s.extract 0 (min s.size tn) = s' at *
                      go_wp2_with (first | ((with_reducible refine wpList_of_wp (o := ⟨some 115, _, _, _, _, _⟩) rfl (fun K hK => ?_)); refine wp_append_src (.tmp 113) (.tmp 114) 37 3 (.int .i64 0) 1 8 rfl Try.underlying37 infoI rfl (by decide) (.slice (some ⟨w6.heap.size, 0, none⟩) 1 1) 1 [.int .i64 k] rfl (World.ownsRow_lit w6 #[.int .i64 k] 1 (Nat.zero_le _) (by decide) rfl) _ (keptI kp k).length _ rfl hsv.out hlnn.out hone.out (by omega) (by omega) (fun ga cap2 w9 x1 x2 x3 => hK _ _ ?_); have X1 := Lib.hid x1; have X2 := Lib.hid x2; have X3 := Lib.hid x3; clear x1 x2 x3 hK K; have V9 := Lib.hid (X2.out.keep (heap_alloc_old _ V6.out) (by simp [Value.ownBlock]; omega)); have t0 : w9.cell? ⟨w5.heap.size, 0, none⟩ = some (.int .i64 o) := cell_of_blk V9.out 0; have t1 : w9.cell? ⟨w5.heap.size, 1, none⟩ = some (.string s) := cell_of_blk V9.out 1; have B9 := Lib.hid (X2.out.keep (heap_alloc_old _ B6.out) (by simp [Value.ownBlock]; omega))) | (go_at_call 27; refine (CP.out _ _ B9.out (by first | exact hft | exact hfe)).mono ?_; rintro e w10 ⟨rfl, f10, b10⟩; have F10 := Lib.hid f10; have B10 := Lib.hid b10; clear f10 b10) | (go_at_call 22; refine (cC.out _).mono ?_; rintro e wc ⟨rfl, rfl⟩))
                      go_roundw
                      case rel =>
                        have hga : ∀ g, (Value.slice ga (1 + (keptI kp k).length) cap2).ownBlock = some g → w6.heap.size ≤ g := fun g hg => by
                          rcases X3.out with h | h <;> rw [hg] at h <;> simp [Value.ownBlock] at h <;> omega
                        have hgl : ∀ g, (Value.slice ga (1 + (keptI kp k).length) cap2).ownBlock = some g → g < w9.heap.size := fun g hg => ownsRow_lt X1.out hg
                        have O7 : OwnX w w9 b fp6 D6 [bb, w6.heap.size] := ((O6.out.same (Fr.alloc [] w6 (.cells #[.int .i64 k] 3))).with (os' := [bb, w6.heap.size]) (fun q hq => by
                          simp only [List.mem_cons, List.not_mem_nil, or_false] at hq
                          rcases hq with rfl | rfl
                          · exact ⟨(O6.out.sep _ (by simp)).1, (O6.out.sep _ (by simp)).2.1, by simp; omega⟩
                          · exact O6.out.newer (Nat.le_refl _) (by simp))).fr X2.out (by simp [Value.ownBlock])
                        have O8 := O7.fr F10.out (by simp)
                        have ek := keptI_pos kp k hkv
                        refine ⟨k + 1, fp6, D6, by omega, by omega, by go_num, Lib.hid ?_, Lib.hid (O8.with fun q hq => ?_), Lib.hid ?_, Lib.hid ?_, HD6⟩
                        · rw [ek]
                          have h1 := ownsRow_keep X1.out (fun g hg => F10.out.block g (hgl g hg) (by simp only [List.mem_singleton]; have := hga g hg; omega))
                          simpa [Nat.add_comm] using h1
                        · simp only [List.mem_cons, Option.mem_toList] at hq
                          rcases hq with rfl | hq
                          · exact O8.sep _ (by simp)
                          · exact O6.out.newer (hga q hq) (Nat.lt_of_lt_of_le (hgl q hq) F10.out.size)
                        · intro hq
                          have := hga bb hq
                          omega
                        · rw [EW.out]
                          exact B10.out
                      case measure => simp [intOf]; omega
                    · have EW : Hid (wantW F pw kp la torn (k + 1) = paste (wantW F pw kp la torn k) o s.data.toList) := Lib.hid (by rw [wantW_pos hkv, Hpk.out, if_neg (by omega)])
                      have hfe := hft
                      have hd := hdt c1
                      clear c1 hdt hdf
                      go_wp2_with (first | ((with_reducible refine wpList_of_wp (o := ⟨some 115, _, _, _, _, _⟩) rfl (fun K hK => ?_)); refine wp_append_src (.tmp 113) (.tmp 114) 37 3 (.int .i64 0) 1 8 rfl Try.underlying37 infoI rfl (by decide) (.slice (some ⟨w6.heap.size, 0, none⟩) 1 1) 1 [.int .i64 k] rfl (World.ownsRow_lit w6 #[.int .i64 k] 1 (Nat.zero_le _) (by decide) rfl) _ (keptI kp k).length _ rfl hsv.out hlnn.out hone.out (by omega) (by omega) (fun ga cap2 w9 x1 x2 x3 => hK _ _ ?_); have X1 := Lib.hid x1; have X2 := Lib.hid x2; have X3 := Lib.hid x3; clear x1 x2 x3 hK K; have V9 := Lib.hid (X2.out.keep (heap_alloc_old _ V6.out) (by simp [Value.ownBlock]; omega)); have t0 : w9.cell? ⟨w5.heap.size, 0, none⟩ = some (.int .i64 o) := cell_of_blk V9.out 0; have t1 : w9.cell? ⟨w5.heap.size, 1, none⟩ = some (.string s) := cell_of_blk V9.out 1; have B9 := Lib.hid (X2.out.keep (heap_alloc_old _ B6.out) (by simp [Value.ownBlock]; omega))) | (go_at_call 27; refine (CP.out _ _ B9.out (by first | exact hft | exact hfe)).mono ?_; rintro e w10 ⟨rfl, f10, b10⟩; have F10 := Lib.hid f10; have B10 := Lib.hid b10; clear f10 b10))
                      go_roundw
                      case rel =>
                        have hga : ∀ g, (Value.slice ga (1 + (keptI kp k).length) cap2).ownBlock = some g → w6.heap.size ≤ g := fun g hg => by
                          rcases X3.out with h | h <;> rw [hg] at h <;> simp [Value.ownBlock] at h <;> omega
                        have hgl : ∀ g, (Value.slice ga (1 + (keptI kp k).length) cap2).ownBlock = some g → g < w9.heap.size := fun g hg => ownsRow_lt X1.out hg
                        have O7 : OwnX w w9 b fp6 D6 [bb, w6.heap.size] := ((O6.out.same (Fr.alloc [] w6 (.cells #[.int .i64 k] 3))).with (os' := [bb, w6.heap.size]) (fun q hq => by
                          simp only [List.mem_cons, List.not_mem_nil, or_false] at hq
                          rcases hq with rfl | rfl
                          · exact ⟨(O6.out.sep _ (by simp)).1, (O6.out.sep _ (by simp)).2.1, by simp; omega⟩
                          · exact O6.out.newer (Nat.le_refl _) (by simp))).fr X2.out (by simp [Value.ownBlock])
                        have O8 := O7.fr F10.out (by simp)
                        have ek := keptI_pos kp k hkv
                        refine ⟨k + 1, fp6, D6, by omega, by omega, by go_num, Lib.hid ?_, Lib.hid (O8.with fun q hq => ?_), Lib.hid ?_, Lib.hid ?_, HD6⟩
                        · rw [ek]
                          have h1 := ownsRow_keep X1.out (fun g hg => F10.out.block g (hgl g hg) (by simp only [List.mem_singleton]; have := hga g hg; omega))
                          simpa [Nat.add_comm] using h1
                        · simp only [List.mem_cons, Option.mem_toList] at hq
                          rcases hq with rfl | hq
                          · exact O8.sep _ (by simp)
                          · exact O6.out.newer (hga q hq) (Nat.lt_of_lt_of_le (hgl q hq) F10.out.size)
                        · intro hq
                          have := hga bb hq
                          omega
                        · rw [EW.out]
                          exact B10.out
                      case measure => simp [intOf]; omega
                    · have EW : Hid (wantW F pw kp la torn (k + 1) = paste (wantW F pw kp la torn k) o s.data.toList) := Lib.hid (by rw [wantW_pos hkv, Hpk.out, if_neg (by omega)])
                      have hfe := hft
                      have hd := hdf c1
                      clear c1 hdt hdf
                      go_wp2_with (first | ((with_reducible refine wpList_of_wp (o := ⟨some 115, _, _, _, _, _⟩) rfl (fun K hK => ?_)); refine wp_append_src (.tmp 113) (.tmp 114) 37 3 (.int .i64 0) 1 8 rfl Try.underlying37 infoI rfl (by decide) (.slice (some ⟨w6.heap.size, 0, none⟩) 1 1) 1 [.int .i64 k] rfl (World.ownsRow_lit w6 #[.int .i64 k] 1 (Nat.zero_le _) (by decide) rfl) _ (keptI kp k).length _ rfl hsv.out hlnn.out hone.out (by omega) (by omega) (fun ga cap2 w9 x1 x2 x3 => hK _ _ ?_); have X1 := Lib.hid x1; have X2 := Lib.hid x2; have X3 := Lib.hid x3; clear x1 x2 x3 hK K; have V9 := Lib.hid (X2.out.keep (heap_alloc_old _ V6.out) (by simp [Value.ownBlock]; omega)); have t0 : w9.cell? ⟨w5.heap.size, 0, none⟩ = some (.int .i64 o) := cell_of_blk V9.out 0; have t1 : w9.cell? ⟨w5.heap.size, 1, none⟩ = some (.string s) := cell_of_blk V9.out 1; have B9 := Lib.hid (X2.out.keep (heap_alloc_old _ B6.out) (by simp [Value.ownBlock]; omega))) | (go_at_call 27; refine (CP.out _ _ B9.out (by first | exact hft | exact hfe)).mono ?_; rintro e w10 ⟨rfl, f10, b10⟩; have F10 := Lib.hid f10; have B10 := Lib.hid b10; clear f10 b10))
                      go_roundw
                      case rel =>
                        have hga : ∀ g, (Value.slice ga (1 + (keptI kp k).length) cap2).ownBlock = some g → w6.heap.size ≤ g := fun g hg => by
                          rcases X3.out with h | h <;> rw [hg] at h <;> simp [Value.ownBlock] at h <;> omega
                        have hgl : ∀ g, (Value.slice ga (1 + (keptI kp k).length) cap2).ownBlock = some g → g < w9.heap.size := fun g hg => ownsRow_lt X1.out hg
                        have O7 : OwnX w w9 b fp6 D6 [bb, w6.heap.size] := ((O6.out.same (Fr.alloc [] w6 (.cells #[.int .i64 k] 3))).with (os' := [bb, w6.heap.size]) (fun q hq => by
                          simp only [List.mem_cons, List.not_mem_nil, or_false] at hq
                          rcases hq with rfl | rfl
                          · exact ⟨(O6.out.sep _ (by simp)).1, (O6.out.sep _ (by simp)).2.1, by simp; omega⟩
                          · exact O6.out.newer (Nat.le_refl _) (by simp))).fr X2.out (by simp [Value.ownBlock])
                        have O8 := O7.fr F10.out (by simp)
                        have ek := keptI_pos kp k hkv
                        refine ⟨k + 1, fp6, D6, by omega, by omega, by go_num, Lib.hid ?_, Lib.hid (O8.with fun q hq => ?_), Lib.hid ?_, Lib.hid ?_, HD6⟩
                        · rw [ek]
                          have h1 := ownsRow_keep X1.out (fun g hg => F10.out.block g (hgl g hg) (by simp only [List.mem_singleton]; have := hga g hg; omega))
                          simpa [Nat.add_comm] using h1
                        · simp only [List.mem_cons, Option.mem_toList] at hq
                          rcases hq with rfl | hq
                          · exact O8.sep _ (by simp)
                          · exact O6.out.newer (hga q hq) (Nat.lt_of_lt_of_le (hgl q hq) F10.out.size)
                        · intro hq
                          have := hga bb hq
                          omega
                        · rw [EW.out]
                          exact B10.out
                      case measure => simp [intOf]; omega
              · have hla := hLa.out k (by omega)
                have hcr := crash_kept (D := D) (pw := pw) (kp := kp) (torn := torn) (K := k) HD.out.pend
                rw [hla, HD.out.dur] at hcr
                have hI := intsB_of_row (v := .slice va (keptI kp k).length vc) (xs := (keptI kp k).reverse) (by simpa using HV.out)
                have cX := crashX HX.out _ (keptI kp k).reverse torn hI (by simp; omega) (fun x hx => by have := keptI_mem (List.mem_reverse.1 hx); omega) t1 t2
                rw [hcr] at cX
                have CX := Lib.hid cX; clear cX hI hcr hla
                have hru := read_up (D := ⟨false, 0, wantW F pw kp la torn k, wantW F pw kp la torn k, []⟩) ⟨rfl, rfl⟩ rfl
                simp only [hWl.out k, Hen.out] at hru
                have HRU := Lib.hid hru; clear hru
                have hwl := Lib.hid (hWl.out k)
                generalize wantW F pw kp la torn k = W3 at *
                have hkk3 : ¬ (k < l.length) ∨ (k < l.length ∧ 20 ≤ k) := by omega
                clear hlt
                rcases hkk3 with hkk3 | ⟨hkk3, hkk4⟩
                all_goals try (exfalso; omega)
                all_goals
                  go_wp2_with fail
                  refine CX.out.mono ?_
                  rintro e w8 ⟨rfl, fp8, o8, f8⟩
                  have O8 := Lib.hid o8
                  have B8 := Lib.hid ((HX.out.kept f8 (by simp)).trans HB.out)
                  clear o8 f8
                  have cR8 := read_own O8.out.own 0 (1 + m) (by omega) (by omega) (by omega) (by omega)
                  rw [HRU.out.1, HRU.out.2] at cR8
                  have CR8 := Lib.hid cR8; clear cR8
                  go_wp2_with (first | (go_at_call 14; refine CR8.out.mono ?_; rintro e w9 ⟨rfl, rfl⟩) | ((with_reducible refine wpList_of_wpg (o := ⟨some 155, _, _, _, _, _⟩) ?_ (fun K hK => ?_)); (first | rfl | simp [Region.wanted, yielded]); refine wp_bytes_all (.tmp 154) 40 9 5 rfl Try.underlying40 Try.underlying5 Try.underlying9 bb (m + 1) (m + 1) W3 5 rfl B8.out hwl.out (hK _ _ ?_)))
                  go_ret
                  exact ⟨rfl, O8.out.own.fr.below⟩

set_option maxRecDepth 100000 in
theorem walk_DiskCrashBytes {H : Type} {enc : TypeId × Value → H} {base : Nat} (W : World) {v0 v1 v2 v3 : Value} {d0 d1 d2 d3 : DataW H} {p0 p1 p2 p3 : List MemPlace}
    (k0 : Value.okWide Try.prog W .any base 3 v0) (h0 : DataW.Trod enc Try.prog W 0 (fun _ => true) true 3 v0 d0 p0)
    (k1 : Value.okWide Try.prog W .any base 51 v1) (h1 : DataW.Trod enc Try.prog W 0 (fun _ => true) true 51 v1 d1 p1)
    (k2 : Value.okWide Try.prog W .any base 58 v2) (h2 : DataW.Trod enc Try.prog W 0 (fun _ => true) true 58 v2 d2 p2)
    (k3 : Value.okWide Try.prog W .any base 3 v3) (h3 : DataW.Trod enc Try.prog W 0 (fun _ => true) true 3 v3 d3 p3) :
    Calls Try.prog 8 #[v0, v1, v2, v3] W fun e W' => e = .returned (.bool true) ∧ Below W.heap.size W W' := by
  obtain ⟨a0, rfl, l0, u0⟩ := open_i64 Try.underlying3 k0 h0
  obtain ⟨a, cap, l, rfl, hr⟩ := rowW_of_open k1 h1
  obtain ⟨ak, capk, kb, rfl, hq⟩ := rowB_of_open Try.underlying58 Try.underlying4 (by kernel_rfl) k2 h2
  obtain ⟨a3, rfl, l3, u3⟩ := open_i64 Try.underlying3 k3 h3
  exact diskCrashBytes_c a0 a3 a ak cap capk l kb W l0 u0 l3 u3 hr hq

end Go.Proofs.Ytanjjgodlgmfcaa
