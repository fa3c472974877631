/-
  digest: Sum of a string.
-/
import Derived.Test.YtbogljpafpkikaaGreatDoorQDg6
namespace Go.Proofs.YtbogljpafpkikaaGreatDoor
open Go.RowKit Go.Shelf Go.Lib

attribute [local go_sem] Oper.semAt_some

/-- The k-th block of a list of bytes. -/
def chunkL (L : List Int) (k : Nat) : List Int := (L.drop (64 * k)).take 64
theorem fold_take (L : List Int) (m : Nat) : ∀ k, k ≤ m → ((List.finRange m).take k).foldl (fun h (x : Fin m) => addB h (chunkL L x.1)) H0 = blocks L H0 k
  | 0, _ => rfl
  | k + 1, h => by
    rw [finTake (by omega : k < m), List.foldl_append, fold_take L m k (by omega)]
    rfl
theorem fold_all (L : List Int) (m : Nat) : (List.finRange m).foldl (fun h (x : Fin m) => addB h (chunkL L x.1)) H0 = blocks L H0 m := by
  have := fold_take L m m (Nat.le_refl _)
  rwa [List.take_of_length_le (by simp)] at this

structure SumAt (w : World) (B base g cap n : Nat) (l : List Int) (W : World) : Prop where
  fr : Fr [] w W
  wd : W.heap[B]? = some (.cells (w8C H0) 182 (0, 0))
  row : RowB W base g cap n l
  hs : base ≤ W.heap.size
  hb : w.heap.size ≤ base
  hB : B < base
theorem SumAt.same {w : World} {B base g cap n : Nat} {l : List Int} {W W' : World} (h : SumAt w B base g cap n l W) (hf : Fr [] W W') : SumAt w B base g cap n l W' :=
  ⟨h.fr.trans hf, hf.keep h.wd (by simp), h.row.same hf (by simp), Nat.le_trans h.hs hf.size, h.hb, h.hB⟩
theorem SumAt.app {w : World} {B base g cap n g' cap' n' : Nat} {l l' : List Int} {W W' : World} (h : SumAt w B base g cap n l W) (hr : RowB W' base g' cap' n' l') (hf : Fr [g] W W') : SumAt w B base g' cap' n' l' W' := by
  have hg := h.row.ge
  have hB := h.hB
  have hb := h.hb
  exact ⟨h.fr.step hf (fun i hi => .inr (by rw [List.mem_singleton] at hi; omega)), hf.keep h.wd (by simp; omega), hr, Nat.le_trans h.hs hf.size, h.hb, h.hB⟩
def lenV : Value → Nat
  | .slice _ n _ => n
  | _ => 0

/-- Between two rounds. -/
def SmI (W0 : World) (B m : Nat) (L : List Int) (pre : List (Fin m)) (W : World) : Prop :=
  W.heap[B]? = some (.cells (w8C (pre.foldl (fun h (x : Fin m) => addB h (chunkL L x.1)) H0)) 182 (0, 0)) ∧ Fr [B] W0 W

theorem len8_take (m : Int) {j : Nat} (hj : j < 8) : (len8 m).take (j + 1) = (len8 m).take j ++ [m / 2 ^ (8 * (7 - j)) % 256] := by
  have h : j = 0 ∨ j = 1 ∨ j = 2 ∨ j = 3 ∨ j = 4 ∨ j = 5 ∨ j = 6 ∨ j = 7 := by omega
  unfold len8 byteI
  simp only [IntKind.wrap_u8]
  rcases h with rfl | rfl | rfl | rfl | rfl | rfl | rfl | rfl <;> rfl
theorem smI_own (W0 : World) (B m : Nat) (L : List Int) (hB : B < W0.heap.size) : OwnFrom W0.heap.size (SmI W0 B m L) := by
  rintro s X Y row ⟨h1, h2⟩ hg hr
  exact ⟨(hg.block _ (blk_lt h1) (fun e => by have := (hr _ e.symm).1; omega)).trans h1, h2.step (Fr.grown (fp := row.toList) hg (fun k hk => by simp [hk])) (fun i hi => .inr (hr i (by simpa using hi)).1)⟩
theorem RowB.chunk {w : World} {base g cap n k : Nat} {l : List Int} (h : RowB w base g cap n l) (hk : 64 * k + 64 ≤ n) : ByAt w (.slice (some ⟨g, 64 * k, none⟩) 64 64) (chunkL l k) ∧ (chunkL l k).length = 64 := by
  have hl : (chunkL l k).length = 64 := by rw [chunkL, List.length_take, List.length_drop, h.len]; omega
  refine ⟨?_, hl⟩
  unfold ByAt
  rw [hl]
  refine ⟨_, _, rfl, Nat.le_refl _, by omega, fun _ => ⟨g, 64 * k, rfl, fun j u hu => h.cell ?_⟩⟩
  have hj : j < 64 := by
    have := (List.getElem?_eq_some_iff.1 hu).1
    rw [List.length_map, hl] at this; exact this
  rw [List.getElem?_map] at hu ⊢
  rwa [chunkL, List.getElem?_take_of_lt hj, List.getElem?_drop] at hu

set_option maxRecDepth 100000 in
set_option maxHeartbeats 4000000 in
theorem sum_c (s : ByteArray) (hs : s.size ≤ 1000000000000) (w : World) (hR : RndAt w) : Calls Tryz.prog 105 #[.string s] w fun e w' => e = .returned (.string (shaB s)) ∧ Fr [] w w' := by
  have HR := Lib.hid hR
  have hgl : 3 < w.heap.size := by
    obtain ⟨t, fz, h⟩ := hR
    exact blk_lt h
  clear hR
  refine (callsIn_wide (n := 3)).1 (callsIn_of_wp_marks Tryz.func105 rfl trivial ?_ rfl)
  simp only [Tryz.ntmps105, List.size_toArray, List.length_cons, List.length_nil, Nat.reduceAdd, Nat.reduceSub, Array.replicate_succ, Array.replicate_zero, List.push_toArray, List.append_toArray, List.nil_append, List.cons_append]
  refine wpIn_wide.2 ?_
  go_upto_region 2 with fail
  change Code.wp _ _ _ _ (w.alloc (.cells (w8C H0) 182))
  have hA := heap_alloc_new w (.cells (w8C H0) 182)
  have FA := Fr.alloc [] w (.cells (w8C H0) 182)
  have hsz : (w.alloc (.cells (w8C H0) 182)).heap.size = w.heap.size + 1 := by simp
  generalize w.alloc (.cells (w8C H0) 182) = W1 at *
  obtain ⟨B, hB⟩ : ∃ B, B = w.heap.size := ⟨_, rfl⟩
  rw [← hB] at hA ⊢
  have HS1 : Shut (W1.heap.size = B + 1 ∧ B = w.heap.size) := ⟨by omega, hB⟩
  have hBl : w.heap.size ≤ B := by omega
  have hBu : B ≤ w.heap.size := by omega
  have HA := Lib.hid hA; have HF := Lib.hid FA
  clear hA FA hsz hB
  go_wp2_with (first | ((with_reducible refine wpList_of_wp (o := ⟨some 9, _, _, _, _, _⟩) rfl (fun K hK => ?_)); apply stopD; case _other => exact trivial))
  (refine stopD ?_ ?_; rotate_left; exact trivial)
  refine wp_str_bytes (.tmp 8) rfl s rfl (by omega) (B + 1) (Nat.le_of_eq HS1.out.1.symm) ?_
  intro g cap W2 r2 f2
  refine hK _ _ ?_
  clear hK K
  have S2 : SumAt w B (B + 1) g cap s.size (bI s.data.toList) W2 := ⟨HF.out.trans f2, f2.keep HA.out (by simp), r2, Nat.le_trans (Nat.le_of_eq HS1.out.1.symm) f2.size, by omega, by omega⟩
  have HS2 := Lib.hid S2
  clear r2 f2 S2 HA HF
  go_wp2_with (first | ((with_reducible refine wpList_of_wp (o := ⟨some 11, _, _, _, _, _⟩) rfl (fun K hK => ?_)); apply stopD; case _other => exact trivial))
  (refine stopD ?_ ?_; rotate_left; exact trivial)
  have S3 := HS2.out.same (Fr.alloc [] W2 (.cells #[.int .u8 128] 5))
  refine wp_append_b (.tmp 9) (.tmp 10) rfl (B + 1) g cap s.size _ 128 rfl S3.row S3.hs W2.heap.size 1 rfl (cell_of_blk (heap_alloc_new W2 (.cells #[.int .u8 128] 5)) 0) (by omega) ?_
  intro g4 cap4 W4 r4 f4
  refine hK _ _ ?_
  clear hK K
  have HS4 := Lib.hid (S3.app r4 f4)
  clear S3 r4 f4 HS2
  go_wp2_with fail
  go_loopw [4] (fun v wr => ∃ k g cap, k ≤ zN s.size ∧ v = .slice (some ⟨g, 0, none⟩) (s.size + 1 + k) cap ∧ Hid (SumAt w B (B + 1) g cap (s.size + 1 + k) ((bI s.data.toList ++ [128]) ++ List.replicate k 0) wr)) (fun v _ => s.size + 100 - lenV v)
  case atStart => exact ⟨0, g4, cap4, Nat.zero_le _, rfl, by rw [List.replicate_zero, List.append_nil]; exact HS4⟩
  case round =>
    obtain ⟨k, g5, cap5, hk, rfl, H5⟩ := hrel
    have hz : zN s.size < 64 := Nat.mod_lt _ (by omega)
    by_cases hlt : k < zN s.size
    · have hmod : (s.size + 1 + k) % 64 ≠ 56 := by unfold zN at hlt; omega
      go_wp2_with (first | ((with_reducible refine wpList_of_wp (o := ⟨some 18, _, _, _, _, _⟩) rfl (fun K hK => ?_)); apply stopD; case _other => exact trivial))
      (refine stopD ?_ ?_; rotate_left; exact trivial)
      have S6 := H5.out.same (Fr.alloc [] wr (.cells #[.int .u8 0] 5))
      refine wp_append_b (.tmp 16) (.tmp 17) rfl (B + 1) g5 cap5 (s.size + 1 + k) _ 0 rfl S6.row S6.hs wr.heap.size 1 rfl (cell_of_blk (heap_alloc_new wr (.cells #[.int .u8 0] 5)) 0) (by omega) ?_
      intro g6 cap6 W6 r6 f6
      refine hK _ _ ?_
      clear hK K
      have HS6 := Lib.hid (S6.app r6 f6)
      clear S6 r6 f6
      go_wp2_with fail
      go_roundw
      case rel => exact ⟨k + 1, g6, cap6, by omega, rfl, by rw [List.replicate_succ', ← List.append_assoc]; exact HS6⟩
      case measure => simp [lenV]; omega
    · have hm1 : (s.size + 1 + k) % 64 ≤ 56 := by unfold zN at *; omega
      have hm2 : 56 ≤ (s.size + 1 + k) % 64 := by unfold zN at *; omega
      have e1 : (bI s.data.toList ++ [128]) ++ List.replicate k 0 = pad1 (bI s.data.toList) := by
        rw [pad1, bI_len, show k = zN s.size by omega]; rfl
      rw [e1] at H5
      have hbf : (((s.size : Int) + 1 + (k : Int)) % 64 != 56) = false := by
        have : ((s.size : Int) + 1 + (k : Int)) % 64 = 56 := by omega
        rw [this]; rfl
      clear e1
      go_wp2_with fail
      clear hbf
      -- @@2
      go_loopw [4, 5] (fun v i wr => ∃ j g cap, j ≤ 8 ∧ v = .slice (some ⟨g, 0, none⟩) (s.size + 1 + k + j) cap ∧ i = .int .i64 (7 - (j : Int)) ∧ Hid (SumAt w B (B + 1) g cap (s.size + 1 + k + j) (pad1 (bI s.data.toList) ++ (len8 (8 * (s.size : Int))).take j) wr)) (fun _ i _ => (RowKit.intOf i + 1).toNat)
      case atStart => exact ⟨0, g5, cap5, Nat.zero_le _, rfl, rfl, by rw [List.take_zero, List.append_nil]; exact H5⟩
      case round =>
        obtain ⟨j, g7, cap7, hj, rfl, rfl, H7⟩ := hrel
        by_cases hj8 : j < 8
        · have hm : min (8 * (7 - (j : Int))).toNat 64 = 56 - 8 * j := by omega
          go_wp2_with (first | ((with_reducible refine wpList_of_wp (o := ⟨some 32, _, _, _, _, _⟩) rfl (fun K hK => ?_)); apply stopD; case _other => exact trivial))
          (refine stopD ?_ ?_; rotate_left; exact trivial)
          have S8 := H7.out.same (Fr.alloc [] wr (.cells #[.int .u8 (8 * (s.size : Int) / 2 ^ (8 * (7 - j)) % 256)] 5))
          refine wp_append_b (.tmp 23) (.tmp 31) rfl (B + 1) g7 cap7 (s.size + 1 + k + j) _ (8 * (s.size : Int) / 2 ^ (8 * (7 - j)) % 256) rfl S8.row S8.hs wr.heap.size 1 rfl (cell_of_blk (heap_alloc_new wr (.cells #[.int .u8 (8 * (s.size : Int) / 2 ^ (8 * (7 - j)) % 256)] 5)) 0) (by omega) ?_
          intro g8 cap8 W8 r8 f8
          refine hK _ _ ?_
          clear hK K hm
          rw [List.append_assoc, ← len8_take _ hj8] at r8
          have HS8 := Lib.hid (S8.app r8 f8)
          clear S8 r8 f8
          go_wp2_with fail
          go_roundw
          case rel => exact ⟨j + 1, g8, cap8, by omega, rfl, congrArg (Value.int .i64) (by omega), HS8⟩
          case measure => simp [RowKit.intOf]; omega
        · have e2 : pad1 (bI s.data.toList) ++ (len8 (8 * (s.size : Int))).take j = padL (bI s.data.toList) := by
            rw [List.take_of_length_le (by simp [len8]; omega), padL, bI_len]; rfl
          rw [e2] at H7
          have hpl := H7.out.row.len
          obtain ⟨n', hn'⟩ : ∃ n', s.size + 1 + k + j = n' := ⟨_, rfl⟩
          have h64 : n' ≤ 64 * (n' / 64) := by omega
          have h65 : 64 * (n' / 64) ≤ n' := by omega
          have hj9 : ¬ (0 ≤ 7 - (j : Int)) := by omega
          have hnb : n' ≤ 140737488355328 := by omega
          obtain ⟨m, hm⟩ : ∃ m, n' / 64 = m := ⟨_, rfl⟩
          rw [hn'] at H7 hpl ⊢
          rw [hm] at h64 h65
          have HM : Shut (shaB s = digB (blocks (padL (bI s.data.toList)) H0 m)) := ⟨by unfold shaB shaL digB; rw [hpl, hm]⟩
          generalize padL (bI s.data.toList) = PL at *
          clear hn' hm e2 hpl hm1 hm2 H5 HS4
          go_wp2_with fail
          refine (chunk_c _ _ _ _).mono ?_
          rintro e W8 ⟨rfl, hW8⟩
          have FY : Fr [] wr W8 := by rw [hW8]; exact (Fr.alloc _ _ _).trans (Fr.alloc _ _ _)
          have hx8 : W8.heap[wr.heap.size]? = some (.cells #[.slice (some ⟨g7, 0, none⟩) n' cap7] 39 (0, 0)) := by rw [hW8]; exact heap_alloc_old _ (heap_alloc_new _ _)
          have hn8 : W8.heap[wr.heap.size + 1]? = some (.cells #[.int .i64 64] 3 (0, 0)) := by
            rw [hW8]
            have := heap_alloc_new (wr.alloc (.cells #[.slice (some ⟨g7, 0, none⟩) n' cap7] 39)) (.cells #[.int .i64 64] 3)
            simpa using this
          have hBq : B < wr.heap.size := by have := H7.out.hs; omega
          have H8 := Lib.hid (H7.out.same FY)
          have hB8 : B < W8.heap.size := Nat.lt_of_lt_of_le hBq FY.size
          have HX8 := Lib.hid hx8; have HN8 := Lib.hid hn8
          clear hW8 FY hx8 hn8 H7
          go_wp2_with fail
          refine (wpIn_wide (n := 3)).1 ?_
          apply wpIn_rangeFunc_ownG (F := Fence.wide) (n := 3) rfl (by omega) (gf := 135) (lb := #[.pointer (some ⟨wr.heap.size, 0, none⟩), .pointer (some ⟨wr.heap.size + 1, 0, none⟩)]) rfl trivial (fun _ _ => rfl)
            (chunk_seq g7 cap7 m n' wr.heap.size (wr.heap.size + 1) W8 B HX8.out HN8.out (by omega) (by omega) h64 h65 H8.out.row.le H8.out.row.max hnb) KpO.trans (fun W l o o' hl h _ _ => KpO.put W l o o' hl h) (Below.refl _ _) (fun _ => rfl)
            (SmI W8 B m PL) (fun _ _ _ => False) (smI_own W8 B m PL hB8) (fun _ _ _ _ _ h _ _ => h) ⟨H8.out.wd, Fr.refl _ _⟩
          -- @@3
          case hassign =>
            intro l x W K hK
            gi_wp2
            exact hK
          case hbody =>
            rintro l pre x W ⟨h1, hF⟩ hlt
            have CA := addW_c B _ _ _ W h1 (H8.out.row.same hF (by simp; have := H8.out.row.ge; omega) |>.chunk (k := x.1) (by have := x.2; omega)).1 (H8.out.row.chunk (k := x.1) (by have := x.2; omega)).2 ((HR.out.same H8.out.fr (by simp)).same hF (by simp; omega)) (by omega)
            have HCA := Lib.hid CA
            clear CA h1
            gi_wp2
            refine ⟨trivial, ?_⟩
            refine CallsIn.inRound l (callsIn_wide.2 (HCA.out.mono ?_))
            rintro e W' ⟨rfl, f1, h2⟩
            have HN : Hid (KeepsFrom W8.heap.size W W' ∧ KpO W8.heap.size B W W' ∧ SmI W8 B m PL (pre ++ [x]) W') := Lib.hid ⟨keepsFromO f1 hB8, KpO.of f1 hF.size, by rw [List.foldl_append]; exact h2, hF.trans f1⟩
            clear f1 h2 hF HCA
            gi_wp2
            exact HN.out
          case hdone =>
            rintro D ys W hD hS ⟨h1, hF⟩ hK
            have hS' : ys = List.finRange m := hS
            subst hS'
            rw [fold_all] at h1
            generalize blocks PL H0 m = v at *
            have d0 : W.cell? ⟨B, 0, none⟩ = some (.int .u32 v.a) := cell_of_blk h1 0
            have d1 : W.cell? ⟨B, 1, none⟩ = some (.int .u32 v.b) := cell_of_blk h1 1
            have d2 : W.cell? ⟨B, 2, none⟩ = some (.int .u32 v.c) := cell_of_blk h1 2
            have d3 : W.cell? ⟨B, 3, none⟩ = some (.int .u32 v.d) := cell_of_blk h1 3
            have d4 : W.cell? ⟨B, 4, none⟩ = some (.int .u32 v.e) := cell_of_blk h1 4
            have d5 : W.cell? ⟨B, 5, none⟩ = some (.int .u32 v.f) := cell_of_blk h1 5
            have d6 : W.cell? ⟨B, 6, none⟩ = some (.int .u32 v.g) := cell_of_blk h1 6
            have d7 : W.cell? ⟨B, 7, none⟩ = some (.int .u32 v.h) := cell_of_blk h1 7
            have hwD : w.heap.size ≤ D := Nat.le_trans H8.out.fr.size hD
            have HFW := Lib.hid (H8.out.fr.step hF (fun i hi => .inr (by rw [List.mem_singleton] at hi; omega)))
            have HKE := Lib.hid hK
            clear h1 hF hK hS
            go_wp2_with fail
            refine (digest_c v W).mono ?_
            rintro e W9 ⟨rfl, f9⟩
            have hK9 := f9.keep HKE.out (by simp)
            have FQ := (HFW.out.trans f9).step (Fr.grown (fp := [D]) (grownBy_putObj' W9 D (.deferred none)) (fun k hk => by cases hk; simp)) (fun i hi => .inr (by rw [List.mem_singleton] at hi; omega))
            have HQ := Lib.hid FQ; have HK9 := Lib.hid hK9
            clear d0 d1 d2 d3 d4 d5 d6 d7 f9 hK9 FQ
            go_wp2_with fail
            refine ⟨by simp, .inl ⟨_, _, rfl, run_takeDeferred HK9.out, ?_⟩⟩
            exact ⟨_, results_tmp rfl _ _ _, by rw [HM.out]; rfl, HQ.out⟩
          case hstop =>
            rintro D c pre W _ _ h _
            exact h.elim

end Go.Proofs.YtbogljpafpkikaaGreatDoor
