/-
  The reference's attestations: one more hand.
-/
import Derived.Test.YtahfpadaoobkfaaGreatDoorQAtZ
import Derived.Test.YtahfpadaoobkfaaGreatDoorQS24
import Derived.Test.YtahfpadaoobkfaaGreatDoorQAT
import Derived.Test.YtahfpadaoobkfaaGreatDoorQS26
namespace Go.Proofs.YtahfpadaoobkfaaGreatDoor
open Go.RowKit Go.Lib

/-- append to an empty slice that has no room: no block changes. -/
theorem wp_append_freshW {P : Program} {w : World} {o : Oper} {a : Act} {K : Act → World → Prop} {Q : Exit → Act → World → Prop} (s x : Operand) (t e : TypeId) (z : Value) (size bytes : Nat)
    (ho : o.op = .call { callee := .builtin .append, args := #[s, x], argTypes := #[t, t] }) (ht : P.underlying t = some (.slice e)) (hinfo : (P.info? e).map (fun i => (i.zero, i.size, i.bytes)) = some (some z, size, bytes)) (hzs : z.cells.size = size) (hsz : 0 < size)
    (g : Nat) (hs : a.eval s = .slice (some ⟨g, 0, none⟩) 0 0) (hg : w.heap[g]? = some (.cells #[] e (0, 0)))
    (sv : Value) (m : Nat) (news : List Value) (hx : a.eval x = sv) (hsrc : SrcAt w sv m news) (hl : news.length = m * size) (h1 : ∀ u, u ∈ news → u.oneCell' = true)
    (h63 : m ≤ 9223372036854775807) (hbytes : m * bytes ≤ 140737488355328)
    (h : ∀ v' w', w'.ownsRow 0 e size v' m news → Fr [] w w' → (∀ b, v'.ownBlock = some b → b = g ∨ w.heap.size ≤ b) → K (a.put o.dst v') w') : o.wp P a w K Q := by
  obtain ⟨i, hi, hz0, hz1, hz2⟩ := info_parts hinfo
  have hown : w.ownsRow 0 e size (.slice (some ⟨g, 0, none⟩) 0 0) 0 [] := ⟨by simp, .inr ⟨g, 0, #[], rfl, Nat.zero_le _, hg, Nat.le_refl _, Nat.zero_le _, by simp, by simp⟩⟩
  have key : ∃ v' w', (Builtin.append_ #[t, t] o.type #[.slice (some ⟨g, 0, none⟩) 0 0, sv]).run P w = .ok v' w' ∧ w'.ownsRow 0 e size v' m news ∧ Fr [] w w' ∧ (∀ b, v'.ownBlock = some b → b = g ∨ w.heap.size ≤ b) := by
    rcases hsrc.form with ⟨rfl, rfl, rfl⟩ | ⟨ad, c, rfl, hc⟩
    · exact ⟨_, w, run_append_owned_none (P := P) (w := w) 0 t o.type e i size ht hi _ 0 [] hown, hown, Fr.refl _ _, fun b hb => .inl (by cases hb; rfl)⟩
    · by_cases hm : m = 0
      · subst hm
        have hn : news = [] := List.eq_nil_of_length_eq_zero (by simpa using hl)
        subst hn
        have hr := run_append_room_cells (P := P) w t o.type e i ht hi g 0 0 0 ad 0 c [] (by simp) (by simp) (by simp) (by omega) (by simp) (by simp)
        exact ⟨_, w, hr, hown, Fr.refl _ _, fun b hb => .inl (by cases hb; rfl)⟩
      · obtain ⟨v', w', hrun, r1, r2⟩ := run_append_arg_grows (P := P) w t o.type e i z size bytes ht hi hz0 hz1 hz2 hzs hsz ⟨g, 0, none⟩ 0 0 [] (by simp) (by simp) ad m c news hl hc (by omega) (by rw [Nat.zero_add]; exact h63) (by rw [Nat.zero_add]; exact hbytes)
        simp only [Nat.zero_add, List.nil_append] at r1
        refine ⟨v', w', hrun, row_base r1, Fr.grown r2 fun k hk => (by cases hk), fun b hb => .inr ?_⟩
        rcases r1.2 with ⟨rfl, _⟩ | ⟨g', _, _, rfl, hbg, _⟩
        · cases hb
        · cases hb; exact hbg
  obtain ⟨v', w', hr, h2, h3, h4⟩ := key
  unfold Oper.wp execOp
  simp only [ho, resolve, invoke, builtin, Sem.run_bind, Sem.run_pure, Result.andThen_ok, List.map_toArray, List.map_cons, List.map_nil, hs, hx, hr]
  exact h v' w' h2 h3 h4

theorem row_blkH {w : World} {g cap n : Nat} {v : Value} {xs : List Value} (h : w.ownsRow 0 60 3 v n xs) (hv : v = .slice (some ⟨g, 0, none⟩) n cap) : ∃ cur, w.heap[g]? = some (.cells cur 60 (0, 0)) ∧ n * 3 ≤ cur.size := by
  subst hv
  rcases h.2 with ⟨h0, _⟩ | ⟨g', cap', cur, hv, _, hg, hc, _, hz, _⟩
  · cases h0
  · simp only [Value.slice.injEq, Option.some.injEq, Addr.mk.injEq] at hv
    obtain ⟨⟨rfl, _⟩, _, rfl⟩ := hv
    exact ⟨cur, hg, by rw [hz]; exact Nat.mul_le_mul_right 3 hc⟩
theorem set5 {w : World} {b : Nat} {e : TypeId} {a0 a1 a2 a3 a4 : Value} (h : w.heap[b]? = some (.cells #[a0, a1, a2, a3, a4] e (0, 0))) (u0 u1 u2 u3 u4 : Value) :
    (((((w.setCell ⟨b, 0, none⟩ u0).setCell ⟨b, 1, none⟩ u1).setCell ⟨b, 2, none⟩ u2).setCell ⟨b, 3, none⟩ u3).setCell ⟨b, 4, none⟩ u4).heap[b]? = some (.cells #[u0, u1, u2, u3, u4] e (0, 0)) ∧ Fr [b] w (((((w.setCell ⟨b, 0, none⟩ u0).setCell ⟨b, 1, none⟩ u1).setCell ⟨b, 2, none⟩ u2).setCell ⟨b, 3, none⟩ u3).setCell ⟨b, 4, none⟩ u4) :=
  ⟨heap_setCell_same (i := 4) _ (heap_setCell_same (i := 3) _ (heap_setCell_same (i := 2) _ (heap_setCell_same (i := 1) _ (heap_setCell_same (i := 0) _ h)))), ((((Fr.setCell _ _ (by simp)).trans (Fr.setCell _ _ (by simp))).trans (Fr.setCell _ _ (by simp))).trans (Fr.setCell _ _ (by simp))).trans (Fr.setCell _ _ (by simp))⟩

def zs32 : ByteArray := str (List.replicate 32 0)
theorem zs32_size : zs32.size = 32 := by rw [zs32, str_size, List.length_replicate]
abbrev nuH (c lev : Int) : Hd := ⟨c, lev, zs32⟩
/-- What the region's operations have made. -/
def WiP (N : Nat) (d : Dl) (l : List Hd) (c lev : Int) (i : Nat) (v : Value) (W : World) : Prop := match i with
  | 2 => ∃ g, v = .slice (some ⟨g, 0, none⟩) 0 0 ∧ W.heap[g]? = some (.cells #[] 60 (0, 0)) ∧ N ≤ g
  | 5 => W.ownsRow 0 60 3 v l.length (l.flatMap hdC) ∧ ∀ g, v.ownBlock = some g → N ≤ g
  | 8 => ∃ g, v = .slice (some ⟨g, 0, none⟩) 32 32 ∧ W.heap[g]? = some (.cells (byteCells (List.replicate 32 0)).toArray 5 (0, 0)) ∧ N ≤ g
  | 9 => v = .string zs32
  | 10 => v = .agg #[.int .i64 c, .int .i64 lev, .string zs32]
  | 11 => ∃ g, v = .slice (some ⟨g, 0, none⟩) 1 1 ∧ W.heap[g]? = some (.cells #[.int .i64 c, .int .i64 lev, .string zs32] 60 (0, 0)) ∧ N ≤ g
  | 12 => W.ownsRow 0 60 3 v (l.length + 1) ((l ++ [nuH c lev]).flatMap hdC) ∧ ∀ g, v.ownBlock = some g → N ≤ g
  | 13 => ∃ u, v = atV d u ∧ W.ownsRow 0 60 3 u (l.length + 1) ((l ++ [nuH c lev]).flatMap hdC) ∧ ∀ g, u.ownBlock = some g → N ≤ g
  | 14 => ∃ g, v = .pointer (some ⟨g, 0, none⟩) ∧ W.heap[g]? = some (.cells #[.int .i64 0, .int .i64 0, .int .i64 0, .int .i64 0, .slice none 0 0] 44 (0, 0)) ∧ N ≤ g
  | _ => True
theorem WiP.same {N : Nat} {d : Dl} {l : List Hd} {c lev : Int} {W W' : World} (hf : Fr [] W W') : ∀ (j : Nat) (u : Value), WiP N d l c lev j u W → WiP N d l c lev j u W' := by
  intro j u h
  unfold WiP at h ⊢
  split at h
  · obtain ⟨g, h1, h2, h3⟩ := h; exact ⟨g, h1, hf.keep h2 (by simp), h3⟩
  · exact ⟨row_fr h.1 hf (by simp), h.2⟩
  · obtain ⟨g, h1, h2, h3⟩ := h; exact ⟨g, h1, hf.keep h2 (by simp), h3⟩
  · exact h
  · exact h
  · obtain ⟨g, h1, h2, h3⟩ := h; exact ⟨g, h1, hf.keep h2 (by simp), h3⟩
  · exact ⟨row_fr h.1 hf (by simp), h.2⟩
  · obtain ⟨u, h1, h2, h3⟩ := h; exact ⟨u, h1, row_fr h2 hf (by simp), h3⟩
  · obtain ⟨g, h1, h2, h3⟩ := h; exact ⟨g, h1, hf.keep h2 (by simp), h3⟩
  · trivial
/-- Under the second append. -/
theorem WiP.app {N : Nat} {d : Dl} {l : List Hd} {c lev : Int} {W W' : World} {v : Value} (h5 : W.ownsRow 0 60 3 v l.length (l.flatMap hdC)) (hf : Fr v.ownBlock.toList W W') : ∀ (j : Nat) (u : Value), j ≠ 12 → (j, 12) ∉ [(2, 5), (2, 12), (5, 12), (8, 9), (11, 12)] → (j, 12) ∉ [(13, 12)] → WiP N d l c lev j u W → WiP N d l c lev j u W' := by
  intro j u h1 h2 h3 h
  have hb : ∀ {g : Nat} {cs : Array Value} {fz : Nat × Nat} {e : TypeId}, W.heap[g]? = some (.cells cs e fz) → 60 ≠ e → g ∉ v.ownBlock.toList := fun hg he hm => row_box h5 hg he (by simpa using hm)
  unfold WiP at h ⊢
  split at h
  · exact absurd (by simp) h2
  · exact absurd (by simp) h2
  · obtain ⟨g, h1, h2, h3⟩ := h; exact ⟨g, h1, hf.keep h2 (hb h2 (by decide)), h3⟩
  · exact h
  · exact h
  · exact absurd (by simp) h2
  · exact absurd rfl h1
  · exact absurd (by simp) h3
  · obtain ⟨g, h1, h2, h3⟩ := h; exact ⟨g, h1, hf.keep h2 (hb h2 (by decide)), h3⟩
  · trivial

set_option maxRecDepth 100000 in
set_option maxHeartbeats 8000000 in
theorem with25_c (key : ByteArray) (d : Dl) (v : Value) (l : List Hd) (c lev : Int) (w : World) (hk : key.size = 32) (hsrc : SrcAt w v l.length (l.flatMap hdC)) (hf : fmB ⟨d, l ++ [nuH c lev]⟩ = true) :
    Calls Tryz.prog 70 #[.string key, atV d v, .int .i64 c, .int .i64 lev] w fun e w' => ∃ v' s, e = .returned (.tuple #[atV d v', .int .i64 0]) ∧ s.size = 32 ∧ HdY w w' v' (l ++ [⟨c, lev, s⟩]) := by
  have hmk : ∀ w : World, (Instr.makeSlice 160 (.int .i64 32) (.int .i64 32)).run Tryz.prog w = .ok (.slice (some ⟨w.heap.size, 0, none⟩) 32 32) (w.alloc (.cells (madeCells #[Value.int .u8 0] 32) 5)) := fun w => run_make_row' (P := Tryz.prog) 160 5 (.int .u8 0) 1 Tryz.underlying160 infoBy rfl .i64 .i64 32 (by omega) (by omega) w
  rw [made_bytes] at hmk
  obtain ⟨hdl, hln, hgo⟩ := fmB_parts hf
  simp only [List.length_append, List.length_cons, List.length_nil] at hln hdl hgo
  have hl7 : l.length ≤ 7 := by omega
  have HF := Lib.hid hf; have HD := Lib.hid hdl; have HG := Lib.hid hgo
  have HS := Lib.hid hsrc
  have HK := Lib.hid hk
  have hv : ∃ a cap, v = .slice a l.length cap := by
    rcases hsrc.form with ⟨rfl, h2, _⟩ | ⟨ad, c, rfl, _⟩
    · exact ⟨none, 0, by rw [h2]⟩
    · exact ⟨_, _, rfl⟩
  obtain ⟨va, vc, rfl⟩ := hv
  obtain ⟨d0, d1, d2, d3⟩ := d
  have hk2 : ((key.size : Int) != 32) = false := by rw [hk]; rfl
  clear hk hf hdl hgo hsrc hln
  go_enter Tryz.func70, Tryz.ntmps70
  go_wp2_with fail
  -- @@A
  have A2 := alloc2' w (.cells #[.int .i64 d0, .int .i64 d1, .int .i64 d2, .int .i64 d3, .slice va l.length vc] 44) (.cells #[.int .i64 0, .int .i64 0, .int .i64 0, .int .i64 0, .slice none 0 0] 44)
  have F2 := (Fr.alloc [] w (.cells #[.int .i64 d0, .int .i64 d1, .int .i64 d2, .int .i64 d3, .slice va l.length vc] 44)).trans (Fr.alloc [] _ (.cells #[.int .i64 0, .int .i64 0, .int .i64 0, .int .i64 0, .slice none 0 0] 44))
  have hz2 : ((w.alloc (.cells #[.int .i64 d0, .int .i64 d1, .int .i64 d2, .int .i64 d3, .slice va l.length vc] 44)).alloc (.cells #[.int .i64 0, .int .i64 0, .int .i64 0, .int .i64 0, .slice none 0 0] 44)).heap.size = w.heap.size + 2 := by simp
  generalize (w.alloc (.cells #[.int .i64 d0, .int .i64 d1, .int .i64 d2, .int .i64 d3, .slice va l.length vc] 44)).alloc (.cells #[.int .i64 0, .int .i64 0, .int .i64 0, .int .i64 0, .slice none 0 0] 44) = W0 at *
  have HZ := Lib.hid hz2
  have S0 : W0.drew.heap[w.heap.size]? = some (.cells #[.int .i64 d0, .int .i64 d1, .int .i64 d2, .int .i64 d3, .slice va l.length vc] 44 (0, 0)) ∧ W0.drew.heap[w.heap.size + 1]? = some (.cells #[.int .i64 0, .int .i64 0, .int .i64 0, .int .i64 0, .slice none 0 0] 44 (0, 0)) ∧ Fr [] W0 W0.drew := ⟨(Fr.drew [] W0).keep A2.1 (by simp), (Fr.drew [] W0).keep A2.2 (by simp), Fr.drew _ _⟩
  have HF2 := Lib.hid F2
  clear A2 F2 hz2
  refine reg_invC (C := [(2, 5), (2, 12), (5, 12), (8, 9), (11, 12)]) (B := [(13, 12)]) (fun W => W.heap[w.heap.size]? = some (.cells #[.int .i64 d0, .int .i64 d1, .int .i64 d2, .int .i64 d3, .slice va l.length vc] 44 (0, 0)) ∧ W.heap[w.heap.size + 1]? = some (.cells #[.int .i64 0, .int .i64 0, .int .i64 0, .int .i64 0, .slice none 0 0] 44 (0, 0)) ∧ Fr [] W0 W) 15 [0, 1, 3, 4, 6, 7] [(2, []), (5, [2]), (8, []), (9, [8]), (10, [9]), (11, [10]), (12, [5, 11]), (13, [12]), (14, [])] (by kernel_rfl) (by kernel_rfl) (by kernel_rfl) (by kernel_rfl) (by kernel_rfl) ?_
  iterate 6 (refine tk_take (v := ?_) rfl rfl rfl S0 (fun w hS => ?_) ?_; rotate_left; (focus (have s0 := cell_of_blk hS.1 0; have s1 := cell_of_blk hS.1 1; have s2 := cell_of_blk hS.1 2; have s3 := cell_of_blk hS.1 3; have s4 := cell_of_blk hS.1 4; go_simp; rfl)); simp only [List.setIfInBounds_toArray, List.set_cons_succ, List.set_cons_zero])
  have hN : ∀ W : World, Fr [] W0 W → w.heap.size + 2 ≤ W.heap.size := fun W h => by have := h.size; have := HZ.out; omega
  refine invC_start [(2, 14), (5, 17), (8, 20), (9, 21), (10, 22), (11, 23), (12, 24), (13, 25), (14, 10)] (WiP (w.heap.size + 2) ⟨d0, d1, d2, d3⟩ l c lev) (by decide) S0 ⟨fun g W hS hD => ?_, fun g W hS hD => ?_, fun g W hS hD => ?_, fun g W hS hD => ?_, fun g W hS hD => ?_, fun g W hS hD => ?_, fun g W hS hD => ?_, fun g W hS hD => ?_, fun g W hS hD => ?_, trivial⟩ (fun g W hS hD => ?_)
  · refine invC_op rfl rfl (fun K hK => ?_)
    simp only [putG, putT, List.setIfInBounds_toArray, List.set_cons_succ, List.set_cons_zero] at hK ⊢
    have fa := Fr.alloc [] W (.cells #[] 60)
    have hn := hN W hS.2.2
    go_simp
    exact hK _ _ ⟨fa.keep hS.1 (by simp), fa.keep hS.2.1 (by simp), hS.2.2.trans fa⟩ ⟨_, rfl, heap_alloc_new _ _, hn⟩ (fun j u _ _ _ h => h.same fa)
  · obtain ⟨g2, e2, h2, n2⟩ := hD 2 (by simp)
    refine invC_op rfl rfl (fun K hK => ?_)
    simp only [putG, putT, List.setIfInBounds_toArray, List.set_cons_succ, List.set_cons_zero] at hK ⊢
    refine wp_append_freshW (.tmp 14) (.tmp 16) 42 60 _ 3 32 rfl Tryz.underlying42 infoHdT rfl (by decide) g2 e2 h2 _ l.length _ rfl (HS.out.same (HF2.out.trans hS.2.2)) (by rw [flat_len (enc := hdC) (k := 3) hdC_len]) (hds_one l) (by omega) (by omega) ?_
    intro v' w' r1 f1 b1
    have hn := hN W hS.2.2
    exact hK v' w' ⟨f1.keep hS.1 (by simp), f1.keep hS.2.1 (by simp), hS.2.2.trans f1⟩ ⟨r1, fun b hb => by
      rcases b1 b hb with rfl | hb
      · exact n2
      · omega⟩ (fun j u _ _ _ h => h.same f1)
  · refine invC_op rfl rfl (fun K hK => ?_)
    simp only [putG, putT, List.setIfInBounds_toArray, List.set_cons_succ, List.set_cons_zero] at hK ⊢
    have fa := Fr.alloc [] W (.cells (byteCells (List.replicate 32 0)).toArray 5)
    have hn := hN W hS.2.2
    go_simp
    exact hK _ _ ⟨fa.keep hS.1 (by simp), fa.keep hS.2.1 (by simp), hS.2.2.trans fa⟩ ⟨_, rfl, heap_alloc_new _ _, hn⟩ (fun j u _ _ _ h => h.same fa)
  · obtain ⟨g8, e8, h8, n8⟩ := hD 8 (by simp)
    refine invC_op rfl rfl (fun K hK => ?_)
    simp only [putG, putT, List.setIfInBounds_toArray, List.set_cons_succ, List.set_cons_zero] at hK ⊢
    have sb := sl_bytesT (n := 32) h8 (by simp) (by omega)
    refine wp_sl_str (.tmp 20) rfl _ 32 32 (List.replicate 32 0) e8 sb (by omega) (by simp) ?_
    exact hK _ _ hS rfl (fun j u _ _ _ h => h)
  · have e9 : g 9 = .string zs32 := hD 9 (by simp)
    refine invC_op rfl rfl (fun K hK => ?_)
    simp only [putG, putT, List.setIfInBounds_toArray, List.set_cons_succ, List.set_cons_zero] at hK ⊢
    simp only [upG, Nat.reduceEqDiff, if_false, if_true] at hK
    rw [e9] at hK ⊢
    go_simp
    exact hK _ _ hS rfl (fun j u _ _ _ h => h)
  · have e10 : g 10 = .agg #[.int .i64 c, .int .i64 lev, .string zs32] := hD 10 (by simp)
    refine invC_op rfl rfl (fun K hK => ?_)
    simp only [putG, putT, List.setIfInBounds_toArray, List.set_cons_succ, List.set_cons_zero] at hK ⊢
    simp only [upG, Nat.reduceEqDiff, if_false, if_true] at hK
    rw [e10] at hK ⊢
    have fa := Fr.alloc [] W (.cells #[.int .i64 c, .int .i64 lev, .string zs32] 60)
    have hn := hN W hS.2.2
    go_simp
    exact hK _ _ ⟨fa.keep hS.1 (by simp), fa.keep hS.2.1 (by simp), hS.2.2.trans fa⟩ ⟨_, rfl, heap_alloc_new _ _, hn⟩ (fun j u _ _ _ h => h.same fa)
  · obtain ⟨r5, n5⟩ := hD 5 (by simp)
    obtain ⟨g11, e11, h11, n11⟩ := hD 11 (by simp)
    refine invC_op rfl rfl (fun K hK => ?_)
    simp only [putG, putT, List.setIfInBounds_toArray, List.set_cons_succ, List.set_cons_zero] at hK ⊢
    have hn := hN W hS.2.2
    have hY : HdY W0 W (g 5) l := ⟨r5, fun b hb => by have := n5 b hb; have := HZ.out; omega, hS.2.2⟩
    have hsz := HZ.out
    refine wp_hd_app (.tmp 17) (.tmp 23) rfl (g 5) l _ [nuH c lev] rfl e11 hY ⟨.inr ⟨_, 1, rfl, fun j u hu => by rw [add_at, cell_of_blk h11]; simpa [hdC] using hu⟩⟩ (by simp; omega) ?_
    intro v' w' hY' f1 b1
    have hq : ∀ {b : Nat} {cs : Array Value}, W.heap[b]? = some (.cells cs 44 (0, 0)) → w'.heap[b]? = some (.cells cs 44 (0, 0)) := fun hb => f1.keep hb (fun hm => row_box r5 hb (by decide) (by simpa using hm))
    refine hK v' w' ⟨hq hS.1, hq hS.2.1, hY'.fr⟩ ⟨by simpa using hY'.row, fun b hb => by have := hY'.young b hb; omega⟩ (WiP.app r5 f1)
  · have h12 := hD 12 (by simp)
    refine invC_op rfl rfl (fun K hK => ?_)
    simp only [putG, putT, List.setIfInBounds_toArray, List.set_cons_succ, List.set_cons_zero] at hK ⊢
    simp only [upG, Nat.reduceEqDiff, if_false, if_true] at hK
    clear hD
    generalize g 12 = x12 at *
    obtain ⟨a12, p12, rfl⟩ := (sl_of_row h12.1).val
    go_simp
    exact hK _ _ hS ⟨_, rfl, h12⟩ (fun j u _ _ _ h => h)
  · refine invC_op rfl rfl (fun K hK => ?_)
    simp only [putG, putT, List.setIfInBounds_toArray, List.set_cons_succ, List.set_cons_zero] at hK ⊢
    have fa := Fr.alloc [] W (.cells #[.int .i64 0, .int .i64 0, .int .i64 0, .int .i64 0, .slice none 0 0] 44)
    have hn := hN W hS.2.2
    go_simp
    exact hK _ _ ⟨fa.keep hS.1 (by simp), fa.keep hS.2.1 (by simp), hS.2.2.trans fa⟩ ⟨_, rfl, heap_alloc_new _ _, hn⟩ (fun j u _ _ _ h => h.same fa)
  · obtain ⟨u, e13, r12, n12⟩ := hD (13, [12]) (by simp) (by simp)
    obtain ⟨B, e14, hB, nB⟩ := hD (14, []) (by simp) (by simp)
    simp only at e13 e14
    refine inv_fin rfl rfl (fun K hK => ?_)
    simp only [putG, putT, List.setIfInBounds_toArray, List.set_cons_succ, List.set_cons_zero] at hK ⊢
    rw [e13, e14]
    obtain ⟨au, pu, rfl⟩ := (sl_of_row r12).val
    have t0 := cell_of_blk hB 0; have t1 := cell_of_blk hB 1; have t2 := cell_of_blk hB 2; have t3 := cell_of_blk hB 3; have t4 := cell_of_blk hB 4
    have u0 := free_of_blk hB 0; have u1 := free_of_blk hB 1; have u2 := free_of_blk hB 2; have u3 := free_of_blk hB 3; have u4 := free_of_blk hB 4
    go_simp
    try go_upon
    try go_simp
    obtain ⟨KS, FS⟩ := set5 hB (.int .i64 d0) (.int .i64 d1) (.int .i64 d2) (.int .i64 d3) (.slice au (l.length + 1) pu)
    refine hK _ _ ?_
    clear hK K t0 t1 t2 t3 t4 u0 u1 u2 u3 u4 hD S0
    refine noPanic_nmZ ?_
    obtain ⟨gq, hau⟩ : ∃ gq, au = some ⟨gq, 0, none⟩ := by
      rcases r12.2 with ⟨h0, _⟩ | ⟨gq, _, _, hv, _⟩
      · cases h0
      · cases hv; exact ⟨gq, rfl⟩
    subst hau
    have ngq := n12 gq rfl
    have hBq : B ≠ gq := fun e => row_box r12 hB (by decide) (by rw [e]; rfl)
    have hsz := HZ.out
    have FW2 := hS.2.2.step FS (fun i hi => .inr (by simp at hi; omega))
    have r2 := row_fr r12 FS (fun b hb hm => by rw [List.mem_singleton] at hm; subst hm; exact row_box r12 hB (by decide) hb)
    have Z2 := FS.keep hS.2.1 (by simp; omega)
    obtain ⟨L, hL⟩ : ∃ L, L = l ++ [nuH c lev] := ⟨_, rfl⟩
    have hLl : L.length = l.length + 1 := by rw [hL]; simp
    have hLm : L[l.length]'(by omega) = nuH c lev := by subst hL; simp
    have HL := Lib.hid hL
    rw [← hL] at r2
    obtain ⟨m, hm⟩ : ∃ m, m = l.length := ⟨_, rfl⟩
    have HML := Lib.hid hm
    have HFL := HF.out
    have HGL := HG.out
    rw [← hL] at HFL HGL
    rw [← hm] at r2 KS Z2 FW2 hLl ⊢
    simp only [← hm] at hLm FS
    have HY : Hid (HdY W0 _ (.slice (some ⟨gq, 0, none⟩) (m + 1) pu) L) := Lib.hid ⟨by rw [hLl]; exact r2, fun b hb => by cases hb; show _ ≤ gq; omega, FW2⟩
    have CF := Lib.hid (formed25_c ⟨d0, d1, d2, d3⟩ (.slice (some ⟨gq, 0, none⟩) (m + 1) pu) L _ HY.out.at_ HFL)
    generalize (((((W.setCell ⟨B, 0, none⟩ (.int .i64 d0)).setCell ⟨B, 1, none⟩ (.int .i64 d1)).setCell ⟨B, 2, none⟩ (.int .i64 d2)).setCell ⟨B, 3, none⟩ (.int .i64 d3)).setCell ⟨B, 4, none⟩ (.slice (some ⟨gq, 0, none⟩) (m + 1) pu)) = V at *
    have b0 := cell_of_blk KS 0; have b1 := cell_of_blk KS 1; have b2 := cell_of_blk KS 2; have b3 := cell_of_blk KS 3; have b4 := cell_of_blk KS 4
    obtain ⟨bf, hbf⟩ : ∃ bf, bf = if m = 0 then ByteArray.empty else (L.getD (m - 1) default).sig := ⟨_, rfl⟩
    have hbz : bf.size ≤ 1000 := by
      rw [hbf]
      split
      · decide
      · have hm1 : m - 1 < L.length := by omega
        rw [List.getD_eq_getElem?_getD, List.getElem?_eq_getElem hm1, Option.getD_some]
        have := (fmGo_le L (-1) 3 HGL _ (List.getElem_mem hm1)).2.2.2.2
        omega
    have hmem : nuH c lev ∈ L := by rw [hL]; simp
    obtain ⟨hc1, hc2, hc3, hc4, _⟩ := fmGo_le L (-1) 3 HGL _ hmem
    simp only at hc1 hc2 hc3 hc4
    have CC := Lib.hid fun W (hf : Fr [] V W) => content25_c ⟨d0, d1, d2, d3⟩ (.slice (some ⟨gq, 0, none⟩) (m + 1) pu) L m W (HY.out.at_.same hf) (by omega) (by omega) bf hbf HD.out (by rw [hLm]; exact ⟨hc1, hc2⟩) (by rw [hLm]; exact ⟨hc3, hc4⟩) hbz
    rw [hLm] at CC
    have hcl : (str (cntM ⟨d0, d1, d2, d3⟩ m (nuH c lev) bf)).size ≤ 100000 := by
      rw [str_size]; exact cntM_len HD.out (by omega) ⟨hc1, hc2⟩ ⟨hc3, by simp only; omega⟩ hbz
    have CS := Lib.hid fun W => rseal_c key (str (cntM ⟨d0, d1, d2, d3⟩ m (nuH c lev) bf)) (by have := HK.out; omega) (by omega) W
    have hSz : (sealM key (bts (str (cntM ⟨d0, d1, d2, d3⟩ m (nuH c lev) bf)))).size = 32 := shaB_size _
    generalize sealM key (bts (str (cntM ⟨d0, d1, d2, d3⟩ m (nuH c lev) bf))) = SS at *
    generalize str (cntM ⟨d0, d1, d2, d3⟩ m (nuH c lev) bf) = CT at *
    generalize g 2 = u2 at *
    generalize g 5 = u5 at *
    generalize g 8 = u8 at *
    generalize g 9 = u9 at *
    generalize g 10 = u10 at *
    generalize g 11 = u11 at *
    generalize g 12 = u12 at *
    have HLL := Lib.hid hLl
    have hm7 : m ≤ 7 := by have := HML.out; omega
    have HW64 := Lib.hid (w64_inT (m : Int) (by omega))
    clear hLl
    have KS2 := Lib.hid KS; have Z22 := Lib.hid Z2; have HSZ := Lib.hid hSz; have HLM : Hid (∀ h : m < L.length, L[m]'h = nuH c lev) := Lib.hid fun _ => hLm
    clear hS hB e13 e14 r12 n12 r2 FS Z2 hL hm HFL HGL hbf hbz hmem hc1 hc2 hc3 hc4 hcl hSz FW2 KS hmk hLm hN HF HG HD hl7
    clear hsz
    -- @@C
    go_wp2_with fail
    refine CF.out.mono ?_
    rintro e w1 ⟨rfl, f1⟩
    clear CF
    have c0 := f1.cel b0 (by simp); have c1 := f1.cel b1 (by simp); have c2 := f1.cel b2 (by simp); have c3 := f1.cel b3 (by simp); have c4 := f1.cel b4 (by simp)
    have HF1 := Lib.hid f1
    clear b0 b1 b2 b3 b4 f1
    go_wp2_with fail
    -- @@D
    try simp only [HW64.out]
    refine reg_mix (Fr [gq] w1) [0, 1, 2, 3, 4, 5, 6, 7, 8, 9, 10] (by kernel_rfl) (by kernel_rfl) (by kernel_rfl) rfl (Fr.drew _ _) ?_
    have FC : Fr [] w1 w1.drew := Fr.drew _ _
    generalize w1.drew = WC at FC ⊢
    iterate 6 (refine mix_take1 (v := ?_) rfl rfl rfl rfl (fun w hS => ?_) ?_; rotate_left; (focus (have e0 := hS.cel c0 (by simpa using hBq); have e1 := hS.cel c1 (by simpa using hBq); have e2 := hS.cel c2 (by simpa using hBq); have e3 := hS.cel c3 (by simpa using hBq); have e4 := hS.cel c4 (by simpa using hBq); clear hS; go_simp; rfl)); simp only [List.setIfInBounds_toArray, List.set_cons_succ, List.set_cons_zero])
    refine mix_do rfl rfl rfl (fun K hK => ?_)
    go_simp
    refine (CC.out _ (HF1.out.trans FC)).mono ?_
    rintro e w2 ⟨rfl, f1⟩
    have FC := FC.trans f1
    clear f1
    refine hK _ _ (FC.mono (by simp)) ?_
    clear hK K
    try simp only [Act.put, List.setIfInBounds_toArray, List.set_cons_succ, List.set_cons_zero]
    refine mix_do rfl rfl rfl (fun K hK => ?_)
    go_simp
    refine (CS.out _).mono ?_
    rintro e w3 ⟨rfl, f1⟩
    have FC := FC.trans f1
    clear f1
    refine hK _ _ (FC.mono (by simp)) ?_
    clear hK K
    try simp only [Act.put, List.setIfInBounds_toArray, List.set_cons_succ, List.set_cons_zero]
    have hlt1 : (m : Int) < (m : Int) + 1 := by omega
    iterate 2 (refine mix_take1 (v := ?_) rfl rfl rfl rfl (fun w hS => ?_) ?_; rotate_left; (focus (clear hS; go_simp; (try rw [if_pos hlt1]); rfl)); simp only [List.setIfInBounds_toArray, List.set_cons_succ, List.set_cons_zero])
    have HY3 := Lib.hid (HY.out.same (HF1.out.trans FC))
    have HB3 := Lib.hid ((HF1.out.trans FC).keep KS2.out (by simp))
    have HZ3 := Lib.hid ((HF1.out.trans FC).keep Z22.out (by simp))
    obtain ⟨cur, hcur⟩ := row_blkH (g := gq) (cap := pu) HY3.out.row (by rw [HLL.out])
    have y0 := free_of_blk hcur.1 (m * 3 + 2)
    obtain ⟨ov, y1⟩ : ∃ ov, w3.cell? ⟨gq, m * 3 + 2, none⟩ = some ov := ⟨_, (cell_of_blk hcur.1 (m * 3 + 2)).trans (Array.getElem?_eq_getElem (by have := hcur.2; have := HLL.out; omega))⟩
    clear hcur c0 c1 c2 c3 c4 CC CS
    refine mix_do (o := ⟨none, _, _, _, _, _⟩) rfl rfl rfl (fun K hK => ?_)
    go_simp
    try go_upon
    try go_simp
    have hmL : m < L.length := by have := HLL.out; omega
    have FQ := Fr.setCell (fp := [gq]) (p := ⟨gq, m * 3 + 2, none⟩) w3 (.string SS) (by simp)
    have HYF : Hid (HdY W0 (w3.setCell ⟨gq, m * 3 + 2, none⟩ (.string SS)) (.slice (some ⟨gq, 0, none⟩) (m + 1) pu) (L.set m ⟨c, lev, SS⟩)) := Lib.hid (by
      have h := HY3.out.stamped (by rw [HLL.out]) m hmL SS
      have he : L[m] = nuH c lev := HLM.out hmL
      rw [he] at h
      exact h)
    have HBF := Lib.hid (FQ.keep HB3.out (by simpa using hBq))
    have HZF := Lib.hid (FQ.keep HZ3.out (by simp; omega))
    refine hK _ _ ((FC.mono (by simp)).trans FQ) ?_
    clear hK K y0 y1 FQ
    generalize w3.setCell ⟨gq, m * 3 + 2, none⟩ (.string SS) = w4 at *
    try simp only [Act.put, List.setIfInBounds_toArray, List.set_cons_succ, List.set_cons_zero]
    refine mix_end ?_
    have c0 := cell_of_blk HBF.out 0; have c1 := cell_of_blk HBF.out 1; have c2 := cell_of_blk HBF.out 2; have c3 := cell_of_blk HBF.out 3; have c4 := cell_of_blk HBF.out 4
    have z0 := cell_of_blk HZF.out 0; have z1 := cell_of_blk HZF.out 1; have z2 := cell_of_blk HZF.out 2; have z3 := cell_of_blk HZF.out 3; have z4 := cell_of_blk HZF.out 4
    have y0 := free_of_blk HZF.out 0; have y1 := free_of_blk HZF.out 1; have y2 := free_of_blk HZF.out 2; have y3 := free_of_blk HZF.out 3; have y4 := free_of_blk HZF.out 4
    obtain ⟨KF, FF⟩ := set5 HZF.out (.int .i64 d0) (.int .i64 d1) (.int .i64 d2) (.int .i64 d3) (.slice (some ⟨gq, 0, none⟩) (m + 1) pu)
    have hLs : L.set m ⟨c, lev, SS⟩ = l ++ [⟨c, lev, SS⟩] := by
      rw [HL.out, HML.out, List.set_append_right _ _ (Nat.le_refl _), Nat.sub_self]
      rfl
    have HE : Hid (HdY w _ (.slice (some ⟨gq, 0, none⟩) (m + 1) pu) (l ++ [⟨c, lev, SS⟩])) := Lib.hid ⟨by rw [← hLs]; exact row_fr HYF.out.row FF (fun b hb hm => by cases hb; simp at hm; omega), fun b hb => by cases hb; show _ ≤ gq; omega, (HF2.out.trans HYF.out.fr).step FF (fun i hi => .inr (by simp at hi; omega))⟩
    have k0 := cell_of_blk KF 0; have k1 := cell_of_blk KF 1; have k2 := cell_of_blk KF 2; have k3 := cell_of_blk KF 3; have k4 := cell_of_blk KF 4
    clear FC hlt1 FF KF hLs
    go_wp2_with fail
    refine bodyPost_ret (v := .tuple #[.agg #[.int .i64 d0, .int .i64 d1, .int .i64 d2, .int .i64 d3, .slice (some ⟨gq, 0, none⟩) (m + 1) pu], .int .i64 0]) (by simp [results, Tryz.results70, go_sem, k0, k1, k2, k3, k4]; try rfl) rfl ?_
    exact ⟨_, SS, rfl, HSZ.out, HE.out⟩

end Go.Proofs.YtahfpadaoobkfaaGreatDoor
