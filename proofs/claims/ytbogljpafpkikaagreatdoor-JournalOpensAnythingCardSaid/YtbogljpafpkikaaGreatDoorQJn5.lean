/-
  journal: open.
-/
import Derived.Test.YtbogljpafpkikaaGreatDoorQJn4
import Derived.Recover
namespace Go.Proofs.YtbogljpafpkikaaGreatDoor
open Go.RowKit Go.Lib

set_option maxRecDepth 100000 in
theorem rec_idle (p q : Addr) (w : World) : CallsD Tryz.prog 69 #[.pointer (some p), .pointer (some q)] .returning w fun e u' w' => e = .returned (.tuple #[]) ∧ u' = .returning ∧ w' = w := by
  refine callsD_of_wpS Tryz.func69 rfl fun c₀ cs hu => ?_
  apply wpS_seq
  apply wpS_region
  have tA : ∀ w : World, (Instr.typeAssert .nilIface 20 77 true).run Tryz.prog w = .ok (.tuple #[.nilIface, .bool false]) w := fun w => by kernel_rfl
  simp [wpOpsS, go_sem, recoverD, hu, Tryz.ntmps69, Exit.thenS, tA]
  clear tA
  simp only [Array.replicate_succ, Array.replicate_zero]
  refine wpS_of_wp ?_
  go_wp2_with fail
  exact ⟨rfl, _, by cases c₀; simp_all, _, by simp [results, Tryz.results69, go_sem], rfl, rfl, rfl⟩

set_option maxRecDepth 100000 in
theorem rec_panicking (a p q : Addr) (vp vq : Value) (w : World) (hD : DmgAt w a) (hp : w.cell? p = some vp) (yp : w.frozen? p = false) (hq : (w.setCell p (.pointer none)).cell? q = some vq) (yq : (w.setCell p (.pointer none)).frozen? q = false) :
    CallsD Tryz.prog 69 #[.pointer (some p), .pointer (some q)] (.panicking (dmgP a)) w fun e u' w' => e = .returned (.tuple #[]) ∧ u' = .panicking [{ v := .iface 221 (.pointer (some a)), recovered := true }] ∧ w' = (w.setCell p (.pointer none)).setCell q (.int .i64 102) := by
  obtain ⟨t, fz, hD⟩ := hD
  have cD := cell_of_blk hD 0
  clear hD
  refine callsD_of_wpS Tryz.func69 rfl fun c₀ cs hu => ?_
  apply wpS_seq
  apply wpS_region
  have tA : ∀ w : World, (Instr.typeAssert (.iface 221 (.pointer (some a))) 20 77 true).run Tryz.prog w = .ok (.tuple #[.iface 221 (.pointer (some a)), .bool true]) w := fun w => run_typeAssert_hasB Tryz.underlying77 (by kernel_rfl) _ _ w
  simp [wpOpsS, go_sem, recoverD, hu, Tryz.ntmps69, Exit.thenS, tA]
  clear tA
  simp only [Array.replicate_succ, Array.replicate_zero]
  refine wpS_of_wp ?_
  go_wp2_with (go_at_call 70; refine (is_same a _).mono ?_; rintro e w9 ⟨rfl, rfl⟩)
  exact ⟨rfl, _, by cases c₀; simp_all, _, by simp [results, Tryz.results69, go_sem], rfl, rfl, rfl⟩

/-- A row of bytes, whole. -/
theorem sl_bytes {w : World} {b n : Nat} {ty : TypeId} {l : List UInt8} (h : w.heap[b]? = some (.cells (byteCells l).toArray ty (0, 0))) (_hl : l.length = n) (hn : n ≤ 9223372036854775807) : Sl w (.slice (some ⟨b, 0, none⟩) n n) n (byteCells l) :=
  ⟨_, _, rfl, Nat.le_refl _, hn, fun _ => ⟨_, 0, rfl, fun j u hu => by
    rw [Nat.zero_add, cell_of_blk h]
    simpa using hu⟩⟩

theorem made_bytes (n : Nat) : madeCells #[Value.int .u8 0] n = (byteCells (List.replicate n 0)).toArray := by
  apply Array.ext'
  simp only [madeCells, Array.toList_map, Array.toList_range, byteCells]
  apply List.ext_getElem
  · simp
  · intro i h1 h2
    simp [Nat.mod_one]

theorem alloc4 (w : World) (x y z u : Obj) : Fr [] w ((((w.alloc x).alloc y).alloc z).alloc u) ∧ ((((w.alloc x).alloc y).alloc z).alloc u).heap[w.heap.size]? = some x ∧ ((((w.alloc x).alloc y).alloc z).alloc u).heap[w.heap.size + 1]? = some y ∧
    ((((w.alloc x).alloc y).alloc z).alloc u).heap[w.heap.size + 1 + 1 + 1]? = some u ∧ ((((w.alloc x).alloc y).alloc z).alloc u).heap.size = w.heap.size + 4 := by
  have e1 : (w.alloc x).heap.size = w.heap.size + 1 := by simp
  have e2 : ((w.alloc x).alloc y).heap.size = w.heap.size + 1 + 1 := by simp
  have e3 : (((w.alloc x).alloc y).alloc z).heap.size = w.heap.size + 1 + 1 + 1 := by simp
  have h0 := heap_alloc_new w x
  have h1 := heap_alloc_new (w.alloc x) y
  have h3 := heap_alloc_new (((w.alloc x).alloc y).alloc z) u
  rw [e1] at h1
  rw [e3] at h3
  exact ⟨((((Fr.alloc _ _ _).trans (Fr.alloc _ _ _)).trans (Fr.alloc _ _ _)).trans (Fr.alloc _ _ _)), heap_alloc_old u (heap_alloc_old z (heap_alloc_old y h0)), heap_alloc_old u (heap_alloc_old z h1), h3, by simp⟩

/-- Two variables are set. -/
theorem set2 (w : World) (p q : Nat) (u v x y : Value) (t1 t2 : TypeId) (hp : w.heap[p]? = some (.cells #[u] t1 (0, 0))) (hq : w.heap[q]? = some (.cells #[v] t2 (0, 0))) (h : p ≠ q) : ((w.setCell ⟨p, 0, none⟩ x).setCell ⟨q, 0, none⟩ y).cell? ⟨p, 0, none⟩ = some x ∧ ((w.setCell ⟨p, 0, none⟩ x).setCell ⟨q, 0, none⟩ y).cell? ⟨q, 0, none⟩ = some y ∧
    Fr [p, q] w ((w.setCell ⟨p, 0, none⟩ x).setCell ⟨q, 0, none⟩ y) ∧ (w.setCell ⟨p, 0, none⟩ x).cell? ⟨q, 0, none⟩ = some v ∧ (w.setCell ⟨p, 0, none⟩ x).frozen? ⟨q, 0, none⟩ = false := by
  have f1 : Fr [p] w (w.setCell ⟨p, 0, none⟩ x) := Fr.setCell _ _ (by simp)
  have f2 : Fr [q] (w.setCell ⟨p, 0, none⟩ x) ((w.setCell ⟨p, 0, none⟩ x).setCell ⟨q, 0, none⟩ y) := Fr.setCell _ _ (by simp)
  have b1 := heap_setCell_same (i := 0) x hp
  have b2 := f1.keep hq (by simp; omega)
  have b3 := heap_setCell_same (i := 0) y b2
  have b4 := f2.keep b1 (by simpa using h)
  exact ⟨cell_of_blk b4 0, cell_of_blk b3 0, (f1.mono (by simp)).trans (f2.mono (by simp)), cell_of_blk b2 0, free_of_blk b2 0⟩

/-- What open does. -/
def OpenPost (dp : Option Addr) (w : World) (o : Option Tp) (e : Ending) (w' : World) : Prop := Fr [] w w' ∧ match o with
  | some t => ∃ jb vr, e = .returned (.tuple #[.pointer (some ⟨jb, 0, none⟩), .int .i64 0]) ∧ TapeAt w' jb [.pointer dp, .bool false] 71 vr t ∧ ∀ k, k ∈ tpB jb vr → w.heap.size ≤ k
  | none => e = .returned (.tuple #[.pointer none, .int .i64 102])

set_option maxRecDepth 100000 in
set_option maxHeartbeats 4000000 in
theorem open_c (a : Addr) (dp : Option Addr) (s : ByteArray) (w : World) (hs : s.size ≤ 1000000000) (hR : RndAt w) (hD : DmgAt w a) : Calls Tryz.prog 50 #[.pointer dp, .string s] w (OpenPost dp w (openM (bts s))) := by
  have HR := Lib.hid hR; have HD := Lib.hid hD
  have hrl : 3 < w.heap.size := by obtain ⟨_, _, h⟩ := hR; exact blk_lt h
  have hdl : 0 < w.heap.size := by obtain ⟨_, _, h⟩ := hD; exact blk_lt h
  clear hR hD
  have hmf : ∀ (fn : Fn) (first cap : Array Value) (w : World), (Instr.makeFunc fn first cap).run Tryz.prog w = .ok (.func fn first cap) w := fun _ _ _ _ => rfl
  have hmk : ∀ w : World, (Instr.makeSlice 39 (.int .i64 32) (.int .i64 32)).run Tryz.prog w = .ok (.slice (some ⟨w.heap.size, 0, none⟩) 32 32) (w.alloc (.cells (madeCells #[Value.int .u8 0] 32) 5)) := fun w => run_make_row' (P := Tryz.prog) 39 5 (.int .u8 0) 1 Tryz.underlying39 (by kernel_rfl) rfl .i64 .i64 32 (by omega) (by omega) w
  obtain ⟨zs, hzs, hzl⟩ : ∃ zs : List UInt8, zs = List.replicate 32 0 ∧ zs.length = 32 := ⟨_, rfl, rfl⟩
  rw [made_bytes, ← hzs] at hmk
  have hzh : (⟨zs.toArray⟩ : ByteArray) = head0 := by rw [hzs]; rfl
  clear hzs
  go_enter_defers Tryz.func50, Tryz.ntmps50
  go_wp2_with (first | ((with_reducible refine wpList_of_wp (o := ⟨some 9, _, _, _, _, _⟩) rfl (fun K hK => ?_)); apply stopD; case _other => exact trivial))
  (refine stopD ?_ ?_; rotate_left; exact trivial)
  have s1 := sl_bytes (ty := 5) (heap_alloc_new ((w.alloc (.cells #[.pointer none] 28)).alloc (.cells #[.int .i64 0] 33)) (.cells (byteCells zs).toArray 5)) hzl (by omega)
  refine wp_sl_str (.tmp 8) rfl _ 32 32 zs rfl (by simpa using s1) (by omega) hzl ?_
  refine hK _ _ ?_
  clear hK K s1 hmk
  rw [hzh]
  go_upto_region 3 with fail
  obtain ⟨F5, B0, B1, B3, Z5⟩ := alloc4 w (.cells #[.pointer (some ⟨w.heap.size + 1 + 1 + 1, 0, none⟩)] 28) (.cells #[.int .i64 0] 33) (.cells (byteCells zs).toArray 5) (.cells #[.slice none 0 0, .string head0, .int .i64 0, .pointer dp, .bool false] 71)
  generalize World.alloc _ (.cells #[.slice none 0 0, .string head0, .int .i64 0, .pointer dp, .bool false] 71) = W5 at *
  have T5 : TapeAt W5 (w.heap.size + 1 + 1 + 1) [.pointer dp, .bool false] 71 (.slice none 0 0) tp0 := ⟨B3, ⟨rfl, .inl ⟨rfl, rfl⟩⟩, by simp [Value.ownBlock]⟩
  have CL := Lib.hid (load_c a (w.heap.size + 1 + 1 + 1) [.pointer dp, .bool false] 71 (.slice none 0 0) tp0 s (s.size + 1) W5 T5 hs rfl (Nat.le_refl _) (Nat.zero_le _) (by show s.size < 0 + (s.size + 1); omega) (HR.out.same F5 (by simp)) (HD.out.fr F5 (by simp)) (fun k hk => by
    have hk2 : k = w.heap.size + 1 + 1 + 1 := by simpa [tpB, Value.ownBlock] using hk
    omega))
  have c0 := cell_of_blk B0 0
  have HF5 := Lib.hid F5; have HB0 := Lib.hid B0; have HB1 := Lib.hid B1
  clear F5 B0 B1 B3 T5 HR hmf hzl hzh
  generalize hO : openM (bts s) = O
  have hO' : ldM (bts s) (s.size + 1) tp0 = O := hO
  rw [hO'] at CL
  have HO : Shut (openM (bts s) = O) := ⟨hO⟩
  clear hO hO'
  cases O with
  | none =>
    go_wp2_with fail
    refine CL.out.mono ?_
    rintro e w6 ⟨rfl, fp, u6⟩
    have f6 : Fr [w.heap.size + 1 + 1 + 1] W5 w6 := u6.fr.mono (by simp [tpB, Value.ownBlock])
    have b0 := f6.keep HB0.out (by simp <;> omega)
    obtain ⟨d0, d1, F7, c1, y1⟩ := set2 w6 w.heap.size (w.heap.size + 1) _ _ (.pointer none) (.int .i64 102) _ _ b0 (f6.keep HB1.out (by simp <;> omega)) (by omega)
    have D6 := (HD.out.fr HF5.out (by simp)).fr f6 (by simp)
    have F8 := (HF5.out.step f6 (by simp; omega)).step F7 (by simp)
    refine leaves_cons (f := 69) (args := #[.pointer (some ⟨w.heap.size, 0, none⟩), .pointer (some ⟨w.heap.size + 1, 0, none⟩)]) (by simp) (by simp [go_sem]) ?_
    refine (rec_panicking a ⟨w.heap.size, 0, none⟩ ⟨w.heap.size + 1, 0, none⟩ _ _ w6 D6 (cell_of_blk b0 0) (free_of_blk b0 0) c1 y1).mono ?_
    rintro e u' w7 ⟨rfl, rfl, rfl⟩
    generalize (w6.setCell ⟨w.heap.size, 0, none⟩ (.pointer none)).setCell ⟨w.heap.size + 1, 0, none⟩ (.int .i64 102) = W8 at *
    have HF8 := Lib.hid F8
    clear F8 F7 D6 b0 c1 y1 f6 u6 c0
    simp [Leaves, settle, results, Tryz.results50, go_sem, d0, d1]
    exact ⟨HF8.out, rfl⟩
  | some t =>
    go_wp2_with fail
    refine CL.out.mono ?_
    rintro e w6 ⟨rfl, vr, h6, u6⟩
    have f6 : Fr [w.heap.size + 1 + 1 + 1] W5 w6 := u6.fr.mono (by simp [tpB, Value.ownBlock])
    have b0 := f6.keep HB0.out (by simp <;> omega)
    have b1 := f6.keep HB1.out (by simp <;> omega)
    have HF6 := Lib.hid f6; have H6 := Lib.hid h6; have U6 := Lib.hid u6
    have c0 := cell_of_blk b0 0; have y0 := free_of_blk b0 0
    have c1 := cell_of_blk b1 0; have y1 := free_of_blk b1 0
    have Hb0 := Lib.hid b0; have Hb1 := Lib.hid b1
    clear f6 h6 u6 b0 b1
    go_wp2_with fail
    rw [HO.out]
    obtain ⟨d0, d1, F7, _, _⟩ := set2 w6 w.heap.size (w.heap.size + 1) _ _ (.pointer (some ⟨w.heap.size + 1 + 1 + 1, 0, none⟩)) (.int .i64 0) _ _ Hb0.out Hb1.out (by omega)
    have hfp : ∀ k, k ∈ tpB (w.heap.size + 1 + 1 + 1) vr → w.heap.size + 1 + 1 + 1 ≤ k := fun k hk => by
      rcases U6.out.sub k hk with h | h
      · simp [tpB, Value.ownBlock] at h; omega
      · omega
    have T7 := H6.out.fr F7 (fun k hk => by have := hfp k hk; simp; omega)
    have F8 := (HF5.out.step HF6.out (by simp; omega)).step F7 (by simp)
    refine leaves_cons (f := 69) (args := #[.pointer (some ⟨w.heap.size, 0, none⟩), .pointer (some ⟨w.heap.size + 1, 0, none⟩)]) (by simp) (by simp [go_sem]) ?_
    refine (rec_idle ⟨w.heap.size, 0, none⟩ ⟨w.heap.size + 1, 0, none⟩ _).mono ?_
    rintro e u' w7 ⟨rfl, rfl, rfl⟩
    generalize (w6.setCell ⟨w.heap.size, 0, none⟩ (.pointer (some ⟨w.heap.size + 1 + 1 + 1, 0, none⟩))).setCell ⟨w.heap.size + 1, 0, none⟩ (.int .i64 0) = W8 at *
    have HF8 := Lib.hid F8; have HT7 := Lib.hid T7; have HFP := Lib.hid hfp
    clear F8 T7 F7 c0 c1 y0 y1 hfp
    simp [Leaves, settle, results, Tryz.results50, go_sem, d0, d1]
    exact ⟨HF8.out, _, vr, rfl, HT7.out, fun k hk => by have := HFP.out k hk; omega⟩

end Go.Proofs.YtbogljpafpkikaaGreatDoor
