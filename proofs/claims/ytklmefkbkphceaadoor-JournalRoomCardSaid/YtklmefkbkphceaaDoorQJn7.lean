/-
  journal: writing.
-/
import Derived.Test.YtklmefkbkphceaaDoorQJn6
namespace Go.Proofs.YtklmefkbkphceaaDoor
open Go.RowKit Go.Lib

theorem DkStep.pre {b : Nat} {fp : List Nat} {r : Value} {D : Dk} {w w1 w2 : World} {e : Ending} (h : DkStep b fp r D w1 e w2) (hf : Fr [] w w1) : DkStep b fp r D w e w2 :=
  ⟨h.1, h.2.imp fun _ k => ⟨k.1, Upd.trans ⟨hf.mono (by simp), fun _ h => .inl h⟩ k.2⟩⟩

/-- What the call that writes a string has bound. -/
structure WrAt (w : World) (k jb : Nat) (at_ : Int) (s : ByteArray) : Prop where
  j : w.heap[k]? = some (.cells #[.pointer (some ⟨jb, 0, none⟩)] 29 (0, 0))
  a : w.heap[k + 1]? = some (.cells #[.int .i64 at_] 3 (0, 0))
  s : w.heap[k + 2]? = some (.cells #[.string s] 9 (0, 0))
def wrV (k : Nat) : Fv := ⟨48, #[], #[.pointer (some ⟨k, 0, none⟩), .pointer (some ⟨k + 1, 0, none⟩), .pointer (some ⟨k + 2, 0, none⟩)]⟩
theorem WrAt.fr {w w' : World} {k jb : Nat} {at_ : Int} {s : ByteArray} {S : List Nat} (h : WrAt w k jb at_ s) (hf : Fr S w w') (hS : k ∉ S ∧ k + 1 ∉ S ∧ k + 2 ∉ S) : WrAt w' k jb at_ s :=
  ⟨hf.keep h.j hS.1, hf.keep h.a hS.2.1, hf.keep h.s hS.2.2⟩

set_option maxRecDepth 100000 in
theorem writing_c (jb : Nat) (at_ : Int) (s : ByteArray) (w : World) : Calls Tryd.prog 25 #[.pointer (some ⟨jb, 0, none⟩), .int .i64 at_, .string s] w fun e w' => e = .returned (wrV w.heap.size).val ∧ WrAt w' w.heap.size jb at_ s ∧ Fr [] w w' ∧ w'.heap.size = w.heap.size + 3 := by
  have hmf : ∀ (fn : Fn) (first cap : Array Value) (w : World), (Instr.makeFunc fn first cap).run Tryd.prog w = .ok (.func fn first cap) w := fun _ _ _ _ => rfl
  go_enter Tryd.func25, Tryd.ntmps25
  go_wp2_with fail
  go_ret
  refine ⟨rfl, ?_, ((Fr.alloc _ _ _).trans (Fr.alloc _ _ _)).trans (Fr.alloc _ _ _), by simp⟩
  have e1 : (w.alloc (.cells #[.pointer (some ⟨jb, 0, none⟩)] 29)).heap.size = w.heap.size + 1 := by simp
  have e2 : ((w.alloc (.cells #[.pointer (some ⟨jb, 0, none⟩)] 29)).alloc (.cells #[.int .i64 at_] 3)).heap.size = w.heap.size + 2 := by simp
  have h0 := heap_alloc_new w (.cells #[.pointer (some ⟨jb, 0, none⟩)] 29)
  have h1 := heap_alloc_new (w.alloc (.cells #[.pointer (some ⟨jb, 0, none⟩)] 29)) (.cells #[.int .i64 at_] 3)
  have h2 := heap_alloc_new ((w.alloc (.cells #[.pointer (some ⟨jb, 0, none⟩)] 29)).alloc (.cells #[.int .i64 at_] 3)) (.cells #[.string s] 9)
  rw [e1] at h1
  rw [e2] at h2
  exact ⟨heap_alloc_old _ (heap_alloc_old _ h0), heap_alloc_old _ h1, h2⟩

set_option maxRecDepth 100000 in
set_option maxHeartbeats 1000000 in
theorem writing1_c (k jb db : Nat) (fp : List Nat) (D : Dk) (at_ : Int) (s : ByteArray) (vr : Value) (hd : ByteArray) (n : Nat) (br : Value) (w : World) (hW : WrAt w k jb at_ s) (hJ : w.heap[jb]? = some (.cells (tpC vr hd n [.pointer (some ⟨db, 0, none⟩), br]) 58 (0, 0))) (h : DkA w db fp D) (hj : jb ∉ fp) (hk : k ∉ fp ∧ k + 1 ∉ fp ∧ k + 2 ∉ fp)
    (ho : -9223372036854775808 ≤ at_) (ho2 : at_ ≤ 9223372036854775807) (hs : s.size ≤ 9223372036854775807) (hp : D.pend.length ≤ 4294967296) :
    Calls Tryd.prog 48 (wrV k).cap w (DkStep db fp (.int .i64 (D.writeE at_ s)) (D.writeD at_ s) w) := by
  have CW := Lib.hid fun W (hf : Fr [] w W) => write_dk db fp D at_ s W (h.keep hf (by simp)) ho ho2 hs hp
  have HW := Lib.hid hW; have HJ := Lib.hid hJ; have HK := Lib.hid hk; have HJF := Lib.hid hj
  clear hW hJ h hk hj
  unfold wrV
  simp only
  go_enter Tryd.func48, Tryd.ntmps48
  go_wp2_with fail
  refine reg_tree (Fr fp w) 7 (.take 0 (.take 1 (.take 2 (.take 3 (.take 4 (.take 5 (.one 6 (.one 7 .nil)))))))) (by kernel_rfl) (by kernel_rfl) (by kernel_rfl) rfl ?_
  have F0 : Fr [] w w.drew := Fr.drew _ _
  generalize w.drew = WC at F0 ⊢
  have S0 : Fr fp w WC := F0.mono (by simp)
  iterate 6 (refine tree_take (v := ?_) rfl rfl rfl S0 (fun w hS => ?_) ?_; rotate_left; (focus (have X := HW.out.fr hS HK.out; have c0 := cell_of_blk X.j 0; have c1 := cell_of_blk X.a 0; have c2 := cell_of_blk X.s 0; have c3 : World.cell? _ ⟨jb, 3, none⟩ = some (.pointer (some ⟨db, 0, none⟩)) := cell_of_blk (hS.keep HJ.out HJF.out) 3; clear hS X; go_simp; rfl)); simp only [List.setIfInBounds_toArray, List.set_cons_succ, List.set_cons_zero])
  refine tree_one rfl rfl (fun K hK => ?_)
  go_simp
  refine (CW.out _ F0).mono ?_
  rintro e w2 hst
  have HST := Lib.hid (hst.pre F0)
  have F2 := S0.trans (by obtain ⟨_, _, _, u⟩ := hst; exact u.fr)
  obtain ⟨rfl, -⟩ := hst
  refine hK _ _ F2 ?_
  clear hK K S0
  try simp only [Act.put, List.setIfInBounds_toArray, List.set_cons_succ, List.set_cons_zero]
  refine tree_last rfl rfl (fun K hK => ?_)
  go_simp
  try go_upon
  try go_simp
  refine hK _ _ ?_
  clear hK K
  refine noPanicN ?_
  go_wp2_with fail
  go_ret
  exact HST.out

end Go.Proofs.YtklmefkbkphceaaDoor
