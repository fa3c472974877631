/-
  journal: first, writing.
-/
import Derived.Test.YtbogljpafpkikaaGreatDoorQJn5
import Derived.Test.YtbogljpafpkikaaGreatDoorQDW
namespace Go.Proofs.YtbogljpafpkikaaGreatDoor
open Go.RowKit Go.Lib

/-- A function as a value, with what is bound. -/
structure Fv where
  k : FuncId
  pre : Array Value
  cap : Array Value
def Fv.val (f : Fv) : Value := .func (.func f.k) f.pre f.cap
/-- The function has a body. -/
def Ent (k : FuncId) : Prop := ∀ (args : Array Value) (w : World), (callFunc k args).run Tryz.prog w = .ok (.enter k args) w
/-- Calls are made up to the first error. -/
def RunF (S : List Nat) (w : World) : List Fv → World → (Int → World → Prop) → Prop
  | [], wr, R => R 0 wr
  | f :: fs, wr, R => Ent f.k ∧ Calls Tryz.prog f.k (f.pre ++ f.cap) wr fun e w' => ∃ n : Int, e = .returned (.int .i64 n) ∧ Fr S w w' ∧ if n = 0 then RunF S w fs w' R else R n w'

theorem runF_drop (S : List Nat) (w : World) (fs : List Fv) (k : Nat) (hk : k < fs.length) (wr : World) (R : Int → World → Prop) (h : RunF S w (fs.drop k) wr R) :
    Ent fs[k].k ∧ Calls Tryz.prog fs[k].k (fs[k].pre ++ fs[k].cap) wr fun e w' => ∃ n : Int, e = .returned (.int .i64 n) ∧ Fr S w w' ∧ if n = 0 then RunF S w (fs.drop (k + 1)) w' R else R n w' := by
  rw [List.drop_eq_getElem_cons hk] at h
  exact h

set_option maxRecDepth 100000 in
set_option maxHeartbeats 4000000 in
theorem first_c (S : List Nat) (fs : List Fv) (ad : Option Addr) (cap : Nat) (w : World) (R : Int → World → Prop) (hs : Sl w (.slice ad fs.length cap) fs.length (fs.map Fv.val)) (hg : ∀ g, (Value.slice ad fs.length cap).ownBlock = some g → g ∉ S) (hr : RunF S w fs w R) :
    Calls Tryz.prog 36 #[.slice ad fs.length cap] w fun e w' => ∃ n : Int, e = .returned (.int .i64 n) ∧ R n w' := by
  have hlen := hs.len
  have HS := Lib.hid hs; have HG := Lib.hid hg; have HR := Lib.hid hr
  clear hs hg hr
  go_enter Tryz.func36, Tryz.ntmps36
  go_wp2_with fail
  go_loopw [8] (fun i wr => ∃ (k : Nat), i = .int .i64 k ∧ k ≤ fs.length ∧ Hid (RunF S w (fs.drop k) wr R) ∧ Hid (Fr S w wr)) (fun i _ => fs.length - (RowKit.intOf i).toNat)
  case atStart => exact ⟨0, rfl, Nat.zero_le _, HR, Lib.hid (Fr.refl _ _)⟩
  case round =>
    obtain ⟨k, rfl, hk, HRk, HF⟩ := hrel
    by_cases hlt : k < fs.length
    · obtain ⟨b, off, rfl, hc⟩ := (HS.out.fr HF.out HG.out).at_ (by omega)
      have ck : wr.cell? ⟨b, off + k, none⟩ = some (.func (.func fs[k].k) fs[k].pre fs[k].cap) := hc k _ (by simp [hlt]; rfl)
      have hE := (runF_drop S w fs k hlt wr R HRk.out).1
      have HC := Lib.hid (runF_drop S w fs k hlt wr R HRk.out).2
      clear hc HRk
      generalize hf : fs[k] = f at *
      obtain ⟨fk, fp, fc⟩ := f
      simp only at ck HC hE
      unfold Ent at hE
      clear hf
      go_wp2_with fail
      refine HC.out.mono ?_
      rintro e w2 ⟨n, rfl, hf2, hn⟩
      have HF2 := Lib.hid hf2
      clear hE hf2 HC
      by_cases h0 : n = 0
      · subst h0
        rw [if_pos rfl] at hn
        have HN := Lib.hid hn
        clear hn
        go_wp2_with fail
        go_roundw
        case rel => exact ⟨k + 1, by go_num, hlt, HN, HF2⟩
        case measure => simp [RowKit.intOf]; omega
      · rw [if_neg h0] at hn
        have HN := Lib.hid hn
        have hb : (n != 0) = true := by simpa using h0
        clear hn h0
        go_wp2_with fail
        go_ret
        exact ⟨n, rfl, HN.out⟩
    · have he : k = fs.length := by omega
      subst he
      have HE := Lib.hid HRk.out
      go_wp2_with fail
      go_ret
      refine ⟨0, rfl, ?_⟩
      have h := HRk.out
      rw [List.drop_length] at h
      exact h

end Go.Proofs.YtbogljpafpkikaaGreatDoor

/-
  journal: writing.
-/
namespace Go.Proofs.YtbogljpafpkikaaGreatDoor
open Go.RowKit Go.Lib

theorem DkStep.pre {b : Nat} {fp : List Nat} {r : Value} {D : Dk} {w w1 w2 : World} {e : Ending} (h : DkStep b fp r D w1 e w2) (hf : Fr [] w w1) : DkStep b fp r D w e w2 :=
  ⟨h.1, h.2.imp fun _ k => ⟨k.1, Upd.trans ⟨hf.mono (by simp), fun _ h => .inl h⟩ k.2⟩⟩

/-- What the call that writes a string has bound. -/
structure WrAt (w : World) (k jb : Nat) (at_ : Int) (s : ByteArray) : Prop where
  j : w.heap[k]? = some (.cells #[.pointer (some ⟨jb, 0, none⟩)] 28 (0, 0))
  a : w.heap[k + 1]? = some (.cells #[.int .i64 at_] 3 (0, 0))
  s : w.heap[k + 2]? = some (.cells #[.string s] 9 (0, 0))
def wrV (k : Nat) : Fv := ⟨64, #[], #[.pointer (some ⟨k, 0, none⟩), .pointer (some ⟨k + 1, 0, none⟩), .pointer (some ⟨k + 2, 0, none⟩)]⟩
theorem WrAt.fr {w w' : World} {k jb : Nat} {at_ : Int} {s : ByteArray} {S : List Nat} (h : WrAt w k jb at_ s) (hf : Fr S w w') (hS : k ∉ S ∧ k + 1 ∉ S ∧ k + 2 ∉ S) : WrAt w' k jb at_ s :=
  ⟨hf.keep h.j hS.1, hf.keep h.a hS.2.1, hf.keep h.s hS.2.2⟩

set_option maxRecDepth 100000 in
theorem writing_c (jb : Nat) (at_ : Int) (s : ByteArray) (w : World) : Calls Tryz.prog 37 #[.pointer (some ⟨jb, 0, none⟩), .int .i64 at_, .string s] w fun e w' => e = .returned (wrV w.heap.size).val ∧ WrAt w' w.heap.size jb at_ s ∧ Fr [] w w' ∧ w'.heap.size = w.heap.size + 3 := by
  have hmf : ∀ (fn : Fn) (first cap : Array Value) (w : World), (Instr.makeFunc fn first cap).run Tryz.prog w = .ok (.func fn first cap) w := fun _ _ _ _ => rfl
  go_enter Tryz.func37, Tryz.ntmps37
  go_wp2_with fail
  go_ret
  refine ⟨rfl, ?_, ((Fr.alloc _ _ _).trans (Fr.alloc _ _ _)).trans (Fr.alloc _ _ _), by simp⟩
  have e1 : (w.alloc (.cells #[.pointer (some ⟨jb, 0, none⟩)] 28)).heap.size = w.heap.size + 1 := by simp
  have e2 : ((w.alloc (.cells #[.pointer (some ⟨jb, 0, none⟩)] 28)).alloc (.cells #[.int .i64 at_] 3)).heap.size = w.heap.size + 2 := by simp
  have h0 := heap_alloc_new w (.cells #[.pointer (some ⟨jb, 0, none⟩)] 28)
  have h1 := heap_alloc_new (w.alloc (.cells #[.pointer (some ⟨jb, 0, none⟩)] 28)) (.cells #[.int .i64 at_] 3)
  have h2 := heap_alloc_new ((w.alloc (.cells #[.pointer (some ⟨jb, 0, none⟩)] 28)).alloc (.cells #[.int .i64 at_] 3)) (.cells #[.string s] 9)
  rw [e1] at h1
  rw [e2] at h2
  exact ⟨heap_alloc_old _ (heap_alloc_old _ h0), heap_alloc_old _ h1, h2⟩

set_option maxRecDepth 100000 in
set_option maxHeartbeats 1000000 in
theorem writing1_c (k jb db : Nat) (fp : List Nat) (D : Dk) (at_ : Int) (s : ByteArray) (vr : Value) (hd : ByteArray) (n : Nat) (br : Value) (w : World) (hW : WrAt w k jb at_ s) (hJ : w.heap[jb]? = some (.cells (tpC vr hd n [.pointer (some ⟨db, 0, none⟩), br]) 71 (0, 0))) (h : DkA w db fp D) (hj : jb ∉ fp) (hk : k ∉ fp ∧ k + 1 ∉ fp ∧ k + 2 ∉ fp)
    (ho : -9223372036854775808 ≤ at_) (ho2 : at_ ≤ 9223372036854775807) (hs : s.size ≤ 9223372036854775807) (hp : D.pend.length ≤ 4294967296) :
    Calls Tryz.prog 64 (wrV k).cap w (DkStep db fp (.int .i64 (D.writeE at_ s)) (D.writeD at_ s) w) := by
  have CW := Lib.hid fun W (hf : Fr [] w W) => write_dk db fp D at_ s W (h.keep hf (by simp)) ho ho2 hs hp
  have HW := Lib.hid hW; have HJ := Lib.hid hJ; have HK := Lib.hid hk; have HJF := Lib.hid hj
  clear hW hJ h hk hj
  unfold wrV
  simp only
  go_enter Tryz.func64, Tryz.ntmps64
  go_wp2_with fail
  refine reg_tree (Fr fp w) 7 (.take 0 (.take 1 (.take 2 (.take 3 (.take 4 (.take 5 (.one 6 (.one 7 .nil)))))))) (by kernel_rfl) (by kernel_rfl) (by kernel_rfl) rfl ?_
  have F0 : Fr [] w w.drew := Fr.drew _ _
  generalize w.drew = WC at F0 ⊢
  have S0 : Fr fp w WC := F0.mono (by simp)
  iterate 6 (refine tree_take (v := ?_) rfl rfl rfl S0 (fun w hS => ?_) ?_; rotate_left; (focus (have X := HW.out.fr hS HK.out; have c0 := cell_of_blk X.j 0; have c1 := cell_of_blk X.a 0; have c2 := cell_of_blk X.s 0; have c3 : World.cell? _ ⟨jb, 3, none⟩ = some (.pointer (some ⟨db, 0, none⟩)) := cell_of_blk (hS.keep HJ.out HJF.out) 3; clear hS X; go_simp; rfl)); simp only [List.setIfInBounds_toArray, List.set_cons_succ, List.set_cons_zero])
  refine tree_one rfl rfl (fun K hK => ?_)
  go_simp
  refine (CW.out _ F0).mono ?_
  rintro e w2 hst
  have HST := Lib.hid (hst.pre F0)
  have F2 := S0.trans (by obtain ⟨_, _, _, u⟩ := hst; exact u.fr)
  obtain ⟨rfl, -⟩ := hst
  refine hK _ _ F2 ?_
  clear hK K S0
  try simp only [Act.put, List.setIfInBounds_toArray, List.set_cons_succ, List.set_cons_zero]
  refine tree_last rfl rfl (fun K hK => ?_)
  go_simp
  try go_upon
  try go_simp
  refine hK _ _ ?_
  clear hK K
  refine noPanicN ?_
  go_wp2_with fail
  go_ret
  exact HST.out

end Go.Proofs.YtbogljpafpkikaaGreatDoor
