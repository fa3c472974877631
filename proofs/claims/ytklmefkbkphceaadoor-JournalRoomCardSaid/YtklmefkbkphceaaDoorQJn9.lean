/-
  journal: a journal in memory; Room, Records.
-/
import Derived.Test.YtklmefkbkphceaaDoorQJn8
namespace Go.Proofs.YtklmefkbkphceaaDoor
open Go.RowKit Go.Lib

/-- A journal in memory, with its disk. -/
structure JnAt (w : World) (jb db : Nat) (fp : List Nat) (vr : Value) (t : Tp) (br : Bool) (D : Dk) : Prop where
  tape : TapeAt w jb [.pointer (some ⟨db, 0, none⟩), .bool br] 58 vr t
  disk : DkA w db fp D
  apart : ∀ k, k ∈ tpB jb vr → k ∉ fp
theorem JnAt.same {w w' : World} {jb db : Nat} {fp : List Nat} {vr : Value} {t : Tp} {br : Bool} {D : Dk} (h : JnAt w jb db fp vr t br D) (hf : Fr [] w w') : JnAt w' jb db fp vr t br D :=
  ⟨h.tape.same hf, h.disk.keep hf (by simp), h.apart⟩

set_option maxRecDepth 100000 in
set_option maxHeartbeats 1000000 in
theorem room_c {jb db : Nat} {fp : List Nat} {vr : Value} {t : Tp} {br : Bool} {D : Dk} {w : World} (h : JnAt w jb db fp vr t br D) (ht : t.size ≤ 4194304) :
    Calls Tryd.prog 12 #[.pointer (some ⟨jb, 0, none⟩)] w fun e w' => e = .returned (.int .i64 ((D.dur.length : Int) - t.size)) ∧ Fr [] w w' := by
  have hm : D.dur.length ≤ 4194304 := by obtain ⟨_, _, _, hd, _⟩ := h.disk; exact hd.ok.max
  have CS := Lib.hid fun W (hf : Fr [] w W) => size_dk db fp D W (h.disk.keep hf (by simp))
  have HB := Lib.hid h.tape.blk
  clear h
  obtain ⟨rs, hd, sz⟩ := t
  simp only at HB ht ⊢
  generalize D.dur.length = m at *
  go_enter Tryd.func12, Tryd.ntmps12
  go_wp2_with fail
  refine reg_tree (Fr [] w) 11 (.take 0 (.take 1 (.take 2 (.take 3 (.take 5 (.take 6 (.take 7 (.take 8 (.take 9 (.one 4 (.take 10 (.one 11 .nil)))))))))))) (by kernel_rfl) (by kernel_rfl) (by kernel_rfl) rfl ?_
  have F0 : Fr [] w w.drew := Fr.drew _ _
  generalize w.drew = WC at F0 ⊢
  iterate 9 (refine tree_take (v := ?_) rfl rfl rfl F0 (fun w hS => ?_) ?_; rotate_left; (focus (have X := hS.keep HB.out (by simp); have c2 : World.cell? _ ⟨jb, 2, none⟩ = some (.int .i64 sz) := cell_of_blk X 2; have c3 : World.cell? _ ⟨jb, 3, none⟩ = some (.pointer (some ⟨db, 0, none⟩)) := cell_of_blk X 3; clear hS X; go_simp; rfl)); simp only [List.setIfInBounds_toArray, List.set_cons_succ, List.set_cons_zero])
  refine tree_one rfl rfl (fun K hK => ?_)
  go_simp
  refine (CS.out _ F0).mono ?_
  rintro e w2 ⟨rfl, rfl⟩
  refine hK _ _ F0 ?_
  clear hK K
  try simp only [Act.put, List.setIfInBounds_toArray, List.set_cons_succ, List.set_cons_zero]
  (refine tree_take (v := ?_) rfl rfl rfl F0 (fun w hS => ?_) ?_; rotate_left; (focus (clear hS; go_simp; rw [IntWalk.i64_in ((m : Int) - (sz : Int)) (by omega)])); simp only [List.setIfInBounds_toArray, List.set_cons_succ, List.set_cons_zero])
  refine tree_last rfl rfl (fun K hK => ?_)
  go_simp
  try go_upon
  try go_simp
  refine hK _ _ ?_
  clear hK K
  refine noPanicN ?_
  go_wp2_with fail
  go_ret
  exact ⟨rfl, F0⟩
theorem room_nil (w : World) : Calls Tryd.prog 12 #[.pointer none] w fun e w' => e = .returned (.int .i64 0) ∧ w = w' := by
  go_enter Tryd.func12, Tryd.ntmps12
  go_wp2
  go_ret
  exact ⟨rfl, rfl⟩
set_option maxRecDepth 100000 in
theorem records_c {jb db : Nat} {fp : List Nat} {vr : Value} {t : Tp} {br : Bool} {D : Dk} {w : World} (h : JnAt w jb db fp vr t br D) (ht : t.recs.length ≤ 1000000000) :
    Calls Tryd.prog 13 #[.pointer (some ⟨jb, 0, none⟩)] w fun e w' => ∃ v', e = .returned v' ∧ w'.ownsRow 0 9 1 v' t.recs.length (t.recs.map Value.string) ∧ (∀ g, v'.ownBlock = some g → w.heap.size ≤ g) ∧ Fr [] w w' := by
  have CC := Lib.hid (clone_c vr t.recs w h.tape.row ht)
  have c0 : w.cell? ⟨jb, 0, none⟩ = some vr := cell_of_blk h.tape.blk 0
  clear h
  go_enter Tryd.func13, Tryd.ntmps13
  go_wp2_with fail
  refine CC.out.mono ?_
  rintro e w2 ⟨v', rfl, h1, h2, h3⟩
  have H1 := Lib.hid h1; have H2 := Lib.hid h2; have H3 := Lib.hid h3
  clear h1 h2 h3 CC
  go_wp2_with fail
  go_ret
  exact ⟨v', rfl, H1.out, H2.out, H3.out⟩
theorem records_nil (w : World) : Calls Tryd.prog 13 #[.pointer none] w fun e w' => e = .returned (.slice none 0 0) ∧ w = w' := by
  go_enter Tryd.func13, Tryd.ntmps13
  go_wp2
  go_ret
  exact ⟨rfl, rfl⟩

/-! ### Plain facts -/
theorem ldM_size (s : List UInt8) : ∀ (f : Nat) (t t' : Tp), ldM s f t = some t' → t.size ≤ s.length → t'.size ≤ s.length := by
  intro f
  induction f with
  | zero => intro t t' h; simp [ldM] at h
  | succ f ih =>
    intro t t' h hs
    rw [ldM] at h
    split at h
    · cases h; exact hs
    · split at h
      · cases h; exact hs
      · split at h
        · cases h
        · split at h
          · cases h
          · rename_i r q hg
            split at h
            · cases h
            · split at h
              · rename_i hm
                refine ih _ _ h ?_
                have := congrArg List.length hm
                simp only [List.length_take, List.length_drop] at this
                simp only [Tp.add]
                omega
              · cases h
theorem openM_size {s : List UInt8} {t : Tp} (h : openM s = some t) : t.size ≤ s.length := ldM_size s _ _ _ h (Nat.zero_le _)
theorem dropWhile_all {p : UInt8 → Bool} : ∀ m : List UInt8, (∀ x, x ∈ m.dropWhile p → p x = true) → ∀ x, x ∈ m → p x = true
  | [], _, x, hx => by cases hx
  | y :: ys, h, x, hx => by
    cases hy : p y with
    | true =>
      rw [List.dropWhile_cons_of_pos hy] at h
      rcases List.mem_cons.1 hx with rfl | hx
      · exact hy
      · exact dropWhile_all ys h x hx
    | false =>
      rw [List.dropWhile_cons_of_neg (by simp [hy])] at h
      exact h x hx
theorem dropWhile_nil {p : UInt8 → Bool} : ∀ m : List UInt8, (∀ x, x ∈ m → p x = true) → m.dropWhile p = []
  | [], _ => rfl
  | y :: ys, h => by rw [List.dropWhile_cons_of_pos (h y (by simp))]; exact dropWhile_nil ys fun x hx => h x (by simp [hx])
theorem trim_iff (l : List UInt8) : trimB l 0 = [] ↔ l.all (· == 0) = true := by
  unfold trimB trimLeftB trimRightB
  rw [List.all_eq_true]
  constructor
  · intro h x hx
    have h2 := dropWhile_all (p := (· == 0)) (List.dropWhile (· == 0) l.reverse).reverse (by rw [h]; simp)
    exact dropWhile_all l.reverse (fun y hy => h2 y (by simpa using hy)) x (by simpa using hx)
  · intro h
    rw [dropWhile_nil l.reverse (fun x hx => h x (by simpa using hx))]
    rfl

end Go.Proofs.YtklmefkbkphceaaDoor
