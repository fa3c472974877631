/-
  journal: what is too long; a copy of the records.
-/
import Derived.Test.YtbogljpafpkikaaGreatDoorQJB
namespace Go.Proofs.YtbogljpafpkikaaGreatDoor
open Go.RowKit Go.Lib

def longB (s : ByteArray) : Bool := decide (65536 < s.size)
theorem isLong_c (s : ByteArray) (w : World) : Calls Tryz.prog 30 #[.string s] w fun e w' => e = .returned (.bool (longB s)) ∧ w = w' := by
  unfold longB
  by_cases h : 65536 < s.size
  · go_enter Tryz.func30, Tryz.ntmps30
    go_wp2
    go_ret
    exact ⟨by simp [h]; try omega, rfl⟩
  · go_enter Tryz.func30, Tryz.ntmps30
    go_wp2
    go_ret
    exact ⟨by simp [h]; try omega, rfl⟩

set_option maxRecDepth 100000 in
set_option maxHeartbeats 1000000 in
theorem indexLong_c (a : Option Addr) (cap : Nat) (l : List ByteArray) (w : World) (hs : Sl w (.slice a l.length cap) l.length (l.map Value.string)) :
    Calls Tryz.prog 60 #[.slice a l.length cap, .func (.func 30) #[] #[]] w fun e w' => ∃ i : Int, e = .returned (.int .i64 i) ∧ decide (0 ≤ i) = l.any longB ∧ w = w' := by
  have hlen := hs.len
  have HS := Lib.hid hs
  clear hs
  go_enter Tryz.func60, Tryz.ntmps60
  go_wp2_with fail
  go_loopw [8] (fun i wr => ∃ (k : Nat), i = .int .i64 k ∧ k ≤ l.length ∧ wr = w ∧ Hid (l.any longB = (l.drop k).any longB)) (fun i _ => l.length - (RowKit.intOf i).toNat)
  case atStart => exact ⟨0, rfl, Nat.zero_le _, rfl, Lib.hid rfl⟩
  case round =>
    obtain ⟨k, rfl, hk, rfl, HA⟩ := hrel
    by_cases hlt : k < l.length
    · obtain ⟨b, off, rfl, hc⟩ := HS.out.at_ (by omega)
      have ck : wr.cell? ⟨b, off + k, none⟩ = some (.string l[k]) := hc k _ (by simp [hlt])
      have HD : Hid ((l.drop k).any longB = (longB l[k] || (l.drop (k + 1)).any longB)) := Lib.hid (by rw [List.drop_eq_getElem_cons hlt, List.any_cons])
      clear hc
      generalize l[k] = s at *
      have HC := Lib.hid (isLong_c s wr)
      cases hl : longB s with
      | true =>
        rw [hl] at HC
        have HL := Lib.hid hl
        clear hl
        go_wp2_with fail
        refine HC.out.mono ?_
        rintro e w2 ⟨rfl, rfl⟩
        go_wp2_with fail
        go_ret
        exact ⟨k, rfl, by rw [HA.out, HD.out, HL.out]; simp, rfl⟩
      | false =>
        rw [hl] at HC
        have HL := Lib.hid hl
        clear hl
        go_wp2_with fail
        refine HC.out.mono ?_
        rintro e w2 ⟨rfl, rfl⟩
        go_wp2_with fail
        go_roundw
        case rel => exact ⟨k + 1, by go_num, hlt, trivial, Lib.hid (by rw [HA.out, HD.out, HL.out]; rfl)⟩
        case measure => simp [RowKit.intOf]; omega
    · have he : k = l.length := by omega
      subst he
      go_wp2_with fail
      go_ret
      exact ⟨-1, rfl, by rw [HA.out]; simp, rfl⟩

set_option maxRecDepth 100000 in
theorem containsLong_c (a : Option Addr) (cap : Nat) (l : List ByteArray) (w : World) (hs : Sl w (.slice a l.length cap) l.length (l.map Value.string)) :
    Calls Tryz.prog 31 #[.slice a l.length cap, .func (.func 30) #[] #[]] w fun e w' => e = .returned (.bool (l.any longB)) ∧ w = w' := by
  have HC := Lib.hid (indexLong_c a cap l w hs)
  clear hs
  go_enter Tryz.func31, Tryz.ntmps31
  go_wp2_with fail
  refine HC.out.mono ?_
  rintro e w2 ⟨i, rfl, hi, rfl⟩
  have HI := Lib.hid hi
  clear hi HC
  go_wp2_with fail
  go_ret
  exact ⟨by rw [HI.out]; rfl, rfl⟩

theorem row_zero0 {w : World} {base : Nat} {e : TypeId} {size : Nat} {v : Value} {n : Nat} {xs : List Value} (h : w.ownsRow base e size v n xs) : w.ownsRow 0 e size v n xs := by
  refine ⟨h.1, h.2.imp id ?_⟩
  rintro ⟨g, cap, cur, rfl, h1, h2⟩
  exact ⟨g, cap, cur, rfl, Nat.zero_le _, h2⟩
theorem row_base {w : World} {base : Nat} {e : TypeId} {size : Nat} {v : Value} {n : Nat} {xs : List Value} (h : w.ownsRow base e size v n xs) {g : Nat} (hg : v.ownBlock = some g) : base ≤ g := by
  rcases h.2 with ⟨rfl, _⟩ | ⟨g', cap, cur, rfl, h1, _⟩
  · cases hg
  · simp [Value.ownBlock] at hg; omega

theorem clone_c (vr : Value) (rs : List ByteArray) (w : World) (h : w.ownsRow 0 9 1 vr rs.length (rs.map Value.string)) (hl : rs.length ≤ 1000000000) :
    Calls Tryz.prog 32 #[vr] w fun e w' => ∃ v', e = .returned v' ∧ w'.ownsRow 0 9 1 v' rs.length (rs.map Value.string) ∧ (∀ g, v'.ownBlock = some g → w.heap.size ≤ g) ∧ Fr [] w w' := by
  rcases h.2 with ⟨rfl, h0⟩ | ⟨g, cap, cur, rfl, hbg, hg, hnc, hcm, hcs, htake⟩
  · refine (Tryz.slices_Clone_string_nil 0 0 w).mono ?_
    rintro e w' ⟨rfl, rfl⟩
    exact ⟨_, rfl, h, (by intro g hg; cases hg), Fr.refl _ _⟩
  · refine (Tryz.slices_Clone_string g 0 rs.length cap rs w (Nat.le_refl _) (by omega) (fun j hj => ?_)).mono ?_
    · have := h.cells (g := g) rfl j (.string (rs.getD j ByteArray.empty)) (by simp [hj])
      rw [add_at] at this
      rw [Nat.zero_add]
      exact this
    · rintro e w' ⟨v', rfl, h1, h2, h3⟩
      rw [List.take_length] at h1
      exact ⟨v', rfl, row_zero0 h1, fun g hg => row_base h1 hg, Fr.of_below _ h3⟩

end Go.Proofs.YtbogljpafpkikaaGreatDoor

/-
  journal: a journal in memory; Room, Records.
-/
namespace Go.Proofs.YtbogljpafpkikaaGreatDoor
open Go.RowKit Go.Lib

/-- A journal in memory, with its disk. -/
structure JnAt (w : World) (jb db : Nat) (fp : List Nat) (vr : Value) (t : Tp) (br : Bool) (D : Dk) : Prop where
  tape : TapeAt w jb [.pointer (some ⟨db, 0, none⟩), .bool br] 71 vr t
  disk : DkA w db fp D
  apart : ∀ k, k ∈ tpB jb vr → k ∉ fp
theorem JnAt.same {w w' : World} {jb db : Nat} {fp : List Nat} {vr : Value} {t : Tp} {br : Bool} {D : Dk} (h : JnAt w jb db fp vr t br D) (hf : Fr [] w w') : JnAt w' jb db fp vr t br D :=
  ⟨h.tape.same hf, h.disk.keep hf (by simp), h.apart⟩

set_option maxRecDepth 100000 in
set_option maxHeartbeats 1000000 in
theorem room_c {jb db : Nat} {fp : List Nat} {vr : Value} {t : Tp} {br : Bool} {D : Dk} {w : World} (h : JnAt w jb db fp vr t br D) (ht : t.size ≤ 4194304) :
    Calls Tryz.prog 18 #[.pointer (some ⟨jb, 0, none⟩)] w fun e w' => e = .returned (.int .i64 ((D.dur.length : Int) - t.size)) ∧ Fr [] w w' := by
  have hm : D.dur.length ≤ 4194304 := by obtain ⟨_, _, _, hd, _⟩ := h.disk; exact hd.ok.max
  have CS := Lib.hid fun W (hf : Fr [] w W) => size_dk db fp D W (h.disk.keep hf (by simp))
  have HB := Lib.hid h.tape.blk
  clear h
  obtain ⟨rs, hd, sz⟩ := t
  simp only at HB ht ⊢
  generalize D.dur.length = m at *
  go_enter Tryz.func18, Tryz.ntmps18
  go_wp2_with fail
  refine reg_tree (Fr [] w) 11 (.take 0 (.take 1 (.take 2 (.take 3 (.take 5 (.take 6 (.take 7 (.take 8 (.take 9 (.one 4 (.take 10 (.one 11 .nil)))))))))))) (by kernel_rfl) (by kernel_rfl) (by kernel_rfl) rfl ?_
  have F0 : Fr [] w w.drew := Fr.drew _ _
  generalize w.drew = WC at F0 ⊢
  iterate 9 (refine tree_take (v := ?_) rfl rfl rfl F0 (fun w hS => ?_) ?_; rotate_left; (focus (have X := hS.keep HB.out (by simp); have c2 : World.cell? _ ⟨jb, 2, none⟩ = some (.int .i64 sz) := cell_of_blk X 2; have c3 : World.cell? _ ⟨jb, 3, none⟩ = some (.pointer (some ⟨db, 0, none⟩)) := cell_of_blk X 3; clear hS X; go_simp; rfl)); simp only [List.setIfInBounds_toArray, List.set_cons_succ, List.set_cons_zero])
  refine tree_one rfl rfl (fun K hK => ?_)
  go_simp
  refine (CS.out _ F0).mono ?_
  rintro e w2 ⟨rfl, rfl⟩
  refine hK _ _ F0 ?_
  clear hK K
  try simp only [Act.put, List.setIfInBounds_toArray, List.set_cons_succ, List.set_cons_zero]
  (refine tree_take (v := ?_) rfl rfl rfl F0 (fun w hS => ?_) ?_; rotate_left; (focus (clear hS; go_simp; rw [IntWalk.i64_in ((m : Int) - (sz : Int)) (by omega)])); simp only [List.setIfInBounds_toArray, List.set_cons_succ, List.set_cons_zero])
  refine tree_last rfl rfl (fun K hK => ?_)
  go_simp
  try go_upon
  try go_simp
  refine hK _ _ ?_
  clear hK K
  refine noPanicN ?_
  go_wp2_with fail
  go_ret
  exact ⟨rfl, F0⟩
theorem room_nil (w : World) : Calls Tryz.prog 18 #[.pointer none] w fun e w' => e = .returned (.int .i64 0) ∧ w = w' := by
  go_enter Tryz.func18, Tryz.ntmps18
  go_wp2
  go_ret
  exact ⟨rfl, rfl⟩
set_option maxRecDepth 100000 in
theorem records_c {jb db : Nat} {fp : List Nat} {vr : Value} {t : Tp} {br : Bool} {D : Dk} {w : World} (h : JnAt w jb db fp vr t br D) (ht : t.recs.length ≤ 1000000000) :
    Calls Tryz.prog 17 #[.pointer (some ⟨jb, 0, none⟩)] w fun e w' => ∃ v', e = .returned v' ∧ w'.ownsRow 0 9 1 v' t.recs.length (t.recs.map Value.string) ∧ (∀ g, v'.ownBlock = some g → w.heap.size ≤ g) ∧ Fr [] w w' := by
  have CC := Lib.hid (clone_c vr t.recs w h.tape.row ht)
  have c0 : w.cell? ⟨jb, 0, none⟩ = some vr := cell_of_blk h.tape.blk 0
  clear h
  go_enter Tryz.func17, Tryz.ntmps17
  go_wp2_with fail
  refine CC.out.mono ?_
  rintro e w2 ⟨v', rfl, h1, h2, h3⟩
  have H1 := Lib.hid h1; have H2 := Lib.hid h2; have H3 := Lib.hid h3
  clear h1 h2 h3 CC
  go_wp2_with fail
  go_ret
  exact ⟨v', rfl, H1.out, H2.out, H3.out⟩
theorem records_nil (w : World) : Calls Tryz.prog 17 #[.pointer none] w fun e w' => e = .returned (.slice none 0 0) ∧ w = w' := by
  go_enter Tryz.func17, Tryz.ntmps17
  go_wp2
  go_ret
  exact ⟨rfl, rfl⟩

/-! ### Plain facts -/
theorem ldM_size (s : List UInt8) : ∀ (f : Nat) (t t' : Tp), ldM s f t = some t' → t.size ≤ s.length → t'.size ≤ s.length := by
  intro f
  induction f with
  | zero => intro t t' h; simp [ldM] at h
  | succ f ih =>
    intro t t' h hs
    rw [ldM] at h
    split at h
    · cases h; exact hs
    · split at h
      · cases h; exact hs
      · split at h
        · cases h
        · split at h
          · cases h
          · rename_i r q hg
            split at h
            · cases h
            · split at h
              · rename_i hm
                refine ih _ _ h ?_
                have := congrArg List.length hm
                simp only [List.length_take, List.length_drop] at this
                simp only [Tp.add]
                omega
              · cases h
theorem openM_size {s : List UInt8} {t : Tp} (h : openM s = some t) : t.size ≤ s.length := ldM_size s _ _ _ h (Nat.zero_le _)
theorem dropWhile_all {p : UInt8 → Bool} : ∀ m : List UInt8, (∀ x, x ∈ m.dropWhile p → p x = true) → ∀ x, x ∈ m → p x = true
  | [], _, x, hx => by cases hx
  | y :: ys, h, x, hx => by
    cases hy : p y with
    | true =>
      rw [List.dropWhile_cons_of_pos hy] at h
      rcases List.mem_cons.1 hx with rfl | hx
      · exact hy
      · exact dropWhile_all ys h x hx
    | false =>
      rw [List.dropWhile_cons_of_neg (by simp [hy])] at h
      exact h x hx
theorem dropWhile_nil {p : UInt8 → Bool} : ∀ m : List UInt8, (∀ x, x ∈ m → p x = true) → m.dropWhile p = []
  | [], _ => rfl
  | y :: ys, h => by rw [List.dropWhile_cons_of_pos (h y (by simp))]; exact dropWhile_nil ys fun x hx => h x (by simp [hx])
theorem trim_iff (l : List UInt8) : trimB l 0 = [] ↔ l.all (· == 0) = true := by
  unfold trimB trimLeftB trimRightB
  rw [List.all_eq_true]
  constructor
  · intro h x hx
    have h2 := dropWhile_all (p := (· == 0)) (List.dropWhile (· == 0) l.reverse).reverse (by rw [h]; simp)
    exact dropWhile_all l.reverse (fun y hy => h2 y (by simpa using hy)) x (by simpa using hx)
  · intro h
    rw [dropWhile_nil l.reverse (fun x hx => h x (by simpa using hx))]
    rfl

end Go.Proofs.YtbogljpafpkikaaGreatDoor

/-
  journal: calls on the disk, one behind the other, up to the first error.
-/
namespace Go.Proofs.YtbogljpafpkikaaGreatDoor
open Go.RowKit Go.Lib

/-- A call on a disk. -/
inductive Dop where
  | write (at_ : Int) (s : ByteArray)
  | sync
def Dk.doE (D : Dk) : Dop → Int
  | .write a s => D.writeE a s
  | .sync => D.syncE
def Dk.doD (D : Dk) : Dop → Dk
  | .write a s => D.writeD a s
  | .sync => D.syncD
/-- Calls up to the first error. -/
def Dk.runs (D : Dk) : List Dop → Int × Dk
  | [] => (0, D)
  | o :: l => if D.doE o = 0 then (D.doD o).runs l else (D.doE o, D.doD o)
theorem doD_pend (D : Dk) (o : Dop) : (D.doD o).pend.length ≤ D.pend.length + 1 := by
  cases o with
  | write a s =>
    simp only [Dk.doD, Dk.writeD]
    split
    · omega
    · split
      · simp only [Dk.write, Dk.use]
        split <;> simp [Dk.put]
      · omega
  | sync =>
    simp only [Dk.doD, Dk.syncD]
    split
    · omega
    · simp [Dk.sync]

def syncV (db : Nat) : Fv := ⟨38, #[.pointer (some ⟨db, 0, none⟩)], #[]⟩
/-- A value that stands for a call. -/
def OkF (w : World) (jb db : Nat) (fp : List Nat) : Dop × Fv → Prop
  | (.sync, f) => f = syncV db
  | (.write a s, f) => ∃ k, f = wrV k ∧ WrAt w k jb a s ∧ (k ∉ fp ∧ k + 1 ∉ fp ∧ k + 2 ∉ fp) ∧ -9223372036854775808 ≤ a ∧ a ≤ 9223372036854775807 ∧ s.size ≤ 9223372036854775807
theorem ent_sync : Ent 38 := fun args w => enters_of Tryz.func38 (by kernel_rfl) rfl args w
theorem ent_wr : Ent 64 := fun args w => enters_of Tryz.func64 (by kernel_rfl) rfl args w

theorem runF_ops {jb db : Nat} {vr : Value} {hd : ByteArray} {n : Nat} {br : Value} {fp0 : List Nat} {w : World} (hJ : w.heap[jb]? = some (.cells (tpC vr hd n [.pointer (some ⟨db, 0, none⟩), br]) 71 (0, 0))) (hj : jb ∉ fp0) :
    ∀ (l : List (Dop × Fv)) (D : Dk) (fp : List Nat) (W : World), (∀ x, x ∈ l → OkF w jb db fp0 x) → DkA W db fp D → Upd fp0 fp w W → D.pend.length + l.length ≤ 4294967296 →
      RunF fp0 w (l.map (·.2)) W fun n W' => n = (D.runs (l.map (·.1))).1 ∧ ∃ fp', DkA W' db fp' (D.runs (l.map (·.1))).2 ∧ Upd fp0 fp' w W'
  | [], D, fp, W, _, hD, hU, _ => ⟨rfl, fp, hD, hU⟩
  | (o, f) :: l, D, fp, W, hl, hD, hU, hp => by
    have next : ∀ (e : Ending) (W2 : World), DkStep db fp (.int .i64 (D.doE o)) (D.doD o) W e W2 → ∃ n : Int, e = .returned (.int .i64 n) ∧ Fr fp0 w W2 ∧ if n = 0 then RunF fp0 w (l.map (·.2)) W2 (fun n W' => n = (D.runs (o :: l.map (·.1))).1 ∧ ∃ fp', DkA W' db fp' (D.runs (o :: l.map (·.1))).2 ∧ Upd fp0 fp' w W')
        else n = (D.runs (o :: l.map (·.1))).1 ∧ ∃ fp', DkA W2 db fp' (D.runs (o :: l.map (·.1))).2 ∧ Upd fp0 fp' w W2 := by
      rintro e W2 ⟨rfl, fp', h1, h2⟩
      have hU2 := hU.trans h2
      refine ⟨_, rfl, hU2.fr, ?_⟩
      by_cases h0 : D.doE o = 0
      · rw [if_pos h0]
        have := runF_ops hJ hj l (D.doD o) fp' W2 (fun x hx => hl x (by simp [hx])) h1 hU2 (by have := doD_pend D o; simp at hp; omega)
        simp only [Dk.runs, if_pos h0]
        exact this
      · rw [if_neg h0]
        simp only [Dk.runs, if_neg h0]
        exact ⟨trivial, fp', h1, hU2⟩
    have hk := hl (o, f) (by simp)
    have hout : ∀ k, k < w.heap.size → k ∉ fp0 → k ∉ fp := fun k h1 h2 h3 => by
      rcases hU.sub k h3 with h | h
      · exact h2 h
      · omega
    cases o with
    | sync =>
      obtain rfl : f = syncV db := hk
      exact ⟨ent_sync, (sync_dk db fp D W hD).mono next⟩
    | write a s =>
      obtain ⟨k, rfl, hW, hn, h1, h2, h3⟩ := hk
      have l1 := blk_lt hW.j
      have l2 := blk_lt hW.a
      have l3 := blk_lt hW.s
      exact ⟨ent_wr, (writing1_c k jb db fp D a s vr hd n br W (hW.fr hU.fr hn) (hU.fr.keep hJ hj) hD (hout _ (blk_lt hJ) hj) ⟨hout _ l1 hn.1, hout _ l2 hn.2.1, hout _ l3 hn.2.2⟩ h1 h2 h3 (by simp at hp; omega)).mono next⟩

/-- The values that stand for calls, in a block. -/
theorem sl_vals {w : World} {b : Nat} {ty : TypeId} {l : List Value} {n : Nat} (h : w.heap[b]? = some (.cells l.toArray ty (0, 0))) (_hl : l.length = n) (hn : n ≤ 9223372036854775807) : Sl w (.slice (some ⟨b, 0, none⟩) n n) n l :=
  ⟨_, _, rfl, Nat.le_refl _, hn, fun _ => ⟨_, 0, rfl, fun j u hu => by
    rw [Nat.zero_add, cell_of_blk h]
    simpa using hu⟩⟩

end Go.Proofs.YtbogljpafpkikaaGreatDoor
