/-
  journal: calls on the disk, one behind the other, up to the first error.
-/
import Derived.Test.YtklmefkbkphceaaDoorQJn9
namespace Go.Proofs.YtklmefkbkphceaaDoor
open Go.RowKit Go.Lib

/-- A call on a disk. -/
inductive Dop where
  | write (at_ : Int) (s : ByteArray)
  | sync
def Dk.doE (D : Dk) : Dop → Int
  | .write a s => D.writeE a s
  | .sync => D.syncE
def Dk.doD (D : Dk) : Dop → Dk
  | .write a s => D.writeD a s
  | .sync => D.syncD
/-- Calls up to the first error. -/
def Dk.runs (D : Dk) : List Dop → Int × Dk
  | [] => (0, D)
  | o :: l => if D.doE o = 0 then (D.doD o).runs l else (D.doE o, D.doD o)
theorem doD_pend (D : Dk) (o : Dop) : (D.doD o).pend.length ≤ D.pend.length + 1 := by
  cases o with
  | write a s =>
    simp only [Dk.doD, Dk.writeD]
    split
    · omega
    · split
      · simp only [Dk.write, Dk.use]
        split <;> simp [Dk.put]
      · omega
  | sync =>
    simp only [Dk.doD, Dk.syncD]
    split
    · omega
    · simp [Dk.sync]

def syncV (db : Nat) : Fv := ⟨26, #[.pointer (some ⟨db, 0, none⟩)], #[]⟩
/-- A value that stands for a call. -/
def OkF (w : World) (jb db : Nat) (fp : List Nat) : Dop × Fv → Prop
  | (.sync, f) => f = syncV db
  | (.write a s, f) => ∃ k, f = wrV k ∧ WrAt w k jb a s ∧ (k ∉ fp ∧ k + 1 ∉ fp ∧ k + 2 ∉ fp) ∧ -9223372036854775808 ≤ a ∧ a ≤ 9223372036854775807 ∧ s.size ≤ 9223372036854775807
theorem ent_sync : Ent 26 := fun args w => enters_of Tryd.func26 (by kernel_rfl) rfl args w
theorem ent_wr : Ent 48 := fun args w => enters_of Tryd.func48 (by kernel_rfl) rfl args w

theorem runF_ops {jb db : Nat} {vr : Value} {hd : ByteArray} {n : Nat} {br : Value} {fp0 : List Nat} {w : World} (hJ : w.heap[jb]? = some (.cells (tpC vr hd n [.pointer (some ⟨db, 0, none⟩), br]) 58 (0, 0))) (hj : jb ∉ fp0) :
    ∀ (l : List (Dop × Fv)) (D : Dk) (fp : List Nat) (W : World), (∀ x, x ∈ l → OkF w jb db fp0 x) → DkA W db fp D → Upd fp0 fp w W → D.pend.length + l.length ≤ 4294967296 →
      RunF fp0 w (l.map (·.2)) W fun n W' => n = (D.runs (l.map (·.1))).1 ∧ ∃ fp', DkA W' db fp' (D.runs (l.map (·.1))).2 ∧ Upd fp0 fp' w W'
  | [], D, fp, W, _, hD, hU, _ => ⟨rfl, fp, hD, hU⟩
  | (o, f) :: l, D, fp, W, hl, hD, hU, hp => by
    have next : ∀ (e : Ending) (W2 : World), DkStep db fp (.int .i64 (D.doE o)) (D.doD o) W e W2 → ∃ n : Int, e = .returned (.int .i64 n) ∧ Fr fp0 w W2 ∧ if n = 0 then RunF fp0 w (l.map (·.2)) W2 (fun n W' => n = (D.runs (o :: l.map (·.1))).1 ∧ ∃ fp', DkA W' db fp' (D.runs (o :: l.map (·.1))).2 ∧ Upd fp0 fp' w W')
        else n = (D.runs (o :: l.map (·.1))).1 ∧ ∃ fp', DkA W2 db fp' (D.runs (o :: l.map (·.1))).2 ∧ Upd fp0 fp' w W2 := by
      rintro e W2 ⟨rfl, fp', h1, h2⟩
      have hU2 := hU.trans h2
      refine ⟨_, rfl, hU2.fr, ?_⟩
      by_cases h0 : D.doE o = 0
      · rw [if_pos h0]
        have := runF_ops hJ hj l (D.doD o) fp' W2 (fun x hx => hl x (by simp [hx])) h1 hU2 (by have := doD_pend D o; simp at hp; omega)
        simp only [Dk.runs, if_pos h0]
        exact this
      · rw [if_neg h0]
        simp only [Dk.runs, if_neg h0]
        exact ⟨trivial, fp', h1, hU2⟩
    have hk := hl (o, f) (by simp)
    have hout : ∀ k, k < w.heap.size → k ∉ fp0 → k ∉ fp := fun k h1 h2 h3 => by
      rcases hU.sub k h3 with h | h
      · exact h2 h
      · omega
    cases o with
    | sync =>
      obtain rfl : f = syncV db := hk
      exact ⟨ent_sync, (sync_dk db fp D W hD).mono next⟩
    | write a s =>
      obtain ⟨k, rfl, hW, hn, h1, h2, h3⟩ := hk
      have l1 := blk_lt hW.j
      have l2 := blk_lt hW.a
      have l3 := blk_lt hW.s
      exact ⟨ent_wr, (writing1_c k jb db fp D a s vr hd n br W (hW.fr hU.fr hn) (hU.fr.keep hJ hj) hD (hout _ (blk_lt hJ) hj) ⟨hout _ l1 hn.1, hout _ l2 hn.2.1, hout _ l3 hn.2.2⟩ h1 h2 h3 (by simp at hp; omega)).mono next⟩

/-- The values that stand for calls, in a block. -/
theorem sl_vals {w : World} {b : Nat} {ty : TypeId} {l : List Value} {n : Nat} (h : w.heap[b]? = some (.cells l.toArray ty (0, 0))) (_hl : l.length = n) (hn : n ≤ 9223372036854775807) : Sl w (.slice (some ⟨b, 0, none⟩) n n) n l :=
  ⟨_, _, rfl, Nat.le_refl _, hn, fun _ => ⟨_, 0, rfl, fun j u hu => by
    rw [Nat.zero_add, cell_of_blk h]
    simpa using hu⟩⟩

end Go.Proofs.YtklmefkbkphceaaDoor
