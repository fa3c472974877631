/-
  The journal's laws: JournalRoom, the plain part.
-/
import Derived.Test.YtklmefkbkphceaaDoorQL10r
import Derived.Test.YtklmefkbkphceaaDoorQL10q
namespace Go.Proofs.YtklmefkbkphceaaDoor
open Go.RowKit Go.Lib

theorem apps_long (D : Dk) (t : Tp) (br : Bool) (l : List ByteArray) (h : l.any longB = true) : D.apps t br l = (100, t, br, D) := by simp [Dk.apps, h]
theorem apps_broken (D : Dk) (t : Tp) (l : List ByteArray) : D.apps t true l = (100, t, true, D) := by simp [Dk.apps]
theorem apps_none (D : Dk) (L : List ByteArray) (h : encN L ≤ D.dur.length) : D.apps (tp0.adds L) false [] = (0, tp0.adds L, false, D) := by
  have hsz : (tp0.adds L).size = encN L := by rw [tpL_size, enc_size]
  simp only [Dk.apps, List.any_nil, Bool.or_self, Bool.false_eq_true, if_false, if_true]
  rw [if_neg (by rw [hsz]; simp [encAll]; omega)]
def xL : List ByteArray := [⟨#[120]⟩]
theorem xL_n : encN xL = 35 := by
  show 33 + ((encZ (2 * 1)).length + 1) + 0 = 35
  rw [encZ_one (by omega)]; rfl
/-- One record more where the power is off. -/
theorem apps_off_small (D : Dk) (L : List ByteArray) (h : (D.dur.length : Int) - encN L < 35) : D.apps (tp0.adds L) false xL = (101, tp0.adds L, false, D) := by
  have hsz : (tp0.adds L).size = encN L := by rw [tpL_size, enc_size]
  have hx : xL.any longB = false := rfl
  simp only [Dk.apps, hx, Bool.or_self, Bool.false_eq_true, if_false]
  rw [if_pos (by rw [enc_size, xL_n, hsz]; omega)]
theorem apps_off (D : Dk) (L : List ByteArray) (ho : D.off = true) (h : ¬ (D.dur.length : Int) - encN L < 35) : D.apps (tp0.adds L) false xL = (91, tp0.adds L, true, D) := by
  have hsz : (tp0.adds L).size = encN L := by rw [tpL_size, enc_size]
  have hx : xL.any longB = false := rfl
  simp only [Dk.apps, hx, Bool.or_self, Bool.false_eq_true, if_false]
  rw [if_neg (by rw [enc_size, xL_n, hsz]; omega), if_neg (by simp [xL])]
  simp [Dk.runs, Dk.doE, Dk.doD, Dk.writeE, Dk.writeD, ho]

/-! ### Slices that live on beside a journal -/
/-- A slice's block is none of these, and is there. -/
def Far (w : World) (v : Value) (f : List Nat) : Prop := ∀ g, v.ownBlock = some g → g ∉ f ∧ g < w.heap.size
theorem Far.upd {w w' : World} {v : Value} {f1 f2 : List Nat} (h : Far w v f1) (hu : Upd f1 f2 w w') : Far w' v f2 := fun g hg => by
  obtain ⟨h1, h2⟩ := h g hg
  refine ⟨fun hm => ?_, Nat.lt_of_lt_of_le h2 hu.fr.size⟩
  rcases hu.sub g hm with h | h
  · exact h1 h
  · omega
theorem Far.same {w w' : World} {v : Value} {f : List Nat} (h : Far w v f) (hf : Fr [] w w') : Far w' v f := fun g hg => ⟨(h g hg).1, Nat.lt_of_lt_of_le (h g hg).2 hf.size⟩
theorem Sl.upd {w w' : World} {v : Value} {n : Nat} {cs : List Value} {f1 f2 : List Nat} (h : Sl w v n cs) (hf : Far w v f1) (hu : Upd f1 f2 w w') : Sl w' v n cs := h.fr hu.fr (fun g hg => (hf g hg).1)
/-- All the blocks of a disk and its one journal. -/
def jsB (jb : Nat) (vr : Value) (fp : List Nat) : List Nat := tpB jb vr ++ fp
theorem JS.lt {w0 w : World} {jb db : Nat} {fp : List Nat} {D : Dk} {vr : Value} {t : Tp} {br : Bool} (h : JS w0 w db fp D [⟨jb, vr, t, br⟩]) : ∀ i, i ∈ jsB jb vr fp → i < w.heap.size := fun i hi => by
  rcases List.mem_append.1 hi with h' | h'
  · exact tape_lt (h.js _ (List.mem_singleton.2 rfl)).1 i h'
  · exact DkAt.lt h.disk i h'
theorem far_new {w0 w w' : World} {jb db : Nat} {fp : List Nat} {D : Dk} {vr v : Value} {t : Tp} {br : Bool} (h : JS w0 w db fp D [⟨jb, vr, t, br⟩]) (hy : ∀ g, v.ownBlock = some g → w.heap.size ≤ g ∧ g < w'.heap.size) : Far w' v (jsB jb vr fp) := fun g hg =>
  ⟨fun hm => by have := h.lt g hm; have := (hy g hg).1; omega, (hy g hg).2⟩
/-- What Append leaves, with its blocks. -/
def AppU (w0 : World) (jb db : Nat) (fp : List Nat) (vr : Value) (w : World) (o : Int × Tp × Bool × Dk) (e : Ending) (w' : World) : Prop := e = .returned (.int .i64 o.1) ∧ ∃ vr' fp', JS w0 w' db fp' o.2.2.2 [⟨jb, vr', o.2.1, o.2.2.1⟩] ∧ Upd (jsB jb vr fp) (jsB jb vr' fp') w w'
theorem app_u {w0 w : World} {jb db : Nat} {fp : List Nat} {D : Dk} {vr : Value} {L : List ByteArray} {br : Bool} (h : JS w0 w db fp D [⟨jb, vr, tp0.adds L, br⟩]) (hR : RndAt w0) (l : List ByteArray) (a : Option Addr) (cap : Nat) (hs : Sl w (.slice a l.length cap) l.length (l.map Value.string))
    (hL : (encAll head0 L).length ≤ D.dur.length) (hll : l.length ≤ 1000) (hN : l.any longB = false → (encAll (tp0.adds L).head l).length ≤ 1000000000) (hp : D.pend.length ≤ 4000000000) : Calls Tryd.prog 11 #[.pointer (some ⟨jb, 0, none⟩), .slice a l.length cap] w (AppU w0 jb db fp vr w (D.apps (tp0.adds L) br l)) := by
  have hm : D.dur.length ≤ 4194304 := by obtain ⟨_, _, _, hd, _⟩ := h.disk; exact hd.ok.max
  have hj := h.jn (List.mem_singleton.2 rfl)
  refine (app_c hj l a cap hs (by rw [tpL_head]; exact headOf_size _ _ rfl) (by rw [tpL_size]; exact hL) ?_ (by omega) hN (hR.same h.fr (by simp)) hp).mono fun e w' k => ?_
  · rw [tpL_recs]
    have := encAll_len L head0
    omega
  · obtain ⟨h1, vr', fp', h2, h3⟩ := k
    have hy : ∀ i, i ∈ tpB jb vr ++ fp → w0.heap.size ≤ i := fun i hi => by
      rcases List.mem_append.1 hi with h' | h'
      · exact ((h.js _ (List.mem_singleton.2 rfl)).2 i h').1
      · exact h.young i h'
    have hy2 : ∀ i, i ∈ tpB jb vr' ++ fp' → w0.heap.size ≤ i := fun i hi => by
      rcases h3.sub i hi with h' | h'
      · exact hy i h'
      · exact Nat.le_trans h.fr.size h'
    refine ⟨h1, vr', fp', ⟨h2.disk, h.fr.step h3.fr (fun i hi => .inr (hy i hi)), fun k hk => hy2 k (by simp [hk]), fun j hj => ?_⟩, h3⟩
    obtain rfl := List.mem_singleton.1 hj
    exact ⟨h2.tape, fun k hk => ⟨hy2 k (by simp [hk]), h2.apart k hk⟩⟩

theorem rec_u {w0 w : World} {db : Nat} {fp : List Nat} {D : Dk} {js : List Jb} {b : Nat} {vr : Value} {L : List ByteArray} {br : Bool} (h : JS w0 w db fp D js) (hj : ⟨b, vr, tp0.adds L, br⟩ ∈ js) (hl : L.length ≤ 1000000) :
    Calls Tryd.prog 13 #[.pointer (some ⟨b, 0, none⟩)] w fun e w' => ∃ a cap, e = .returned (.slice a L.length cap) ∧ Sl w' (.slice a L.length cap) L.length (L.map Value.string) ∧ Fr [] w w' ∧ ∀ g, (Value.slice a L.length cap).ownBlock = some g → w.heap.size ≤ g ∧ g < w'.heap.size := by
  refine (records_c (h.jn hj) (by rw [tpL_recs]; omega)).mono ?_
  rintro e w' ⟨v', rfl, h1, h2, h3⟩
  rw [tpL_recs] at h1
  have h4 := sl_of_row h1
  obtain ⟨a, cap, rfl⟩ := h4.val
  exact ⟨a, cap, rfl, h4, h3, fun g hg => ⟨h2 g hg, ownsRow_lt h1 hg⟩⟩

end Go.Proofs.YtklmefkbkphceaaDoor
