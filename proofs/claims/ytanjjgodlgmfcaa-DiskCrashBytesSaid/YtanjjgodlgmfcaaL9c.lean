/-
  A disk that a law has made, beside a buffer of its own; how the model goes on.
-/
import Derived.Test.YtanjjgodlgmfcaaL9b
namespace Go.Proofs.Ytanjjgodlgmfcaa
open Go.RowKit Go.Lib

/-- A disk and a buffer, both made since the world w, apart from each other. -/
structure OwnB (w w' : World) (b : Nat) (fp : List Nat) (D : Dk) (bb : Nat) (c : List UInt8) : Prop where
  own : Own w w' b fp D
  buf : BytesAt w' bb 5 c
  ne : bb ∉ fp
  new : w.heap.size ≤ bb

def OwnBStep (w w1 : World) (b : Nat) (fp : List Nat) (r : Value) (D : Dk) (bb : Nat) (c : List UInt8) (e : Ending) (w' : World) : Prop := e = .returned r ∧ ∃ fp', OwnB w w' b fp' D bb c ∧ Upd fp fp' w1 w'

theorem OwnB.step {w w1 w2 : World} {b bb : Nat} {fp : List Nat} {D D' : Dk} {c : List UInt8} {r : Value} {e : Ending} (h : OwnB w w1 b fp D bb c) (k : DkStep b fp r D' w1 e w2) : OwnBStep w w1 b fp r D' bb c e w2 := by
  obtain ⟨he, fp', h1, h2⟩ := k
  refine ⟨he, fp', ⟨⟨h1, h.own.fr.step h2.fr fun i hi => .inr (h.own.new i hi), fun i hi => ?_⟩, h2.fr.keep h.buf h.ne, fun hm => ?_, h.new⟩, h2⟩
  · rcases h2.sub i hi with h3 | h3
    · exact h.own.new i h3
    · exact Nat.le_trans h.own.fr.size h3
  · rcases h2.sub bb hm with h3 | h3
    · exact h.ne h3
    · have := blk_lt h.buf; omega

theorem OwnB.same {w w1 w2 : World} {b bb : Nat} {fp : List Nat} {D : Dk} {c : List UInt8} (h : OwnB w w1 b fp D bb c) (hf : Fr [] w1 w2) : OwnB w w2 b fp D bb c :=
  ⟨h.own.same hf, hf.keep h.buf (by simp), h.ne, h.new⟩

theorem OwnB.put {w w1 w2 : World} {b bb : Nat} {fp : List Nat} {D : Dk} {c c' : List UInt8} (h : OwnB w w1 b fp D bb c) (hf : Fr [bb] w1 w2) (hb : BytesAt w2 bb 5 c') : OwnB w w2 b fp D bb c' :=
  ⟨⟨h.own.at_.keep hf (fun k hk => by simp only [List.mem_singleton]; exact fun e => h.ne (e ▸ hk)), h.own.fr.step hf (fun i hi => by simp only [List.mem_singleton] at hi; subst hi; exact .inr h.new), h.own.new⟩, hb, h.ne, h.new⟩

/-- A block that is younger than the disk is none of its blocks. -/
theorem OwnB.young {w w1 : World} {b bb : Nat} {fp : List Nat} {D : Dk} {c : List UInt8} (h : OwnB w w1 b fp D bb c) {k : Nat} (hk : w1.heap.size ≤ k) : k ∉ fp ∧ k ≠ bb :=
  ⟨fun hm => by have := h.own.at_.lt k hm; omega, by have := blk_lt h.buf; omega⟩

theorem OwnB.rows {w w1 : World} {b bb : Nat} {fp : List Nat} {D : Dk} {c : List UInt8} (h : OwnB w w1 b fp D bb c) : Below w.heap.size w w1 := h.own.fr.below

theorem writeB {w w1 : World} {b bb : Nat} {fp : List Nat} {D : Dk} {c : List UInt8} (h : OwnB w w1 b fp D bb c) (off : Int) (s : ByteArray) (ho : -9223372036854775808 ≤ off) (ho2 : off ≤ 9223372036854775807) (hs : s.size ≤ 9223372036854775807) (hp : D.pend.length ≤ 4294967296) :
    Calls Try.prog 21 #[.pointer (some ⟨b, 0, none⟩), .int .i64 off, .string s] w1 (OwnBStep w w1 b fp (.int .i64 (D.writeE off s)) (D.writeD off s) bb c) :=
  (write_dk b fp D off s w1 h.own.at_ ho ho2 hs hp).mono fun _ _ k => h.step k
theorem syncB {w w1 : World} {b bb : Nat} {fp : List Nat} {D : Dk} {c : List UInt8} (h : OwnB w w1 b fp D bb c) : Calls Try.prog 23 #[.pointer (some ⟨b, 0, none⟩)] w1 (OwnBStep w w1 b fp (.int .i64 D.syncE) D.syncD bb c) :=
  (sync_dk b fp D w1 h.own.at_).mono fun _ _ k => h.step k
theorem crashB {w w1 : World} {b bb : Nat} {fp : List Nat} {D : Dk} {c : List UInt8} (h : OwnB w w1 b fp D bb c) (sv : Value) (keep : List Int) (torn : Int) (hI : IntsB w1.heap.size w1 sv keep) (hreach : keep.length * 8 ≤ 140737488351232) (hwf : ∀ x, x ∈ keep → -9223372036854775808 ≤ x ∧ x ≤ 9223372036854775807)
    (ht : -9223372036854775808 ≤ torn) (ht2 : torn ≤ 9223372036854775807) :
    Calls Try.prog 25 #[.pointer (some ⟨b, 0, none⟩), sv, .int .i64 torn] w1 (OwnBStep w w1 b fp (.int .i64 0) (D.crash keep torn) bb c) :=
  (crash_dk b fp sv D keep torn w1 h.own.at_ hI hreach hwf ht ht2).mono fun _ _ k => h.step k

/-! ### The model under power -/
/-- Power, and no cut. -/
def Dk.up (D : Dk) : Prop := D.off = false ∧ D.left = 0
theorem up_new (n : Nat) : (Dk.new n).up := ⟨rfl, rfl⟩
theorem write_up {D : Dk} (h : D.up) {o : Nat} {s : ByteArray} (hs : o + s.size ≤ D.dur.length) : D.writeE o s = 0 ∧ D.writeD o s = D.put o s := by
  have hi : insB D.dur.length o s.size = true := by simp [insB]; omega
  have hu : (D.put o s).use = D.put o s := by simp [Dk.use, Dk.put, h.2]
  exact ⟨by simp [Dk.writeE, h.1, hi], by simp [Dk.writeD, h.1, hi, Dk.write, hu]⟩
theorem put_up {D : Dk} (h : D.up) (o : Nat) (s : ByteArray) : (D.put o s).up := h
theorem sync_up {D : Dk} (h : D.up) : D.syncE = 0 ∧ D.syncD = D.sync ∧ D.sync.up := ⟨by simp [Dk.syncE, h.1], by simp [Dk.syncD, h.1], h⟩
theorem read_up {D : Dk} (h : D.up) (hl : D.vis.length = D.dur.length) : D.readE 0 D.dur.length = 0 ∧ D.readS 0 D.dur.length = D.vis := by
  have hi : insB D.dur.length 0 D.dur.length = true := by simp [insB]
  refine ⟨by simp [Dk.readE, h.1, hi], ?_⟩
  simp only [Dk.readS, h.1, hi, Bool.false_eq_true, if_false, if_true, Int.toNat_natCast, Int.toNat_zero, List.drop_zero]
  exact List.take_of_length_le (by omega)

/-- string(b) of a whole block of bytes. -/
theorem wp_bytes_all {P : Program} {w : World} {o : Oper} {a : Act} {K : Act → World → Prop} {Q : Exit → Act → World → Prop} (x : Operand) (src dst e : TypeId) (ho : o.op = .convert src dst x)
    (hs : P.underlying src = some (.slice e)) (he : P.underlying e = some (.int .u8)) (hd : P.underlying dst = some .string)
    (g n cap : Nat) (l : List UInt8) (e' : TypeId) (hx : a.eval x = .slice (some ⟨g, 0, none⟩) n cap) (hb : BytesAt w g e' l) (hn : l.length = n)
    (h : K (a.put o.dst (.string ⟨l.toArray⟩)) w) : o.wp P a w K Q := by
  refine wp_bytes_str x src dst e ho hs he hd g 0 n cap l e' hx hb (by omega) ?_
  rw [List.drop_zero, List.take_of_length_le (by omega)]
  exact h

end Go.Proofs.Ytanjjgodlgmfcaa
