/-
  A disk of a law's own among other things of its own.
-/
import Derived.Test.YtanjjgodlgmfcaaL9d
namespace Go.Proofs.Ytanjjgodlgmfcaa
open Go.RowKit Go.Lib

/-- A disk that was made since w, and other blocks made since w that are none of its own. -/
structure OwnX (w w' : World) (b : Nat) (fp : List Nat) (D : Dk) (os : List Nat) : Prop where
  own : Own w w' b fp D
  sep : ∀ k, k ∈ os → k ∉ fp ∧ w.heap.size ≤ k ∧ k < w'.heap.size

def OwnXU (w w1 : World) (b : Nat) (fp : List Nat) (r : Value) (D : Dk) (os : List Nat) (e : Ending) (w' : World) : Prop := e = .returned r ∧ ∃ fp', OwnX w w' b fp' D os ∧ Upd fp fp' w1 w'

theorem OwnX.dk {w w1 w2 : World} {b : Nat} {fp os : List Nat} {D D' : Dk} {r : Value} {e : Ending} (h : OwnX w w1 b fp D os) (k : DkStep b fp r D' w1 e w2) : OwnXU w w1 b fp r D' os e w2 := by
  obtain ⟨he, fp', h1, h2⟩ := h.own.stepU k
  exact ⟨he, fp', ⟨h1, fun i hi => ⟨h2.notin (h.sep i hi).1 (h.sep i hi).2.2, (h.sep i hi).2.1, Nat.lt_of_lt_of_le (h.sep i hi).2.2 h2.fr.size⟩⟩, h2⟩

/-- Other blocks of the law's own have changed. -/
theorem OwnX.fr {w w1 w2 : World} {b : Nat} {fp os xs : List Nat} {D : Dk} (h : OwnX w w1 b fp D os) (hf : Fr xs w1 w2) (hx : ∀ k, k ∈ xs → k ∈ os) : OwnX w w2 b fp D os :=
  ⟨⟨h.own.at_.keep hf (fun k hk hm => (h.sep k (hx k hm)).1 hk), h.own.fr.step hf (fun i hi => .inr (h.sep i (hx i hi)).2.1), h.own.new⟩, fun k hk => ⟨(h.sep k hk).1, (h.sep k hk).2.1, Nat.lt_of_lt_of_le (h.sep k hk).2.2 hf.size⟩⟩
theorem OwnX.same {w w1 w2 : World} {b : Nat} {fp os : List Nat} {D : Dk} (h : OwnX w w1 b fp D os) (hf : Fr [] w1 w2) : OwnX w w2 b fp D os := h.fr hf (by simp)
theorem OwnX.with {w w1 : World} {b : Nat} {fp os os' : List Nat} {D : Dk} (h : OwnX w w1 b fp D os) (h' : ∀ k, k ∈ os' → k ∉ fp ∧ w.heap.size ≤ k ∧ k < w1.heap.size) : OwnX w w1 b fp D os' := ⟨h.own, h'⟩
/-- A block that was made behind w0 and since then. -/
theorem OwnX.newer {w w0 w1 : World} {b : Nat} {fp os : List Nat} {D : Dk} (h : OwnX w w0 b fp D os) {k : Nat} (h1 : w0.heap.size ≤ k) (h2 : k < w1.heap.size) : k ∉ fp ∧ w.heap.size ≤ k ∧ k < w1.heap.size :=
  ⟨h.own.young h1, Nat.le_trans h.own.fr.size h1, h2⟩

theorem writeX {w w1 : World} {b : Nat} {fp os : List Nat} {D : Dk} (h : OwnX w w1 b fp D os) (off : Int) (s : ByteArray) (ho : -9223372036854775808 ≤ off) (ho2 : off ≤ 9223372036854775807) (hs : s.size ≤ 9223372036854775807) (hp : D.pend.length ≤ 4294967296) :
    Calls Try.prog 21 #[.pointer (some ⟨b, 0, none⟩), .int .i64 off, .string s] w1 (OwnXU w w1 b fp (.int .i64 (D.writeE off s)) (D.writeD off s) os) :=
  (write_dk b fp D off s w1 h.own.at_ ho ho2 hs hp).mono fun _ _ k => h.dk k
theorem syncX {w w1 : World} {b : Nat} {fp os : List Nat} {D : Dk} (h : OwnX w w1 b fp D os) : Calls Try.prog 23 #[.pointer (some ⟨b, 0, none⟩)] w1 (OwnXU w w1 b fp (.int .i64 D.syncE) D.syncD os) :=
  (sync_dk b fp D w1 h.own.at_).mono fun _ _ k => h.dk k
theorem cutX {w w1 : World} {b : Nat} {fp os : List Nat} {D : Dk} (h : OwnX w w1 b fp D os) (n : Int) (hn : n ≤ 9223372036854775807) : Calls Try.prog 24 #[.pointer (some ⟨b, 0, none⟩), .int .i64 n] w1 (OwnXU w w1 b fp (.int .i64 (D.cutE n)) (D.cutD n) os) :=
  (cut_dk b fp D n w1 h.own.at_ hn).mono fun _ _ ⟨he, h1, h2⟩ => h.dk ⟨he, fp, h1, h2, fun _ h => .inl h⟩
theorem crashX {w w1 : World} {b : Nat} {fp os : List Nat} {D : Dk} (h : OwnX w w1 b fp D os) (sv : Value) (keep : List Int) (torn : Int) (hI : IntsB w1.heap.size w1 sv keep) (hreach : keep.length * 8 ≤ 140737488351232) (hwf : ∀ x, x ∈ keep → -9223372036854775808 ≤ x ∧ x ≤ 9223372036854775807)
    (ht : -9223372036854775808 ≤ torn) (ht2 : torn ≤ 9223372036854775807) :
    Calls Try.prog 25 #[.pointer (some ⟨b, 0, none⟩), sv, .int .i64 torn] w1 (OwnXU w w1 b fp (.int .i64 0) (D.crash keep torn) os) :=
  (crash_dk b fp sv D keep torn w1 h.own.at_ hI hreach hwf ht ht2).mono fun _ _ k => h.dk k

/-- A block of the others is as it was. -/
theorem OwnX.kept {w w1 w2 : World} {b : Nat} {fp fp' os : List Nat} {D : Dk} (h : OwnX w w1 b fp D os) (hu : Upd fp fp' w1 w2) {k : Nat} (hk : k ∈ os) : w2.heap[k]? = w1.heap[k]? := hu.fr.block k (h.sep k hk).2.2 (h.sep k hk).1

/-- The row of ints v, one of the others' blocks, goes on. -/
theorem row_keep {w1 w2 : World} {v : Value} {n : Nat} {xs : List Value} (h : w1.ownsRow 0 3 1 v n xs) (hk : ∀ k, v.ownBlock = some k → w2.heap[k]? = w1.heap[k]?) : w2.ownsRow 0 3 1 v n xs := ownsRow_keep h hk

end Go.Proofs.Ytanjjgodlgmfcaa
