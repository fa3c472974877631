/-
  statute: a judge in memory, with the map of what was found.
-/
import Derived.Test.YtfidioedjmjddaaStW5
import Derived.Maps.OwnSet
namespace Go.Proofs.Ytfidioedjmjddaa
open Go.RowKit Go.Lib Go.Maps

def fdD (x : Fd) : DataW Unit := .agg [.lit (.int .i64 x.says), .lit (.bool x.holds), .lit (.int .i64 x.fact), .lit (.int .i64 x.cl)]
def fdR (v : Value) : Option (DataW Unit × List MemPlace) := match v with
  | .agg ⟨[.int .i64 a, .bool b, .int .i64 c, .int .i64 d]⟩ => some (fdD ⟨a, b, c, d⟩, [])
  | _ => none
theorem fdR_mk (x : Fd) : fdR (fdV x) = some (fdD x, []) := rfl
theorem fdR_inv {v : Value} {z : DataW Unit × List MemPlace} (h : fdR v = some z) : ∃ x, v = fdV x ∧ z = (fdD x, []) := by
  unfold fdR at h
  split at h
  · cases h; exact ⟨_, rfl, rfl⟩
  · cases h
theorem fdD_inj {x y : Fd} (h : fdD x = fdD y) : x = y := by
  obtain ⟨a, b, c, d⟩ := x
  obtain ⟨a', b', c', d'⟩ := y
  simp only [fdD, DataW.agg.injEq, List.cons.injEq, DataW.lit.injEq, Lit.int.injEq, Lit.bool.injEq, and_true, true_and] at h
  obtain ⟨rfl, rfl, rfl, rfl⟩ := h
  rfl

abbrev kL (k : Int) : Lit := .int .i64 k
theorem keyedI : Keyed Try.prog 3 := int_keyed Try.underlying3
theorem zeroFd (w : World) : (zeroValue 58).run Try.prog w = .ok (fdV ⟨0, false, 0, 0⟩) w := by kernel_rfl
theorem keyI {k : Int} (h : I64 k) : keyOf Try.prog 3 (.int .i64 k) = some (kL k) := keyOf_int_mk Try.underlying3 (Go.WalkArith.wf_i64 (by omega))
theorem kL_key (k : Int) : WideAt.IsKeyLit (kL k) := by simp [WideAt.IsKeyLit]
theorem kL_ne {a b : Int} (h : a ≠ b) : kL a ≠ kL b := by simpa using h

/-- How many of the first n numbers are keys. -/
def cntD (D : DataW Unit) (n : Nat) : Nat := ((List.range n).filter fun (k : Nat) => Maps.has D (kL k)).length
theorem cntD_le (D : DataW Unit) (n : Nat) : cntD D n ≤ n := by
  have := List.length_filter_le (fun (k : Nat) => Maps.has D (kL k)) (List.range n)
  simpa [cntD] using this
theorem cntD_put {D D' : DataW Unit} {m : Nat} (h0 : Maps.has D (kL m) = false) (h1 : Maps.has D' (kL m) = true) (h2 : ∀ k : Nat, k ≠ m → Maps.has D' (kL k) = Maps.has D (kL k)) : ∀ n, cntD D' n = cntD D n + if m < n then 1 else 0
  | 0 => by simp [cntD]
  | n + 1 => by
    have ih := cntD_put h0 h1 h2 n
    unfold cntD at ih ⊢
    rw [List.range_succ, List.filter_append, List.filter_append, List.length_append, List.length_append, ih]
    by_cases hn : n = m
    · subst hn
      simp [h0, h1]
    · have e := h2 n hn
      by_cases hm : m < n
      · simp only [List.filter_cons, e, List.filter_nil, hm, if_true, show m < n + 1 by omega]; omega
      · simp only [List.filter_cons, e, List.filter_nil, hm, if_false, show ¬ m < n + 1 by omega]; omega

/-- The map of what was found holds only what is right. -/
structure FoundAt (w : World) (bm : Nat) (f : Int → Fd) (D : DataW Unit) : Prop where
  own : w.ownsMap Try.prog 3 fdR bm (cntD D 20) D
  ok : ∀ k : Nat, k < 20 → Maps.has D (kL k) = true → D.atKey (kL k) (fdD ⟨0, false, 0, 0⟩) = fdD (f k)

theorem FoundAt.map {w : World} {bm : Nat} {f : Int → Fd} {D : DataW Unit} (h : FoundAt w bm f D) : ∃ es ck, w.heap[bm]? = some (.map es ck) := by
  obtain ⟨es, ck, hb, _⟩ := h.own
  exact ⟨es, ck, hb⟩
theorem FoundAt.fr {w w' : World} {bm : Nat} {f : Int → Fd} {D : DataW Unit} (h : FoundAt w bm f D) (hf : Fr [] w w') : FoundAt w' bm f D := by
  obtain ⟨es, ck, hb, F, hs, hD⟩ := h.own
  exact ⟨⟨es, ck, hf.keep hb (by simp), F, hs, hD⟩, h.ok⟩
theorem FoundAt.fr' {w w' : World} {bm : Nat} {f : Int → Fd} {D : DataW Unit} {S : List Nat} (h : FoundAt w bm f D) (hf : Fr S w w') (hn : bm ∉ S) : FoundAt w' bm f D := by
  obtain ⟨es, ck, hb, F, hs, hD⟩ := h.own
  exact ⟨⟨es, ck, hf.keep hb hn, F, hs, hD⟩, h.ok⟩

theorem FoundAt.look {w : World} {bm : Nat} {f : Int → Fd} {D : DataW Unit} (h : FoundAt w bm f D) (k : Nat) (hk : k < 20) :
    ∃ x, (Instr.lookup 72 (.map (some bm)) (.int .i64 k) true).run Try.prog w = .ok (.tuple #[fdV x, .bool (Maps.has D (kL k))]) w ∧ (Maps.has D (kL k) = true → x = f k) := by
  obtain ⟨v, ps, hrun, hv⟩ := h.own.look_ok keyedI Try.underlying72 (zeroFd w) (fdR_mk _) (keyI (k := k) (by constructor <;> omega))
  obtain ⟨x, rfl, hx⟩ := fdR_inv hv
  refine ⟨x, hrun, fun hh => fdD_inj ?_⟩
  rw [← h.ok k hk hh]
  exact (congrArg Prod.fst hx).symm
theorem FoundAt.get {w : World} {bm : Nat} {f : Int → Fd} {D : DataW Unit} (h : FoundAt w bm f D) (k : Nat) (hk : k < 20) (hh : Maps.has D (kL k) = true) :
    (Instr.lookup 72 (.map (some bm)) (.int .i64 k) false).run Try.prog w = .ok (fdV (f k)) w := by
  obtain ⟨v, ps, hrun, hv⟩ := h.own.lookup keyedI Try.underlying72 (zeroFd w) (fdR_mk _) (keyI (k := k) (by constructor <;> omega))
  obtain ⟨x, rfl, hx⟩ := fdR_inv hv
  have : x = f k := fdD_inj (by rw [← h.ok k hk hh]; exact (congrArg Prod.fst hx).symm)
  rw [← this]
  exact hrun

theorem FoundAt.put {w : World} {bm : Nat} {f : Int → Fd} {D : DataW Unit} (h : FoundAt w bm f D) (k : Nat) (hk : k < 20) (hh : Maps.has D (kL k) = false) :
    ∃ w' D', (Instr.mapUpdate 72 (.map (some bm)) (.int .i64 k) (fdV (f k))).run Try.prog w = .ok () w' ∧ FoundAt w' bm f D' ∧ Fr [bm] w w' ∧ Maps.has D' (kL k) = true ∧ ∀ j : Nat, j ≠ k → Maps.has D' (kL j) = Maps.has D (kL j) := by
  have hc := cntD_le D 20
  obtain ⟨w', hrun, h1, h2⟩ := h.own.update keyedI Try.underlying72 (by simp only [maxLen]; omega) (keyI (k := k) (by constructor <;> omega)) (fdR_mk (f k))
  have hs : Maps.has (D.put (kL k) (fdD (f k))) (kL k) = true := Maps.has_put_same h.own.isMap (kL_key _) _
  have ho : ∀ j : Nat, j ≠ k → Maps.has (D.put (kL k) (fdD (f k))) (kL j) = Maps.has D (kL j) := fun j hj => Maps.has_put_other (kL_ne (by omega)) _
  refine ⟨w', _, hrun, ⟨?_, fun j hj hh2 => ?_⟩, Fr.grown h2 fun q hq => by cases hq; simp, hs, ho⟩
  · rw [cntD_put hh hs ho 20, if_pos hk]
    exact h1
  · by_cases hjk : j = k
    · subst hjk
      exact Maps.atKey_put_same h.own.isMap (kL_key _) _ _
    · rw [Maps.atKey_put_other (kL_ne (by omega))]
      exact h.ok j hj (by rw [← ho j hjk]; exact hh2)

/-- Slices stay what they are while a map is written. -/
theorem cell_map {w : World} {b : Nat} {es : Array MapEntry} {ck : Nat} (h : w.heap[b]? = some (.map es ck)) (i : Nat) : w.cell? ⟨b, i, none⟩ = none := by simp [World.cell?, h]
theorem Sl.frM {w w' : World} {v : Value} {n bm : Nat} {cs : List Value} (h : Sl w v n cs) (hf : Fr [bm] w w') (hm : ∃ es ck, w.heap[bm]? = some (.map es ck)) : Sl w' v n cs := by
  obtain ⟨es, ck, hm⟩ := hm
  obtain ⟨a, cap, rfl, h1, h2, h3⟩ := h
  refine ⟨a, cap, rfl, h1, h2, fun h0 => ?_⟩
  obtain ⟨b, off, rfl, hc⟩ := h3 h0
  refine ⟨b, off, rfl, fun j u hu => ?_⟩
  have := hc j u hu
  have hne : b ≠ bm := fun e => by subst e; rw [cell_map hm] at this; cases this
  exact (World.cell?_of_block (hf.block b (World.block_lt_of_cell? w _ this) (by simpa using hne))).trans this
theorem RbAt.frM {w w' : World} {vc vr vf : Value} {ys : List ClV} {c : Rb} {bm : Nat} (h : RbAt w vc vr vf ys c) (hf : Fr [bm] w w') (hm : ∃ es ck, w.heap[bm]? = some (.map es ck)) : RbAt w' vc vr vf ys c :=
  ⟨h.eq, ⟨h.cls.sl.frM hf hm, fun y hy => (h.cls.needs y hy).frM hf hm, fun y hy => (h.cls.bars y hy).frM hf hm⟩, h.rps.frM hf hm, h.fas.frM hf hm, h.ok⟩

/-- The judge's names. -/
structure Jn where
  bj : Nat
  bm : Nat
  vc : Value
  vr : Value
  vf : Value
  v1 : Value
  v2 : Value
  ys : List ClV
  c : Rb
  fs : List Int
  cs : List Int
def Jn.fd (J : Jn) : Int → Fd := fdOf J.c J.fs J.cs
def Jn.so (J : Jn) : Int → Bool := soB J.c J.fs J.cs

/-- The judge itself. -/
structure JS (J : Jn) (w : World) : Prop where
  str : w.heap[J.bj]? = some (.cells #[J.vc, J.vr, J.vf, J.v1, J.v2, .map (some J.bm)] 74 (0, 0))
  rb : RbAt w J.vc J.vr J.vf J.ys J.c
  f : IntsAt w J.v1 J.fs
  c : IntsAt w J.v2 J.cs
  valid : validB J.c = true
  good : Good J.c J.fs J.cs
  fsub : ∀ i, i ∈ J.fs → 0 ≤ i ∧ i < J.c.fas.length
  csub : ∀ i, i ∈ J.cs → 0 ≤ i ∧ i < J.ys.length

theorem JS.frM {J : Jn} {w w' : World} (h : JS J w) (hf : Fr [J.bm] w w') (hm : ∃ es ck, w.heap[J.bm]? = some (.map es ck)) : JS J w' := by
  have hne : J.bj ≠ J.bm := fun e => by
    obtain ⟨es, ck, hm⟩ := hm
    have := h.str
    rw [e, hm] at this
    cases this
  exact ⟨hf.keep h.str (by simpa using hne), h.rb.frM hf hm, h.f.frM hf hm, h.c.frM hf hm, h.valid, h.good, h.fsub, h.csub⟩
theorem JS.same {J : Jn} {w w' : World} (h : JS J w) (hf : Fr [] w w') : JS J w' :=
  ⟨hf.keep h.str (by simp), h.rb.same hf, h.f.same hf, h.c.same hf, h.valid, h.good, h.fsub, h.csub⟩

/-- The judge with what it has found: between the worlds w0 and w, only numbers below n may have come. -/
structure JM (J : Jn) (n : Int) (w0 : World) (D0 : DataW Unit) (w : World) (D : DataW Unit) : Prop where
  js : JS J w
  found : FoundAt w J.bm J.fd D
  fr : Fr [J.bm] w0 w
  mono : ∀ k : Nat, k < 20 → Maps.has D0 (kL k) = true → Maps.has D (kL k) = true
  up : ∀ k : Nat, n ≤ k → k < 20 → Maps.has D (kL k) = Maps.has D0 (kL k)
theorem JM.refl {J : Jn} {n : Int} {w : World} {D : DataW Unit} (h1 : JS J w) (h2 : FoundAt w J.bm J.fd D) : JM J n w D w D := ⟨h1, h2, Fr.refl _ _, fun _ _ h => h, fun _ _ _ => rfl⟩
theorem JM.same {J : Jn} {n : Int} {w0 w w' : World} {D0 D : DataW Unit} (h : JM J n w0 D0 w D) (hf : Fr [] w w') : JM J n w0 D0 w' D := ⟨h.js.same hf, h.found.fr hf, h.fr.trans (hf.mono (by simp)), h.mono, h.up⟩
theorem JM.trans {J : Jn} {n m : Int} {w0 w1 w2 : World} {D0 D1 D2 : DataW Unit} (h : JM J n w0 D0 w1 D1) (k : JM J m w1 D1 w2 D2) (hm : m ≤ n) : JM J n w0 D0 w2 D2 :=
  ⟨k.js, k.found, h.fr.trans k.fr, fun j hj hh => k.mono j hj (h.mono j hj hh), fun j h1 h2 => (k.up j (by omega) h2).trans (h.up j h1 h2)⟩
theorem JM.from {J : Jn} {n : Int} {w0 w1 w2 : World} {D0 D1 : DataW Unit} (h : JM J n w1 D0 w2 D1) (hf : Fr [] w0 w1) : JM J n w0 D0 w2 D1 := ⟨h.js, h.found, (hf.mono (by simp)).trans h.fr, h.mono, h.up⟩

def SoOk (J : Jn) (n : Int) : Prop := ∀ (w : World) (D : DataW Unit), JS J w → FoundAt w J.bm J.fd D →
  Calls Try.prog 22 #[.pointer (some ⟨J.bj, 0, none⟩), .int .i64 n] w fun e w' => e = .returned (.bool (J.so n)) ∧ ∃ D', JM J (n + 1) w D w' D' ∧ Maps.has D' (kL n) = true
def FindOk (J : Jn) (n : Int) : Prop := ∀ (w : World) (D : DataW Unit), JS J w → FoundAt w J.bm J.fd D →
  Calls Try.prog 39 #[.pointer (some ⟨J.bj, 0, none⟩), .int .i64 n] w fun e w' => e = .returned (fdV (J.fd n)) ∧ ∃ D', JM J n w D w' D'

end Go.Proofs.Ytfidioedjmjddaa
