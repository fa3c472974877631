/-
  statute: a judge in memory, with the map of what was found.
-/
import Derived.Test.YtfidioedjmjddaaGreatQStW5
import Derived.Maps.OwnSet
namespace Go.Proofs.YtfidioedjmjddaaGreat
open Go.RowKit Go.Lib Go.Maps

def fdD (x : Fd) : DataW Unit := .agg [.lit (.int .i64 x.says), .lit (.bool x.holds), .lit (.int .i64 x.fact), .lit (.int .i64 x.cl)]
def fdR (v : Value) : Option (DataW Unit × List MemPlace) := match v with
  | .agg ⟨[.int .i64 a, .bool b, .int .i64 c, .int .i64 d]⟩ => some (fdD ⟨a, b, c, d⟩, [])
  | _ => none
theorem fdR_mk (x : Fd) : fdR (fdV x) = some (fdD x, []) := rfl
theorem fdR_inv {v : Value} {z : DataW Unit × List MemPlace} (h : fdR v = some z) : ∃ x, v = fdV x ∧ z = (fdD x, []) := by
  unfold fdR at h
  split at h
  · cases h; exact ⟨_, rfl, rfl⟩
  · cases h
theorem fdD_inj {x y : Fd} (h : fdD x = fdD y) : x = y := by
  obtain ⟨a, b, c, d⟩ := x
  obtain ⟨a', b', c', d'⟩ := y
  simp only [fdD, DataW.agg.injEq, List.cons.injEq, DataW.lit.injEq, Lit.int.injEq, Lit.bool.injEq, and_true, true_and] at h
  obtain ⟨rfl, rfl, rfl, rfl⟩ := h
  rfl

abbrev kL (k : Int) : Lit := .int .i64 k
theorem keyedI : Keyed Tryz.prog 3 := int_keyed Tryz.underlying3
theorem zeroFd (w : World) : (zeroValue 62).run Tryz.prog w = .ok (fdV ⟨0, false, 0, 0⟩) w := by kernel_rfl
theorem keyI {k : Int} (h : I64 k) : keyOf Tryz.prog 3 (.int .i64 k) = some (kL k) := keyOf_int_mk Tryz.underlying3 (Go.WalkArith.wf_i64 (by omega))
theorem kL_key (k : Int) : WideAt.IsKeyLit (kL k) := by simp [WideAt.IsKeyLit]
theorem kL_ne {a b : Int} (h : a ≠ b) : kL a ≠ kL b := by simpa using h

/-- How many of the first n numbers are keys. -/
def cntD (D : DataW Unit) (n : Nat) : Nat := ((List.range n).filter fun (k : Nat) => Maps.has D (kL k)).length
theorem cntD_le (D : DataW Unit) (n : Nat) : cntD D n ≤ n := by
  have := List.length_filter_le (fun (k : Nat) => Maps.has D (kL k)) (List.range n)
  simpa [cntD] using this
theorem cntD_put {D D' : DataW Unit} {m : Nat} (h0 : Maps.has D (kL m) = false) (h1 : Maps.has D' (kL m) = true) (h2 : ∀ k : Nat, k ≠ m → Maps.has D' (kL k) = Maps.has D (kL k)) : ∀ n, cntD D' n = cntD D n + if m < n then 1 else 0
  | 0 => by simp [cntD]
  | n + 1 => by
    have ih := cntD_put h0 h1 h2 n
    unfold cntD at ih ⊢
    rw [List.range_succ, List.filter_append, List.filter_append, List.length_append, List.length_append, ih]
    by_cases hn : n = m
    · subst hn
      simp [h0, h1]
    · have e := h2 n hn
      by_cases hm : m < n
      · simp only [List.filter_cons, e, List.filter_nil, hm, if_true, show m < n + 1 by omega]; omega
      · simp only [List.filter_cons, e, List.filter_nil, hm, if_false, show ¬ m < n + 1 by omega]; omega

/-- The map of what was found holds only what is right. -/
structure FoundAt (w : World) (bm : Nat) (f : Int → Fd) (D : DataW Unit) : Prop where
  own : w.ownsMap Tryz.prog 3 fdR bm (cntD D 20) D
  ok : ∀ k : Nat, k < 20 → Maps.has D (kL k) = true → D.atKey (kL k) (fdD ⟨0, false, 0, 0⟩) = fdD (f k)

theorem FoundAt.map {w : World} {bm : Nat} {f : Int → Fd} {D : DataW Unit} (h : FoundAt w bm f D) : ∃ es ck, w.heap[bm]? = some (.map es ck) := by
  obtain ⟨es, ck, hb, _⟩ := h.own
  exact ⟨es, ck, hb⟩
theorem FoundAt.fr {w w' : World} {bm : Nat} {f : Int → Fd} {D : DataW Unit} (h : FoundAt w bm f D) (hf : Fr [] w w') : FoundAt w' bm f D := by
  obtain ⟨es, ck, hb, F, hs, hD⟩ := h.own
  exact ⟨⟨es, ck, hf.keep hb (by simp), F, hs, hD⟩, h.ok⟩
theorem FoundAt.fr' {w w' : World} {bm : Nat} {f : Int → Fd} {D : DataW Unit} {S : List Nat} (h : FoundAt w bm f D) (hf : Fr S w w') (hn : bm ∉ S) : FoundAt w' bm f D := by
  obtain ⟨es, ck, hb, F, hs, hD⟩ := h.own
  exact ⟨⟨es, ck, hf.keep hb hn, F, hs, hD⟩, h.ok⟩

theorem FoundAt.look {w : World} {bm : Nat} {f : Int → Fd} {D : DataW Unit} (h : FoundAt w bm f D) (k : Nat) (hk : k < 20) :
    ∃ x, (Instr.lookup 89 (.map (some bm)) (.int .i64 k) true).run Tryz.prog w = .ok (.tuple #[fdV x, .bool (Maps.has D (kL k))]) w ∧ (Maps.has D (kL k) = true → x = f k) := by
  obtain ⟨v, ps, hrun, hv⟩ := h.own.look_ok keyedI Tryz.underlying89 (zeroFd w) (fdR_mk _) (keyI (k := k) (by constructor <;> omega))
  obtain ⟨x, rfl, hx⟩ := fdR_inv hv
  refine ⟨x, hrun, fun hh => fdD_inj ?_⟩
  rw [← h.ok k hk hh]
  exact (congrArg Prod.fst hx).symm
theorem FoundAt.get {w : World} {bm : Nat} {f : Int → Fd} {D : DataW Unit} (h : FoundAt w bm f D) (k : Nat) (hk : k < 20) (hh : Maps.has D (kL k) = true) :
    (Instr.lookup 89 (.map (some bm)) (.int .i64 k) false).run Tryz.prog w = .ok (fdV (f k)) w := by
  obtain ⟨v, ps, hrun, hv⟩ := h.own.lookup keyedI Tryz.underlying89 (zeroFd w) (fdR_mk _) (keyI (k := k) (by constructor <;> omega))
  obtain ⟨x, rfl, hx⟩ := fdR_inv hv
  have : x = f k := fdD_inj (by rw [← h.ok k hk hh]; exact (congrArg Prod.fst hx).symm)
  rw [← this]
  exact hrun

theorem FoundAt.put {w : World} {bm : Nat} {f : Int → Fd} {D : DataW Unit} (h : FoundAt w bm f D) (k : Nat) (hk : k < 20) (hh : Maps.has D (kL k) = false) :
    ∃ w' D', (Instr.mapUpdate 89 (.map (some bm)) (.int .i64 k) (fdV (f k))).run Tryz.prog w = .ok () w' ∧ FoundAt w' bm f D' ∧ Fr [bm] w w' ∧ Maps.has D' (kL k) = true ∧ ∀ j : Nat, j ≠ k → Maps.has D' (kL j) = Maps.has D (kL j) := by
  have hc := cntD_le D 20
  obtain ⟨w', hrun, h1, h2⟩ := h.own.update keyedI Tryz.underlying89 (by simp only [maxLen]; omega) (keyI (k := k) (by constructor <;> omega)) (fdR_mk (f k))
  have hs : Maps.has (D.put (kL k) (fdD (f k))) (kL k) = true := Maps.has_put_same h.own.isMap (kL_key _) _
  have ho : ∀ j : Nat, j ≠ k → Maps.has (D.put (kL k) (fdD (f k))) (kL j) = Maps.has D (kL j) := fun j hj => Maps.has_put_other (kL_ne (by omega)) _
  refine ⟨w', _, hrun, ⟨?_, fun j hj hh2 => ?_⟩, Fr.grown h2 fun q hq => by cases hq; simp, hs, ho⟩
  · rw [cntD_put hh hs ho 20, if_pos hk]
    exact h1
  · by_cases hjk : j = k
    · subst hjk
      exact Maps.atKey_put_same h.own.isMap (kL_key _) _ _
    · rw [Maps.atKey_put_other (kL_ne (by omega))]
      exact h.ok j hj (by rw [← ho j hjk]; exact hh2)

/-- Slices stay what they are while a map is written. -/
theorem cell_map {w : World} {b : Nat} {es : Array MapEntry} {ck : Nat} (h : w.heap[b]? = some (.map es ck)) (i : Nat) : w.cell? ⟨b, i, none⟩ = none := by simp [World.cell?, h]
theorem Sl.frM {w w' : World} {v : Value} {n bm : Nat} {cs : List Value} (h : Sl w v n cs) (hf : Fr [bm] w w') (hm : ∃ es ck, w.heap[bm]? = some (.map es ck)) : Sl w' v n cs := by
  obtain ⟨es, ck, hm⟩ := hm
  obtain ⟨a, cap, rfl, h1, h2, h3⟩ := h
  refine ⟨a, cap, rfl, h1, h2, fun h0 => ?_⟩
  obtain ⟨b, off, rfl, hc⟩ := h3 h0
  refine ⟨b, off, rfl, fun j u hu => ?_⟩
  have := hc j u hu
  have hne : b ≠ bm := fun e => by subst e; rw [cell_map hm] at this; cases this
  exact (World.cell?_of_block (hf.block b (World.block_lt_of_cell? w _ this) (by simpa using hne))).trans this
theorem RbAt.frM {w w' : World} {vc vr vf : Value} {ys : List ClV} {c : Rb} {bm : Nat} (h : RbAt w vc vr vf ys c) (hf : Fr [bm] w w') (hm : ∃ es ck, w.heap[bm]? = some (.map es ck)) : RbAt w' vc vr vf ys c :=
  ⟨h.eq, ⟨h.cls.sl.frM hf hm, fun y hy => (h.cls.needs y hy).frM hf hm, fun y hy => (h.cls.bars y hy).frM hf hm⟩, h.rps.frM hf hm, h.fas.frM hf hm, h.ok⟩

/-- The judge's names. -/
structure Jn where
  bj : Nat
  bm : Nat
  vc : Value
  vr : Value
  vf : Value
  v1 : Value
  v2 : Value
  ys : List ClV
  c : Rb
  fs : List Int
  cs : List Int
def Jn.fd (J : Jn) : Int → Fd := fdOf J.c J.fs J.cs
def Jn.so (J : Jn) : Int → Bool := soB J.c J.fs J.cs

/-- The judge itself. -/
structure JS (J : Jn) (w : World) : Prop where
  str : w.heap[J.bj]? = some (.cells #[J.vc, J.vr, J.vf, J.v1, J.v2, .map (some J.bm)] 91 (0, 0))
  rb : RbAt w J.vc J.vr J.vf J.ys J.c
  f : IntsAt w J.v1 J.fs
  c : IntsAt w J.v2 J.cs
  valid : validB J.c = true
  good : Good J.c J.fs J.cs
  fsub : ∀ i, i ∈ J.fs → 0 ≤ i ∧ i < J.c.fas.length
  csub : ∀ i, i ∈ J.cs → 0 ≤ i ∧ i < J.ys.length

theorem JS.frM {J : Jn} {w w' : World} (h : JS J w) (hf : Fr [J.bm] w w') (hm : ∃ es ck, w.heap[J.bm]? = some (.map es ck)) : JS J w' := by
  have hne : J.bj ≠ J.bm := fun e => by
    obtain ⟨es, ck, hm⟩ := hm
    have := h.str
    rw [e, hm] at this
    cases this
  exact ⟨hf.keep h.str (by simpa using hne), h.rb.frM hf hm, h.f.frM hf hm, h.c.frM hf hm, h.valid, h.good, h.fsub, h.csub⟩
theorem JS.same {J : Jn} {w w' : World} (h : JS J w) (hf : Fr [] w w') : JS J w' :=
  ⟨hf.keep h.str (by simp), h.rb.same hf, h.f.same hf, h.c.same hf, h.valid, h.good, h.fsub, h.csub⟩

/-- The judge with what it has found: between the worlds w0 and w, only numbers below n may have come. -/
structure JM (J : Jn) (n : Int) (w0 : World) (D0 : DataW Unit) (w : World) (D : DataW Unit) : Prop where
  js : JS J w
  found : FoundAt w J.bm J.fd D
  fr : Fr [J.bm] w0 w
  mono : ∀ k : Nat, k < 20 → Maps.has D0 (kL k) = true → Maps.has D (kL k) = true
  up : ∀ k : Nat, n ≤ k → k < 20 → Maps.has D (kL k) = Maps.has D0 (kL k)
theorem JM.refl {J : Jn} {n : Int} {w : World} {D : DataW Unit} (h1 : JS J w) (h2 : FoundAt w J.bm J.fd D) : JM J n w D w D := ⟨h1, h2, Fr.refl _ _, fun _ _ h => h, fun _ _ _ => rfl⟩
theorem JM.same {J : Jn} {n : Int} {w0 w w' : World} {D0 D : DataW Unit} (h : JM J n w0 D0 w D) (hf : Fr [] w w') : JM J n w0 D0 w' D := ⟨h.js.same hf, h.found.fr hf, h.fr.trans (hf.mono (by simp)), h.mono, h.up⟩
theorem JM.trans {J : Jn} {n m : Int} {w0 w1 w2 : World} {D0 D1 D2 : DataW Unit} (h : JM J n w0 D0 w1 D1) (k : JM J m w1 D1 w2 D2) (hm : m ≤ n) : JM J n w0 D0 w2 D2 :=
  ⟨k.js, k.found, h.fr.trans k.fr, fun j hj hh => k.mono j hj (h.mono j hj hh), fun j h1 h2 => (k.up j (by omega) h2).trans (h.up j h1 h2)⟩
theorem JM.from {J : Jn} {n : Int} {w0 w1 w2 : World} {D0 D1 : DataW Unit} (h : JM J n w1 D0 w2 D1) (hf : Fr [] w0 w1) : JM J n w0 D0 w2 D1 := ⟨h.js, h.found, (hf.mono (by simp)).trans h.fr, h.mono, h.up⟩

def SoOk (J : Jn) (n : Int) : Prop := ∀ (w : World) (D : DataW Unit), JS J w → FoundAt w J.bm J.fd D →
  Calls Tryz.prog 45 #[.pointer (some ⟨J.bj, 0, none⟩), .int .i64 n] w fun e w' => e = .returned (.bool (J.so n)) ∧ ∃ D', JM J (n + 1) w D w' D' ∧ Maps.has D' (kL n) = true
def FindOk (J : Jn) (n : Int) : Prop := ∀ (w : World) (D : DataW Unit), JS J w → FoundAt w J.bm J.fd D →
  Calls Tryz.prog 61 #[.pointer (some ⟨J.bj, 0, none⟩), .int .i64 n] w fun e w' => e = .returned (fdV (J.fd n)) ∧ ∃ D', JM J n w D w' D'

end Go.Proofs.YtfidioedjmjddaaGreat

/-
  statute: so, over find.
-/
namespace Go.Proofs.YtfidioedjmjddaaGreat
open Go.RowKit Go.Lib Go.Maps

set_option maxRecDepth 100000 in
set_option maxHeartbeats 4000000 in
theorem so_of_find (J : Jn) (n : Nat) (hn : n < 20) (hF : FindOk J n) : SoOk J n := by
  intro w D hJ hD
  have c5 : w.cell? ⟨J.bj, 5, none⟩ = some (.map (some J.bm)) := cell_of_blk hJ.str 5
  obtain ⟨x, hrun, hx⟩ := hD.look n hn
  have HJ := Lib.hid hJ; have HD := Lib.hid hD; have HF := Lib.hid hF; clear hJ hD hF
  cases hh : Maps.has D (kL n) with
  | true =>
    have hx := hx hh
    subst hx
    rw [hh] at hrun
    have hso : J.so n = (J.fd n).holds := rfl
    rw [hso]
    generalize J.fd n = x at *
    obtain ⟨x0, x1, x2, x3⟩ := x
    simp only [fdV] at hrun ⊢
    clear hso
    go_enter Tryz.func45, Tryz.ntmps45
    go_wp2_with fail
    go_ret
    exact ⟨rfl, D, (JM.refl HJ.out HD.out).same (Fr.alloc _ _ _), hh⟩
  | false =>
    rw [hh] at hrun
    clear hx
    obtain ⟨x0, x1, x2, x3⟩ := x
    simp only [fdV] at hrun
    have CF := Lib.hid (HF.out (w.alloc (.cells #[.int .i64 x0, .bool x1, .int .i64 x2, .int .i64 x3] 62)) D (HJ.out.same (Fr.alloc _ _ _)) (HD.out.fr (Fr.alloc _ _ _)))
    have hso : J.so n = (J.fd n).holds := rfl
    rw [hso]
    clear hso
    have Hfd : Hid (J.fd n = J.fd n) := Lib.hid rfl
    go_enter Tryz.func45, Tryz.ntmps45
    go_wp2_with fail
    refine CF.out.mono ?_
    rintro e w1 ⟨rfl, D1, j1⟩
    have hbm : J.bm < w.heap.size := HD.out.own.lt
    have hne : w.heap.size ≠ J.bm := by omega
    have K1 := j1.fr.keep (heap_alloc_new w (.cells #[.int .i64 x0, .bool x1, .int .i64 x2, .int .i64 x3] 62)) (by simpa using hne)
    have J1 := Lib.hid j1; have HK1 := Lib.hid K1
    have g0 : w1.cell? ⟨w.heap.size, 0, none⟩ = some (.int .i64 x0) := cell_of_blk K1 0
    have g1 : w1.cell? ⟨w.heap.size, 1, none⟩ = some (.bool x1) := cell_of_blk K1 1
    have g2 : w1.cell? ⟨w.heap.size, 2, none⟩ = some (.int .i64 x2) := cell_of_blk K1 2
    have g3 : w1.cell? ⟨w.heap.size, 3, none⟩ = some (.int .i64 x3) := cell_of_blk K1 3
    have z0 := free_of_blk K1 0
    have z1 := free_of_blk K1 1
    have z2 := free_of_blk K1 2
    have z3 := free_of_blk K1 3
    clear j1 K1
    go_wp2_with fail
    have f3 : Fr [w.heap.size] w1 ((((w1.setCell ⟨w.heap.size, 0, none⟩ (.int .i64 (J.fd n).says)).setCell ⟨w.heap.size, 1, none⟩ (.bool (J.fd n).holds)).setCell ⟨w.heap.size, 2, none⟩ (.int .i64 (J.fd n).fact)).setCell ⟨w.heap.size, 3, none⟩ (.int .i64 (J.fd n).cl)) := (((Fr.setCell _ _ (by simp)).trans (Fr.setCell _ _ (by simp))).trans (Fr.setCell _ _ (by simp))).trans (Fr.setCell _ _ (by simp))
    have K3 := heap_setCell_same (i := 3) (.int .i64 (J.fd n).cl) (heap_setCell_same (i := 2) (.int .i64 (J.fd n).fact) (heap_setCell_same (i := 1) (.bool (J.fd n).holds) (heap_setCell_same (i := 0) (.int .i64 (J.fd n).says) HK1.out)))
    generalize (((w1.setCell ⟨w.heap.size, 0, none⟩ (.int .i64 (J.fd n).says)).setCell ⟨w.heap.size, 1, none⟩ (.bool (J.fd n).holds)).setCell ⟨w.heap.size, 2, none⟩ (.int .i64 (J.fd n).fact)).setCell ⟨w.heap.size, 3, none⟩ (.int .i64 (J.fd n).cl) = W3 at *
    clear g0 g1 g2 g3 z0 z1 z2 z3 HK1 CF
    have k0 : W3.cell? ⟨w.heap.size, 0, none⟩ = some (.int .i64 (J.fd n).says) := cell_of_blk K3 0
    have k1 : W3.cell? ⟨w.heap.size, 1, none⟩ = some (.bool (J.fd n).holds) := cell_of_blk K3 1
    have k2 : W3.cell? ⟨w.heap.size, 2, none⟩ = some (.int .i64 (J.fd n).fact) := cell_of_blk K3 2
    have k3 : W3.cell? ⟨w.heap.size, 3, none⟩ = some (.int .i64 (J.fd n).cl) := cell_of_blk K3 3
    have fw : Fr [J.bm] w W3 := ((Fr.alloc [J.bm] _ _).trans J1.out.fr).step f3 (fun i hi => by simp at hi; exact .inr (by omega))
    have js3 := HJ.out.frM fw HD.out.map
    have fd3 := J1.out.found.fr' f3 (by simp; omega)
    have hh1 : Maps.has D1 (kL n) = false := by rw [J1.out.up n (by omega) hn]; exact hh
    obtain ⟨w4, D4, hput, fd4, f4, has4, oth4⟩ := (fd3.fr (Fr.drew [] W3)).put n hn hh1
    have c5' : W3.cell? ⟨J.bj, 5, none⟩ = some (.map (some J.bm)) := cell_of_blk js3.str 5
    have K4 := f4.keep (w := W3.drew) K3 (by simpa using hne)
    have m1 : w4.cell? ⟨w.heap.size, 1, none⟩ = some (.bool (J.fd n).holds) := cell_of_blk K4 1
    have HE : Hid (JM J (n + 1) w D w4 D4 ∧ Maps.has D4 (kL n) = true) := Lib.hid ⟨⟨(js3.same (Fr.drew [] W3)).frM f4 (fd3.fr (Fr.drew [] W3)).map, fd4, fw.trans ((Fr.drew _ _).trans f4), fun k hk h1 => by
      by_cases hkn : k = n
      · subst hkn; exact has4
      · rw [oth4 k hkn]; exact J1.out.mono k hk h1, fun k h1 h2 => by
      rw [oth4 k (by omega)]; exact J1.out.up k (by omega) h2⟩, has4⟩
    clear js3 fd3 fd4 f4 oth4 K3 K4 fw f3 has4
    simp only [fdV] at hput
    obtain ⟨y, hy⟩ : ∃ y, J.fd n = y := ⟨_, rfl⟩
    rw [hy] at hput k0 k1 k2 k3 m1
    rw [hy]
    have HY := Lib.hid hy
    clear hy
    obtain ⟨y0, y1, y2, y3⟩ := y
    simp only at hput k0 k1 k2 k3 m1 ⊢
    go_region
    all_goals
      go_wp2_with fail
      go_ret
      exact ⟨by rw [HY.out]; rfl, D4, HE.out⟩

end Go.Proofs.YtfidioedjmjddaaGreat

/-
  statute: find, over so.
-/
namespace Go.Proofs.YtfidioedjmjddaaGreat
open Go.RowKit Go.Lib Go.Maps

set_option maxRecDepth 100000 in
theorem find1_c (J : Jn) (m : Int) (B0 : Nat) (w : World) (D : DataW Unit) (hS : SoOk J m) (hJ : JS J w) (hD : FoundAt w J.bm J.fd D) (hB : w.heap[B0]? = some (.cells #[.pointer (some ⟨J.bj, 0, none⟩)] 86 (0, 0))) :
    Calls Tryz.prog 71 #[.int .i64 m, .pointer (some ⟨B0, 0, none⟩)] w fun e w' => e = .returned (.bool (!J.so m)) ∧ ∃ D', JM J (m + 1) w D w' D' := by
  have c0 : w.cell? ⟨B0, 0, none⟩ = some (.pointer (some ⟨J.bj, 0, none⟩)) := cell_of_blk hB 0
  have CS := Lib.hid (hS w D hJ hD)
  clear hS hJ hD hB
  go_enter Tryz.func71, Tryz.ntmps71
  go_wp2_with (first | (go_at_call 45; refine CS.out.mono ?_; rintro e w1 ⟨rfl, D1, j1, _⟩; have J1 := Lib.hid j1; clear j1))
  go_ret
  exact ⟨rfl, D1, J1.out⟩

set_option maxRecDepth 100000 in
theorem cf_needs (J : Jn) (n : Int) (hS : ∀ m : Int, 0 ≤ m → m < n → SoOk J m) (vn : Value) (l : List Int) (B0 : Nat) (w : World) (D : DataW Unit) (hJ : JS J w) (hD : FoundAt w J.bm J.fd D) (hn : IntsAt w vn l) (hm : ∀ m, m ∈ l → 0 ≤ m ∧ m < n) (hB : w.heap[B0]? = some (.cells #[.pointer (some ⟨J.bj, 0, none⟩)] 86 (0, 0))) (hne : B0 ≠ J.bm) :
    Calls Tryz.prog 58 #[vn, .func (.func 71) #[] #[.pointer (some ⟨B0, 0, none⟩)]] w fun e w' => e = .returned (.bool (!l.all J.so)) ∧ ∃ D', JM J n w D w' D' := by
  obtain ⟨a, cap, rfl⟩ := hn.val
  refine (cfInt_c 71 #[.pointer (some ⟨B0, 0, none⟩)] (fun _ _ => rfl) a cap l (fun k => !J.so (l.getD k 0)) (fun _ W => ∃ D', JM J n w D W D') w ?_ ?_ ⟨D, JM.refl hJ hD⟩).mono ?_
  · rintro k W ⟨D', h⟩
    exact hn.frM h.fr hD.map
  · rintro k W hk _ ⟨D', h⟩
    have hmem : l.getD k 0 ∈ l := by simp [hk]
    have hb := hm _ hmem
    refine (find1_c J (l.getD k 0) B0 W D' (hS _ hb.1 hb.2) h.js h.found (h.fr.keep hB (by simpa using hne))).mono ?_
    rintro e w' ⟨rfl, D2, h2⟩
    exact ⟨rfl, D2, h.trans h2 (by omega)⟩
  · rintro e w' ⟨rfl, k, h⟩
    exact ⟨by rw [anyN_list l (fun x => !J.so x) 0, any_not], h⟩

set_option maxRecDepth 100000 in
theorem cf_bars (J : Jn) (n : Int) (hS : ∀ m : Int, 0 ≤ m → m < n → SoOk J m) (vn : Value) (l : List Int) (w : World) (D : DataW Unit) (hJ : JS J w) (hD : FoundAt w J.bm J.fd D) (hn : IntsAt w vn l) (hm : ∀ m, m ∈ l → 0 ≤ m ∧ m < n) :
    Calls Tryz.prog 58 #[vn, .func (.func 45) #[.pointer (some ⟨J.bj, 0, none⟩)] #[]] w fun e w' => e = .returned (.bool (l.any J.so)) ∧ ∃ D', JM J n w D w' D' := by
  obtain ⟨a, cap, rfl⟩ := hn.val
  refine (cfIntB_c 45 (.pointer (some ⟨J.bj, 0, none⟩)) (fun _ _ => rfl) a cap l (fun k => J.so (l.getD k 0)) (fun _ W => ∃ D', JM J n w D W D') w ?_ ?_ ⟨D, JM.refl hJ hD⟩).mono ?_
  · rintro k W ⟨D', h⟩
    exact hn.frM h.fr hD.map
  · rintro k W hk _ ⟨D', h⟩
    have hmem : l.getD k 0 ∈ l := by simp [hk]
    have hb := hm _ hmem
    refine (hS _ hb.1 hb.2 W D' h.js h.found).mono ?_
    rintro e w' ⟨rfl, D2, h2, _⟩
    exact ⟨rfl, D2, h.trans h2 (by omega)⟩
  · rintro e w' ⟨rfl, k, h⟩
    exact ⟨by rw [anyN_list l J.so 0], h⟩

theorem find_at {l : List Int} {p : Int → Bool} {k : Nat} (hk : k < l.length) (h1 : p l[k] = true) (h0 : ∀ j, (h : j < l.length) → j < k → p l[j] = false) : l.find? p = some l[k] := by
  rw [List.find?_eq_some_iff_getElem]
  exact ⟨h1, k, hk, rfl, fun j hj => by simp [h0 j (by omega) hj]⟩
theorem find_none {l : List Int} {p : Int → Bool} (h0 : ∀ j, (h : j < l.length) → p l[j] = false) : l.find? p = none := by
  rw [List.find?_eq_none]
  intro x hx
  obtain ⟨j, hj, rfl⟩ := List.getElem_of_mem hx
  simp [h0 j hj]

/-- The result is written into its own block. -/
theorem findEnd {J : Jn} {n : Int} {w W2 W : World} {D D' : DataW Unit} {B : Nat} (hF : Fr [] w W2) (hJ : JS J w) (hD : FoundAt w J.bm J.fd D) (hM : JM J n W2 D W D') (hB : w.heap.size ≤ B) (hne : B ≠ J.bm) (a b c d : Value) :
    JM J n w D ((((W.setCell ⟨B, 0, none⟩ a).setCell ⟨B, 1, none⟩ b).setCell ⟨B, 2, none⟩ c).setCell ⟨B, 3, none⟩ d) D' := by
  have f3 : Fr [B] W ((((W.setCell ⟨B, 0, none⟩ a).setCell ⟨B, 1, none⟩ b).setCell ⟨B, 2, none⟩ c).setCell ⟨B, 3, none⟩ d) := (((Fr.setCell _ _ (by simp)).trans (Fr.setCell _ _ (by simp))).trans (Fr.setCell _ _ (by simp))).trans (Fr.setCell _ _ (by simp))
  have f4 : Fr [J.bm] w _ := ((hF.mono (by simp)).trans hM.fr).step f3 (fun i hi => by simp at hi; exact .inr (by omega))
  exact ⟨hJ.frM f4 hD.map, hM.found.fr' f3 (by simp; omega), f4, hM.mono, hM.up⟩

set_option maxRecDepth 100000 in
set_option maxHeartbeats 8000000 in
theorem find_of_so (J : Jn) (n : Nat) (hS : ∀ m : Int, 0 ≤ m → m < n → SoOk J m) : FindOk J n := by
  intro w D hJ hD
  obtain ⟨bj, bm, vc, vr, vf, v1, v2, ys, c, fs, cs⟩ := J
  obtain ⟨ac, pc, hvc⟩ := hJ.rb.cls.sl.val
  obtain ⟨af, pf, hvf⟩ := hJ.rb.fas.val
  obtain ⟨a1, p1, hv1⟩ := hJ.f.val
  obtain ⟨a2, p2, hv2⟩ := hJ.c.val
  simp only at hvc hvf hv1 hv2
  subst hvc hvf hv1 hv2
  have hfd : Hid (fdOf c fs cs n = findW c fs cs (soB c fs cs) n) := Lib.hid (fdOf_eq hJ.good n (by omega))
  have A2 := alloc2' w (.cells #[.pointer (some ⟨bj, 0, none⟩)] 86) (.cells #[.int .i64 0, .bool false, .int .i64 0, .int .i64 0] 62)
  have F2 : Fr [] w ((w.alloc (.cells #[.pointer (some ⟨bj, 0, none⟩)] 86)).alloc (.cells #[.int .i64 0, .bool false, .int .i64 0, .int .i64 0] 62)) := (Fr.alloc _ _ _).trans (Fr.alloc _ _ _)
  have hbm : bm < w.heap.size := hD.own.lt
  have hJ2 := hJ.same F2
  have hD2 := hD.fr F2
  have HJ0 := Lib.hid hJ; have HD0 := Lib.hid hD
  have HJ2 := Lib.hid hJ2; have HD2 := Lib.hid hD2; have HA := Lib.hid A2; have HF := Lib.hid F2; have HS := Lib.hid hS
  have c3 : ((w.alloc (.cells #[.pointer (some ⟨bj, 0, none⟩)] 86)).alloc (.cells #[.int .i64 0, .bool false, .int .i64 0, .int .i64 0] 62)).cell? ⟨bj, 3, none⟩ = some (.slice a1 fs.length p1) := cell_of_blk hJ2.str 3
  have hl1 := hJ.f.len
  have hl2 := hJ.c.len
  clear hJ hD A2 F2 hS hJ2 hD2
  go_enter Tryz.func61, Tryz.ntmps61
  go_wp2_with fail
  generalize hW2 : (w.alloc (.cells #[.pointer (some ⟨bj, 0, none⟩)] 86)).alloc (.cells #[.int .i64 0, .bool false, .int .i64 0, .int .i64 0] 62) = W2 at *
  clear c3 hW2
  go_loopw [16] (fun i wr => ∃ k : Nat, k ≤ fs.length ∧ i = .int .i64 k ∧ W2 = wr ∧ Hid (∀ j, (h : j < fs.length) → j < k → decide ((c.fa fs[j]).says = n) = false)) (fun i _ => fs.length - (intOf i).toNat)
  case atStart => exact ⟨0, Nat.zero_le _, rfl, rfl, Lib.hid fun j _ h => by omega⟩
  case round =>
    obtain ⟨k, hk, rfl, rfl, HP⟩ := hrel
    by_cases hlt : k < fs.length
    · obtain ⟨b1, o1, h1, hc1⟩ := HJ2.out.f.at_ (by simpa using (show 0 < fs.length by omega))
      subst h1
      have e0 := hc1 k (.int .i64 fs[k]) (by simp [hlt])
      have hsub := HJ2.out.fsub fs[k] (List.getElem_mem hlt)
      obtain ⟨ii, hii⟩ := Int.eq_ofNat_of_zero_le hsub.1
      have hil : ii < c.fas.length := by have := hsub.2; rw [hii] at this; exact Int.ofNat_lt.1 this
      obtain ⟨b2, o2, h2, hc2⟩ := HJ2.out.rb.fas.at_ (by simpa using (show 0 < c.fas.length by omega))
      subst h2
      have e1 := hc2 (ii * 6 + 1) _ ((flat_get (enc := faC) (k := 6) (fun _ => rfl) c.fas ii hil 1 (by omega)).trans rfl)
      simp only [← Nat.add_assoc] at e1
      have hfa : c.fa fs[k] = c.fas[ii] := by rw [hii]; simp [Rb.fa, hil]
      have g0 : W2.cell? ⟨w.heap.size, 0, none⟩ = some (.pointer (some ⟨bj, 0, none⟩)) := cell_of_blk HA.out.1 0
      have g2 : W2.cell? ⟨bj, 2, none⟩ = some (.slice (some ⟨b2, o2, none⟩) c.fas.length pf) := cell_of_blk HJ2.out.str 2
      have HPk : Hid (fs[k] = ii) := Lib.hid hii
      have HFA : Hid (c.fa fs[k] = c.fas[ii]) := Lib.hid hfa
      rw [hii] at e0
      have hfl := HJ2.out.rb.fas.len
      simp only at hfl
      clear hc1 hc2 hsub hfa hii
      by_cases hsy : (c.fas[ii]).says = n
      · have HSY := Lib.hid hsy
        rw [hsy] at e1
        have t0 : W2.cell? ⟨w.heap.size + 1, 0, none⟩ = some (.int .i64 0) := cell_of_blk HA.out.2 0
        have t1 : W2.cell? ⟨w.heap.size + 1, 1, none⟩ = some (.bool false) := cell_of_blk HA.out.2 1
        have t2 : W2.cell? ⟨w.heap.size + 1, 2, none⟩ = some (.int .i64 0) := cell_of_blk HA.out.2 2
        have t3 : W2.cell? ⟨w.heap.size + 1, 3, none⟩ = some (.int .i64 0) := cell_of_blk HA.out.2 3
        have z0 := free_of_blk HA.out.2 0
        have z1 := free_of_blk HA.out.2 1
        have z2 := free_of_blk HA.out.2 2
        have z3 := free_of_blk HA.out.2 3
        clear hsy
        go_wp2_with fail
        refine bodyPost_ret (v := .agg #[.int .i64 n, .bool true, .int .i64 ii, .int .i64 (-1)]) (by simp [results, Tryz.results61, go_sem, *]) rfl ⟨?_, D, ?_⟩
        · have hfind : fs.find? (fun i => decide ((c.fa i).says = n)) = some fs[k] := find_at hlt (by rw [HFA.out]; simpa using HSY.out) HP.out
          show _ = Ending.returned (fdV (fdOf c fs cs n))
          rw [hfd.out, findW, hfind, HPk.out]
        · have f3 : Fr [w.heap.size + 1] W2 ((((W2.setCell ⟨w.heap.size + 1, 0, none⟩ (.int .i64 n)).setCell ⟨w.heap.size + 1, 1, none⟩ (.bool true)).setCell ⟨w.heap.size + 1, 2, none⟩ (.int .i64 ii)).setCell ⟨w.heap.size + 1, 3, none⟩ (.int .i64 (-1))) := (((Fr.setCell _ _ (by simp)).trans (Fr.setCell _ _ (by simp))).trans (Fr.setCell _ _ (by simp))).trans (Fr.setCell _ _ (by simp))
          have f4 : Fr [] w _ := HF.out.step f3 (fun i hi => by simp at hi; exact .inr (by omega))
          exact (JM.refl HJ0.out HD0.out).same f4
      · have HSY : Hid (decide ((c.fa fs[k]).says = n) = false) := Lib.hid (by rw [HFA.out]; simpa using hsy)
        have hsd : ((c.fas[ii]).says == (n : Int)) = false := by simpa using hsy
        clear hsy
        generalize (c.fas[ii]).says = sy at *
        go_wp2_with fail
        go_roundw
        case rel =>
          refine ⟨k + 1, by omega, by go_num, by first | rfl | trivial, Lib.hid fun j hj hjk => ?_⟩
          rcases Nat.lt_or_ge j k with h5 | h5
          · exact HP.out j hj h5
          · obtain rfl : j = k := by omega
            exact HSY.out
        case measure => simp [intOf]; omega
    · obtain rfl : k = fs.length := by omega
      have Hnf : Hid (fs.find? (fun i => decide ((c.fa i).says = n)) = none) := Lib.hid (find_none fun j hj => HP.out j hj hj)
      have g0 : W2.cell? ⟨w.heap.size, 0, none⟩ = some (.pointer (some ⟨bj, 0, none⟩)) := cell_of_blk HA.out.1 0
      have g4 : W2.cell? ⟨bj, 4, none⟩ = some (.slice a2 cs.length p2) := cell_of_blk HJ2.out.str 4
      clear HP
      go_wp2_with fail
      clear g0 g4
      go_loopw [40] (fun i wr => ∃ (k : Nat) (D' : DataW Unit), k ≤ cs.length ∧ i = .int .i64 k ∧ Hid (JM ⟨bj, bm, .slice ac ys.length pc, vr, .slice af c.fas.length pf, .slice a1 fs.length p1, .slice a2 cs.length p2, ys, c, fs, cs⟩ n W2 D wr D') ∧ Hid (∀ j, (h : j < cs.length) → j < k → givesB c (soB c fs cs) n cs[j] = false)) (fun i _ => cs.length - (intOf i).toNat)
      case atStart => exact ⟨0, D, Nat.zero_le _, rfl, Lib.hid (JM.refl HJ2.out HD2.out), Lib.hid fun j _ h => by omega⟩
      case round =>
        obtain ⟨k, D', hk, rfl, HM, HP⟩ := hrel
        have hB0 := Lib.hid (HM.out.fr.keep HA.out.1 (by simp; omega))
        have hB1 := Lib.hid (HM.out.fr.keep HA.out.2 (by simp; omega))
        by_cases hlt : k < cs.length
        · obtain ⟨b1, o1, h1, hc1⟩ := HM.out.js.c.at_ (by simpa using (show 0 < cs.length by omega))
          subst h1
          have e0 := hc1 k (.int .i64 cs[k]) (by simp [hlt])
          have hmem := List.getElem_mem hlt
          have hsub := HM.out.js.csub cs[k] hmem
          have hterm := HM.out.js.good.terms cs[k] hmem
          obtain ⟨ii, hii⟩ := Int.eq_ofNat_of_zero_le hsub.1
          have hil : ii < ys.length := by have := hsub.2; rw [hii] at this; exact Int.ofNat_lt.1 this
          have heq : c.cls = ys.map (·.x) := HM.out.js.rb.eq
          have hcl : c.cl cs[k] = ys[ii].x := by rw [hii]; simp [Rb.cl, heq, hil]
          obtain ⟨b2, o2, h2, hc2⟩ := HM.out.js.rb.cls.sl.at_ (by simpa using (show 0 < ys.length by omega))
          subst h2
          have d0 := hc2 (ii * 6 + 0) _ ((flat_get (enc := clC) (k := 6) (fun _ => rfl) ys ii hil 0 (by omega)).trans rfl)
          have d1 := hc2 (ii * 6 + 1) _ ((flat_get (enc := clC) (k := 6) (fun _ => rfl) ys ii hil 1 (by omega)).trans rfl)
          have d2 := hc2 (ii * 6 + 2) _ ((flat_get (enc := clC) (k := 6) (fun _ => rfl) ys ii hil 2 (by omega)).trans rfl)
          have d3 := hc2 (ii * 6 + 3) _ ((flat_get (enc := clC) (k := 6) (fun _ => rfl) ys ii hil 3 (by omega)).trans rfl)
          have d4 := hc2 (ii * 6 + 4) _ ((flat_get (enc := clC) (k := 6) (fun _ => rfl) ys ii hil 4 (by omega)).trans rfl)
          have d5 := hc2 (ii * 6 + 5) _ ((flat_get (enc := clC) (k := 6) (fun _ => rfl) ys ii hil 5 (by omega)).trans rfl)
          simp only [Nat.add_zero, ← Nat.add_assoc] at d0 d1 d2 d3 d4 d5
          have HN := Lib.hid (HM.out.js.rb.cls.needs ys[ii] (List.getElem_mem hil))
          have HB := Lib.hid (HM.out.js.rb.cls.bars ys[ii] (List.getElem_mem hil))
          obtain ⟨an, pn, hvn⟩ := HN.out.val
          obtain ⟨ab, pb, hvb⟩ := HB.out.val
          have hgv : givesB c (soB c fs cs) n cs[k] = (decide ((ys[ii].x).gives = n) && (ys[ii].x).needs.all (soB c fs cs) && !(ys[ii].x).bars.any (soB c fs cs)) := by unfold givesB; rw [hcl]
          rw [hcl] at hterm
          have HPk : Hid (cs[k] = ii) := Lib.hid hii
          rw [hii] at e0
          clear hc1 hc2 hsub hcl hii heq hmem
          generalize ys[ii] = y at *
          obtain ⟨⟨pub, f, t, needs, bars, gives⟩, vn, vb⟩ := y
          simp only at d0 d1 d2 d3 d4 d5 hvn hvb HN HB hgv hterm
          subst hvn hvb
          have HGV := Lib.hid hgv; clear hgv
          have HTM := Lib.hid hterm; clear hterm
          have g0 : wr.cell? ⟨w.heap.size, 0, none⟩ = some (.pointer (some ⟨bj, 0, none⟩)) := cell_of_blk hB0.out 0
          have q0 : wr.cell? ⟨bj, 0, none⟩ = some (.slice (some ⟨b2, o2, none⟩) ys.length pc) := cell_of_blk HM.out.js.str 0
          have hyl := HM.out.js.rb.cls.sl.len
          by_cases hg : gives = n
          · subst hg
            have M3 := Lib.hid (HM.out.same (Fr.alloc [] wr (.cells #[.int .i64 pub, .int .i64 f, .int .i64 t, .slice an needs.length pn, .slice ab bars.length pb, .int .i64 n] 67)))
            have CN := Lib.hid (cf_needs _ n HS.out _ needs w.heap.size _ D' M3.out.js M3.out.found (HN.out.same (Fr.alloc [] _ _)) (fun m hm => HTM.out m (.inl hm)) (heap_alloc_old _ hB0.out) (by simp only; omega))
            have hbn : wr.heap.size ≠ bm := by have := HM.out.found.own.lt; simp only at this; omega
            have Kx := Lib.hid (heap_alloc_new wr (.cells #[.int .i64 pub, .int .i64 f, .int .i64 t, .slice an needs.length pn, .slice ab bars.length pb, .int .i64 n] 67))
            go_wp2_with fail
            refine CN.out.mono ?_
            rintro e w4 ⟨rfl, D4, m4⟩
            have M4 := Lib.hid (M3.out.trans m4 (Int.le_refl _))
            have K4 := m4.fr.keep Kx.out (by simpa using hbn)
            have hB04 := Lib.hid (m4.fr.keep (heap_alloc_old _ hB0.out) (by simp only [List.mem_singleton]; omega))
            have hB14 := Lib.hid (m4.fr.keep (heap_alloc_old _ hB1.out) (by simp only [List.mem_singleton]; omega))
            have HB4 := Lib.hid ((HB.out.same (Fr.alloc [] wr (.cells #[.int .i64 pub, .int .i64 f, .int .i64 t, .slice an needs.length pn, .slice ab bars.length pb, .int .i64 n] 67))).frM m4.fr M3.out.found.map)
            have r4 : w4.cell? ⟨wr.heap.size, 4, none⟩ = some (.slice ab bars.length pb) := cell_of_blk K4 4
            have s0 : w4.cell? ⟨w.heap.size, 0, none⟩ = some (.pointer (some ⟨bj, 0, none⟩)) := cell_of_blk hB04.out 0
            clear m4 K4
            cases hna : needs.all (soB c fs cs)
            · have Hpf : Hid (givesB c (soB c fs cs) n cs[k] = false) := Lib.hid (by rw [HGV.out]; simp [hna])
              have hna2 : needs.all (Jn.so ⟨bj, bm, .slice (some ⟨b2, o2, none⟩) ys.length pc, vr, .slice af c.fas.length pf, .slice a1 fs.length p1, .slice (some ⟨b1, o1, none⟩) cs.length p2, ys, c, fs, cs⟩) = false := hna
              rw [hna2]
              clear hna hna2
              go_wp2_with fail
              go_roundw
              case rel =>
                refine ⟨k + 1, _, by omega, by go_num, Lib.hid M4.out, Lib.hid fun j hj hjk => ?_⟩
                rcases Nat.lt_or_ge j k with h5 | h5
                · exact HP.out j hj h5
                · obtain rfl : j = k := by omega
                  exact Hpf.out
              case measure => simp [intOf]; omega
            · have hna2 : needs.all (Jn.so ⟨bj, bm, .slice (some ⟨b2, o2, none⟩) ys.length pc, vr, .slice af c.fas.length pf, .slice a1 fs.length p1, .slice (some ⟨b1, o1, none⟩) cs.length p2, ys, c, fs, cs⟩) = true := hna
              rw [hna2]
              have HNA := Lib.hid hna
              clear hna hna2
              have CB := Lib.hid (cf_bars _ n HS.out _ bars w4 D4 M4.out.js M4.out.found HB4.out (fun m hm => HTM.out m (.inr hm)))
              go_wp2_with fail
              refine CB.out.mono ?_
              rintro e w5 ⟨rfl, D5, m5⟩
              have M5 := Lib.hid (M4.out.trans m5 (Int.le_refl _))
              have hB15 := Lib.hid (m5.fr.keep hB14.out (by simp only [List.mem_singleton]; omega))
              clear m5
              cases hba : bars.any (soB c fs cs)
              · have hba2 : bars.any (Jn.so ⟨bj, bm, .slice (some ⟨b2, o2, none⟩) ys.length pc, vr, .slice af c.fas.length pf, .slice a1 fs.length p1, .slice (some ⟨b1, o1, none⟩) cs.length p2, ys, c, fs, cs⟩) = false := hba
                rw [hba2]
                have Hpt : Hid (givesB c (soB c fs cs) n cs[k] = true) := Lib.hid (by rw [HGV.out]; simp [HNA.out, hba])
                clear hba hba2
                have t0 : w5.cell? ⟨w.heap.size + 1, 0, none⟩ = some (.int .i64 0) := cell_of_blk hB15.out 0
                have t1 : w5.cell? ⟨w.heap.size + 1, 1, none⟩ = some (.bool false) := cell_of_blk hB15.out 1
                have t2 : w5.cell? ⟨w.heap.size + 1, 2, none⟩ = some (.int .i64 0) := cell_of_blk hB15.out 2
                have t3 : w5.cell? ⟨w.heap.size + 1, 3, none⟩ = some (.int .i64 0) := cell_of_blk hB15.out 3
                have z0 := free_of_blk hB15.out 0
                have z1 := free_of_blk hB15.out 1
                have z2 := free_of_blk hB15.out 2
                have z3 := free_of_blk hB15.out 3
                go_wp2_with fail
                refine bodyPost_ret (v := .agg #[.int .i64 n, .bool true, .int .i64 (-1), .int .i64 ii]) (by simp [results, Tryz.results61, go_sem, *]) rfl ⟨?_, D5, ?_⟩
                · have hfind : cs.find? (givesB c (soB c fs cs) n) = some cs[k] := find_at hlt Hpt.out HP.out
                  show _ = Ending.returned (fdV (fdOf c fs cs n))
                  rw [hfd.out, findW, Hnf.out, hfind, HPk.out]
                · exact findEnd HF.out HJ0.out HD0.out M5.out (by simp) (by simp only; omega) _ _ _ _
              · have hba2 : bars.any (Jn.so ⟨bj, bm, .slice (some ⟨b2, o2, none⟩) ys.length pc, vr, .slice af c.fas.length pf, .slice a1 fs.length p1, .slice (some ⟨b1, o1, none⟩) cs.length p2, ys, c, fs, cs⟩) = true := hba
                rw [hba2]
                have Hpf : Hid (givesB c (soB c fs cs) n cs[k] = false) := Lib.hid (by rw [HGV.out]; simp [hba])
                clear hba hba2
                go_wp2_with fail
                go_roundw
                case rel =>
                  refine ⟨k + 1, _, by omega, by go_num, Lib.hid M5.out, Lib.hid fun j hj hjk => ?_⟩
                  rcases Nat.lt_or_ge j k with h5 | h5
                  · exact HP.out j hj h5
                  · obtain rfl : j = k := by omega
                    exact Hpf.out
                case measure => simp [intOf]; omega
          · have hgd : (gives == (n : Int)) = false := by simpa using hg
            have Hpf : Hid (givesB c (soB c fs cs) n cs[k] = false) := Lib.hid (by rw [HGV.out]; simp [hg])
            clear hg
            go_wp2_with fail
            go_roundw
            case rel =>
              refine ⟨k + 1, D', by omega, by go_num, Lib.hid (HM.out.same (Fr.alloc _ _ _)), Lib.hid fun j hj hjk => ?_⟩
              rcases Nat.lt_or_ge j k with h5 | h5
              · exact HP.out j hj h5
              · obtain rfl : j = k := by omega
                exact Hpf.out
            case measure => simp [intOf]; omega
        · obtain rfl : k = cs.length := by omega
          have t0 : wr.cell? ⟨w.heap.size + 1, 0, none⟩ = some (.int .i64 0) := cell_of_blk hB1.out 0
          have t1 : wr.cell? ⟨w.heap.size + 1, 1, none⟩ = some (.bool false) := cell_of_blk hB1.out 1
          have t2 : wr.cell? ⟨w.heap.size + 1, 2, none⟩ = some (.int .i64 0) := cell_of_blk hB1.out 2
          have t3 : wr.cell? ⟨w.heap.size + 1, 3, none⟩ = some (.int .i64 0) := cell_of_blk hB1.out 3
          have z0 := free_of_blk hB1.out 0
          have z1 := free_of_blk hB1.out 1
          have z2 := free_of_blk hB1.out 2
          have z3 := free_of_blk hB1.out 3
          go_wp2_with fail
          refine bodyPost_ret (v := .agg #[.int .i64 n, .bool false, .int .i64 (-1), .int .i64 (-1)]) (by simp [results, Tryz.results61, go_sem, *]) rfl ⟨?_, D', ?_⟩
          · have hfind : cs.find? (givesB c (soB c fs cs) n) = none := find_none fun j hj => HP.out j hj hj
            show _ = Ending.returned (fdV (fdOf c fs cs n))
            rw [hfd.out, findW, Hnf.out, hfind]
          · exact findEnd HF.out HJ0.out HD0.out HM.out (by simp) (by simp only; omega) _ _ _ _

end Go.Proofs.YtfidioedjmjddaaGreat
