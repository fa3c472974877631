/-
  The journal's laws: JournalKeeps, the plain part and its argument.
-/
import Derived.Test.YtbogljpafpkikaaGreatDoorQLP
import Derived.Test.YtbogljpafpkikaaGreatDoorQL10o
import Derived.Test.YtbogljpafpkikaaGreatDoorQRO
import Derived.Test.YtbogljpafpkikaaGreatDoorQL10d
import Derived.Test.YtbogljpafpkikaaGreatDoorQLS
namespace Go.Proofs.YtbogljpafpkikaaGreatDoor
open Go.RowKit Go.Lib

/-- What the law knows behind a round: the disk is as the journal says, or the power is off. -/
structure KpP (m : Nat) (D : Dk) (L : List ByteArray) (br : Bool) : Prop where
  len : D.dur.length = m
  fit : encN L ≤ m
  way : (br = false ∧ CleanL D L) ∨ (br = true ∧ D.off = true ∧ ∃ g, Hurt D L (L ++ g) ∧ encN (L ++ g) ≤ m)
theorem KpP.hurt {m : Nat} {D : Dk} {L : List ByteArray} {br : Bool} (h : KpP m D L br) : ∃ g, Hurt D L (L ++ g) ∧ encN (L ++ g) ≤ m := by
  rcases h.way with ⟨_, hc⟩ | ⟨_, _, g, hg, hf⟩
  · exact ⟨[], by rw [List.append_nil]; exact hc.hurt, by rw [List.append_nil]; exact h.fit⟩
  · exact ⟨g, hg, hf⟩
theorem KpP.few {m : Nat} {D : Dk} {L : List ByteArray} {br : Bool} (h : KpP m D L br) : D.pend.length ≤ 4000000000 := by
  obtain ⟨g, hg, _⟩ := h.hurt
  have := hg.few
  omega
theorem KpP.cut {m : Nat} {D : Dk} {L : List ByteArray} {br : Bool} (h : KpP m D L br) (n : Int) (hn : 1 ≤ n) : KpP m (D.cutD n) L br := by
  rcases h.way with ⟨hb, hc⟩ | ⟨hb, ho, g, hg, hf⟩
  · have ho : D.off = false := hc.off
    have e : D.cutD n = D.cut n.toNat := by
      simp only [Dk.cutD, ho, Bool.false_eq_true, if_false]
      rw [if_neg (by omega)]
    rw [e]
    exact ⟨h.len, h.fit, .inl ⟨hb, hc.cut _ (by omega)⟩⟩
  · have e : D.cutD n = D := by simp [Dk.cutD, ho]
    rw [e]
    exact h
theorem KpP.app {m : Nat} {D : Dk} {L : List ByteArray} {br : Bool} (h : KpP m D L br) (l : List ByteArray) (hl : l.any longB = false) : ∃ n L' br' D', D.apps (tp0.adds L) br l = (n, tp0.adds L', br', D') ∧ KpP m D' L' br' ∧ ((n = 0 ∧ L' = L ++ l) ∨ ((n == 0) = false ∧ L' = L)) := by
  rcases h.way with ⟨hb, hc⟩ | ⟨hb, ho, g, hg, hf⟩
  · subst hb
    obtain ⟨n, L', br', D', h1, h2⟩ := append_pow hc (by rw [h.len]; exact h.fit) l hl
    have hln : D'.dur.length = m := by rw [h2.len]; exact h.len
    have hft : encN L' ≤ m := by have := h2.fit; rw [h.len] at this; exact this
    refine ⟨n, L', br', D', h1, ?_⟩
    rcases h2.way with ⟨rfl, h3, h4, h5⟩ | ⟨rfl, h3, h4, h5⟩ | ⟨rfl, h3, h4, h5, h6, h7⟩
    · exact ⟨⟨hln, hft, .inl ⟨h4, h5⟩⟩, .inl ⟨rfl, h3⟩⟩
    · exact ⟨⟨hln, hft, .inl ⟨h4, by rw [h5, h3]; exact hc⟩⟩, .inr ⟨rfl, h3⟩⟩
    · exact ⟨⟨hln, hft, .inr ⟨h4, h5, l, by rw [h3]; exact h6, by rw [h3, ← h.len]; exact h7⟩⟩, .inr ⟨rfl, h3⟩⟩
  · subst hb
    exact ⟨100, L, true, D, apps_broken D _ l, h, .inr ⟨rfl, rfl⟩⟩
theorem KpP.opens {m : Nat} {D : Dk} {L : List ByteArray} {br : Bool} (h : KpP m D L br) (hD : D.Ok) (keep : List Int) (torn : Int) : ∃ Lr D', (D.crash keep torn).opens = (0, some (tp0.adds Lr), D') ∧ KpP m D' Lr false ∧ Lr.take L.length = L ∧ L.length ≤ Lr.length := by
  obtain ⟨g, hg, hf⟩ := h.hurt
  obtain ⟨Lr, D', hL, h1, h2, h3⟩ := hg.opens hD keep torn
  refine ⟨Lr, D', h1, ⟨by rw [h3]; exact h.len, ?_, .inl ⟨rfl, h2.any⟩⟩, ?_, ?_⟩
  · rcases hL with rfl | rfl
    · exact h.fit
    · exact hf
  · rcases hL with rfl | rfl
    · exact List.take_length
    · exact List.take_left
  · rcases hL with rfl | rfl
    · exact Nat.le_refl _
    · rw [List.length_append]; omega
/-- The first elements of a slice. -/
theorem Sl.cut {w : World} {a : Option Addr} {n c : Nat} {cs : List Value} (h : Sl w (.slice a n c) n cs) (k : Nat) (hk : k ≤ n) : Sl w (.slice a k c) k (cs.take k) := by
  obtain ⟨a', c', he, h1, h2, h3⟩ := h
  cases he
  refine ⟨a, c, rfl, by omega, h2, fun h0 => ?_⟩
  obtain ⟨b, off, rfl, hc⟩ := h3 (by omega)
  refine ⟨b, off, rfl, fun j u hu => hc j u ?_⟩
  rcases Nat.lt_or_ge j k with hj | hj
  · rw [List.getElem?_take_of_lt hj] at hu
    exact hu
  · rw [List.getElem?_eq_none (by simp; omega)] at hu
    cases hu
theorem Sl.caps {w : World} {a : Option Addr} {n c : Nat} {cs : List Value} (h : Sl w (.slice a n c) n cs) : n ≤ c ∧ c ≤ 9223372036854775807 := by
  obtain ⟨a', c', he, h1, h2, _⟩ := h
  cases he
  exact ⟨h1, h2⟩

/-- A call of the law: its kind, a group, how many writes or bytes, which writes survive. -/
structure OpV where
  kind : Int
  lv : Value
  l : List ByteArray
  n : Int
  ka : Option Addr
  kc : Nat
  keep : List Int
structure OpV.Ok (y : OpV) (w : World) : Prop where
  k1 : -9223372036854775808 ≤ y.kind
  k2 : y.kind ≤ 9223372036854775807
  n1 : -9223372036854775808 ≤ y.n
  n2 : y.n ≤ 9223372036854775807
  grp : GOk w y.lv y.l
  row : RowI w y.ka y.kc y.keep
instance : Inhabited OpV := ⟨⟨0, .slice none 0 0, [], 0, none, 0, []⟩⟩
/-- A slice of such calls. -/
structure RowOp (W : World) (a : Option Addr) (cap : Nat) (l : List OpV) : Prop where
  le : l.length ≤ cap
  max : cap ≤ 9223372036854775807
  ok : ∀ y, y ∈ l → y.Ok W
  cells : 0 < l.length → ∃ b off, a = some ⟨b, off, none⟩ ∧ ∀ i, (h : i < l.length) → W.cell? ⟨b, off + i * 4, none⟩ = some (.int .i64 l[i].kind) ∧ W.cell? ⟨b, off + i * 4 + 1, none⟩ = some l[i].lv ∧ W.cell? ⟨b, off + i * 4 + 2, none⟩ = some (.int .i64 l[i].n) ∧ W.cell? ⟨b, off + i * 4 + 3, none⟩ = some (.slice l[i].ka l[i].keep.length l[i].kc)

end Go.Proofs.YtbogljpafpkikaaGreatDoor

/-
  Openers of a law's argument: a slice of calls.
-/
namespace Go.Proofs.YtbogljpafpkikaaGreatDoor
open Go.ChangeShapes Go.WideShapes Go.ChangeAt Go.RowKit Go.Lib

theorem each_op {Q : Nat → OpV → Prop} (n : Nat) (h : ∀ i, i < n → ∃ x, Q i x) : ∃ l : List OpV, l.length = n ∧ ∀ i, (hi : i < l.length) → Q i l[i] := by
  induction n with
  | zero => exact ⟨[], rfl, fun i hi => absurd hi (by simp)⟩
  | succ n ih =>
    obtain ⟨l, hl, hQ⟩ := ih (fun i hi => h i (by omega))
    obtain ⟨x, hx⟩ := h n (by omega)
    refine ⟨l ++ [x], by simp [hl], fun i hi => ?_⟩
    rcases Nat.lt_or_ge i l.length with h1 | h1
    · rw [List.getElem_append_left h1]
      exact hQ i h1
    · have h2 : i = n := by simp at hi; omega
      rw [List.getElem_append_right h1]
      simpa [h2] using hx

set_option maxRecDepth 100000 in
theorem rowOp_of_open {H : Type} {enc : TypeId × Value → H} {W : World} {base : Nat} {v : Value} {d : DataW H} {p : List MemPlace}
    (k : Value.okWide Tryz.prog W .any base 56 v) (h : DataW.Trod enc Tryz.prog W 0 (fun _ => true) true 56 v d p) : ∃ a cap l, v = .slice a l.length cap ∧ RowOp W a cap l := by
  obtain ⟨a0, len0, cap0, rfl⟩ := Go.WideShapes.okWide_slice Tryz.underlying56 k
  obtain ⟨fuel, hf⟩ := h
  obtain ⟨a, len, cap, hv, h1, h2, h3⟩ := structs_of_trod Tryz.underlying56 Tryz.underlying60 (by kernel_rfl) (by kernel_rfl) (by decide) (by simpa [Value.cells] using hf)
  rcases Nat.eq_zero_or_pos len with h0 | h0
  · exact ⟨a, cap, [], by rw [hv, h0]; rfl, by simp, h2, by simp, by simp⟩
  · obtain ⟨b, off, ha, _, hc⟩ := h3 h0
    have each : ∀ i, i < len → ∃ y : OpV, y.Ok W ∧ W.cell? ⟨b, off + i * 4, none⟩ = some (.int .i64 y.kind) ∧ W.cell? ⟨b, off + i * 4 + 1, none⟩ = some y.lv ∧ W.cell? ⟨b, off + i * 4 + 2, none⟩ = some (.int .i64 y.n) ∧ W.cell? ⟨b, off + i * 4 + 3, none⟩ = some (.slice y.ka y.keep.length y.kc) := by
      intro i hi
      obtain ⟨u0, _, _, c0, t0⟩ := hc i hi 0 _ rfl
      obtain ⟨u1, _, _, c1, t1⟩ := hc i hi 1 _ rfl
      obtain ⟨u2, _, _, c2, t2⟩ := hc i hi 2 _ rfl
      obtain ⟨u3, _, _, c3, t3⟩ := hc i hi 3 _ rfl
      obtain ⟨x0, rfl, b0, b1⟩ := trod_i64 Tryz.underlying3 t0
      obtain ⟨l, hl⟩ := gok_of_trod t1
      obtain ⟨x2, rfl, b4, b5⟩ := trod_i64 Tryz.underlying3 t2
      obtain ⟨ka, kcap, zs, rfl, hr⟩ := rowI_of_trod Tryz.underlying58 Tryz.underlying3 (by kernel_rfl) t3
      exact ⟨⟨x0, u1, l, x2, ka, kcap, zs⟩, ⟨b0, b1, b4, b5, hl, hr⟩, c0, c1, c2, c3⟩
    obtain ⟨l, hl, hQ⟩ := each_op len each
    refine ⟨a, cap, l, by rw [hv, hl], by omega, h2, fun x hx => ?_, fun _ => ⟨b, off, ha, fun i hi => (hQ i hi).2⟩⟩
    obtain ⟨j, hj, rfl⟩ := List.getElem_of_mem hx
    exact (hQ j hj).1

end Go.Proofs.YtbogljpafpkikaaGreatDoor

/-
  The journal's laws: a program's journal and the reference's beside it.
-/
namespace Go.Proofs.YtbogljpafpkikaaGreatDoor
open Go.RowKit Go.Lib

/-! ### Plain -/
theorem ok_doD {D : Dk} (h : D.Ok) (o : Dop) : (D.doD o).Ok ∧ (D.doD o).dur.length = D.dur.length := by
  cases o with
  | write a s =>
    simp only [Dk.doD, Dk.writeD]
    split
    · exact ⟨h, rfl⟩
    · split
      · rename_i _ hi
        simp only [insB, decide_eq_true_eq] at hi
        refine ⟨h.write (by omega), ?_⟩
        simp only [Dk.write, Dk.use]
        split <;> rfl
      · exact ⟨h, rfl⟩
  | sync =>
    simp only [Dk.doD, Dk.syncD]
    split
    · exact ⟨h, rfl⟩
    · have h1 := h.len
      have h2 := h.pos
      have h3 := h.max
      exact ⟨⟨rfl, by simp only [Dk.sync]; omega, by simp only [Dk.sync]; omega, h.left, by simp [Dk.sync]⟩, h1⟩
theorem runs_okL (l : List Dop) : ∀ {D : Dk}, D.Ok → (D.runs l).2.Ok ∧ (D.runs l).2.dur.length = D.dur.length ∧ (D.runs l).2.pend.length ≤ D.pend.length + l.length := by
  induction l with
  | nil => intro D h; exact ⟨h, rfl, Nat.le_refl _⟩
  | cons o l ih =>
    intro D h
    obtain ⟨h1, h2⟩ := ok_doD h o
    have h3 := doD_pend D o
    rw [Dk.runs]
    split
    · obtain ⟨k1, k2, k3⟩ := ih h1
      exact ⟨k1, by omega, by simp only [List.length_cons]; omega⟩
    · exact ⟨h1, h2, by simp only [List.length_cons]; omega⟩
/-- A journal's plain state: whole records that fit. -/
def JkOk (n : Nat) (t : Tp) : Prop := ∃ L, t = tp0.adds L ∧ encN L ≤ n ∧ ∀ r, r ∈ L → r.size ≤ 65536
theorem opens_okD {D : Dk} (h : D.Ok) : D.opens.2.2.dur.length = D.dur.length ∧ D.opens.2.2.pend.length ≤ D.pend.length + 2 ∧ (∀ t, D.opens.2.1 = some t → D.opens.1 = 0 ∧ JkOk D.dur.length t) ∧ (D.opens.2.1 = none → ¬ D.opens.1 = 0) := by
  unfold Dk.opens
  split
  · exact ⟨rfl, by simp, by simp, by simp⟩
  · cases hm : openM D.vis with
    | none => exact ⟨rfl, by simp, by simp, by simp⟩
    | some t =>
      have hk : JkOk D.dur.length t := by
        obtain ⟨M, X, h1, h2, h3, _⟩ := openM_sound hm
        refine ⟨M, h1, ?_, h2⟩
        rw [← enc_size M head0, ← h.len, h3, List.length_append]
        omega
      simp only
      split
      · exact ⟨rfl, by simp, fun u hu => by simp only [Option.some.injEq] at hu; subst hu; exact ⟨rfl, hk⟩, by simp⟩
      · obtain ⟨_, k2, k3⟩ := runs_okL [.write t.size (zeros (D.vis.length - t.size)), .sync] h
        refine ⟨k2, k3, fun u hu => ?_, fun hu => ?_⟩
        · simp only at hu
          split at hu
          · rename_i h0
            simp only [Option.some.injEq] at hu
            subst hu
            exact ⟨h0, hk⟩
          · cases hu
        · simp only at hu
          split at hu
          · cases hu
          · rename_i h0; exact h0
theorem apps_okD {D : Dk} (h : D.Ok) {t : Tp} (hk : JkOk D.dur.length t) (br : Bool) (l : List ByteArray) : (D.apps t br l).2.2.2.dur.length = D.dur.length ∧ (D.apps t br l).2.2.2.pend.length ≤ D.pend.length + 4 ∧ JkOk D.dur.length (D.apps t br l).2.1 := by
  unfold Dk.apps
  split
  · exact ⟨rfl, by simp, hk⟩
  · rename_i hb
    split
    · exact ⟨rfl, by simp, hk⟩
    · rename_i hf
      split
      · exact ⟨rfl, by simp, hk⟩
      · obtain ⟨_, k2, k3⟩ := runs_okL [.write ((t.size : Int) + 1) (str ((encAll t.head l).drop 1)), .sync, .write t.size (str ((encAll t.head l).take 1)), .sync] h
        simp only
        split
        · refine ⟨k2, k3, ?_⟩
          obtain ⟨L, rfl, h1, h2⟩ := hk
          have hl : l.any longB = false := by
            cases hx : l.any longB with
            | true => rw [hx] at hb; simp at hb
            | false => rfl
          refine ⟨L ++ l, (adds_append L l tp0).symm, ?_, fun r hr => ?_⟩
          · rw [enc_size, tpL_size, enc_size] at hf
            rw [encN_append]
            omega
          · rcases List.mem_append.1 hr with hr | hr
            · exact h2 r hr
            · exact not_long hl hr
        · exact ⟨k2, k3, hk⟩

/-! ### Memory -/
def pP : Option Jb → Value
  | none => .pointer none
  | some j => .pointer (some ⟨j.b, 0, none⟩)
def pB : Option Jb → List Nat
  | none => []
  | some j => tpB j.b j.vr
def qB : Option Jb → List Nat
  | none => []
  | some j => rjB j.b j.vr
/-- The law's world in block wb: the program's disk and its journal, the reference's. -/
structure Wd (w0 w : World) (wb db xb : Nat) (c1 c3 : Value) (fp fx : List Nat) (D R : Dk) (p q : Option Jb) : Prop where
  blk : w.heap[wb]? = some (.cells #[.pointer (some ⟨db, 0, none⟩), c1, .pointer (some ⟨xb, 0, none⟩), c3] 32 (0, 0))
  js : JS w0 w db fp D p.toList
  rf : RfA w xb fx R
  rj : ∀ j, q = some j → RjAt w j.b xb j.vr j.t j.br
  yw : w0.heap.size ≤ wb
  yx : ∀ k, k ∈ qB q ++ fx → w0.heap.size ≤ k
  ap : ∀ k, k ∈ pB p ++ fp → k ≠ wb ∧ k ∉ qB q ++ fx
  aq : ∀ k, k ∈ qB q ++ fx → k ≠ wb
  ax : ∀ k, k ∈ qB q → k ∉ fx
variable {w0 w w' : World} {wb db xb : Nat} {c1 c3 : Value} {fp fx : List Nat} {D R : Dk} {p q : Option Jb}
theorem Wd.ltp (h : Wd w0 w wb db xb c1 c3 fp fx D R p q) : ∀ k, k ∈ pB p ++ fp → k < w.heap.size := fun k hk => by
  rcases List.mem_append.1 hk with hk | hk
  · cases p with
    | none => cases hk
    | some j => exact tape_lt (h.js.js j (by simp)).1 k hk
  · exact DkAt.lt h.js.disk k hk
theorem Wd.ltq (h : Wd w0 w wb db xb c1 c3 fp fx D R p q) : ∀ k, k ∈ qB q ++ fx → k < w.heap.size := fun k hk => by
  rcases List.mem_append.1 hk with hk | hk
  · cases q with
    | none => cases hk
    | some j => exact (h.rj j rfl).lt k hk
  · exact h.rf.lt k hk
theorem Wd.yp (h : Wd w0 w wb db xb c1 c3 fp fx D R p q) : ∀ k, k ∈ pB p ++ fp → w0.heap.size ≤ k := fun k hk => by
  rcases List.mem_append.1 hk with hk | hk
  · cases p with
    | none => cases hk
    | some j => exact ((h.js.js j (by simp)).2 k hk).1
  · exact h.js.young k hk
theorem Wd.same (h : Wd w0 w wb db xb c1 c3 fp fx D R p q) (hf : Fr [] w w') : Wd w0 w' wb db xb c1 c3 fp fx D R p q :=
  ⟨hf.keep h.blk (by simp), h.js.same hf, h.rf.keep hf (by simp), fun j hj => (h.rj j hj).same hf, h.yw, h.yx, h.ap, h.aq, h.ax⟩
/-- A call that works on the program's side. -/
theorem Wd.prog {fp' : List Nat} {D' : Dk} {p' : Option Jb} (h : Wd w0 w wb db xb c1 c3 fp fx D R p q) (hj : JS w0 w' db fp' D' p'.toList) (hu : Upd (pB p ++ fp) (pB p' ++ fp') w w') : Wd w0 w' wb db xb c1 c3 fp' fx D' R p' q := by
  have hb := blk_lt h.blk
  have hn : ∀ k, k ∈ qB q ++ fx → k ∉ pB p ++ fp := fun k hk hm => (h.ap k hm).2 hk
  refine ⟨hu.fr.keep h.blk (fun hm => (h.ap wb hm).1 rfl), hj, h.rf.keep hu.fr (fun k hk => hn k (by simp [hk])), fun j hj => (h.rj j hj).fr hu.fr (fun k hk => hn k ?_), h.yw, h.yx, fun k hk => ?_, h.aq, h.ax⟩
  · subst hj; simp [qB, hk]
  · rcases hu.sub k hk with h1 | h1
    · exact h.ap k h1
    · exact ⟨by omega, fun hm => by have := h.ltq k hm; omega⟩
/-- A call that works on the reference's side. -/
theorem Wd.ref {fx' : List Nat} {R' : Dk} {q' : Option Jb} (h : Wd w0 w wb db xb c1 c3 fp fx D R p q) (hd : RfA w' xb fx' R') (hj : ∀ j, q' = some j → RjAt w' j.b xb j.vr j.t j.br) (hx : ∀ k, k ∈ qB q' → k ∉ fx') (hu : Upd (qB q ++ fx) (qB q' ++ fx') w w') : Wd w0 w' wb db xb c1 c3 fp fx' D R' p q' := by
  have hb := blk_lt h.blk
  have hn : ∀ k, k ∈ pB p ++ fp → k ∉ qB q ++ fx := fun k hk => (h.ap k hk).2
  have hs := h.js.fr.size
  refine ⟨hu.fr.keep h.blk (fun hm => h.aq wb hm rfl), ⟨h.js.disk.keep hu.fr (fun k hk => hn k (by simp [hk])), h.js.fr.step hu.fr (fun k hk => .inr (h.yx k hk)), h.js.young, fun j hj => ⟨(h.js.js j hj).1.fr hu.fr (fun k hk => hn k ?_), (h.js.js j hj).2⟩⟩, hd, hj, h.yw, fun k hk => ?_, fun k hk => ⟨(h.ap k hk).1, fun hm => ?_⟩, fun k hk => ?_, hx⟩
  · cases p with
    | none => cases hj
    | some i =>
      obtain rfl : j = i := by simpa using hj
      simp [pB, hk]
  · rcases hu.sub k hk with h1 | h1
    · exact h.yx k h1
    · omega
  · rcases hu.sub k hm with h1 | h1
    · exact hn k hk h1
    · have := h.ltp k hk; omega
  · rcases hu.sub k hk with h1 | h1
    · exact h.aq k h1
    · omega
theorem Wd.set1 (h : Wd w0 w wb db xb c1 c3 fp fx D R p q) (v : Value) : Wd w0 (w.setCell ⟨wb, 1, none⟩ v) wb db xb v c3 fp fx D R p q := by
  have hf : Fr [wb] w (w.setCell ⟨wb, 1, none⟩ v) := Fr.setCell _ _ (by simp)
  have hb := heap_setCell_same (i := 1) v h.blk
  have hp : ∀ k, k ∈ pB p ++ fp → k ∉ [wb] := fun k hk => by simpa using (h.ap k hk).1
  have hq : ∀ k, k ∈ qB q ++ fx → k ∉ [wb] := fun k hk => by simpa using h.aq k hk
  refine ⟨by simpa using hb, ⟨h.js.disk.keep hf (fun k hk => hp k (by simp [hk])), h.js.fr.step hf (fun k hk => .inr (by simp at hk; subst hk; exact h.yw)), h.js.young, fun j hj => ⟨(h.js.js j hj).1.fr hf (fun k hk => hp k ?_), (h.js.js j hj).2⟩⟩, h.rf.keep hf (fun k hk => hq k (by simp [hk])), fun j hj => (h.rj j hj).fr hf (fun k hk => hq k ?_), h.yw, h.yx, h.ap, h.aq, h.ax⟩
  · cases p with
    | none => cases hj
    | some i =>
      obtain rfl : j = i := by simpa using hj
      simp [pB, hk]
  · subst hj; simp [qB, hk]
theorem Wd.set3 (h : Wd w0 w wb db xb c1 c3 fp fx D R p q) (v : Value) : Wd w0 (w.setCell ⟨wb, 3, none⟩ v) wb db xb c1 v fp fx D R p q := by
  have hf : Fr [wb] w (w.setCell ⟨wb, 3, none⟩ v) := Fr.setCell _ _ (by simp)
  have hb := heap_setCell_same (i := 3) v h.blk
  have hp : ∀ k, k ∈ pB p ++ fp → k ∉ [wb] := fun k hk => by simpa using (h.ap k hk).1
  have hq : ∀ k, k ∈ qB q ++ fx → k ∉ [wb] := fun k hk => by simpa using h.aq k hk
  refine ⟨by simpa using hb, ⟨h.js.disk.keep hf (fun k hk => hp k (by simp [hk])), h.js.fr.step hf (fun k hk => .inr (by simp at hk; subst hk; exact h.yw)), h.js.young, fun j hj => ⟨(h.js.js j hj).1.fr hf (fun k hk => hp k ?_), (h.js.js j hj).2⟩⟩, h.rf.keep hf (fun k hk => hq k (by simp [hk])), fun j hj => (h.rj j hj).fr hf (fun k hk => hq k ?_), h.yw, h.yx, h.ap, h.aq, h.ax⟩
  · cases p with
    | none => cases hj
    | some i =>
      obtain rfl : j = i := by simpa using hj
      simp [pB, hk]
  · subst hj; simp [qB, hk]
/-- The journals are forgotten. -/
theorem Wd.drop (h : Wd w0 w wb db xb c1 c3 fp fx D R p q) : Wd w0 w wb db xb c1 c3 fp fx D R none none :=
  ⟨h.blk, h.js.only (by simp), h.rf, by simp, h.yw, fun k hk => h.yx k (by simp [qB] at hk; simp [hk]), fun k hk => by
    have := h.ap k (by simp [pB] at hk; simp [hk])
    exact ⟨this.1, fun hm => this.2 (by simp [qB] at hm; simp [hm])⟩, fun k hk => h.aq k (by simp [qB] at hk; simp [hk]), by simp [qB]⟩

/-- All the blocks. -/
def allB (wb : Nat) (fp fx : List Nat) (p q : Option Jb) : List Nat := wb :: ((pB p ++ fp) ++ (qB q ++ fx))
theorem upd_p {fp' : List Nat} {p' : Option Jb} (h : Upd (pB p ++ fp) (pB p' ++ fp') w w') : Upd (allB wb fp fx p q) (allB wb fp' fx p' q) w w' :=
  ⟨h.fr.mono (fun k hk => List.mem_cons_of_mem _ (List.mem_append_left _ hk)), fun i hi => by
    simp only [allB, List.mem_cons] at hi ⊢
    rcases hi with rfl | hi
    · exact .inl (.inl rfl)
    · rcases List.mem_append.1 hi with h1 | h1
      · exact (h.sub i h1).imp (fun h => .inr (List.mem_append_left _ h)) id
      · exact .inl (.inr (List.mem_append_right _ h1))⟩
theorem upd_q {fx' : List Nat} {q' : Option Jb} (h : Upd (qB q ++ fx) (qB q' ++ fx') w w') : Upd (allB wb fp fx p q) (allB wb fp fx' p q') w w' :=
  ⟨h.fr.mono (fun k hk => List.mem_cons_of_mem _ (List.mem_append_right _ hk)), fun i hi => by
    simp only [allB, List.mem_cons] at hi ⊢
    rcases hi with rfl | hi
    · exact .inl (.inl rfl)
    · rcases List.mem_append.1 hi with h1 | h1
      · exact .inl (.inr (List.mem_append_left _ h1))
      · exact (h.sub i h1).imp (fun h => .inr (List.mem_append_right _ h)) id⟩

/-! ### Calls on one side -/
theorem Wd.pdisk {r : Value} {D' : Dk} {e : Ending} (h : Wd w0 w wb db xb c1 c3 fp fx D R p q) (k : DkStep db fp r D' w e w') : e = .returned r ∧ ∃ fp', Wd w0 w' wb db xb c1 c3 fp' fx D' R p q ∧ Upd (allB wb fp fx p q) (allB wb fp' fx p q) w w' := by
  obtain ⟨rfl, fp', h1, h2⟩ := k
  have hu : Upd (pB p ++ fp) (pB p ++ fp') w w' := ⟨h2.fr.mono (by simp +contextual), fun i hi => by
    rcases List.mem_append.1 hi with h3 | h3
    · exact .inl (by simp [h3])
    · exact (h2.sub i h3).imp (fun h => by simp [h]) id⟩
  exact ⟨rfl, fp', h.prog (h.js.upd h1 h2) hu, upd_p hu⟩
theorem Wd.rdisk {r : Value} {R' : Dk} {e : Ending} (h : Wd w0 w wb db xb c1 c3 fp fx D R p q) (k : RfStep xb fx r R' w e w') : e = .returned r ∧ ∃ fx', Wd w0 w' wb db xb c1 c3 fp fx' D R' p q ∧ Upd (allB wb fp fx p q) (allB wb fp fx' p q) w w' := by
  obtain ⟨rfl, fx', h1, h2⟩ := k
  have hx : ∀ k, k ∈ qB q → k ∉ fx' := fun k hk hm => by
    rcases h2.sub k hm with h3 | h3
    · exact h.ax k hk h3
    · have := h.ltq k (by simp [hk]); omega
  have hu : Upd (qB q ++ fx) (qB q ++ fx') w w' := ⟨h2.fr.mono (by simp +contextual), fun i hi => by
    rcases List.mem_append.1 hi with h3 | h3
    · exact .inl (by simp [h3])
    · exact (h2.sub i h3).imp (fun h => by simp [h]) id⟩
  refine ⟨rfl, fx', h.ref h1 (fun j hj => (h.rj j hj).fr h2.fr (fun k hk => h.ax k ?_)) hx hu, upd_q hu⟩
  subst hj; exact hk
theorem Wd.popen {a : Addr} (h : Wd w0 w wb db xb c1 c3 fp fx D R none q) (hR : RndAt w0) (hA : DmgAt w0 a) (hp : D.pend.length ≤ 4000000000) :
    Calls Tryz.prog 23 #[.pointer (some ⟨db, 0, none⟩)] w fun e w' => ∃ p' fp', e = .returned (.tuple #[pP p', .int .i64 D.opens.1]) ∧ Wd w0 w' wb db xb c1 c3 fp' fx D.opens.2.2 R p' q ∧ p'.map (fun j => (j.t, j.br)) = D.opens.2.1.map (fun t => (t, false)) := by
  refine (openJ_c a db fp D w h.js.disk (hR.same h.js.fr (by simp)) (hA.fr h.js.fr (by simp)) hp).mono ?_
  rintro e w' ⟨fp', h1, h2, h3⟩
  have hU := h.js.upd h1 h2
  generalize D.opens = o at *
  obtain ⟨n, t, D'⟩ := o
  cases t with
  | none => exact ⟨none, fp', h3, h.prog hU ⟨by simpa [pB] using h2.fr, fun i hi => by simpa [pB] using h2.sub i (by simpa [pB] using hi)⟩, rfl⟩
  | some t =>
    obtain ⟨jb, vr, h4, h5, h6⟩ := h3
    refine ⟨some ⟨jb, vr, t, false⟩, fp', h4, h.prog ⟨hU.disk, hU.fr, hU.young, fun j hj => ?_⟩ ⟨by simpa [pB] using h2.fr, fun i hi => ?_⟩, rfl⟩
    · obtain rfl : j = ⟨jb, vr, t, false⟩ := by simpa using hj
      exact ⟨h5, fun k hk => ⟨Nat.le_trans h.js.fr.size (h6 k hk).1, (h6 k hk).2⟩⟩
    · rcases List.mem_append.1 hi with h7 | h7
      · exact .inr (h6 i h7).1
      · simpa [pB] using h2.sub i h7
theorem Wd.ropen (h : Wd w0 w wb db xb c1 c3 fp fx D R p none) (hp : R.pend.length ≤ 4000000000) :
    Calls Tryz.prog 46 #[.pointer (some ⟨xb, 0, none⟩)] w fun e w' => ∃ q' fx', e = .returned (.tuple #[pP q', .int .i64 R.opens.1]) ∧ Wd w0 w' wb db xb c1 c3 fp fx' D R.opens.2.2 p q' ∧ q'.map (fun j => (j.t, j.br)) = R.opens.2.1.map (fun t => (t, false)) := by
  refine (rOpen_c xb fx R w h.rf hp).mono ?_
  rintro e w' ⟨fx', h1, h2, h3⟩
  generalize R.opens = o at *
  obtain ⟨n, t, R'⟩ := o
  cases t with
  | none => exact ⟨none, fx', h3, h.ref h1 (by simp) (by simp [qB]) ⟨by simpa [qB] using h2.fr, fun i hi => by simpa [qB] using h2.sub i (by simpa [qB] using hi)⟩, rfl⟩
  | some t =>
    obtain ⟨rb, vr, h4, h5, h6⟩ := h3
    refine ⟨some ⟨rb, vr, t, false⟩, fx', h4, h.ref h1 (fun j hj => ?_) (fun k hk => (h6 k hk).2) ⟨by simpa [qB] using h2.fr, fun i hi => ?_⟩, rfl⟩
    · obtain rfl : ⟨rb, vr, t, false⟩ = j := by simpa using hj
      exact h5
    · rcases List.mem_append.1 hi with h7 | h7
      · exact .inr (h6 i h7).1
      · simpa [qB] using h2.sub i h7
theorem Wd.far {v : Value} (h : Wd w0 w wb db xb c1 c3 fp fx D R p q) (hy : ∀ g, v.ownBlock = some g → w.heap.size ≤ g ∧ g < w'.heap.size) : Far w' v (allB wb fp fx p q) := fun g hg =>
  ⟨fun hm => by
    have h1 := (hy g hg).1
    simp only [allB, List.mem_cons] at hm
    rcases hm with rfl | hm
    · have := blk_lt h.blk; omega
    · rcases List.mem_append.1 hm with h2 | h2
      · have := h.ltp g h2; omega
      · have := h.ltq g h2; omega, (hy g hg).2⟩
theorem Wd.papp {jb : Nat} {vr : Value} {L : List ByteArray} {br : Bool} (h : Wd w0 w wb db xb c1 c3 fp fx D R (some ⟨jb, vr, tp0.adds L, br⟩) q) (hR : RndAt w0) (l : List ByteArray) (a : Option Addr) (cap : Nat) (hs : Sl w (.slice a (fewM l).length cap) (fewM l).length ((fewM l).map Value.string))
    (hL : encN L ≤ D.dur.length) (hp : D.pend.length ≤ 4000000000) : Calls Tryz.prog 8 #[.pointer (some ⟨jb, 0, none⟩), .slice a (fewM l).length cap] w fun e w' => e = .returned (.int .i64 (D.apps (tp0.adds L) br (fewM l)).1) ∧ ∃ vr' fp', Wd w0 w' wb db xb c1 c3 fp' fx (D.apps (tp0.adds L) br (fewM l)).2.2.2 R (some ⟨jb, vr', (D.apps (tp0.adds L) br (fewM l)).2.1, (D.apps (tp0.adds L) br (fewM l)).2.2.1⟩) q ∧ Upd (allB wb fp fx (some ⟨jb, vr, tp0.adds L, br⟩) q) (allB wb fp' fx (some ⟨jb, vr', (D.apps (tp0.adds L) br (fewM l)).2.1, (D.apps (tp0.adds L) br (fewM l)).2.2.1⟩) q) w w' := by
  refine (few_u h.js hR l a cap hs hL hp).mono ?_
  rintro e w' ⟨rfl, vr', fp', h1, h2⟩
  exact ⟨rfl, vr', fp', h.prog h1 h2, upd_p h2⟩
theorem Wd.rapp {rb : Nat} {vr : Value} {L : List ByteArray} {br : Bool} (h : Wd w0 w wb db xb c1 c3 fp fx D R p (some ⟨rb, vr, tp0.adds L, br⟩)) (l : List ByteArray) (a : Option Addr) (cap : Nat) (hs : Sl w (.slice a (fewM l).length cap) (fewM l).length ((fewM l).map Value.string))
    (hf : Far w (.slice a (fewM l).length cap) (allB wb fp fx p (some ⟨rb, vr, tp0.adds L, br⟩))) (hL : encN L ≤ R.dur.length) (hLs : ∀ r, r ∈ L → r.size ≤ 65536) (hp : R.pend.length ≤ 4000000000) : Calls Tryz.prog 10 #[.pointer (some ⟨rb, 0, none⟩), .slice a (fewM l).length cap] w fun e w' => e = .returned (.int .i64 (R.apps (tp0.adds L) br (fewM l)).1) ∧ ∃ vr' fx', Wd w0 w' wb db xb c1 c3 fp fx' D (R.apps (tp0.adds L) br (fewM l)).2.2.2 p (some ⟨rb, vr', (R.apps (tp0.adds L) br (fewM l)).2.1, (R.apps (tp0.adds L) br (fewM l)).2.2.1⟩) ∧ Upd (allB wb fp fx p (some ⟨rb, vr, tp0.adds L, br⟩)) (allB wb fp fx' p (some ⟨rb, vr', (R.apps (tp0.adds L) br (fewM l)).2.1, (R.apps (tp0.adds L) br (fewM l)).2.2.1⟩)) w w' := by
  have hl := fewM_len l
  have hm : R.dur.length ≤ 4194304 := by obtain ⟨_, _, hd, _⟩ := h.rf; exact hd.ok.max
  have hle := len_le_enc L
  refine (rAppend_c (h.rj _ rfl) h.rf h.ax (fewM l) a cap hs (fun r hr => by have := fewM_size hr; omega) (by rw [tpL_head, tpL_recs]) (by rw [tpL_size, enc_size]; exact hL) (by omega) (by rw [tpL_recs]; exact hLs) (by rw [tpL_recs]; omega) (fun g hg => ⟨fun hm => (hf g hg).1 (by simp [allB, hm]), (hf g hg).2⟩) hp).mono ?_
  rintro e w' ⟨rfl, vr', fx', h1, h2, h3, h4⟩
  refine ⟨rfl, vr', fx', h.ref h2 (fun j hj => ?_) h3 h4, upd_q h4⟩
  obtain rfl : ⟨rb, vr', _, _⟩ = j := by simpa using hj
  exact h1

/-! ### A block beside them -/
structure Bx (W : World) (bb : Nat) (cs : Array Value) (ty : TypeId) (A : List Nat) : Prop where
  blk : W.heap[bb]? = some (.cells cs ty (0, 0))
  nin : bb ∉ A
theorem Bx.upd {bb : Nat} {cs : Array Value} {ty : TypeId} {A A' : List Nat} (h : Bx w bb cs ty A) (hu : Upd A A' w w') : Bx w' bb cs ty A' := ⟨hu.fr.keep h.blk h.nin, fun hm => by
  rcases hu.sub bb hm with h1 | h1
  · exact h.nin h1
  · have := blk_lt h.blk; omega⟩
theorem Bx.same {bb : Nat} {cs : Array Value} {ty : TypeId} {A : List Nat} (h : Bx w bb cs ty A) (hf : Fr [] w w') : Bx w' bb cs ty A := ⟨hf.keep h.blk (by simp), h.nin⟩
theorem Wd.bx (h : Wd w0 w wb db xb c1 c3 fp fx D R p q) (cs : Array Value) (ty : TypeId) : Bx (w.alloc (.cells cs ty)) w.heap.size cs ty (allB wb fp fx p q) :=
  ⟨heap_alloc_new w _, fun hm => by
    simp only [allB, List.mem_cons] at hm
    rcases hm with hm | hm
    · have := blk_lt h.blk; omega
    · rcases List.mem_append.1 hm with h2 | h2
      · have := h.ltp _ h2; omega
      · have := h.ltq _ h2; omega⟩

end Go.Proofs.YtbogljpafpkikaaGreatDoor

/-
  The journal's laws: the law's world, opened.
-/
namespace Go.Proofs.YtbogljpafpkikaaGreatDoor
open Go.RowKit Go.Lib

/-- Both journals, or none: the same records, broken or not. -/
def Both (n : Nat) (p q : Option Jb) : Prop := (p = none ∧ q = none) ∨ ∃ jb vr rb vq L br, p = some ⟨jb, vr, tp0.adds L, br⟩ ∧ q = some ⟨rb, vq, tp0.adds L, br⟩ ∧ encN L ≤ n ∧ ∀ r, r ∈ L → r.size ≤ 65536
/-- The law's world: the program's side and the reference's over one model. -/
def WS (w0 w : World) (wb db xb : Nat) (D : Dk) : Prop := ∃ fp fx p q, Wd w0 w wb db xb (pP p) (pP q) fp fx D D p q ∧ Both D.dur.length p q
theorem WS.same {w0 w w' : World} {wb db xb : Nat} {D : Dk} (h : WS w0 w wb db xb D) (hf : Fr [] w w') : WS w0 w' wb db xb D := by
  obtain ⟨fp, fx, p, q, h1, h2⟩ := h
  exact ⟨fp, fx, p, q, h1.same hf, h2⟩

set_option maxRecDepth 100000 in
theorem wOpen10_s {w0 w : World} {wb db xb : Nat} {c1 c3 : Value} {fp fx : List Nat} {D : Dk} {p q : Option Jb} {a : Addr} (h : Wd w0 w wb db xb c1 c3 fp fx D D p q) (hR : RndAt w0) (hA : DmgAt w0 a) (hp : D.pend.length ≤ 1000000) :
    Calls Tryz.prog 15 #[.pointer (some ⟨wb, 0, none⟩)] w fun e w' => e = .returned (.bool true) ∧ ∃ fp fx p q, Wd w0 w' wb db xb (pP p) (pP q) fp fx D.opens.2.2 D.opens.2.2 p q ∧ Both D.opens.2.2.dur.length p q ∧ p.map (fun j => (j.t, j.br)) = D.opens.2.1.map (fun t => (t, false)) := by
  have hok := h.js.ok
  obtain ⟨k1, k2, k3, k4⟩ := opens_okD hok
  have H := Lib.hid h.drop
  have c0 : w.cell? ⟨wb, 0, none⟩ = some (.pointer (some ⟨db, 0, none⟩)) := cell_of_blk h.blk 0
  have CP := Lib.hid (H.out.popen hR hA (by omega))
  have CR := Lib.hid (fun W (fp' : List Nat) (D' : Dk) (p' : Option Jb) (h : Wd w0 W wb db xb c1 c3 fp' fx D' D p' none) => h.ropen (by omega))
  have K1 := Lib.hid k1; have K3 := Lib.hid k3; have K4 := Lib.hid k4
  clear h hok k1 k2 k3 k4
  generalize D.opens = o at *
  go_enter Tryz.func15, Tryz.ntmps15
  go_wp2_with fail
  refine CP.out.mono ?_
  rintro e W1 ⟨p', fp', rfl, h1, hp'⟩
  have H1 := Lib.hid h1; have HP := Lib.hid hp'
  have c2 : W1.cell? ⟨wb, 2, none⟩ = some (.pointer (some ⟨xb, 0, none⟩)) := cell_of_blk h1.blk 2
  have CQ := Lib.hid (CR.out W1 _ _ _ h1)
  clear h1 hp' c0 CP H
  go_wp2_with fail
  refine CQ.out.mono ?_
  rintro e W2 ⟨q', fx', rfl, h2, hq'⟩
  have H2 := Lib.hid h2; have HQ := Lib.hid hq'
  have d1 := cell_of_blk h2.blk 1
  have d3 := cell_of_blk h2.blk 3
  have g1 := free_of_blk h2.blk 1
  have g3 := free_of_blk h2.blk 3
  clear h2 hq' c2 CQ H1 CR
  obtain ⟨n, t, D'⟩ := o
  cases t with
  | none =>
    obtain rfl : p' = none := by have := HP.out; cases p' with | none => rfl | some j => simp at this
    obtain rfl : q' = none := by have := HQ.out; cases q' with | none => rfl | some j => simp at this
    have hn := K4.out rfl
    have hn1 : (n != 0) = true := by simpa using hn
    simp only [pP] at H2 ⊢
    clear hn HP HQ K3 K4
    go_wp2_with fail
    go_ret
    exact ⟨rfl, fp', fx', none, none, (H2.out.set1 _).set3 _, .inl ⟨rfl, rfl⟩, rfl⟩
  | some t =>
    obtain ⟨jb, vr, rfl⟩ : ∃ jb vr, p' = some ⟨jb, vr, t, false⟩ := by
      have := HP.out
      cases p' with
      | none => simp at this
      | some j => obtain ⟨b, vr, t', br⟩ := j; simp at this; obtain ⟨rfl, rfl⟩ := this; exact ⟨b, vr, rfl⟩
    obtain ⟨rb, vq, rfl⟩ : ∃ jb vr, q' = some ⟨jb, vr, t, false⟩ := by
      have := HQ.out
      cases q' with
      | none => simp at this
      | some j => obtain ⟨b, vr, t', br⟩ := j; simp at this; obtain ⟨rfl, rfl⟩ := this; exact ⟨b, vr, rfl⟩
    obtain ⟨hn, L, rfl, hL1, hL2⟩ := K3.out t rfl
    simp only at hn
    subst hn
    simp only [pP] at H2 ⊢
    have HL := Lib.hid hL1; have HL2 := Lib.hid hL2
    clear HP HQ K3 K4 hL1 hL2
    go_wp2_with fail
    go_ret
    exact ⟨rfl, fp', fx', _, _, (H2.out.set1 _).set3 _, .inr ⟨jb, vr, rb, vq, L, false, rfl, rfl, by have h1 : D'.dur.length = D.dur.length := K1.out; have h2 := HL.out; show encN L ≤ D'.dur.length; omega, HL2.out⟩, by simp⟩
theorem wOpen10_c {w0 w : World} {wb db xb : Nat} {c1 c3 : Value} {fp fx : List Nat} {D : Dk} {p q : Option Jb} {a : Addr} (h : Wd w0 w wb db xb c1 c3 fp fx D D p q) (hR : RndAt w0) (hA : DmgAt w0 a) (hp : D.pend.length ≤ 1000000) :
    Calls Tryz.prog 15 #[.pointer (some ⟨wb, 0, none⟩)] w fun e w' => e = .returned (.bool true) ∧ WS w0 w' wb db xb D.opens.2.2 :=
  (wOpen10_s h hR hA hp).mono fun _ _ ⟨he, fp, fx, p, q, h1, h2, _⟩ => ⟨he, fp, fx, p, q, h1, h2⟩

end Go.Proofs.YtbogljpafpkikaaGreatDoor

/-
  The journal's laws: a call on both journals.
-/
namespace Go.Proofs.YtbogljpafpkikaaGreatDoor
open Go.RowKit Go.Lib

/-- What the loads of a round read: the world's block and the call's. -/
def DoS (wb bb : Nat) (cw cb : Array Value) (W : World) : Prop := W.heap[wb]? = some (.cells cw 32 (0, 0)) ∧ W.heap[bb]? = some (.cells cb 60 (0, 0))
theorem crash_lenJ {D : Dk} (h : D.Ok) (keep : List Int) (torn : Int) : (D.crash keep torn).dur.length = D.dur.length := crashTo_length h keep torn _ (Nat.le_refl _)
theorem cutD_len (D : Dk) (n : Int) : (D.cutD n).dur.length = D.dur.length := by
  unfold Dk.cutD
  split
  · rfl
  · split <;> rfl
theorem cutD_pend (D : Dk) (n : Int) : (D.cutD n).pend.length = D.pend.length := by
  unfold Dk.cutD
  split
  · rfl
  · split <;> rfl
/-- What a call leaves. -/
def DoneW (w0 : World) (wb db xb : Nat) (D : Dk) (e : Ending) (w' : World) : Prop := e = .returned (.bool true) ∧ ∃ D', WS w0 w' wb db xb D' ∧ D'.dur.length = D.dur.length ∧ D'.pend.length ≤ D.pend.length + 4

set_option maxRecDepth 100000 in
set_option maxHeartbeats 4000000 in
theorem wDoes10_c {w0 w : World} {wb db xb : Nat} {D : Dk} {a0 : Addr} (h : WS w0 w wb db xb D) (y : OpV) (hy : y.Ok w0) (hR : RndAt w0) (hA : DmgAt w0 a0) (hp : D.pend.length ≤ 100000) :
    Calls Tryz.prog 27 #[.pointer (some ⟨wb, 0, none⟩), .agg #[.int .i64 y.kind, y.lv, .int .i64 y.n, .slice y.ka y.keep.length y.kc]] w (DoneW w0 wb db xb D) := by
  obtain ⟨fp, fx, p, q, h, hb⟩ := h
  obtain ⟨kind, lv, l, on, ka, kc, keep⟩ := y
  obtain ⟨k1, k2, n1, n2, ⟨la, lc, hlv, hsl, hls⟩, hrow⟩ := hy
  simp only at k1 k2 n1 n2 hlv hsl hls hrow ⊢
  subst hlv
  have hok := h.js.ok
  have HPk := Lib.hid fun w => pick10_c on 5 w ⟨n1, n2⟩ (by omega) (by omega)
  have hpb := pickJ_bound on 5 (by omega)
  have HPd := Lib.hid fun w => pick10_c kind 8 w ⟨k1, k2⟩ (by omega) (by omega)
  generalize pickJ kind 8 = z at *
  generalize pickJ on 5 = pc0 at *
  obtain ⟨pc, rfl⟩ := Int.eq_ofNat_of_zero_le hpb.1
  have hp5 : pc < 5 := by omega
  have H := Lib.hid h; have HBo := Lib.hid hb; have HSl := Lib.hid hsl; have HLs := Lib.hid hls; have HRow := Lib.hid hrow; have HR := Lib.hid hR; have HA := Lib.hid hA; have HOk := Lib.hid hok
  clear h hb hsl hls hrow hR hA hpb hok
  go_enter Tryz.func27, Tryz.ntmps27
  go_wp2_with fail
  have HB := Lib.hid (H.out.bx #[.int .i64 kind, .slice la l.length lc, .int .i64 on, .slice ka keep.length kc] 60)
  have HW := Lib.hid (H.out.same (Fr.alloc [] w (.cells #[.int .i64 kind, .slice la l.length lc, .int .i64 on, .slice ka keep.length kc] 60)))
  generalize World.alloc w _ = W1 at *
  generalize w.heap.size = bb at *
  clear H
  refine (HPd.out _).mono ?_
  rintro e _ ⟨rfl, rfl⟩
  clear HPd
  by_cases h5 : z = 5
  · subst h5
    go_wp2_with fail
    refine reg_tree (DoS wb bb #[.pointer (some ⟨db, 0, none⟩), pP p, .pointer (some ⟨xb, 0, none⟩), pP q] #[.int .i64 kind, .slice la l.length lc, .int .i64 on, .slice ka keep.length kc]) 19 (.take 0 (.take 1 (.take 2 (.take 3 (.take 4 (.take 5 (.take 9 (.take 10 (.take 11 (.take 12 (.take 13 (.take 14 (.one 6 (.take 7 (.one 8 (.one 15 (.take 16 (.one 17 (.take 18 (.one 19 .nil)))))))))))))))))))) (by kernel_rfl) (by kernel_rfl) (by kernel_rfl) rfl ?_
    have F0 : Fr [] W1 W1.drew := Fr.drew _ _
    generalize W1.drew = WC at F0 ⊢
    have HW0 := Lib.hid (HW.out.same F0); have HB0 := Lib.hid (HB.out.same F0)
    have S0 : DoS wb bb #[.pointer (some ⟨db, 0, none⟩), pP p, .pointer (some ⟨xb, 0, none⟩), pP q] #[.int .i64 kind, .slice la l.length lc, .int .i64 on, .slice ka keep.length kc] WC := ⟨HW0.out.blk, HB0.out.blk⟩
    clear F0
    (refine tree_take (v := ?_) rfl rfl rfl S0 (fun w hS => ?_) ?_; rotate_left; (focus (have c0 : World.cell? _ ⟨wb, 0, none⟩ = some (.pointer (some ⟨db, 0, none⟩)) := cell_of_blk hS.1 0; have c1 : World.cell? _ ⟨wb, 1, none⟩ = some (pP p) := cell_of_blk hS.1 1; have c2 : World.cell? _ ⟨wb, 2, none⟩ = some (.pointer (some ⟨xb, 0, none⟩)) := cell_of_blk hS.1 2; have c3 : World.cell? _ ⟨wb, 3, none⟩ = some (pP q) := cell_of_blk hS.1 3; have b0 : World.cell? _ ⟨bb, 0, none⟩ = some (.int .i64 kind) := cell_of_blk hS.2 0; have b1 : World.cell? _ ⟨bb, 1, none⟩ = some (.slice la l.length lc) := cell_of_blk hS.2 1; have b2 : World.cell? _ ⟨bb, 2, none⟩ = some (.int .i64 on) := cell_of_blk hS.2 2; have b3 : World.cell? _ ⟨bb, 3, none⟩ = some (.slice ka keep.length kc) := cell_of_blk hS.2 3; clear hS; go_simp; rfl)); simp only [List.setIfInBounds_toArray, List.set_cons_succ, List.set_cons_zero])
    (refine tree_take (v := ?_) rfl rfl rfl S0 (fun w hS => ?_) ?_; rotate_left; (focus (have c0 : World.cell? _ ⟨wb, 0, none⟩ = some (.pointer (some ⟨db, 0, none⟩)) := cell_of_blk hS.1 0; have c1 : World.cell? _ ⟨wb, 1, none⟩ = some (pP p) := cell_of_blk hS.1 1; have c2 : World.cell? _ ⟨wb, 2, none⟩ = some (.pointer (some ⟨xb, 0, none⟩)) := cell_of_blk hS.1 2; have c3 : World.cell? _ ⟨wb, 3, none⟩ = some (pP q) := cell_of_blk hS.1 3; have b0 : World.cell? _ ⟨bb, 0, none⟩ = some (.int .i64 kind) := cell_of_blk hS.2 0; have b1 : World.cell? _ ⟨bb, 1, none⟩ = some (.slice la l.length lc) := cell_of_blk hS.2 1; have b2 : World.cell? _ ⟨bb, 2, none⟩ = some (.int .i64 on) := cell_of_blk hS.2 2; have b3 : World.cell? _ ⟨bb, 3, none⟩ = some (.slice ka keep.length kc) := cell_of_blk hS.2 3; clear hS; go_simp; rfl)); simp only [List.setIfInBounds_toArray, List.set_cons_succ, List.set_cons_zero])
    (refine tree_take (v := ?_) rfl rfl rfl S0 (fun w hS => ?_) ?_; rotate_left; (focus (have c0 : World.cell? _ ⟨wb, 0, none⟩ = some (.pointer (some ⟨db, 0, none⟩)) := cell_of_blk hS.1 0; have c1 : World.cell? _ ⟨wb, 1, none⟩ = some (pP p) := cell_of_blk hS.1 1; have c2 : World.cell? _ ⟨wb, 2, none⟩ = some (.pointer (some ⟨xb, 0, none⟩)) := cell_of_blk hS.1 2; have c3 : World.cell? _ ⟨wb, 3, none⟩ = some (pP q) := cell_of_blk hS.1 3; have b0 : World.cell? _ ⟨bb, 0, none⟩ = some (.int .i64 kind) := cell_of_blk hS.2 0; have b1 : World.cell? _ ⟨bb, 1, none⟩ = some (.slice la l.length lc) := cell_of_blk hS.2 1; have b2 : World.cell? _ ⟨bb, 2, none⟩ = some (.int .i64 on) := cell_of_blk hS.2 2; have b3 : World.cell? _ ⟨bb, 3, none⟩ = some (.slice ka keep.length kc) := cell_of_blk hS.2 3; clear hS; go_simp; rfl)); simp only [List.setIfInBounds_toArray, List.set_cons_succ, List.set_cons_zero])
    (refine tree_take (v := ?_) rfl rfl rfl S0 (fun w hS => ?_) ?_; rotate_left; (focus (have c0 : World.cell? _ ⟨wb, 0, none⟩ = some (.pointer (some ⟨db, 0, none⟩)) := cell_of_blk hS.1 0; have c1 : World.cell? _ ⟨wb, 1, none⟩ = some (pP p) := cell_of_blk hS.1 1; have c2 : World.cell? _ ⟨wb, 2, none⟩ = some (.pointer (some ⟨xb, 0, none⟩)) := cell_of_blk hS.1 2; have c3 : World.cell? _ ⟨wb, 3, none⟩ = some (pP q) := cell_of_blk hS.1 3; have b0 : World.cell? _ ⟨bb, 0, none⟩ = some (.int .i64 kind) := cell_of_blk hS.2 0; have b1 : World.cell? _ ⟨bb, 1, none⟩ = some (.slice la l.length lc) := cell_of_blk hS.2 1; have b2 : World.cell? _ ⟨bb, 2, none⟩ = some (.int .i64 on) := cell_of_blk hS.2 2; have b3 : World.cell? _ ⟨bb, 3, none⟩ = some (.slice ka keep.length kc) := cell_of_blk hS.2 3; clear hS; go_simp; rfl)); simp only [List.setIfInBounds_toArray, List.set_cons_succ, List.set_cons_zero])
    (refine tree_take (v := ?_) rfl rfl rfl S0 (fun w hS => ?_) ?_; rotate_left; (focus (have c0 : World.cell? _ ⟨wb, 0, none⟩ = some (.pointer (some ⟨db, 0, none⟩)) := cell_of_blk hS.1 0; have c1 : World.cell? _ ⟨wb, 1, none⟩ = some (pP p) := cell_of_blk hS.1 1; have c2 : World.cell? _ ⟨wb, 2, none⟩ = some (.pointer (some ⟨xb, 0, none⟩)) := cell_of_blk hS.1 2; have c3 : World.cell? _ ⟨wb, 3, none⟩ = some (pP q) := cell_of_blk hS.1 3; have b0 : World.cell? _ ⟨bb, 0, none⟩ = some (.int .i64 kind) := cell_of_blk hS.2 0; have b1 : World.cell? _ ⟨bb, 1, none⟩ = some (.slice la l.length lc) := cell_of_blk hS.2 1; have b2 : World.cell? _ ⟨bb, 2, none⟩ = some (.int .i64 on) := cell_of_blk hS.2 2; have b3 : World.cell? _ ⟨bb, 3, none⟩ = some (.slice ka keep.length kc) := cell_of_blk hS.2 3; clear hS; go_simp; rfl)); simp only [List.setIfInBounds_toArray, List.set_cons_succ, List.set_cons_zero])
    (refine tree_take (v := ?_) rfl rfl rfl S0 (fun w hS => ?_) ?_; rotate_left; (focus (have c0 : World.cell? _ ⟨wb, 0, none⟩ = some (.pointer (some ⟨db, 0, none⟩)) := cell_of_blk hS.1 0; have c1 : World.cell? _ ⟨wb, 1, none⟩ = some (pP p) := cell_of_blk hS.1 1; have c2 : World.cell? _ ⟨wb, 2, none⟩ = some (.pointer (some ⟨xb, 0, none⟩)) := cell_of_blk hS.1 2; have c3 : World.cell? _ ⟨wb, 3, none⟩ = some (pP q) := cell_of_blk hS.1 3; have b0 : World.cell? _ ⟨bb, 0, none⟩ = some (.int .i64 kind) := cell_of_blk hS.2 0; have b1 : World.cell? _ ⟨bb, 1, none⟩ = some (.slice la l.length lc) := cell_of_blk hS.2 1; have b2 : World.cell? _ ⟨bb, 2, none⟩ = some (.int .i64 on) := cell_of_blk hS.2 2; have b3 : World.cell? _ ⟨bb, 3, none⟩ = some (.slice ka keep.length kc) := cell_of_blk hS.2 3; clear hS; go_simp; rfl)); simp only [List.setIfInBounds_toArray, List.set_cons_succ, List.set_cons_zero])
    (refine tree_take (v := ?_) rfl rfl rfl S0 (fun w hS => ?_) ?_; rotate_left; (focus (have c0 : World.cell? _ ⟨wb, 0, none⟩ = some (.pointer (some ⟨db, 0, none⟩)) := cell_of_blk hS.1 0; have c1 : World.cell? _ ⟨wb, 1, none⟩ = some (pP p) := cell_of_blk hS.1 1; have c2 : World.cell? _ ⟨wb, 2, none⟩ = some (.pointer (some ⟨xb, 0, none⟩)) := cell_of_blk hS.1 2; have c3 : World.cell? _ ⟨wb, 3, none⟩ = some (pP q) := cell_of_blk hS.1 3; have b0 : World.cell? _ ⟨bb, 0, none⟩ = some (.int .i64 kind) := cell_of_blk hS.2 0; have b1 : World.cell? _ ⟨bb, 1, none⟩ = some (.slice la l.length lc) := cell_of_blk hS.2 1; have b2 : World.cell? _ ⟨bb, 2, none⟩ = some (.int .i64 on) := cell_of_blk hS.2 2; have b3 : World.cell? _ ⟨bb, 3, none⟩ = some (.slice ka keep.length kc) := cell_of_blk hS.2 3; clear hS; go_simp; rfl)); simp only [List.setIfInBounds_toArray, List.set_cons_succ, List.set_cons_zero])
    (refine tree_take (v := ?_) rfl rfl rfl S0 (fun w hS => ?_) ?_; rotate_left; (focus (have c0 : World.cell? _ ⟨wb, 0, none⟩ = some (.pointer (some ⟨db, 0, none⟩)) := cell_of_blk hS.1 0; have c1 : World.cell? _ ⟨wb, 1, none⟩ = some (pP p) := cell_of_blk hS.1 1; have c2 : World.cell? _ ⟨wb, 2, none⟩ = some (.pointer (some ⟨xb, 0, none⟩)) := cell_of_blk hS.1 2; have c3 : World.cell? _ ⟨wb, 3, none⟩ = some (pP q) := cell_of_blk hS.1 3; have b0 : World.cell? _ ⟨bb, 0, none⟩ = some (.int .i64 kind) := cell_of_blk hS.2 0; have b1 : World.cell? _ ⟨bb, 1, none⟩ = some (.slice la l.length lc) := cell_of_blk hS.2 1; have b2 : World.cell? _ ⟨bb, 2, none⟩ = some (.int .i64 on) := cell_of_blk hS.2 2; have b3 : World.cell? _ ⟨bb, 3, none⟩ = some (.slice ka keep.length kc) := cell_of_blk hS.2 3; clear hS; go_simp; rfl)); simp only [List.setIfInBounds_toArray, List.set_cons_succ, List.set_cons_zero])
    (refine tree_take (v := ?_) rfl rfl rfl S0 (fun w hS => ?_) ?_; rotate_left; (focus (have c0 : World.cell? _ ⟨wb, 0, none⟩ = some (.pointer (some ⟨db, 0, none⟩)) := cell_of_blk hS.1 0; have c1 : World.cell? _ ⟨wb, 1, none⟩ = some (pP p) := cell_of_blk hS.1 1; have c2 : World.cell? _ ⟨wb, 2, none⟩ = some (.pointer (some ⟨xb, 0, none⟩)) := cell_of_blk hS.1 2; have c3 : World.cell? _ ⟨wb, 3, none⟩ = some (pP q) := cell_of_blk hS.1 3; have b0 : World.cell? _ ⟨bb, 0, none⟩ = some (.int .i64 kind) := cell_of_blk hS.2 0; have b1 : World.cell? _ ⟨bb, 1, none⟩ = some (.slice la l.length lc) := cell_of_blk hS.2 1; have b2 : World.cell? _ ⟨bb, 2, none⟩ = some (.int .i64 on) := cell_of_blk hS.2 2; have b3 : World.cell? _ ⟨bb, 3, none⟩ = some (.slice ka keep.length kc) := cell_of_blk hS.2 3; clear hS; go_simp; rfl)); simp only [List.setIfInBounds_toArray, List.set_cons_succ, List.set_cons_zero])
    (refine tree_take (v := ?_) rfl rfl rfl S0 (fun w hS => ?_) ?_; rotate_left; (focus (have c0 : World.cell? _ ⟨wb, 0, none⟩ = some (.pointer (some ⟨db, 0, none⟩)) := cell_of_blk hS.1 0; have c1 : World.cell? _ ⟨wb, 1, none⟩ = some (pP p) := cell_of_blk hS.1 1; have c2 : World.cell? _ ⟨wb, 2, none⟩ = some (.pointer (some ⟨xb, 0, none⟩)) := cell_of_blk hS.1 2; have c3 : World.cell? _ ⟨wb, 3, none⟩ = some (pP q) := cell_of_blk hS.1 3; have b0 : World.cell? _ ⟨bb, 0, none⟩ = some (.int .i64 kind) := cell_of_blk hS.2 0; have b1 : World.cell? _ ⟨bb, 1, none⟩ = some (.slice la l.length lc) := cell_of_blk hS.2 1; have b2 : World.cell? _ ⟨bb, 2, none⟩ = some (.int .i64 on) := cell_of_blk hS.2 2; have b3 : World.cell? _ ⟨bb, 3, none⟩ = some (.slice ka keep.length kc) := cell_of_blk hS.2 3; clear hS; go_simp; rfl)); simp only [List.setIfInBounds_toArray, List.set_cons_succ, List.set_cons_zero])
    (refine tree_take (v := ?_) rfl rfl rfl S0 (fun w hS => ?_) ?_; rotate_left; (focus (have c0 : World.cell? _ ⟨wb, 0, none⟩ = some (.pointer (some ⟨db, 0, none⟩)) := cell_of_blk hS.1 0; have c1 : World.cell? _ ⟨wb, 1, none⟩ = some (pP p) := cell_of_blk hS.1 1; have c2 : World.cell? _ ⟨wb, 2, none⟩ = some (.pointer (some ⟨xb, 0, none⟩)) := cell_of_blk hS.1 2; have c3 : World.cell? _ ⟨wb, 3, none⟩ = some (pP q) := cell_of_blk hS.1 3; have b0 : World.cell? _ ⟨bb, 0, none⟩ = some (.int .i64 kind) := cell_of_blk hS.2 0; have b1 : World.cell? _ ⟨bb, 1, none⟩ = some (.slice la l.length lc) := cell_of_blk hS.2 1; have b2 : World.cell? _ ⟨bb, 2, none⟩ = some (.int .i64 on) := cell_of_blk hS.2 2; have b3 : World.cell? _ ⟨bb, 3, none⟩ = some (.slice ka keep.length kc) := cell_of_blk hS.2 3; clear hS; go_simp; rfl)); simp only [List.setIfInBounds_toArray, List.set_cons_succ, List.set_cons_zero])
    (refine tree_take (v := ?_) rfl rfl rfl S0 (fun w hS => ?_) ?_; rotate_left; (focus (have c0 : World.cell? _ ⟨wb, 0, none⟩ = some (.pointer (some ⟨db, 0, none⟩)) := cell_of_blk hS.1 0; have c1 : World.cell? _ ⟨wb, 1, none⟩ = some (pP p) := cell_of_blk hS.1 1; have c2 : World.cell? _ ⟨wb, 2, none⟩ = some (.pointer (some ⟨xb, 0, none⟩)) := cell_of_blk hS.1 2; have c3 : World.cell? _ ⟨wb, 3, none⟩ = some (pP q) := cell_of_blk hS.1 3; have b0 : World.cell? _ ⟨bb, 0, none⟩ = some (.int .i64 kind) := cell_of_blk hS.2 0; have b1 : World.cell? _ ⟨bb, 1, none⟩ = some (.slice la l.length lc) := cell_of_blk hS.2 1; have b2 : World.cell? _ ⟨bb, 2, none⟩ = some (.int .i64 on) := cell_of_blk hS.2 2; have b3 : World.cell? _ ⟨bb, 3, none⟩ = some (.slice ka keep.length kc) := cell_of_blk hS.2 3; clear hS; go_simp; rfl)); simp only [List.setIfInBounds_toArray, List.set_cons_succ, List.set_cons_zero])
    refine tree_one rfl rfl (fun K hK => ?_)
    go_simp
    refine (HPk.out _).mono ?_
    rintro e _ ⟨rfl, rfl⟩
    refine hK _ _ S0 ?_
    clear hK K
    try simp only [Act.put, List.setIfInBounds_toArray, List.set_cons_succ, List.set_cons_zero]
    (refine tree_take (v := ?_) rfl rfl rfl S0 (fun w hS => ?_) ?_; rotate_left; (focus (have c0 : World.cell? _ ⟨wb, 0, none⟩ = some (.pointer (some ⟨db, 0, none⟩)) := cell_of_blk hS.1 0; have c1 : World.cell? _ ⟨wb, 1, none⟩ = some (pP p) := cell_of_blk hS.1 1; have c2 : World.cell? _ ⟨wb, 2, none⟩ = some (.pointer (some ⟨xb, 0, none⟩)) := cell_of_blk hS.1 2; have c3 : World.cell? _ ⟨wb, 3, none⟩ = some (pP q) := cell_of_blk hS.1 3; have b0 : World.cell? _ ⟨bb, 0, none⟩ = some (.int .i64 kind) := cell_of_blk hS.2 0; have b1 : World.cell? _ ⟨bb, 1, none⟩ = some (.slice la l.length lc) := cell_of_blk hS.2 1; have b2 : World.cell? _ ⟨bb, 2, none⟩ = some (.int .i64 on) := cell_of_blk hS.2 2; have b3 : World.cell? _ ⟨bb, 3, none⟩ = some (.slice ka keep.length kc) := cell_of_blk hS.2 3; clear hS; go_simp; rw [IntWalk.i64_in (1 + (pc : Int)) (by omega)])); simp only [List.setIfInBounds_toArray, List.set_cons_succ, List.set_cons_zero])
    refine tree_one rfl rfl (fun K hK => ?_)
    go_simp
    refine (cut_dk db fp D (1 + (pc : Int)) WC HW0.out.js.disk (by omega)).mono ?_
    rintro e W2 ⟨rfl, d2, f2⟩
    obtain ⟨_, fp2, h2, u2⟩ := HW0.out.pdisk (r := .int .i64 (D.cutE (1 + (pc : Int)))) (e := .returned (.int .i64 (D.cutE (1 + (pc : Int))))) ⟨rfl, fp, d2, f2, fun _ h => .inl h⟩
    have HW2 := Lib.hid h2; have HB2 := Lib.hid (HB0.out.upd u2)
    clear d2 f2 h2 u2 HW0 HB0
    refine hK _ _ ⟨HW2.out.blk, HB2.out.blk⟩ ?_
    clear S0
    have S0 : DoS wb bb #[.pointer (some ⟨db, 0, none⟩), pP p, .pointer (some ⟨xb, 0, none⟩), pP q] #[.int .i64 kind, .slice la l.length lc, .int .i64 on, .slice ka keep.length kc] W2 := ⟨HW2.out.blk, HB2.out.blk⟩
    clear hK K
    try simp only [Act.put, List.setIfInBounds_toArray, List.set_cons_succ, List.set_cons_zero]
    refine tree_one rfl rfl (fun K hK => ?_)
    go_simp
    refine (HPk.out _).mono ?_
    rintro e _ ⟨rfl, rfl⟩
    refine hK _ _ S0 ?_
    clear hK K
    try simp only [Act.put, List.setIfInBounds_toArray, List.set_cons_succ, List.set_cons_zero]
    (refine tree_take (v := ?_) rfl rfl rfl S0 (fun w hS => ?_) ?_; rotate_left; (focus (have c0 : World.cell? _ ⟨wb, 0, none⟩ = some (.pointer (some ⟨db, 0, none⟩)) := cell_of_blk hS.1 0; have c1 : World.cell? _ ⟨wb, 1, none⟩ = some (pP p) := cell_of_blk hS.1 1; have c2 : World.cell? _ ⟨wb, 2, none⟩ = some (.pointer (some ⟨xb, 0, none⟩)) := cell_of_blk hS.1 2; have c3 : World.cell? _ ⟨wb, 3, none⟩ = some (pP q) := cell_of_blk hS.1 3; have b0 : World.cell? _ ⟨bb, 0, none⟩ = some (.int .i64 kind) := cell_of_blk hS.2 0; have b1 : World.cell? _ ⟨bb, 1, none⟩ = some (.slice la l.length lc) := cell_of_blk hS.2 1; have b2 : World.cell? _ ⟨bb, 2, none⟩ = some (.int .i64 on) := cell_of_blk hS.2 2; have b3 : World.cell? _ ⟨bb, 3, none⟩ = some (.slice ka keep.length kc) := cell_of_blk hS.2 3; clear hS; go_simp; rw [IntWalk.i64_in (1 + (pc : Int)) (by omega)])); simp only [List.setIfInBounds_toArray, List.set_cons_succ, List.set_cons_zero])
    refine tree_one rfl rfl (fun K hK => ?_)
    go_simp
    refine (rCut_dk xb fx D (1 + (pc : Int)) W2 HW2.out.rf (by omega)).mono ?_
    rintro e W3 k3
    obtain ⟨rfl, fx3, h3, u3⟩ := HW2.out.rdisk k3
    have HW3 := Lib.hid h3; have HB3 := Lib.hid (HB2.out.upd u3)
    clear k3 h3 u3 HW2 HB2 S0
    refine hK _ _ ⟨HW3.out.blk, HB3.out.blk⟩ ?_
    have S0 : DoS wb bb #[.pointer (some ⟨db, 0, none⟩), pP p, .pointer (some ⟨xb, 0, none⟩), pP q] #[.int .i64 kind, .slice la l.length lc, .int .i64 on, .slice ka keep.length kc] W3 := ⟨HW3.out.blk, HB3.out.blk⟩
    clear hK K
    try simp only [Act.put, List.setIfInBounds_toArray, List.set_cons_succ, List.set_cons_zero]
    (refine tree_take (v := ?_) rfl rfl rfl S0 (fun w hS => ?_) ?_; rotate_left; (focus (have c0 : World.cell? _ ⟨wb, 0, none⟩ = some (.pointer (some ⟨db, 0, none⟩)) := cell_of_blk hS.1 0; have c1 : World.cell? _ ⟨wb, 1, none⟩ = some (pP p) := cell_of_blk hS.1 1; have c2 : World.cell? _ ⟨wb, 2, none⟩ = some (.pointer (some ⟨xb, 0, none⟩)) := cell_of_blk hS.1 2; have c3 : World.cell? _ ⟨wb, 3, none⟩ = some (pP q) := cell_of_blk hS.1 3; have b0 : World.cell? _ ⟨bb, 0, none⟩ = some (.int .i64 kind) := cell_of_blk hS.2 0; have b1 : World.cell? _ ⟨bb, 1, none⟩ = some (.slice la l.length lc) := cell_of_blk hS.2 1; have b2 : World.cell? _ ⟨bb, 2, none⟩ = some (.int .i64 on) := cell_of_blk hS.2 2; have b3 : World.cell? _ ⟨bb, 3, none⟩ = some (.slice ka keep.length kc) := cell_of_blk hS.2 3; clear hS; go_simp; rfl)); simp only [List.setIfInBounds_toArray, List.set_cons_succ, List.set_cons_zero])
    refine tree_last rfl rfl (fun K hK => ?_)
    go_simp
    try go_upon
    try go_simp
    refine hK _ _ ?_
    clear hK K
    refine noPanicN ?_
    go_wp2_with fail
    go_ret
    refine ⟨by simp, D.cutD (1 + (pc : Int)), ⟨_, _, p, q, HW3.out, ?_⟩, ?_, ?_⟩
    · rw [cutD_len]; exact HBo.out
    · rw [cutD_len]
    · rw [cutD_pend]; omega
  · have hb5 : (z == 5) = false := by simpa using h5
    by_cases h6 : z = 6
    · subst h6
      have hkl := HRow.out.le
      have hkm := HRow.out.max
      obtain ⟨mK, hmK⟩ : ∃ q, min keep.length 20 = q := ⟨_, rfl⟩
      have hK1 : mK ≤ keep.length := by omega
      have hK2 : mK ≤ kc := by omega
      have hiK : min (keep.length : Int) 20 = (mK : Int) := by omega
      have hiK2 : (if (20 : Int) < (keep.length : Int) then 20 else (keep.length : Int)) = (mK : Int) := by split <;> omega
      have hK20 : mK ≤ 20 := by omega
      have HKl : Shut ((keep.take mK).length = mK) := ⟨by simp; omega⟩
      have HK := Lib.hid (HRow.out.take mK hK1)
      have HPc : Hid ((D.crash (keep.take mK) on).pend.length = 0) := Lib.hid rfl
      have HLc := Lib.hid (crash_lenJ HOk.out (keep.take mK) on)
      have b3 : W1.cell? ⟨bb, 3, none⟩ = some (.slice ka keep.length kc) := cell_of_blk HB.out.blk 3
      clear hmK HRow
      generalize keep.take mK = kp at *
      have hk20 : kp.length ≤ 20 := by rw [HKl.out]; exact hK20
      go_wp2_with fail
      refine reg_tree (DoS wb bb #[.pointer (some ⟨db, 0, none⟩), pP p, .pointer (some ⟨xb, 0, none⟩), pP q] #[.int .i64 kind, .slice la l.length lc, .int .i64 on, .slice ka keep.length kc]) 7 (.take 0 (.take 1 (.take 2 (.take 3 (.take 4 (.take 5 (.take 6 (.one 7 .nil)))))))) (by kernel_rfl) (by kernel_rfl) (by kernel_rfl) rfl ?_
      have F0 : Fr [] W1 W1.drew := Fr.drew _ _
      generalize W1.drew = WC at F0 ⊢
      have HW0 := Lib.hid (HW.out.same F0); have HB0 := Lib.hid (HB.out.same F0)
      have S0 : DoS wb bb #[.pointer (some ⟨db, 0, none⟩), pP p, .pointer (some ⟨xb, 0, none⟩), pP q] #[.int .i64 kind, .slice la l.length lc, .int .i64 on, .slice ka keep.length kc] WC := ⟨HW0.out.blk, HB0.out.blk⟩
      clear F0
      (refine tree_take (v := ?_) rfl rfl rfl S0 (fun w hS => ?_) ?_; rotate_left; (focus (have c0 : World.cell? _ ⟨wb, 0, none⟩ = some (.pointer (some ⟨db, 0, none⟩)) := cell_of_blk hS.1 0; have c1 : World.cell? _ ⟨wb, 1, none⟩ = some (pP p) := cell_of_blk hS.1 1; have c2 : World.cell? _ ⟨wb, 2, none⟩ = some (.pointer (some ⟨xb, 0, none⟩)) := cell_of_blk hS.1 2; have c3 : World.cell? _ ⟨wb, 3, none⟩ = some (pP q) := cell_of_blk hS.1 3; have b0 : World.cell? _ ⟨bb, 0, none⟩ = some (.int .i64 kind) := cell_of_blk hS.2 0; have b1 : World.cell? _ ⟨bb, 1, none⟩ = some (.slice la l.length lc) := cell_of_blk hS.2 1; have b2 : World.cell? _ ⟨bb, 2, none⟩ = some (.int .i64 on) := cell_of_blk hS.2 2; have b3 : World.cell? _ ⟨bb, 3, none⟩ = some (.slice ka keep.length kc) := cell_of_blk hS.2 3; clear hS; go_simp; rfl)); simp only [List.setIfInBounds_toArray, List.set_cons_succ, List.set_cons_zero])
      (refine tree_take (v := ?_) rfl rfl rfl S0 (fun w hS => ?_) ?_; rotate_left; (focus (have c0 : World.cell? _ ⟨wb, 0, none⟩ = some (.pointer (some ⟨db, 0, none⟩)) := cell_of_blk hS.1 0; have c1 : World.cell? _ ⟨wb, 1, none⟩ = some (pP p) := cell_of_blk hS.1 1; have c2 : World.cell? _ ⟨wb, 2, none⟩ = some (.pointer (some ⟨xb, 0, none⟩)) := cell_of_blk hS.1 2; have c3 : World.cell? _ ⟨wb, 3, none⟩ = some (pP q) := cell_of_blk hS.1 3; have b0 : World.cell? _ ⟨bb, 0, none⟩ = some (.int .i64 kind) := cell_of_blk hS.2 0; have b1 : World.cell? _ ⟨bb, 1, none⟩ = some (.slice la l.length lc) := cell_of_blk hS.2 1; have b2 : World.cell? _ ⟨bb, 2, none⟩ = some (.int .i64 on) := cell_of_blk hS.2 2; have b3 : World.cell? _ ⟨bb, 3, none⟩ = some (.slice ka keep.length kc) := cell_of_blk hS.2 3; clear hS; go_simp; rfl)); simp only [List.setIfInBounds_toArray, List.set_cons_succ, List.set_cons_zero])
      (refine tree_take (v := ?_) rfl rfl rfl S0 (fun w hS => ?_) ?_; rotate_left; (focus (have c0 : World.cell? _ ⟨wb, 0, none⟩ = some (.pointer (some ⟨db, 0, none⟩)) := cell_of_blk hS.1 0; have c1 : World.cell? _ ⟨wb, 1, none⟩ = some (pP p) := cell_of_blk hS.1 1; have c2 : World.cell? _ ⟨wb, 2, none⟩ = some (.pointer (some ⟨xb, 0, none⟩)) := cell_of_blk hS.1 2; have c3 : World.cell? _ ⟨wb, 3, none⟩ = some (pP q) := cell_of_blk hS.1 3; have b0 : World.cell? _ ⟨bb, 0, none⟩ = some (.int .i64 kind) := cell_of_blk hS.2 0; have b1 : World.cell? _ ⟨bb, 1, none⟩ = some (.slice la l.length lc) := cell_of_blk hS.2 1; have b2 : World.cell? _ ⟨bb, 2, none⟩ = some (.int .i64 on) := cell_of_blk hS.2 2; have b3 : World.cell? _ ⟨bb, 3, none⟩ = some (.slice ka keep.length kc) := cell_of_blk hS.2 3; clear hS; go_simp; rfl)); simp only [List.setIfInBounds_toArray, List.set_cons_succ, List.set_cons_zero])
      (refine tree_take (v := ?_) rfl rfl rfl S0 (fun w hS => ?_) ?_; rotate_left; (focus (have c0 : World.cell? _ ⟨wb, 0, none⟩ = some (.pointer (some ⟨db, 0, none⟩)) := cell_of_blk hS.1 0; have c1 : World.cell? _ ⟨wb, 1, none⟩ = some (pP p) := cell_of_blk hS.1 1; have c2 : World.cell? _ ⟨wb, 2, none⟩ = some (.pointer (some ⟨xb, 0, none⟩)) := cell_of_blk hS.1 2; have c3 : World.cell? _ ⟨wb, 3, none⟩ = some (pP q) := cell_of_blk hS.1 3; have b0 : World.cell? _ ⟨bb, 0, none⟩ = some (.int .i64 kind) := cell_of_blk hS.2 0; have b1 : World.cell? _ ⟨bb, 1, none⟩ = some (.slice la l.length lc) := cell_of_blk hS.2 1; have b2 : World.cell? _ ⟨bb, 2, none⟩ = some (.int .i64 on) := cell_of_blk hS.2 2; have b3 : World.cell? _ ⟨bb, 3, none⟩ = some (.slice ka keep.length kc) := cell_of_blk hS.2 3; clear hS; go_simp; rfl)); simp only [List.setIfInBounds_toArray, List.set_cons_succ, List.set_cons_zero])
      (refine tree_take (v := ?_) rfl rfl rfl S0 (fun w hS => ?_) ?_; rotate_left; (focus (have c0 : World.cell? _ ⟨wb, 0, none⟩ = some (.pointer (some ⟨db, 0, none⟩)) := cell_of_blk hS.1 0; have c1 : World.cell? _ ⟨wb, 1, none⟩ = some (pP p) := cell_of_blk hS.1 1; have c2 : World.cell? _ ⟨wb, 2, none⟩ = some (.pointer (some ⟨xb, 0, none⟩)) := cell_of_blk hS.1 2; have c3 : World.cell? _ ⟨wb, 3, none⟩ = some (pP q) := cell_of_blk hS.1 3; have b0 : World.cell? _ ⟨bb, 0, none⟩ = some (.int .i64 kind) := cell_of_blk hS.2 0; have b1 : World.cell? _ ⟨bb, 1, none⟩ = some (.slice la l.length lc) := cell_of_blk hS.2 1; have b2 : World.cell? _ ⟨bb, 2, none⟩ = some (.int .i64 on) := cell_of_blk hS.2 2; have b3 : World.cell? _ ⟨bb, 3, none⟩ = some (.slice ka keep.length kc) := cell_of_blk hS.2 3; clear hS; go_simp; rfl)); simp only [List.setIfInBounds_toArray, List.set_cons_succ, List.set_cons_zero])
      (refine tree_take (v := ?_) rfl rfl rfl S0 (fun w hS => ?_) ?_; rotate_left; (focus (have c0 : World.cell? _ ⟨wb, 0, none⟩ = some (.pointer (some ⟨db, 0, none⟩)) := cell_of_blk hS.1 0; have c1 : World.cell? _ ⟨wb, 1, none⟩ = some (pP p) := cell_of_blk hS.1 1; have c2 : World.cell? _ ⟨wb, 2, none⟩ = some (.pointer (some ⟨xb, 0, none⟩)) := cell_of_blk hS.1 2; have c3 : World.cell? _ ⟨wb, 3, none⟩ = some (pP q) := cell_of_blk hS.1 3; have b0 : World.cell? _ ⟨bb, 0, none⟩ = some (.int .i64 kind) := cell_of_blk hS.2 0; have b1 : World.cell? _ ⟨bb, 1, none⟩ = some (.slice la l.length lc) := cell_of_blk hS.2 1; have b2 : World.cell? _ ⟨bb, 2, none⟩ = some (.int .i64 on) := cell_of_blk hS.2 2; have b3 : World.cell? _ ⟨bb, 3, none⟩ = some (.slice ka keep.length kc) := cell_of_blk hS.2 3; clear hS; go_simp; rfl)); simp only [List.setIfInBounds_toArray, List.set_cons_succ, List.set_cons_zero])
      (refine tree_take (v := ?_) rfl rfl rfl S0 (fun w hS => ?_) ?_; rotate_left; (focus (have c0 : World.cell? _ ⟨wb, 0, none⟩ = some (.pointer (some ⟨db, 0, none⟩)) := cell_of_blk hS.1 0; have c1 : World.cell? _ ⟨wb, 1, none⟩ = some (pP p) := cell_of_blk hS.1 1; have c2 : World.cell? _ ⟨wb, 2, none⟩ = some (.pointer (some ⟨xb, 0, none⟩)) := cell_of_blk hS.1 2; have c3 : World.cell? _ ⟨wb, 3, none⟩ = some (pP q) := cell_of_blk hS.1 3; have b0 : World.cell? _ ⟨bb, 0, none⟩ = some (.int .i64 kind) := cell_of_blk hS.2 0; have b1 : World.cell? _ ⟨bb, 1, none⟩ = some (.slice la l.length lc) := cell_of_blk hS.2 1; have b2 : World.cell? _ ⟨bb, 2, none⟩ = some (.int .i64 on) := cell_of_blk hS.2 2; have b3 : World.cell? _ ⟨bb, 3, none⟩ = some (.slice ka keep.length kc) := cell_of_blk hS.2 3; clear hS; go_simp; rfl)); simp only [List.setIfInBounds_toArray, List.set_cons_succ, List.set_cons_zero])
      refine tree_last rfl rfl (fun K hK => ?_)
      go_simp
      rw [← HKl.out]
      refine (crash_dk db fp _ D kp on WC HW0.out.js.disk (rowI_intsB (HK.out.fr HW0.out.js.fr)) (by omega) HK.out.wf n1 n2).mono ?_
      rintro e W2 k2
      obtain ⟨rfl, fp2, h2, u2⟩ := HW0.out.pdisk k2
      have HW2 := Lib.hid h2; have HB2 := Lib.hid (HB0.out.upd u2)
      clear k2 h2 u2 HW0 HB0 HW HB S0
      try go_upon
      try go_simp
      refine hK _ _ ?_
      clear hK K
      refine noPanicN ?_
      go_wp2_with fail
      refine reg_tree (DoS wb bb #[.pointer (some ⟨db, 0, none⟩), pP p, .pointer (some ⟨xb, 0, none⟩), pP q] #[.int .i64 kind, .slice la l.length lc, .int .i64 on, .slice ka keep.length kc]) 7 (.take 0 (.take 1 (.take 2 (.take 3 (.take 4 (.take 5 (.take 6 (.one 7 .nil)))))))) (by kernel_rfl) (by kernel_rfl) (by kernel_rfl) rfl ?_
      have F0 : Fr [] W2 W2.drew := Fr.drew _ _
      generalize W2.drew = WC at F0 ⊢
      have HW0 := Lib.hid (HW2.out.same F0); have HB0 := Lib.hid (HB2.out.same F0)
      have S0 : DoS wb bb #[.pointer (some ⟨db, 0, none⟩), pP p, .pointer (some ⟨xb, 0, none⟩), pP q] #[.int .i64 kind, .slice la l.length lc, .int .i64 on, .slice ka keep.length kc] WC := ⟨HW0.out.blk, HB0.out.blk⟩
      clear F0
      (refine tree_take (v := ?_) rfl rfl rfl S0 (fun w hS => ?_) ?_; rotate_left; (focus (have c0 : World.cell? _ ⟨wb, 0, none⟩ = some (.pointer (some ⟨db, 0, none⟩)) := cell_of_blk hS.1 0; have c1 : World.cell? _ ⟨wb, 1, none⟩ = some (pP p) := cell_of_blk hS.1 1; have c2 : World.cell? _ ⟨wb, 2, none⟩ = some (.pointer (some ⟨xb, 0, none⟩)) := cell_of_blk hS.1 2; have c3 : World.cell? _ ⟨wb, 3, none⟩ = some (pP q) := cell_of_blk hS.1 3; have b0 : World.cell? _ ⟨bb, 0, none⟩ = some (.int .i64 kind) := cell_of_blk hS.2 0; have b1 : World.cell? _ ⟨bb, 1, none⟩ = some (.slice la l.length lc) := cell_of_blk hS.2 1; have b2 : World.cell? _ ⟨bb, 2, none⟩ = some (.int .i64 on) := cell_of_blk hS.2 2; have b3 : World.cell? _ ⟨bb, 3, none⟩ = some (.slice ka keep.length kc) := cell_of_blk hS.2 3; clear hS; go_simp; rfl)); simp only [List.setIfInBounds_toArray, List.set_cons_succ, List.set_cons_zero])
      (refine tree_take (v := ?_) rfl rfl rfl S0 (fun w hS => ?_) ?_; rotate_left; (focus (have c0 : World.cell? _ ⟨wb, 0, none⟩ = some (.pointer (some ⟨db, 0, none⟩)) := cell_of_blk hS.1 0; have c1 : World.cell? _ ⟨wb, 1, none⟩ = some (pP p) := cell_of_blk hS.1 1; have c2 : World.cell? _ ⟨wb, 2, none⟩ = some (.pointer (some ⟨xb, 0, none⟩)) := cell_of_blk hS.1 2; have c3 : World.cell? _ ⟨wb, 3, none⟩ = some (pP q) := cell_of_blk hS.1 3; have b0 : World.cell? _ ⟨bb, 0, none⟩ = some (.int .i64 kind) := cell_of_blk hS.2 0; have b1 : World.cell? _ ⟨bb, 1, none⟩ = some (.slice la l.length lc) := cell_of_blk hS.2 1; have b2 : World.cell? _ ⟨bb, 2, none⟩ = some (.int .i64 on) := cell_of_blk hS.2 2; have b3 : World.cell? _ ⟨bb, 3, none⟩ = some (.slice ka keep.length kc) := cell_of_blk hS.2 3; clear hS; go_simp; rfl)); simp only [List.setIfInBounds_toArray, List.set_cons_succ, List.set_cons_zero])
      (refine tree_take (v := ?_) rfl rfl rfl S0 (fun w hS => ?_) ?_; rotate_left; (focus (have c0 : World.cell? _ ⟨wb, 0, none⟩ = some (.pointer (some ⟨db, 0, none⟩)) := cell_of_blk hS.1 0; have c1 : World.cell? _ ⟨wb, 1, none⟩ = some (pP p) := cell_of_blk hS.1 1; have c2 : World.cell? _ ⟨wb, 2, none⟩ = some (.pointer (some ⟨xb, 0, none⟩)) := cell_of_blk hS.1 2; have c3 : World.cell? _ ⟨wb, 3, none⟩ = some (pP q) := cell_of_blk hS.1 3; have b0 : World.cell? _ ⟨bb, 0, none⟩ = some (.int .i64 kind) := cell_of_blk hS.2 0; have b1 : World.cell? _ ⟨bb, 1, none⟩ = some (.slice la l.length lc) := cell_of_blk hS.2 1; have b2 : World.cell? _ ⟨bb, 2, none⟩ = some (.int .i64 on) := cell_of_blk hS.2 2; have b3 : World.cell? _ ⟨bb, 3, none⟩ = some (.slice ka keep.length kc) := cell_of_blk hS.2 3; clear hS; go_simp; rfl)); simp only [List.setIfInBounds_toArray, List.set_cons_succ, List.set_cons_zero])
      (refine tree_take (v := ?_) rfl rfl rfl S0 (fun w hS => ?_) ?_; rotate_left; (focus (have c0 : World.cell? _ ⟨wb, 0, none⟩ = some (.pointer (some ⟨db, 0, none⟩)) := cell_of_blk hS.1 0; have c1 : World.cell? _ ⟨wb, 1, none⟩ = some (pP p) := cell_of_blk hS.1 1; have c2 : World.cell? _ ⟨wb, 2, none⟩ = some (.pointer (some ⟨xb, 0, none⟩)) := cell_of_blk hS.1 2; have c3 : World.cell? _ ⟨wb, 3, none⟩ = some (pP q) := cell_of_blk hS.1 3; have b0 : World.cell? _ ⟨bb, 0, none⟩ = some (.int .i64 kind) := cell_of_blk hS.2 0; have b1 : World.cell? _ ⟨bb, 1, none⟩ = some (.slice la l.length lc) := cell_of_blk hS.2 1; have b2 : World.cell? _ ⟨bb, 2, none⟩ = some (.int .i64 on) := cell_of_blk hS.2 2; have b3 : World.cell? _ ⟨bb, 3, none⟩ = some (.slice ka keep.length kc) := cell_of_blk hS.2 3; clear hS; go_simp; rfl)); simp only [List.setIfInBounds_toArray, List.set_cons_succ, List.set_cons_zero])
      (refine tree_take (v := ?_) rfl rfl rfl S0 (fun w hS => ?_) ?_; rotate_left; (focus (have c0 : World.cell? _ ⟨wb, 0, none⟩ = some (.pointer (some ⟨db, 0, none⟩)) := cell_of_blk hS.1 0; have c1 : World.cell? _ ⟨wb, 1, none⟩ = some (pP p) := cell_of_blk hS.1 1; have c2 : World.cell? _ ⟨wb, 2, none⟩ = some (.pointer (some ⟨xb, 0, none⟩)) := cell_of_blk hS.1 2; have c3 : World.cell? _ ⟨wb, 3, none⟩ = some (pP q) := cell_of_blk hS.1 3; have b0 : World.cell? _ ⟨bb, 0, none⟩ = some (.int .i64 kind) := cell_of_blk hS.2 0; have b1 : World.cell? _ ⟨bb, 1, none⟩ = some (.slice la l.length lc) := cell_of_blk hS.2 1; have b2 : World.cell? _ ⟨bb, 2, none⟩ = some (.int .i64 on) := cell_of_blk hS.2 2; have b3 : World.cell? _ ⟨bb, 3, none⟩ = some (.slice ka keep.length kc) := cell_of_blk hS.2 3; clear hS; go_simp; rfl)); simp only [List.setIfInBounds_toArray, List.set_cons_succ, List.set_cons_zero])
      (refine tree_take (v := ?_) rfl rfl rfl S0 (fun w hS => ?_) ?_; rotate_left; (focus (have c0 : World.cell? _ ⟨wb, 0, none⟩ = some (.pointer (some ⟨db, 0, none⟩)) := cell_of_blk hS.1 0; have c1 : World.cell? _ ⟨wb, 1, none⟩ = some (pP p) := cell_of_blk hS.1 1; have c2 : World.cell? _ ⟨wb, 2, none⟩ = some (.pointer (some ⟨xb, 0, none⟩)) := cell_of_blk hS.1 2; have c3 : World.cell? _ ⟨wb, 3, none⟩ = some (pP q) := cell_of_blk hS.1 3; have b0 : World.cell? _ ⟨bb, 0, none⟩ = some (.int .i64 kind) := cell_of_blk hS.2 0; have b1 : World.cell? _ ⟨bb, 1, none⟩ = some (.slice la l.length lc) := cell_of_blk hS.2 1; have b2 : World.cell? _ ⟨bb, 2, none⟩ = some (.int .i64 on) := cell_of_blk hS.2 2; have b3 : World.cell? _ ⟨bb, 3, none⟩ = some (.slice ka keep.length kc) := cell_of_blk hS.2 3; clear hS; go_simp; rfl)); simp only [List.setIfInBounds_toArray, List.set_cons_succ, List.set_cons_zero])
      (refine tree_take (v := ?_) rfl rfl rfl S0 (fun w hS => ?_) ?_; rotate_left; (focus (have c0 : World.cell? _ ⟨wb, 0, none⟩ = some (.pointer (some ⟨db, 0, none⟩)) := cell_of_blk hS.1 0; have c1 : World.cell? _ ⟨wb, 1, none⟩ = some (pP p) := cell_of_blk hS.1 1; have c2 : World.cell? _ ⟨wb, 2, none⟩ = some (.pointer (some ⟨xb, 0, none⟩)) := cell_of_blk hS.1 2; have c3 : World.cell? _ ⟨wb, 3, none⟩ = some (pP q) := cell_of_blk hS.1 3; have b0 : World.cell? _ ⟨bb, 0, none⟩ = some (.int .i64 kind) := cell_of_blk hS.2 0; have b1 : World.cell? _ ⟨bb, 1, none⟩ = some (.slice la l.length lc) := cell_of_blk hS.2 1; have b2 : World.cell? _ ⟨bb, 2, none⟩ = some (.int .i64 on) := cell_of_blk hS.2 2; have b3 : World.cell? _ ⟨bb, 3, none⟩ = some (.slice ka keep.length kc) := cell_of_blk hS.2 3; clear hS; go_simp; rfl)); simp only [List.setIfInBounds_toArray, List.set_cons_succ, List.set_cons_zero])
      refine tree_last rfl rfl (fun K hK => ?_)
      go_simp
      refine (rCrash_dk xb fx D ka kc kp on WC HW0.out.rf (HK.out.fr HW0.out.js.fr) n1 n2 (by omega)).mono ?_
      rintro e W3 k3
      obtain ⟨rfl, fx3, h3, u3⟩ := HW0.out.rdisk k3
      have HW3 := Lib.hid h3; have HB3 := Lib.hid (HB0.out.upd u3)
      clear k3 h3 u3 HW0 HB0 HW2 HB2 S0
      try go_upon
      try go_simp
      refine hK _ _ ?_
      clear hK K
      refine noPanicN ?_
      have HOpn := Lib.hid (wOpen10_c HW3.out HR.out HA.out (by rw [HPc.out]; omega))
      have HOd := Lib.hid (opens_okD HW3.out.js.ok)
      generalize D.crash kp on = Dc at *
      go_wp2_with fail
      refine HOpn.out.mono ?_
      rintro e W4 ⟨rfl, h4⟩
      go_wp2_with fail
      go_ret
      refine ⟨rfl, Dc.opens.2.2, h4, by rw [HOd.out.1, HLc.out], ?_⟩
      have h7 := HOd.out.2.1
      rw [HPc.out] at h7
      omega
    · have hb6 : (z == 6) = false := by simpa using h6
      have HOpn := Lib.hid (wOpen10_c HW.out HR.out HA.out (by omega))
      have HOd := Lib.hid (opens_okD HW.out.js.ok)
      by_cases h7 : z = 7
      · subst h7
        go_wp2_with fail
        refine HOpn.out.mono ?_
        rintro e W4 ⟨rfl, h4⟩
        go_wp2_with fail
        go_ret
        exact ⟨rfl, D.opens.2.2, h4, HOd.out.1, by have := HOd.out.2.1; omega⟩
      · have hb7 : (z == 7) = false := by simpa using h7
        clear HOpn HOd
        rcases HBo.out with ⟨rfl, rfl⟩ | ⟨jb, vr, rb, vq, L, br, rfl, rfl, hL1, hL2⟩
        · have c1 : W1.cell? ⟨wb, 1, none⟩ = some (.pointer none) := cell_of_blk HW.out.blk 1
          go_wp2_with fail
          refine reg_tree (DoS wb bb #[.pointer (some ⟨db, 0, none⟩), .pointer none, .pointer (some ⟨xb, 0, none⟩), .pointer none] #[.int .i64 kind, .slice la l.length lc, .int .i64 on, .slice ka keep.length kc]) 9 (.take 0 (.take 1 (.take 2 (.take 3 (.take 4 (.take 5 (.one 6 (.one 7 (.take 8 (.one 9 .nil)))))))))) (by kernel_rfl) (by kernel_rfl) (by kernel_rfl) rfl ?_
          have F0 : Fr [] W1 W1.drew := Fr.drew _ _
          generalize W1.drew = WC at F0 ⊢
          have HW0 := Lib.hid (HW.out.same F0); have HB0 := Lib.hid (HB.out.same F0)
          have S0 : DoS wb bb #[.pointer (some ⟨db, 0, none⟩), .pointer none, .pointer (some ⟨xb, 0, none⟩), .pointer none] #[.int .i64 kind, .slice la l.length lc, .int .i64 on, .slice ka keep.length kc] WC := ⟨HW0.out.blk, HB0.out.blk⟩
          clear F0
          (refine tree_take (v := ?_) rfl rfl rfl S0 (fun w hS => ?_) ?_; rotate_left; (focus (have c0 : World.cell? _ ⟨wb, 0, none⟩ = some (.pointer (some ⟨db, 0, none⟩)) := cell_of_blk hS.1 0; have c1 : World.cell? _ ⟨wb, 1, none⟩ = some (.pointer none) := cell_of_blk hS.1 1; have c2 : World.cell? _ ⟨wb, 2, none⟩ = some (.pointer (some ⟨xb, 0, none⟩)) := cell_of_blk hS.1 2; have c3 : World.cell? _ ⟨wb, 3, none⟩ = some (.pointer none) := cell_of_blk hS.1 3; have b0 : World.cell? _ ⟨bb, 0, none⟩ = some (.int .i64 kind) := cell_of_blk hS.2 0; have b1 : World.cell? _ ⟨bb, 1, none⟩ = some (.slice la l.length lc) := cell_of_blk hS.2 1; have b2 : World.cell? _ ⟨bb, 2, none⟩ = some (.int .i64 on) := cell_of_blk hS.2 2; have b3 : World.cell? _ ⟨bb, 3, none⟩ = some (.slice ka keep.length kc) := cell_of_blk hS.2 3; clear hS; go_simp; rfl)); simp only [List.setIfInBounds_toArray, List.set_cons_succ, List.set_cons_zero])
          (refine tree_take (v := ?_) rfl rfl rfl S0 (fun w hS => ?_) ?_; rotate_left; (focus (have c0 : World.cell? _ ⟨wb, 0, none⟩ = some (.pointer (some ⟨db, 0, none⟩)) := cell_of_blk hS.1 0; have c1 : World.cell? _ ⟨wb, 1, none⟩ = some (.pointer none) := cell_of_blk hS.1 1; have c2 : World.cell? _ ⟨wb, 2, none⟩ = some (.pointer (some ⟨xb, 0, none⟩)) := cell_of_blk hS.1 2; have c3 : World.cell? _ ⟨wb, 3, none⟩ = some (.pointer none) := cell_of_blk hS.1 3; have b0 : World.cell? _ ⟨bb, 0, none⟩ = some (.int .i64 kind) := cell_of_blk hS.2 0; have b1 : World.cell? _ ⟨bb, 1, none⟩ = some (.slice la l.length lc) := cell_of_blk hS.2 1; have b2 : World.cell? _ ⟨bb, 2, none⟩ = some (.int .i64 on) := cell_of_blk hS.2 2; have b3 : World.cell? _ ⟨bb, 3, none⟩ = some (.slice ka keep.length kc) := cell_of_blk hS.2 3; clear hS; go_simp; rfl)); simp only [List.setIfInBounds_toArray, List.set_cons_succ, List.set_cons_zero])
          (refine tree_take (v := ?_) rfl rfl rfl S0 (fun w hS => ?_) ?_; rotate_left; (focus (have c0 : World.cell? _ ⟨wb, 0, none⟩ = some (.pointer (some ⟨db, 0, none⟩)) := cell_of_blk hS.1 0; have c1 : World.cell? _ ⟨wb, 1, none⟩ = some (.pointer none) := cell_of_blk hS.1 1; have c2 : World.cell? _ ⟨wb, 2, none⟩ = some (.pointer (some ⟨xb, 0, none⟩)) := cell_of_blk hS.1 2; have c3 : World.cell? _ ⟨wb, 3, none⟩ = some (.pointer none) := cell_of_blk hS.1 3; have b0 : World.cell? _ ⟨bb, 0, none⟩ = some (.int .i64 kind) := cell_of_blk hS.2 0; have b1 : World.cell? _ ⟨bb, 1, none⟩ = some (.slice la l.length lc) := cell_of_blk hS.2 1; have b2 : World.cell? _ ⟨bb, 2, none⟩ = some (.int .i64 on) := cell_of_blk hS.2 2; have b3 : World.cell? _ ⟨bb, 3, none⟩ = some (.slice ka keep.length kc) := cell_of_blk hS.2 3; clear hS; go_simp; rfl)); simp only [List.setIfInBounds_toArray, List.set_cons_succ, List.set_cons_zero])
          (refine tree_take (v := ?_) rfl rfl rfl S0 (fun w hS => ?_) ?_; rotate_left; (focus (have c0 : World.cell? _ ⟨wb, 0, none⟩ = some (.pointer (some ⟨db, 0, none⟩)) := cell_of_blk hS.1 0; have c1 : World.cell? _ ⟨wb, 1, none⟩ = some (.pointer none) := cell_of_blk hS.1 1; have c2 : World.cell? _ ⟨wb, 2, none⟩ = some (.pointer (some ⟨xb, 0, none⟩)) := cell_of_blk hS.1 2; have c3 : World.cell? _ ⟨wb, 3, none⟩ = some (.pointer none) := cell_of_blk hS.1 3; have b0 : World.cell? _ ⟨bb, 0, none⟩ = some (.int .i64 kind) := cell_of_blk hS.2 0; have b1 : World.cell? _ ⟨bb, 1, none⟩ = some (.slice la l.length lc) := cell_of_blk hS.2 1; have b2 : World.cell? _ ⟨bb, 2, none⟩ = some (.int .i64 on) := cell_of_blk hS.2 2; have b3 : World.cell? _ ⟨bb, 3, none⟩ = some (.slice ka keep.length kc) := cell_of_blk hS.2 3; clear hS; go_simp; rfl)); simp only [List.setIfInBounds_toArray, List.set_cons_succ, List.set_cons_zero])
          (refine tree_take (v := ?_) rfl rfl rfl S0 (fun w hS => ?_) ?_; rotate_left; (focus (have c0 : World.cell? _ ⟨wb, 0, none⟩ = some (.pointer (some ⟨db, 0, none⟩)) := cell_of_blk hS.1 0; have c1 : World.cell? _ ⟨wb, 1, none⟩ = some (.pointer none) := cell_of_blk hS.1 1; have c2 : World.cell? _ ⟨wb, 2, none⟩ = some (.pointer (some ⟨xb, 0, none⟩)) := cell_of_blk hS.1 2; have c3 : World.cell? _ ⟨wb, 3, none⟩ = some (.pointer none) := cell_of_blk hS.1 3; have b0 : World.cell? _ ⟨bb, 0, none⟩ = some (.int .i64 kind) := cell_of_blk hS.2 0; have b1 : World.cell? _ ⟨bb, 1, none⟩ = some (.slice la l.length lc) := cell_of_blk hS.2 1; have b2 : World.cell? _ ⟨bb, 2, none⟩ = some (.int .i64 on) := cell_of_blk hS.2 2; have b3 : World.cell? _ ⟨bb, 3, none⟩ = some (.slice ka keep.length kc) := cell_of_blk hS.2 3; clear hS; go_simp; rfl)); simp only [List.setIfInBounds_toArray, List.set_cons_succ, List.set_cons_zero])
          (refine tree_take (v := ?_) rfl rfl rfl S0 (fun w hS => ?_) ?_; rotate_left; (focus (have c0 : World.cell? _ ⟨wb, 0, none⟩ = some (.pointer (some ⟨db, 0, none⟩)) := cell_of_blk hS.1 0; have c1 : World.cell? _ ⟨wb, 1, none⟩ = some (.pointer none) := cell_of_blk hS.1 1; have c2 : World.cell? _ ⟨wb, 2, none⟩ = some (.pointer (some ⟨xb, 0, none⟩)) := cell_of_blk hS.1 2; have c3 : World.cell? _ ⟨wb, 3, none⟩ = some (.pointer none) := cell_of_blk hS.1 3; have b0 : World.cell? _ ⟨bb, 0, none⟩ = some (.int .i64 kind) := cell_of_blk hS.2 0; have b1 : World.cell? _ ⟨bb, 1, none⟩ = some (.slice la l.length lc) := cell_of_blk hS.2 1; have b2 : World.cell? _ ⟨bb, 2, none⟩ = some (.int .i64 on) := cell_of_blk hS.2 2; have b3 : World.cell? _ ⟨bb, 3, none⟩ = some (.slice ka keep.length kc) := cell_of_blk hS.2 3; clear hS; go_simp; rfl)); simp only [List.setIfInBounds_toArray, List.set_cons_succ, List.set_cons_zero])
          refine tree_one rfl rfl (fun K hK => ?_)
          go_simp
          refine (few10_c la lc l WC (HSl.out.same HW0.out.js.fr) HLs.out).mono ?_
          rintro e W2 ⟨v2, rfl, r2, y2, f2⟩
          obtain ⟨fa2, fc2, rfl⟩ := (sl_of_row r2).val
          have HW2 := Lib.hid (HW0.out.same f2); have HB2 := Lib.hid (HB0.out.same f2)
          have HF2 := Lib.hid (HW0.out.far (fun g hg => ⟨y2 g hg, ownsRow_lt r2 hg⟩)); have HS2 := Lib.hid (sl_of_row r2)
          clear r2 y2 f2 S0
          have S0 : DoS wb bb #[.pointer (some ⟨db, 0, none⟩), .pointer none, .pointer (some ⟨xb, 0, none⟩), .pointer none] #[.int .i64 kind, .slice la l.length lc, .int .i64 on, .slice ka keep.length kc] W2 := ⟨HW2.out.blk, HB2.out.blk⟩
          refine hK _ _ S0 ?_
          clear hK K
          try simp only [Act.put, List.setIfInBounds_toArray, List.set_cons_succ, List.set_cons_zero]
          refine tree_one rfl rfl (fun K hK => ?_)
          go_simp
          refine (app_nil _ _).mono ?_
          rintro e _ ⟨rfl, rfl⟩
          refine hK _ _ S0 ?_
          clear hK K
          try simp only [Act.put, List.setIfInBounds_toArray, List.set_cons_succ, List.set_cons_zero]
          (refine tree_take (v := ?_) rfl rfl rfl S0 (fun w hS => ?_) ?_; rotate_left; (focus (have c0 : World.cell? _ ⟨wb, 0, none⟩ = some (.pointer (some ⟨db, 0, none⟩)) := cell_of_blk hS.1 0; have c1 : World.cell? _ ⟨wb, 1, none⟩ = some (.pointer none) := cell_of_blk hS.1 1; have c2 : World.cell? _ ⟨wb, 2, none⟩ = some (.pointer (some ⟨xb, 0, none⟩)) := cell_of_blk hS.1 2; have c3 : World.cell? _ ⟨wb, 3, none⟩ = some (.pointer none) := cell_of_blk hS.1 3; have b0 : World.cell? _ ⟨bb, 0, none⟩ = some (.int .i64 kind) := cell_of_blk hS.2 0; have b1 : World.cell? _ ⟨bb, 1, none⟩ = some (.slice la l.length lc) := cell_of_blk hS.2 1; have b2 : World.cell? _ ⟨bb, 2, none⟩ = some (.int .i64 on) := cell_of_blk hS.2 2; have b3 : World.cell? _ ⟨bb, 3, none⟩ = some (.slice ka keep.length kc) := cell_of_blk hS.2 3; clear hS; go_simp; rfl)); simp only [List.setIfInBounds_toArray, List.set_cons_succ, List.set_cons_zero])
          refine tree_last rfl rfl (fun K hK => ?_)
          go_simp
          try go_upon
          try go_simp
          refine hK _ _ ?_
          clear hK K
          refine noPanicN ?_
          go_wp2_with fail
          go_ret
          exact ⟨rfl, D, ⟨_, _, none, none, HW2.out, .inl ⟨rfl, rfl⟩⟩, rfl, by omega⟩
        · have c1 : W1.cell? ⟨wb, 1, none⟩ = some (.pointer (some ⟨jb, 0, none⟩)) := cell_of_blk HW.out.blk 1
          have HL1 := Lib.hid hL1; have HL2 := Lib.hid hL2
          have HAk := Lib.hid (apps_okD HOk.out (t := tp0.adds L) ⟨L, rfl, hL1, hL2⟩ br (fewM l))
          clear hL1 hL2
          go_wp2_with fail
          refine reg_tree (DoS wb bb #[.pointer (some ⟨db, 0, none⟩), .pointer (some ⟨jb, 0, none⟩), .pointer (some ⟨xb, 0, none⟩), .pointer (some ⟨rb, 0, none⟩)] #[.int .i64 kind, .slice la l.length lc, .int .i64 on, .slice ka keep.length kc]) 17 (.take 0 (.take 1 (.take 2 (.take 3 (.take 4 (.take 5 (.take 8 (.take 9 (.take 10 (.take 11 (.take 12 (.take 13 (.one 6 (.one 7 (.one 14 (.one 15 (.take 16 (.one 17 .nil)))))))))))))))))) (by kernel_rfl) (by kernel_rfl) (by kernel_rfl) rfl ?_
          have F0 : Fr [] W1 W1.drew := Fr.drew _ _
          generalize W1.drew = WC at F0 ⊢
          have HW0 := Lib.hid (HW.out.same F0); have HB0 := Lib.hid (HB.out.same F0)
          have S0 : DoS wb bb #[.pointer (some ⟨db, 0, none⟩), .pointer (some ⟨jb, 0, none⟩), .pointer (some ⟨xb, 0, none⟩), .pointer (some ⟨rb, 0, none⟩)] #[.int .i64 kind, .slice la l.length lc, .int .i64 on, .slice ka keep.length kc] WC := ⟨HW0.out.blk, HB0.out.blk⟩
          clear F0
          (refine tree_take (v := ?_) rfl rfl rfl S0 (fun w hS => ?_) ?_; rotate_left; (focus (have c0 : World.cell? _ ⟨wb, 0, none⟩ = some (.pointer (some ⟨db, 0, none⟩)) := cell_of_blk hS.1 0; have c1 : World.cell? _ ⟨wb, 1, none⟩ = some (.pointer (some ⟨jb, 0, none⟩)) := cell_of_blk hS.1 1; have c2 : World.cell? _ ⟨wb, 2, none⟩ = some (.pointer (some ⟨xb, 0, none⟩)) := cell_of_blk hS.1 2; have c3 : World.cell? _ ⟨wb, 3, none⟩ = some (.pointer (some ⟨rb, 0, none⟩)) := cell_of_blk hS.1 3; have b0 : World.cell? _ ⟨bb, 0, none⟩ = some (.int .i64 kind) := cell_of_blk hS.2 0; have b1 : World.cell? _ ⟨bb, 1, none⟩ = some (.slice la l.length lc) := cell_of_blk hS.2 1; have b2 : World.cell? _ ⟨bb, 2, none⟩ = some (.int .i64 on) := cell_of_blk hS.2 2; have b3 : World.cell? _ ⟨bb, 3, none⟩ = some (.slice ka keep.length kc) := cell_of_blk hS.2 3; clear hS; go_simp; rfl)); simp only [List.setIfInBounds_toArray, List.set_cons_succ, List.set_cons_zero])
          (refine tree_take (v := ?_) rfl rfl rfl S0 (fun w hS => ?_) ?_; rotate_left; (focus (have c0 : World.cell? _ ⟨wb, 0, none⟩ = some (.pointer (some ⟨db, 0, none⟩)) := cell_of_blk hS.1 0; have c1 : World.cell? _ ⟨wb, 1, none⟩ = some (.pointer (some ⟨jb, 0, none⟩)) := cell_of_blk hS.1 1; have c2 : World.cell? _ ⟨wb, 2, none⟩ = some (.pointer (some ⟨xb, 0, none⟩)) := cell_of_blk hS.1 2; have c3 : World.cell? _ ⟨wb, 3, none⟩ = some (.pointer (some ⟨rb, 0, none⟩)) := cell_of_blk hS.1 3; have b0 : World.cell? _ ⟨bb, 0, none⟩ = some (.int .i64 kind) := cell_of_blk hS.2 0; have b1 : World.cell? _ ⟨bb, 1, none⟩ = some (.slice la l.length lc) := cell_of_blk hS.2 1; have b2 : World.cell? _ ⟨bb, 2, none⟩ = some (.int .i64 on) := cell_of_blk hS.2 2; have b3 : World.cell? _ ⟨bb, 3, none⟩ = some (.slice ka keep.length kc) := cell_of_blk hS.2 3; clear hS; go_simp; rfl)); simp only [List.setIfInBounds_toArray, List.set_cons_succ, List.set_cons_zero])
          (refine tree_take (v := ?_) rfl rfl rfl S0 (fun w hS => ?_) ?_; rotate_left; (focus (have c0 : World.cell? _ ⟨wb, 0, none⟩ = some (.pointer (some ⟨db, 0, none⟩)) := cell_of_blk hS.1 0; have c1 : World.cell? _ ⟨wb, 1, none⟩ = some (.pointer (some ⟨jb, 0, none⟩)) := cell_of_blk hS.1 1; have c2 : World.cell? _ ⟨wb, 2, none⟩ = some (.pointer (some ⟨xb, 0, none⟩)) := cell_of_blk hS.1 2; have c3 : World.cell? _ ⟨wb, 3, none⟩ = some (.pointer (some ⟨rb, 0, none⟩)) := cell_of_blk hS.1 3; have b0 : World.cell? _ ⟨bb, 0, none⟩ = some (.int .i64 kind) := cell_of_blk hS.2 0; have b1 : World.cell? _ ⟨bb, 1, none⟩ = some (.slice la l.length lc) := cell_of_blk hS.2 1; have b2 : World.cell? _ ⟨bb, 2, none⟩ = some (.int .i64 on) := cell_of_blk hS.2 2; have b3 : World.cell? _ ⟨bb, 3, none⟩ = some (.slice ka keep.length kc) := cell_of_blk hS.2 3; clear hS; go_simp; rfl)); simp only [List.setIfInBounds_toArray, List.set_cons_succ, List.set_cons_zero])
          (refine tree_take (v := ?_) rfl rfl rfl S0 (fun w hS => ?_) ?_; rotate_left; (focus (have c0 : World.cell? _ ⟨wb, 0, none⟩ = some (.pointer (some ⟨db, 0, none⟩)) := cell_of_blk hS.1 0; have c1 : World.cell? _ ⟨wb, 1, none⟩ = some (.pointer (some ⟨jb, 0, none⟩)) := cell_of_blk hS.1 1; have c2 : World.cell? _ ⟨wb, 2, none⟩ = some (.pointer (some ⟨xb, 0, none⟩)) := cell_of_blk hS.1 2; have c3 : World.cell? _ ⟨wb, 3, none⟩ = some (.pointer (some ⟨rb, 0, none⟩)) := cell_of_blk hS.1 3; have b0 : World.cell? _ ⟨bb, 0, none⟩ = some (.int .i64 kind) := cell_of_blk hS.2 0; have b1 : World.cell? _ ⟨bb, 1, none⟩ = some (.slice la l.length lc) := cell_of_blk hS.2 1; have b2 : World.cell? _ ⟨bb, 2, none⟩ = some (.int .i64 on) := cell_of_blk hS.2 2; have b3 : World.cell? _ ⟨bb, 3, none⟩ = some (.slice ka keep.length kc) := cell_of_blk hS.2 3; clear hS; go_simp; rfl)); simp only [List.setIfInBounds_toArray, List.set_cons_succ, List.set_cons_zero])
          (refine tree_take (v := ?_) rfl rfl rfl S0 (fun w hS => ?_) ?_; rotate_left; (focus (have c0 : World.cell? _ ⟨wb, 0, none⟩ = some (.pointer (some ⟨db, 0, none⟩)) := cell_of_blk hS.1 0; have c1 : World.cell? _ ⟨wb, 1, none⟩ = some (.pointer (some ⟨jb, 0, none⟩)) := cell_of_blk hS.1 1; have c2 : World.cell? _ ⟨wb, 2, none⟩ = some (.pointer (some ⟨xb, 0, none⟩)) := cell_of_blk hS.1 2; have c3 : World.cell? _ ⟨wb, 3, none⟩ = some (.pointer (some ⟨rb, 0, none⟩)) := cell_of_blk hS.1 3; have b0 : World.cell? _ ⟨bb, 0, none⟩ = some (.int .i64 kind) := cell_of_blk hS.2 0; have b1 : World.cell? _ ⟨bb, 1, none⟩ = some (.slice la l.length lc) := cell_of_blk hS.2 1; have b2 : World.cell? _ ⟨bb, 2, none⟩ = some (.int .i64 on) := cell_of_blk hS.2 2; have b3 : World.cell? _ ⟨bb, 3, none⟩ = some (.slice ka keep.length kc) := cell_of_blk hS.2 3; clear hS; go_simp; rfl)); simp only [List.setIfInBounds_toArray, List.set_cons_succ, List.set_cons_zero])
          (refine tree_take (v := ?_) rfl rfl rfl S0 (fun w hS => ?_) ?_; rotate_left; (focus (have c0 : World.cell? _ ⟨wb, 0, none⟩ = some (.pointer (some ⟨db, 0, none⟩)) := cell_of_blk hS.1 0; have c1 : World.cell? _ ⟨wb, 1, none⟩ = some (.pointer (some ⟨jb, 0, none⟩)) := cell_of_blk hS.1 1; have c2 : World.cell? _ ⟨wb, 2, none⟩ = some (.pointer (some ⟨xb, 0, none⟩)) := cell_of_blk hS.1 2; have c3 : World.cell? _ ⟨wb, 3, none⟩ = some (.pointer (some ⟨rb, 0, none⟩)) := cell_of_blk hS.1 3; have b0 : World.cell? _ ⟨bb, 0, none⟩ = some (.int .i64 kind) := cell_of_blk hS.2 0; have b1 : World.cell? _ ⟨bb, 1, none⟩ = some (.slice la l.length lc) := cell_of_blk hS.2 1; have b2 : World.cell? _ ⟨bb, 2, none⟩ = some (.int .i64 on) := cell_of_blk hS.2 2; have b3 : World.cell? _ ⟨bb, 3, none⟩ = some (.slice ka keep.length kc) := cell_of_blk hS.2 3; clear hS; go_simp; rfl)); simp only [List.setIfInBounds_toArray, List.set_cons_succ, List.set_cons_zero])
          (refine tree_take (v := ?_) rfl rfl rfl S0 (fun w hS => ?_) ?_; rotate_left; (focus (have c0 : World.cell? _ ⟨wb, 0, none⟩ = some (.pointer (some ⟨db, 0, none⟩)) := cell_of_blk hS.1 0; have c1 : World.cell? _ ⟨wb, 1, none⟩ = some (.pointer (some ⟨jb, 0, none⟩)) := cell_of_blk hS.1 1; have c2 : World.cell? _ ⟨wb, 2, none⟩ = some (.pointer (some ⟨xb, 0, none⟩)) := cell_of_blk hS.1 2; have c3 : World.cell? _ ⟨wb, 3, none⟩ = some (.pointer (some ⟨rb, 0, none⟩)) := cell_of_blk hS.1 3; have b0 : World.cell? _ ⟨bb, 0, none⟩ = some (.int .i64 kind) := cell_of_blk hS.2 0; have b1 : World.cell? _ ⟨bb, 1, none⟩ = some (.slice la l.length lc) := cell_of_blk hS.2 1; have b2 : World.cell? _ ⟨bb, 2, none⟩ = some (.int .i64 on) := cell_of_blk hS.2 2; have b3 : World.cell? _ ⟨bb, 3, none⟩ = some (.slice ka keep.length kc) := cell_of_blk hS.2 3; clear hS; go_simp; rfl)); simp only [List.setIfInBounds_toArray, List.set_cons_succ, List.set_cons_zero])
          (refine tree_take (v := ?_) rfl rfl rfl S0 (fun w hS => ?_) ?_; rotate_left; (focus (have c0 : World.cell? _ ⟨wb, 0, none⟩ = some (.pointer (some ⟨db, 0, none⟩)) := cell_of_blk hS.1 0; have c1 : World.cell? _ ⟨wb, 1, none⟩ = some (.pointer (some ⟨jb, 0, none⟩)) := cell_of_blk hS.1 1; have c2 : World.cell? _ ⟨wb, 2, none⟩ = some (.pointer (some ⟨xb, 0, none⟩)) := cell_of_blk hS.1 2; have c3 : World.cell? _ ⟨wb, 3, none⟩ = some (.pointer (some ⟨rb, 0, none⟩)) := cell_of_blk hS.1 3; have b0 : World.cell? _ ⟨bb, 0, none⟩ = some (.int .i64 kind) := cell_of_blk hS.2 0; have b1 : World.cell? _ ⟨bb, 1, none⟩ = some (.slice la l.length lc) := cell_of_blk hS.2 1; have b2 : World.cell? _ ⟨bb, 2, none⟩ = some (.int .i64 on) := cell_of_blk hS.2 2; have b3 : World.cell? _ ⟨bb, 3, none⟩ = some (.slice ka keep.length kc) := cell_of_blk hS.2 3; clear hS; go_simp; rfl)); simp only [List.setIfInBounds_toArray, List.set_cons_succ, List.set_cons_zero])
          (refine tree_take (v := ?_) rfl rfl rfl S0 (fun w hS => ?_) ?_; rotate_left; (focus (have c0 : World.cell? _ ⟨wb, 0, none⟩ = some (.pointer (some ⟨db, 0, none⟩)) := cell_of_blk hS.1 0; have c1 : World.cell? _ ⟨wb, 1, none⟩ = some (.pointer (some ⟨jb, 0, none⟩)) := cell_of_blk hS.1 1; have c2 : World.cell? _ ⟨wb, 2, none⟩ = some (.pointer (some ⟨xb, 0, none⟩)) := cell_of_blk hS.1 2; have c3 : World.cell? _ ⟨wb, 3, none⟩ = some (.pointer (some ⟨rb, 0, none⟩)) := cell_of_blk hS.1 3; have b0 : World.cell? _ ⟨bb, 0, none⟩ = some (.int .i64 kind) := cell_of_blk hS.2 0; have b1 : World.cell? _ ⟨bb, 1, none⟩ = some (.slice la l.length lc) := cell_of_blk hS.2 1; have b2 : World.cell? _ ⟨bb, 2, none⟩ = some (.int .i64 on) := cell_of_blk hS.2 2; have b3 : World.cell? _ ⟨bb, 3, none⟩ = some (.slice ka keep.length kc) := cell_of_blk hS.2 3; clear hS; go_simp; rfl)); simp only [List.setIfInBounds_toArray, List.set_cons_succ, List.set_cons_zero])
          (refine tree_take (v := ?_) rfl rfl rfl S0 (fun w hS => ?_) ?_; rotate_left; (focus (have c0 : World.cell? _ ⟨wb, 0, none⟩ = some (.pointer (some ⟨db, 0, none⟩)) := cell_of_blk hS.1 0; have c1 : World.cell? _ ⟨wb, 1, none⟩ = some (.pointer (some ⟨jb, 0, none⟩)) := cell_of_blk hS.1 1; have c2 : World.cell? _ ⟨wb, 2, none⟩ = some (.pointer (some ⟨xb, 0, none⟩)) := cell_of_blk hS.1 2; have c3 : World.cell? _ ⟨wb, 3, none⟩ = some (.pointer (some ⟨rb, 0, none⟩)) := cell_of_blk hS.1 3; have b0 : World.cell? _ ⟨bb, 0, none⟩ = some (.int .i64 kind) := cell_of_blk hS.2 0; have b1 : World.cell? _ ⟨bb, 1, none⟩ = some (.slice la l.length lc) := cell_of_blk hS.2 1; have b2 : World.cell? _ ⟨bb, 2, none⟩ = some (.int .i64 on) := cell_of_blk hS.2 2; have b3 : World.cell? _ ⟨bb, 3, none⟩ = some (.slice ka keep.length kc) := cell_of_blk hS.2 3; clear hS; go_simp; rfl)); simp only [List.setIfInBounds_toArray, List.set_cons_succ, List.set_cons_zero])
          (refine tree_take (v := ?_) rfl rfl rfl S0 (fun w hS => ?_) ?_; rotate_left; (focus (have c0 : World.cell? _ ⟨wb, 0, none⟩ = some (.pointer (some ⟨db, 0, none⟩)) := cell_of_blk hS.1 0; have c1 : World.cell? _ ⟨wb, 1, none⟩ = some (.pointer (some ⟨jb, 0, none⟩)) := cell_of_blk hS.1 1; have c2 : World.cell? _ ⟨wb, 2, none⟩ = some (.pointer (some ⟨xb, 0, none⟩)) := cell_of_blk hS.1 2; have c3 : World.cell? _ ⟨wb, 3, none⟩ = some (.pointer (some ⟨rb, 0, none⟩)) := cell_of_blk hS.1 3; have b0 : World.cell? _ ⟨bb, 0, none⟩ = some (.int .i64 kind) := cell_of_blk hS.2 0; have b1 : World.cell? _ ⟨bb, 1, none⟩ = some (.slice la l.length lc) := cell_of_blk hS.2 1; have b2 : World.cell? _ ⟨bb, 2, none⟩ = some (.int .i64 on) := cell_of_blk hS.2 2; have b3 : World.cell? _ ⟨bb, 3, none⟩ = some (.slice ka keep.length kc) := cell_of_blk hS.2 3; clear hS; go_simp; rfl)); simp only [List.setIfInBounds_toArray, List.set_cons_succ, List.set_cons_zero])
          (refine tree_take (v := ?_) rfl rfl rfl S0 (fun w hS => ?_) ?_; rotate_left; (focus (have c0 : World.cell? _ ⟨wb, 0, none⟩ = some (.pointer (some ⟨db, 0, none⟩)) := cell_of_blk hS.1 0; have c1 : World.cell? _ ⟨wb, 1, none⟩ = some (.pointer (some ⟨jb, 0, none⟩)) := cell_of_blk hS.1 1; have c2 : World.cell? _ ⟨wb, 2, none⟩ = some (.pointer (some ⟨xb, 0, none⟩)) := cell_of_blk hS.1 2; have c3 : World.cell? _ ⟨wb, 3, none⟩ = some (.pointer (some ⟨rb, 0, none⟩)) := cell_of_blk hS.1 3; have b0 : World.cell? _ ⟨bb, 0, none⟩ = some (.int .i64 kind) := cell_of_blk hS.2 0; have b1 : World.cell? _ ⟨bb, 1, none⟩ = some (.slice la l.length lc) := cell_of_blk hS.2 1; have b2 : World.cell? _ ⟨bb, 2, none⟩ = some (.int .i64 on) := cell_of_blk hS.2 2; have b3 : World.cell? _ ⟨bb, 3, none⟩ = some (.slice ka keep.length kc) := cell_of_blk hS.2 3; clear hS; go_simp; rfl)); simp only [List.setIfInBounds_toArray, List.set_cons_succ, List.set_cons_zero])
          refine tree_one rfl rfl (fun K hK => ?_)
          go_simp
          refine (few10_c la lc l WC (HSl.out.same HW0.out.js.fr) HLs.out).mono ?_
          rintro e W2 ⟨v2, rfl, r2, y2, f2⟩
          obtain ⟨fa2, fc2, rfl⟩ := (sl_of_row r2).val
          have HW2 := Lib.hid (HW0.out.same f2); have HB2 := Lib.hid (HB0.out.same f2)
          have HF2 := Lib.hid (HW0.out.far (fun g hg => ⟨y2 g hg, ownsRow_lt r2 hg⟩)); have HS2 := Lib.hid (sl_of_row r2)
          clear r2 y2 f2 S0
          have S0 : DoS wb bb #[.pointer (some ⟨db, 0, none⟩), .pointer (some ⟨jb, 0, none⟩), .pointer (some ⟨xb, 0, none⟩), .pointer (some ⟨rb, 0, none⟩)] #[.int .i64 kind, .slice la l.length lc, .int .i64 on, .slice ka keep.length kc] W2 := ⟨HW2.out.blk, HB2.out.blk⟩
          refine hK _ _ S0 ?_
          clear hK K
          try simp only [Act.put, List.setIfInBounds_toArray, List.set_cons_succ, List.set_cons_zero]
          refine tree_one rfl rfl (fun K hK => ?_)
          go_simp
          refine (HW2.out.papp HR.out l fa2 fc2 HS2.out HL1.out (by omega)).mono ?_
          rintro e W3 ⟨rfl, vr3, fp3, h3, u3⟩
          have HW3 := Lib.hid h3; have HB3 := Lib.hid (HB2.out.upd u3)
          clear h3 u3 HW2 HB2 S0 HS2 HF2
          have S0 : DoS wb bb #[.pointer (some ⟨db, 0, none⟩), .pointer (some ⟨jb, 0, none⟩), .pointer (some ⟨xb, 0, none⟩), .pointer (some ⟨rb, 0, none⟩)] #[.int .i64 kind, .slice la l.length lc, .int .i64 on, .slice ka keep.length kc] W3 := ⟨HW3.out.blk, HB3.out.blk⟩
          refine hK _ _ S0 ?_
          clear hK K
          try simp only [Act.put, List.setIfInBounds_toArray, List.set_cons_succ, List.set_cons_zero]
          refine tree_one rfl rfl (fun K hK => ?_)
          go_simp
          refine (few10_c la lc l W3 (HSl.out.same HW3.out.js.fr) HLs.out).mono ?_
          rintro e W4 ⟨v4, rfl, r4, y4, f4⟩
          obtain ⟨fa4, fc4, rfl⟩ := (sl_of_row r4).val
          have HW4 := Lib.hid (HW3.out.same f4); have HB4 := Lib.hid (HB3.out.same f4)
          have HF4 := Lib.hid (HW3.out.far (fun g hg => ⟨y4 g hg, ownsRow_lt r4 hg⟩)); have HS4 := Lib.hid (sl_of_row r4)
          clear r4 y4 f4 S0
          have S0 : DoS wb bb #[.pointer (some ⟨db, 0, none⟩), .pointer (some ⟨jb, 0, none⟩), .pointer (some ⟨xb, 0, none⟩), .pointer (some ⟨rb, 0, none⟩)] #[.int .i64 kind, .slice la l.length lc, .int .i64 on, .slice ka keep.length kc] W4 := ⟨HW4.out.blk, HB4.out.blk⟩
          refine hK _ _ S0 ?_
          clear hK K
          try simp only [Act.put, List.setIfInBounds_toArray, List.set_cons_succ, List.set_cons_zero]
          refine tree_one rfl rfl (fun K hK => ?_)
          go_simp
          refine (HW4.out.rapp l fa4 fc4 HS4.out HF4.out HL1.out HL2.out (by omega)).mono ?_
          rintro e W5 ⟨rfl, vq5, fx5, h5, u5⟩
          have HW5 := Lib.hid h5; have HB5 := Lib.hid (HB4.out.upd u5)
          clear h5 u5 HW4 HB4 S0 HS4 HF4
          have S0 : DoS wb bb #[.pointer (some ⟨db, 0, none⟩), .pointer (some ⟨jb, 0, none⟩), .pointer (some ⟨xb, 0, none⟩), .pointer (some ⟨rb, 0, none⟩)] #[.int .i64 kind, .slice la l.length lc, .int .i64 on, .slice ka keep.length kc] W5 := ⟨HW5.out.blk, HB5.out.blk⟩
          refine hK _ _ S0 ?_
          clear hK K
          try simp only [Act.put, List.setIfInBounds_toArray, List.set_cons_succ, List.set_cons_zero]
          (refine tree_take (v := ?_) rfl rfl rfl S0 (fun w hS => ?_) ?_; rotate_left; (focus (have c0 : World.cell? _ ⟨wb, 0, none⟩ = some (.pointer (some ⟨db, 0, none⟩)) := cell_of_blk hS.1 0; have c1 : World.cell? _ ⟨wb, 1, none⟩ = some (.pointer (some ⟨jb, 0, none⟩)) := cell_of_blk hS.1 1; have c2 : World.cell? _ ⟨wb, 2, none⟩ = some (.pointer (some ⟨xb, 0, none⟩)) := cell_of_blk hS.1 2; have c3 : World.cell? _ ⟨wb, 3, none⟩ = some (.pointer (some ⟨rb, 0, none⟩)) := cell_of_blk hS.1 3; have b0 : World.cell? _ ⟨bb, 0, none⟩ = some (.int .i64 kind) := cell_of_blk hS.2 0; have b1 : World.cell? _ ⟨bb, 1, none⟩ = some (.slice la l.length lc) := cell_of_blk hS.2 1; have b2 : World.cell? _ ⟨bb, 2, none⟩ = some (.int .i64 on) := cell_of_blk hS.2 2; have b3 : World.cell? _ ⟨bb, 3, none⟩ = some (.slice ka keep.length kc) := cell_of_blk hS.2 3; clear hS; go_simp; rfl)); simp only [List.setIfInBounds_toArray, List.set_cons_succ, List.set_cons_zero])
          refine tree_last rfl rfl (fun K hK => ?_)
          go_simp
          try go_upon
          try go_simp
          refine hK _ _ ?_
          clear hK K
          refine noPanicN ?_
          go_wp2_with fail
          go_ret
          obtain ⟨a1, a2, L', a3, a4, a5⟩ := HAk.out
          have h5 := HW5.out
          generalize D.apps (tp0.adds L) br (fewM l) = o at *
          exact ⟨by simp, o.2.2.2, ⟨_, _, some ⟨jb, vr3, o.2.1, o.2.2.1⟩, some ⟨rb, vq5, o.2.1, o.2.2.1⟩, h5, .inr ⟨jb, vr3, rb, vq5, L', o.2.2.1, by rw [a3], by rw [a3], by rw [a1]; exact a4, a5⟩⟩, a1, a2⟩

end Go.Proofs.YtbogljpafpkikaaGreatDoor

/-
  The journal's laws: both journals on new disks.
-/
namespace Go.Proofs.YtbogljpafpkikaaGreatDoor
open Go.RowKit Go.Lib

theorem Wd.new {w0 w1 w2 : World} {db xb : Nat} {fp fx : List Nat} {D R : Dk} (js : JS w0 w1 db fp D []) (hx : RfA w2 xb fx R) (f2 : Fr [] w1 w2) (y2 : ∀ k, k ∈ fx → w1.heap.size ≤ k) :
    Wd w0 (w2.alloc (.cells #[.pointer (some ⟨db, 0, none⟩), .pointer none, .pointer (some ⟨xb, 0, none⟩), .pointer none] 32)) w2.heap.size db xb (.pointer none) (.pointer none) fp fx D R none none := by
  have fa := Fr.alloc [] w2 (.cells #[.pointer (some ⟨db, 0, none⟩), .pointer none, .pointer (some ⟨xb, 0, none⟩), .pointer none] 32)
  have h1 : ∀ k, k ∈ fp → k < w1.heap.size := DkAt.lt js.disk
  have h2 : ∀ k, k ∈ fx → k < w2.heap.size := hx.lt
  have h3 := f2.size
  have h4 := js.fr.size
  refine ⟨heap_alloc_new _ _, (js.same f2).same fa, hx.keep fa (by simp), by simp, by omega, fun k hk => ?_, fun k hk => ?_, fun k hk => ?_, by simp [qB]⟩
  · have := y2 k (by simpa [qB] using hk); omega
  · have h5 := h1 k (by simpa [pB] using hk)
    refine ⟨by omega, fun hm => ?_⟩
    have := y2 k (by simpa [qB] using hm); omega
  · have := h2 k (by simpa [qB] using hk); omega

set_option maxRecDepth 100000 in
theorem begin10_c {w0 w : World} (n : Int) (a : Addr) (hn : -9223372036854775808 ≤ n ∧ n ≤ 9223372036854775807) (hf : Fr [] w0 w) (hR : RndAt w0) (hA : DmgAt w0 a) :
    Calls Tryz.prog 7 #[.int .i64 n] w fun e w' => ∃ wb db xb fp fx jb vr rb vq, e = .returned (.tuple #[.pointer (some ⟨wb, 0, none⟩), .bool true]) ∧ Wd w0 w' wb db xb (.pointer (some ⟨jb, 0, none⟩)) (.pointer (some ⟨rb, 0, none⟩)) fp fx (Dk.new (szJ n)) (Dk.new (szJ n)) (some ⟨jb, vr, tp0.adds [], false⟩) (some ⟨rb, vq, tp0.adds [], false⟩) := by
  have HSz := Lib.hid fun w => size10_c n w hn
  have hmb := szJ_bound n
  generalize szJ n = m at *
  have HF := Lib.hid hf; have HR := Lib.hid hR; have HA := Lib.hid hA
  have HOp : Shut ((Dk.new m).opens = (0, some (tp0.adds []), Dk.new m)) := ⟨clean_open (clean_new m)⟩
  have HPe : Shut ((Dk.new m).pend.length = 0) := ⟨by simp [Dk.new]⟩
  clear hf hR hA
  go_enter Tryz.func7, Tryz.ntmps7
  go_wp2_with fail
  refine (HSz.out _).mono ?_
  rintro e _ ⟨rfl, rfl⟩
  go_wp2_with fail
  refine (new_s m w0 w HF.out (by omega) (by omega)).mono ?_
  rintro e w1 ⟨db, fp, rfl, js⟩
  have HJ := Lib.hid js
  clear js HF
  go_wp2_with fail
  refine (HSz.out _).mono ?_
  rintro e _ ⟨rfl, rfl⟩
  go_wp2_with fail
  refine (rNew_ok m w1 (by omega) (by omega)).mono ?_
  rintro e w2 ⟨xb, fx, rfl, h2, f2, y2⟩
  have HW := Lib.hid (Wd.new HJ.out h2 f2 y2)
  clear h2 f2 y2 HJ
  go_wp2_with fail
  generalize World.alloc w2 _ = w3 at *
  generalize w2.heap.size = wb at *
  refine (wOpen10_s HW.out HR.out HA.out (by rw [HPe.out]; omega)).mono ?_
  rintro e w4 ⟨rfl, fp4, fx4, p, q, h4, hb, hp⟩
  rw [HOp.out] at h4 hb hp
  rcases hb with ⟨rfl, rfl⟩ | ⟨jb, vr, rb, vq, L, br, rfl, rfl, _, _⟩
  · simp at hp
  have HW4 := Lib.hid h4; have HP := Lib.hid hp
  clear h4 HW hp
  go_wp2_with fail
  go_ret2
  have hp2 := HP.out
  simp only [Option.map_some, Option.some.injEq, Prod.mk.injEq] at hp2
  have h4 := HW4.out
  rw [hp2.1, hp2.2] at h4
  exact ⟨wb, db, xb, fp4, fx4, jb, vr, rb, vq, rfl, h4⟩

end Go.Proofs.YtbogljpafpkikaaGreatDoor

/-
  The journal's laws: JournalMatchesReference, from readable arguments.
-/
namespace Go.Proofs.YtbogljpafpkikaaGreatDoor
open Go.RowKit Go.Lib

theorem RfIn.same {w w' : World} {b : Nat} {sv pv : Value} {D : Dk} (h : RfIn w b sv pv D) (hf : Fr [] w w') : RfIn w' b sv pv D := h.keep fun k hk => hf.block k (h.fp_lt k hk) (by simp)
theorem str_take {l : List UInt8} {n : Nat} (h : l.length = n) : (⟨((l.drop 0).take n).toArray⟩ : ByteArray) = str l := by
  rw [List.drop_zero, List.take_of_length_le (by omega)]; rfl
theorem Wd.room {w0 w : World} {wb db xb : Nat} {c1 c3 : Value} {fp fx : List Nat} {D R : Dk} {p : Option Jb} {rb : Nat} {vq : Value} {L : List ByteArray} {br : Bool} (h : Wd w0 w wb db xb c1 c3 fp fx D R p (some ⟨rb, vq, tp0.adds L, br⟩)) (hL : encN L ≤ R.dur.length) :
    Calls Tryz.prog 19 #[.pointer (some ⟨rb, 0, none⟩)] w fun e w' => e = .returned (.int .i64 ((R.dur.length : Int) - encN L)) ∧ Fr [] w w' := by
  have e : (tp0.adds L).size = encN L := by rw [tpL_size, enc_size]
  have := rRoom_c (h.rj _ rfl) h.rf (by simp only [e]; exact hL)
  simp only [e] at this
  exact this

set_option maxRecDepth 100000 in
set_option maxHeartbeats 8000000 in
theorem matches10_c (n : Int) (a0 : Addr) (a : Option Addr) (cap : Nat) (xs : List OpV) (w : World) (hn : -9223372036854775808 ≤ n ∧ n ≤ 9223372036854775807) (hs : RowOp w a cap xs) (hR : RndAt w) (hA : DmgAt w a0) :
    Calls Tryz.prog 5 #[.int .i64 n, .slice a xs.length cap] w fun e w' => e = .returned (.bool true) ∧ Fr [] w w' := by
  have hlen : xs.length ≤ 9223372036854775807 := Nat.le_trans hs.le hs.max
  have HSa := Lib.hid (sane10_c a0 w hR hA)
  have hmb := szJ_bound n
  have HBe := Lib.hid fun (W : World) (hf : Fr [] w W) => begin10_c (w0 := w) (w := W) n a0 hn hf hR hA
  generalize szJ n = m at *
  have HS := Lib.hid hs; have HR := Lib.hid hR; have HA := Lib.hid hA
  clear hs hR hA
  go_enter Tryz.func5, Tryz.ntmps5
  go_wp2_with fail
  refine HSa.out.mono ?_
  rintro e w1 ⟨rfl, f1⟩
  have HF1 := Lib.hid f1
  clear f1 HSa
  go_wp2_with fail
  refine (HBe.out w1 HF1.out).mono ?_
  rintro e w2 ⟨wb, db, xb, fp0, fx0, jb0, vr0, rb0, vq0, rfl, h2⟩
  have HW0 : Hid (WS w w2 wb db xb (Dk.new m)) := Lib.hid ⟨fp0, fx0, some ⟨jb0, vr0, tp0.adds [], false⟩, some ⟨rb0, vq0, tp0.adds [], false⟩, h2, .inr ⟨jb0, vr0, rb0, vq0, [], false, rfl, rfl, Nat.zero_le _, by simp⟩⟩
  have HD0 : Shut ((Dk.new m).dur.length = m) := ⟨by simp [Dk.new]⟩
  have HP0 : Shut ((Dk.new m).pend.length = 0) := ⟨by simp [Dk.new]⟩
  clear h2 HBe HF1
  generalize Dk.new m = D0 at *
  go_wp2_with fail
  go_loopw [8] (fun iv wr => ∃ (k : Nat) (D : Dk), iv = .int .i64 k ∧ k ≤ xs.length ∧ k ≤ 25 ∧ Hid (WS w wr wb db xb D) ∧ Shut (D.dur.length = m) ∧ Shut (D.pend.length ≤ 4 * k)) (fun iv _ => 25 - (RowKit.intOf iv).toNat)
  case atStart => exact ⟨0, D0, rfl, Nat.zero_le _, by omega, HW0, HD0, ⟨by rw [HP0.out]; omega⟩⟩
  case round =>
    clear HW0 HD0 HP0
    obtain ⟨k, D, rfl, hk, hk25, HW, HD, HP⟩ := hrel
    by_cases hlt : k < xs.length
    · by_cases hl25 : k < 25
      · obtain ⟨b, off, rfl, hc⟩ := HS.out.cells (by omega)
        obtain ⟨c0, c1, c2, c3⟩ := hc k hlt
        have hy := HS.out.ok _ (List.getElem_mem hlt)
        generalize xs[k] = y at *
        obtain ⟨fp9, fx9, p9, q9, hw9, _⟩ := HW.out
        have hfr := hw9.js.fr
        have DO := Lib.hid (wDoes10_c HW.out y hy HR.out HA.out (by have := HP.out; omega))
        obtain ⟨kind, lv, l, on, ka, kc, keep⟩ := y
        simp only at c0 c1 c2 c3
        obtain ⟨k1, k2, n1, n2, ⟨ga, gc, hlv, _, _⟩, _⟩ := hy
        simp only at hlv
        subst hlv
        have d0 := hfr.cel c0 (by simp)
        have d1 := hfr.cel c1 (by simp)
        have d2 := hfr.cel c2 (by simp)
        have d3 := hfr.cel c3 (by simp)
        clear hw9 hfr c0 c1 c2 c3 hc HW k1 k2 n1 n2
        go_wp2_with fail
        clear d0 d1 d2 d3
        refine DO.out.mono ?_
        rintro e W ⟨rfl, D', h5, hl5, hp5⟩
        clear DO
        obtain ⟨fp, fx, p, q, hW, hb⟩ := h5
        obtain ⟨sv, pv, hi, _⟩ := hW.rf
        obtain ⟨pa, pc, rfl⟩ := ownsRow_slice hi.pend
        have c0 : W.cell? ⟨wb, 0, none⟩ = some (.pointer (some ⟨db, 0, none⟩)) := cell_of_blk hW.blk 0
        have c1 : W.cell? ⟨wb, 1, none⟩ = some (pP p) := cell_of_blk hW.blk 1
        have c2 : W.cell? ⟨wb, 2, none⟩ = some (.pointer (some ⟨xb, 0, none⟩)) := cell_of_blk hW.blk 2
        have c3 : W.cell? ⟨wb, 3, none⟩ = some (pP q) := cell_of_blk hW.blk 3
        have x1 : W.cell? ⟨xb, 1, none⟩ = some (.slice pa D'.pend.length pc) := cell_of_blk hi.str 1
        have x2 : W.cell? ⟨xb, 2, none⟩ = some (.bool D'.off) := cell_of_blk hi.str 2
        have HI := Lib.hid hi; have HW := Lib.hid hW; have HB := Lib.hid hb
        have HD5 : Shut (D'.dur.length = m) := ⟨by rw [hl5, HD.out]⟩
        have HP5 : Shut (D'.pend.length ≤ 4 * (k + 1)) := ⟨by have := HP.out; omega⟩
        have HPN := Lib.hid fun (W1 : World) (f : Fr [] W W1) => pending_dk db fp D' W1 (hW.js.disk.keep f (by simp))
        have HCO := Lib.hid fun (W1 : World) (f : Fr [] W W1) (ho : D'.off = false) => content10_c db fp D' W1 (hW.js.disk.keep f (by simp)) ho
        have HVI := Lib.hid fun (W1 : World) (f : Fr [] W W1) => rVisible_c xb sv _ D' W1 (hi.same f) (by have := HP.out; omega)
        have HVL : Shut (D'.vis.length = D'.dur.length) := ⟨hi.ok.len⟩
        clear hi hW hb HD HP hl5 hp5
        generalize hpn : D'.pend.length = pn at x1 HPN
        clear hpn
        by_cases ho : D'.off = true
        · rw [ho] at x2
          go_wp2_with fail
          refine reg_mix (Fr [] W) [0, 1, 2, 3, 4, 5, 6, 8, 9, 10, 11, 12, 13, 14, 15, 7, 16, 17, 18, 19, 20, 21, 22, 23, 24, 25, 26, 27, 28, 29, 30, 31, 33, 34, 35, 36, 32, 37, 38, 39, 40, 41] (by kernel_rfl) (by kernel_rfl) (by kernel_rfl) rfl (Fr.drew _ _) ?_
          have FC : Fr [] W W.drew := Fr.drew _ _
          generalize W.drew = WC at FC ⊢
          iterate 3 (refine mix_take1 (v := ?_) rfl rfl rfl rfl (fun w hS => ?_) ?_; rotate_left; (focus (have e0 := hS.cel c0 (by simp); have e2 := hS.cel c2 (by simp); have y1 := hS.cel x1 (by simp); have y2 := hS.cel x2 (by simp); clear hS; go_simp; rfl)); simp only [List.setIfInBounds_toArray, List.set_cons_succ, List.set_cons_zero])
          iterate 4 (refine mix_takeg (v := ?_) rfl rfl rfl rfl rfl rfl (fun w hS => ?_) ?_; rotate_left; (focus (have e0 := hS.cel c0 (by simp); have e2 := hS.cel c2 (by simp); have y1 := hS.cel x1 (by simp); have y2 := hS.cel x2 (by simp); clear hS; go_simp; rfl)); simp only [List.setIfInBounds_toArray, List.set_cons_succ, List.set_cons_zero])
          iterate 8 (refine mix_takeg (v := ?_) rfl rfl rfl rfl rfl rfl (fun w hS => ?_) ?_; rotate_left; (focus (have e0 := hS.cel c0 (by simp); have e2 := hS.cel c2 (by simp); have y1 := hS.cel x1 (by simp); have y2 := hS.cel x2 (by simp); clear hS; go_simp; rfl)); simp only [List.setIfInBounds_toArray, List.set_cons_succ, List.set_cons_zero])
          refine mix_dog rfl rfl rfl rfl rfl (fun K hK => ?_)
          go_simp
          refine (HPN.out _ FC).mono ?_
          rintro e w00 ⟨rfl, rfl⟩
          refine hK _ _ FC ?_
          clear hK K
          try simp only [Act.put, List.setIfInBounds_toArray, List.set_cons_succ, List.set_cons_zero]
          (refine mix_takeg (v := ?_) rfl rfl rfl rfl rfl rfl (fun w hS => ?_) ?_; rotate_left; (focus (have e0 := hS.cel c0 (by simp); have e2 := hS.cel c2 (by simp); have y1 := hS.cel x1 (by simp); have y2 := hS.cel x2 (by simp); clear hS; go_simp; rfl)); simp only [List.setIfInBounds_toArray, List.set_cons_succ, List.set_cons_zero])
          iterate 2 (refine mix_take1 (v := ?_) rfl rfl rfl rfl (fun w hS => ?_) ?_; rotate_left; (focus (have e0 := hS.cel c0 (by simp); have e2 := hS.cel c2 (by simp); have y1 := hS.cel x1 (by simp); have y2 := hS.cel x2 (by simp); clear hS; go_simp; rfl)); simp only [List.setIfInBounds_toArray, List.set_cons_succ, List.set_cons_zero])
          iterate 9 (refine mix_takeg (v := ?_) rfl rfl rfl rfl rfl rfl (fun w hS => ?_) ?_; rotate_left; (focus (have e0 := hS.cel c0 (by simp); have e2 := hS.cel c2 (by simp); have y1 := hS.cel x1 (by simp); have y2 := hS.cel x2 (by simp); clear hS; go_simp; rfl)); simp only [List.setIfInBounds_toArray, List.set_cons_succ, List.set_cons_zero])
          iterate 12 (refine mix_skipT rfl rfl rfl rfl rfl FC ?_; simp only [List.setIfInBounds_toArray, List.set_cons_succ, List.set_cons_zero])
          (refine mix_takeg (v := ?_) rfl rfl rfl rfl rfl rfl (fun w hS => ?_) ?_; rotate_left; (focus (have e0 := hS.cel c0 (by simp); have e2 := hS.cel c2 (by simp); have y1 := hS.cel x1 (by simp); have y2 := hS.cel x2 (by simp); clear hS; go_simp; rfl)); simp only [List.setIfInBounds_toArray, List.set_cons_succ, List.set_cons_zero])
          (refine mix_take1 (v := ?_) rfl rfl rfl rfl (fun w hS => ?_) ?_; rotate_left; (focus (have e0 := hS.cel c0 (by simp); have e2 := hS.cel c2 (by simp); have y1 := hS.cel x1 (by simp); have y2 := hS.cel x2 (by simp); clear hS; go_simp; rfl)); simp only [List.setIfInBounds_toArray, List.set_cons_succ, List.set_cons_zero])
          refine mix_end ?_
          have HWC := Lib.hid (HW.out.same FC)
          have c1 := FC.cel c1 (by simp)
          have c3 := FC.cel c3 (by simp)
          clear c0 c2 x1 x2 HI HPN HCO HVI HVL HW FC
          generalize WC = WR at *
          go_wp2_with fail
          rcases HB.out with ⟨rfl, rfl⟩ | ⟨jb, vr, rb, vq, L, br, rfl, rfl, hL1, _⟩
          · simp only [pP] at c1 c3
            refine reg_mix (Fr [] WR) [0, 1, 2, 3, 4, 5, 6, 7, 8, 9, 11, 12, 13, 14, 15, 16, 17, 10, 18, 19, 20, 21, 22, 23, 24, 26, 27, 28, 29, 25, 30, 31, 32, 33] (by kernel_rfl) (by kernel_rfl) (by kernel_rfl) rfl (Fr.drew _ _) ?_
            have FC : Fr [] WR WR.drew := Fr.drew _ _
            generalize WR.drew = WC at FC ⊢
            iterate 6 (refine mix_take1 (v := ?_) rfl rfl rfl rfl (fun w hS => ?_) ?_; rotate_left; (focus (have e1 := hS.cel c1 (by simp); have e3 := hS.cel c3 (by simp); clear hS; go_simp; rfl)); simp only [List.setIfInBounds_toArray, List.set_cons_succ, List.set_cons_zero])
            iterate 15 (refine mix_skipT rfl rfl rfl rfl rfl FC ?_; simp only [List.setIfInBounds_toArray, List.set_cons_succ, List.set_cons_zero])
            iterate 11 (refine mix_skipU rfl rfl rfl rfl rfl FC ?_; simp only [List.setIfInBounds_toArray, List.set_cons_succ, List.set_cons_zero])
            (refine mix_skipT rfl rfl rfl rfl rfl FC ?_; simp only [List.setIfInBounds_toArray, List.set_cons_succ, List.set_cons_zero])
            (refine mix_take1 (v := ?_) rfl rfl rfl rfl (fun w hS => ?_) ?_; rotate_left; (focus (have e1 := hS.cel c1 (by simp); have e3 := hS.cel c3 (by simp); clear hS; go_simp; rfl)); simp only [List.setIfInBounds_toArray, List.set_cons_succ, List.set_cons_zero])
            refine mix_end ?_


            go_wp2_with fail
            go_roundw
            case rel => exact ⟨k + 1, D', by go_num, hlt, by omega, Lib.hid ⟨fp, fx, none, none, HWC.out.same FC, .inl ⟨rfl, rfl⟩⟩, HD5, HP5⟩
            case measure => simp [RowKit.intOf]; omega
          · have hLm : L.length ≤ 1500 := by have := len_le_enc L; have := HD5.out; omega
            have hj := HWC.out.rj _ rfl
            have hq := sl_of_row hj.row
            have HQ1 : Shut ((tp0.adds L).recs = L) := ⟨tpL_recs L⟩
            rw [HQ1.out] at hq
            obtain ⟨qa, qc, rfl⟩ := hq.val
            have HQ := Lib.hid hq
            have y1 : WR.cell? ⟨rb, 1, none⟩ = some (.slice qa L.length qc) := cell_of_blk hj.blk 1
            simp only [pP] at c1 c3
            have HRo := Lib.hid fun (W1 : World) (f : Fr [] WR W1) => room_s (L := L) (HWC.out.js.same f) (List.mem_singleton.2 rfl) (by have := HD5.out; omega)
            have HRr := Lib.hid fun (W1 : World) (f : Fr [] WR W1) => (HWC.out.same f).room hL1
            clear hj hq
            refine reg_mix (Fr [] WR) [0, 1, 2, 3, 4, 5, 6, 7, 8, 9, 11, 12, 13, 14, 15, 16, 17, 10, 18, 19, 20, 21, 22, 23, 24, 26, 27, 28, 29, 25, 30, 31, 32, 33] (by kernel_rfl) (by kernel_rfl) (by kernel_rfl) rfl (Fr.drew _ _) ?_
            have FC : Fr [] WR WR.drew := Fr.drew _ _
            generalize WR.drew = WC at FC ⊢
            iterate 6 (refine mix_take1 (v := ?_) rfl rfl rfl rfl (fun w hS => ?_) ?_; rotate_left; (focus (have e1 := hS.cel c1 (by simp); have e3 := hS.cel c3 (by simp); have z1 := hS.cel y1 (by simp); clear hS; go_simp; rfl)); simp only [List.setIfInBounds_toArray, List.set_cons_succ, List.set_cons_zero])
            iterate 4 (refine mix_takeg (v := ?_) rfl rfl rfl rfl rfl rfl (fun w hS => ?_) ?_; rotate_left; (focus (have e1 := hS.cel c1 (by simp); have e3 := hS.cel c3 (by simp); have z1 := hS.cel y1 (by simp); clear hS; go_simp; rfl)); simp only [List.setIfInBounds_toArray, List.set_cons_succ, List.set_cons_zero])
            iterate 7 (refine mix_takeg (v := ?_) rfl rfl rfl rfl rfl rfl (fun w hS => ?_) ?_; rotate_left; (focus (have e1 := hS.cel c1 (by simp); have e3 := hS.cel c3 (by simp); have z1 := hS.cel y1 (by simp); clear hS; go_simp; rfl)); simp only [List.setIfInBounds_toArray, List.set_cons_succ, List.set_cons_zero])
            refine mix_dog rfl rfl rfl rfl rfl (fun K hK => ?_)
            go_simp
            refine (rec_r (L := L) (HWC.out.js.same FC) (List.mem_singleton.2 rfl) (by omega)).mono ?_
            rintro e w6 ⟨ra, rc, rfl, r6, f6, _⟩
            have FC := FC.trans f6
            have S6 := Lib.hid (sl_of_row r6)
            clear r6 f6
            refine hK _ _ FC ?_
            clear hK K
            try simp only [Act.put, List.setIfInBounds_toArray, List.set_cons_succ, List.set_cons_zero]
            refine mix_dog rfl rfl rfl rfl rfl (fun K hK => ?_)
            go_simp
            refine (same10_c ra qa rc qc L L _ S6.out (HQ.out.same FC)).mono ?_
            rintro e w7 ⟨rfl, f7⟩
            rw [decide_eq_true (rfl : L = L)]
            have FC := FC.trans f7
            clear f7 S6
            refine hK _ _ FC ?_
            clear hK K
            try simp only [Act.put, List.setIfInBounds_toArray, List.set_cons_succ, List.set_cons_zero]
            iterate 2 (refine mix_takeg (v := ?_) rfl rfl rfl rfl rfl rfl (fun w hS => ?_) ?_; rotate_left; (focus (have e1 := hS.cel c1 (by simp); have e3 := hS.cel c3 (by simp); have z1 := hS.cel y1 (by simp); clear hS; go_simp; rfl)); simp only [List.setIfInBounds_toArray, List.set_cons_succ, List.set_cons_zero])
            iterate 4 (refine mix_takeg (v := ?_) rfl rfl rfl rfl rfl rfl (fun w hS => ?_) ?_; rotate_left; (focus (have e1 := hS.cel c1 (by simp); have e3 := hS.cel c3 (by simp); have z1 := hS.cel y1 (by simp); clear hS; go_simp; rfl)); simp only [List.setIfInBounds_toArray, List.set_cons_succ, List.set_cons_zero])
            iterate 4 (refine mix_takeg (v := ?_) rfl rfl rfl rfl rfl rfl (fun w hS => ?_) ?_; rotate_left; (focus (have e1 := hS.cel c1 (by simp); have e3 := hS.cel c3 (by simp); have z1 := hS.cel y1 (by simp); clear hS; go_simp; rfl)); simp only [List.setIfInBounds_toArray, List.set_cons_succ, List.set_cons_zero])
            refine mix_dog rfl rfl rfl rfl rfl (fun K hK => ?_)
            go_simp
            refine (HRo.out _ FC).mono ?_
            rintro e wq ⟨rfl, fq⟩
            have FC := FC.trans fq
            clear fq
            refine hK _ _ FC ?_
            clear hK K
            try simp only [Act.put, List.setIfInBounds_toArray, List.set_cons_succ, List.set_cons_zero]
            refine mix_dog rfl rfl rfl rfl rfl (fun K hK => ?_)
            go_simp
            refine (HRr.out _ FC).mono ?_
            rintro e wq ⟨rfl, fq⟩
            have FC := FC.trans fq
            clear fq
            refine hK _ _ FC ?_
            clear hK K
            try simp only [Act.put, List.setIfInBounds_toArray, List.set_cons_succ, List.set_cons_zero]
            iterate 2 (refine mix_takeg (v := ?_) rfl rfl rfl rfl rfl rfl (fun w hS => ?_) ?_; rotate_left; (focus (have e1 := hS.cel c1 (by simp); have e3 := hS.cel c3 (by simp); have z1 := hS.cel y1 (by simp); clear hS; go_simp; rfl)); simp only [List.setIfInBounds_toArray, List.set_cons_succ, List.set_cons_zero])
            (refine mix_take1 (v := ?_) rfl rfl rfl rfl (fun w hS => ?_) ?_; rotate_left; (focus (have e1 := hS.cel c1 (by simp); have e3 := hS.cel c3 (by simp); have z1 := hS.cel y1 (by simp); clear hS; go_simp; rfl)); simp only [List.setIfInBounds_toArray, List.set_cons_succ, List.set_cons_zero])
            refine mix_end ?_


            go_wp2_with fail
            go_roundw
            case rel => exact ⟨k + 1, D', by go_num, hlt, by omega, Lib.hid ⟨fp, fx, _, _, HWC.out.same FC, HB.out⟩, HD5, HP5⟩
            case measure => simp [RowKit.intOf]; omega
        · have ho : D'.off = false := by simpa using ho
          rw [ho] at x2
          go_wp2_with fail
          refine reg_mix (Fr [] W) [0, 1, 2, 3, 4, 5, 6, 8, 9, 10, 11, 12, 13, 14, 15, 7, 16, 17, 18, 19, 20, 21, 22, 23, 24, 25, 26, 27, 28, 29, 30, 31, 33, 34, 35, 36, 32, 37, 38, 39, 40, 41] (by kernel_rfl) (by kernel_rfl) (by kernel_rfl) rfl (Fr.drew _ _) ?_
          have FC : Fr [] W W.drew := Fr.drew _ _
          generalize W.drew = WC at FC ⊢
          iterate 3 (refine mix_take1 (v := ?_) rfl rfl rfl rfl (fun w hS => ?_) ?_; rotate_left; (focus (have e0 := hS.cel c0 (by simp); have e2 := hS.cel c2 (by simp); have y1 := hS.cel x1 (by simp); have y2 := hS.cel x2 (by simp); clear hS; go_simp; rfl)); simp only [List.setIfInBounds_toArray, List.set_cons_succ, List.set_cons_zero])
          iterate 4 (refine mix_takeg (v := ?_) rfl rfl rfl rfl rfl rfl (fun w hS => ?_) ?_; rotate_left; (focus (have e0 := hS.cel c0 (by simp); have e2 := hS.cel c2 (by simp); have y1 := hS.cel x1 (by simp); have y2 := hS.cel x2 (by simp); clear hS; go_simp; rfl)); simp only [List.setIfInBounds_toArray, List.set_cons_succ, List.set_cons_zero])
          iterate 8 (refine mix_takeg (v := ?_) rfl rfl rfl rfl rfl rfl (fun w hS => ?_) ?_; rotate_left; (focus (have e0 := hS.cel c0 (by simp); have e2 := hS.cel c2 (by simp); have y1 := hS.cel x1 (by simp); have y2 := hS.cel x2 (by simp); clear hS; go_simp; rfl)); simp only [List.setIfInBounds_toArray, List.set_cons_succ, List.set_cons_zero])
          refine mix_dog rfl rfl rfl rfl rfl (fun K hK => ?_)
          go_simp
          refine (HPN.out _ FC).mono ?_
          rintro e w00 ⟨rfl, rfl⟩
          refine hK _ _ FC ?_
          clear hK K
          try simp only [Act.put, List.setIfInBounds_toArray, List.set_cons_succ, List.set_cons_zero]
          (refine mix_takeg (v := ?_) rfl rfl rfl rfl rfl rfl (fun w hS => ?_) ?_; rotate_left; (focus (have e0 := hS.cel c0 (by simp); have e2 := hS.cel c2 (by simp); have y1 := hS.cel x1 (by simp); have y2 := hS.cel x2 (by simp); clear hS; go_simp; rfl)); simp only [List.setIfInBounds_toArray, List.set_cons_succ, List.set_cons_zero])
          iterate 2 (refine mix_take1 (v := ?_) rfl rfl rfl rfl (fun w hS => ?_) ?_; rotate_left; (focus (have e0 := hS.cel c0 (by simp); have e2 := hS.cel c2 (by simp); have y1 := hS.cel x1 (by simp); have y2 := hS.cel x2 (by simp); clear hS; go_simp; rfl)); simp only [List.setIfInBounds_toArray, List.set_cons_succ, List.set_cons_zero])
          iterate 9 (refine mix_takeg (v := ?_) rfl rfl rfl rfl rfl rfl (fun w hS => ?_) ?_; rotate_left; (focus (have e0 := hS.cel c0 (by simp); have e2 := hS.cel c2 (by simp); have y1 := hS.cel x1 (by simp); have y2 := hS.cel x2 (by simp); clear hS; go_simp; rfl)); simp only [List.setIfInBounds_toArray, List.set_cons_succ, List.set_cons_zero])
          iterate 4 (refine mix_takeg (v := ?_) rfl rfl rfl rfl rfl rfl (fun w hS => ?_) ?_; rotate_left; (focus (have e0 := hS.cel c0 (by simp); have e2 := hS.cel c2 (by simp); have y1 := hS.cel x1 (by simp); have y2 := hS.cel x2 (by simp); clear hS; go_simp; rfl)); simp only [List.setIfInBounds_toArray, List.set_cons_succ, List.set_cons_zero])
          iterate 4 (refine mix_takeg (v := ?_) rfl rfl rfl rfl rfl rfl (fun w hS => ?_) ?_; rotate_left; (focus (have e0 := hS.cel c0 (by simp); have e2 := hS.cel c2 (by simp); have y1 := hS.cel x1 (by simp); have y2 := hS.cel x2 (by simp); clear hS; go_simp; rfl)); simp only [List.setIfInBounds_toArray, List.set_cons_succ, List.set_cons_zero])
          refine mix_dog rfl rfl rfl rfl rfl (fun K hK => ?_)
          go_simp
          refine (HCO.out _ FC ho).mono ?_
          rintro e w00 ⟨rfl, rfl⟩
          refine hK _ _ FC ?_
          clear hK K
          try simp only [Act.put, List.setIfInBounds_toArray, List.set_cons_succ, List.set_cons_zero]
          refine mix_dog rfl rfl rfl rfl rfl (fun K hK => ?_)
          go_simp
          refine (HVI.out _ FC).mono ?_
          rintro e wv ⟨gv, vc, rfl, xv, fv, _⟩
          have XV := Lib.hid xv
          have FC := FC.trans fv
          clear xv fv
          refine hK _ _ FC ?_
          clear hK K
          try simp only [Act.put, List.setIfInBounds_toArray, List.set_cons_succ, List.set_cons_zero]
          refine mix_dog (o := ⟨some 72, _, _, _, _, _⟩) rfl rfl rfl rfl rfl (fun K hK => ?_)
          refine wp_bytes_row (.tmp 71) 39 9 5 rfl Tryz.underlying39 Tryz.underlying5 Tryz.underlying9 gv 0 D'.dur.length vc D'.dur.length vc D'.vis 5 rfl XV.out (by omega) (hK _ _ FC ?_)
          clear hK K XV
          rw [str_take HVL.out]
          try simp only [Act.put, List.setIfInBounds_toArray, List.set_cons_succ, List.set_cons_zero]
          (refine mix_takeg (v := ?_) rfl rfl rfl rfl rfl rfl (fun w hS => ?_) ?_; rotate_left; (focus (have e0 := hS.cel c0 (by simp); have e2 := hS.cel c2 (by simp); have y1 := hS.cel x1 (by simp); have y2 := hS.cel x2 (by simp); clear hS; go_simp; rfl)); simp only [List.setIfInBounds_toArray, List.set_cons_succ, List.set_cons_zero])
          (refine mix_takeg (v := ?_) rfl rfl rfl rfl rfl rfl (fun w hS => ?_) ?_; rotate_left; (focus (have e0 := hS.cel c0 (by simp); have e2 := hS.cel c2 (by simp); have y1 := hS.cel x1 (by simp); have y2 := hS.cel x2 (by simp); clear hS; go_simp; rfl)); simp only [List.setIfInBounds_toArray, List.set_cons_succ, List.set_cons_zero])
          (refine mix_take1 (v := ?_) rfl rfl rfl rfl (fun w hS => ?_) ?_; rotate_left; (focus (have e0 := hS.cel c0 (by simp); have e2 := hS.cel c2 (by simp); have y1 := hS.cel x1 (by simp); have y2 := hS.cel x2 (by simp); clear hS; go_simp; rfl)); simp only [List.setIfInBounds_toArray, List.set_cons_succ, List.set_cons_zero])
          refine mix_end ?_
          have HWC := Lib.hid (HW.out.same FC)
          have c1 := FC.cel c1 (by simp)
          have c3 := FC.cel c3 (by simp)
          clear c0 c2 x1 x2 HI HPN HCO HVI HVL HW FC
          generalize wv = WR at *
          go_wp2_with fail
          rcases HB.out with ⟨rfl, rfl⟩ | ⟨jb, vr, rb, vq, L, br, rfl, rfl, hL1, _⟩
          · simp only [pP] at c1 c3
            refine reg_mix (Fr [] WR) [0, 1, 2, 3, 4, 5, 6, 7, 8, 9, 11, 12, 13, 14, 15, 16, 17, 10, 18, 19, 20, 21, 22, 23, 24, 26, 27, 28, 29, 25, 30, 31, 32, 33] (by kernel_rfl) (by kernel_rfl) (by kernel_rfl) rfl (Fr.drew _ _) ?_
            have FC : Fr [] WR WR.drew := Fr.drew _ _
            generalize WR.drew = WC at FC ⊢
            iterate 6 (refine mix_take1 (v := ?_) rfl rfl rfl rfl (fun w hS => ?_) ?_; rotate_left; (focus (have e1 := hS.cel c1 (by simp); have e3 := hS.cel c3 (by simp); clear hS; go_simp; rfl)); simp only [List.setIfInBounds_toArray, List.set_cons_succ, List.set_cons_zero])
            iterate 15 (refine mix_skipT rfl rfl rfl rfl rfl FC ?_; simp only [List.setIfInBounds_toArray, List.set_cons_succ, List.set_cons_zero])
            iterate 11 (refine mix_skipU rfl rfl rfl rfl rfl FC ?_; simp only [List.setIfInBounds_toArray, List.set_cons_succ, List.set_cons_zero])
            (refine mix_skipT rfl rfl rfl rfl rfl FC ?_; simp only [List.setIfInBounds_toArray, List.set_cons_succ, List.set_cons_zero])
            (refine mix_take1 (v := ?_) rfl rfl rfl rfl (fun w hS => ?_) ?_; rotate_left; (focus (have e1 := hS.cel c1 (by simp); have e3 := hS.cel c3 (by simp); clear hS; go_simp; rfl)); simp only [List.setIfInBounds_toArray, List.set_cons_succ, List.set_cons_zero])
            refine mix_end ?_


            go_wp2_with fail
            go_roundw
            case rel => exact ⟨k + 1, D', by go_num, hlt, by omega, Lib.hid ⟨fp, fx, none, none, HWC.out.same FC, .inl ⟨rfl, rfl⟩⟩, HD5, HP5⟩
            case measure => simp [RowKit.intOf]; omega
          · have hLm : L.length ≤ 1500 := by have := len_le_enc L; have := HD5.out; omega
            have hj := HWC.out.rj _ rfl
            have hq := sl_of_row hj.row
            have HQ1 : Shut ((tp0.adds L).recs = L) := ⟨tpL_recs L⟩
            rw [HQ1.out] at hq
            obtain ⟨qa, qc, rfl⟩ := hq.val
            have HQ := Lib.hid hq
            have y1 : WR.cell? ⟨rb, 1, none⟩ = some (.slice qa L.length qc) := cell_of_blk hj.blk 1
            simp only [pP] at c1 c3
            have HRo := Lib.hid fun (W1 : World) (f : Fr [] WR W1) => room_s (L := L) (HWC.out.js.same f) (List.mem_singleton.2 rfl) (by have := HD5.out; omega)
            have HRr := Lib.hid fun (W1 : World) (f : Fr [] WR W1) => (HWC.out.same f).room hL1
            clear hj hq
            refine reg_mix (Fr [] WR) [0, 1, 2, 3, 4, 5, 6, 7, 8, 9, 11, 12, 13, 14, 15, 16, 17, 10, 18, 19, 20, 21, 22, 23, 24, 26, 27, 28, 29, 25, 30, 31, 32, 33] (by kernel_rfl) (by kernel_rfl) (by kernel_rfl) rfl (Fr.drew _ _) ?_
            have FC : Fr [] WR WR.drew := Fr.drew _ _
            generalize WR.drew = WC at FC ⊢
            iterate 6 (refine mix_take1 (v := ?_) rfl rfl rfl rfl (fun w hS => ?_) ?_; rotate_left; (focus (have e1 := hS.cel c1 (by simp); have e3 := hS.cel c3 (by simp); have z1 := hS.cel y1 (by simp); clear hS; go_simp; rfl)); simp only [List.setIfInBounds_toArray, List.set_cons_succ, List.set_cons_zero])
            iterate 4 (refine mix_takeg (v := ?_) rfl rfl rfl rfl rfl rfl (fun w hS => ?_) ?_; rotate_left; (focus (have e1 := hS.cel c1 (by simp); have e3 := hS.cel c3 (by simp); have z1 := hS.cel y1 (by simp); clear hS; go_simp; rfl)); simp only [List.setIfInBounds_toArray, List.set_cons_succ, List.set_cons_zero])
            iterate 7 (refine mix_takeg (v := ?_) rfl rfl rfl rfl rfl rfl (fun w hS => ?_) ?_; rotate_left; (focus (have e1 := hS.cel c1 (by simp); have e3 := hS.cel c3 (by simp); have z1 := hS.cel y1 (by simp); clear hS; go_simp; rfl)); simp only [List.setIfInBounds_toArray, List.set_cons_succ, List.set_cons_zero])
            refine mix_dog rfl rfl rfl rfl rfl (fun K hK => ?_)
            go_simp
            refine (rec_r (L := L) (HWC.out.js.same FC) (List.mem_singleton.2 rfl) (by omega)).mono ?_
            rintro e w6 ⟨ra, rc, rfl, r6, f6, _⟩
            have FC := FC.trans f6
            have S6 := Lib.hid (sl_of_row r6)
            clear r6 f6
            refine hK _ _ FC ?_
            clear hK K
            try simp only [Act.put, List.setIfInBounds_toArray, List.set_cons_succ, List.set_cons_zero]
            refine mix_dog rfl rfl rfl rfl rfl (fun K hK => ?_)
            go_simp
            refine (same10_c ra qa rc qc L L _ S6.out (HQ.out.same FC)).mono ?_
            rintro e w7 ⟨rfl, f7⟩
            rw [decide_eq_true (rfl : L = L)]
            have FC := FC.trans f7
            clear f7 S6
            refine hK _ _ FC ?_
            clear hK K
            try simp only [Act.put, List.setIfInBounds_toArray, List.set_cons_succ, List.set_cons_zero]
            iterate 2 (refine mix_takeg (v := ?_) rfl rfl rfl rfl rfl rfl (fun w hS => ?_) ?_; rotate_left; (focus (have e1 := hS.cel c1 (by simp); have e3 := hS.cel c3 (by simp); have z1 := hS.cel y1 (by simp); clear hS; go_simp; rfl)); simp only [List.setIfInBounds_toArray, List.set_cons_succ, List.set_cons_zero])
            iterate 4 (refine mix_takeg (v := ?_) rfl rfl rfl rfl rfl rfl (fun w hS => ?_) ?_; rotate_left; (focus (have e1 := hS.cel c1 (by simp); have e3 := hS.cel c3 (by simp); have z1 := hS.cel y1 (by simp); clear hS; go_simp; rfl)); simp only [List.setIfInBounds_toArray, List.set_cons_succ, List.set_cons_zero])
            iterate 4 (refine mix_takeg (v := ?_) rfl rfl rfl rfl rfl rfl (fun w hS => ?_) ?_; rotate_left; (focus (have e1 := hS.cel c1 (by simp); have e3 := hS.cel c3 (by simp); have z1 := hS.cel y1 (by simp); clear hS; go_simp; rfl)); simp only [List.setIfInBounds_toArray, List.set_cons_succ, List.set_cons_zero])
            refine mix_dog rfl rfl rfl rfl rfl (fun K hK => ?_)
            go_simp
            refine (HRo.out _ FC).mono ?_
            rintro e wq ⟨rfl, fq⟩
            have FC := FC.trans fq
            clear fq
            refine hK _ _ FC ?_
            clear hK K
            try simp only [Act.put, List.setIfInBounds_toArray, List.set_cons_succ, List.set_cons_zero]
            refine mix_dog rfl rfl rfl rfl rfl (fun K hK => ?_)
            go_simp
            refine (HRr.out _ FC).mono ?_
            rintro e wq ⟨rfl, fq⟩
            have FC := FC.trans fq
            clear fq
            refine hK _ _ FC ?_
            clear hK K
            try simp only [Act.put, List.setIfInBounds_toArray, List.set_cons_succ, List.set_cons_zero]
            iterate 2 (refine mix_takeg (v := ?_) rfl rfl rfl rfl rfl rfl (fun w hS => ?_) ?_; rotate_left; (focus (have e1 := hS.cel c1 (by simp); have e3 := hS.cel c3 (by simp); have z1 := hS.cel y1 (by simp); clear hS; go_simp; rfl)); simp only [List.setIfInBounds_toArray, List.set_cons_succ, List.set_cons_zero])
            (refine mix_take1 (v := ?_) rfl rfl rfl rfl (fun w hS => ?_) ?_; rotate_left; (focus (have e1 := hS.cel c1 (by simp); have e3 := hS.cel c3 (by simp); have z1 := hS.cel y1 (by simp); clear hS; go_simp; rfl)); simp only [List.setIfInBounds_toArray, List.set_cons_succ, List.set_cons_zero])
            refine mix_end ?_


            go_wp2_with fail
            go_roundw
            case rel => exact ⟨k + 1, D', by go_num, hlt, by omega, Lib.hid ⟨fp, fx, _, _, HWC.out.same FC, HB.out⟩, HD5, HP5⟩
            case measure => simp [RowKit.intOf]; omega
      · go_wp2_with fail
        go_ret
        obtain ⟨fp9, fx9, p9, q9, hw9, _⟩ := HW.out
        exact ⟨rfl, hw9.js.fr⟩
    · go_wp2_with fail
      go_ret
      obtain ⟨fp9, fx9, p9, q9, hw9, _⟩ := HW.out
      exact ⟨rfl, hw9.js.fr⟩

end Go.Proofs.YtbogljpafpkikaaGreatDoor
