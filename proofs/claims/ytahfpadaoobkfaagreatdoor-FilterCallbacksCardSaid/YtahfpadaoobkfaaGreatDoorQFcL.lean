/-
  FilterCallbacks: what Take answers, and what is decided about a call-back.
-/
import Derived.Test.YtahfpadaoobkfaaGreatDoorQAR
import Derived.Test.YtahfpadaoobkfaaGreatDoorQAT
import Derived.Test.YtahfpadaoobkfaaGreatDoorQAtX
import Derived.Test.YtahfpadaoobkfaaGreatDoorQS37
import Derived.Test.YtahfpadaoobkfaaGreatDoorQS31
import Derived.Test.YtahfpadaoobkfaaGreatDoorQS33
namespace Go.Proofs.YtahfpadaoobkfaaGreatDoor
open Go.RowKit Go.Lib

/-- What Take answers, with all keys, of an attestation of one hand that says nothing. -/
theorem cbTake (vK : Value) (d : Dl) (v : Value) (s : ByteArray) (vl : Value) (l : List Rs) (w : World) (hR : RndAt w) (hK : Sl w vK 8 (allK.map Value.string)) (hd : dlB d = true) (hrow : w.ownsRow 0 60 3 v 1 (hdC ⟨0, 0, s⟩)) (hs : s.size = 32) (hl : Sl w vl l.length (l.flatMap rsC)) (h40 : l.length ≤ 40) (hrs : l.all rsB = true) :
    Calls Tryz.prog 12 #[vK, atV d v, .int .i64 0, vl] w fun e w' => e = .returned (.tuple #[caV ⟨d.caller, d.called, d.at_, (chkM allK ⟨d, [⟨0, 0, s⟩]⟩).1, 0, l.any (backB d)⟩, .int .i64 0]) ∧ Fr [] w w' := by
  have hf : fmB ⟨d, [⟨0, 0, s⟩]⟩ = true := fmB_snoc (l := []) hd (by simp) rfl ⟨0, 0, s⟩ (by constructor <;> simp) (fun y hy => by cases hy) (by constructor <;> simp) hs
  have hkb : keysB allK = true := by
    unfold keysB
    rw [allK_len, Bool.and_eq_true, List.all_eq_true]
    exact ⟨rfl, fun k hk => by rw [allK_size hk]; rfl⟩
  refine fTake_ok vK allK d v [⟨0, 0, s⟩] 0 vl l w hR (by rw [allK_len]; exact hK) (fun k hk => by rw [allK_size hk]; omega) (by simpa using hrow) (fun x hx => by rw [List.mem_singleton] at hx; subst hx; rw [hs]; omega) hl ?_
  unfold takeOk
  rw [hf, hkb, hrs, decide_eq_true h40]
  rfl
theorem cb_lev (d : Dl) (s : ByteArray) (hd : dlB d = true) (hs : s.size = 32) : 0 ≤ (chkM allK ⟨d, [⟨0, 0, s⟩]⟩).1 ∧ (chkM allK ⟨d, [⟨0, 0, s⟩]⟩).1 ≤ 3 := by
  have hf : fmB ⟨d, [⟨0, 0, s⟩]⟩ = true := fmB_snoc (l := []) hd (by simp) rfl ⟨0, 0, s⟩ (by constructor <;> simp) (fun y hy => by cases hy) (by constructor <;> simp) hs
  have h := chkM_first hf allK
  exact ⟨h.1, Int.le_trans h.2.1 h.2.2⟩
theorem cb_own (d : Dl) (n c : Int) : backB d ⟨n, c, d.at_⟩ = (decide (n = d.called) && decide (c = d.caller)) := by
  unfold backB isInB
  simp
theorem cb_in (d : Dl) (t : Int) : backB d ⟨d.called, d.caller, t⟩ = (decide (t ≤ d.at_) && decide (d.at_ - t < 86400)) := by
  unfold backB isInB
  simp only [decide_true, Bool.true_and]
  rw [show decide (0 ≤ d.at_ - t) = decide (t ≤ d.at_) from by rw [decide_eq_decide]; omega, show decide (d.at_ - t ≤ 86399) = decide (d.at_ - t < 86400) from by rw [decide_eq_decide]; omega]
/-- What is decided about a call-back. -/
theorem cbDecide (v : Value) (ys : List RuV) (f : Fl) (vc vp vf : Value) (zs : List ClV) (b : Rb) (c : Ca) (w : World) (h : FlAt w v ys f) (hb : RbAt w vc vp vf zs b) (hc : CaOk c) (hg : goodF f b c = true) (hk : c.back = true) :
    Calls Tryz.prog 17 #[flV v f.dfl, rbV vc vp vf, caV c] w fun e w' => Fr [] w w' ∧ ∃ aF pF aP pP, e = .returned (.tuple #[.agg #[.int .i64 1, .int .i64 (-2), .slice aF 0 pF, .slice aP 0 pP], .int .i64 0]) ∧ IntsAt w' (.slice aF 0 pF) [] ∧ PrAt w' (.slice aP 0 pP) [] := by
  refine (fDecide_c v ys f vc vp vf zs b c w h hb hc).mono ?_
  rintro e w' ⟨f1, ⟨h0, _⟩ | ⟨_, vF, vP, zp, rfl, hd⟩⟩
  · rw [hg] at h0; cases h0
  have hD : decF f b c = ⟨1, -2, [], []⟩ := by unfold decF; rw [hk]; rfl
  rw [hD] at hd ⊢
  have hz : zp = [] := by simpa using hd.eq
  subst hz
  have h1 := sl_of_row hd.fails
  have h2 := hd.own.at_
  obtain ⟨aF, pF, rfl⟩ := h1.val
  obtain ⟨aP, pP, rfl⟩ := h2.sl.val
  exact ⟨f1, aF, pF, aP, pP, rfl, h1, h2⟩
/-- What Check says of a decision about a call-back. -/
theorem cbCheck (v : Value) (ys : List RuV) (f : Fl) (vc vp vf : Value) (zs : List ClV) (b : Rb) (c : Ca) (x r : Int) (aF aP : Option Addr) (pF pP : Nat) (w : World) (h : FlAt w v ys f) (hb : RbAt w vc vp vf zs b) (hc : CaOk c) (hg : goodF f b c = true) (hk : c.back = true) (hF : IntsAt w (.slice aF 0 pF) []) (hP : PrAt w (.slice aP 0 pP) []) :
    Calls Tryz.prog 20 #[flV v f.dfl, rbV vc vp vf, caV c, .agg #[.int .i64 x, .int .i64 r, .slice aF 0 pF, .slice aP 0 pP]] w fun e w' => e = .returned (.bool (decide (r = -2) && decide (x = 1))) ∧ Fr [] w w' := by
  refine (fCheck_c v ys f vc vp vf zs b c (.slice aF 0 pF) (.slice aP 0 pP) ⟨x, r, [], []⟩ [] w h hb hc hF hP rfl (by simp)).mono ?_
  rintro e w' ⟨rfl, f1⟩
  refine ⟨?_, f1⟩
  rw [hg]
  unfold checkF
  rw [hk]
  simp

end Go.Proofs.YtahfpadaoobkfaaGreatDoor
