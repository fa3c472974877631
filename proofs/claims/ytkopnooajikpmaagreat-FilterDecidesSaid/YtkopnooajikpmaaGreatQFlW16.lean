/-
  filter: Check.
-/
import Derived.Test.YtkopnooajikpmaaGreatQFlW15
namespace Go.Proofs.YtkopnooajikpmaaGreat
open Go.RowKit Go.Lib

theorem fCheck_c (v : Value) (ys : List RuV) (f : Fl) (vc vp vf : Value) (zsR : List ClV) (b : Rb) (c : Ca) (vF vP : Value) (x : Dn) (zs : List PrV) (w : World) (h : FlAt w v ys f) (hb : RbAt w vc vp vf zsR b) (hc : CaOk c) (hF : IntsAt w vF x.fails) (hz : PrAt w vP zs) (hzx : zs.map (·.l) = x.prfs) (hn : x.fails.length ≤ 1000000 ∧ zs.length ≤ 1000000) :
    Calls Tryz.prog 32 #[flV v f.dfl, rbV vc vp vf, caV c, dnV x.act x.rule vF vP] w (Chk (goodF f b c && checkF f b c x) w) := by
  obtain ⟨ca, cd, at_, lv, fw, bk⟩ := c
  obtain ⟨xa, xr, F, P⟩ := x
  simp only at hF hzx hn
  subst hzx
  obtain ⟨aF, pF, rfl⟩ := hF.val
  obtain ⟨aP, pP, rfl⟩ := hz.sl.val
  cases hg : goodF f b ⟨ca, cd, at_, lv, fw, bk⟩ with
  | false => exact fCheck_bad v ys f vc vp vf zsR b ca cd at_ lv fw bk xa xr aF aP F.length pF zs.length pP w h hb hc hg
  | true =>
    rw [Bool.true_and]
    cases bk with
    | true =>
      have e : checkF f b ⟨ca, cd, at_, lv, fw, true⟩ ⟨xa, xr, F, zs.map (·.l)⟩ = (decide (xr = -2) && decide (xa = 1) && decide (F.length + zs.length = 0)) := by
        unfold checkF
        simp only [if_true, List.length_map]
      rw [e]
      exact fCheck_back v ys f vc vp vf zsR b ca cd at_ lv fw true xa xr aF aP F.length pF zs.length pP w h hb hc hg rfl hn
    | false =>
      have hrl : f.rus.length = ys.length := by rw [h.eq, List.length_map]
      by_cases hr1 : xr = -1
      · by_cases hbad : F.length = ys.length ∧ xa = f.dfl
        · exact fCheck_main v ys f vc vp vf zsR b ca cd at_ lv fw false xa xr F aF aP pF pP zs w h hb hc hg rfl (.inl hr1) (by rw [if_pos hr1, hbad.1]) (by rw [if_pos hr1, hbad.2]) hF hz
        · have e : checkF f b ⟨ca, cd, at_, lv, fw, false⟩ ⟨xa, xr, F, zs.map (·.l)⟩ = false := by
            unfold checkF
            simp only [Bool.false_eq_true, if_false, hr1, if_true]
            by_cases h1 : F.length = f.rus.length
            · have h2 : xa ≠ f.dfl := fun e => hbad ⟨by rw [h1, hrl], e⟩
              simp [h2]
            · simp [h1]
          rw [e]
          exact fCheck_off0 v ys f vc vp vf zsR b ca cd at_ lv fw false xa xr aF aP F.length pF zs.length pP w h hb hc hg rfl hr1 (fun h1 h2 => hbad ⟨h1, h2⟩)
      · cases hi : isInB xr 0 ((ys.length : Int) - 1) with
        | false =>
          have e : checkF f b ⟨ca, cd, at_, lv, fw, false⟩ ⟨xa, xr, F, zs.map (·.l)⟩ = false := by
            unfold checkF
            simp only [Bool.false_eq_true, if_false, hr1]
            rw [hrl, hi]
            rfl
          rw [e]
          exact fCheck_none v ys f vc vp vf zsR b ca cd at_ lv fw false xa xr aF aP F.length pF zs.length pP w h hb hc hg rfl hr1 hi
        | true =>
          have hb2 := isInB_iff.1 hi
          obtain ⟨m, rfl⟩ := Int.eq_ofNat_of_zero_le hb2.1
          have hm : m < ys.length := by omega
          have hga : (f.rus.getD m default).act = ys[m].x.act := by
            rw [h.eq, List.getD_eq_getElem?_getD, List.getElem?_map, List.getElem?_eq_getElem hm]; rfl
          by_cases hbad : F.length = m ∧ xa = ys[m].x.act
          · exact fCheck_main v ys f vc vp vf zsR b ca cd at_ lv fw false xa m F aF aP pF pP zs w h hb hc hg rfl (.inr ⟨m, rfl, hm⟩) (by rw [if_neg hr1, hbad.1]) (by rw [if_neg hr1, Int.toNat_natCast, hga, hbad.2]) hF hz
          · have e : checkF f b ⟨ca, cd, at_, lv, fw, false⟩ ⟨xa, m, F, zs.map (·.l)⟩ = false := by
              unfold checkF
              simp only [Bool.false_eq_true, if_false, hr1]
              rw [Int.toNat_natCast, hga]
              by_cases h1 : F.length = m
              · have h2 : xa ≠ ys[m].x.act := fun e => hbad ⟨h1, e⟩
                simp [h2]
              · have h1' : ¬ ((F.length : Int) = m) := by omega
                rw [decide_eq_false h1', Bool.and_false, Bool.false_and, Bool.false_and]
            rw [e]
            exact fCheck_off1 v ys f vc vp vf zsR b ca cd at_ lv fw false xa m aF aP F.length pF zs.length pP w h hb hc hg rfl m rfl hm (fun h1 h2 => hbad ⟨h1, h2⟩)

end Go.Proofs.YtkopnooajikpmaaGreat
