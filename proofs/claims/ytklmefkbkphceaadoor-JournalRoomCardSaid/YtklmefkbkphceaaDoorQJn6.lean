/-
  journal: first, writing.
-/
import Derived.Test.YtklmefkbkphceaaDoorQJn5
import Derived.Test.YtklmefkbkphceaaDoorQDW
namespace Go.Proofs.YtklmefkbkphceaaDoor
open Go.RowKit Go.Lib

/-- A function as a value, with what is bound. -/
structure Fv where
  k : FuncId
  pre : Array Value
  cap : Array Value
def Fv.val (f : Fv) : Value := .func (.func f.k) f.pre f.cap
/-- The function has a body. -/
def Ent (k : FuncId) : Prop := ∀ (args : Array Value) (w : World), (callFunc k args).run Tryd.prog w = .ok (.enter k args) w
/-- Calls are made up to the first error. -/
def RunF (S : List Nat) (w : World) : List Fv → World → (Int → World → Prop) → Prop
  | [], wr, R => R 0 wr
  | f :: fs, wr, R => Ent f.k ∧ Calls Tryd.prog f.k (f.pre ++ f.cap) wr fun e w' => ∃ n : Int, e = .returned (.int .i64 n) ∧ Fr S w w' ∧ if n = 0 then RunF S w fs w' R else R n w'

theorem runF_drop (S : List Nat) (w : World) (fs : List Fv) (k : Nat) (hk : k < fs.length) (wr : World) (R : Int → World → Prop) (h : RunF S w (fs.drop k) wr R) :
    Ent fs[k].k ∧ Calls Tryd.prog fs[k].k (fs[k].pre ++ fs[k].cap) wr fun e w' => ∃ n : Int, e = .returned (.int .i64 n) ∧ Fr S w w' ∧ if n = 0 then RunF S w (fs.drop (k + 1)) w' R else R n w' := by
  rw [List.drop_eq_getElem_cons hk] at h
  exact h

set_option maxRecDepth 100000 in
set_option maxHeartbeats 4000000 in
theorem first_c (S : List Nat) (fs : List Fv) (ad : Option Addr) (cap : Nat) (w : World) (R : Int → World → Prop) (hs : Sl w (.slice ad fs.length cap) fs.length (fs.map Fv.val)) (hg : ∀ g, (Value.slice ad fs.length cap).ownBlock = some g → g ∉ S) (hr : RunF S w fs w R) :
    Calls Tryd.prog 24 #[.slice ad fs.length cap] w fun e w' => ∃ n : Int, e = .returned (.int .i64 n) ∧ R n w' := by
  have hlen := hs.len
  have HS := Lib.hid hs; have HG := Lib.hid hg; have HR := Lib.hid hr
  clear hs hg hr
  go_enter Tryd.func24, Tryd.ntmps24
  go_wp2_with fail
  go_loopw [8] (fun i wr => ∃ (k : Nat), i = .int .i64 k ∧ k ≤ fs.length ∧ Hid (RunF S w (fs.drop k) wr R) ∧ Hid (Fr S w wr)) (fun i _ => fs.length - (RowKit.intOf i).toNat)
  case atStart => exact ⟨0, rfl, Nat.zero_le _, HR, Lib.hid (Fr.refl _ _)⟩
  case round =>
    obtain ⟨k, rfl, hk, HRk, HF⟩ := hrel
    by_cases hlt : k < fs.length
    · obtain ⟨b, off, rfl, hc⟩ := (HS.out.fr HF.out HG.out).at_ (by omega)
      have ck : wr.cell? ⟨b, off + k, none⟩ = some (.func (.func fs[k].k) fs[k].pre fs[k].cap) := hc k _ (by simp [hlt]; rfl)
      have hE := (runF_drop S w fs k hlt wr R HRk.out).1
      have HC := Lib.hid (runF_drop S w fs k hlt wr R HRk.out).2
      clear hc HRk
      generalize hf : fs[k] = f at *
      obtain ⟨fk, fp, fc⟩ := f
      simp only at ck HC hE
      unfold Ent at hE
      clear hf
      go_wp2_with fail
      refine HC.out.mono ?_
      rintro e w2 ⟨n, rfl, hf2, hn⟩
      have HF2 := Lib.hid hf2
      clear hE hf2 HC
      by_cases h0 : n = 0
      · subst h0
        rw [if_pos rfl] at hn
        have HN := Lib.hid hn
        clear hn
        go_wp2_with fail
        go_roundw
        case rel => exact ⟨k + 1, by go_num, hlt, HN, HF2⟩
        case measure => simp [RowKit.intOf]; omega
      · rw [if_neg h0] at hn
        have HN := Lib.hid hn
        have hb : (n != 0) = true := by simpa using h0
        clear hn h0
        go_wp2_with fail
        go_ret
        exact ⟨n, rfl, HN.out⟩
    · have he : k = fs.length := by omega
      subst he
      have HE := Lib.hid HRk.out
      go_wp2_with fail
      go_ret
      refine ⟨0, rfl, ?_⟩
      have h := HRk.out
      rw [List.drop_length] at h
      exact h

end Go.Proofs.YtklmefkbkphceaaDoor
