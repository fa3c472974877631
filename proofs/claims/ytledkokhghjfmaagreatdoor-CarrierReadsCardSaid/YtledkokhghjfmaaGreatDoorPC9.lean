/-
  carrier: which notices are formed: events.
-/
import Derived.Test.YtledkokhghjfmaaGreatDoorPS05
namespace Go.Proofs.YtledkokhghjfmaaGreatDoor
open Go.RowKit Go.Lib
theorem sl_blk9 {w:World} {b:Nat} {k a r:Int} {e:TypeId} {f:Nat × Nat} (h:w.heap[b]?=some (.cells #[.int .i64 k,.int .i64 a,.int .i64 r] e f)):Sl w (.slice (some ⟨b,0,none⟩) 1 1) 1 ([Ev.mk k a r].flatMap evC) :=
 ⟨_,1,rfl,Nat.le_refl _,by omega,fun _=>⟨b,0,rfl,fun j u hu=>by rw [Nat.zero_add,qd h];simpa [evC] using hu⟩⟩
set_option maxRecDepth 100000 in
set_option maxHeartbeats 4000000 in
theorem formed3_c (s n lk la lh cn cf ct ch ca:Int) (cb:Bool) (ek ea er:Int) (w:World):Calls Tryz.prog 28 #[ntV ⟨s,3,n,lk,la,lh,cn,cf,ct,ch,ca,cb,ek,ea,er⟩] w fun e w'=>e=.returned (.bool (fmN ⟨s,3,n,lk,la,lh,cn,cf,ct,ch,ca,cb,ek,ea,er⟩))∧Fr [] w w':=by
 have C1:=qj fun W=>caIsWithin_c s 0 7 W
 have C2:=qj fun W=>caIsWithin_c n 0 99999999 W
 have CF:=qj fun W v (hv:Sl W v 1 ([Ev.mk ek ea er].flatMap evC))=>caIsClaim_c cn cf ct ch ca cb v [⟨ek,ea,er⟩] W hv (by simp)
 have hfm:fmN ⟨s,3,n,lk,la,lh,cn,cf,ct,ch,ca,cb,ek,ea,er⟩=(inB s 0 7 && inB n 0 99999999 && (line0 ⟨s,3,n,lk,la,lh,cn,cf,ct,ch,ca,cb,ek,ea,er⟩ && decide (cn=n) && decide (ch=0) && !cb && cmB cn cf ct ch ca && evB ca ek ea er)):=rfl
 rw [hfm]
 have hce:line0 ⟨s,3,n,lk,la,lh,cn,cf,ct,ch,ca,cb,ek,ea,er⟩=decide (lk=0∧la=0∧lh=0):=rfl
 rw [hce]
 simp only [evsGo,Bool.and_true] at CF
 generalize inB s 0 7=b1 at *
 generalize inB n 0 99999999=b2 at *
 obtain ⟨b3,hb3⟩:∃ b,(cmB cn cf ct ch ca && evB ca ek ea er)=b:=⟨_,rfl⟩
 rw [Bool.and_assoc _ (cmB cn cf ct ch ca),hb3]
 simp only [hb3] at CF
 obtain ⟨z,hzz⟩:∃ z,decide (lk=0∧la=0∧lh=0)=z:=⟨_,rfl⟩
 rw [hzz]
 have HZ:=qj hzz
 obtain ⟨m,hm⟩:∃ m,(decide (cn=n) && decide (ch=0) && !cb)=m:=⟨_,rfl⟩
 rw [Bool.and_assoc (z && decide (cn=n)),Bool.and_assoc z,← Bool.and_assoc (decide (cn=n)),hm]
 have HM:=qj hm
 clear hfm hce hzz hb3 hm
 have F1:=qj (Fr.alloc [] w (.cells #[.int .i64 s,.int .i64 3,.int .i64 n,.int .i64 lk,.int .i64 la,.int .i64 lh,.int .i64 cn,.int .i64 cf,.int .i64 ct,.int .i64 ch,.int .i64 ca,.bool cb,.int .i64 ek,.int .i64 ea,.int .i64 er] 31))
 go_enter Tryz.func28,Tryz.ntmps28
 go_wp2_with fail
 refine (C1.out _).mono ?_
 rintro e w1 ⟨rfl,rfl⟩
 cases b1 with
 | false =>
  go_wp2_with fail
  go_ret
  exact ⟨by simp,F1.out⟩
 | true =>
  go_wp2_with fail
  refine (C2.out _).mono ?_
  rintro e w1 ⟨rfl,rfl⟩
  cases b2 with
  | false =>
   go_wp2_with fail
   go_ret
   exact ⟨by simp,F1.out⟩
  | true =>
   cases z with
   | true =>
    obtain ⟨rfl,rfl,rfl⟩:=of_decide_eq_true HZ.out
    clear HZ F1
    cases m with
    | true =>
     have hm:=HM.out
     simp only [Bool.and_eq_true,decide_eq_true_eq,Bool.not_eq_true'] at hm
     obtain ⟨⟨rfl,rfl⟩,rfl⟩:=hm
     clear HM
     have hb:=qm ((w.alloc (.cells #[.int .i64 s,.int .i64 3,.int .i64 cn,.int .i64 0,.int .i64 0,.int .i64 0,.int .i64 cn,.int .i64 cf,.int .i64 ct,.int .i64 0,.int .i64 ca,.bool false,.int .i64 ek,.int .i64 ea,.int .i64 er] 31)).alloc (.cells #[.int .i64 0,.int .i64 0,.int .i64 0,.int .i64 0,.int .i64 0,.int .i64 0,.int .i64 0,.int .i64 0,.int .i64 0,.int .i64 0,.int .i64 0,.bool false,.int .i64 0,.int .i64 0,.int .i64 0] 31)) (.cells #[.int .i64 ek,.int .i64 ea,.int .i64 er] 29)
     simp only [World.size_alloc] at hb
     have CF2:=qj (CF.out _ _ (sl_blk9 hb))
     clear CF hb
     go_wp2_with fail
     refine CF2.out.mono ?_
     rintro e w1 ⟨rfl,f1⟩
     have HF:Hid (Fr [] w w1):=qj ((((Fr.alloc _ _ _).trans (Fr.alloc _ _ _)).trans (Fr.alloc _ _ _)).trans f1)
     clear f1
     as_aux_lemma =>
      go_wp2_with fail
      go_ret
      exact ⟨by simp,HF.out⟩
    | false =>
     by_cases e1:cn=n
     ·subst e1
      by_cases e2:ch=0
      ·subst e2
       cases cb with
       | false=>exact absurd HM.out (by simp)
       | true =>
        as_aux_lemma =>
         go_wp2_with fail
         go_ret
         exact ⟨by simp,(Fr.alloc _ _ _).trans (Fr.alloc _ _ _)⟩
      ·have q2:(ch == 0)=false:=beq_eq_false_iff_ne.2 e2
       clear e2
       as_aux_lemma =>
        go_wp2_with fail
        go_ret
        exact ⟨by simp,(Fr.alloc _ _ _).trans (Fr.alloc _ _ _)⟩
     ·have q1:(cn == n)=false:=beq_eq_false_iff_ne.2 e1
      clear e1
      as_aux_lemma =>
       go_wp2_with fail
       go_ret
       exact ⟨by simp,(Fr.alloc _ _ _).trans (Fr.alloc _ _ _)⟩
   | false =>
    have hz:¬ (lk=0∧la=0∧lh=0):=of_decide_eq_false HZ.out
    have HN:=qj hz
    clear HZ hz HM
    by_cases e1:cn=n
    ·subst e1
     by_cases e2:ch=0
     ·subst e2
      cases cb with
      | false =>
       as_aux_lemma =>
        go_wp2_with fail
        all_goals first
         | (exfalso;have hz:=HN.out;clear CF C1 C2 HN F1;simp_all;done)
         | (go_ret;exact ⟨by simp,(Fr.alloc _ _ _).trans (Fr.alloc _ _ _)⟩)
      | true =>
       as_aux_lemma =>
        go_wp2_with fail
        all_goals first
         | (exfalso;have hz:=HN.out;clear CF C1 C2 HN F1;simp_all;done)
         | (go_ret;exact ⟨by simp,(Fr.alloc _ _ _).trans (Fr.alloc _ _ _)⟩)
     ·have q2:(ch == 0)=false:=beq_eq_false_iff_ne.2 e2
      clear e2
      as_aux_lemma =>
       go_wp2_with fail
       all_goals first
        | (exfalso;have hz:=HN.out;clear CF C1 C2 HN F1;simp_all;done)
        | (go_ret;exact ⟨by simp,(Fr.alloc _ _ _).trans (Fr.alloc _ _ _)⟩)
    ·have q1:(cn == n)=false:=beq_eq_false_iff_ne.2 e1
     clear e1
     as_aux_lemma =>
      go_wp2_with fail
      all_goals first
       | (exfalso;have hz:=HN.out;clear CF C1 C2 HN F1;simp_all;done)
       | (go_ret;exact ⟨by simp,(Fr.alloc _ _ _).trans (Fr.alloc _ _ _)⟩)
end Go.Proofs.YtledkokhghjfmaaGreatDoor
