/-
  carrier: which notices are formed: claims, events, other kinds.
-/
import Derived.Test.YtledkokhghjfmaaGreatDoorPS05
namespace Go.Proofs.YtledkokhghjfmaaGreatDoor
open Go.RowKit Go.Lib
set_option maxRecDepth 100000 in
set_option maxHeartbeats 4000000 in
theorem formed2_c (s n lk la lh cn cf ct ch ca:Int) (cb:Bool) (ek ea er:Int) (w:World):Calls Tryz.prog 28 #[ntV ⟨s,2,n,lk,la,lh,cn,cf,ct,ch,ca,cb,ek,ea,er⟩] w fun e w'=>e=.returned (.bool (fmN ⟨s,2,n,lk,la,lh,cn,cf,ct,ch,ca,cb,ek,ea,er⟩))∧Fr [] w w':=by
 have C1:=qj fun W=>caIsWithin_c s 0 7 W
 have C2:=qj fun W=>caIsWithin_c n 0 99999999 W
 have CF:=qj fun W=>caIsClaim_c cn cf ct ch ca cb (.slice none 0 0) [] W (Sl.nil _) (by simp)
 have hfm:fmN ⟨s,2,n,lk,la,lh,cn,cf,ct,ch,ca,cb,ek,ea,er⟩=(inB s 0 7 && inB n 0 99999999 && (line0 ⟨s,2,n,lk,la,lh,cn,cf,ct,ch,ca,cb,ek,ea,er⟩ && event0 ⟨s,2,n,lk,la,lh,cn,cf,ct,ch,ca,cb,ek,ea,er⟩ && decide (cn=n) && cmB cn cf ct ch ca)):=rfl
 rw [hfm]
 have hce:(line0 ⟨s,2,n,lk,la,lh,cn,cf,ct,ch,ca,cb,ek,ea,er⟩ && event0 ⟨s,2,n,lk,la,lh,cn,cf,ct,ch,ca,cb,ek,ea,er⟩)=decide (lk=0∧la=0∧lh=0∧ek=0∧ea=0∧er=0):=by
  unfold line0 event0;rw [Bool.eq_iff_iff];simp [and_assoc]
 rw [hce]
 simp only [evsGo,Bool.and_true] at CF
 generalize inB s 0 7=b1 at *
 generalize inB n 0 99999999=b2 at *
 generalize cmB cn cf ct ch ca=b3 at *
 obtain ⟨z,hzz⟩:∃ z,decide (lk=0∧la=0∧lh=0∧ek=0∧ea=0∧er=0)=z:=⟨_,rfl⟩
 rw [hzz]
 have HZ:=qj hzz
 clear hfm hce hzz
 have F1:=qj (Fr.alloc [] w (.cells #[.int .i64 s,.int .i64 2,.int .i64 n,.int .i64 lk,.int .i64 la,.int .i64 lh,.int .i64 cn,.int .i64 cf,.int .i64 ct,.int .i64 ch,.int .i64 ca,.bool cb,.int .i64 ek,.int .i64 ea,.int .i64 er] 31))
 go_enter Tryz.func28,Tryz.ntmps28
 go_wp2_with fail
 refine (C1.out _).mono ?_
 rintro e w1 ⟨rfl,rfl⟩
 cases b1 with
 | false =>
  go_wp2_with fail
  go_ret
  exact ⟨by simp,F1.out⟩
 | true =>
  go_wp2_with fail
  refine (C2.out _).mono ?_
  rintro e w1 ⟨rfl,rfl⟩
  cases b2 with
  | false =>
   go_wp2_with fail
   go_ret
   exact ⟨by simp,F1.out⟩
  | true =>
   cases z with
   | true =>
    obtain ⟨rfl,rfl,rfl,rfl,rfl,rfl⟩:=of_decide_eq_true HZ.out
    clear HZ F1
    by_cases e4:cn=n
    ·subst e4
     go_wp2_with fail
     refine (CF.out _).mono ?_
     rintro e w1 ⟨rfl,f1⟩
     have HF:Hid (Fr [] w w1):=qj (((Fr.alloc _ _ _).trans (Fr.alloc _ _ _)).trans f1)
     clear f1
     go_wp2_with fail
     go_ret
     exact ⟨by simp,HF.out⟩
    ·have q4:(cn == n)=false:=beq_eq_false_iff_ne.2 e4
     have h4:decide (cn=n)=false:=decide_eq_false e4
     clear e4
     go_wp2_with fail
     go_ret
     exact ⟨by rw [h4];simp,(Fr.alloc _ _ _).trans (Fr.alloc _ _ _)⟩
   | false =>
    have hz:¬ (lk=0∧la=0∧lh=0∧ek=0∧ea=0∧er=0):=of_decide_eq_false HZ.out
    have HN:=qj hz
    clear HZ hz
    go_wp2_with fail
    all_goals first
     | (exfalso;have hz:=HN.out;clear CF C1 C2 HN F1;simp_all;done)
     | (go_ret;exact ⟨by simp,(Fr.alloc _ _ _).trans (Fr.alloc _ _ _)⟩)
set_option maxRecDepth 100000 in
set_option maxHeartbeats 4000000 in
theorem formed0_c (s k n lk la lh cn cf ct ch ca:Int) (cb:Bool) (ek ea er:Int) (h1:k≠1) (h2:k≠2) (h3:k≠3) (w:World):Calls Tryz.prog 28 #[ntV ⟨s,k,n,lk,la,lh,cn,cf,ct,ch,ca,cb,ek,ea,er⟩] w fun e w'=>e=.returned (.bool (fmN ⟨s,k,n,lk,la,lh,cn,cf,ct,ch,ca,cb,ek,ea,er⟩))∧Fr [] w w':=by
 have C1:=qj fun W=>caIsWithin_c s 0 7 W
 have C2:=qj fun W=>caIsWithin_c n 0 99999999 W
 have hfm:fmN ⟨s,k,n,lk,la,lh,cn,cf,ct,ch,ca,cb,ek,ea,er⟩=false:=by
  unfold fmN;rw [if_neg h1,if_neg h2,if_neg h3,Bool.and_false]
 rw [hfm]
 have q1:(k == 1)=false:=beq_eq_false_iff_ne.2 h1
 have q2:(k == 2)=false:=beq_eq_false_iff_ne.2 h2
 have q3:(k == 3)=false:=beq_eq_false_iff_ne.2 h3
 generalize inB s 0 7=b1 at *
 generalize inB n 0 99999999=b2 at *
 clear hfm h1 h2 h3
 have F1:=qj (Fr.alloc [] w (.cells #[.int .i64 s,.int .i64 k,.int .i64 n,.int .i64 lk,.int .i64 la,.int .i64 lh,.int .i64 cn,.int .i64 cf,.int .i64 ct,.int .i64 ch,.int .i64 ca,.bool cb,.int .i64 ek,.int .i64 ea,.int .i64 er] 31))
 go_enter Tryz.func28,Tryz.ntmps28
 go_wp2_with fail
 refine (C1.out _).mono ?_
 rintro e w1 ⟨rfl,rfl⟩
 cases b1 with
 | false =>
  go_wp2_with fail
  go_ret
  exact ⟨rfl,F1.out⟩
 | true =>
  go_wp2_with fail
  refine (C2.out _).mono ?_
  rintro e w1 ⟨rfl,rfl⟩
  cases b2 with
  | false =>
   go_wp2_with fail
   go_ret
   exact ⟨rfl,F1.out⟩
  | true =>
   go_wp2_with fail
   go_ret
   exact ⟨rfl,(Fr.alloc _ _ _).trans (Fr.alloc _ _ _)⟩
end Go.Proofs.YtledkokhghjfmaaGreatDoor
