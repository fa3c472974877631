/-
  chain.moments, for a chain with one port that takes force, or none that does.
-/
import Derived.Test.YtledkokhghjfmaaGreatDoorPN08
import Derived.Test.YtledkokhghjfmaaGreatDoorPN05
import Derived.Test.YtledkokhghjfmaaGreatDoorPS03
import Derived.Test.YtledkokhghjfmaaGreatDoorPS21
import Derived.Test.YtledkokhghjfmaaGreatDoorPN02
import Derived.Test.YtledkokhghjfmaaGreatDoorPS10
namespace Go.Proofs.YtledkokhghjfmaaGreatDoor
section
open Go.RowKit Go.Shelf Go.Lib
attribute [local go_sem] Oper.semAt_some
theorem KpU.cel {S:List Nat} {A B:World} (hk:KpU S A B) {b i:Nat} {u:Value} (hq:A.cell? ⟨b,i,none⟩=some u) (hb:b∉S):B.cell? ⟨b,i,none⟩=some u:=by
 unfold World.cell? at hq ⊢
 cases hx:A.heap[b]? with
 | none=>simp [hx] at hq
 | some o =>
  cases o with
  | cells c e f=>simp only [hx] at hq;simp only [hk.block b _ hb hx (fun r=>by simp)];exact hq
  | _=>simp [hx] at hq
def okM (T:List Hp) (tz:Int) (pre:List Mo):Prop:=∃ a s,T=[⟨a,0,false⟩]∧pre=[((a,0,1,tz),s)]
def finM (T:List Hp) (tz:Int) (ys:List Mo):Prop:=(T=[]∧ys=[])∨okM T tz ys
structure MoOk (c:Ch) (q:Po):Prop where
 ports:c.ports=[q]
 ok:ChOk c
 sts:stsOk c.rl q.b (1,q.a) q.evs
 hap:hapP c.rl 0 c.ports=[]∨∃ a,hapP c.rl 0 c.ports=[⟨a,0,false⟩]∧0≤a∧c.first=q.f∧(lnAt c.life (kAt c.life (min a 10000000))).st=1∧(lnAt c.life (kAt c.life (min a 10000000))).ho=q.h
set_option maxRecDepth 100000 in
theorem chMoments_c (c:Ch) (lv pv:Value) (w:World) (hl:∃ a n k,lv=.slice a n k) (hp:∃ a n k,pv=.slice a n k):Calls Tryz.prog 105 #[chV c lv pv] w fun e w'=>e=.returned (.func (.func 155) #[] #[.pointer (some ⟨w.heap.size,0,none⟩)])∧w'=w.alloc (.cells (chC c.num c.first c.ra c.rc c.rs c.rr lv pv).toArray 66):=by
 obtain ⟨la,ln,lc,rfl⟩:=hl
 obtain ⟨pa,pn,pc,rfl⟩:=hp
 obtain ⟨num,first,ra,rc,rs,rr,life,ports⟩:=c
 dsimp only [chV]
 go_enter Tryz.func105,Tryz.ntmps105
 go_wp2_with fail
 go_ret
 exact ⟨rfl,rfl⟩
set_option maxRecDepth 100000 in
set_option maxHeartbeats 8000000 in
theorem moments1_seq (m:Nat) (c:Ch) (q:Po) (lv pv:Value) (ps:List Pv) (w0 W:World) (hin:ChIn w0 W c lv pv ps) (hok:MoOk c q) (cx:Nat) (hcx:W.heap[cx]?=some (.cells (chC c.num c.first c.ra c.rc c.rs c.rr lv pv).toArray 66 (0,0))) :
  SeqU m 155 #[.pointer (some ⟨cx,0,none⟩)] (fun x:Mo=>#[moV x]) ([cx]++pv.ownBlock.toList) (okM (hapP c.rl 0 c.ports) q.t) (finM (hapP c.rl 0 c.ports) q.t) W:=by
 intro l J Jx S0 hJ hY h0 hS0
 obtain ⟨la,lc,rfl⟩:=hin.life.val
 obtain ⟨pa,pc,rfl⟩:=hin.ports.row.val
 obtain ⟨p,rfl⟩:∃ p,ps=[p]:=by
  have h1:ps.length=1:=by have:=congrArg List.length hin.eq;simpa [hok.ports] using this
  match ps,h1 with
  | [p],_=>exact ⟨p,rfl⟩
 have hpq:p.p=q:=by have:=hin.eq;simpa [hok.ports] using this
 obtain ⟨T,hT⟩:∃ T,hapP c.rl 0 c.ports=T:=⟨_,rfl⟩
 have hT1:T.length≤1:=by
  rcases hok.hap with h | ⟨a,h,_⟩
  ·rw [← hT,h];simp
  ·rw [← hT,h];simp
 have CH:=qj fun W2 (hf:Fr [] W W2)=>happ_c c (.slice la c.life.length lc) (.slice pa [p].length pc) [p] w0 W2 ⟨hin.life.same hf,hin.ports.fr hf (by simp),hin.eq⟩ hok.ok (fun x hx=>by rw [hok.ports] at hx;simp at hx;subst hx;exact hok.sts) (by rw [hT];exact hT1)
 have CL:=qj fun t (ht:inB t 0 10000000=true) W2 (hf:Fr [] W W2)=>LFAt_c la lc c.life t W2 hok.ok.life (hin.life.sl.same hf) (fun g hg=>Nat.lt_of_lt_of_le (hin.life.lt g hg) hf.size) ht
 have HPR:Hid (∃ pb po,pa=some ⟨pb,po,none⟩∧∀ j u,j < 7→(poX p)[j]?=some u→W.cell? ⟨pb,po+j,none⟩=some u):=qj (by
  obtain ⟨pb,po,ha,hc⟩:=hin.ports.row.sl.at_ (by simp)
  exact ⟨pb,po,ha,fun j u hj hu=>hc j u (by simp only [List.flatMap_cons,List.flatMap_nil,List.append_nil];exact hu)⟩)
 obtain ⟨pb,po,rfl,hpc⟩:=HPR.out
 have HK:=qj hok.hap
 rw [hT] at HK CH
 have q1:=hpc 1 _ (by omega) rfl;have q0:=hpc 0 _ (by omega) rfl;have q2:=hpc 2 _ (by omega) rfl;have q3:=hpc 3 _ (by omega) rfl;have q4:=hpc 4 _ (by omega) rfl;have q5:=hpc 5 _ (by omega) rfl
 rw [hpq] at q0 q1 q2 q3 q4 q5
 have HQ:=qj (And.intro q0 (And.intro q1 (And.intro q2 (And.intro q3 (And.intro q4 q5)))))
 have HJ:=qj hJ;have HY:=qj hY;have HS0:=qj hS0;have HJ0:=qj h0
 have HCX:Hid (W.heap[cx]?=some (.cells #[.int .i64 c.num,.int .i64 c.first,.int .i64 c.ra,.int .i64 c.rc,.int .i64 c.rs,.int .i64 c.rr,.slice la c.life.length lc,.slice (some ⟨pb,po,none⟩) 1 pc] 66 (0,0))):=qj hcx
 have hpl:pb < W.heap.size:=hin.ports.row.lt pb rfl
 have cxl:=blk_lt hcx
 rw [hT] at HY ⊢
 clear hJ hY hS0 h0 hcx hin hok hT hpc q0 q1 q2 q3 q4 q5 hpq HPR
 obtain ⟨num,first,ra,rc,rs,rr,life,ports⟩:=c
 simp only [chV,List.length_cons,List.length_nil,Nat.zero_add] at *
 obtain ⟨qn,qf,qt,qh,qa,qb,qe⟩:=q
 simp only at *
 generalize life.length=nl at *
 refine callsIn_of_wp Tryz.func155 rfl trivial ?_ rfl
 simp only [Tryz.ntmps155,List.size_toArray,List.length_cons,List.length_nil,Nat.reduceAdd,Nat.reduceSub,Array.replicate_succ,Array.replicate_zero,List.push_toArray,List.append_toArray,List.nil_append,List.cons_append]
 have A2:=alloc2m W (.cells #[.func (.yield l) #[] #[]] 252) (.cells #[.slice none 0 0] 83)
 obtain ⟨W2,hw2⟩:∃ W2,(W.alloc (.cells #[.func (.yield l) #[] #[]] 252)).alloc (.cells #[.slice none 0 0] 83)=W2:=⟨_,rfl⟩
 rw [hw2] at A2
 obtain ⟨by0,bf0,f2,hz2⟩:=A2
 have x0:W2.cell? ⟨cx,0,none⟩=some (.int .i64 num):=qd (f2.keep HCX.out (by simp)) 0
 have x1:W2.cell? ⟨cx,1,none⟩=some (.int .i64 first):=qd (f2.keep HCX.out (by simp)) 1
 have x2:W2.cell? ⟨cx,2,none⟩=some (.int .i64 ra):=qd (f2.keep HCX.out (by simp)) 2
 have x3:W2.cell? ⟨cx,3,none⟩=some (.int .i64 rc):=qd (f2.keep HCX.out (by simp)) 3
 have x4:W2.cell? ⟨cx,4,none⟩=some (.int .i64 rs):=qd (f2.keep HCX.out (by simp)) 4
 have x5:W2.cell? ⟨cx,5,none⟩=some (.int .i64 rr):=qd (f2.keep HCX.out (by simp)) 5
 have x6:W2.cell? ⟨cx,6,none⟩=some (.slice la nl lc):=qd (f2.keep HCX.out (by simp)) 6
 have x7:W2.cell? ⟨cx,7,none⟩=some (.slice (some ⟨pb,po,none⟩) 1 pc):=qd (f2.keep HCX.out (by simp)) 7
 have HBY:=qj by0;have HBF:=qj bf0;have HF2:=qj f2;have HZ2:=qj hz2
 clear by0 bf0 f2 hz2
 gi_wp2
 refine ⟨trivial,fun hh=>(by cases hh),?_⟩
 refine (callsIn_wide.2 (CH.out _ HF2.out)).mono ?_
 rintro e w3 ⟨v,rfl,hv,f3⟩
 have HV3:=qj hv.sl;have HF3:=qj (HF2.out.trans f3)
 have HBY3:=qj (f3.keep HBY.out (by simp));have HBF3:=qj (f3.keep HBF.out (by simp))
 have HZ3:Hid (W.heap.size+1+1≤w3.heap.size):=qj (by have:=f3.size;have:=HZ2.out;omega)
 have HJ3:=qj (HJ.out _ _ _ _ [] HJ0.out HF3.out (by simp))
 obtain ⟨va,vc,rfl⟩:=hv.val
 clear hv f3 CH HF2 HBY HBF HZ2 HJ0 x0 x1 x2 x3 x4 x5 x6 x7 hw2
 obtain ⟨n,hn⟩:∃ n,T.length=n:=⟨_,rfl⟩
 rw [hn] at HV3 hT1 ⊢
 have HNL:=qj hn
 clear hn
 gi_wp2
 gi_loopw [5,22] (fun cv iv wr=>(iv=.int .i64 0∧cv=.int .i64 first∧Hid (J S0 [] wr)∧Hid (Fr [] W wr)∧Hid (wr.heap[W.heap.size]?=some (.cells #[.func (.yield l) #[] #[]] 252 (0,0)))∧Hid (wr.heap[W.heap.size+1]?=some (.cells #[.slice none 0 0] 83 (0,0)))∧Hid (Sl wr (.slice va n vc) n (T.flatMap hpC))∧Hid (W.heap.size+1+1≤wr.heap.size))∨(iv=.int .i64 1∧cv=.int .i64 qt∧n=1∧Hid (∃ S' ys,finM T qt ys∧J S' ys wr))) (fun _ iv _=>1 - (RowKit.intOf iv).toNat)
 case atStart=>exact .inl ⟨rfl,rfl,HJ3,HF3,HBY3,HBF3,HV3,HZ3⟩
 case round =>
  clear HJ3 HF3 HBY3 HBF3 HV3 HZ3
  rcases hrel with ⟨rfl,rfl,HJ3,HF3,HBY3,HBF3,HV3,HZ3⟩ | ⟨rfl,rfl,hT2,HE⟩
  rotate_left
  ·subst hT2
   gi_wp2
   go_end0
   exact ⟨⟨_,rfl⟩,.inl HE.out⟩
  rcases HK.out with hT0 | ⟨a,hTa,ha0,hfq,hst,hho⟩
  ·have HE:Hid (∃ S' ys,finM T qt ys∧J S' ys wr):=qj ⟨S0,[],.inl ⟨hT0,rfl⟩,HJ3.out⟩
   have hn0:n=0:=by rw [← HNL.out,hT0];rfl
   subst hn0
   clear hT0
   gi_wp2
   go_end0
   exact ⟨⟨_,rfl⟩,.inl HE.out⟩
  ·have HT:=qj hTa
   have HOK:Hid (∀ s,okM T qt ([]++[((a,0,1,qt),s)])):=qj fun s=>⟨a,s,hTa,rfl⟩
   have hv:=HV3.out
   rw [hTa] at hv
   have hTl:n=1:=by rw [← HNL.out,hTa];rfl
   have HTL:=qj hTl
   have hpos:(0:Int) < (n:Int):=by omega
   have hposn:0 < n:=by omega
   clear hTa hTl
   obtain ⟨vb,vo,hva,hvc⟩:=hv.at_ hposn
   have v0:=hvc 0 (.int .i64 a) rfl;have v1:=hvc 1 (.int .i64 0) rfl;have v2:=hvc 2 (.bool false) rfl
   simp only [Nat.add_zero] at v0
   subst hva
   have FA:=qj (Fr.alloc [] wr (.cells #[.int .i64 a,.int .i64 0,.bool false] 256))
   have fb0:World.cell? _ ⟨W.heap.size+1,0,none⟩=some (.slice none 0 0):=qd (FA.out.keep HBF3.out (by simp)) 0
   have FW:=qj (HF3.out.trans FA.out)
   have HBY4:=qj (FA.out.keep HBY3.out (by simp));have HBF4:=qj (FA.out.keep HBF3.out (by simp))
   have BA:=qj (qm wr (.cells #[.int .i64 a,.int .i64 0,.bool false] 256))
   have HZ4:=qj (Nat.le_trans HZ3.out FA.out.size)
   have HJ4:=qj (HJ.out _ _ _ _ [] HJ3.out FA.out (by simp))
   obtain ⟨w4,hw4⟩:∃ w4,wr.alloc (.cells #[.int .i64 a,.int .i64 0,.bool false] 256)=w4:=⟨_,rfl⟩
   rw [hw4] at FW HBY4 HBF4 BA HZ4 HJ4
   have HW4:=qj hw4
   clear hw4
   have CI:=qj fun (x:Int) W'=>indexInt_c (.slice none 0 0) [] x W' (Sl.nil _)
   have hbw:wr.heap.size < w4.heap.size:=blk_lt BA.out
   subst hfq
   clear HJ3 HF3 HBY3 HBF3 HV3 HZ3 FA hv hvc
   gi_wp2
   refine ⟨trivial,fun hh=>(by cases hh),?_⟩
   refine (callsIn_wide.2 (CI.out _ _)).mono ?_
   rintro e w5 ⟨rfl,rfl⟩
   rw [HW4.out]
   clear CI v0 v1 v2 fb0 HW4
   rw [show (idxN (fun k=>(0:Int) == ([]:List Int).getD k 0) ([]:List Int).length)=-1 from rfl]
   have hH:=HQ.out
   have q0:=FW.out.cel hH.1 (by simp);have q1:=FW.out.cel hH.2.1 (by simp);have q2:=FW.out.cel hH.2.2.1 (by simp);have q3:=FW.out.cel hH.2.2.2.1 (by simp);have q4:=FW.out.cel hH.2.2.2.2.1 (by simp);have q5:=FW.out.cel hH.2.2.2.2.2 (by simp)
   have h1:w4.cell? ⟨wr.heap.size,1,none⟩=some (.int .i64 0):=qd BA.out 1
   have c7:w4.cell? ⟨cx,7,none⟩=some (.slice (some ⟨pb,po,none⟩) 1 pc):=qd (FW.out.keep HCX.out (by simp)) 7
   clear hH
   simp only [Nat.add_zero] at q0
   have F5:=qj (Fr.alloc [] w4 (.cells #[.int .i64 qn,.int .i64 first,.int .i64 qt,.int .i64 qh,.int .i64 qa,.bool qb] 27))
   have B5:=qj (qm w4 (.cells #[.int .i64 qn,.int .i64 first,.int .i64 qt,.int .i64 qh,.int .i64 qa,.bool qb] 27))
   obtain ⟨w5,hw5⟩:∃ w5,w4.alloc (.cells #[.int .i64 qn,.int .i64 first,.int .i64 qt,.int .i64 qh,.int .i64 qa,.bool qb] 27)=w5:=⟨_,rfl⟩
   rw [hw5] at F5 B5
   have g0:w5.cell? ⟨wr.heap.size,0,none⟩=some (.int .i64 a):=qd (F5.out.keep BA.out (by simp)) 0
   have g2:w5.cell? ⟨wr.heap.size,2,none⟩=some (.bool false):=qd (F5.out.keep BA.out (by simp)) 2
   have c6:w5.cell? ⟨cx,6,none⟩=some (.slice la nl lc):=qd (F5.out.keep (FW.out.keep HCX.out (by simp)) (by simp)) 6
   gi_wp2
   refine ⟨trivial,fun hh=>(by cases hh),?_⟩
   refine (callsIn_wide.2 (CL.out (min a 10000000) (by rw [inB_iff];omega) _ (FW.out.trans F5.out))).mono ?_
   generalize lnAt life (kAt life (min a 10000000))=z at *
   obtain ⟨zt,zo,zp,zi⟩:=z
   simp only at hst hho
   subst hst
   subst hho
   simp only [lnVv]
   rintro e w6 ⟨rfl,f6⟩
   have F6:=qj ((FW.out.trans F5.out).trans f6)
   have HBF6:=qj (f6.keep (F5.out.keep HBF4.out (by simp)) (by simp));have HBY6:=qj (f6.keep (F5.out.keep HBY4.out (by simp)) (by simp))
   have BA6:=qj (f6.keep (F5.out.keep BA.out (by simp)) (by simp));have B56:=qj (f6.keep B5.out (by simp))
   have HZ6:Hid (W.heap.size+1+1≤w6.heap.size):=qj (by have:=HZ4.out;have:=F5.out.size;have:=f6.size;omega)
   have HJ6:=qj (HJ.out _ _ _ _ [] HJ4.out (F5.out.trans f6) (by simp))
   clear CL f6 F5 B5 BA HBF4 HBY4 HJ4 HZ4 q0 q1 q2 q3 q4 q5 g0 g2 c6 c7 h1 hw5
   have F7:=qj (Fr.alloc [] w6 (.cells #[.int .i64 1,.int .i64 zo,.int .i64 zp,.int .i64 zi] 131))
   have B7:=qj (qm w6 (.cells #[.int .i64 1,.int .i64 zo,.int .i64 zp,.int .i64 zi] 131))
   have k1:World.cell? _ ⟨w4.heap.size,1,none⟩=some (.int .i64 first):=qd (F7.out.keep B56.out (by simp)) 1
   have k3:World.cell? _ ⟨w4.heap.size,3,none⟩=some (.int .i64 zo):=qd (F7.out.keep B56.out (by simp)) 3
   have fb0:World.cell? _ ⟨W.heap.size+1,0,none⟩=some (.slice none 0 0):=qd (F7.out.keep HBF6.out (by simp)) 0
   have h1:World.cell? _ ⟨wr.heap.size,1,none⟩=some (.int .i64 0):=qd (F7.out.keep BA6.out (by simp)) 1
   obtain ⟨i0,hi,hz0,hz1,hz2⟩:=info_parts infoInt1
   gi_wp2_with (gi_at_builtin;refine wpListIn_append_own_at _ rfl _ _ 83 rfl 0 3 i0 _ 1 8 Tryz.underlying83 hi hz0 hz1 hz2 rfl (by decide) (.slice none 0 0) 0 _ rfl (World.ownsRow_nil _ _ _ _) ⟨(w6.alloc (.cells #[.int .i64 1,.int .i64 zo,.int .i64 zp,.int .i64 zi] 131)).heap.size,0,none⟩ 1 1 [.int .i64 0] (by simp;rfl) rfl (fun j u hu=>by rw [add_at,qd (qm _ _)];simpa using hu) (by simp [Value.oneCell']) (by simp only [maxLen];omega) (by omega) (by omega) ?_;intro v' w9 hown hgrow _ hob;have F9:=qj (((F6.out.trans F7.out).trans (Fr.alloc [] _ _)).trans (Fr.grown (fp:=[]) hgrow (fun k hk=>by cases hk)));have F69:=((F7.out.trans (Fr.alloc [] _ _)).trans (Fr.grown (fp:=[]) hgrow (fun k hk=>by cases hk)));obtain ⟨g',cap',hv'⟩:=ownsRow_succ hown;subst hv';have HO:=qj hown;have HGB:Hid (w6.heap.size≤g'):=qj (by (rcases hob with h | h;cases h;simp [Value.ownBlock] at h;omega));have HBF9:=qj (F69.keep HBF6.out (by simp));have HBY9:=qj (F69.keep HBY6.out (by simp));have HBA9:=qj (F69.keep BA6.out (by simp));have HJ9:=qj (HJ.out _ _ _ _ [] HJ6.out F69 (by simp));have HZ9:=qj (Nat.le_trans HZ6.out F69.size);have FS:=Fr.setCell (fp:=[W.heap.size+1]) (p:=⟨W.heap.size+1,0,none⟩) w9 (.slice (some ⟨g',0,none⟩) (0+1) cap') (by simp);have hne1:wr.heap.size≠W.heap.size+1:=(by intro e;have h1:=HBA9.out;have h2:=HBF9.out;rw [e] at h1;rw [h1] at h2;cases h2);have hh0:World.cell? _ ⟨wr.heap.size,0,none⟩=some (.int .i64 a):=qd (FS.keep HBA9.out (by simpa using hne1)) 0;have hh1:World.cell? _ ⟨wr.heap.size,1,none⟩=some (.int .i64 0):=qd (FS.keep HBA9.out (by simpa using hne1)) 1;have f9c:w9.cell? ⟨W.heap.size+1,0,none⟩=some (.slice none 0 0):=qd HBF9.out 0;have f9g:=ql HBF9.out 0;have HFS:=qj FS;clear FS hown hgrow hob F69 fb0 h1 k1 k3)
   have HB10:=qj (qs (i:=0) (.slice (some ⟨g',0,none⟩) 1 cap') HBF9.out)
   have HBY10:=qj (HFS.out.keep HBY9.out (by simp))
   have F10:=qj (F9.out.step HFS.out (fun k hk=>.inr (by simp at hk;omega)))
   have HJ10:=qj (HJ.out _ _ _ _ [W.heap.size+1] HJ9.out HFS.out (by simp;intro hm;have:=(HS0.out _ hm).1;omega))
   have hg9:w9.cell? ⟨g',0,none⟩=some (.int .i64 0):=by
    obtain ⟨b',o',h0,hc⟩:=(sl_of_row HO.out).at_ (by omega)
    cases h0
    exact hc 0 _ rfl
   have hg10:=HFS.out.cel hg9 (by have:=HGB.out;have:=HZ6.out;simp;omega)
   simp only [Nat.zero_add] at hh0 hh1 hg10 F10 HBY10 HJ10
   have hsz:W.heap.size+1+1≤w9.heap.size:=HZ9.out
   obtain ⟨w10,hw10⟩:∃ w10,w9.setCell ⟨W.heap.size+1,0,none⟩ (.slice (some ⟨g',0,none⟩) 1 cap')=w10:=⟨_,rfl⟩
   simp only [hw10] at HB10 HBY10 F10 HJ10 hg10 hh0 hh1 ⊢
   have CT:=qj (turn_in (m - 1) (m - 1) (okM T qt) l cx (W.heap.size+1) W.heap.size g' cap' pb po pc nl 1 la lc num first ra rc rs rr qt a 1 J Jx W.heap.size HJ.out (by omega) HY.out [] HOK.out S0 (fun k hk=>(HS0.out k hk).1) w10 F10.out.size HJ10.out (F10.out.keep HCX.out (by simp)) HB10.out HBY10.out hg10 (F10.out.cel HQ.out.2.2.1 (by simp)))
   clear hg9 f9c f9g hh0 hh1 HBA9 HO
   refine ⟨trivial,fun hh=>(by cases hh),?_⟩
   refine CT.out.mono ?_
   rintro e w11 ⟨s,⟨rfl,S11,hj11,hk11,hs11⟩ | ⟨rfl,hjx⟩⟩
   rotate_left
   ·have HJX:=qj hjx
    clear hjx CT
    gi_wp2
    refine bodyPost_ret (results_none rfl _ _ _) rfl ?_
    exact ⟨⟨_,rfl⟩,.inr ⟨_,HOK.out s,HJX.out⟩⟩
   have HE:Hid (∃ S' ys,finM T qt ys∧J S' ys w11):=qj ⟨S11,_,.inr (HOK.out s),hj11⟩
   have HB11:=qj (hk11.block _ _ (fun hm=>by have:=(HS0.out _ hm).1;omega) HB10.out (fun r=>by simp))
   have hcx0:=fun hm=>(HS0.out cx hm).2 (by simp)
   have hpb0:=fun hm=>(HS0.out pb hm).2 (by simp [Value.ownBlock])
   have HC11:=qj (hk11.block _ _ hcx0 (F10.out.keep HCX.out (by simp)) (fun r=>by simp))
   have HG11:=qj (hk11.cel hg10 (fun hm=>by have:=(HS0.out _ hm).1;have:=HGB.out;have:=HZ6.out;omega))
   have HT11:=qj (hk11.cel (F10.out.cel HQ.out.2.2.1 (by simp)) hpb0)
   have c1:w11.cell? ⟨cx,1,none⟩=some (.int .i64 first):=qd HC11.out 1
   have f0:w11.cell? ⟨W.heap.size+1,0,none⟩=some (.slice (some ⟨g',0,none⟩) 1 cap'):=qd HB11.out 0
   clear hj11 hk11 hs11 CT hcx0 hpb0 hg10 hw10 HB10 HBY10 HJ10 HY HOK HT
   gi_wp2
   clear c1 f0
   refine wpIn_wide.2 ?_
   refine reg_mix (Fr [] w11) [0,1,2,3,4,5,6,7,8,9,10,11] (by kernel_rfl) (by kernel_rfl) (by kernel_rfl) rfl (Fr.drew _ _) ?_
   have FC:Fr [] w11 w11.drew:=Fr.drew _ _
   generalize w11.drew=WC at FC ⊢
   (refine mix_take1 (v:=?_) rfl rfl rfl rfl (fun w hS=>?_) ?_;rotate_left;(focus (have X1:=hS.keep HC11.out (by simp);have c7:=qd X1 7;have X2:=hS.keep HB11.out (by simp);have f0:=qd X2 0;have g0:=hS.cel HG11.out (by simp);have t0:=hS.cel HT11.out (by simp);clear X1 X2;clear hS;go_simp;rfl));simp only [qu,qv,qx])
   (refine mix_take1 (v:=?_) rfl rfl rfl rfl (fun w hS=>?_) ?_;rotate_left;(focus (have X1:=hS.keep HC11.out (by simp);have c7:=qd X1 7;have X2:=hS.keep HB11.out (by simp);have f0:=qd X2 0;have g0:=hS.cel HG11.out (by simp);have t0:=hS.cel HT11.out (by simp);clear X1 X2;clear hS;go_simp;rfl));simp only [qu,qv,qx])
   (refine mix_take1 (v:=?_) rfl rfl rfl rfl (fun w hS=>?_) ?_;rotate_left;(focus (have X1:=hS.keep HC11.out (by simp);have c7:=qd X1 7;have X2:=hS.keep HB11.out (by simp);have f0:=qd X2 0;have g0:=hS.cel HG11.out (by simp);have t0:=hS.cel HT11.out (by simp);clear X1 X2;clear hS;go_simp;rfl));simp only [qu,qv,qx])
   (refine mix_take1 (v:=?_) rfl rfl rfl rfl (fun w hS=>?_) ?_;rotate_left;(focus (have X1:=hS.keep HC11.out (by simp);have c7:=qd X1 7;have X2:=hS.keep HB11.out (by simp);have f0:=qd X2 0;have g0:=hS.cel HG11.out (by simp);have t0:=hS.cel HT11.out (by simp);clear X1 X2;clear hS;go_simp;rfl));simp only [qu,qv,qx])
   (refine mix_take1 (v:=.int .i64 0) rfl rfl rfl rfl (fun w hS=>?_) ?_;(focus (have X1:=hS.keep HC11.out (by simp);have c7:=qd X1 7;have X2:=hS.keep HB11.out (by simp);have f0:=qd X2 0;have g0:=hS.cel HG11.out (by simp);have t0:=hS.cel HT11.out (by simp);clear X1 X2;clear hS;go_simp;try rfl));simp only [qu,qv,qx])
   (refine mix_take1 (v:=.pointer (some ⟨g',0,none⟩)) rfl rfl rfl rfl (fun w hS=>?_) ?_;(focus (have X1:=hS.keep HC11.out (by simp);have c7:=qd X1 7;have X2:=hS.keep HB11.out (by simp);have f0:=qd X2 0;have g0:=hS.cel HG11.out (by simp);have t0:=hS.cel HT11.out (by simp);clear X1 X2;clear hS;go_simp;try rfl));simp only [qu,qv,qx])
   (refine mix_take1 (v:=.int .i64 0) rfl rfl rfl rfl (fun w hS=>?_) ?_;(focus (have X1:=hS.keep HC11.out (by simp);have c7:=qd X1 7;have X2:=hS.keep HB11.out (by simp);have f0:=qd X2 0;have g0:=hS.cel HG11.out (by simp);have t0:=hS.cel HT11.out (by simp);clear X1 X2;clear hS;go_simp;try rfl));simp only [qu,qv,qx])
   (refine mix_take1 (v:=.pointer (some ⟨pb,po,none⟩)) rfl rfl rfl rfl (fun w hS=>?_) ?_;(focus (have X1:=hS.keep HC11.out (by simp);have c7:=qd X1 7;have X2:=hS.keep HB11.out (by simp);have f0:=qd X2 0;have g0:=hS.cel HG11.out (by simp);have t0:=hS.cel HT11.out (by simp);clear X1 X2;clear hS;go_simp;try rfl));simp only [qu,qv,qx])
   (refine mix_take1 (v:=.pointer (some ⟨pb,po,none⟩)) rfl rfl rfl rfl (fun w hS=>?_) ?_;(focus (have X1:=hS.keep HC11.out (by simp);have c7:=qd X1 7;have X2:=hS.keep HB11.out (by simp);have f0:=qd X2 0;have g0:=hS.cel HG11.out (by simp);have t0:=hS.cel HT11.out (by simp);clear X1 X2;clear hS;go_simp;try rfl));simp only [qu,qv,qx])
   (refine mix_take1 (v:=.pointer (some ⟨pb,po+2,none⟩)) rfl rfl rfl rfl (fun w hS=>?_) ?_;(focus (have X1:=hS.keep HC11.out (by simp);have c7:=qd X1 7;have X2:=hS.keep HB11.out (by simp);have f0:=qd X2 0;have g0:=hS.cel HG11.out (by simp);have t0:=hS.cel HT11.out (by simp);clear X1 X2;clear hS;go_simp;try rfl));simp only [qu,qv,qx])
   (refine mix_take1 (v:=.int .i64 qt) rfl rfl rfl rfl (fun w hS=>?_) ?_;(focus (have X1:=hS.keep HC11.out (by simp);have c7:=qd X1 7;have X2:=hS.keep HB11.out (by simp);have f0:=qd X2 0;have g0:=hS.cel HG11.out (by simp);have t0:=hS.cel HT11.out (by simp);clear X1 X2;clear hS;go_simp;try rfl));simp only [qu,qv,qx])
   (refine mix_take1 (v:=.int .i64 qt) rfl rfl rfl rfl (fun w hS=>?_) ?_;(focus (have X1:=hS.keep HC11.out (by simp);have c7:=qd X1 7;have X2:=hS.keep HB11.out (by simp);have f0:=qd X2 0;have g0:=hS.cel HG11.out (by simp);have t0:=hS.cel HT11.out (by simp);clear X1 X2;clear hS;go_simp;try rfl));simp only [qu,qv,qx])
   refine mix_end ?_
   have HE2:Hid (∃ S' ys,finM T qt ys∧J S' ys WC):=qj (by
    obtain ⟨S',ys,h1,h2⟩:=HE.out
    exact ⟨S',ys,h1,HJ.out _ _ _ _ [] h2 FC (by simp)⟩)
   clear FC HE
   gi_wp2
   go_roundw
   case rel=>exact .inr ⟨by go_num,rfl,HTL.out,HE2⟩
   case measure=>simp [RowKit.intOf]
end
section
open Go.RowKit Go.Shelf Go.Lib
attribute [local go_sem] Oper.semAt_some
def resM (c:Ch) (q:Po) (t:Int):Int:=match hapP c.rl 0 c.ports with
 | []=>c.first
 | h :: _=>if h.at_≤t then q.t else c.first
abbrev moC (x:Mo):Array Value:=#[.int .i64 x.1.1,.int .i64 x.1.2.1,.int .i64 x.1.2.2.1,.slice x.2.1 x.2.2.1 x.2.2.2,.int .i64 x.1.2.2.2]
def nowM (first:Int) (pre:List Mo):Mo:=pre.getLast?.getD ((0,0,0,first),(none,0,0))
def AtI (w4:World) (nb:Nat) (first t:Int) (S:List Nat) (pre:List Mo) (W:World):Prop :=
 S=[nb]∧W.heap[nb]?=some (.cells (moC (nowM first pre)) 197 (0,0))∧Fr [nb] w4 W∧∀ x,x∈pre→x.1.1≤t
def AtX (w4:World) (nb:Nat) (first t:Int) (c:Code) (pre:List Mo) (W:World):Prop :=
 c=.exit 0∧∃ p x,pre=p++[x]∧t < x.1.1∧W.heap[nb]?=some (.cells (moC (nowM first p)) 197 (0,0))∧Fr [nb] w4 W
theorem atI_free (w4:World) (nb:Nat) (first t:Int):FreeU w4.heap.size (AtI w4 nb first t):=by
 rintro S s X Y fp ⟨rfl,h1,h2,h3⟩ hf hF
 exact ⟨rfl,hf.keep h1 (fun hm=>(hF _ hm).2 (by simp)),h2.step hf (fun k hk=>.inr (hF k hk).1),h3⟩
theorem atX_free (w4:World) (nb:Nat) (first t:Int) (hn:nb < w4.heap.size) (c:Code):FreeFrom w4.heap.size (AtX w4 nb first t c):=by
 rintro s X Y fp ⟨rfl,p,x,rfl,h0,h1,h2⟩ hf hF
 exact ⟨rfl,p,x,rfl,h0,hf.keep h1 (fun hm=>by have:=hF _ hm;omega),h2.step hf (fun k hk=>.inr (hF k hk))⟩
theorem setMo {w:World} {b:Nat} {ty:TypeId} {c0 c1 c2 c3 c4:Value} (h:w.heap[b]?=some (.cells #[c0,c1,c2,c3,c4] ty (0,0))) (a0 a1 a2 a3 a4:Value) :
  Fr [b] w (((((w.setCell ⟨b,0,none⟩ a0).setCell ⟨b,1,none⟩ a1).setCell ⟨b,2,none⟩ a2).setCell ⟨b,3,none⟩ a3).setCell ⟨b,4,none⟩ a4) ∧
  (((((w.setCell ⟨b,0,none⟩ a0).setCell ⟨b,1,none⟩ a1).setCell ⟨b,2,none⟩ a2).setCell ⟨b,3,none⟩ a3).setCell ⟨b,4,none⟩ a4).heap[b]?=some (.cells #[a0,a1,a2,a3,a4] ty (0,0)):=by
 have f (W:World) (i:Nat) (u:Value):Fr [b] W (W.setCell ⟨b,i,none⟩ u):=Fr.setCell _ _ (by simp)
 exact ⟨((((f _ _ _).trans (f _ _ _)).trans (f _ _ _)).trans (f _ _ _)).trans (f _ _ _),qs (i:=4) a4 (qs (i:=3) a3 (qs (i:=2) a2 (qs (i:=1) a1 (qs (i:=0) a0 h))))⟩
def AtA (V:Value) (n0 nb:Nat) (t first:Int) (fv:Value) (x:Mo) (a':Act) (W:World):Prop:=∃ B,a'={ tmps:=#[V,.int .i64 t,.pointer (some ⟨n0,0,none⟩),.pointer (some ⟨n0+1,0,none⟩),.int .i64 0,.slice none 0 0,.int .i64 0,.pointer (some ⟨nb,0,none⟩),.pointer (some ⟨B,0,none⟩),V,.bool true,.bool false,.bool false,.int .i64 t,.bool true,.bool false,.bool false,.pointer (some ⟨n0,1,none⟩),.int .i64 first,.agg #[.int .i64 0,.int .i64 0,.int .i64 0,.slice none 0 0,.int .i64 first],V,fv,moV x,undef,undef,undef,undef,undef,undef,undef,undef,undef,undef],defers:=[] }∧W.heap[B]?=some (.cells (moC x) 197 (0,0))∧B≠nb
set_option maxRecDepth 100000 in
set_option maxHeartbeats 8000000 in
theorem CHAt_c (c:Ch) (q:Po) (lv pv:Value) (ps:List Pv) (w0 w:World) (hin:ChIn w0 w c lv pv ps) (hok:MoOk c q) (t:Int) (ht:inB t 0 20000000=true) :
  Calls Tryz.prog 60 #[chV c lv pv,.int .i64 t] w fun e w'=>∃ a n k,e=.returned (.tuple #[.int .i64 (resM c q t),.slice a n k,.int .i64 0])∧Fr [] w w':=by
 obtain ⟨la,lc,rfl⟩:=hin.life.val
 obtain ⟨pa,pc,rfl⟩:=hin.ports.row.val
 have CV:=qj fun W2 (hf:Fr [] w W2)=>CHValid_c c (.slice la c.life.length lc) (.slice pa ps.length pc) ps w0 W2 ⟨hin.life.same hf,hin.ports.fr hf (by simp),hin.eq⟩ hok.ok
 have CI:=qj fun (n lo hi:Int) W=>chIsIn_c n lo hi W
 have CM:=qj fun W2=>chMoments_c c (.slice la c.life.length lc) (.slice pa ps.length pc) W2 ⟨_,_,_,rfl⟩ ⟨_,_,_,rfl⟩
 have CS:=qj fun W2 (hf:Fr [] w W2) cx hcx=>moments1_seq 2 c q (.slice la c.life.length lc) (.slice pa ps.length pc) ps w0 W2 ⟨hin.life.same hf,hin.ports.fr hf (by simp),hin.eq⟩ hok cx hcx
 have HPL:Hid (∀ g,(Value.slice pa ps.length pc).ownBlock=some g→g < w.heap.size):=qj fun g hg=>hin.ports.row.lt g hg
 have HR:Hid (∀ ys,finM (hapP c.rl 0 c.ports) q.t ys→(∀ x,x∈ys→x.1.1≤t)→(nowM c.first ys).1.2.2.2=resM c q t):=qj fun ys h1 h2=>by
  unfold resM
  rcases h1 with ⟨h,rfl⟩ | ⟨a,s,h,rfl⟩
  ·rw [h];rfl
  ·rw [h]
   have:=h2 _ (List.mem_singleton.2 rfl)
   simp only at this
   simp only [this,if_true]
   rfl
 have HX:Hid (∀ p x,okM (hapP c.rl 0 c.ports) q.t (p++[x])→t < x.1.1→(nowM c.first p).1.2.2.2=resM c q t):=qj fun p x h1 h2=>by
  obtain ⟨a,s,h,h3⟩:=h1
  have hp:p=[]∧x=((a,0,1,q.t),s):=by
   cases p with
   | nil=>simpa using h3
   | cons y p=>simp at h3
  obtain ⟨rfl,rfl⟩:=hp
  unfold resM
  rw [h]
  simp only at h2
  simp only [show ¬ a≤t by omega,if_false]
  rfl
 generalize resM c q t=R at *
 generalize okM (hapP c.rl 0 c.ports) q.t=okP at *
 generalize finM (hapP c.rl 0 c.ports) q.t=finP at *
 clear hin hok
 obtain ⟨num,first,ra,rc,rs,rr,life,ports⟩:=c
 dsimp only [chV,chC] at *
 generalize life.length=nl at *
 generalize ps.length=pn at *
 have F2:=two_more w (.cells #[.int .i64 num,.int .i64 first,.int .i64 ra,.int .i64 rc,.int .i64 rs,.int .i64 rr,.slice la nl lc,.slice pa pn pc] 66) (.cells #[.int .i64 t] 3)
 obtain ⟨F2,B0,B1⟩:=F2
 have HF2:=qj F2;have HB0:=qj B0;have HB1:=qj B1
 clear F2 B0 B1
 refine (callsIn_wide (n:=3)).1 (callsIn_of_wp_marks Tryz.func60 rfl trivial ?_ rfl)
 simp only [Tryz.ntmps60,List.size_toArray,List.length_cons,List.length_nil,Nat.reduceAdd,Nat.reduceSub,Array.replicate_succ,Array.replicate_zero,List.push_toArray,List.append_toArray,List.nil_append,List.cons_append]
 refine wpIn_wide.2 ?_
 go_wp2_with fail
 refine (CV.out _ HF2.out).mono ?_
 rintro e w3 ⟨rfl,f3⟩
 have HF3:=qj (HF2.out.trans f3);have HC3:=qj (f3.keep HB0.out (by simp));have HT3:=qj (f3.keep HB1.out (by simp))
 have t0:w3.cell? ⟨w.heap.size+1,0,none⟩=some (.int .i64 t):=qd HT3.out 0
 clear CV HF2 HB0 HB1 f3
 go_wp2_with fail
 refine (CI.out _ _ _ _).mono ?_
 rintro e wz ⟨rfl,rfl⟩
 rw [ht]
 have c1:w3.cell? ⟨w.heap.size,1,none⟩=some (.int .i64 first):=qd HC3.out 1
 have F4:=qj (Fr.alloc [] w3 (.cells #[.int .i64 0,.int .i64 0,.int .i64 0,.slice none 0 0,.int .i64 first] 197))
 have B4:=qj (qm w3 (.cells #[.int .i64 0,.int .i64 0,.int .i64 0,.slice none 0 0,.int .i64 first] 197))
 have HC4:=F4.out.keep HC3.out (by simp)
 have c40:=qd HC4 0;have c41:=qd HC4 1;have c42:=qd HC4 2;have c43:=qd HC4 3;have c44:=qd HC4 4;have c45:=qd HC4 5;have c46:=qd HC4 6;have c47:=qd HC4 7
 go_wp2_with fail
 refine (CM.out _).mono ?_
 rintro e w5 ⟨rfl,h5⟩
 have A5:=Fr.alloc [] (w3.alloc (.cells #[.int .i64 0,.int .i64 0,.int .i64 0,.slice none 0 0,.int .i64 first] 197)) (.cells #[.int .i64 num,.int .i64 first,.int .i64 ra,.int .i64 rc,.int .i64 rs,.int .i64 rr,.slice la nl lc,.slice pa pn pc] 66)
 have X5:=qm (w3.alloc (.cells #[.int .i64 0,.int .i64 0,.int .i64 0,.slice none 0 0,.int .i64 first] 197)) (.cells #[.int .i64 num,.int .i64 first,.int .i64 ra,.int .i64 rc,.int .i64 rs,.int .i64 rr,.slice la nl lc,.slice pa pn pc] 66)
 have h5':w5=(w3.alloc (.cells #[.int .i64 0,.int .i64 0,.int .i64 0,.slice none 0 0,.int .i64 first] 197)).alloc (.cells #[.int .i64 num,.int .i64 first,.int .i64 ra,.int .i64 rc,.int .i64 rs,.int .i64 rr,.slice la nl lc,.slice pa pn pc] 66):=h5
 rw [← h5'] at A5 X5
 simp only [World.size_alloc] at X5 ⊢
 have hnb:w3.heap.size < w5.heap.size:=by have:=A5.size;simp only [World.size_alloc] at this;omega
 have HB5:=qj (A5.keep B4.out (by simp));have HC5:=qj (A5.keep HC4 (by simp));have HT5:=qj (A5.keep (F4.out.keep HT3.out (by simp)) (by simp))
 have HF5:=qj ((HF3.out.trans F4.out).trans A5);have HX5:=qj X5
 have hcl:=blk_lt HC3.out;have htl:=blk_lt HT3.out
 have HW3:Hid (w.heap.size≤w3.heap.size):=qj HF3.out.size
 clear A5 X5 h5 h5' HC4 c40 c41 c42 c43 c44 c45 c46 c47 HF3 HC3 HT3 F4 B4 CM t0 c1 CI
 go_wp2_with fail
 refine (wpIn_wide (n:=3)).1 ?_
 refine range_u (n:=3) (by omega) (gf:=155) (lb:=#[.pointer (some ⟨w3.heap.size+1,0,none⟩)]) rfl (fun _ _=>rfl) [w3.heap.size] ([w3.heap.size+1]++(Value.slice pa pn pc).ownBlock.toList) okP finP
  (fun k hk=>?hS0) (fun W hf=>CS.out W (HF5.out.trans hf) (w3.heap.size+1) (hf.keep HX5.out (by simp))) (fun _=>rfl)
  (AtI w5 w3.heap.size first t) (AtX w5 w3.heap.size first t) (atI_free _ _ _ _) (atX_free _ _ _ _ hnb) ⟨rfl,HB5.out,Fr.refl _ _,fun x hx=>by cases hx⟩
  (AtA (.agg #[.int .i64 num,.int .i64 first,.int .i64 ra,.int .i64 rc,.int .i64 rs,.int .i64 rr,.slice la nl lc,.slice pa pn pc]) w.heap.size w3.heap.size t first (.func (.func 155) #[] #[.pointer (some ⟨w3.heap.size+1,0,none⟩)])) ?hAx ?assign ?body ?done ?stop
 case hS0 =>
  simp only [List.mem_singleton] at hk
  subst hk
  refine ⟨hnb,fun hm=>?_⟩
  simp only [List.mem_append,List.mem_singleton] at hm
  rcases hm with hm | hm
  ·omega
  ·have:=HPL.out _ (by simpa using hm);have:=HW3.out;omega
 case hAx =>
  rintro x a' W l o o' ⟨B,h1,h2,h3⟩ ho hc
  exact ⟨B,h1,(fr_put _ _ _).keep h2 (fun hm=>by simp at hm;subst hm;rw [h2] at ho;cases ho;cases hc),h3⟩
 case assign =>
  rintro l S pre ⟨⟨x1,x2,x3,x4⟩,⟨xa,xn,xc⟩⟩ W K hI hK
  have hs:=hI.2.2.1.size
  clear hI
  gi_wp2
  exact hK _ _ (Fr.alloc _ _ _) ⟨W.heap.size,rfl,qm _ _,by omega⟩
 case body =>
  rintro l S pre ⟨⟨x1,x2,x3,x4⟩,⟨xa,xn,xc⟩⟩ a' W ⟨rfl,i1,i2,i3⟩ hSl ⟨B,rfl,hb,hBn⟩ hp hs
  obtain ⟨z,hz⟩:∃ z,nowM first pre=z:=⟨_,rfl⟩
  rw [hz] at i1
  obtain ⟨⟨z1,z2,z3,z4⟩,⟨za,zn,zc⟩⟩:=z
  have HNZ:=qj hz
  have HB:=qj i1;have HFr:=qj i2;have HLE:=qj i3
  have t0:W.cell? ⟨w.heap.size+1,0,none⟩=some (.int .i64 t):=qd (i2.keep HT5.out (by simp;omega)) 0
  have b0:=qd hb 0;have b1:=qd hb 1;have b2:=qd hb 2;have b3:=qd hb 3;have b4:=qd hb 4
  have y0:=qd i1 0;have y1:=qd i1 1;have y2:=qd i1 2;have y3:=qd i1 3;have y4:=qd i1 4
  have g0:=ql i1 0;have g1:=ql i1 1;have g2:=ql i1 2;have g3:=ql i1 3;have g4:=ql i1 4
  clear i1 i2 i3 hb hz hSl hp
  dsimp only [moC] at *
  by_cases hgt:t < x1
  ·have HE:Hid (endU (AtI w5 w3.heap.size first t) (AtX w5 w3.heap.size first t) [w3.heap.size] (pre++[((x1,x2,x3,x4),xa,xn,xc)]) W (.exit 0) ⟨#[],[]⟩ W):=qj ⟨Fr.refl _ _,rfl,pre,_,rfl,hgt,by rw [HNZ.out];exact HB.out,HFr.out⟩
   clear HLE
   gi_wp2
   exact HE.out
  ·have hle:x1≤t:=by omega
   gi_wp2
   obtain ⟨FS,BS⟩:=setMo HB.out (.int .i64 x1) (.int .i64 x2) (.int .i64 x3) (.slice xa xn xc) (.int .i64 x4)
   refine ⟨[w3.heap.size],FS,⟨rfl,?_,HFr.out.trans FS,fun x hx=>?_⟩,fun k hk=>⟨.inl hk,?_⟩⟩
   ·rw [show nowM first (pre++[((x1,x2,x3,x4),xa,xn,xc)])=((x1,x2,x3,x4),xa,xn,xc) from by simp [nowM]];exact BS
   ·rcases List.mem_append.1 hx with hx | hx
    ·exact HLE.out x hx
    ·rw [List.mem_singleton] at hx;subst hx;exact hle
   ·simp at hk;have:=FS.size;omega
 case done =>
  rintro D S ys W hD hDS hfy ⟨rfl,i1,i2,i3⟩ hd
  have hR:=HR.out ys hfy i3
  obtain ⟨z,hz⟩:∃ z,nowM first ys=z:=⟨_,rfl⟩
  rw [hz] at i1 hR
  obtain ⟨⟨z1,z2,z3,z4⟩,⟨za,zn,zc⟩⟩:=z
  simp only at hR
  have HRZ:=qj hR.symm
  clear hR hz hfy i3 hDS
  have HB:=qj i1;have HFr:=qj i2;have HD:=qj hd
  clear i1 i2 hd
  go_wp2_with fail
  refine reg_mix (Fr [] W) [0,1,2,3,4,5,6] (by kernel_rfl) (by kernel_rfl) (by kernel_rfl) rfl (Fr.drew _ _) ?_
  have FC:Fr [] W W.drew:=Fr.drew _ _
  generalize W.drew=WC at FC ⊢
  iterate 7 (refine mix_take1 (v:=?_) rfl rfl rfl rfl (fun w hS=>?_) ?_;rotate_left;(focus (have X:=hS.keep HB.out (by simp);have k0:=qd X 0;have k1:=qd X 1;have k2:=qd X 2;have k3:=qd X 3;have k4:=qd X 4;clear X;clear hS;go_simp;rfl));simp only [qu,qv,qx])
  refine mix_end ?_
  have hD2:=qj (FC.keep HD.out (by simp))
  have HFQ:=qj (((HF5.out.step HFr.out (fun k hk=>.inr (by have:=HW3.out;simp at hk;omega))).trans FC).step (fr_put WC D (.deferred none)) (fun k hk=>.inr (by have:=HF5.out.size;simp at hk;omega)))
  clear FC HB HFr HD
  go_wp2_with fail
  refine ⟨by simp,.inl ⟨_,_,rfl,run_takeDeferred hD2.out,?_⟩⟩
  exact ⟨.tuple #[.int .i64 z4,.slice za zn zc,.int .i64 0],by simp [results,Tryz.results60,go_sem],za,zn,zc,by rw [HRZ.out],HFQ.out⟩
 case stop =>
  rintro D c pre W hD hokp ⟨rfl,p,x,rfl,h0,i1,i2⟩ hd
  have hR:=HX.out p x hokp h0
  obtain ⟨z,hz⟩:∃ z,nowM first p=z:=⟨_,rfl⟩
  rw [hz] at i1 hR
  obtain ⟨⟨z1,z2,z3,z4⟩,⟨za,zn,zc⟩⟩:=z
  simp only at hR
  have HRZ:=qj hR.symm
  clear hR hz hokp h0
  refine wpIn_exit ?_
  have HB:=qj i1;have HFr:=qj i2;have HD:=qj hd
  clear i1 i2 hd
  go_wp2_with fail
  refine reg_mix (Fr [] W) [0,1,2,3,4,5,6] (by kernel_rfl) (by kernel_rfl) (by kernel_rfl) rfl (Fr.drew _ _) ?_
  have FC:Fr [] W W.drew:=Fr.drew _ _
  generalize W.drew=WC at FC ⊢
  iterate 7 (refine mix_take1 (v:=?_) rfl rfl rfl rfl (fun w hS=>?_) ?_;rotate_left;(focus (have X:=hS.keep HB.out (by simp);have k0:=qd X 0;have k1:=qd X 1;have k2:=qd X 2;have k3:=qd X 3;have k4:=qd X 4;clear X;clear hS;go_simp;rfl));simp only [qu,qv,qx])
  refine mix_end ?_
  have hD2:=qj (FC.keep HD.out (by simp))
  have HFQ:=qj (((HF5.out.step HFr.out (fun k hk=>.inr (by have:=HW3.out;simp at hk;omega))).trans FC).step (fr_put WC D (.deferred none)) (fun k hk=>.inr (by have:=HF5.out.size;simp at hk;omega)))
  clear FC HB HFr HD
  go_wp2_with fail
  refine ⟨by simp,.inl ⟨_,_,rfl,run_takeDeferred hD2.out,?_⟩⟩
  exact ⟨.tuple #[.int .i64 z4,.slice za zn zc,.int .i64 0],by simp [results,Tryz.results60,go_sem],za,zn,zc,by rw [HRZ.out],HFQ.out⟩
end
section
open Go.RowKit Go.Shelf Go.Lib
def ntA:Nt:=⟨0,1,150,1,0,3,0,0,0,0,0,false,0,0,0⟩
def ntB:Nt:=⟨1,2,150,0,0,0,150,0,1,3,50,false,0,0,0⟩
def ntO (s:Int):Nt:=⟨s,3,150,0,0,0,150,0,1,0,50,false,2,55,1⟩
theorem RyG.new {α:Type} {enc:α→List Value} {e:TypeId} {k:Nat} {w W:World} {g n:Nat} {cs:Array Value} {l:List α} (h:W.heap[g]?=some (.cells cs e (0,0))) (hcs:cs.toList=l.flatMap enc) (hk:∀ x,(enc x).length=k) (hn:n=l.length) (hl:n≤1000000) (hg:w.heap.size≤g):RyG enc e k w W (.slice (some ⟨g,0,none⟩) n n) l:=by
 subst hn
 have hz:(l.flatMap enc).length=l.length*k:=flat_len hk l
 refine ⟨⟨hz,.inr ⟨g,l.length,cs,rfl,Nat.zero_le _,h,Nat.le_refl _,by simp only [maxLen];omega,?_,?_⟩⟩,fun b hb=>by cases hb;exact hg⟩
 ·rw [← hz,← hcs];simp
 ·rw [hcs,← hz,List.take_length]
set_option maxRecDepth 100000 in
theorem said_c (w:World):Calls Tryz.prog 21 #[] w fun e w'=>e=.returned (.slice (some ⟨w.heap.size,0,none⟩) 2 2)∧RyG ntC 31 15 w w' (.slice (some ⟨w.heap.size,0,none⟩) 2 2) [ntA,ntB]∧Fr [] w w':=by
 have HN:=qj (RyG.new (enc:=ntC) (k:=15) (w:=w) (qm w (.cells ([ntA,ntB].flatMap ntC).toArray 31)) (l:=[ntA,ntB]) (n:=2) (by simp) (fun _=>rfl) rfl (by omega) (Nat.le_refl _))
 have HF:=qj (Fr.alloc [] w (.cells ([ntA,ntB].flatMap ntC).toArray 31))
 go_enter Tryz.func21,Tryz.ntmps21
 go_wp2_with fail
 go_ret
 exact ⟨rfl,HN.out,HF.out⟩
set_option maxRecDepth 100000 in
theorem objected_c (s:Int) (w:World):Calls Tryz.prog 25 #[.int .i64 s] w fun e w'=>e=.returned (ntV (ntO s))∧Fr [] w w':=by
 have HF:=qj (Fr.alloc [] w (.cells (ntC (ntO s)).toArray 31))
 go_enter Tryz.func25,Tryz.ntmps25
 go_wp2_with fail
 have HB:=qm w (.cells (ntC (ntO s)).toArray 31)
 obtain ⟨W,hW⟩:∃ W,w.alloc (.cells (ntC (ntO s)).toArray 31)=W:=⟨_,rfl⟩
 rw [hW] at HB HF
 have hW':w.alloc (.cells #[.int .i64 s,.int .i64 3,.int .i64 150,.int .i64 0,.int .i64 0,.int .i64 0,.int .i64 150,.int .i64 0,.int .i64 1,.int .i64 0,.int .i64 50,.bool false,.int .i64 2,.int .i64 55,.int .i64 1] 31)=W:=hW
 rw [hW']
 have x0:W.cell? ⟨w.heap.size,0,none⟩=some (.int .i64 s):=qd HB 0
 have x1:W.cell? ⟨w.heap.size,1,none⟩=some (.int .i64 3):=qd HB 1
 have x2:W.cell? ⟨w.heap.size,2,none⟩=some (.int .i64 150):=qd HB 2
 have x3:W.cell? ⟨w.heap.size,3,none⟩=some (.int .i64 0):=qd HB 3
 have x4:W.cell? ⟨w.heap.size,4,none⟩=some (.int .i64 0):=qd HB 4
 have x5:W.cell? ⟨w.heap.size,5,none⟩=some (.int .i64 0):=qd HB 5
 have x6:W.cell? ⟨w.heap.size,6,none⟩=some (.int .i64 150):=qd HB 6
 have x7:W.cell? ⟨w.heap.size,7,none⟩=some (.int .i64 0):=qd HB 7
 have x8:W.cell? ⟨w.heap.size,8,none⟩=some (.int .i64 1):=qd HB 8
 have x9:W.cell? ⟨w.heap.size,9,none⟩=some (.int .i64 0):=qd HB 9
 have x10:W.cell? ⟨w.heap.size,10,none⟩=some (.int .i64 50):=qd HB 10
 have x11:W.cell? ⟨w.heap.size,11,none⟩=some (.bool false):=qd HB 11
 have x12:W.cell? ⟨w.heap.size,12,none⟩=some (.int .i64 2):=qd HB 12
 have x13:W.cell? ⟨w.heap.size,13,none⟩=some (.int .i64 55):=qd HB 13
 have x14:W.cell? ⟨w.heap.size,14,none⟩=some (.int .i64 1):=qd HB 14
 refine bodyPost_ret (v:=ntV (ntO s)) (by simp [results,Tryz.results25,go_sem,x0,x1,x2,x3,x4,x5,x6,x7,x8,x9,x10,x11,x12,x13,x14,ntO]) rfl ⟨rfl,HF.out⟩
def oneK (c:UInt8):ByteArray:=⟨(List.replicate 32 c).toArray⟩
def onP (c:UInt8) (k:Nat):List UInt8:=List.replicate k c++List.replicate (32 - k) 0
theorem onP_set (c:UInt8) (k:Nat) (h:k < 32):(onP c k).set k c=onP c (k+1):=by
 unfold onP
 obtain ⟨j,hj⟩:∃ j,32 - k=j+1:=⟨31 - k,by omega⟩
 rw [hj,show 32 - (k+1)=j by omega,List.replicate_succ,List.set_append_right _ _ (by simp)]
 simp [List.replicate_succ',List.append_assoc]
theorem onP_len (c:UInt8) (k:Nat) (h:k≤32):(onP c k).length=32:=by simp [onP];omega
theorem onP_all (c:UInt8):oneK c=⟨(onP c 32).toArray⟩:=by simp [oneK,onP]
theorem sl_onP {w:World} {b n:Nat} {ty:TypeId} {l:List UInt8} (h:w.heap[b]?=some (.cells (byteCells l).toArray ty (0,0))) (hn:n≤9223372036854775807):Sl w (.slice (some ⟨b,0,none⟩) n n) n (byteCells l) :=
 ⟨_,_,rfl,Nat.le_refl _,hn,fun _=>⟨_,0,rfl,fun j u hu=>by
  rw [Nat.zero_add,qd h]
  simpa using hu⟩⟩
theorem onP_cells (l:List UInt8) (k:Nat) (b:UInt8):(byteCells l).toArray.setIfInBounds k (.int .u8 (b.toNat:Int))=(byteCells (l.set k b)).toArray:=by
 rw [qu,byteCells,byteCells,List.map_set]
theorem set7 {w:World} {b:Nat} {ty:TypeId} {c0 c1 c2 c3 c4 c5 c6:Value} (h:w.heap[b]?=some (.cells #[c0,c1,c2,c3,c4,c5,c6] ty (0,0))) (a0 a1 a2 a3 a4 a5 a6:Value) :
  Fr [b] w (((((((w.setCell ⟨b,0,none⟩ a0).setCell ⟨b,1,none⟩ a1).setCell ⟨b,2,none⟩ a2).setCell ⟨b,3,none⟩ a3).setCell ⟨b,4,none⟩ a4).setCell ⟨b,5,none⟩ a5).setCell ⟨b,6,none⟩ a6) ∧
  (((((((w.setCell ⟨b,0,none⟩ a0).setCell ⟨b,1,none⟩ a1).setCell ⟨b,2,none⟩ a2).setCell ⟨b,3,none⟩ a3).setCell ⟨b,4,none⟩ a4).setCell ⟨b,5,none⟩ a5).setCell ⟨b,6,none⟩ a6).heap[b]?=some (.cells #[a0,a1,a2,a3,a4,a5,a6] ty (0,0)):=by
 have f (W:World) (i:Nat) (u:Value):Fr [b] W (W.setCell ⟨b,i,none⟩ u):=Fr.setCell _ _ (by simp)
 exact ⟨((((((f _ _ _).trans (f _ _ _)).trans (f _ _ _)).trans (f _ _ _)).trans (f _ _ _)).trans (f _ _ _)).trans (f _ _ _),by
  have h6:=qs (i:=6) a6 (qs (i:=5) a5 (qs (i:=4) a4 (qs (i:=3) a3 (qs (i:=2) a2 (qs (i:=1) a1 (qs (i:=0) a0 h))))))
  simp only [qu,qv,qx] at h6
  exact h6⟩
def exS:Su:=⟨0,[⟨100,200,0⟩],10,5,20,30,[oneK 1,oneK 2]⟩
set_option maxRecDepth 100000 in
set_option maxHeartbeats 1000000 in
theorem example_c (w:World):Calls Tryz.prog 23 #[] w fun e w'=>∃ bb kb,e=.returned (suV exS (.slice (some ⟨bb,0,none⟩) 1 1) (.slice (some ⟨kb,0,none⟩) 2 2))∧SuAt w' (.slice (some ⟨bb,0,none⟩) 1 1) (.slice (some ⟨kb,0,none⟩) 2 2) exS∧Fr [] w w'∧w.heap.size≤bb∧w.heap.size≤kb∧bb < w'.heap.size∧kb < w'.heap.size:=by
 have hmk:∀ w:World,(Instr.makeSlice 39 (.int .i64 32) (.int .i64 32)).run Tryz.prog w=.ok (.slice (some ⟨w.heap.size,0,none⟩) 32 32) (w.alloc (.cells (madeCells #[Value.int .u8 0] 32) 5)):=fun w=>run_make_row' (P:=Tryz.prog) 39 5 (.int .u8 0) 1 Tryz.underlying39 infoBy rfl .i64 .i64 32 (by omega) (by omega) w
 have hz0:∀ c,List.replicate 32 (0:UInt8)=onP c 0:=by intro c;simp [onP]
 obtain ⟨Z,hZ⟩:∃ Z,List.replicate 32 (0:UInt8)=Z:=⟨_,rfl⟩
 rw [made_bytes,hZ] at hmk
 rw [hZ] at hz0
 clear hZ
 have A3:=alloc3y w (.cells #[.int .i64 0,.slice none 0 0,.int .i64 0,.int .i64 0,.int .i64 0,.int .i64 0,.slice none 0 0] 48) (.cells (byteCells Z).toArray 5) (.cells (byteCells Z).toArray 5)
 obtain ⟨W3,hw3⟩:∃ W3,((w.alloc (.cells #[.int .i64 0,.slice none 0 0,.int .i64 0,.int .i64 0,.int .i64 0,.int .i64 0,.slice none 0 0] 48)).alloc (.cells (byteCells Z).toArray 5)).alloc (.cells (byteCells Z).toArray 5)=W3:=⟨_,rfl⟩
 rw [hw3] at A3
 obtain ⟨a0,a1,a2,f3,hz3⟩:=A3
 have HB0:=qj a0;have HF3:=qj f3
 have HB1:Hid (W3.heap[w.heap.size+1]?=some (.cells (byteCells (onP 1 0)).toArray 5 (0,0))):=qj (by rw [← hz0];exact a1)
 have HB2:Hid (W3.heap[w.heap.size+1+1]?=some (.cells (byteCells (onP 2 0)).toArray 5 (0,0))):=qj (by rw [← hz0];exact a2)
 clear a0 a1 a2 f3 hz3 hz0
 go_enter Tryz.func23,Tryz.ntmps23
 go_wp2_with fail
 clear hmk
 go_loopw [3] (fun iv wr=>∃ (k:Nat),iv=.int .i64 k∧k≤32∧Hid (Fr [] w wr)∧Hid (wr.heap[w.heap.size]?=some (.cells #[.int .i64 0,.slice none 0 0,.int .i64 0,.int .i64 0,.int .i64 0,.int .i64 0,.slice none 0 0] 48 (0,0)))∧Hid (wr.heap[w.heap.size+1]?=some (.cells (byteCells (onP 1 k)).toArray 5 (0,0)))∧Hid (wr.heap[w.heap.size+1+1]?=some (.cells (byteCells (onP 2 k)).toArray 5 (0,0)))) (fun iv _=>32 - (RowKit.intOf iv).toNat)
 case atStart=>exact ⟨0,rfl,Nat.zero_le _,HF3,HB0,HB1,HB2⟩
 case round =>
  clear HF3 HB0 HB1 HB2
  obtain ⟨k,rfl,hk,HF,HB0,HB1,HB2⟩:=hrel
  by_cases hlt:k < 32
  ·have hk1:=onP_len 1 k (by omega)
   have hk2:=onP_len 2 k (by omega)
   obtain ⟨o1,ck1⟩:∃ ov:Value,wr.cell? ⟨w.heap.size+1,k,none⟩=some ov:=⟨.int .u8 ((onP 1 k)[k]'(by omega)).toNat,by
    rw [qd HB1.out]
    simp [byteCells,hk1,hlt]⟩
   have fk1:=ql HB1.out k
   have FS1:=Fr.setCell (fp:=[w.heap.size+1]) (p:=⟨w.heap.size+1,k,none⟩) wr (.int .u8 1) (by simp)
   have HB2':=FS1.keep HB2.out (by simp)
   obtain ⟨o2,ck2⟩:∃ ov:Value,World.cell? (wr.setCell ⟨w.heap.size+1,k,none⟩ (.int .u8 1)) ⟨w.heap.size+1+1,k,none⟩=some ov:=⟨.int .u8 ((onP 2 k)[k]'(by omega)).toNat,by
    rw [qd HB2']
    simp [byteCells,hk2,hlt]⟩
   have fk2:=ql HB2' k
   have FS2:=Fr.setCell (fp:=[w.heap.size+1+1]) (p:=⟨w.heap.size+1+1,k,none⟩) (wr.setCell ⟨w.heap.size+1,k,none⟩ (.int .u8 1)) (.int .u8 2) (by simp)
   have B1:=FS2.keep (qs (i:=k) (.int .u8 1) HB1.out) (by simp)
   have B2:=qs (i:=k) (.int .u8 2) HB2'
   have B0:=FS2.keep (FS1.keep HB0.out (by simp)) (by simp;omega)
   have HF2:=qj ((HF.out.step FS1 (fun i hi=>.inr (by simp at hi;omega))).step FS2 (fun i hi=>.inr (by simp at hi;omega)))
   have hb1:(byteCells (onP 1 k)).toArray.setIfInBounds k (.int .u8 1)=(byteCells (onP 1 (k+1))).toArray:=by
    have:=onP_cells (onP 1 k) k 1
    rw [onP_set 1 k hlt] at this
    exact this
   have hb2:(byteCells (onP 2 k)).toArray.setIfInBounds k (.int .u8 2)=(byteCells (onP 2 (k+1))).toArray:=by
    have:=onP_cells (onP 2 k) k 2
    rw [onP_set 2 k hlt] at this
    exact this
   rw [hb1] at B1;rw [hb2] at B2
   have HB1n:=qj B1;have HB2n:=qj B2;have HB0n:=qj B0
   clear hk1 hk2 FS1 FS2 HB2' B0 B1 B2 hb1 hb2
   go_wp2_with fail
   go_roundw
   case rel=>exact ⟨k+1,by go_num,hlt,HF2,HB0n,HB1n,HB2n⟩
   case measure=>simp [RowKit.intOf];omega
  ·obtain rfl:k=32:=by omega
   go_wp2_with (first | ((with_reducible refine wpList_of_wp (o:=⟨some 17,_,_,_,_,_⟩) rfl (fun K hK=>?_));apply stopD;case _other=>exact trivial))
   (refine stopD ?_ ?_;rotate_left;exact trivial)
   refine wp_sl_str (.tmp 16) rfl _ 32 32 (onP 1 32) rfl (sl_onP HB1.out (by omega)) (by omega) (onP_len 1 32 (by omega)) ?_
   refine hK _ _ ?_
   clear hK K
   rw [← onP_all]
   go_wp2_with (first | ((with_reducible refine wpList_of_wp (o:=⟨some 19,_,_,_,_,_⟩) rfl (fun K hK=>?_));apply stopD;case _other=>exact trivial))
   (refine stopD ?_ ?_;rotate_left;exact trivial)
   refine wp_sl_str (.tmp 18) rfl _ 32 32 (onP 2 32) rfl (sl_onP HB2.out (by omega)) (by omega) (onP_len 2 32 (by omega)) ?_
   refine hK _ _ ?_
   clear hK K
   rw [← onP_all]
   have A2:=alloc2m wr (.cells #[.string (oneK 1),.string (oneK 2)] 9) (.cells #[.int .i64 100,.int .i64 200,.int .i64 0] 99)
   obtain ⟨W5,hw5⟩:∃ W5,(wr.alloc (.cells #[.string (oneK 1),.string (oneK 2)] 9)).alloc (.cells #[.int .i64 100,.int .i64 200,.int .i64 0] 99)=W5:=⟨_,rfl⟩
   rw [hw5] at A2
   obtain ⟨s0,s1,f5,hz5⟩:=A2
   have z0:=f5.keep HB0.out (by simp)
   have o0:=qd z0 0;have o1:=qd z0 1;have o2:=qd z0 2;have o3:=qd z0 3;have o4:=qd z0 4;have o5:=qd z0 5;have o6:=qd z0 6
   have g0:=ql z0 0;have g1:=ql z0 1;have g2:=ql z0 2;have g3:=ql z0 3;have g4:=ql z0 4;have g5:=ql z0 5;have g6:=ql z0 6
   go_wp2_with fail
   obtain ⟨FS,BS⟩:=set7 z0 (.int .i64 0) (.slice (some ⟨wr.heap.size+1,0,none⟩) 1 1) (.int .i64 10) (.int .i64 5) (.int .i64 20) (.int .i64 30) (.slice (some ⟨wr.heap.size,0,none⟩) 2 2)
   generalize ((((((W5.setCell ⟨w.heap.size,0,none⟩ (.int .i64 0)).setCell ⟨w.heap.size,1,none⟩ (.slice (some ⟨wr.heap.size+1,0,none⟩) 1 1)).setCell ⟨w.heap.size,2,none⟩ (.int .i64 10)).setCell ⟨w.heap.size,3,none⟩ (.int .i64 5)).setCell ⟨w.heap.size,4,none⟩ (.int .i64 20)).setCell ⟨w.heap.size,5,none⟩ (.int .i64 30)).setCell ⟨w.heap.size,6,none⟩ (.slice (some ⟨wr.heap.size,0,none⟩) 2 2)=V at *
   have k0:V.cell? ⟨w.heap.size,0,none⟩=some (.int .i64 0):=qd BS 0
   have k1:V.cell? ⟨w.heap.size,1,none⟩=some (.slice (some ⟨wr.heap.size+1,0,none⟩) 1 1):=qd BS 1
   have k2:V.cell? ⟨w.heap.size,2,none⟩=some (.int .i64 10):=qd BS 2
   have k3:V.cell? ⟨w.heap.size,3,none⟩=some (.int .i64 5):=qd BS 3
   have k4:V.cell? ⟨w.heap.size,4,none⟩=some (.int .i64 20):=qd BS 4
   have k5:V.cell? ⟨w.heap.size,5,none⟩=some (.int .i64 30):=qd BS 5
   have k6:V.cell? ⟨w.heap.size,6,none⟩=some (.slice (some ⟨wr.heap.size,0,none⟩) 2 2):=qd BS 6
   have hwr:=HF.out.size
   have hl0:=blk_lt HB0.out
   have S0:=FS.keep s0 (by simp;omega)
   have S1:=FS.keep s1 (by simp;omega)
   have l0:=blk_lt S0;have l1:=blk_lt S1
   refine bodyPost_ret (v:=suV exS (.slice (some ⟨wr.heap.size+1,0,none⟩) 1 1) (.slice (some ⟨wr.heap.size,0,none⟩) 2 2)) (by simp [results,Tryz.results23,go_sem,k0,k1,k2,k3,k4,k5,k6,exS]) rfl ⟨wr.heap.size+1,wr.heap.size,rfl,⟨?_,?_,by simp [exS],by simp [exS]⟩,(HF.out.trans f5).step FS (fun k hk=>.inr (by simp at hk;omega)),by omega,by omega,l1,l0⟩
   ·exact ⟨_,_,rfl,Nat.le_refl _,by simp,fun _=>⟨_,0,rfl,fun j u hu=>by rw [Nat.zero_add,qd S1];simpa [exS,bkC] using hu⟩⟩
   ·exact ⟨_,_,rfl,Nat.le_refl _,by simp,fun _=>⟨_,0,rfl,fun j u hu=>by rw [Nat.zero_add,qd S0];simpa [exS] using hu⟩⟩
end
end Go.Proofs.YtledkokhghjfmaaGreatDoor
