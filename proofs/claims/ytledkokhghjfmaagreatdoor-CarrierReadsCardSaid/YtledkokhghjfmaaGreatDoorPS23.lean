/-
  carrier.Read.
-/
import Derived.Test.YtledkokhghjfmaaGreatDoorPS22
import Derived.Test.YtledkokhghjfmaaGreatDoorPS17
namespace Go.Proofs.YtledkokhghjfmaaGreatDoor
section
open Go.RowKit Go.Lib
theorem read1_ok (A B:Nat) (u:FrameMode) (w:World) (hB:w.heap[B]?=some (.cells #[.int .i64 0] 34 (0,0))) :
  CallsD Tryz.prog 30 #[.pointer (some ⟨B,0,none⟩),.pointer (some ⟨A,0,none⟩)] u w fun e u' w'=>u'=u∧e=.returned (.tuple #[])∧w'=w:=by
 have c0:=qd hB 0
 clear hB
 go_enter_d Tryz.func30,Tryz.ntmps30
 go_wp2_with fail
 go_end0
 exact ⟨rfl,rfl⟩
def NtAt (w:World) (A:Nat) (t:Nt):Prop:=w.heap[A]?=some (.cells (ntC t).toArray 31 (0,0))
theorem storeSub (P:Program) (g:Nat) (ty:TypeId) (off:Nat):∀ (vs:List Value) (i:Nat) (cur:List Value) (w:World),w.heap[g]?=some (.cells cur.toArray ty (0,0))→off+i+vs.length≤cur.length→(∀ v,v∈vs→v.oneCell'=true) →
  ∃ w',(storeCells ⟨g,off,none⟩ vs i).run P w=.ok () w'∧w'.heap[g]?=some (.cells (cur.take (off+i)++vs++cur.drop (off+i+vs.length)).toArray ty (0,0))∧Fr [g] w w'∧w'.heap.size=w.heap.size
 | [],i,cur,w,hg,hl,_=>⟨w,rfl,by simpa using hg,Fr.refl _ _,rfl⟩
 | v :: rest,i,cur,w,hg,hl,h1=>by
  simp only [List.length_cons] at hl
  have hadd:(⟨g,off,none⟩:Addr).add i=⟨g,off+i,none⟩:=by unfold Addr.add;split <;> simp_all
  have hst:(store ((⟨g,off,none⟩:Addr).add i) v).run P w=.ok () (w.setCell ⟨g,off+i,none⟩ v):=by
   rw [hadd,run_store P w _ v _ (h1 v (by simp)),qd hg]
   have:off+i < cur.length:=by omega
   simp [ql hg,this]
  have hb:=qs (i:=off+i) v hg
  have e1:cur.toArray.setIfInBounds (off+i) v=(cur.set (off+i) v).toArray:=by simp
  rw [e1] at hb
  obtain ⟨w',r1,r2,r3,r4⟩:=storeSub P g ty off rest (i+1) (cur.set (off+i) v) _ hb (by rw [List.length_set];omega) (fun x hx=>h1 x (by simp [hx]))
  refine ⟨w',?_,?_,(Fr.setCell (p:=⟨g,off+i,none⟩) _ _ (by simp)).trans r3,by simpa using r4⟩
  ·simp only [storeCells,Sem.run_bind,hst,Result.andThen_ok,r1]
  ·rw [r2]
   congr 3
   apply List.ext_getElem?
   intro k
   simp only [List.length_cons,List.getElem?_append,List.length_append,List.length_take,List.length_set,List.getElem?_take,List.getElem?_drop,List.getElem?_set]
   by_cases hk:k < off+i
   ·simp [hk,show k < off+(i+1) by omega,show min (off+(i+1)) cur.length=off+(i+1) by omega,show min (off+i) cur.length=off+i by omega,show off+i≠k by omega,show k < off+i+(rest.length+1) by omega,show k < off+(i+1)+rest.length by omega]
   ·by_cases hk2:k=off+i
    ·subst hk2
     simp [show min (off+(i+1)) cur.length=off+(i+1) by omega,show min (off+i) cur.length=off+i by omega,show off+i < off+(i+1) by omega,show off+i < cur.length by omega]
     omega
    ·simp [show ¬ k < off+(i+1) by omega,hk,show min (off+(i+1)) cur.length=off+(i+1) by omega,show min (off+i) cur.length=off+i by omega]
     by_cases hk3:k < off+i+(rest.length+1)
     ·simp [hk3,show k < off+(i+1)+rest.length by omega,show k - (off+i)=(k - (off+(i+1)))+1 by omega]
     ·simp [hk3,show ¬ k < off+(i+1)+rest.length by omega]
      rw [if_neg (by omega)]
      congr 1
      omega
theorem wp_sub {o:Oper} {a:Act} {W:World} {K:Act→World→Prop} {Q:Exit→Act→World→Prop} (ty t:TypeId) (x y:Operand) (A off:Nat) (cur vs:List Value) (ho:o.op=.store ty x y) (hx:a.eval x=.pointer (some ⟨A,off,none⟩)) (hy:a.eval y=.agg vs.toArray)
  (hi:(Tryz.prog.info? ty).map (·.size)=some vs.length) (h:W.heap[A]?=some (.cells cur.toArray t (0,0))) (hl:off+vs.length≤cur.length) (h1:∀ v,v∈vs→v.oneCell'=true) (hd:o.dst=none)
  (hk:∀ W',W'.heap[A]?=some (.cells (cur.take off++vs++cur.drop (off+vs.length)).toArray t (0,0))→Fr [A] W W'→K a W'):o.wp Tryz.prog a W K Q:=by
 obtain ⟨W',r1,r2,r3,_⟩:=storeSub Tryz.prog A t off vs 0 cur W h (by omega) h1
 have hst:(storeVar ty ⟨A,off,none⟩ (.agg vs.toArray)).run Tryz.prog W=.ok () W':=by
  cases hq:Tryz.prog.info? ty with
  | none=>simp [hq] at hi
  | some i =>
   have hs:vs.length=i.size:=by simp [hq] at hi;omega
   simp [storeVar,sizeOf,typeInfo,hq,Value.cells,hs,r1]
 unfold Oper.wp execOp
 simp only [ho,hx,hy,Instr.storeAt,Instr.sureAddr,Sem.run_bind,Sem.run_pure,Result.andThen_ok,hst]
 have:=hk _ r2 r3
 show K (a.put o.dst undef) W'
 rw [hd]
 exact this
theorem ntC_one (t:Nt):∀ v,v∈ntC t→v.oneCell'=true:=by
 intro v hv
 simp only [ntC,List.mem_cons,List.not_mem_nil,or_false] at hv
 rcases hv with rfl | rfl | rfl | rfl | rfl | rfl | rfl | rfl | rfl | rfl | rfl | rfl | rfl | rfl | rfl <;> rfl
theorem wp_nt {o:Oper} {a:Act} {W:World} {K:Act→World→Prop} {Q:Exit→Act→World→Prop} (x y:Operand) (A:Nat) (t u:Nt) (ho:o.op=.store 31 x y) (hx:a.eval x=.pointer (some ⟨A,0,none⟩)) (hy:a.eval y=ntV u)
  (h:NtAt W A t) (hd:o.dst=none) (hk:∀ W',NtAt W' A u→Fr [A] W W'→K a W'):o.wp Tryz.prog a W K Q :=
 wp_sub 31 31 x y A 0 (ntC t) (ntC u) ho hx hy (by kernel_rfl) h (by simp [ntC]) (ntC_one u) hd hk
theorem NtAt.cells {w:World} {A:Nat} {t:Nt} (h:NtAt w A t):∀ k v,(ntC t)[k]?=some v→w.cell? ⟨A,k,none⟩=some v:=fun k v hv=>by
 rw [qd h];simpa using hv
set_option maxRecDepth 100000 in
theorem read1_bad (A B:Nat) (t:Nt) (u:FrameMode) (w:World) (hB:w.heap[B]?=some (.cells #[.int .i64 430] 34 (0,0))) (hA:NtAt w A t) :
  CallsD Tryz.prog 30 #[.pointer (some ⟨B,0,none⟩),.pointer (some ⟨A,0,none⟩)] u w fun e u' w'=>u'=u∧e=.returned (.tuple #[])∧NtAt w' A nt0∧Fr [A] w w':=by
 have c0:=qd hB 0
 have HA:=qj hA
 clear hB hA
 go_enter_d Tryz.func30,Tryz.ntmps30
 go_wp2_with (first | ((with_reducible refine wpList_of_wp (o:=⟨none,.store _ _ _,_,_,_,_⟩) rfl (fun K hK=>?_));apply stopD;case _other=>exact trivial))
 (refine stopD ?_ ?_;rotate_left;exact trivial)
 refine wp_nt (.tmp 1) (.tmp 4) A t nt0 rfl rfl rfl HA.out rfl (fun W' h1 f1=>hK _ _ ?_)
 clear hK K
 have H1:=qj h1;have H2:=qj f1
 clear h1 f1
 go_wp2_with fail
 go_end0
 exact ⟨rfl,H1.out,H2.out⟩
def rdV:Option Nt→Value
 | some f=>.tuple #[ntV f,.int .i64 0]
 | none=>.tuple #[ntV nt0,.int .i64 430]
def readV (src:Int) (s:ByteArray):Value:=rdV (readN src (bts s))
abbrev rdDs (A B:Nat):List Deferred:=[{ target:=.fn (.func 31) #[],args:=#[.pointer (some ⟨B,0,none⟩)] },{ target:=.fn (.func 30) #[.pointer (some ⟨B,0,none⟩),.pointer (some ⟨A,0,none⟩)],args:=#[] }]
theorem run_nt {w:World} {A:Nat} {t:Nt} (h:NtAt w A t):(loadVar 31 ⟨A,0,none⟩).run Tryz.prog w=.ok (ntV t) w :=
 run_loadVar_row w A 31 31 (ntC t).toArray (0,0) _ h Tryz.underlying31 rfl (by kernel_rfl)
theorem rd_res {tmps:Array Value} {w:World} (A B:Nat) (t:Nt) (n:Int) (hA:NtAt w A t) (hB:w.heap[B]?=some (.cells #[.int .i64 n] 34 (0,0))) (h4:tmps[4]?=some (.pointer (some ⟨A,0,none⟩))) (h5:tmps[5]?=some (.pointer (some ⟨B,0,none⟩))) :
  (results Tryz.f9 tmps).run Tryz.prog w=.ok (.tuple #[ntV t,.int .i64 n]) w:=by
 have c0:=qd hB 0
 have x0:=hA.cells 0 _ rfl
 have x1:=hA.cells 1 _ rfl
 have x2:=hA.cells 2 _ rfl
 have x3:=hA.cells 3 _ rfl
 have x4:=hA.cells 4 _ rfl
 have x5:=hA.cells 5 _ rfl
 have x6:=hA.cells 6 _ rfl
 have x7:=hA.cells 7 _ rfl
 have x8:=hA.cells 8 _ rfl
 have x9:=hA.cells 9 _ rfl
 have x10:=hA.cells 10 _ rfl
 have x11:=hA.cells 11 _ rfl
 have x12:=hA.cells 12 _ rfl
 have x13:=hA.cells 13 _ rfl
 have x14:=hA.cells 14 _ rfl
 simp [results,Tryz.results9,go_sem,h4,h5,asAddr,c0,x0,x1,x2,x3,x4,x5,x6,x7,x8,x9,x10,x11,x12,x13,x14]
theorem rd_fail {tmps:Array Value} {R:Ending→World→Prop} {w:World} (A B:Nat) (t:Nt) (v:Value) (hA:NtAt w A t) (hB:w.heap[B]?=some (.cells #[v] 34 (0,0))) (hne:A≠B) (h4:tmps[4]?=some (.pointer (some ⟨A,0,none⟩))) (h5:tmps[5]?=some (.pointer (some ⟨B,0,none⟩)))
  (hR:∀ w',Fr [A,B] w w'→R (.returned (.tuple #[ntV nt0,.int .i64 430])) w'):Leaves Tryz.prog Tryz.f9 tmps R (rdDs A B) (.panicking flP) w:=by
 refine leaves_cons (f:=31) (args:=#[.pointer (some ⟨B,0,none⟩)]) (by simp) (by simp [go_sem]) ?_
 refine (recd_fail B v w hB).mono ?_
 rintro e u' w1 ⟨rfl,rfl,hB1,f1⟩
 have hA1:NtAt w1 A t:=f1.keep hA (by simpa using hne)
 refine leaves_cons (f:=30) (args:=#[.pointer (some ⟨B,0,none⟩),.pointer (some ⟨A,0,none⟩)]) (by simp [settle]) (by simp [go_sem]) ?_
 refine (read1_bad A B t _ w1 hB1 hA1).mono ?_
 rintro e u' w2 ⟨rfl,rfl,hA2,f2⟩
 have hB2:=f2.keep hB1 (by simp;omega)
 exact ⟨_,rd_res A B nt0 430 hA2 hB2 h4 h5,hR _ ((f1.mono (by simp)).trans (f2.mono (by simp)))⟩
theorem rd_ok {tmps:Array Value} {R:Ending→World→Prop} {w:World} (A B:Nat) (t:Nt) (hA:NtAt w A t) (hB:w.heap[B]?=some (.cells #[.int .i64 0] 34 (0,0))) (h4:tmps[4]?=some (.pointer (some ⟨A,0,none⟩))) (h5:tmps[5]?=some (.pointer (some ⟨B,0,none⟩)))
  (hR:R (.returned (.tuple #[ntV t,.int .i64 0])) w):Leaves Tryz.prog Tryz.f9 tmps R (rdDs A B) .returning w:=by
 refine leaves_cons (f:=31) (args:=#[.pointer (some ⟨B,0,none⟩)]) (by simp) (by simp [go_sem]) ?_
 refine (recd_idle ⟨B,0,none⟩ w).mono ?_
 rintro e u' w1 ⟨rfl,rfl,rfl⟩
 refine leaves_cons (f:=30) (args:=#[.pointer (some ⟨B,0,none⟩),.pointer (some ⟨A,0,none⟩)]) (by simp [settle]) (by simp [go_sem]) ?_
 refine (read1_ok A B _ w1 hB).mono ?_
 rintro e u' w2 ⟨rfl,rfl,rfl⟩
 exact ⟨_,rd_res A B t 0 hA hB h4 h5,hR⟩
theorem alloc3n (w:World) (x y z:Obj):Fr [] w (((w.alloc x).alloc y).alloc z)∧(((w.alloc x).alloc y).alloc z).heap[w.heap.size]?=some x∧(((w.alloc x).alloc y).alloc z).heap[w.heap.size+1]?=some y ∧
  (((w.alloc x).alloc y).alloc z).heap[w.heap.size+1+1]?=some z∧(((w.alloc x).alloc y).alloc z).heap.size=w.heap.size+3:=by
 have h:=qm ((w.alloc x).alloc y) z
 simp only [World.size_alloc] at h
 obtain ⟨f,h1,h2⟩:=two_more w x y
 exact ⟨f.trans (Fr.alloc _ _ _),heap_alloc_old z h1,heap_alloc_old z h2,h,by simp⟩
set_option maxRecDepth 100000 in
set_option maxHeartbeats 4000000 in
theorem CARead_c (src:Int) (s:ByteArray) (w:World) (hs:s.size≤1000000000):Calls Tryz.prog 9 #[.int .i64 src,.string s] w fun e w'=>e=.returned (readV src s)∧Fr [] w w':=by
 have hmf:∀ (fn:Fn) (first cap:Array Value) (w:World),(Instr.makeFunc fn first cap).run Tryz.prog w=.ok (.func fn first cap) w:=fun _ _ _ _=>rfl
 obtain ⟨F3,A3,B3,R3,Z3⟩:=alloc3n w (.cells #[.int .i64 0,.int .i64 0,.int .i64 0,.int .i64 0,.int .i64 0,.int .i64 0,.int .i64 0,.int .i64 0,.int .i64 0,.int .i64 0,.int .i64 0,.bool false,.int .i64 0,.int .i64 0,.int .i64 0] 31) (.cells #[.int .i64 0] 34) (.cells #[.string s,.int .i64 0] 90)
 have CN:=qj fun (W:World) (p many:Nat) (h:W.heap[w.heap.size+1+1]?=some (.cells #[.string s,.int .i64 p] 90 (0,0))) (hp:p≤s.size) (hm:many≤100)=>numbers_c _ s p many W h hp hs hm
 have HF:=qj F3;have HA:Hid (NtAt _ w.heap.size nt0):=qj A3;have HB:=qj B3;have HR:=qj R3
 unfold readV
 generalize hO:readN src (bts s)=O
 have HO:Shut (O=match getN (bts s) 2 0 with
  | none=>none
  | some (h,p)=>match getN (bts s) (manyN (h.getD 0 0)) p with
   | none=>none
   | some (l,q)=>match mkN src h l with
    | none=>none
    | some f=>if q=(bts s).length∧fmN f=true then some f else none):=⟨hO.symm⟩
 clear F3 A3 B3 R3 Z3 hO
 go_enter_defers Tryz.func9,Tryz.ntmps9
 go_wp2_with fail
 generalize World.alloc _ (.cells #[.string s,.int .i64 0] 90)=W3 at *
 clear hmf
 have C2:=qj (CN.out W3 0 2 HR.out (by omega) (by omega))
 rw [show ((2:Nat):Int)=2 from rfl] at C2
 generalize hG:getN (bts s) 2 0=G at C2
 cases G with
 | none =>
  have HE:Shut (O=none):=⟨by rw [HO.out,hG]⟩
  clear hG HO
  go_wp2_with fail
  refine C2.out.mono ?_
  rintro e w1 ⟨rfl,f1⟩
  refine rd_fail w.heap.size (w.heap.size+1) _ _ (f1.keep HA.out (by simp;omega)) (f1.keep HB.out (by simp)) (by omega) rfl rfl (fun w' f'=>⟨by rw [HE.out];rfl,(HF.out.step f1 (by simp;omega)).step f' (by simp)⟩)
 | some x =>
  obtain ⟨l,q⟩:=x
  have hl:=getN_len 2 hG
  have hq:q≤s.size:=(getN_sound 2 (Nat.zero_le _) hG).2.2
  obtain ⟨k,n,rfl⟩:∃ k n,l=[k,n]:=by
   match l,hl with
   | [x0,x1],_=>exact ⟨_,_,rfl⟩
  have HO:Shut (O=match getN (bts s) (manyN k) q with
   | none=>none
   | some (l,r)=>match mkN src [k,n] l with
    | none=>none
    | some f=>if r=(bts s).length∧fmN f=true then some f else none):=⟨by rw [HO.out,hG];rfl⟩
  clear hG hl
  go_wp2_with fail
  refine C2.out.mono ?_
  rintro e w1 ⟨v,rfl,hy,hr⟩
  have hlA:=blk_lt HA.out
  have HF:=qj (HF.out.step hy.fr (by simp;omega))
  have HA:Hid (NtAt w1 w.heap.size _):=qj (hy.fr.keep HA.out (by simp;omega))
  have HB:=qj (hy.fr.keep HB.out (by simp))
  have HR:=qj hr
  clear hr C2
  obtain ⟨ya,yc,rfl⟩:=hy.val
  obtain ⟨yb,yo,rfl,hyc⟩:=(sl_of_row hy.row).at_ (by simp)
  have y0:=hyc 0 _ rfl
  have y1:=hyc 1 _ rfl
  simp only [Nat.add_zero] at y0
  have hbA:yb≠w.heap.size:=fun e=>by have:=hy.young yb rfl;omega
  clear hy hyc
  go_upto_region 5 with fail
  refine reg_mix (fun V=>Fr [w.heap.size] w1 V) [0,1,2,3,4,5,6,7,8] (by kernel_rfl) (by kernel_rfl) (by kernel_rfl) rfl (Fr.drew _ _) ?_
  have FC:Fr [w.heap.size] w1 w1.drew:=Fr.drew _ _
  have hA0:NtAt w1.drew w.heap.size nt0:=HA.out
  generalize w1.drew=WC at FC hA0 ⊢
  iterate 8 (refine mix_take1 (v:=?_) rfl rfl rfl rfl (fun w hS=>?_) ?_;rotate_left;(focus (have y0:=(hS).cel y0 (by simpa using hbA);have y1:=(hS).cel y1 (by simpa using hbA);clear hS;go_simp;rfl));simp only [qu,qv,qx])
  refine mix_do rfl rfl rfl (fun K hK=>?_)
  refine wp_nt (.tmp 4) (.tmp 24) w.heap.size nt0 ⟨src,k,n,0,0,0,0,0,0,0,0,false,0,0,0⟩ rfl rfl rfl hA0 rfl ?_
  intro W' hA' hf'
  have hA1:NtAt W' w.heap.size ⟨src,k,n,0,0,0,0,0,0,0,0,false,0,0,0⟩:=hA'
  have FC2:=FC.trans hf'
  refine hK _ _ FC2 ?_
  clear hK K
  try simp only [Act.put,qu,qv,qx]
  refine mix_end ?_
  have HF:=qj (HF.out.step FC2 (by simp))
  have HB:=qj (FC2.keep HB.out (by simp))
  have HR:=qj (FC2.keep HR.out (by simp;omega))
  have HA:=qj hA1
  have HY:=qj FC2
  clear hA' hA1 hf' FC FC2 hA0
  clear y0 y1 hbA HY
  generalize hw1:W'=w1 at *
  clear hw1
  have ck:w1.cell? ⟨w.heap.size,1,none⟩=some (.int .i64 k):=HA.out.cells 1 _ rfl
  obtain ⟨p,hp⟩:∃ p,p=q:=⟨_,rfl⟩
  rw [← hp] at hq HR HO
  clear hp
  go_upto_block 0 with fail
  clear ck
  go_cut [8,9,10] from 27 to 109 (fun _ _ _ W=>∃ (t:Nt) (q:Nat),q≤s.size∧Shut (O=if q=(bts s).length∧fmN t=true then some t else none)∧Hid (NtAt W w.heap.size t)∧Hid (W.heap[w.heap.size+1]?=some (.cells #[.int .i64 0] 34 (0,0)))∧Hid (W.heap[w.heap.size+1+1]?=some (.cells #[.string s,.int .i64 q] 90 (0,0)))∧Hid (Fr [] w W))
  case first =>
   by_cases k1:k=1
   ·subst k1
    have hmk:manyN 1=3:=rfl
    have C3:=qj (CN.out w1 p 3 HR.out (by omega) (by omega))
    rw [show ((3:Nat):Int)=3 from rfl] at C3
    generalize hG:getN (bts s) 3 p=G at C3
    cases G with
    | none =>
     have HE:Shut (O=none):=⟨by rw [HO.out,hmk,hG]⟩
     clear hG HO
     go_wp2_with fail
     refine C3.out.mono ?_
     rintro e w2 ⟨rfl,f1⟩
     refine rd_fail w.heap.size (w.heap.size+1) _ _ (f1.keep HA.out (by simp;omega)) (f1.keep HB.out (by simp)) (by omega) rfl rfl (fun w' f'=>⟨by rw [HE.out];rfl,(HF.out.step f1 (by simp;omega)).step f' (by simp)⟩)
    | some x =>
     obtain ⟨l,q⟩:=x
     have hl:=getN_len 3 hG
     have hq:q≤s.size:=(getN_sound 3 (show p≤(bts s).length from hq) hG).2.2
     obtain ⟨a,b,c,rfl⟩:∃ a b c,l=[a,b,c]:=by
      match l,hl with
      | [x0,x1,x2],_=>exact ⟨_,_,_,rfl⟩
     have HO:Shut (O=match mkN src [1,n] [a,b,c] with
      | none=>none
      | some f=>if q=(bts s).length∧fmN f=true then some f else none):=⟨by rw [HO.out,hmk,hG]⟩
     clear hG hl
     go_wp2_with fail
     refine C3.out.mono ?_
     rintro e w1 ⟨v,rfl,hy,hr⟩
     have hlA:=blk_lt HA.out
     have HF:=qj (HF.out.step hy.fr (by simp;omega))
     have HA:Hid (NtAt w1 w.heap.size _):=qj (hy.fr.keep HA.out (by simp;omega))
     have HB:=qj (hy.fr.keep HB.out (by simp))
     have HR:=qj hr
     clear hr C3
     obtain ⟨ya,yc,rfl⟩:=hy.val
     obtain ⟨yb,yo,rfl,hyc⟩:=(sl_of_row hy.row).at_ (by simp)
     have y0:=hyc 0 _ rfl
     have y1:=hyc 1 _ rfl
     have y2:=hyc 2 _ rfl
     simp only [Nat.add_zero] at y0
     have hbA:yb≠w.heap.size:=fun e=>by have:=hy.young yb rfl;omega
     clear hy hyc
     go_upto_region 12 with fail
     refine reg_mix (fun V=>Fr [w.heap.size] w1 V) [0,1,2,3,4,5,6,7,8,9,10,11] (by kernel_rfl) (by kernel_rfl) (by kernel_rfl) rfl (Fr.drew _ _) ?_
     have FC:Fr [w.heap.size] w1 w1.drew:=Fr.drew _ _
     have hA0:NtAt w1.drew w.heap.size ⟨src,1,n,0,0,0,0,0,0,0,0,false,0,0,0⟩:=HA.out
     generalize w1.drew=WC at FC hA0 ⊢
     iterate 11 (refine mix_take1 (v:=?_) rfl rfl rfl rfl (fun w hS=>?_) ?_;rotate_left;(focus (have y0:=(hS).cel y0 (by simpa using hbA);have y1:=(hS).cel y1 (by simpa using hbA);have y2:=(hS).cel y2 (by simpa using hbA);clear hS;go_simp;rfl));simp only [qu,qv,qx])
     refine mix_do rfl rfl rfl (fun K hK=>?_)
     refine wp_sub 25 31 (.tmp 67) (.tmp 66) w.heap.size 3 (ntC ⟨src,1,n,0,0,0,0,0,0,0,0,false,0,0,0⟩) [.int .i64 a,.int .i64 b,.int .i64 c] rfl rfl rfl (by kernel_rfl) hA0 (by simp [ntC]) (by intro v hv;simp only [List.mem_cons,List.not_mem_nil,or_false] at hv;rcases hv with rfl | rfl | rfl <;> rfl) rfl ?_
     intro W' hA' hf'
     have hA1:NtAt W' w.heap.size ⟨src,1,n,a,b,c,0,0,0,0,0,false,0,0,0⟩:=hA'
     have FC2:=FC.trans hf'
     refine hK _ _ FC2 ?_
     clear hK K
     try simp only [Act.put,qu,qv,qx]
     refine mix_end ?_
     have HF:=qj (HF.out.step FC2 (by simp))
     have HB:=qj (FC2.keep HB.out (by simp))
     have HR:=qj (FC2.keep HR.out (by simp;omega))
     have HA:=qj hA1
     have HY:=qj FC2
     clear hA' hA1 hf' FC FC2 hA0
     go_wp2_with fail
     go_meet
     case rel=>exact ⟨⟨src,1,n,a,b,c,0,0,0,0,0,false,0,0,0⟩,q,hq,⟨by rw [HO.out];rfl⟩,HA,HB,HR,HF⟩
   ·by_cases k2:k=2
    ·subst k2
     have hmk:manyN 2=5:=rfl
     have C5:=qj (CN.out w1 p 5 HR.out (by omega) (by omega))
     rw [show ((5:Nat):Int)=5 from rfl] at C5
     generalize hG:getN (bts s) 5 p=G at C5
     cases G with
     | none =>
      have HE:Shut (O=none):=⟨by rw [HO.out,hmk,hG]⟩
      clear hG HO
      go_wp2_with fail
      refine C5.out.mono ?_
      rintro e w2 ⟨rfl,f1⟩
      refine rd_fail w.heap.size (w.heap.size+1) _ _ (f1.keep HA.out (by simp;omega)) (f1.keep HB.out (by simp)) (by omega) rfl rfl (fun w' f'=>⟨by rw [HE.out];rfl,(HF.out.step f1 (by simp;omega)).step f' (by simp)⟩)
     | some x =>
      obtain ⟨l,q⟩:=x
      have hl:=getN_len 5 hG
      have hq:q≤s.size:=(getN_sound 5 (show p≤(bts s).length from hq) hG).2.2
      obtain ⟨a,b,c,d,g,rfl⟩:∃ a b c d g,l=[a,b,c,d,g]:=by
       match l,hl with
       | [x0,x1,x2,x3,x4],_=>exact ⟨_,_,_,_,_,rfl⟩
      have HO:Shut (O=match mkN src [2,n] [a,b,c,d,g] with
       | none=>none
       | some f=>if q=(bts s).length∧fmN f=true then some f else none):=⟨by rw [HO.out,hmk,hG]⟩
      clear hG hl
      go_wp2_with fail
      refine C5.out.mono ?_
      rintro e w1 ⟨v,rfl,hy,hr⟩
      have hlA:=blk_lt HA.out
      have HF:=qj (HF.out.step hy.fr (by simp;omega))
      have HA:Hid (NtAt w1 w.heap.size _):=qj (hy.fr.keep HA.out (by simp;omega))
      have HB:=qj (hy.fr.keep HB.out (by simp))
      have HR:=qj hr
      clear hr C5
      obtain ⟨ya,yc,rfl⟩:=hy.val
      obtain ⟨yb,yo,rfl,hyc⟩:=(sl_of_row hy.row).at_ (by simp)
      have y0:=hyc 0 _ rfl
      have y1:=hyc 1 _ rfl
      have y2:=hyc 2 _ rfl
      have y3:=hyc 3 _ rfl
      have y4:=hyc 4 _ rfl
      simp only [Nat.add_zero] at y0
      have hbA:yb≠w.heap.size:=fun e=>by have:=hy.young yb rfl;omega
      clear hy hyc
      have CW:=qj fun W=>caIsWithin_c g 0 1 W
      cases hb:inB g 0 1 with
      | false =>
       have HE:Shut (O=none):=⟨by
        rw [HO.out]
        have hg:=inB_no.1 hb
        rw [show mkN src [2,n] [a,b,c,d,g]=none by unfold mkN;simp only;rw [if_neg (by omega)]]⟩
       rw [hb] at CW
       clear hb HO
       go_wp2_with fail
       refine (CW.out _).mono ?_
       rintro e w9 ⟨rfl,rfl⟩
       go_wp2_with fail
       refine (must_bad _).mono ?_
       rintro e w9 ⟨rfl,rfl⟩
       refine rd_fail w.heap.size (w.heap.size+1) _ _ HA.out HB.out (by omega) rfl rfl (fun w' f'=>⟨by rw [HE.out];rfl,HF.out.step f' (by simp)⟩)
      | true =>
       have HMK:Shut (mkN src [2,n] [a,b,c,d,g]=some ⟨src,2,n,0,0,0,n,a,b,c,d,decide (g=1),0,0,0⟩):=⟨by
        have hg:=inB_iff.1 hb
        unfold mkN;simp only;rw [if_pos (by first | exact ⟨rfl,by omega⟩ | exact ⟨trivial,by omega⟩)]⟩
       rw [hb] at CW
       clear hb
       go_wp2_with fail
       refine (CW.out _).mono ?_
       rintro e w9 ⟨rfl,rfl⟩
       go_wp2_with fail
       refine (must_ok _).mono ?_
       rintro e w9 ⟨rfl,rfl⟩
       go_upto_region 16 with fail
       refine reg_mix (fun V=>Fr [w.heap.size] w1 V∧V.cell? ⟨w.heap.size,2,none⟩=some (.int .i64 n)) [0,1,2,3,4,5,6,7,8,9,10,11,12,13,14,15,16,17,18,19,20] (by kernel_rfl) (by kernel_rfl) (by kernel_rfl) rfl ⟨Fr.drew _ _,HA.out.cells 2 _ rfl⟩ ?_
       have FC:Fr [w.heap.size] w1 w1.drew:=Fr.drew _ _
       have hA0:NtAt w1.drew w.heap.size ⟨src,2,n,0,0,0,0,0,0,0,0,false,0,0,0⟩:=HA.out
       generalize w1.drew=WC at FC hA0 ⊢
       iterate 20 (refine mix_take1 (v:=?_) rfl rfl rfl rfl (fun w hS=>?_) ?_;rotate_left;(focus (have y0:=(hS.1).cel y0 (by simpa using hbA);have y1:=(hS.1).cel y1 (by simpa using hbA);have y2:=(hS.1).cel y2 (by simpa using hbA);have y3:=(hS.1).cel y3 (by simpa using hbA);have y4:=(hS.1).cel y4 (by simpa using hbA);have xn:=hS.2;clear hS;go_simp;rfl));simp only [qu,qv,qx])
       refine mix_do rfl rfl rfl (fun K hK=>?_)
       refine wp_sub 27 31 (.tmp 96) (.tmp 95) w.heap.size 6 (ntC ⟨src,2,n,0,0,0,0,0,0,0,0,false,0,0,0⟩) [.int .i64 n,.int .i64 a,.int .i64 b,.int .i64 c,.int .i64 d,.bool (decide (g=1))] rfl rfl rfl (by kernel_rfl) hA0 (by simp [ntC]) (by intro v hv;simp only [List.mem_cons,List.not_mem_nil,or_false] at hv;rcases hv with rfl | rfl | rfl | rfl | rfl | rfl <;> rfl) rfl ?_
       intro W' hA' hf'
       have hA1:NtAt W' w.heap.size ⟨src,2,n,0,0,0,n,a,b,c,d,decide (g=1),0,0,0⟩:=hA'
       have FC2:=FC.trans hf'
       refine hK _ _ ⟨FC2,hA1.cells 2 _ rfl⟩ ?_
       clear hK K
       try simp only [Act.put,qu,qv,qx]
       refine mix_end ?_
       have HF:=qj (HF.out.step FC2 (by simp))
       have HB:=qj (FC2.keep HB.out (by simp))
       have HR:=qj (FC2.keep HR.out (by simp;omega))
       have HA:=qj hA1
       have HY:=qj FC2
       clear hA' hA1 hf' FC FC2 hA0
       go_wp2_with fail
       go_meet
       case rel=>exact ⟨⟨src,2,n,0,0,0,n,a,b,c,d,decide (g=1),0,0,0⟩,q,hq,⟨by rw [HO.out];rw [HMK.out]⟩,HA,HB,HR,HF⟩
    ·have hmk:manyN k=6:=by unfold manyN;rw [if_neg k1,if_neg k2]
     have HMK:Shut (∀ a b c d g h,mkN src [k,n] [a,b,c,d,g,h]=some ⟨src,k,n,0,0,0,n,a,b,0,c,false,d,g,h⟩):=⟨fun a b c d g h=>by unfold mkN;simp only;rw [if_pos ⟨k1,k2⟩]⟩
     have q1:(k == 1)=false:=beq_eq_false_iff_ne.2 k1
     have q2:(k == 2)=false:=beq_eq_false_iff_ne.2 k2
     clear k1 k2
     have C6:=qj (CN.out w1 p 6 HR.out (by omega) (by omega))
     rw [show ((6:Nat):Int)=6 from rfl] at C6
     generalize hG:getN (bts s) 6 p=G at C6
     cases G with
     | none =>
      have HE:Shut (O=none):=⟨by rw [HO.out,hmk,hG]⟩
      clear hG HO
      go_wp2_with fail
      refine C6.out.mono ?_
      rintro e w2 ⟨rfl,f1⟩
      refine rd_fail w.heap.size (w.heap.size+1) _ _ (f1.keep HA.out (by simp;omega)) (f1.keep HB.out (by simp)) (by omega) rfl rfl (fun w' f'=>⟨by rw [HE.out];rfl,(HF.out.step f1 (by simp;omega)).step f' (by simp)⟩)
     | some x =>
      obtain ⟨l,q⟩:=x
      have hl:=getN_len 6 hG
      have hq:q≤s.size:=(getN_sound 6 (show p≤(bts s).length from hq) hG).2.2
      obtain ⟨a,b,c,d,g,h,rfl⟩:∃ a b c d g h,l=[a,b,c,d,g,h]:=by
       match l,hl with
       | [x0,x1,x2,x3,x4,x5],_=>exact ⟨_,_,_,_,_,_,rfl⟩
      have HO:Shut (O=match mkN src [k,n] [a,b,c,d,g,h] with
       | none=>none
       | some f=>if q=(bts s).length∧fmN f=true then some f else none):=⟨by rw [HO.out,hmk,hG]⟩
      clear hG hl
      go_wp2_with fail
      refine C6.out.mono ?_
      rintro e w1 ⟨v,rfl,hy,hr⟩
      have hlA:=blk_lt HA.out
      have HF:=qj (HF.out.step hy.fr (by simp;omega))
      have HA:Hid (NtAt w1 w.heap.size _):=qj (hy.fr.keep HA.out (by simp;omega))
      have HB:=qj (hy.fr.keep HB.out (by simp))
      have HR:=qj hr
      clear hr C6
      obtain ⟨ya,yc,rfl⟩:=hy.val
      obtain ⟨yb,yo,rfl,hyc⟩:=(sl_of_row hy.row).at_ (by simp)
      have y0:=hyc 0 _ rfl
      have y1:=hyc 1 _ rfl
      have y2:=hyc 2 _ rfl
      have y3:=hyc 3 _ rfl
      have y4:=hyc 4 _ rfl
      have y5:=hyc 5 _ rfl
      simp only [Nat.add_zero] at y0
      have hbA:yb≠w.heap.size:=fun e=>by have:=hy.young yb rfl;omega
      clear hy hyc
      go_upto_region 8 with fail
      refine reg_mix (fun V=>Fr [w.heap.size] w1 V∧V.cell? ⟨w.heap.size,2,none⟩=some (.int .i64 n)) [0,1,2,3,4,5,6,7,8,9,10,11,12,13] (by kernel_rfl) (by kernel_rfl) (by kernel_rfl) rfl ⟨Fr.drew _ _,HA.out.cells 2 _ rfl⟩ ?_
      have FC:Fr [w.heap.size] w1 w1.drew:=Fr.drew _ _
      have hA0:NtAt w1.drew w.heap.size ⟨src,k,n,0,0,0,0,0,0,0,0,false,0,0,0⟩:=HA.out
      generalize w1.drew=WC at FC hA0 ⊢
      iterate 13 (refine mix_take1 (v:=?_) rfl rfl rfl rfl (fun w hS=>?_) ?_;rotate_left;(focus (have y0:=(hS.1).cel y0 (by simpa using hbA);have y1:=(hS.1).cel y1 (by simpa using hbA);have y2:=(hS.1).cel y2 (by simpa using hbA);have xn:=hS.2;clear hS;go_simp;rfl));simp only [qu,qv,qx])
      refine mix_do rfl rfl rfl (fun K hK=>?_)
      refine wp_sub 27 31 (.tmp 41) (.tmp 40) w.heap.size 6 (ntC ⟨src,k,n,0,0,0,0,0,0,0,0,false,0,0,0⟩) [.int .i64 n,.int .i64 a,.int .i64 b,.int .i64 0,.int .i64 c,.bool false] rfl rfl rfl (by kernel_rfl) hA0 (by simp [ntC]) (by intro v hv;simp only [List.mem_cons,List.not_mem_nil,or_false] at hv;rcases hv with rfl | rfl | rfl | rfl | rfl | rfl <;> rfl) rfl ?_
      intro W' hA' hf'
      have hA1:NtAt W' w.heap.size ⟨src,k,n,0,0,0,n,a,b,0,c,false,0,0,0⟩:=hA'
      have FC2:=FC.trans hf'
      refine hK _ _ ⟨FC2,hA1.cells 2 _ rfl⟩ ?_
      clear hK K
      try simp only [Act.put,qu,qv,qx]
      refine mix_end ?_
      have HF:=qj (HF.out.step FC2 (by simp))
      have HB:=qj (FC2.keep HB.out (by simp))
      have HR:=qj (FC2.keep HR.out (by simp;omega))
      have HA:=qj hA1
      have HY:=qj FC2
      clear hA' hA1 hf' FC FC2 hA0
      have hy:=HY.out
      have y3:=hy.cel y3 (by simpa using hbA);have y4:=hy.cel y4 (by simpa using hbA);have y5:=hy.cel y5 (by simpa using hbA)
      clear hy HY y0 y1 y2
      generalize hw1:W'=w1 at *
      clear hw1
      go_upto_region 9 with fail
      refine reg_mix (fun V=>Fr [w.heap.size] w1 V) [0,1,2,3,4,5,6,7,8,9,10,11] (by kernel_rfl) (by kernel_rfl) (by kernel_rfl) rfl (Fr.drew _ _) ?_
      have FC:Fr [w.heap.size] w1 w1.drew:=Fr.drew _ _
      have hA0:NtAt w1.drew w.heap.size ⟨src,k,n,0,0,0,n,a,b,0,c,false,0,0,0⟩:=HA.out
      generalize w1.drew=WC at FC hA0 ⊢
      iterate 11 (refine mix_take1 (v:=?_) rfl rfl rfl rfl (fun w hS=>?_) ?_;rotate_left;(focus (have y3:=(hS).cel y3 (by simpa using hbA);have y4:=(hS).cel y4 (by simpa using hbA);have y5:=(hS).cel y5 (by simpa using hbA);clear hS;go_simp;rfl));simp only [qu,qv,qx])
      refine mix_do rfl rfl rfl (fun K hK=>?_)
      refine wp_sub 29 31 (.tmp 52) (.tmp 51) w.heap.size 12 (ntC ⟨src,k,n,0,0,0,n,a,b,0,c,false,0,0,0⟩) [.int .i64 d,.int .i64 g,.int .i64 h] rfl rfl rfl (by kernel_rfl) hA0 (by simp [ntC]) (by intro v hv;simp only [List.mem_cons,List.not_mem_nil,or_false] at hv;rcases hv with rfl | rfl | rfl <;> rfl) rfl ?_
      intro W' hA' hf'
      have hA1:NtAt W' w.heap.size ⟨src,k,n,0,0,0,n,a,b,0,c,false,d,g,h⟩:=hA'
      have FC2:=FC.trans hf'
      refine hK _ _ FC2 ?_
      clear hK K
      try simp only [Act.put,qu,qv,qx]
      refine mix_end ?_
      have HF:=qj (HF.out.step FC2 (by simp))
      have HB:=qj (FC2.keep HB.out (by simp))
      have HR:=qj (FC2.keep HR.out (by simp;omega))
      have HA:=qj hA1
      have HY:=qj FC2
      clear hA' hA1 hf' FC FC2 hA0
      go_wp2_with fail
      go_meet
      case rel=>exact ⟨⟨src,k,n,0,0,0,n,a,b,0,c,false,d,g,h⟩,q,hq,⟨by rw [HO.out];rw [HMK.out]⟩,HA,HB,HR,HF⟩
  case rest =>
   obtain ⟨t,q,hq,HO,HA,HB,HR,HF⟩:=hcut
   have r1:wc.cell? ⟨w.heap.size+1+1,1,none⟩=some (.int .i64 q):=qd HR.out 1
   have x0:=HA.out.cells 0 _ rfl
   have x1:=HA.out.cells 1 _ rfl
   have x2:=HA.out.cells 2 _ rfl
   have x3:=HA.out.cells 3 _ rfl
   have x4:=HA.out.cells 4 _ rfl
   have x5:=HA.out.cells 5 _ rfl
   have x6:=HA.out.cells 6 _ rfl
   have x7:=HA.out.cells 7 _ rfl
   have x8:=HA.out.cells 8 _ rfl
   have x9:=HA.out.cells 9 _ rfl
   have x10:=HA.out.cells 10 _ rfl
   have x11:=HA.out.cells 11 _ rfl
   have x12:=HA.out.cells 12 _ rfl
   have x13:=HA.out.cells 13 _ rfl
   have x14:=HA.out.cells 14 _ rfl
   have CI:=qj fun W=>caIsFormed_c t W
   by_cases hqs:q=s.size
   ·subst hqs
    cases hf:fmN t with
    | false =>
     have HE:Shut (O=none):=⟨by rw [HO.out,hf];simp⟩
     rw [hf] at CI
     clear hf HO
     go_wp2_with fail
     refine (CI.out _).mono ?_
     rintro e w2 ⟨rfl,f2⟩
     clear CI x0 x1 x2 x3 x4 x5 x6 x7 x8 x9 x10 x11 x12 x13 x14
     go_wp2_with fail
     refine (must_bad _).mono ?_
     rintro e w9 ⟨rfl,rfl⟩
     refine rd_fail w.heap.size (w.heap.size+1) _ _ (f2.keep HA.out (by simp)) (f2.keep HB.out (by simp)) (by omega) rfl rfl (fun w' f'=>⟨by rw [HE.out];rfl,(HF.out.trans f2).step f' (by simp)⟩)
    | true =>
     have HE:Shut (O=some t):=⟨by rw [HO.out,hf,if_pos ⟨rfl,rfl⟩]⟩
     rw [hf] at CI
     clear hf HO
     go_wp2_with fail
     refine (CI.out _).mono ?_
     rintro e w2 ⟨rfl,f2⟩
     have HF2:=qj (HF.out.trans f2)
     have HA2:Hid (NtAt w2 w.heap.size t):=qj (f2.keep HA.out (by simp))
     have HB2:=qj (f2.keep HB.out (by simp))
     clear CI f2 x0 x1 x2 x3 x4 x5 x6 x7 x8 x9 x10 x11 x12 x13 x14
     have x0:=HA2.out.cells 0 _ rfl
     have x1:=HA2.out.cells 1 _ rfl
     have x2:=HA2.out.cells 2 _ rfl
     have x3:=HA2.out.cells 3 _ rfl
     have x4:=HA2.out.cells 4 _ rfl
     have x5:=HA2.out.cells 5 _ rfl
     have x6:=HA2.out.cells 6 _ rfl
     have x7:=HA2.out.cells 7 _ rfl
     have x8:=HA2.out.cells 8 _ rfl
     have x9:=HA2.out.cells 9 _ rfl
     have x10:=HA2.out.cells 10 _ rfl
     have x11:=HA2.out.cells 11 _ rfl
     have x12:=HA2.out.cells 12 _ rfl
     have x13:=HA2.out.cells 13 _ rfl
     have x14:=HA2.out.cells 14 _ rfl
     go_wp2_with fail
     refine (must_ok _).mono ?_
     rintro e w9 ⟨rfl,rfl⟩
     go_wp2_with (first | ((with_reducible refine wpList_of_wp (o:=⟨none,.store 31 _ _,_,_,_,_⟩) rfl (fun K hK=>?_));apply stopD;case _other=>exact trivial))
     (refine stopD ?_ ?_;rotate_left;exact trivial)
     refine wp_nt (.tmp 4) (.tmp 109) w.heap.size t t rfl rfl rfl HA2.out rfl (fun W' h1 f1=>hK _ _ ?_)
     clear hK K x0 x1 x2 x3 x4 x5 x6 x7 x8 x9 x10 x11 x12 x13 x14
     have hb:=f1.keep HB2.out (by simp)
     have z0:=qd hb 0
     have u0:=ql hb 0
     have HB3:=qj (qs (i:=0) (.int .i64 0) hb)
     have fs:=Fr.setCell (fp:=[w.heap.size+1]) (p:=⟨w.heap.size+1,0,none⟩) W' (.int .i64 0) (by simp)
     have HA3:Hid (NtAt _ w.heap.size t):=qj (fs.keep h1 (by simp))
     have HF3:=qj ((HF2.out.step f1 (by simp)).step fs (by simp))
     clear h1 f1 hb fs
     go_wp2_with fail
     refine rd_ok w.heap.size (w.heap.size+1) t HA3.out HB3.out rfl rfl ⟨by rw [HE.out];rfl,HF3.out⟩
   ·have hqq:((q:Int) == (s.size:Int))=false:=beq_eq_false_iff_ne.2 (by omega)
    have HE:Shut (O=none):=⟨by rw [HO.out,if_neg (fun h=>hqs h.1)]⟩
    clear HO hqs CI x0 x1 x2 x3 x4 x5 x6 x7 x8 x9 x10 x11 x12 x13 x14
    go_wp2_with fail
    refine (must_bad _).mono ?_
    rintro e w9 ⟨rfl,rfl⟩
    refine rd_fail w.heap.size (w.heap.size+1) _ _ HA.out HB.out (by omega) rfl rfl (fun w' f'=>⟨by rw [HE.out];rfl,HF.out.step f' (by simp)⟩)
end
section
open Go.RowKit Go.Lib
def tk1 (src:Int) (ns:List (Nt × Bool)) (s:ByteArray):List (Nt × Bool):=match readN src (bts s) with
 | some f=>setA ns f true
 | none=>ns
def tkN (src:Int) (l:List ByteArray) (ns:List (Nt × Bool)):List (Nt × Bool):=l.foldl (tk1 src) ns
theorem tkN_succ {src:Int} {l:List ByteArray} {ns:List (Nt × Bool)} {i:Nat} (h:i < l.length):tkN src (l.take (i+1)) ns=tk1 src (tkN src (l.take i) ns) l[i]:=by
 unfold tkN
 rw [List.take_succ_eq_append_getElem h,List.foldl_append];rfl
def takeR (x:CaR) (A B:List EnR) (r:EnR) (p:Pk):CaR:={ x with L:=A++r.put r.vs (inE r.E p) :: B,nts:=tkN r.p (inL r.E p) x.nts }
set_option maxRecDepth 100000 in
set_option maxHeartbeats 4000000 in
theorem caTake_c {w:World} {s:Su} {x:CaR} (h:CaIn w s x) {A B:List EnR} {r:EnR} (hL:x.L=A++r :: B) (hg:getA (epV x.L) r.p=some (.pointer (some ⟨r.eb,0,none⟩))) (p:Pk) (hR:RndAt w) (hp:okP r.E p=true) (hrc:r.E.recv≤1000) (hac:r.E.acked≤1000) (hsl:r.E.sent.length≤1000) (hel:r.E.early.length≤1000)
  (hlb:∀ s,s∈inL r.E p→s.size≤1000000) (hll:(inL r.E p).length≤1000000) :
  Calls Tryz.prog 46 #[.pointer (some ⟨x.cb,0,none⟩),.int .i64 r.p,pkV p] w fun e w'=>e=.returned (.tuple #[.int .i64 ((inL r.E p).length:Nat),.int .i64 0])∧CaIn w' s (takeR x A B r p)∧Upd (caB x) (caB (takeR x A B r p)) w w':=by
 have hr:r∈x.L:=by rw [hL];simp
 have B1:=qm w (.cells #[.int .i64 p.ser,.int .i64 p.ack,.string p.body,.string p.sl] 60)
 have F1:=Fr.alloc [] w (.cells #[.int .i64 p.ser,.int .i64 p.ack,.string p.body,.string p.sl] 60)
 have h1:=h.same F1
 have CI:=qj fun (W:World) (hf:Fr [] w W)=>lkIn_c ((h.same hf).ens.all r hr) p (hR.same hf (by simp)) hp hrc hac hsl hel
 have HX:=qj h
 have HLT:=qj fun k (hk:k∈caB x)=>h.lt hk
 have HLK:=qj fun (W:World) (hf:Fr [] w W)=>ends_look (h.same hf) r.p
 have hEB:∀ k,k∈[r.eb,r.mb]→k∈enFp x.L:=fun k hk=>enFp_mem hr (by simp at hk ⊢;omega)
 have HEB:=qj hEB
 rw [hg] at HLK
 have hbk0:=h.blk
 have HLG:=qj hg
 have HHL:=qj hL;have HLB:=qj hlb
 obtain ⟨cb,jb,nb,mb,bv,kv,L,ns,ad,br⟩:=x
 simp only at hbk0
 generalize hLL:inL r.E p=l at *
 have HLL:=qj hLL
 clear hLL
 have hcbn:cb∉[r.eb,r.mb]:=fun hm=>h.dis.1 (hEB _ hm)
 have HCB:=qj hcbn
 have hpb:w.heap.size∉[r.eb,r.mb]:=fun hm=>absurd (h.lt (k:=w.heap.size) (by simp [hEB _ hm])) (Nat.lt_irrefl _)
 have HPB:=qj hpb
 have SB:=qj B1
 obtain ⟨ow,bl,ra,rc,rs,rr,kl⟩:=s
 have HF1:=qj F1
 have hbk1:=F1.keep hbk0 (by simp)
 clear h h1 hp hrc hac hsl hel hlb hR hr hL hg B1 F1 hEB hcbn hpb hbk0
 go_enter Tryz.func46,Tryz.ntmps46
 go_wp2_with fail
 generalize hpbk:w.heap.size=pb at *
 have HPK:=qj hpbk
 clear hpbk
 generalize hW:w.alloc (.cells #[.int .i64 p.ser,.int .i64 p.ack,.string p.body,.string p.sl] 60)=W at *
 clear hW
 refine reg_mix (fun W'=>W'.heap[cb]?=some (.cells (caC ⟨ow,bl,ra,rc,rs,rr,kl⟩ ⟨cb,jb,nb,mb,bv,kv,L,ns,ad,br⟩).toArray 106 (0,0))∧W'.heap[pb]?=some (.cells #[.int .i64 p.ser,.int .i64 p.ack,.string p.body,.string p.sl] 60 (0,0))) [0,1,2,3,4,6,5,7,8,9,10,11,12] (by kernel_rfl) (by kernel_rfl) (by kernel_rfl) rfl ⟨(Fr.drew [] W).keep hbk1 (by simp),(Fr.drew [] W).keep SB.out (by simp)⟩ ?_
 have FC:Fr [] W (World.drew W):=Fr.drew _ _
 generalize World.drew W=WC at FC ⊢
 have SA:=And.intro (FC.keep hbk1 (by simp)) (FC.keep SB.out (by simp))
 clear hbk1
 iterate 6 (refine mix_take1 (v:=?_) rfl rfl rfl rfl (fun w hS=>?_) ?_;rotate_left;(focus (have c3:World.cell? w ⟨cb,9,none⟩=some (.map (some mb)):=qd hS.1 9;have p0:=qd hS.2 0;have p1:=qd hS.2 1;have p2:=qd hS.2 2;have p3:=qd hS.2 3;clear hS;go_simp;rfl));simp only [qu,qv,qx])
 have HXC:=qj (HX.out.same (HF1.out.trans FC))
 refine mix_do rfl rfl rfl (fun K hK=>?_)
 refine wp_look 104 109 (.tmp 18) (.tmp 19) false r.p rfl rfl rfl HXC.out.ends (keyI Tryz.underlying3) Tryz.underlying104 (zeroEnd _) rfl ?_
 rw [if_neg (by simp),HLG.out,Option.getD_some]
 refine hK _ _ SA ?_
 clear hK K
 try simp only [qu,qv,qx]
 refine mix_do rfl rfl rfl (fun K hK=>?_)
 go_simp
 refine (CI.out _ (HF1.out.trans FC)).mono ?_
 rintro e w2 ⟨v,rfl,hY,hE⟩
 have SE:=And.intro (hY.fr.keep SA.1 HCB.out) (hY.fr.keep SA.2 HPB.out)
 refine hK _ _ SE ?_
 clear hK K SA
 try simp only [Act.put,qu,qv,qx]
 have hUe:Upd r.B (enB r.eb r.mb r.vs) WC w2:=⟨hY.fr.mono (fun k hk=>by simp at hk ⊢;omega),fun _ h=>.inl h⟩
 obtain ⟨h2,hU2⟩:=HXC.out.endp HHL.out hE hUe
 have HX2:Hid (CaIn w2 ⟨ow,bl,ra,rc,rs,rr,kl⟩ ⟨cb,jb,nb,mb,bv,kv,A++r.put r.vs (inE r.E p) :: B,ns,ad,br⟩):=qj h2
 have HU2:Hid (Upd (caB ⟨cb,jb,nb,mb,bv,kv,L,ns,ad,br⟩) (caB ⟨cb,jb,nb,mb,bv,kv,A++r.put r.vs (inE r.E p) :: B,ns,ad,br⟩) w w2):=qj (Upd.trans ⟨(HF1.out.trans FC).mono (by simp),fun _ h=>.inl h⟩ hU2)
 have HVR:Hid (w2.ownsRow 0 9 1 v l.length (l.map Value.string)):=qj hY.row
 have HVY:Hid (∀ g,v.ownBlock=some g→∀ k,k∈caB ⟨cb,jb,nb,mb,bv,kv,L,ns,ad,br⟩→k≠g):=qj fun g hg k hk e=>by
  have h8:=hY.young g hg
  have h9:=HLT.out k hk
  have h10:=(HF1.out.trans FC).size
  have h11:=HPK.out
  omega
 clear hY hE hUe h2 hU2 HXC HX CI HLK HEB
 iterate 5 (refine mix_take1 (v:=?_) rfl rfl rfl rfl (fun w hS=>?_) ?_;rotate_left;(focus (clear hS;go_simp;rfl));simp only [qu,qv,qx])
 refine mix_end ?_
 clear SE
 obtain ⟨a,cap,rfl⟩:=(sl_of_row HVR.out).val
 have hnb:Hid (∀ g,(Value.slice a l.length cap).ownBlock=some g→nb≠g):=qj fun g hg=>HVY.out g hg nb (by simp)
 clear HVY FC HCB HPB HPK SB
 go_wp2_with fail
 go_loopw [30] (fun iv wr=>∃ (i:Nat),iv=.int .i64 i∧i≤l.length∧Hid (wr.ownsRow 0 9 1 (.slice a l.length cap) l.length (l.map Value.string)) ∧
  Hid (CaIn wr ⟨ow,bl,ra,rc,rs,rr,kl⟩ ⟨cb,jb,nb,mb,bv,kv,A++r.put r.vs (inE r.E p) :: B,tkN r.p (l.take i) ns,ad,br⟩)∧Hid (Upd (caB ⟨cb,jb,nb,mb,bv,kv,L,ns,ad,br⟩) (caB ⟨cb,jb,nb,mb,bv,kv,A++r.put r.vs (inE r.E p) :: B,ns,ad,br⟩) w wr)) (fun iv _=>l.length - (RowKit.intOf iv).toNat)
 case atStart=>exact ⟨0,rfl,Nat.zero_le _,HVR,HX2,HU2⟩
 case round =>
  clear HVR HX2 HU2
  obtain ⟨i,rfl,hi,HVR,HX,HU⟩:=hrel
  by_cases hlt:i < l.length
  ·obtain ⟨b',off,rfl,hc⟩:=(sl_of_row HVR.out).at_ (by omega)
   have c0:=hc i _ (by simp [hlt];rfl)
   have hcp:=(sl_of_row HVR.out).caps3
   have CR:=qj fun (W:World)=>CARead_c r.p l[i] W (by have:=HLB.out l[i] (List.getElem_mem hlt);omega)
   have HN:=qj (tkN_succ (src:=r.p) (ns:=ns) hlt)
   clear hc
   go_wp2_with fail
   refine (CR.out _).mono ?_
   rintro e w3 ⟨rfl,f3⟩
   have HX3:=qj (HX.out.same f3)
   have HU3:=qj (HU.out.trans ⟨f3.mono (by simp),fun _ h=>.inl h⟩)
   have HV3:Hid (w3.ownsRow 0 9 1 (.slice (some ⟨b',off,none⟩) l.length cap) l.length (l.map Value.string)):=qj (row_fr HVR.out f3 (by simp))
   clear f3 CR c0 HX HU HVR
   unfold readV
   cases hrd:readN r.p (bts l[i]) with
   | none =>
    have hst:Hid (tkN r.p (l.take (i+1)) ns=tkN r.p (l.take i) ns):=qj (by rw [HN.out,tk1,hrd])
    clear hrd HN
    simp only [rdV]
    go_wp2_with fail
    go_roundw
    case rel=>exact ⟨i+1,by go_num,by omega,qj (row_fr HV3.out (Fr.alloc [] _ _) (by simp)),qj (by rw [hst.out];exact HX3.out.same (Fr.alloc [] _ _)),qj (HU3.out.trans ⟨(Fr.alloc [] _ _).mono (by simp),fun _ h=>.inl h⟩)⟩
    case measure=>simp [RowKit.intOf];omega
   | some f =>
    have hst:Hid (tkN r.p (l.take (i+1)) ns=setA (tkN r.p (l.take i) ns) f true):=qj (by rw [HN.out,tk1,hrd])
    clear hrd HN
    simp only [rdV]
    go_wp2_with fail
    have FA:=Fr.alloc [] w3 (.cells #[.int .i64 f.src,.int .i64 f.kind,.int .i64 f.num,.int .i64 f.lk,.int .i64 f.la,.int .i64 f.lh,.int .i64 f.cn,.int .i64 f.cf,.int .i64 f.ct,.int .i64 f.ch,.int .i64 f.ca,.bool f.cb,.int .i64 f.ek,.int .i64 f.ea,.int .i64 f.er] 31)
    have HBN:=qj (qm w3 (.cells #[.int .i64 f.src,.int .i64 f.kind,.int .i64 f.num,.int .i64 f.lk,.int .i64 f.la,.int .i64 f.lh,.int .i64 f.cn,.int .i64 f.cf,.int .i64 f.ct,.int .i64 f.ch,.int .i64 f.ca,.bool f.cb,.int .i64 f.ek,.int .i64 f.ea,.int .i64 f.er] 31))
    have HX4:=qj (HX3.out.same FA)
    have HU4:=qj (HU3.out.trans ⟨FA.mono (by simp),fun _ h=>.inl h⟩)
    have HV4:=qj (row_fr HV3.out FA (by simp))
    clear FA HX3 HU3 HV3
    generalize w3.alloc (.cells #[.int .i64 f.src,.int .i64 f.kind,.int .i64 f.num,.int .i64 f.lk,.int .i64 f.la,.int .i64 f.lh,.int .i64 f.cn,.int .i64 f.cf,.int .i64 f.ct,.int .i64 f.ch,.int .i64 f.ca,.bool f.cb,.int .i64 f.ek,.int .i64 f.ea,.int .i64 f.er] 31)=w4 at *
    have x8:w4.cell? ⟨cb,8,none⟩=some (.map (some nb)):=qd HX4.out.blk 8
    refine reg_fin (Fr [] w4) 5 [0,1,2,3,4,5] (by kernel_rfl) (by kernel_rfl) (by kernel_rfl) rfl ?_
    have FC:Fr [] w4 (World.drew w4):=Fr.drew _ _
    generalize World.drew w4=WC at FC ⊢
    iterate 5 (refine fin_take (v:=?_) rfl rfl rfl rfl FC (fun w hS=>?_) ?_;rotate_left;(focus (have x8:=hS.cel x8 (by simp);have BE:=hS.keep HBN.out (by simp);have b0:=qd BE 0;have b1:=qd BE 1;have b2:=qd BE 2;have b3:=qd BE 3;have b4:=qd BE 4;have b5:=qd BE 5;have b6:=qd BE 6;have b7:=qd BE 7;have b8:=qd BE 8;have b9:=qd BE 9;have b10:=qd BE 10;have b11:=qd BE 11;have b12:=qd BE 12;have b13:=qd BE 13;have b14:=qd BE 14;  clear BE;clear hS;go_simp;rfl));simp only [qu,qv,qx])
    refine fin_last rfl rfl rfl (fun K hK=>?_)
    have HXC:=qj (HX4.out.same FC)
    refine wp_upd 103 4 (.tmp 45) (.tmp 46) (.const (.bool true)) f rfl rfl rfl HXC.out.nts keyN Tryz.underlying103 rfl ?_
    intro w5 f5 hz5 hm5
    have hm6:MpAt ntV w5 nb (mapV Value.bool (setA (tkN r.p (l.take i) ns) f true)):=by rw [← setA_mapV];exact hm5
    have HX5:=qj (HXC.out.note f5 hm6)
    have HV5:=qj (row_fr (row_fr HV4.out FC (by simp)) f5 (fun g hg hm=>by simp at hm;exact hnb.out g hg hm.symm))
    have HU5:=qj (HU4.out.trans ⟨(FC.mono (by simp)).trans (f5.mono (by simp)),fun _ h=>.inl h⟩)
    refine hK _ _ ?_
    clear hK K x8 f5 hm5 hm6 HXC HX4 FC HU4 HV4 hz5 HBN
    go_wp2_with fail
    go_roundw
    case rel=>exact ⟨i+1,by go_num,by omega,HV5,qj (by rw [hst.out];exact HX5.out),HU5⟩
    case measure=>simp [RowKit.intOf];omega
  ·obtain rfl:i=l.length:=by omega
   go_wp2_with fail
   go_ret2
   have h5:=HX.out
   have h6:=HU.out
   rw [List.take_length] at h5
   refine ⟨rfl,?_,h6⟩
   show CaIn wr _ ⟨cb,jb,nb,mb,bv,kv,A++r.put r.vs (inE r.E p) :: B,tkN r.p (inL r.E p) ns,ad,br⟩
   rw [HLL.out]
   exact h5
end
end Go.Proofs.YtledkokhghjfmaaGreatDoor
