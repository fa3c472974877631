/-
  slices.Clone of a list that is not empty: blocks, strings.
-/
import Derived.Test.YtledkokhghjfmaaGreatDoorPS21
import Derived.Test.YtledkokhghjfmaaGreatDoorPS18
import Derived.Test.YtledkokhghjfmaaGreatDoorPS24
import Derived.Test.YtledkokhghjfmaaGreatDoorPS13
namespace Go.Proofs.YtledkokhghjfmaaGreatDoor
section
open Go.RowKit Go.Lib
theorem infoBlkT:(Tryz.prog.info? 99).map (fun i=>(i.zero,i.size,i.bytes))=some (some (.agg #[.int .i64 0,.int .i64 0,.int .i64 0]),3,24):=by kernel_rfl
theorem bkC_len:∀ l:List Bk,(l.flatMap bkC).length=l.length*3
 | []=>rfl
 | x :: l=>by rw [List.flatMap_cons,List.length_append,bkC_len l,List.length_cons];simp [bkC];omega
theorem eqSome_Blk (w:World) (a:Addr) (n c:Nat):(binOp .eql 44 (.slice (some a) n c) (.slice none 0 0)).run Tryz.prog w=.ok (.bool false) w:=by kernel_rfl
set_option maxRecDepth 100000 in
set_option maxHeartbeats 1000000 in
theorem cloneBlk_c (v:Value) (l:List Bk) (w:World) (h:Sl w v l.length (l.flatMap bkC)) (hl:l.length≤1000000) (h0:0 < l.length) :
  Calls Tryz.prog 48 #[v] w fun e w'=>∃ v',e=.returned v'∧w'.ownsRow 0 99 3 v' l.length (l.flatMap bkC)∧Fr [] w w'∧∀ g,v'.ownBlock=some g→w.heap.size≤g:=by
 obtain ⟨a,cap,rfl⟩:=h.val
 obtain ⟨b,o,rfl,_⟩:=h.at_ h0
 have HS:=qj ((h.same (Fr.alloc [] w (.cells #[] 99))).src h0)
 have HL:Hid ((l.flatMap bkC).length=l.length*3):=qj (bkC_len l)
 have H1:Hid (∀ v,v∈(l.flatMap bkC)→v.oneCell'=true):=qj (by intro v hv;obtain ⟨x,_,hx⟩:=List.mem_flatMap.1 hv;simp [bkC] at hx;rcases hx with rfl | rfl | rfl <;> rfl)
 have hcp:=h.caps3
 clear h
 have hq:=eqSome_Blk
 go_enter Tryz.func48,Tryz.ntmps48
 go_wp2_with (first | ((with_reducible refine wpList_of_wp (o:=⟨some 7,_,_,_,_,_⟩) rfl (fun K hK=>?_));apply stopD;case _other=>exact trivial))
 (refine stopD ?_ ?_;rotate_left;exact trivial)
 refine wp_append_src (.tmp 5) (.tmp 6) 44 99 (.agg #[.int .i64 0,.int .i64 0,.int .i64 0]) 3 24 rfl Tryz.underlying44 infoBlkT rfl (by decide) (.slice (some ⟨w.heap.size,0,none⟩) 0 0) 0 [] rfl (World.ownsRow_lit w #[] 0 (Nat.zero_le _) (by decide) rfl) _ l.length _ rfl HS.out HL.out H1.out (by omega) (by omega) (fun ga cap2 w9 x1 x2 x3=>hK _ _ ?_)
 have X1:=qj x1;have X2:=qj x2;have X3:=qj x3;clear x1 x2 x3 hK K
 go_wp2_with fail
 go_ret
 have x3:=X3.out
 simp only [Nat.zero_add] at x3
 refine ⟨.slice ga l.length cap2,rfl,by simpa using X1.out,(Fr.alloc _ _ _).step X2.out (fun i hi=>by simp [Value.ownBlock] at hi;exact .inr (by omega)),fun g hg=>?_⟩
 rcases x3 with h | h
 ·rw [h] at hg;simp [Value.ownBlock] at hg;omega
 ·rw [h] at hg;simp at hg;omega
theorem eqSome_Key (w:World) (a:Addr) (n c:Nat):(binOp .eql 40 (.slice (some a) n c) (.slice none 0 0)).run Tryz.prog w=.ok (.bool false) w:=by kernel_rfl
set_option maxRecDepth 100000 in
set_option maxHeartbeats 1000000 in
theorem cloneKey_c (v:Value) (l:List ByteArray) (w:World) (h:Sl w v l.length (l.map Value.string)) (hl:l.length≤1000000) (h0:0 < l.length) :
  Calls Tryz.prog 49 #[v] w fun e w'=>∃ v',e=.returned v'∧w'.ownsRow 0 9 1 v' l.length (l.map Value.string)∧Fr [] w w'∧∀ g,v'.ownBlock=some g→w.heap.size≤g:=by
 obtain ⟨a,cap,rfl⟩:=h.val
 obtain ⟨b,o,rfl,_⟩:=h.at_ h0
 have HS:=qj ((h.same (Fr.alloc [] w (.cells #[] 9))).src h0)
 have HL:Hid ((l.map Value.string).length=l.length*1):=qj (by simp)
 have H1:Hid (∀ v,v∈(l.map Value.string)→v.oneCell'=true):=qj (by intro v hv;obtain ⟨x,_,rfl⟩:=List.mem_map.1 hv;rfl)
 have hcp:=h.caps3
 clear h
 have hq:=eqSome_Key
 go_enter Tryz.func49,Tryz.ntmps49
 go_wp2_with (first | ((with_reducible refine wpList_of_wp (o:=⟨some 7,_,_,_,_,_⟩) rfl (fun K hK=>?_));apply stopD;case _other=>exact trivial))
 (refine stopD ?_ ?_;rotate_left;exact trivial)
 refine wp_append_src (.tmp 5) (.tmp 6) 40 9 (.string ⟨#[]⟩) 1 16 rfl Tryz.underlying40 infoStrT rfl (by decide) (.slice (some ⟨w.heap.size,0,none⟩) 0 0) 0 [] rfl (World.ownsRow_lit w #[] 0 (Nat.zero_le _) (by decide) rfl) _ l.length _ rfl HS.out HL.out H1.out (by omega) (by omega) (fun ga cap2 w9 x1 x2 x3=>hK _ _ ?_)
 have X1:=qj x1;have X2:=qj x2;have X3:=qj x3;clear x1 x2 x3 hK K
 go_wp2_with fail
 go_ret
 have x3:=X3.out
 simp only [Nat.zero_add] at x3
 refine ⟨.slice ga l.length cap2,rfl,by simpa using X1.out,(Fr.alloc _ _ _).step X2.out (fun i hi=>by simp [Value.ownBlock] at hi;exact .inr (by omega)),fun g hg=>?_⟩
 rcases x3 with h | h
 ·rw [h] at hg;simp [Value.ownBlock] at hg;omega
 ·rw [h] at hg;simp at hg;omega
end
section
open Go.RowKit Go.Lib
def en0 (l:List ByteArray) (o p:Nat):En:=⟨keyM l o (p:Int),keyM l p (o:Int),[],0,0,[]⟩
def ends0 (l:List ByteArray) (o:Nat):Nat→List (Int × En)
 | 0=>[]
 | k+1=>if k=o then ends0 l o k else ends0 l o k++[((k:Int),en0 l o k)]
theorem ends0_lt (l:List ByteArray) (o:Nat):∀ k e,e∈ends0 l o k→0≤e.1∧e.1 < (k:Int)
 | 0,_,h=>by simp [ends0] at h
 | k+1,e,h=>by
  rw [ends0] at h
  split at h
  ·have:=ends0_lt l o k e h;omega
  ·rcases List.mem_append.1 h with h | h
   ·have:=ends0_lt l o k e h;omega
   ·simp at h;subst h;simp;omega
theorem suOk_b {s:Su} (h:suOk s=true):(1≤s.keys.length∧s.keys.length≤4)∧(0≤s.own∧s.own < s.keys.length)∧∀ k,k < s.keys.length→(s.keys.getD k ByteArray.empty).size=32:=by
 unfold suOk at h
 simp only [Bool.and_eq_true,inB_iff,Bool.not_eq_true'] at h
 obtain ⟨⟨⟨⟨⟨h1,h2⟩,h3⟩,_⟩,_⟩,_⟩:=h
 refine ⟨by omega,by omega,fun k hk=>?_⟩
 unfold anyN at h3
 have h4:=List.any_eq_false.1 h3 k (by simpa using hk)
 simpa [noneK] using h4
theorem keyM_size (l:List ByteArray) (f:Nat) (t:Int):(keyM l f t).size=32:=shaB_size _
theorem CaIn.more {w w' w2:World} {s:Su} {x:CaR} (h:CaIn w s x) (fa:Fr [] w w') {p:Int} {eb mb:Nat} {vs:Value} {E:En} (hE:EnIn w' eb mb vs E) (hy:∀ k,k∈enB eb mb vs→w.heap.size≤k) (hp:∀ r,r∈x.L→r.p≠p) (f2:Fr [x.mb] w' w2)
  (hm:MpAt (fun a:Int=>Value.int .i64 a) w2 x.mb (setA (epV x.L) p (.pointer (some ⟨eb,0,none⟩)))):CaIn w2 s { x with L:=x.L++[⟨p,eb,mb,vs,E⟩] }:=by
 have hq:setA (epV x.L) p (.pointer (some ⟨eb,0,none⟩))=epV (x.L++[⟨p,eb,mb,vs,E⟩]):=by
  rw [setA_none (fun q hq=>by obtain ⟨r,hr,rfl⟩:=List.mem_map.1 hq;exact hp r hr)]
  simp [epV]
 rw [hq] at hm
 have hmem:∀ k,k∈enFp (x.L++[⟨p,eb,mb,vs,E⟩])→k∈enFp x.L∨w.heap.size≤k:=fun k hk=>by
  simp only [enFp,List.flatMap_append,List.flatMap_cons,List.flatMap_nil,List.append_nil,List.mem_append] at hk ⊢
  rcases hk with hk | hk
  ·exact .inl hk
  ·exact .inr (hy k hk)
 have cbl:=h.lt (k:=x.cb) (by simp);have nbl:=h.lt (k:=x.nb) (by simp);have mbl:=h.lt (k:=x.mb) (by simp)
 have h1:=h.same fa
 refine ⟨f2.keep h1.blk (by simpa using h1.ne.2),h1.nts.keep f2 (by simpa using h.nm),hm,⟨fun r hr=>?_,?_⟩,h.nm,⟨?_,?_,?_⟩,h1.su.fr f2 (fun g hg hm2=>by simp at hm2;subst hm2;exact (h.suA _ hg).2 (by simp)),fun g hg=>⟨Nat.lt_of_lt_of_le (h1.suA g hg).1 f2.size,fun hm2=>?_⟩⟩
 ·rcases List.mem_append.1 hr with hr | hr
  ·exact (h1.ens.all r hr).fr f2 fun k hk hm2=>by simp at hm2;subst hm2;exact h.dis.2.2 (enFp_mem hr hk)
  ·simp at hr;subst hr
   exact hE.fr f2 fun k hk hm2=>by simp at hm2;subst hm2;have:=hy _ hk;omega
 ·refine List.pairwise_append.2 ⟨h.ens.apart,by simp,fun r hr q hq k hk hm2=>?_⟩
  simp at hq;subst hq
  have h3:=(h.ens.all r hr).lt k hk
  have h4:=hy k hm2
  omega
 ·intro hm2
  rcases hmem _ hm2 with h3 | h3
  ·exact h.dis.1 h3
  ·exact absurd cbl (Nat.not_lt.2 h3)
 ·intro hm2
  rcases hmem _ hm2 with h3 | h3
  ·exact h.dis.2.1 h3
  ·exact absurd nbl (Nat.not_lt.2 h3)
 ·intro hm2
  rcases hmem _ hm2 with h3 | h3
  ·exact h.dis.2.2 h3
  ·exact absurd mbl (Nat.not_lt.2 h3)
 ·obtain ⟨h5,h6⟩:=h.suA g hg
  simp only [List.mem_cons] at hm2 h6
  rcases hm2 with rfl | rfl | rfl | hm2
  ·exact h6 (.inl rfl)
  ·exact h6 (.inr (.inl rfl))
  ·exact h6 (.inr (.inr (.inl rfl)))
  ·rcases hmem _ hm2 with h3 | h3
   ·exact h6 (.inr (.inr (.inr h3)))
   ·omega
set_option maxRecDepth 100000 in
set_option maxHeartbeats 8000000 in
theorem CAOpen_c {w:World} {s:Su} {bv kv:Value} {db:Nat} {fp:List Nat} {D D':Dk} {t:Tp} {c':Cp} (o:Nat) (ho:s.own=(o:Int)) (hs:SuAt w bv kv s) (hok:suOk s=true) (hbk:0 < s.bks.length) (htl:t.recs.length≤1000000) (hkz:0 < s.keys.length) (hsa:∀ g,(bv.ownBlock=some g∨kv.ownBlock=some g)→g∉fp) (hD:DkA w db fp D) (a:Addr) (hA:DmgAt w a) (hR:RndAt w) (hRf:1∉fp) (hp:D.pend.length≤4000000000) (hop:D.opens=(0,some t,D'))
  (hrep:RepOk s.own ⟨[],0,ends0 s.keys o s.keys.length⟩ t.recs c') :
  Calls Tryz.prog 15 #[.pointer (some ⟨db,0,none⟩),suV s bv kv] w fun e w'=>∃ x vr fp',e=.returned (.tuple #[.pointer (some ⟨x.cb,0,none⟩),.int .i64 0])∧CjIn w' s x ⟨db,fp',vr,t,false,D'⟩∧x.cp=c'∧x.br=false∧Upd fp (cjB x ⟨db,fp',vr,t,false,D'⟩) w w'∧∀ g,(x.bv.ownBlock=some g∨x.kv.ownBlock=some g)→w.heap.size≤g:=by
 have F1:=Fr.alloc [] w (.cells (suC s bv kv).toArray 48)
 have B1:=qm w (.cells (suC s bv kv).toArray 48)
 have CV:=qj fun (W:World) (hf:Fr [] w W)=>caValid_c s bv kv W (hs.same hf)
 rw [hok] at CV
 have CJ:=qj fun (W:World) (hf:Fr [] w W)=>openJ_c a db fp D W (hD.keep hf (by simp)) (hR.same hf (by simp)) (hA.fr hf (by simp)) hp
 rw [hop] at CJ
 have HS:=qj hs
 have HF1:=qj F1;have HB1:=qj B1
 have HFL:=qj fun k (hk:k∈fp)=>DkAt.lt hD k hk
 have HRP:=qj hrep;have HRN:=qj hR;have HRN0:=qj hR
 have HOK:=qj (suOk_b hok)
 obtain ⟨ow,bl,ra,rc,rs,rr,kl⟩:=s
 simp only at ho HRP hbk hkz
 have HSA:=qj hsa
 have HRF:=qj hRf
 subst ho
 have HO:Hid ((1≤kl.length∧kl.length≤4)∧(0≤(o:Int)∧(o:Int) < kl.length)∧∀ k,k < kl.length→(kl.getD k ByteArray.empty).size=32):=qj HOK.out
 clear HOK
 have c0:=qd B1 0;have c1:=qd B1 1;have c2:=qd B1 2;have c3:=qd B1 3;have c4:=qd B1 4;have c5:=qd B1 5;have c6:=qd B1 6
 clear F1 B1 hs hok hD hA hR hp hop hrep hsa hRf
 go_enter Tryz.func15,Tryz.ntmps15
 go_wp2_with fail
 refine (CV.out _ HF1.out).mono ?_
 rintro e w1 ⟨rfl,f1⟩
 have HF2:=qj (HF1.out.trans f1)
 have HB2:=qj (f1.keep HB1.out (by simp))
 clear f1 CV c0 c1 c2 c3 c4 c5 c6 HF1 HB1
 have CJ2:=qj (CJ.out _ HF2.out)
 clear CJ
 go_wp2_with fail
 refine CJ2.out.mono ?_
 rintro e w2 ⟨fp',hdk,hU,jb,vr,rfl,htp,hap⟩
 have HU2:=qj hU
 have HB3:=qj (hU.fr.keep HB2.out (fun hm=>absurd (HFL.out _ hm) (Nat.lt_irrefl _)))
 have HS2:=qj ((HS.out.same HF2.out).fr hU.fr HSA.out)
 have HDK:=qj hdk;have HTP:=qj htp;have HAP:=qj hap
 have CB:=qj fun (W:World) (hf:Fr [] w2 W)=>cloneBlk_c bv bl W (HS2.out.bks.same hf) HS2.out.bn hbk
 have CK:=qj fun (W:World) (hf:Fr [] w2 W)=>cloneKey_c kv kl W (HS2.out.keys.same hf) HS2.out.kn hkz
 have HLT1:=qj (blk_lt HB2.out)
 clear hdk hU htp hap CJ2 HB2
 go_upto_region 8 with fail
 go_cut [] from 24 to 31 (fun W=>∃ bv' kv',Hid (W.heap[w.heap.size]?=some (.cells (suC ⟨o,bl,ra,rc,rs,rr,kl⟩ bv' kv').toArray 48 (0,0))∧W.ownsRow 0 99 3 bv' bl.length (bl.flatMap bkC)∧W.ownsRow 0 9 1 kv' kl.length (kl.map Value.string)∧(∀ g,bv'.ownBlock=some g→w2.heap.size≤g)∧(∀ g,kv'.ownBlock=some g→w2.heap.size≤g)∧Fr [w.heap.size] w2 W))
 case first =>
  refine reg_tree (fun _=>True) 9 (.take 0 (.take 3 (.two 1 4 (.two 2 4 (.one 4 (.take 6 (.one 5 (.one 7 (.take 8 (.one 9 .nil)))))) (.one 2 (.take 6 (.one 5 (.one 7 (.take 8 (.one 9 .nil))))))) (.one 1 (.one 2 (.take 6 (.one 5 (.one 7 (.take 8 (.one 9 .nil)))))))))) (by kernel_rfl) (by kernel_rfl) (by kernel_rfl) rfl ?_
  have FC:Fr [] w2 (World.drew w2):=Fr.drew _ _
  generalize World.drew w2=WC at FC ⊢
  (refine tree_take (v:=?_) rfl rfl rfl trivial (fun w hS=>?_) ?_;rotate_left;(focus (clear hS;go_simp;rfl));simp only [qu,qv,qx])
  (refine tree_take (v:=?_) rfl rfl rfl trivial (fun w hS=>?_) ?_;rotate_left;(focus (clear hS;go_simp;rfl));simp only [qu,qv,qx])
  refine ⟨?_,?_⟩
  ·refine tree_op rfl rfl (fun K hK=>?_)
   have c1:=qd (FC.keep HB3.out (by simp)) 1
   go_simp
   refine hK _ _ trivial ?_
   clear hK K c1
   try simp only [Act.put,qu,qv,qx]
   refine ⟨?_,?_⟩
   ·refine tree_op rfl rfl (fun K hK=>?_)
    go_simp
    refine (CB.out _ FC).mono ?_
    rintro e wq ⟨bv',rfl,rb,fq,yb⟩
    obtain ⟨ab,ac,rfl⟩:=(sl_of_row rb).val
    have HRB:=qj rb
    have FCb:=FC
    have FC:=FC.trans fq
    have HYB:Hid (∀ g,(Value.slice ab bl.length ac).ownBlock=some g→w2.heap.size≤g):=qj fun g hg=>Nat.le_trans FCb.size (yb g hg)
    refine hK _ _ trivial ?_
    clear hK K FCb rb yb fq
    try simp only [Act.put,qu,qv,qx]
    refine tree_one rfl rfl (fun K hK=>?_)
    have c6:=qd (FC.keep HB3.out (by simp)) 6
    go_simp
    refine hK _ _ trivial ?_
    clear hK K c6
    try simp only [Act.put,qu,qv,qx]
    (refine tree_take (v:=?_) rfl rfl rfl trivial (fun w hS=>?_) ?_;rotate_left;(focus (clear hS;go_simp;rfl));simp only [qu,qv,qx])
    refine tree_one rfl rfl (fun K hK=>?_)
    go_simp
    refine (CK.out _ FC).mono ?_
    rintro e wr ⟨kv',rfl,rk,fq,yk⟩
    obtain ⟨kb,kc,rfl⟩:=(sl_of_row rk).val
    have HRB:=qj (row_fr HRB.out fq (by simp))
    have HRK:=qj rk
    have FCb:=FC
    have FC:=FC.trans fq
    have HYK:Hid (∀ g,(Value.slice kb kl.length kc).ownBlock=some g→w2.heap.size≤g):=qj fun g hg=>Nat.le_trans FCb.size (yk g hg)
    refine hK _ _ trivial ?_
    clear hK K FCb rk yk fq
    try simp only [Act.put,qu,qv,qx]
    refine tree_one rfl rfl (fun K hK=>?_)
    have hb8:=FC.keep HB3.out (by simp)
    have c1:=qd hb8 1
    have y1:=ql hb8 1
    go_simp
    refine hK _ _ trivial ?_
    clear hK K
    try simp only [Act.put,qu,qv,qx]
    (refine tree_take (v:=?_) rfl rfl rfl trivial (fun w hS=>?_) ?_;rotate_left;(focus (clear hS;go_simp;rfl));simp only [qu,qv,qx])
    refine tree_last rfl rfl (fun K hK=>?_)
    have hb9:=qs (i:=1) (Value.slice ab bl.length ac) hb8
    have c3:=qd hb9 6
    have y3:=ql hb9 6
    have hb10:=qs (i:=6) (Value.slice kb kl.length kc) hb9
    have hlb:=blk_lt HB3.out
    have fs1:=Fr.setCell (fp:=[w.heap.size]) (p:=⟨w.heap.size,1,none⟩) wr (Value.slice ab bl.length ac) (by simp)
    have fs2:=Fr.setCell (fp:=[w.heap.size]) (p:=⟨w.heap.size,6,none⟩) (wr.setCell ⟨w.heap.size,1,none⟩ (Value.slice ab bl.length ac)) (Value.slice kb kl.length kc) (by simp)
    have rb2:=row_fr (row_fr HRB.out fs1 (fun g hg hm=>by have h8:=HYB.out g hg;simp at hm;omega)) fs2 (fun g hg hm=>by have h8:=HYB.out g hg;simp at hm;omega)
    have rk2:=row_fr (row_fr HRK.out fs1 (fun g hg hm=>by have h8:=HYK.out g hg;simp at hm;omega)) fs2 (fun g hg hm=>by have h8:=HYK.out g hg;simp at hm;omega)
    have HEND:=qj (And.intro hb10 (And.intro rb2 (And.intro rk2 ((FC.mono (fp2:=[w.heap.size]) (by simp)).trans (fs1.trans fs2)))))
    clear fs1 fs2 rb2 rk2
    go_simp
    try go_upon
    try go_simp
    refine hK _ _ ?_
    clear hK K
    refine noPanicN ?_
    go_wp2_with fail
    go_meet
    case rel=>exact ⟨_,_,qj ⟨HEND.out.1,HEND.out.2.1,HEND.out.2.2.1,HYB.out,HYK.out,HEND.out.2.2.2⟩⟩
   ·refine tree_op rfl rfl (fun K hK=>?_)
    have c6:=qd (FC.keep HB3.out (by simp)) 6
    go_simp
    refine hK _ _ trivial ?_
    clear hK K c6
    try simp only [Act.put,qu,qv,qx]
    refine tree_one rfl rfl (fun K hK=>?_)
    go_simp
    refine (CB.out _ FC).mono ?_
    rintro e wq ⟨bv',rfl,rb,fq,yb⟩
    obtain ⟨ab,ac,rfl⟩:=(sl_of_row rb).val
    have HRB:=qj rb
    have FCb:=FC
    have FC:=FC.trans fq
    have HYB:Hid (∀ g,(Value.slice ab bl.length ac).ownBlock=some g→w2.heap.size≤g):=qj fun g hg=>Nat.le_trans FCb.size (yb g hg)
    refine hK _ _ trivial ?_
    clear hK K FCb rb yb fq
    try simp only [Act.put,qu,qv,qx]
    (refine tree_take (v:=?_) rfl rfl rfl trivial (fun w hS=>?_) ?_;rotate_left;(focus (clear hS;go_simp;rfl));simp only [qu,qv,qx])
    refine tree_one rfl rfl (fun K hK=>?_)
    go_simp
    refine (CK.out _ FC).mono ?_
    rintro e wr ⟨kv',rfl,rk,fq,yk⟩
    obtain ⟨kb,kc,rfl⟩:=(sl_of_row rk).val
    have HRB:=qj (row_fr HRB.out fq (by simp))
    have HRK:=qj rk
    have FCb:=FC
    have FC:=FC.trans fq
    have HYK:Hid (∀ g,(Value.slice kb kl.length kc).ownBlock=some g→w2.heap.size≤g):=qj fun g hg=>Nat.le_trans FCb.size (yk g hg)
    refine hK _ _ trivial ?_
    clear hK K FCb rk yk fq
    try simp only [Act.put,qu,qv,qx]
    refine tree_one rfl rfl (fun K hK=>?_)
    have hb8:=FC.keep HB3.out (by simp)
    have c1:=qd hb8 1
    have y1:=ql hb8 1
    go_simp
    refine hK _ _ trivial ?_
    clear hK K
    try simp only [Act.put,qu,qv,qx]
    (refine tree_take (v:=?_) rfl rfl rfl trivial (fun w hS=>?_) ?_;rotate_left;(focus (clear hS;go_simp;rfl));simp only [qu,qv,qx])
    refine tree_last rfl rfl (fun K hK=>?_)
    have hb9:=qs (i:=1) (Value.slice ab bl.length ac) hb8
    have c3:=qd hb9 6
    have y3:=ql hb9 6
    have hb10:=qs (i:=6) (Value.slice kb kl.length kc) hb9
    have hlb:=blk_lt HB3.out
    have fs1:=Fr.setCell (fp:=[w.heap.size]) (p:=⟨w.heap.size,1,none⟩) wr (Value.slice ab bl.length ac) (by simp)
    have fs2:=Fr.setCell (fp:=[w.heap.size]) (p:=⟨w.heap.size,6,none⟩) (wr.setCell ⟨w.heap.size,1,none⟩ (Value.slice ab bl.length ac)) (Value.slice kb kl.length kc) (by simp)
    have rb2:=row_fr (row_fr HRB.out fs1 (fun g hg hm=>by have h8:=HYB.out g hg;simp at hm;omega)) fs2 (fun g hg hm=>by have h8:=HYB.out g hg;simp at hm;omega)
    have rk2:=row_fr (row_fr HRK.out fs1 (fun g hg hm=>by have h8:=HYK.out g hg;simp at hm;omega)) fs2 (fun g hg hm=>by have h8:=HYK.out g hg;simp at hm;omega)
    have HEND:=qj (And.intro hb10 (And.intro rb2 (And.intro rk2 ((FC.mono (fp2:=[w.heap.size]) (by simp)).trans (fs1.trans fs2)))))
    clear fs1 fs2 rb2 rk2
    go_simp
    try go_upon
    try go_simp
    refine hK _ _ ?_
    clear hK K
    refine noPanicN ?_
    go_wp2_with fail
    go_meet
    case rel=>exact ⟨_,_,qj ⟨HEND.out.1,HEND.out.2.1,HEND.out.2.2.1,HYB.out,HYK.out,HEND.out.2.2.2⟩⟩
  ·refine tree_op rfl rfl (fun K hK=>?_)
   have c6:=qd (FC.keep HB3.out (by simp)) 6
   go_simp
   refine hK _ _ trivial ?_
   clear hK K c6
   try simp only [Act.put,qu,qv,qx]
   refine tree_one rfl rfl (fun K hK=>?_)
   have c1:=qd (FC.keep HB3.out (by simp)) 1
   go_simp
   refine hK _ _ trivial ?_
   clear hK K c1
   try simp only [Act.put,qu,qv,qx]
   refine tree_one rfl rfl (fun K hK=>?_)
   go_simp
   refine (CB.out _ FC).mono ?_
   rintro e wq ⟨bv',rfl,rb,fq,yb⟩
   obtain ⟨ab,ac,rfl⟩:=(sl_of_row rb).val
   have HRB:=qj rb
   have FCb:=FC
   have FC:=FC.trans fq
   have HYB:Hid (∀ g,(Value.slice ab bl.length ac).ownBlock=some g→w2.heap.size≤g):=qj fun g hg=>Nat.le_trans FCb.size (yb g hg)
   refine hK _ _ trivial ?_
   clear hK K FCb rb yb fq
   try simp only [Act.put,qu,qv,qx]
   (refine tree_take (v:=?_) rfl rfl rfl trivial (fun w hS=>?_) ?_;rotate_left;(focus (clear hS;go_simp;rfl));simp only [qu,qv,qx])
   refine tree_one rfl rfl (fun K hK=>?_)
   go_simp
   refine (CK.out _ FC).mono ?_
   rintro e wr ⟨kv',rfl,rk,fq,yk⟩
   obtain ⟨kb,kc,rfl⟩:=(sl_of_row rk).val
   have HRB:=qj (row_fr HRB.out fq (by simp))
   have HRK:=qj rk
   have FCb:=FC
   have FC:=FC.trans fq
   have HYK:Hid (∀ g,(Value.slice kb kl.length kc).ownBlock=some g→w2.heap.size≤g):=qj fun g hg=>Nat.le_trans FCb.size (yk g hg)
   refine hK _ _ trivial ?_
   clear hK K FCb rk yk fq
   try simp only [Act.put,qu,qv,qx]
   refine tree_one rfl rfl (fun K hK=>?_)
   have hb8:=FC.keep HB3.out (by simp)
   have c1:=qd hb8 1
   have y1:=ql hb8 1
   go_simp
   refine hK _ _ trivial ?_
   clear hK K
   try simp only [Act.put,qu,qv,qx]
   (refine tree_take (v:=?_) rfl rfl rfl trivial (fun w hS=>?_) ?_;rotate_left;(focus (clear hS;go_simp;rfl));simp only [qu,qv,qx])
   refine tree_last rfl rfl (fun K hK=>?_)
   have hb9:=qs (i:=1) (Value.slice ab bl.length ac) hb8
   have c3:=qd hb9 6
   have y3:=ql hb9 6
   have hb10:=qs (i:=6) (Value.slice kb kl.length kc) hb9
   have hlb:=blk_lt HB3.out
   have fs1:=Fr.setCell (fp:=[w.heap.size]) (p:=⟨w.heap.size,1,none⟩) wr (Value.slice ab bl.length ac) (by simp)
   have fs2:=Fr.setCell (fp:=[w.heap.size]) (p:=⟨w.heap.size,6,none⟩) (wr.setCell ⟨w.heap.size,1,none⟩ (Value.slice ab bl.length ac)) (Value.slice kb kl.length kc) (by simp)
   have rb2:=row_fr (row_fr HRB.out fs1 (fun g hg hm=>by have h8:=HYB.out g hg;simp at hm;omega)) fs2 (fun g hg hm=>by have h8:=HYB.out g hg;simp at hm;omega)
   have rk2:=row_fr (row_fr HRK.out fs1 (fun g hg hm=>by have h8:=HYK.out g hg;simp at hm;omega)) fs2 (fun g hg hm=>by have h8:=HYK.out g hg;simp at hm;omega)
   have HEND:=qj (And.intro hb10 (And.intro rb2 (And.intro rk2 ((FC.mono (fp2:=[w.heap.size]) (by simp)).trans (fs1.trans fs2)))))
   clear fs1 fs2 rb2 rk2
   go_simp
   try go_upon
   try go_simp
   refine hK _ _ ?_
   clear hK K
   refine noPanicN ?_
   go_wp2_with fail
   go_meet
   case rel=>exact ⟨_,_,qj ⟨HEND.out.1,HEND.out.2.1,HEND.out.2.2.1,HYB.out,HYK.out,HEND.out.2.2.2⟩⟩
 case rest =>
  obtain ⟨bv',kv',HC⟩:=hcut
  have hmm:=@run_makeMap Tryz.prog
  obtain ⟨kb,kc,rfl⟩:=(sl_of_row HC.out.2.2.1).val
  have c0:=qd HC.out.1 0;have c1:=qd HC.out.1 1;have c2:=qd HC.out.1 2;have c3:=qd HC.out.1 3;have c4:=qd HC.out.1 4;have c5:=qd HC.out.1 5;have c6:=qd HC.out.1 6
  clear CB CK HS2 HB3
  go_upto_region 10 with fail
  have HMN:=qj (((mpAt_new (enc:=ntV) wc).keep (Fr.alloc [] _ (.map #[] 0)) (by simp)).keep (Fr.alloc [] _ (.cells (caC ⟨o,bl,ra,rc,rs,rr,kl⟩ ⟨wc.heap.size+1+1,jb,wc.heap.size,wc.heap.size+1,bv',.slice kb kl.length kc,[],[],0,false⟩).toArray 106)) (by simp))
  have HME:=qj (((mpAt_new (enc:=fun a:Int=>Value.int .i64 a) (wc.alloc (.map #[] 0))).keep (Fr.alloc [] _ (.cells (caC ⟨o,bl,ra,rc,rs,rr,kl⟩ ⟨wc.heap.size+1+1,jb,wc.heap.size,wc.heap.size+1,bv',.slice kb kl.length kc,[],[],0,false⟩).toArray 106)) (by simp)))
  have HBC:=qj (qm ((wc.alloc (.map #[] 0)).alloc (.map #[] 0)) (.cells (caC ⟨o,bl,ra,rc,rs,rr,kl⟩ ⟨wc.heap.size+1+1,jb,wc.heap.size,wc.heap.size+1,bv',.slice kb kl.length kc,[],[],0,false⟩).toArray 106))
  have HF3:Hid (Fr [] wc (((wc.alloc (.map #[] 0)).alloc (.map #[] 0)).alloc (.cells (caC ⟨o,bl,ra,rc,rs,rr,kl⟩ ⟨wc.heap.size+1+1,jb,wc.heap.size,wc.heap.size+1,bv',.slice kb kl.length kc,[],[],0,false⟩).toArray 106))):=qj ((Fr.alloc [] _ _).trans ((Fr.alloc [] _ _).trans (Fr.alloc [] _ _)))
  generalize hW3:((wc.alloc (.map #[] 0)).alloc (.map #[] 0)).alloc (.cells (caC ⟨o,bl,ra,rc,rs,rr,kl⟩ ⟨wc.heap.size+1+1,jb,wc.heap.size,wc.heap.size+1,bv',.slice kb kl.length kc,[],[],0,false⟩).toArray 106)=W3 at *
  clear hW3
  have hsz1:(wc.alloc (.map #[] 0)).heap.size=wc.heap.size+1:=by simp
  have hsz2:((wc.alloc (.map #[] 0)).alloc (.map #[] 0)).heap.size=wc.heap.size+1+1:=by simp
  rw [hsz1] at HME
  rw [hsz2] at HBC
  have HX0:Hid (CaIn W3 ⟨o,bl,ra,rc,rs,rr,kl⟩ ⟨wc.heap.size+1+1,jb,wc.heap.size,wc.heap.size+1,bv',.slice kb kl.length kc,[],[],0,false⟩):=qj {
   blk:=HBC.out,nts:=HMN.out,ends:=HME.out,ens:=⟨by simp,List.Pairwise.nil⟩,nm:=by simp,dis:=by simp [enFp],
   su:=⟨(sl_of_row HC.out.2.1).same HF3.out,(sl_of_row HC.out.2.2.1).same HF3.out,HS.out.bn,HS.out.kn⟩,
   suA:=fun g hg=>by
    have h8:g < wc.heap.size:=by
     rcases hg with hg | hg
     ·exact ownsRow_lt HC.out.2.1 hg
     ·exact ownsRow_lt HC.out.2.2.1 hg
    exact ⟨Nat.lt_of_lt_of_le h8 HF3.out.size,by simp [enFp];omega⟩ }
  have HSB3:=qj (HF3.out.keep HC.out.1 (by simp))
  have HRN3:=qj ((((HRN.out.same HF2.out (by simp)).same HU2.out.fr HRF.out).same HC.out.2.2.2.2.2 (by have:=RndAt.lt HRN.out;simp;omega)).same HF3.out (by simp))
  generalize hcb:wc.heap.size+1+1=cb at *
  generalize hmb:wc.heap.size+1=mb at *
  generalize hnb:wc.heap.size=nb at *
  have HNB:=qj (And.intro hnb (And.intro hmb hcb))
  clear hnb hmb hcb HMN HME HBC c0 c1 c2 c3 c4 c5 c6 hsz1 hsz2
  have d0:=qd HSB3.out 0;have d6:=qd HSB3.out 6
  go_wp2_with fail
  go_loopw [41] (fun iv wr=>∃ (i:Nat) (L1:List EnR),iv=.int .i64 i∧i≤kl.length∧Hid (L1.map (fun r=>(r.p,r.E))=ends0 kl o i)∧Hid (CaIn wr ⟨o,bl,ra,rc,rs,rr,kl⟩ ⟨cb,jb,nb,mb,bv',.slice kb kl.length kc,L1,[],0,false⟩)∧Hid (∀ k,k∈enFp L1→nb≤k)∧Hid (Fr [] wc wr)∧Hid (wr.heap[w.heap.size]?=some (.cells (suC ⟨o,bl,ra,rc,rs,rr,kl⟩ bv' (.slice kb kl.length kc)).toArray 48 (0,0)))∧Hid (RndAt wr)) (fun iv _=>kl.length - (RowKit.intOf iv).toNat)
  case atStart=>exact ⟨0,[],rfl,Nat.zero_le _,qj rfl,HX0,qj (by simp [enFp]),HF3,HSB3,HRN3⟩
  case round =>
   clear HX0 HF3 HSB3 HRN3 d0 d6
   obtain ⟨i,L1,rfl,hi,HL,HX,HY,HF,HSB,HRN⟩:=hrel
   have hkn:=HS.out.kn
   simp only at hkn
   by_cases hlt:i < kl.length
   ·by_cases hio:i=o
    ·subst hio
     have d0:=qd HSB.out 0
     have HLN:Hid (L1.map (fun r=>(r.p,r.E))=ends0 kl i (i+1)):=qj (by rw [ends0,if_pos rfl];exact HL.out)
     go_wp2_with fail
     go_roundw
     case rel=>exact ⟨i+1,L1,by go_num,by omega,HLN,HX,HY,HF,HSB,HRN⟩
     case measure=>simp [RowKit.intOf];omega
    ·have d0:=qd HSB.out 0
     have hne:((i:Int) == (o:Int))=false:=beq_eq_false_iff_ne.2 (by omega)
     go_wp2_with fail
     have HLN:Hid (L1.map (fun r=>(r.p,r.E))++[((i:Int),en0 kl o i)]=ends0 kl o (i+1)):=qj (by rw [ends0,if_neg hio,HL.out])
     have HPN:=qj (show ∀ r,r∈L1→r.p≠(i:Int) from fun r hr e=>by
      have h8:(r.p,r.E)∈ends0 kl o i:=by rw [← HL.out];exact List.mem_map.2 ⟨r,hr,rfl⟩
      have h9:=(ends0_lt kl o i _ h8).2
      simp only at h9
      omega)
     have CK1:=qj fun (W:World) (hf:Fr [] wr W)=>caKey_c ⟨o,bl,ra,rc,rs,rr,kl⟩ bv' (.slice kb kl.length kc) o (i:Int) W ((HX.out.same hf).su) (show o < kl.length by have:=HO.out.2.1;omega) (by have:=HO.out.1;omega) (show (kl.getD o ByteArray.empty).size≤1000000 by have h8:=HO.out.2.2 o (by have:=HO.out.2.1;omega);omega) (HRN.out.same hf (by simp))
     have CK2:=qj fun (W:World) (hf:Fr [] wr W)=>caKey_c ⟨o,bl,ra,rc,rs,rr,kl⟩ bv' (.slice kb kl.length kc) i (o:Int) W ((HX.out.same hf).su) hlt (by have h7:=HO.out.1;have h8:=HO.out.2.1;omega) (show (kl.getD i ByteArray.empty).size≤1000000 by have h8:=HO.out.2.2 i hlt;omega) (HRN.out.same hf (by simp))
     have CLO:=qj fun (W:World)=>lkOpen_c (keyM kl o (i:Int)) (keyM kl i (o:Int)) W (keyM_size _ _ _) (keyM_size _ _ _)
     have HEN:Hid (en0 kl o i=⟨keyM kl o (i:Int),keyM kl i (o:Int),[],0,0,[]⟩):=qj rfl
     generalize keyM kl o (i:Int)=k1 at *
     generalize keyM kl i (o:Int)=k2 at *
     clear d0 hne
     refine reg_mix (fun W=>W.heap[cb]?=some (.cells (caC ⟨o,bl,ra,rc,rs,rr,kl⟩ ⟨cb,jb,nb,mb,bv',.slice kb kl.length kc,L1,[],0,false⟩).toArray 106 (0,0))∧W.heap[w.heap.size]?=some (.cells (suC ⟨o,bl,ra,rc,rs,rr,kl⟩ bv' (.slice kb kl.length kc)).toArray 48 (0,0))) [0,1,2,3,4,5,6,7,8,10,11,12,13,9,14,15,16,17,18,19] (by kernel_rfl) (by kernel_rfl) (by kernel_rfl) rfl ⟨(Fr.drew [] wr).keep HX.out.blk (by simp),(Fr.drew [] wr).keep HSB.out (by simp)⟩ ?_
     have FC:Fr [] wr (World.drew wr):=Fr.drew _ _
     generalize World.drew wr=WC at FC ⊢
     iterate 13 (refine mix_take1 (v:=?_) rfl rfl rfl rfl (fun w hS=>?_) ?_;rotate_left;(focus (have x9:World.cell? w ⟨cb,9,none⟩=some (.map (some mb)):=qd hS.1 9;have d0:=qd hS.2 0;have d1:=qd hS.2 1;have d2:=qd hS.2 2;have d3:=qd hS.2 3;have d4:=qd hS.2 4;have d5:=qd hS.2 5;have d6:=qd hS.2 6;clear hS;go_simp;rfl));simp only [qu,qv,qx])
     refine mix_do rfl rfl rfl (fun K hK=>?_)
     go_simp
     refine (CK1.out _ FC).mono ?_
     rintro e wq ⟨rfl,fq⟩
     have FC:=FC.trans fq
     refine hK _ _ ⟨FC.keep HX.out.blk (by simp),FC.keep HSB.out (by simp)⟩ ?_
     clear hK K fq
     try simp only [Act.put,qu,qv,qx]
     refine mix_do rfl rfl rfl (fun K hK=>?_)
     go_simp
     refine (CK2.out _ FC).mono ?_
     rintro e ws ⟨rfl,fq⟩
     have FC:=FC.trans fq
     refine hK _ _ ⟨FC.keep HX.out.blk (by simp),FC.keep HSB.out (by simp)⟩ ?_
     clear hK K fq
     try simp only [Act.put,qu,qv,qx]
     refine mix_do rfl rfl rfl (fun K hK=>?_)
     go_simp
     refine (CLO.out _).mono ?_
     rintro e wt ⟨rfl,hE,fq,hzq⟩
     have hgs:=FC.size
     have FC:=FC.trans fq
     have HEE:=qj hE
     have HYE:=qj (show ∀ k,k∈enB (ws.heap.size+1) ws.heap.size (.slice none 0 0)→wr.heap.size≤k from fun k hk=>by simp [Value.ownBlock] at hk;omega)
     refine hK _ _ ⟨FC.keep HX.out.blk (by simp),FC.keep HSB.out (by simp)⟩ ?_
     clear hK K fq hE hzq hgs
     try simp only [Act.put,qu,qv,qx]
     iterate 3 (refine mix_take1 (v:=?_) rfl rfl rfl rfl (fun w hS=>?_) ?_;rotate_left;(focus (clear hS;go_simp;rfl));simp only [qu,qv,qx])
     have HXT:=qj (HX.out.same FC)
     have hst:=FC.keep HSB.out (by simp)
     refine mix_do rfl rfl rfl (fun K hK=>?_)
     refine wp_upd 104 109 (.tmp 52) (.tmp 53) (.tmp 65) (i:Int) rfl rfl rfl HXT.out.ends (keyI Tryz.underlying3) Tryz.underlying104 rfl ?_
     intro w5 f5 hz5 hm5
     have hmo:=HX.out.more FC HEE.out HYE.out HPN.out f5 hm5
     have hsne:w.heap.size∉[mb]:=by have h8:=blk_lt HC.out.1;have h9:=HNB.out.2.1;have h12:=HNB.out.1;simp;omega
     refine hK _ _ ⟨f5.keep HXT.out.blk (by simpa using HXT.out.ne.2),f5.keep hst hsne⟩ ?_
     have HMO:=qj hmo
     have HS5:=qj (f5.keep hst hsne)
     have HF5:=qj ((HF.out.trans FC).step f5 (fun k hk=>.inr (by have h9:=HNB.out.2.1;have h12:=HNB.out.1;simp at hk;omega)))
     have HR5:=qj ((HRN.out.same FC (by simp)).same f5 (by have h9:=HNB.out.2.1;have h12:=HNB.out.1;have h10:=RndAt.lt HRN0.out;have h11:=blk_lt HC.out.1;simp;omega))
     have HY5:Hid (∀ k,k∈enFp (L1++[⟨(i:Int),ws.heap.size+1,ws.heap.size,.slice none 0 0,⟨k1,k2,[],0,0,[]⟩⟩])→nb≤k):=qj fun k hk=>by
      simp only [enFp,List.flatMap_append,List.flatMap_cons,List.flatMap_nil,List.append_nil,List.mem_append] at hk
      rcases hk with hk | hk
      ·exact HY.out k hk
      ·have h8:=HYE.out k hk;have h9:=HF.out.size;have h10:=HNB.out.1;omega
     have HL5:Hid ((L1++[⟨(i:Int),ws.heap.size+1,ws.heap.size,.slice none 0 0,⟨k1,k2,[],0,0,[]⟩⟩]:List EnR).map (fun r=>(r.p,r.E))=ends0 kl o (i+1)):=qj (by rw [← HLN.out,HEN.out];simp)
     clear hK K hmo hst f5 hm5 hz5 FC HXT HX HSB HF HRN HY HL HLN HPN HEE HYE
     try simp only [Act.put,qu,qv,qx]
     refine mix_end ?_
     go_wp2_with fail
     go_roundw
     case rel=>exact ⟨i+1,_,by go_num,by omega,HL5,HMO,HY5,HF5,HS5,HR5⟩
     case measure=>simp [RowKit.intOf];omega
   ·obtain rfl:i=kl.length:=by omega
    have fw:Fr [w.heap.size] w2 wr:=HC.out.2.2.2.2.2.trans (HF.out.mono (by simp))
    have hdf:∀ k,k∈fp'→k∉[w.heap.size]:=fun k hk hm=>by
     have h8:=HLT1.out
     simp at hm
     rcases HU2.out.2 k hk with h9 | h9
     ·have:=HFL.out k h9;omega
     ·omega
    have htf:∀ k,k∈tpB jb vr→k∉[w.heap.size]:=fun k hk hm=>by have h8:=(HAP.out k hk).1;have h9:=HLT1.out;simp at hm;omega
    have hjn:JnAt wr jb db fp' vr t false D':=⟨HTP.out.fr fw htf,HDK.out.keep fw hdf,fun k hk=>(HAP.out k hk).2⟩
    have hjl:∀ k,k∈tpB jb vr++fp'→k < w2.heap.size:=fun k hk=>by
     rcases List.mem_append.1 hk with hk | hk
     ·exact tape_lt HTP.out k hk
     ·exact DkAt.lt HDK.out k hk
    have hw2:w2.heap.size≤nb:=by have:=HNB.out.1;have:=HC.out.2.2.2.2.2.size;omega
    have hcl:∀ k,k∈caB ⟨cb,jb,nb,mb,bv',.slice kb kl.length kc,L1,[],0,false⟩→nb≤k:=fun k hk=>by
     have h9:=HNB.out.2
     simp only [List.mem_cons] at hk
     rcases hk with rfl | rfl | rfl | hk
     ·omega
     ·omega
     ·omega
     ·exact HY.out k hk
    have HJL:=qj hjl;have HCL:=qj (And.intro hw2 hcl)
    have hcj:CjIn wr ⟨o,bl,ra,rc,rs,rr,kl⟩ ⟨cb,jb,nb,mb,bv',.slice kb kl.length kc,L1,[],0,false⟩ ⟨db,fp',vr,t,false,D'⟩:=⟨HX.out,hjn,fun k hk hm=>by have h8:=hcl k hk;have h9:=hjl k hm;omega,fun g hg hm=>by
     have h9:=hjl g hm
     rcases hg with hg | hg
     ·have:=HC.out.2.2.2.1 g hg;omega
     ·have:=HC.out.2.2.2.2.1 g hg;omega⟩
    have CRP:=qj (caReplay_c hcj (by rw [show CaR.cp ⟨cb,jb,nb,mb,bv',.slice kb kl.length kc,L1,[],0,false⟩=⟨[],0,ends0 kl o kl.length⟩ from by unfold CaR.cp;rw [HL.out]];exact HRP.out) HRN.out (fun hm=>by have h8:=hcl _ hm;have h9:=RndAt.lt HRN0.out;have h10:=HLT1.out;have h11:=HU2.out.fr.size;omega) htl)
    have HCJ:=qj hcj
    clear hcj hjn hdf htf fw hjl hcl hw2
    go_wp2_with fail
    refine CRP.out.mono ?_
    rintro e w7 ⟨rfl,L2,n2,a2,h7,hcp,hU7⟩
    obtain ⟨h8,hU8⟩:=HCJ.out.step h7 hU7 rfl ⟨rfl,rfl⟩
    have H8:=qj (And.intro h8 (And.intro hcp hU8))
    clear h7 hcp hU7 h8 hU8 CRP HCJ
    go_wp2_with fail
    go_ret2
    refine ⟨_,vr,fp',rfl,H8.out.1,H8.out.2.1,rfl,?_,fun g hg=>?_⟩
    rotate_left
    ·have h9:=HLT1.out
     have h10:=HU2.out.fr.size
     rcases hg with hg | hg
     ·have:=HC.out.2.2.2.1 g hg;omega
     ·have:=HC.out.2.2.2.2.1 g hg;omega
    have hup:Upd fp (cjB ⟨cb,jb,nb,mb,bv',.slice kb kl.length kc,L1,[],0,false⟩ ⟨db,fp',vr,t,false,D'⟩) w wr:=by
     refine ⟨((HF2.out.mono (by simp)).trans HU2.out.fr).step (HC.out.2.2.2.2.2.trans (HF.out.mono (by simp))) (fun k hk=>.inr (by simp at hk;omega)),fun k hk=>?_⟩
     have h8:=HLT1.out
     have h9:=HU2.out.fr.size
     have h10:=HCL.out.1
     rcases List.mem_append.1 hk with hk | hk
     ·have:=HCL.out.2 k hk;exact .inr (by omega)
     ·rcases List.mem_append.1 hk with hk | hk
      ·have:=(HAP.out k hk).1;exact .inr (by omega)
      ·rcases HU2.out.2 k hk with h11 | h11
       ·exact .inl h11
       ·exact .inr (by omega)
    exact hup.trans H8.out.2.2
end
end Go.Proofs.YtledkokhghjfmaaGreatDoor
