/-
  Rows under a frame; made bytes.
-/
import Derived.Test.YtledkokhghjfmaaGreatDoorPS02
import Derived.Test.YtledkokhghjfmaaGreatDoorPS01
import Derived.Test.YtledkokhghjfmaaGreatDoorPS10
import Derived.LaidEql
import Derived.Stop.Asserts
import Derived.Test.YtledkokhghjfmaaGreatDoorPS05
import Derived.Recover
import Derived.Test.YtledkokhghjfmaaGreatDoorRows
import Derived.Deep.QuietTactic
import Derived.BigQuiet
import Derived.Deep.RegionLaw
import Derived.Deep.RegionHeldLaw
namespace Go.Proofs.YtledkokhghjfmaaGreatDoor
section
open Go.RowKit Go.Lib
theorem row_fr {w w':World} {e:TypeId} {sz n:Nat} {v:Value} {xs:List Value} {S:List Nat} (h:w.ownsRow 0 e sz v n xs) (hf:Fr S w w') (hS:∀ g,v.ownBlock=some g→g∉S):w'.ownsRow 0 e sz v n xs:=by
 refine ⟨h.1,h.2.imp id ?_⟩
 rintro ⟨g,cap,cur,rfl,h1,h2,h3⟩
 exact ⟨g,cap,cur,rfl,h1,hf.keep h2 (hS g rfl),h3⟩
theorem made_bytes (n:Nat):madeCells #[Value.int .u8 0] n=(byteCells (List.replicate n 0)).toArray:=by
 apply Array.ext'
 simp only [madeCells,Array.toList_map,Array.toList_range,byteCells]
 apply List.ext_getElem
 ·simp
 ·intro i h1 h2
  simp [Nat.mod_one]
theorem src_one (w:World) (v:Value) (t:TypeId):SrcAt (w.alloc (.cells #[v] t)) (.slice (some ⟨w.heap.size,0,none⟩) 1 1) 1 [v] :=
 ⟨.inr ⟨_,1,rfl,fun j u hu=>by
  rw [add_at,qd (qm _ _)]
  simpa using hu⟩⟩
end
section
open Go.RowKit Go.Lib
theorem marked_c (m:ByteArray) (w:World):Calls Tryz.prog 127 #[.string m] w fun e w'=>e=.returned (.func (.func 164) #[] #[.pointer (some ⟨w.heap.size,0,none⟩)])∧w'=w.alloc (.cells #[.string m] 9):=by
 go_enter Tryz.func127,Tryz.ntmps127
 go_wp2_with fail
 go_ret
 exact ⟨rfl,rfl⟩
theorem join2 (h r:ByteArray):Lib.join ([h,r].map (·.data.toList)) (⟨#[]⟩:ByteArray).data.toList=bts h++bts r:=by simp [Lib.join,bts]
set_option maxRecDepth 100000 in
set_option maxHeartbeats 4000000 in
theorem marked1_c (m h r:ByteArray) (hs:m.size+h.size+r.size≤1000000000000) (b mb:Nat) (w:World) (hR:RndAt w) (hm:w.heap[mb]?=some (.cells #[.string m] 9 (0,0))) (hb:w.heap[b]?=some (.cells #[.string h,.string r] 9 (0,0))) :
  Calls Tryz.prog 164 #[.slice (some ⟨b,0,none⟩) 2 2,.pointer (some ⟨mb,0,none⟩)] w fun e w'=>e=.returned (.string (shaB (str (bts m++(bts h++bts r)))))∧Fr [] w w':=by
 have CJ:∀ W:World,Fr [] w W→Calls Tryz.prog 166 #[.slice (some ⟨b,0,none⟩) 2 2,.string ⟨#[]⟩] W fun e w'=>e=.returned (.string (str (bts h++bts r)))∧Fr [] W w':=by
  intro W hf
  have hb2:=hf.keep hb (by simp)
  have h1:=Tryz.strings_Join b 0 2 [h,r] ⟨#[]⟩ W (by
   intro j x hx
   rw [qd hb2]
   match j,hx with
   | 0,hx=>simp at hx ⊢;exact hx
   | 1,hx=>simp at hx ⊢;exact hx
   | j+2,hx=>simp at hx) (blk_lt hb2) (by simp) (by simp) (by rw [join2,List.length_append,bts_len,bts_len];omega)
  rw [join2] at h1
  exact h1.mono fun e w' ⟨he,hbw⟩=>⟨he,Fr.of_below [] hbw⟩
 have CS:∀ W:World,Fr [] w W→Calls Tryz.prog 165 #[.string (str (bts m++(bts h++bts r)))] W fun e w'=>e=.returned (.string (shaB (str (bts m++(bts h++bts r)))))∧Fr [] W w':=fun W hf =>
  sum_c _ (by rw [str_size];simp only [List.length_append,bts_len];omega) W (hR.same hf (by simp))
 have HJ:=qj CJ;have HS:=qj CS
 have c0:=qd hm 0
 have hsz:(str (bts h++bts r)).size=h.size+r.size:=by rw [str_size];simp only [List.length_append,bts_len]
 have hcat:m++str (bts h++bts r)=str (bts m++(bts h++bts r)):=by
  apply ByteArray.ext;simp [str,bts]
 have HC:=qj hcat
 have HZ:=qj hsz
 clear CJ CS hm hb hR hsz hcat
 go_enter Tryz.func164,Tryz.ntmps164
 go_wp2_with fail
 refine reg_mix (Fr [] w) [0,1,2,3,4,5] (by kernel_rfl) (by kernel_rfl) (by kernel_rfl) rfl (Fr.drew _ _) ?_
 have FC:Fr [] w w.drew:=Fr.drew _ _
 generalize w.drew=WC at FC ⊢
 iterate 2 (refine mix_take1 (v:=?_) rfl rfl rfl rfl (fun w hS=>?_) ?_;rotate_left;(focus (have s0:=hS.cel c0 (by simp);clear hS;go_simp;rfl));simp only [qu,qv,qx])
 refine mix_do rfl rfl rfl (fun K hK=>?_)
 go_simp
 refine (HJ.out _ FC).mono ?_
 rintro e wq ⟨rfl,fq⟩
 have FC:=FC.trans fq
 refine hK _ _ FC ?_
 clear hK K fq
 try simp only [Act.put,qu,qv,qx]
 (refine mix_take1 (v:=?_) rfl rfl rfl rfl (fun w hS=>?_) ?_;rotate_left;(focus (clear hS;go_simp;rw [if_neg (by rw [HZ.out];omega),HC.out]));simp only [qu,qv,qx])
 refine mix_do rfl rfl rfl (fun K hK=>?_)
 go_simp
 refine (HS.out _ FC).mono ?_
 rintro e wr ⟨rfl,fq⟩
 have FC:=FC.trans fq
 refine hK _ _ FC ?_
 clear hK K fq
 try simp only [Act.put,qu,qv,qx]
 (refine mix_take1 (v:=?_) rfl rfl rfl rfl (fun w hS=>?_) ?_;rotate_left;(focus (clear hS;go_simp;rfl));simp only [qu,qv,qx])
 refine mix_end ?_
 have HF:=qj FC
 clear FC c0
 go_wp2_with fail
 go_ret
 exact ⟨rfl,HF.out⟩
set_option maxRecDepth 100000 in
theorem chain_c (h r:ByteArray) (hs:h.size+r.size≤900000000000) (w:World) (hR:RndAt w):Calls Tryz.prog 163 #[.string h,.string r] w fun e w'=>e=.returned (.string (chainM h r))∧Fr [] w w':=by
 have HR:=qj hR
 clear hR
 go_enter Tryz.func163,Tryz.ntmps163
 go_wp2_with fail
 refine (marked_c _ _).mono ?_
 rintro e w1 ⟨rfl,hw1⟩
 have F1:=Fr.alloc [] w (.cells #[.string ⟨#[2]⟩] 9)
 have B1:=qm w (.cells #[.string ⟨#[2]⟩] 9)
 rw [← hw1] at F1 B1
 have F2:=Fr.alloc [] w1 (.cells #[.string h,.string r] 9)
 have CM:=qj (marked1_c ⟨#[2]⟩ h r (by show 1+h.size+r.size≤_;omega) w1.heap.size w.heap.size _ (HR.out.same (F1.trans F2) (by simp)) (F2.keep B1 (by simp)) (qm _ _))
 have HF:=qj (F1.trans F2)
 clear hw1 F1 B1 F2
 go_wp2_with fail
 refine CM.out.mono ?_
 rintro e w2 ⟨rfl,f2⟩
 have HF2:=qj (HF.out.trans f2)
 clear f2
 go_wp2_with fail
 go_ret
 exact ⟨rfl,HF2.out⟩
end
section
open Go.RowKit Go.Lib
def tpC (vr:Value) (h:ByteArray) (n:Nat) (X:List Value):Array Value:=(vr :: .string h :: .int .i64 n :: X).toArray
theorem tpC_set0 (vr:Value) (h:ByteArray) (n:Nat) (X:List Value) (v:Value):(tpC vr h n X).setIfInBounds 0 v=tpC v h n X:=by simp [tpC]
theorem tpC_set1 (vr:Value) (h:ByteArray) (n:Nat) (X:List Value) (k:ByteArray):(tpC vr h n X).setIfInBounds 1 (.string k)=tpC vr k n X:=by simp [tpC]
theorem tpC_set2 (vr:Value) (h:ByteArray) (n:Nat) (X:List Value) (k:Nat):(tpC vr h n X).setIfInBounds 2 (.int .i64 k)=tpC vr h k X:=by simp [tpC]
theorem infoStr:(Tryz.prog.info? 9).map (fun i=>(i.zero,i.size,i.bytes))=some (some (.string ⟨#[]⟩),1,16):=by kernel_rfl
theorem cat_one (l:List UInt8):(⟨#[1]⟩:ByteArray)++str l=str (1 :: l):=by
 apply ByteArray.ext;simp [str]
structure TapeAt (w:World) (b:Nat) (X:List Value) (ty:TypeId) (vr:Value) (t:Tp):Prop where
 blk:w.heap[b]?=some (.cells (tpC vr t.head t.size X) ty (0,0))
 row:w.ownsRow 0 9 1 vr t.recs.length (t.recs.map Value.string)
 ne:vr.ownBlock≠some b
def tpB (b:Nat) (vr:Value):List Nat:=b :: vr.ownBlock.toList
theorem TapeAt.fr {w w':World} {b:Nat} {X:List Value} {ty:TypeId} {vr:Value} {t:Tp} {S:List Nat} (h:TapeAt w b X ty vr t) (hf:Fr S w w') (hS:∀ k,k∈tpB b vr→k∉S):TapeAt w' b X ty vr t :=
 ⟨hf.keep h.blk (hS b (by simp [tpB])),row_fr h.row hf (fun g hg=>hS g (by simp [tpB,hg])),h.ne⟩
theorem TapeAt.same {w w':World} {b:Nat} {X:List Value} {ty:TypeId} {vr:Value} {t:Tp} (h:TapeAt w b X ty vr t) (hf:Fr [] w w'):TapeAt w' b X ty vr t:=h.fr hf (by simp)
set_option maxRecDepth 100000 in
set_option maxHeartbeats 4000000 in
theorem add_c (b:Nat) (X:List Value) (ty:TypeId) (vr:Value) (t:Tp) (r:ByteArray) (w:World) (h:TapeAt w b X ty vr t) (hr:r.size≤65536) (hh:t.head.size=32) (hn:t.recs.length≤1000000000) (hs:t.size≤1000000000000) (hR:RndAt w) (hg:∀ k,k∈tpB b vr→k≠1) :
  Calls Tryz.prog 121 #[.pointer (some ⟨b,0,none⟩),.string r] w fun e w'=>e=.returned (.string (str (recL t.head r)))∧∃ vr',TapeAt w' b X ty vr' (t.add r)∧Upd (tpB b vr) (tpB b vr') w w':=by
 obtain ⟨hb,hrow,hne⟩:=h
 have hbr:b≠1:=hg b (by simp [tpB])
 have CH:=qj (chain_c t.head r (by omega) w hR)
 have HHd:Shut (recL t.head r=1 :: (putS r++bts (chainM t.head r))):=⟨rfl⟩
 have hpl:(putS r).length≤65539:=by
  have:=(encZ_len (2*r.size) (by omega)).1
  simp only [putS,List.length_append,bts_len];omega
 have hcs:=chainM_size t.head r
 have HCS:=qj hcs;have HPL:=qj hpl
 have HAdd:Shut (t.add r=⟨t.recs++[r],chainM t.head r,t.size+(recL t.head r).length⟩):=⟨rfl⟩
 have HLen:Shut ((recL t.head r).length=33+(putS r).length):=⟨recL_len _ _⟩
 obtain ⟨rs,hd,sz⟩:=t
 simp only at hb hrow hh hn hs CH HHd HAdd HLen HCS ⊢
 have HB:=qj hb;have HW:=qj hrow;have HNE:=qj hne;have HR:=qj hR;have HG:=qj hg
 have c1:w.cell? ⟨b,1,none⟩=some (.string hd):=qd hb 1
 clear hb hrow hR hcs hpl hg hh
 generalize hhd:chainM hd r=hd' at *
 clear hhd
 go_enter Tryz.func121,Tryz.ntmps121
 go_wp2_with fail
 refine CH.out.mono ?_
 rintro e w1 ⟨rfl,f1⟩
 have b1:=f1.keep HB.out (by simp)
 have d1:w1.cell? ⟨b,1,none⟩=some (.string hd):=qd b1 1
 have y1:=ql b1 1
 have HF1:=qj f1;have HB1:=qj b1
 clear c1 f1 b1 CH
 go_upto_region 2 with fail
 have b2:=qs (i:=1) (.string hd') HB1.out
 rw [tpC_set1] at b2
 have f2:Fr [b] w1 (w1.setCell ⟨b,1,none⟩ (.string hd')):=Fr.setCell _ _ (by simp)
 have F2:=qj ((HF1.out.mono (fp2:=[b]) (by simp)).trans f2)
 have HB2:=qj b2
 clear d1 y1 f2 b2 HB1 HF1
 generalize w1.setCell ⟨b,1,none⟩ (.string hd')=W2 at *
 have c0:W2.cell? ⟨b,0,none⟩=some vr:=qd HB2.out 0
 have HW2:=qj (row_fr HW.out F2.out (fun g hg=>by simp;rintro rfl;exact HNE.out hg))
 go_wp2_with (first | ((with_reducible refine wpList_of_wp (o:=⟨some 24,_,_,_,_,_⟩) rfl (fun K hK=>?_));apply stopD;case _other=>exact trivial))
 (refine stopD ?_ ?_;rotate_left;exact trivial)
 have fA:=Fr.alloc [] W2 (.cells #[.string r] 9)
 have hlen:=HW2.out.1
 refine wp_append_src (.tmp 21) (.tmp 23) 40 9 _ 1 16 rfl Tryz.underlying40 infoStr rfl (by decide) vr rs.length _ rfl (row_fr HW2.out fA (by simp)) (.slice (some ⟨W2.heap.size,0,none⟩) 1 1) 1 [.string r] rfl (src_one W2 _ _) (by simp) (by simp [Value.oneCell']) (by omega) (by omega) ?_
 intro ga cap W4 r4 f4 o4
 refine hK _ _ ?_
 clear hK K hlen
 have hs2:w.heap.size≤W2.heap.size:=F2.out.size
 have hvb:∀ g,vr.ownBlock=some g→g≠b:=fun g hg e=>HNE.out (by rw [hg,e])
 have f24:Fr (tpB b vr) w W4:=(F2.out.mono (by simp [tpB])).trans ((fA.mono (by simp)).trans (f4.mono (by intro i hi;simp [tpB];right;simpa using hi)))
 have b4:W4.heap[b]?=some (.cells (tpC vr hd' sz X) ty (0,0)):=f4.keep (heap_alloc_old _ HB2.out) (fun hm=>hvb b (by simpa using hm) rfl)
 have hbl:=blk_lt HB.out
 have ho:∀ g,(Value.slice ga (rs.length+1) cap).ownBlock=some g→vr.ownBlock=some g∨W2.heap.size≤g:=fun g hg=>by
  rcases o4 with h | h
  ·exact .inl (h ▸ hg)
  ·rw [hg] at h
   right
   simp at h
   omega
 have hn4:(Value.slice ga (rs.length+1) cap).ownBlock≠some b:=fun e=>by
  rcases ho b e with h | h
  ·exact HNE.out h
  ·omega
 have d0:W4.cell? ⟨b,0,none⟩=some vr:=qd b4 0
 have y0:=ql b4 0
 have HB4:=qj b4;have HF4:=qj f24;have HO:=qj ho;have HN4:=qj hn4;have HR4:=qj r4
 clear c0 fA f4 f24 b4 o4 ho hn4 r4 HW2 F2 HB2 hvb
 go_upto_region 3 with fail
 have b5:=qs (i:=0) (.slice ga (rs.length+1) cap) HB4.out
 rw [tpC_set0] at b5
 have f5:Fr [b] W4 (W4.setCell ⟨b,0,none⟩ (.slice ga (rs.length+1) cap)):=Fr.setCell _ _ (by simp)
 have r5:=row_fr HR4.out f5 (fun g hg=>by simp;rintro rfl;exact HN4.out hg)
 have F5:=qj (HF4.out.trans (f5.mono (by simp [tpB])))
 have HB5:=qj b5;have HR5:=qj r5
 have hs4:=HF4.out.size
 clear d0 y0 f5 b5 r5 HB4 HF4 HR4
 generalize W4.setCell ⟨b,0,none⟩ (.slice ga (rs.length+1) cap)=W5 at *
 go_wp2_with fail
 refine (putStr_c r hr _).mono ?_
 rintro e w6 ⟨rfl,f6⟩
 have HB6:=qj (f6.keep HB5.out (by simp));have HR6:=qj (row_fr HR5.out f6 (by simp));have F6:=qj (F5.out.trans (f6.mono (by simp)))
 clear f6 HB5 HR5 F5
 have c1:w6.cell? ⟨b,1,none⟩=some (.string hd'):=qd HB6.out 1
 go_wp2_with fail
 refine reg_tree (Fr [] w6) 9 (.take 2 (.take 4 (.take 5 (.take 6 (.take 7 (.one 0 (.one 1 (.take 3 (.take 8 (.one 9 .nil)))))))))) (by kernel_rfl) (by kernel_rfl) (by kernel_rfl) rfl ?_
 have S0:Fr [] w6 w6.drew:=Fr.drew _ _
 generalize w6.drew=WC at S0 ⊢
 iterate 5 (refine tree_take (v:=?_) rfl rfl rfl S0 (fun w hS=>?_) ?_;rotate_left;(focus (have s0:=hS.cel c1 (by simp);clear hS;go_simp;rfl));simp only [qu,qv,qx])
 refine tree_one rfl rfl (fun K hK=>?_)
 go_simp
 have fa:=Fr.alloc [] WC (.cells #[.int .u8 1] 5)
 refine hK _ _ (S0.trans fa) ?_
 have S0:=S0.trans fa
 have s1:Sl (WC.alloc (.cells #[.int .u8 1] 5)) (.slice (some ⟨WC.heap.size,0,none⟩) 1 1) 1 (byteCells [1]):=⟨_,_,rfl,Nat.le_refl _,by omega,fun _=>⟨_,0,rfl,fun j u hu=>by
  rw [qd (qm _ _),Nat.zero_add]
  simpa [byteCells] using hu⟩⟩
 generalize WC.alloc (.cells #[.int .u8 1] 5)=WD at *
 clear hK K fa
 try simp only [Act.put,qu,qv,qx]
 refine tree_one rfl rfl (fun K hK=>?_)
 refine wp_sl_str (.tmp 32) rfl _ 1 1 [1] rfl s1 (by omega) rfl ?_
 refine hK _ _ S0 ?_
 clear hK K s1
 try simp only [Act.put,qu]
 (refine tree_take (v:=?_) rfl rfl rfl S0 (fun w hS=>?_) ?_;rotate_left;(focus (clear hS;go_simp;rw [if_neg (by rw [str_size];have:=HPL.out;omega),cat_one]));try simp only [qu,qv,qx])
 (refine tree_take (v:=?_) rfl rfl rfl S0 (fun w hS=>?_) ?_;rotate_left;(focus (clear hS;go_simp;rw [if_neg (by rw [str_size,List.length_cons];have:=HPL.out;have:=HCS.out;omega),str_app]));try simp only)
 refine tree_last rfl rfl (fun K hK=>?_)
 go_simp
 try go_upon
 try go_simp
 refine hK _ _ ?_
 clear hK K
 refine noPanicN ?_
 rw [← HHd.out]
 have HB7:=qj (S0.keep HB6.out (by simp));have HR7:=qj (row_fr HR6.out S0 (by simp));have F7:=qj (F6.out.trans (S0.mono (by simp)))
 clear S0 c1 HB6 HR6 F6
 have hrz:(str (recL hd r)).size=(recL hd r).length:=rfl
 have hrl:(recL hd r).length≤70000:=by have:=HLen.out;have:=HPL.out;omega
 have c2:WD.cell? ⟨b,2,none⟩=some (.int .i64 sz):=qd HB7.out 2
 have y2:=ql HB7.out 2
 generalize hLe:recL hd r=L at *
 have HLE:Shut (recL hd r=L):=⟨hLe⟩
 clear hLe
 obtain ⟨N,hN⟩:∃ N,N=L.length:=⟨_,rfl⟩
 rw [← hN] at hrz hrl
 have HN:Shut (N=L.length):=⟨hN⟩
 clear hN
 go_upto_region 6 with fail
 have b8:=qs (i:=2) (.int .i64 ((sz+N:Nat):Int)) HB7.out
 rw [tpC_set2] at b8
 have e8:((sz+N:Nat):Int)=(sz:Int)+(N:Int):=by omega
 rw [e8] at b8
 have f8:Fr [b] WD (WD.setCell ⟨b,2,none⟩ (.int .i64 ((sz:Int)+(N:Int)))):=Fr.setCell _ _ (by simp)
 have r8:=row_fr HR7.out f8 (fun g hg=>by simp;rintro rfl;exact HN4.out hg)
 have F8:=qj (F7.out.trans (f8.mono (by simp [tpB])))
 have HB8:=qj b8;have HR8:=qj r8
 clear c2 y2 f8 b8 r8 e8 hrz
 generalize WD.setCell ⟨b,2,none⟩ (.int .i64 ((sz:Int)+(N:Int)))=W9 at *
 go_wp2_with fail
 go_ret
 refine ⟨by rw [HLE.out];rfl,.slice ga (rs.length+1) cap,?_,F8.out,?_⟩
 ·rw [HAdd.out,← HN.out]
  exact ⟨HB8.out,by simpa using HR8.out,HN4.out⟩
 ·intro k hk
  rcases List.mem_cons.1 hk with rfl | hk
  ·exact .inl (by simp [tpB])
  ·rcases HO.out k (by simpa using hk) with h | h
   ·exact .inl (by simp [tpB,h])
   ·exact .inr (by omega)
end
section
open Go.RowKit Go.Lib
theorem reTypeOf_call (v:Value) (w:World):(callFunc 167 #[.iface 359 v]).run Tryz.prog w=.ok (.value (.iface 302 (.agg #[.pointer (some ⟨5,359,none⟩)]))) w:=by kernel_rfl
theorem reComp_call (w:World):(callFunc 249 #[.agg #[.pointer (some ⟨5,359,none⟩)]]).run Tryz.prog w=.ok (.value (.bool true)) w:=by kernel_rfl
set_option maxRecDepth 100000 in
set_option maxHeartbeats 4000000 in
theorem is_same (a:Addr) (w:World):Calls Tryz.prog 131 #[.iface 359 (.pointer (some a)),.iface 359 (.pointer (some a))] w fun e w'=>e=.returned (.bool true)∧w=w':=by
 have isComp:(Tryz.prog.info? 359).map (·.comparable)=some true:=by kernel_rfl
 have isSize:(Tryz.prog.info? 381).map (·.size)=some 1:=by kernel_rfl
 obtain ⟨i,hi,hcmp⟩:=Option.map_eq_some_iff.1 isComp
 obtain ⟨j,hj,hjs⟩:=Option.map_eq_some_iff.1 isSize
 have heq:=run_eql_iface_ptr_same (P:=Tryz.prog) w a Tryz.underlying217 Tryz.underlying359 hi hcmp hj
 have hT:=reTypeOf_call
 have hC:=reComp_call
 go_enter Tryz.func131,Tryz.ntmps131
 go_wp2
 refine wp_loop_rounds 1 ?_
 rw [rounds_succ]
 go_wp2
 go_ret
 exact ⟨rfl,rfl⟩
end
section
theorem reg_treeP {P:Program} {Q:Exit→Act→World→Prop} {id:Nat} {a:Act} {w:World} {l:List Oper} (S:World→Prop) (fin:Nat) (t:OrdT) (hm:P.follows .mixedOrders=true) (hs:Region.noSelect l.toArray=true) (hp:permT l.toArray fin t (Array.replicate l.toArray.size false)=true) (hl:t.len=l.toArray.size)
  (hQ:∀ (d:Option Tmp) (v:Value) c a w,Q (.panic c) (a.put d v) w→Q (.panic c) a w) (h:wpTree P l.toArray Q S fin t a w.drew):(Code.region id l.toArray true).wp P Q a w:=by
 have hc:Closed l.toArray (Array.replicate l.toArray.size false):=fun k o _ hk=>by
  exfalso
  rw [Array.getD_eq_getD_getElem?,Array.getElem?_replicate] at hk
  split at hk <;> cases hk
 have h2:=wpAnyF_of_tree hs hQ t _ a _ hp hc h
 rw [hl] at h2
 exact wp_region_any hm (wpAny_of_F _ _ _ _ h2)
end
section
open Go.RowKit Go.Lib
def DmgAt (w:World) (a:Addr):Prop:=∃ t fz,w.heap[0]?=some (.cells #[.iface 359 (.pointer (some a))] t fz)
theorem DmgAt.fr {w w':World} {a:Addr} {S:List Nat} (h:DmgAt w a) (hf:Fr S w w') (hS:0∉S):DmgAt w' a:=by
 obtain ⟨t,fz,h⟩:=h
 exact ⟨t,fz,hf.keep h hS⟩
abbrev dmgP (a:Addr):List PanicEntry:=[{ v:=.iface 359 (.pointer (some a)),recovered:=false }]
theorem check_ok (w:World):Calls Tryz.prog 169 #[.bool true] w fun e w'=>e=.returned (.tuple #[])∧w=w':=by
 go_enter Tryz.func169,Tryz.ntmps169
 go_wp2
 go_end0
 exact ⟨rfl,rfl⟩
set_option maxRecDepth 100000 in
theorem check_bad (a:Addr) (w:World) (h:DmgAt w a):Calls Tryz.prog 169 #[.bool false] w fun e w'=>e=.panicked (dmgP a)∧w=w':=by
 obtain ⟨t,fz,h⟩:=h
 have c0:=qd h 0
 clear h
 go_enter Tryz.func169,Tryz.ntmps169
 go_wp2
 exact ⟨rfl,rfl,rfl⟩
theorem getS_bound {s:List UInt8} {p:Nat} {r:List UInt8} {q:Nat} (h:getS s p=some (r,q)):r.length≤65536∧q≤s.length∧p≤q:=by
 unfold getS at h
 cases hg:getI s p with
 | none=>rw [hg] at h;cases h
 | some x =>
  obtain ⟨n,q0⟩:=x
  rw [hg] at h
  have hb:=getI_bound hg
  simp only at h
  split at h
  ·cases h
  ·simp only [Option.some.injEq,Prod.mk.injEq] at h
   obtain ⟨rfl,rfl⟩:=h
   rw [List.length_take,List.length_drop]
   omega
def LoadPost (a:Addr) (b:Nat) (X:List Value) (ty:TypeId) (vr:Value) (w:World) (o:Option Tp) (e:Ending) (w':World):Prop:=match o with
 | some t=>e=.returned (.tuple #[])∧∃ vr',TapeAt w' b X ty vr' t∧Upd (tpB b vr) (tpB b vr') w w'
 | none=>e=.panicked (dmgP a)∧∃ fp,Upd (tpB b vr) fp w w'
def szOf (b:Nat) (w:World):Nat:=match w.cell? ⟨b,2,none⟩ with
 | some (.int _ n)=>n.toNat
 | _=>0
theorem szOf_at {b:Nat} {w:World} {n:Nat} (h:w.cell? ⟨b,2,none⟩=some (.int .i64 n)):szOf b w=n:=by simp [szOf,h]
set_option maxRecDepth 1000000 in
set_option maxHeartbeats 4000000 in
theorem load_c (a:Addr) (b:Nat) (X:List Value) (ty:TypeId) (vr:Value) (t:Tp) (s:ByteArray) (f:Nat) (w:World) (h:TapeAt w b X ty vr t) (hs:s.size≤1000000000) (hh:t.head.size=32) (hn:t.recs.length≤t.size) (ht:t.size≤s.size) (hf:s.size < t.size+f)
  (hR:RndAt w) (hD:DmgAt w a) (hg:∀ k,k∈tpB b vr→k≠1∧k≠0):Calls Tryz.prog 132 #[.pointer (some ⟨b,0,none⟩),.string s] w (LoadPost a b X ty vr w (ldM (bts s) f t)):=by
 have HT:=qj h;have HR:=qj hR;have HD:=qj hD;have HG:=qj hg
 have hrl:1 < w.heap.size:=by obtain ⟨_,_,h⟩:=hR;exact blk_lt h
 have hdl:0 < w.heap.size:=by obtain ⟨_,_,h⟩:=hD;exact blk_lt h
 have HH:Shut (t.head.size=32):=⟨hh⟩
 generalize hO:ldM (bts s) f t=O
 have HO:Shut (ldM (bts s) f t=O):=⟨hO⟩
 clear h hR hD hg hh hO
 go_enter Tryz.func132,Tryz.ntmps132
 go_wp2_with fail
 go_loopw [] (fun wr=>∃ (t':Tp) (vr':Value) (f':Nat),Hid (TapeAt wr b X ty vr' t')∧Hid (Upd (tpB b vr) (tpB b vr') w wr)∧Shut (t'.head.size=32)∧t'.recs.length≤t'.size∧t'.size≤s.size∧s.size < t'.size+f'∧Shut (ldM (bts s) f' t'=O)) (fun wr=>s.size+1 - szOf b wr)
 case atStart=>exact ⟨t,vr,f,HT,qj (Upd.refl _ _),HH,hn,ht,hf,HO⟩
 case round =>
  obtain ⟨⟨rs,hd,sz⟩,vr',f',H1,HU,HHd,hn',ht',hf',HL⟩:=hrel
  simp only at hn' ht' hf' HHd
  have c2:wr.cell? ⟨b,2,none⟩=some (.int .i64 sz):=qd H1.out.blk 2
  obtain ⟨g,rfl⟩:∃ g,f'=g+1:=⟨f' - 1,by omega⟩
  by_cases hlt:sz < s.size
  ·have hat:(bts s)[sz]?=some s[sz]:=by rw [List.getElem?_eq_getElem (by exact hlt)];rfl
   have HL2:Shut ((if s[sz]=0 then some (⟨rs,hd,sz⟩:Tp) else if s[sz]≠1 then none else match getS (bts s) (sz+1) with
    | none=>none
    | some (r,q)=>if (bts s).length < q+32 then none else if recL hd (str r)=((bts s).drop sz).take (q+32 - sz) then ldM (bts s) g (Tp.add ⟨rs,hd,sz⟩ (str r)) else none)=O):=⟨by
    have:=HL.out
    rw [ldM] at this
    simp only [hat] at this
    exact this⟩
   have HDm:Hid (DmgAt wr a):=qj (HD.out.fr HU.out.fr (fun hm=>(HG.out _ hm).2 rfl))
   clear hat HL
   by_cases h0:s[sz]=0
   ·have hb0:((s[sz].toNat:Int) != 0)=false:=by rw [h0];rfl
    have HE:Shut (O=some ⟨rs,hd,sz⟩):=⟨by rw [← HL2.out,if_pos h0]⟩
    clear h0
    go_wp2_with fail
    go_end0
    rw [HE.out]
    exact ⟨rfl,vr',H1.out,HU.out⟩
   ·have hb0:((s[sz].toNat:Int) != 0)=true:=by
     simp only [bne_iff_ne,ne_eq]
     intro e
     apply h0
     rw [← UInt8.toNat_inj]
     simp;omega
    by_cases h1:s[sz]=1
    ·have hb1:((s[sz].toNat:Int) == 1)=true:=by rw [h1];rfl
     have HL3:Shut ((match getS (bts s) (sz+1) with
      | none=>none
      | some (r,q)=>if (bts s).length < q+32 then none else if recL hd (str r)=((bts s).drop sz).take (q+32 - sz) then ldM (bts s) g (Tp.add ⟨rs,hd,sz⟩ (str r)) else none)=O):=⟨by rw [← HL2.out,if_neg h0,if_neg (fun hh=>hh h1)]⟩
     have CI:=string_c s (sz+1) (by omega) (by omega) wr
     rw [show ((sz+1:Nat):Int)=(sz:Int)+1 by omega] at CI
     clear HL2 h0 h1
     cases hgs:getS (bts s) (sz+1) with
     | none =>
      rw [hgs] at CI HL3
      unfold strV at CI
      have HE:Shut (O=none):=⟨HL3.out.symm⟩
      have HC:=qj CI
      clear hgs CI HL3
      go_wp2_with fail
      refine (check_ok _).mono ?_
      rintro e w9 ⟨rfl,rfl⟩
      go_wp2_with fail
      refine HC.out.mono ?_
      rintro e w9 ⟨rfl,rfl⟩
      clear HC
      go_wp2_with fail
      refine (check_bad a _ HDm.out).mono ?_
      rintro e w9 ⟨rfl,rfl⟩
      go_wp2_with fail
      refine ⟨rfl,?_⟩
      rw [HE.out]
      exact ⟨rfl,_,HU.out⟩
     | some x =>
      obtain ⟨r,q⟩:=x
      obtain ⟨hr1,hr2,hr3⟩:=getS_bound hgs
      rw [bts_len] at hr2
      rw [hgs] at CI HL3
      unfold strV at CI
      have HC:=qj CI
      clear hgs CI
      by_cases hq:s.size < q+32
      ·have hb2:decide ((q:Int)+32≤(s.size:Int))=false:=by simp;omega
       have HE:Shut (O=none):=⟨by
        have:=HL3.out
        dsimp only at this
        rw [if_pos (by rw [bts_len];exact hq)] at this
        exact this.symm⟩
       clear HL3
       go_wp2_with fail
       refine (check_ok _).mono ?_
       rintro e w9 ⟨rfl,rfl⟩
       go_wp2_with fail
       refine HC.out.mono ?_
       rintro e w9 ⟨rfl,rfl⟩
       clear HC
       go_wp2_with fail
       refine (check_bad a _ HDm.out).mono ?_
       rintro e w9 ⟨rfl,rfl⟩
       go_wp2_with fail
       refine ⟨rfl,?_⟩
       rw [HE.out]
       exact ⟨rfl,_,HU.out⟩
      ·have hb2:decide ((q:Int)+32≤(s.size:Int))=true:=by simp;omega
       have HL4:Shut ((if recL hd (str r)=((bts s).drop sz).take (q+32 - sz) then ldM (bts s) g (Tp.add ⟨rs,hd,sz⟩ (str r)) else none)=O):=⟨by
        have:=HL3.out
        dsimp only at this
        rw [if_neg (by rw [bts_len];exact hq)] at this
        exact this⟩
       clear HL3
       go_wp2_with fail
       refine (check_ok _).mono ?_
       rintro e w9 ⟨rfl,rfl⟩
       go_wp2_with fail
       refine HC.out.mono ?_
       rintro e w9 ⟨rfl,rfl⟩
       clear HC
       go_wp2_with fail
       refine (check_ok _).mono ?_
       rintro e w9 ⟨rfl,rfl⟩
       go_wp2_with fail
       have hgr:∀ k,k∈tpB b vr'→k≠1∧k≠0:=fun k hk=>by
        rcases HU.out.sub k hk with h | h
        ·exact HG.out k h
        ·omega
       have HAC:=qj fun W (hf:Fr [] wr W)=>add_c b X ty vr' ⟨rs,hd,sz⟩ (str r) W (H1.out.same hf) (by rw [str_size];exact hr1) HHd.out (by simp only;omega) (by simp only;omega) ((HR.out.same (HU.out.fr.mono (fun _ h=>h)) (fun hm=>(HG.out _ hm).1 rfl)).same hf (by simp)) (fun k hk=>(hgr k hk).1)
       clear hgr c2
       refine reg_treeP (Fr (tpB b vr') wr) 9 (.take 0 (.take 1 (.take 3 (.take 4 (.take 5 (.take 6 (.take 7 (.one 2 (.take 8 (.one 9 .nil)))))))))) (by kernel_rfl) (by kernel_rfl) (by kernel_rfl) rfl ?_ ?_
       ·intro d v c a w h
        simp only [Exit.inBlock] at h ⊢
        cases d <;> exact h
       have S0:Fr [] wr wr.drew:=Fr.drew _ _
       generalize wr.drew=WC at S0 ⊢
       have S1:Fr (tpB b vr') wr WC:=S0.mono (by simp)
       iterate 5 (refine tree_take (v:=?_) rfl rfl rfl S1 (fun w hS=>?_) ?_;rotate_left;(focus (clear hS;go_simp;rfl));simp only [qu,qv,qx])
       (refine tree_take (v:=?_) rfl rfl rfl S1 (fun w hS=>?_) ?_;rotate_left;(focus (clear hS;go_simp;rw [IntWalk.i64_in ((q:Int)+32) (by omega)]));simp only [qu,qv,qx])
       (refine tree_take (v:=?_) rfl rfl rfl S1 (fun w hS=>?_) ?_;rotate_left;(focus (clear hS;go_simp;rw [if_pos (by omega),if_pos (by omega),show ((q:Int)+32).toNat=q+32 by omega]));simp only [qu,qv,qx])
       refine tree_one rfl rfl (fun K hK=>?_)
       go_simp
       refine (HAC.out _ S0).mono ?_
       rintro e w5 ⟨rfl,vr5,h5,u5⟩
       have S5:=S1.trans u5.fr
       refine hK _ _ S5 ?_
       clear hK K HAC
       have HU5:Hid (Upd (tpB b vr) (tpB b vr5) w w5):=qj (HU.out.trans ⟨S5,fun k hk=>(u5.sub k hk).imp id (fun h=>Nat.le_trans S0.size h)⟩)
       have HT5:=qj h5
       clear u5 h5 S0
       try simp only
       (refine tree_take (v:=?_) rfl rfl rfl S5 (fun w hS=>?_) ?_;rotate_left;(focus (clear hS;go_simp;rfl));simp only [qu,qv,qx])
       refine tree_last rfl rfl (fun K hK=>?_)
       go_simp
       by_cases hm:recL hd (str r)=((bts s).drop sz).take (q+32 - sz)
       ·have hbe:((str (recL hd (str r))).toList == (s.extract sz (q+32)).toList)=true:=by rw [extract_str,← hm];exact beq_self_eq_true _
        have HE:Shut (ldM (bts s) g (Tp.add ⟨rs,hd,sz⟩ (str r))=O):=⟨by rw [← HL4.out,if_pos hm]⟩
        have HA:Shut (Tp.add ⟨rs,hd,sz⟩ (str r)=⟨rs++[str r],chainM hd (str r),sz+(recL hd (str r)).length⟩):=⟨rfl⟩
        have hlr:(recL hd (str r)).length=q+32 - sz:=by rw [hm,List.length_take,List.length_drop,bts_len];omega
        rw [hbe]
        refine (check_ok _).mono ?_
        rintro e w9 ⟨rfl,rfl⟩
        refine hK _ _ ?_
        clear hK K hbe hm HL4
        have z5:=szOf_at (qd HT5.out.blk 2)
        have zr:=szOf_at (qd H1.out.blk 2)
        have HZ5:=qj z5;have HZR:=qj zr
        clear z5 zr
        go_wp2_with fail
        go_roundw
        case rel=>exact ⟨_,vr5,g,HT5,HU5,⟨by rw [HA.out];exact chainM_size _ _⟩,by rw [HA.out];simp;omega,by rw [HA.out];simp only;omega,by rw [HA.out];simp only;omega,HE⟩
        case measure =>
         rw [HZR.out,HZ5.out,HA.out]
         simp only
         omega
       ·have hbe:((str (recL hd (str r))).toList == (s.extract sz (q+32)).toList)=false:=by
         rw [extract_str,beq_eq_false_iff_ne,ByteArray.toList_eq,ByteArray.toList_eq]
         exact hm
        have HE:Shut (O=none):=⟨by rw [← HL4.out,if_neg hm]⟩
        rw [hbe]
        have hgr:0∉tpB b vr':=fun hm=>by
         rcases HU.out.sub _ hm with h | h
         ·exact (HG.out _ h).2 rfl
         ·omega
        refine (check_bad a _ (HDm.out.fr S5 hgr)).mono ?_
        rintro e w9 ⟨rfl,rfl⟩
        refine ⟨rfl,?_⟩
        rw [HE.out]
        exact ⟨rfl,_,HU5.out⟩
    ·have hb1:((s[sz].toNat:Int) == 1)=false:=by
      rw [beq_eq_false_iff_ne]
      intro e
      apply h1
      rw [← UInt8.toNat_inj]
      simp;omega
     have HE:Shut (O=none):=⟨by rw [← HL2.out,if_neg h0,if_pos h1]⟩
     clear h0 h1
     go_wp2_with fail
     refine (check_bad a _ HDm.out).mono ?_
     rintro e w9 ⟨rfl,rfl⟩
     go_wp2_with fail
     refine ⟨rfl,?_⟩
     rw [HE.out]
     exact ⟨rfl,_,HU.out⟩
  ·have HE:Shut (O=some ⟨rs,hd,sz⟩):=⟨by
    have:=HL.out
    rw [ldM] at this
    simp only [List.getElem?_eq_none (show (bts s).length≤sz by rw [bts_len];omega)] at this
    exact this.symm⟩
   clear HL
   go_wp2_with fail
   go_end0
   rw [HE.out]
   exact ⟨rfl,vr',H1.out,HU.out⟩
end
section
open Go.RowKit Go.Lib
set_option maxRecDepth 100000 in
theorem rec_idle (p q:Addr) (w:World):CallsD Tryz.prog 130 #[.pointer (some p),.pointer (some q)] .returning w fun e u' w'=>e=.returned (.tuple #[])∧u'=.returning∧w'=w:=by
 refine callsD_of_wpS Tryz.func130 rfl fun c₀ cs hu=>?_
 apply wpS_seq
 apply wpS_region
 have tA:∀ w:World,(Instr.typeAssert .nilIface 20 217 true).run Tryz.prog w=.ok (.tuple #[.nilIface,.bool false]) w:=fun w=>by kernel_rfl
 simp [wpOpsS,go_sem,recoverD,hu,Tryz.ntmps130,Exit.thenS,tA]
 clear tA
 simp only [Array.replicate_succ,Array.replicate_zero]
 refine wpS_of_wp ?_
 go_wp2_with fail
 exact ⟨rfl,_,by cases c₀;simp_all,_,by simp [results,Tryz.results130,go_sem],rfl,rfl,rfl⟩
set_option maxRecDepth 100000 in
theorem rec_panicking (a p q:Addr) (vp vq:Value) (w:World) (hD:DmgAt w a) (hp:w.cell? p=some vp) (yp:w.frozen? p=false) (hq:(w.setCell p (.pointer none)).cell? q=some vq) (yq:(w.setCell p (.pointer none)).frozen? q=false) :
  CallsD Tryz.prog 130 #[.pointer (some p),.pointer (some q)] (.panicking (dmgP a)) w fun e u' w'=>e=.returned (.tuple #[])∧u'=.panicking [{ v:=.iface 359 (.pointer (some a)),recovered:=true }]∧w'=(w.setCell p (.pointer none)).setCell q (.int .i64 102):=by
 obtain ⟨t,fz,hD⟩:=hD
 have cD:=qd hD 0
 clear hD
 refine callsD_of_wpS Tryz.func130 rfl fun c₀ cs hu=>?_
 apply wpS_seq
 apply wpS_region
 have tA:∀ w:World,(Instr.typeAssert (.iface 359 (.pointer (some a))) 20 217 true).run Tryz.prog w=.ok (.tuple #[.iface 359 (.pointer (some a)),.bool true]) w:=fun w=>run_typeAssert_hasB Tryz.underlying217 (by kernel_rfl) _ _ w
 simp [wpOpsS,go_sem,recoverD,hu,Tryz.ntmps130,Exit.thenS,tA]
 clear tA
 simp only [Array.replicate_succ,Array.replicate_zero]
 refine wpS_of_wp ?_
 go_wp2_with (go_at_call 131;refine (is_same a _).mono ?_;rintro e w9 ⟨rfl,rfl⟩)
 exact ⟨rfl,_,by cases c₀;simp_all,_,by simp [results,Tryz.results130,go_sem],rfl,rfl,rfl⟩
theorem sl_bytes {w:World} {b n:Nat} {ty:TypeId} {l:List UInt8} (h:w.heap[b]?=some (.cells (byteCells l).toArray ty (0,0))) (_hl:l.length=n) (hn:n≤9223372036854775807):Sl w (.slice (some ⟨b,0,none⟩) n n) n (byteCells l) :=
 ⟨_,_,rfl,Nat.le_refl _,hn,fun _=>⟨_,0,rfl,fun j u hu=>by
  rw [Nat.zero_add,qd h]
  simpa using hu⟩⟩
theorem alloc4 (w:World) (x y z u:Obj):Fr [] w ((((w.alloc x).alloc y).alloc z).alloc u)∧((((w.alloc x).alloc y).alloc z).alloc u).heap[w.heap.size]?=some x∧((((w.alloc x).alloc y).alloc z).alloc u).heap[w.heap.size+1]?=some y ∧
  ((((w.alloc x).alloc y).alloc z).alloc u).heap[w.heap.size+1+1+1]?=some u∧((((w.alloc x).alloc y).alloc z).alloc u).heap.size=w.heap.size+4:=by
 have e1:(w.alloc x).heap.size=w.heap.size+1:=by simp
 have e2:((w.alloc x).alloc y).heap.size=w.heap.size+1+1:=by simp
 have e3:(((w.alloc x).alloc y).alloc z).heap.size=w.heap.size+1+1+1:=by simp
 have h0:=qm w x
 have h1:=qm (w.alloc x) y
 have h3:=qm (((w.alloc x).alloc y).alloc z) u
 rw [e1] at h1
 rw [e3] at h3
 exact ⟨((((Fr.alloc _ _ _).trans (Fr.alloc _ _ _)).trans (Fr.alloc _ _ _)).trans (Fr.alloc _ _ _)),heap_alloc_old u (heap_alloc_old z (heap_alloc_old y h0)),heap_alloc_old u (heap_alloc_old z h1),h3,by simp⟩
theorem set2 (w:World) (p q:Nat) (u v x y:Value) (t1 t2:TypeId) (hp:w.heap[p]?=some (.cells #[u] t1 (0,0))) (hq:w.heap[q]?=some (.cells #[v] t2 (0,0))) (h:p≠q):((w.setCell ⟨p,0,none⟩ x).setCell ⟨q,0,none⟩ y).cell? ⟨p,0,none⟩=some x∧((w.setCell ⟨p,0,none⟩ x).setCell ⟨q,0,none⟩ y).cell? ⟨q,0,none⟩=some y ∧
  Fr [p,q] w ((w.setCell ⟨p,0,none⟩ x).setCell ⟨q,0,none⟩ y)∧(w.setCell ⟨p,0,none⟩ x).cell? ⟨q,0,none⟩=some v∧(w.setCell ⟨p,0,none⟩ x).frozen? ⟨q,0,none⟩=false:=by
 have f1:Fr [p] w (w.setCell ⟨p,0,none⟩ x):=Fr.setCell _ _ (by simp)
 have f2:Fr [q] (w.setCell ⟨p,0,none⟩ x) ((w.setCell ⟨p,0,none⟩ x).setCell ⟨q,0,none⟩ y):=Fr.setCell _ _ (by simp)
 have b1:=qs (i:=0) x hp
 have b2:=f1.keep hq (by simp;omega)
 have b3:=qs (i:=0) y b2
 have b4:=f2.keep b1 (by simpa using h)
 exact ⟨qd b4 0,qd b3 0,(f1.mono (by simp)).trans (f2.mono (by simp)),qd b2 0,ql b2 0⟩
def OpenPost (dp:Option Addr) (w:World) (o:Option Tp) (e:Ending) (w':World):Prop:=Fr [] w w'∧match o with
 | some t=>∃ jb vr,e=.returned (.tuple #[.pointer (some ⟨jb,0,none⟩),.int .i64 0])∧TapeAt w' jb [.pointer dp,.bool false] 177 vr t∧∀ k,k∈tpB jb vr→w.heap.size≤k
 | none=>e=.returned (.tuple #[.pointer none,.int .i64 102])
set_option maxRecDepth 100000 in
set_option maxHeartbeats 4000000 in
theorem open_c (a:Addr) (dp:Option Addr) (s:ByteArray) (w:World) (hs:s.size≤1000000000) (hR:RndAt w) (hD:DmgAt w a):Calls Tryz.prog 86 #[.pointer dp,.string s] w (OpenPost dp w (openM (bts s))):=by
 have HR:=qj hR;have HD:=qj hD
 have hrl:1 < w.heap.size:=by obtain ⟨_,_,h⟩:=hR;exact blk_lt h
 have hdl:0 < w.heap.size:=by obtain ⟨_,_,h⟩:=hD;exact blk_lt h
 clear hR hD
 have hmf:∀ (fn:Fn) (first cap:Array Value) (w:World),(Instr.makeFunc fn first cap).run Tryz.prog w=.ok (.func fn first cap) w:=fun _ _ _ _=>rfl
 have hmk:∀ w:World,(Instr.makeSlice 39 (.int .i64 32) (.int .i64 32)).run Tryz.prog w=.ok (.slice (some ⟨w.heap.size,0,none⟩) 32 32) (w.alloc (.cells (madeCells #[Value.int .u8 0] 32) 5)):=fun w=>run_make_row' (P:=Tryz.prog) 39 5 (.int .u8 0) 1 Tryz.underlying39 (by kernel_rfl) rfl .i64 .i64 32 (by omega) (by omega) w
 obtain ⟨zs,hzs,hzl⟩:∃ zs:List UInt8,zs=List.replicate 32 0∧zs.length=32:=⟨_,rfl,rfl⟩
 rw [made_bytes,← hzs] at hmk
 have hzh:(⟨zs.toArray⟩:ByteArray)=head0:=by rw [hzs];rfl
 clear hzs
 go_enter_defers Tryz.func86,Tryz.ntmps86
 go_wp2_with (first | ((with_reducible refine wpList_of_wp (o:=⟨some 9,_,_,_,_,_⟩) rfl (fun K hK=>?_));apply stopD;case _other=>exact trivial))
 (refine stopD ?_ ?_;rotate_left;exact trivial)
 have s1:=sl_bytes (ty:=5) (qm ((w.alloc (.cells #[.pointer none] 102)).alloc (.cells #[.int .i64 0] 34)) (.cells (byteCells zs).toArray 5)) hzl (by omega)
 refine wp_sl_str (.tmp 8) rfl _ 32 32 zs rfl (by simpa using s1) (by omega) hzl ?_
 refine hK _ _ ?_
 clear hK K s1 hmk
 rw [hzh]
 go_upto_region 3 with fail
 obtain ⟨F5,B0,B1,B3,Z5⟩:=alloc4 w (.cells #[.pointer (some ⟨w.heap.size+1+1+1,0,none⟩)] 102) (.cells #[.int .i64 0] 34) (.cells (byteCells zs).toArray 5) (.cells #[.slice none 0 0,.string head0,.int .i64 0,.pointer dp,.bool false] 177)
 generalize World.alloc _ (.cells #[.slice none 0 0,.string head0,.int .i64 0,.pointer dp,.bool false] 177)=W5 at *
 have T5:TapeAt W5 (w.heap.size+1+1+1) [.pointer dp,.bool false] 177 (.slice none 0 0) tp0:=⟨B3,⟨rfl,.inl ⟨rfl,rfl⟩⟩,by simp [Value.ownBlock]⟩
 have CL:=qj (load_c a (w.heap.size+1+1+1) [.pointer dp,.bool false] 177 (.slice none 0 0) tp0 s (s.size+1) W5 T5 hs rfl (Nat.le_refl _) (Nat.zero_le _) (by show s.size < 0+(s.size+1);omega) (HR.out.same F5 (by simp)) (HD.out.fr F5 (by simp)) (fun k hk=>by
  have hk2:k=w.heap.size+1+1+1:=by simpa [tpB,Value.ownBlock] using hk
  omega))
 have c0:=qd B0 0
 have HF5:=qj F5;have HB0:=qj B0;have HB1:=qj B1
 clear F5 B0 B1 B3 T5 HR hmf hzl hzh
 generalize hO:openM (bts s)=O
 have hO':ldM (bts s) (s.size+1) tp0=O:=hO
 rw [hO'] at CL
 have HO:Shut (openM (bts s)=O):=⟨hO⟩
 clear hO hO'
 cases O with
 | none =>
  go_wp2_with fail
  refine CL.out.mono ?_
  rintro e w6 ⟨rfl,fp,u6⟩
  have f6:Fr [w.heap.size+1+1+1] W5 w6:=u6.fr.mono (by simp [tpB,Value.ownBlock])
  have b0:=f6.keep HB0.out (by simp <;> omega)
  obtain ⟨d0,d1,F7,c1,y1⟩:=set2 w6 w.heap.size (w.heap.size+1) _ _ (.pointer none) (.int .i64 102) _ _ b0 (f6.keep HB1.out (by simp <;> omega)) (by omega)
  have D6:=(HD.out.fr HF5.out (by simp)).fr f6 (by simp)
  have F8:=(HF5.out.step f6 (by simp;omega)).step F7 (by simp)
  refine leaves_cons (f:=130) (args:=#[.pointer (some ⟨w.heap.size,0,none⟩),.pointer (some ⟨w.heap.size+1,0,none⟩)]) (by simp) (by simp [go_sem]) ?_
  refine (rec_panicking a ⟨w.heap.size,0,none⟩ ⟨w.heap.size+1,0,none⟩ _ _ w6 D6 (qd b0 0) (ql b0 0) c1 y1).mono ?_
  rintro e u' w7 ⟨rfl,rfl,rfl⟩
  generalize (w6.setCell ⟨w.heap.size,0,none⟩ (.pointer none)).setCell ⟨w.heap.size+1,0,none⟩ (.int .i64 102)=W8 at *
  have HF8:=qj F8
  clear F8 F7 D6 b0 c1 y1 f6 u6 c0
  simp [Leaves,settle,results,Tryz.results86,go_sem,d0,d1]
  exact ⟨HF8.out,rfl⟩
 | some t =>
  go_wp2_with fail
  refine CL.out.mono ?_
  rintro e w6 ⟨rfl,vr,h6,u6⟩
  have f6:Fr [w.heap.size+1+1+1] W5 w6:=u6.fr.mono (by simp [tpB,Value.ownBlock])
  have b0:=f6.keep HB0.out (by simp <;> omega)
  have b1:=f6.keep HB1.out (by simp <;> omega)
  have HF6:=qj f6;have H6:=qj h6;have U6:=qj u6
  have c0:=qd b0 0;have y0:=ql b0 0
  have c1:=qd b1 0;have y1:=ql b1 0
  have Hb0:=qj b0;have Hb1:=qj b1
  clear f6 h6 u6 b0 b1
  go_wp2_with fail
  rw [HO.out]
  obtain ⟨d0,d1,F7,_,_⟩:=set2 w6 w.heap.size (w.heap.size+1) _ _ (.pointer (some ⟨w.heap.size+1+1+1,0,none⟩)) (.int .i64 0) _ _ Hb0.out Hb1.out (by omega)
  have hfp:∀ k,k∈tpB (w.heap.size+1+1+1) vr→w.heap.size+1+1+1≤k:=fun k hk=>by
   rcases U6.out.sub k hk with h | h
   ·simp [tpB,Value.ownBlock] at h;omega
   ·omega
  have T7:=H6.out.fr F7 (fun k hk=>by have:=hfp k hk;simp;omega)
  have F8:=(HF5.out.step HF6.out (by simp;omega)).step F7 (by simp)
  refine leaves_cons (f:=130) (args:=#[.pointer (some ⟨w.heap.size,0,none⟩),.pointer (some ⟨w.heap.size+1,0,none⟩)]) (by simp) (by simp [go_sem]) ?_
  refine (rec_idle ⟨w.heap.size,0,none⟩ ⟨w.heap.size+1,0,none⟩ _).mono ?_
  rintro e u' w7 ⟨rfl,rfl,rfl⟩
  generalize (w6.setCell ⟨w.heap.size,0,none⟩ (.pointer (some ⟨w.heap.size+1+1+1,0,none⟩))).setCell ⟨w.heap.size+1,0,none⟩ (.int .i64 0)=W8 at *
  have HF8:=qj F8;have HT7:=qj T7;have HFP:=qj hfp
  clear F8 T7 F7 c0 c1 y0 y1 hfp
  simp [Leaves,settle,results,Tryz.results86,go_sem,d0,d1]
  exact ⟨HF8.out,_,vr,rfl,HT7.out,fun k hk=>by have:=HFP.out k hk;omega⟩
end
section
open Go.RowKit Go.Lib
theorem infoU8:(Tryz.prog.info? 5).map (·.size)=some 1:=by kernel_rfl
theorem infoW:(Tryz.prog.info? 273).map (fun i=>(i.zero,i.size,i.bytes))=some (some (.agg #[.int .i64 0,.string ⟨#[]⟩]),2,24):=by kernel_rfl
theorem infoB:(Tryz.prog.info? 5).map (fun i=>(i.zero,i.size,i.bytes))=some (some (.int .u8 0),1,1):=by kernel_rfl
abbrev DkI (w:World) (b bd bv:Nat) (pv:Value) (D:Dk):Prop:=DkIn 158 273 5 w b bd bv pv D
abbrev DkA (w:World) (b:Nat) (fp:List Nat) (D:Dk):Prop:=DkAt 158 273 5 w b fp D
set_option maxHeartbeats 400000 in
theorem check_off (b:Nat) (w:World) (hc:w.cell? ⟨b,0,none⟩=some (.bool true)) :
  Calls Tryz.prog 128 #[.pointer (some ⟨b,0,none⟩)] w fun e w'=>e=.returned (.int .i64 91)∧w=w':=by
 go_enter Tryz.func128,Tryz.ntmps128
 go_wp2
 go_ret
 exact ⟨rfl,rfl⟩
set_option maxHeartbeats 400000 in
theorem check_on (b:Nat) (w:World) (hc:w.cell? ⟨b,0,none⟩=some (.bool false)) :
  Calls Tryz.prog 128 #[.pointer (some ⟨b,0,none⟩)] w fun e w'=>e=.returned (.int .i64 0)∧w=w':=by
 go_enter Tryz.func128,Tryz.ntmps128
 go_wp2
 go_ret
 exact ⟨rfl,rfl⟩
set_option maxHeartbeats 400000 in
theorem used_0 (b:Nat) (w:World) (hc:w.cell? ⟨b,1,none⟩=some (.int .i64 0)) :
  Calls Tryz.prog 175 #[.pointer (some ⟨b,0,none⟩)] w fun e w'=>e=.returned (.tuple #[])∧w=w':=by
 go_enter Tryz.func175,Tryz.ntmps175
 go_wp2
 exact ret0 rfl rfl ⟨rfl,rfl⟩
set_option maxHeartbeats 400000 in
theorem used_1 (b:Nat) (n:Int) (o:Value) (w:World) (hn:1≤n) (hn2:n≤9223372036854775807) (ho:w.cell? ⟨b,0,none⟩=some o) (hc:w.cell? ⟨b,1,none⟩=some (.int .i64 n))
  (hf0:w.frozen? ⟨b,0,none⟩=false) (hf1:w.frozen? ⟨b,1,none⟩=false) :
  Calls Tryz.prog 175 #[.pointer (some ⟨b,0,none⟩)] w fun e w'=>e=.returned (.tuple #[])∧(w.setCell ⟨b,1,none⟩ (.int .i64 (n - 1))).setCell ⟨b,0,none⟩ (.bool (n - 1 == 0))=w':=by
 have h0:(n == 0)=false:=by simp;omega
 go_enter Tryz.func175,Tryz.ntmps175
 go_wp2
 go_end0
 exact ⟨rfl,rfl⟩
theorem used_dk (b bd bv:Nat) (pv:Value) (D:Dk) (w:World) (h:DkI w b bd bv pv D) :
  Calls Tryz.prog 175 #[.pointer (some ⟨b,0,none⟩)] w fun e w'=>e=.returned (.tuple #[])∧DkI w' b bd bv pv D.use∧Fr [b] w w':=by
 by_cases h0:D.left=0
 ·have hu:D.use=D:=by simp [Dk.use,h0]
  rw [hu]
  refine (used_0 b w (by rw [qd h.str];simp [h0])).mono ?_
  rintro e w' ⟨rfl,rfl⟩
  exact ⟨rfl,h,Fr.refl _ _⟩
 ·have hl:=h.ok.left
  refine (used_1 b D.left (.bool D.off) w (by omega) (by omega) (by rw [qd h.str];simp) (by rw [qd h.str];simp) (ql h.str _) (ql h.str _)).mono ?_
  rintro e w' ⟨rfl,rfl⟩
  refine ⟨rfl,?_,(Fr.setCell _ _ (by simp)).trans (Fr.setCell _ _ (by simp))⟩
  have hk:∀ k,k≠b→((w.setCell ⟨b,1,none⟩ (.int .i64 ((D.left:Int) - 1))).setCell ⟨b,0,none⟩ (.bool ((D.left:Int) - 1 == 0))).heap[k]?=w.heap[k]?:=fun k hk =>
   (Below.heap_setCell _ _ _ _ hk).trans (Below.heap_setCell _ _ _ _ hk)
  have hu:D.use={ D with left:=D.left - 1,off:=D.left - 1 == 0 }:=by simp [Dk.use,h0]
  refine ⟨h.ok.use,?_,?_,?_,?_,h.ne1,h.ne2,h.ne3,h.nep⟩
  ·rw [qs _ (qs _ h.str),hu]
   have e1:((D.left:Int) - 1 == 0)=(D.left - 1 == 0):=by rw [Bool.eq_iff_iff];simp;omega
   have e2:(D.left:Int) - 1=((D.left - 1:Nat):Int):=by omega
   rw [e1,e2]
   simp
  ·rw [hu];exact (hk bd h.ne1.symm).trans h.dur
  ·rw [hu];exact (hk bv h.ne2.symm).trans h.vis
  ·rw [hu];exact ownsRow_keep h.pend fun g hg=>hk g (h.nep g hg).1
set_option maxRecDepth 100000 in
set_option maxHeartbeats 400000 in
theorem onto_lt (o:Nat) (s:ByteArray) (b n:Nat) (l:List UInt8) (w:World) (hlo:o < n) (hl:o+s.size≤n) (_hn:n≤4194304) (hb:BytesAt w b 5 l) (hln:l.length=n) :
  Calls Tryz.prog 174 #[.agg #[.int .i64 o,.string s],.slice (some ⟨b,0,none⟩) n n] w fun e w'=>e=.returned (.tuple #[])∧Fr [b] w w'∧BytesAt w' b 5 (paste l o s.data.toList):=by
 have hlt:=blk_lt hb
 have hne:¬ n=o:=by omega
 have hle:o≤n:=by omega
 have hln':=qj hln;clear hln
 have hb':∀ c:Array Value,BytesAt (w.alloc (.cells c 273)).drew b 5 l:=fun c=>heap_alloc_old _ hb
 have Hb:=qj hb';clear hb hb'
 go_enter Tryz.func174,Tryz.ntmps174
 go_wp2
 go_region_law (refine step_of_wp rfl (wp_copy_str (.tmp 7) (.tmp 9) 39 9 5 rfl Tryz.underlying39 infoU8 b o (n - o) (n - o) s l 5 rfl rfl (Hb.out _) (by omega) (by rw [hln'.out];omega) ?_);intro w1 hf1 _ hb1)
 all_goals
  go_wp2
  go_end0
  exact ⟨rfl,((Fr.alloc [b] w _).trans (Fr.drew _ _)).trans hf1,hb1⟩
set_option maxRecDepth 100000 in
set_option maxHeartbeats 400000 in
theorem onto_end (s:ByteArray) (b n:Nat) (l:List UInt8) (w:World) (hl:s.size=0) (_hn:n≤4194304) (hb:BytesAt w b 5 l) (hln:l.length=n) :
  Calls Tryz.prog 174 #[.agg #[.int .i64 n,.string s],.slice (some ⟨b,0,none⟩) n n] w fun e w'=>e=.returned (.tuple #[])∧Fr [b] w w'∧BytesAt w' b 5 (paste l n s.data.toList):=by
 have hlt:=blk_lt hb
 have hln':=qj hln;clear hln
 have Hl:=qj hl;clear hl
 have hb':∀ c:Array Value,BytesAt (w.alloc (.cells c 273)).drew b 5 l:=fun c=>heap_alloc_old _ hb
 have Hb:=qj hb';clear hb hb'
 go_enter Tryz.func174,Tryz.ntmps174
 go_wp2
 go_region_law (refine step_of_wp rfl (wp_copy_str (.tmp 7) (.tmp 9) 39 9 5 rfl Tryz.underlying39 infoU8 b 0 0 0 s l 5 rfl rfl (Hb.out _) (by rw [Hl.out];omega) (by rw [Hl.out];omega) ?_);intro w1 hf1 _ hb1)
 all_goals
  go_wp2
  go_end0
  have hs:s.data.toList=[]:=List.eq_nil_of_length_eq_zero (by simpa using Hl.out)
  rw [hs,paste_nil] at hb1
  rw [hs,paste_nil]
  exact ⟨rfl,((Fr.alloc [b] w _).trans (Fr.drew _ _)).trans hf1,hb1⟩
theorem onto_any (o:Nat) (s:ByteArray) (b n:Nat) (l:List UInt8) (w:World) (hl:o+s.size≤n) (hn:n≤4194304) (hb:BytesAt w b 5 l) (hln:l.length=n) :
  Calls Tryz.prog 174 #[.agg #[.int .i64 o,.string s],.slice (some ⟨b,0,none⟩) n n] w fun e w'=>e=.returned (.tuple #[])∧Fr [b] w w'∧BytesAt w' b 5 (paste l o s.data.toList):=by
 rcases Nat.lt_or_ge o n with h | h
 ·exact onto_lt o s b n l w h hl hn hb hln
 ·obtain rfl:o=n:=by omega
  exact onto_end s b o l w (by omega) hn hb hln
end
end Go.Proofs.YtledkokhghjfmaaGreatDoor
