/-
  carrier: the closure by which Notices orders.
-/
import Derived.Test.YtledkokhghjfmaaGreatDoorPN01
import Derived.Test.YtledkokhghjfmaaGreatDoorPS23
import Derived.Test.YtledkokhghjfmaaGreatDoorPS02
import Derived.Test.YtledkokhghjfmaaGreatDoorPS11
import Derived.Deep.MidRow
import Derived.Shelf.SlSortCmp.NoneTotal
import Derived.Test.YtledkokhghjfmaaGreatDoorShelfS
import Derived.Test.YtledkokhghjfmaaGreatDoorPS21
import Derived.Test.YtledkokhghjfmaaGreatDoorPS05
import Derived.Test.YtledkokhghjfmaaGreatDoorPS07
namespace Go.Proofs.YtledkokhghjfmaaGreatDoor
section
open Go.RowKit Go.Lib
def txtB (t:Nt):List UInt8:=if fmN t then txtN t else []
def txtE (t:Nt):Int:=if fmN t then 0 else 430
theorem txtV_eq (t:Nt):txtV t=.tuple #[.string (str (txtB t)),.int .i64 (txtE t)]:=by
 unfold txtV txtB txtE
 split <;> rfl
def keyT (f:Nt):List Int:=f.src :: bsI (txtB f)
theorem keyT_or (a b:Nt):orM [cmpI a.src b.src,lexC (bsI (txtB a)) (bsI (txtB b))]=lexC (keyT a) (keyT b):=by
 unfold keyT
 rw [lexC,orM,orM,orM]
 unfold cmpI
 split
 ·simp
 ·split
  ·simp
  ·simp
   intro h;exact h.symm
theorem nt_load {ev:Operand→Value} {o:Oper} {W:World} {A:Nat} {t:Nt} (x:Operand) (ho:o.op=.load 31 x) (hx:ev x=.pointer (some ⟨A,0,none⟩)) (h:NtAt W A t):(execOp ev o).run Tryz.prog W=.ok (.value (ntV t)) W:=by
 unfold execOp
 simp only [ho,hx,Instr.loadAt,Instr.sureAddr,Sem.run_bind,Sem.run_pure,Result.andThen_ok,run_nt h]
theorem wp_nt_load {o:Oper} {a:Act} {W:World} {K:Act→World→Prop} {Q:Exit→Act→World→Prop} {A:Nat} {t:Nt} (x:Operand) (ho:o.op=.load 31 x) (hx:a.eval x=.pointer (some ⟨A,0,none⟩)) (h:NtAt W A t) (hk:K (a.put o.dst (ntV t)) W):o.wp Tryz.prog a W K Q:=by
 unfold Oper.wp
 rw [nt_load x ho hx h]
 exact hk
theorem NtAt.keep {w w':World} {A:Nat} {t:Nt} {S:List Nat} (h:NtAt w A t) (hf:Fr S w w') (hn:A∉S):NtAt w' A t:=hf.keep h hn
set_option maxRecDepth 100000 in
set_option maxHeartbeats 1000000 in
theorem notes1_c (a b:Nt) (w:World):Calls Tryz.prog 53 #[ntV a,ntV b] w fun e w'=>e=.returned (.int .i64 (lexC (keyT a) (keyT b)))∧Fr [] w w':=by
 rw [← keyT_or]
 obtain ⟨F2,B1,B2⟩:=two_more w (.cells (ntC a).toArray 31) (.cells (ntC b).toArray 31)
 have CT:=qj fun (t:Nt) W=>CAText_c t W
 simp only [txtV_eq] at CT
 have CI:=qj fun (x y:Int) W=>cmpI_c x y W
 have CS:=qj fun (x y:ByteArray) W=>cmpS_c x y W
 have CO:=qj fun (W:World) (bk:Nat) (x y:Int) (h:W.heap[bk]?=some (.cells #[.int .i64 x,.int .i64 y] 3 (0,0)))=>orI_c (.slice (some ⟨bk,0,none⟩) 2 2) [x,y] W (sl_blk (cs:=([x,y]:List Int).map (Value.int .i64)) h rfl (by omega)) (by simp)
 have HF2:=qj F2
 have HB:=qj (And.intro (show NtAt _ _ a from B1) (show NtAt _ _ b from B2))
 clear F2 B1 B2
 go_enter Tryz.func53,Tryz.ntmps53
 go_wp2_with (first | ((with_reducible refine wpList_of_wp (o:=⟨some 10,_,_,_,_,_⟩) rfl (fun K hK=>?_));apply stopD;case _other=>exact trivial))
 (refine stopD ?_ ?_;rotate_left;exact trivial)
 refine wp_nt_load (.tmp 2) rfl rfl HB.out.1 (hK _ _ ?_)
 clear hK K
 go_wp2_with fail
 refine (CT.out _ _).mono ?_
 rintro e w1 ⟨rfl,f1⟩
 have HF3:=qj (HF2.out.trans f1)
 have HB1:=qj (And.intro (HB.out.1.keep f1 (by simp)) (HB.out.2.keep f1 (by simp)))
 clear f1 HB HF2
 go_wp2_with (first | ((with_reducible refine wpList_of_wp (o:=⟨some 15,_,_,_,_,_⟩) rfl (fun K hK=>?_));apply stopD;case _other=>exact trivial))
 (refine stopD ?_ ?_;rotate_left;exact trivial)
 refine wp_nt_load (.tmp 3) rfl rfl HB1.out.2 (hK _ _ ?_)
 clear hK K
 go_wp2_with fail
 refine (CT.out _ _).mono ?_
 rintro e w2 ⟨rfl,f1⟩
 have HF4:=qj (HF3.out.trans f1)
 have a0:w2.cell? ⟨w.heap.size,0,none⟩=some (.int .i64 a.src):=qd (HB1.out.1.keep f1 (by simp)) 0
 have b0:w2.cell? ⟨w.heap.size+1,0,none⟩=some (.int .i64 b.src):=qd (HB1.out.2.keep f1 (by simp)) 0
 clear f1 HB1 HF3 CT
 go_wp2_with fail
 refine (CI.out _ _ _).mono ?_
 rintro e w3 ⟨rfl,rfl⟩
 go_wp2_with fail
 refine (CS.out _ _ _).mono ?_
 rintro e w3 ⟨rfl,rfl⟩
 have E1:bts (str (txtB a))=txtB a:=rfl
 have E2:bts (str (txtB b))=txtB b:=rfl
 rw [E1,E2]
 clear E1 E2
 have CO2:=qj (CO.out _ _ _ _ (qm w2 (.cells #[.int .i64 (cmpI a.src b.src),.int .i64 (lexC (bsI (txtB a)) (bsI (txtB b)))] 3)))
 have HF5:=qj (HF4.out.trans (Fr.alloc [] w2 (.cells #[.int .i64 (cmpI a.src b.src),.int .i64 (lexC (bsI (txtB a)) (bsI (txtB b)))] 3)))
 clear HF4 CO
 go_wp2_with fail
 refine CO2.out.mono ?_
 rintro e w3 ⟨rfl,rfl⟩
 go_wp2_with fail
 go_ret
 exact ⟨rfl,HF5.out⟩
end
section
open Go.RowKit Go.Lib
structure RyG {α:Type} (enc:α→List Value) (e:TypeId) (k:Nat) (w W:World) (v:Value) (l:List α):Prop where
 row:W.ownsRow 0 e k v l.length (l.flatMap enc)
 young:∀ g,v.ownBlock=some g→w.heap.size≤g
section
variable {α:Type} {enc:α→List Value} {e:TypeId} {k:Nat} {w W W':World} {v:Value} {l:List α}
theorem RyG.nil (w W:World):RyG enc e k w W (.slice none 0 0) []:=⟨World.ownsRow_nil _ _ _ _,fun g hg=>by cases hg⟩
theorem RyG.fr (h:RyG enc e k w W v l) {S:List Nat} (hf:Fr S W W') (hS:∀ g,v.ownBlock=some g→g∉S):RyG enc e k w W' v l:=⟨row_fr h.row hf hS,h.young⟩
theorem RyG.same (h:RyG enc e k w W v l) (hf:Fr [] W W'):RyG enc e k w W' v l:=h.fr hf (by simp)
theorem RyG.sl (h:RyG enc e k w W v l):Sl W v l.length (l.flatMap enc):=sl_of_row h.row
theorem RyG.lt (h:RyG enc e k w W v l):∀ g,v.ownBlock=some g→g < W.heap.size:=fun g hg=>(h.row.lt g hg).2
theorem RyG.val (h:RyG enc e k w W v l):∃ a c,v=.slice a l.length c:=h.sl.val
theorem wp_app_g (hk:∀ x,(enc x).length=k) (h1:∀ x v,v∈enc x→v.oneCell'=true) {P:Program} {o:Oper} {a:Act} {K:Act→World→Prop} {Q:Exit→Act→World→Prop} (s x:Operand) (t:TypeId) (z:Value) (bytes:Nat)
  (ho:o.op=.call { callee:=.builtin .append,args:=#[s,x],argTypes:=#[t,t] }) (ht:P.underlying t=some (.slice e)) (hinfo:(P.info? e).map (fun i=>(i.zero,i.size,i.bytes))=some (some z,k,bytes)) (hzs:z.cells.size=k) (hk0:0 < k) (hby:bytes≤1000)
  (hs:a.eval s=v) (h:RyG enc e k w W v l) (sb c:Nat) (y:α) (ty:TypeId) (hx:a.eval x=.slice (some ⟨sb,0,none⟩) 1 c) (hsb:W.heap[sb]?=some (.cells (enc y).toArray ty (0,0))) (hlen:l.length≤1000000) (h0:w.heap.size≤W.heap.size)
  (hK:∀ ga cap W',RyG enc e k w W' (.slice ga (l.length+1) cap) (l++[y])→Fr v.ownBlock.toList W W'→(∀ g,(Value.slice ga (l.length+1) cap).ownBlock=some g→v.ownBlock=some g∨g=W.heap.size)→K (a.put o.dst (.slice ga (l.length+1) cap)) W'):o.wp P a W K Q:=by
 refine wp_append_src s x t e z k bytes ho ht hinfo hzs hk0 v l.length (l.flatMap enc) hs h.row (.slice (some ⟨sb,0,none⟩) 1 c) 1 (enc y) hx ⟨.inr ⟨_,c,rfl,fun j u hu=>?_⟩⟩ (by rw [hk];omega) (h1 y) (by omega) (Nat.le_trans (Nat.mul_le_mul (by omega:l.length+1≤1000001) hby) (by omega)) ?_
 ·have ha:(⟨sb,0,none⟩:Addr).add j=⟨sb,j,none⟩:=by
   unfold Addr.add;split
   ·rename_i h0;simp only [h0]
   ·simp
  rw [ha,qd hsb]
  simpa using hu
 ·intro ga cap W' r1 r2 r3
  have r5:∀ g,(Value.slice ga (l.length+1) cap).ownBlock=some g→v.ownBlock=some g∨g=W.heap.size:=fun g hg=>by
   rcases r3 with r4 | r4
   ·exact .inl (r4 ▸ hg)
   ·rw [hg] at r4;exact .inr (Option.some.inj r4)
  refine hK ga cap W' ⟨by simpa using r1,fun g hg=>?_⟩ r2 r5
  rcases r5 g hg with r4 | r4
  ·exact h.young g r4
  ·omega
end
theorem flat_at {α:Type} {enc:α→List Value} {k:Nat} (hk:∀ x,(enc x).length=k):∀ (l:List α) (i:Nat) (h:i < l.length) (j:Nat),j < k→(l.flatMap enc)[i*k+j]?=(enc l[i])[j]?
 | [],_,h,_,_=>by simp at h
 | x :: l,0,_,j,hj=>by rw [List.flatMap_cons,List.getElem?_append_left (by rw [hk];omega)];simp
 | x :: l,i+1,h,j,hj=>by
  rw [List.flatMap_cons,List.getElem?_append_right (by rw [hk,Nat.add_mul];omega),hk,show (i+1)*k+j - k=i*k+j by rw [Nat.add_mul];omega,flat_at hk l i (by simpa using h) j hj]
  simp
theorem sl_range {α:Type} {enc:α→List Value} {k:Nat} (hk:∀ x,(enc x).length=k) {w:World} {b off n cap:Nat} {l:List α} (h:Sl w (.slice (some ⟨b,off,none⟩) n cap) n (l.flatMap enc)) {i:Nat} (hi:i < l.length) (hn:0 < n):w.rangeAt b (off+i*k) (enc l[i]):=by
 obtain ⟨b',o',e,hc⟩:=h.at_ hn
 cases e
 intro j v hv
 have hj:j < k:=by rw [← hk l[i]];exact (List.getElem?_eq_some_iff.1 hv).1
 have:=hc (i*k+j) v (by rw [flat_at hk l i hi j hj];exact hv)
 rw [Nat.add_assoc];exact this
end
section
open Go.RowKit Go.Lib
theorem swoK (key:Nt→List Int):Go.Sort.SWO (ltOf fun x y=>lexC (key x) (key y)) where
 irrefl x:=by simp [ltOf,lexC_refl]
 trans x y z h1 h2:=by
  simp only [ltOf,decide_eq_true_eq] at *
  have h3:=lexC_trans (x:=key x) (y:=key y) (z:=key z) (by omega) (by omega)
  by_cases h4:lexC (key x) (key z)=0
  ·rw [lexC_eq h4,lexC_neg] at h1;omega
  ·omega
 ntrans x y z h1 h2:=by
  simp only [ltOf,decide_eq_false_iff_not] at *
  have e1:=lexC_neg (key x) (key y);have e2:=lexC_neg (key y) (key z);have e3:=lexC_neg (key x) (key z)
  have:=lexC_trans (x:=key z) (y:=key y) (z:=key x) (by omega) (by omega)
  omega
theorem isAggN (w:World):(isAgg 31).run Tryz.prog w=.ok true w:=by kernel_rfl
theorem sizeN (w:World):(Go.sizeOf 31).run Tryz.prog w=.ok 15 w:=by kernel_rfl
theorem sortN_c (g:Nat) (key:Nt→List Int) (eg:∀ args w,(callFunc g args).run Tryz.prog w=.ok (.enter g args) w) (hc:∀ a b W,Calls Tryz.prog g #[ntV a,ntV b] W fun e W'=>e=.returned (.int .i64 (lexC (key a) (key b)))∧Fr [] W W')
  (v:Value) (l:List Nt) (w:World) (h:w.ownsRow 0 31 15 v l.length (l.flatMap ntC)) (hl:l.length≤1000000) :
  Calls Tryz.prog 52 #[v,.func (.func g) #[] #[]] w fun e w'=>e=.returned (.tuple #[])∧∃ m:List Nt,m.Perm l∧SortK key m∧w'.ownsRow 0 31 15 v m.length (m.flatMap ntC)∧Fr v.ownBlock.toList w w':=by
 rcases h.2 with ⟨rfl,h0⟩ | ⟨b,cap,cur,rfl,_⟩
 ·have hl0:l=[]:=List.length_eq_zero_iff.1 h0
  subst hl0
  exact (AnyF.slices_SortFunc_none Tryz.sortNt none 0 _ w).mono fun e w' ⟨he,hw⟩=>⟨he,[],List.Perm.refl _,List.Pairwise.nil,hw ▸ h,hw ▸ Fr.refl _ _⟩
 ·obtain ⟨hH,hb⟩:=holds_row (enc:=ntC) (k:=15) (fun _=>rfl) h rfl
  have hcmp:CmpLays Tryz.prog g #[] ntC 15 (fun x y=>lexC (key x) (key y)) b 0 l.toArray.size w:=fun m os dk _ x y =>
   (calls_drawn (hc x y _)).mono fun e W' ⟨⟨he,hf⟩,hd⟩=>⟨he,fr_grow hf (hd.resolve_left (by rw [he];intro q;cases q))⟩
  have hs:=AnyQ.slices_SortFunc Tryz.sortNt 15 isAggN sizeN ntC (fun _=>rfl) (fun t=>ntC_one t) _ (swoK key) g #[] b 0 cap l.toArray w eg hcmp hH hb (by simp;omega)
  refine (show Calls Tryz.prog 52 #[.slice (some ⟨b,0,none⟩) l.length cap,.func (.func g) #[] #[]] w _ from hs).mono ?_
  rintro e w' ⟨rfl,d,n,os,hp,hsd,rfl⟩
  have hp2:d.toList.Perm l:=perm_lists hp
  have hn:l.length=d.toList.length:=hp2.length_eq.symm
  obtain ⟨r1,r2⟩:=sorted_row (enc:=ntC) (k:=15) (fun _=>rfl) h d.toList hn n os
  refine ⟨rfl,d.toList,hp2,?_,?_,?_⟩
  ·rw [SortK,List.pairwise_iff_getElem]
   intro i j hi hj hij
   have:=hsd i j (Nat.zero_le _) hij (by simpa [← hn] using hj)
   simp only [ltOf,decide_eq_false_iff_not] at this
   have e:=lexC_neg (key d[i]!) (key d[j]!)
   have hi':i < d.size:=by simpa using hi
   have hj':j < d.size:=by simpa using hj
   simp only [getElem!_pos d i hi',getElem!_pos d j hj'] at this e
   simp only [Array.getElem_toList]
   omega
  ·rw [← hn];exact r1
  ·exact r2
end
section
open Go.RowKit Go.Lib
theorem infoNtT:(Tryz.prog.info? 31).map (fun i=>(i.zero,i.size,i.bytes))=some (some (ntV nt0),15,120):=by kernel_rfl
theorem ntC_len (t:Nt):(ntC t).length=15:=rfl
theorem mapV_keys {α β γ:Type} (f:β→γ) (l:List (α × β)):(mapV f l).map Prod.fst=l.map Prod.fst:=by unfold mapV;rw [List.map_map];rfl
set_option maxRecDepth 100000 in
set_option maxHeartbeats 2000000 in
theorem CANotices_c {w:World} {s:Su} {x:CaR} (h:CaIn w s x) (hl:x.nts.length≤1000):Calls Tryz.prog 19 #[.pointer (some ⟨x.cb,0,none⟩)] w fun e w'=>∃ v m,e=.returned v∧RyG ntC 31 15 w w' v m∧m.Perm (x.nts.map Prod.fst)∧SortK keyT m∧Fr [] w w':=by
 have x8:=qd h.blk 8
 have hnb:=h.nts.lt
 have HN:=qj h.nts
 have CS:=qj fun (v:Value) (l:List Nt) W h1 h2=>sortN_c 53 keyT (fun _ _=>rfl) notes1_c v l W h1 h2
 obtain ⟨xcb,xjb,xnb,xmb,xbv,xkv,xL,xn,xa,xbr⟩:=x
 obtain ⟨ow,bl,ra,rc,rs,rr,kl⟩:=s
 simp only at *
 clear h
 go_enter Tryz.func19,Tryz.ntmps19
 go_wp2_with (first | ((with_reducible refine wpList_of_wp (o:=⟨some 11,_,_,_,_,_⟩) rfl (fun K hK=>?_));apply stopD;case _other=>exact trivial))
 (refine stopD ?_ ?_;rotate_left;exact trivial)
 refine wp_range 103 31 4 (.tmp 10) rfl rfl HN.out Tryz.underlying103 rfl ?_
 intro w4 f4 it4
 refine hK _ _ ?_
 clear hK K
 have HI4:=qj it4;have HF4:=qj f4
 have hR:=it4.lt.1
 clear it4 f4 x8
 simp only [qu,qv,qx]
 go_wp2_with fail
 go_loopg [3] (mapV Value.bool xn).length (fun gk ov wr=>∃ (left:List (Nt × Value)) (dn:List Nt),gk=left.length∧Hid (RyG ntC 31 15 w4 wr ov dn)∧Hid (ItAt ntV wr w.heap.size xnb (mapV Value.bool xn) left)∧Hid (Fr [] w wr∧w4.heap.size≤wr.heap.size)∧Hid ((dn++left.map Prod.fst).Perm (xn.map Prod.fst)))
 case atStart=>exact ⟨_,[],rfl,qj (RyG.nil _ _),HI4,qj ⟨HF4.out,Nat.le_refl _⟩,qj (by rw [mapV_keys];exact List.Perm.refl _)⟩
 case round =>
  clear HI4
  obtain ⟨left,dn,rfl,HR,HI,HF,HP⟩:=hrel
  go_wp2_with (first | ((with_reducible refine wpList_of_wp (o:=⟨some 12,_,_,_,_,_⟩) rfl (fun K hK=>?_));apply stopD;case _other=>exact trivial))
  (refine stopD ?_ ?_;rotate_left;exact trivial)
  refine wp_next (.tmp 11) rfl rfl HI.out (by omega) rfl ?_ ?_
  ·intro h0
   subst h0
   refine hK _ _ ?_
   clear hK K
   have HRl:=qj HR.out.row
   have hdl:dn.length≤1000000:=by
    have:=HP.out.length_eq
    simp at this;omega
   have CS2:=qj (CS.out _ _ wr HR.out.row hdl)
   have HY:=qj HR.out.young
   clear HR HI CS
   go_wp2_with fail
   refine CS2.out.mono ?_
   rintro e w6 ⟨rfl,m,hp,hs,hr,hf⟩
   have HZ:Hid (RyG ntC 31 15 w w6 u3 m∧m.Perm (xn.map Prod.fst)∧SortK keyT m∧Fr [] w w6):=qj ⟨⟨hr,fun g hg=>by have:=HY.out g hg;omega⟩,hp.trans (by simpa using HP.out),hs,HF.out.1.step hf (fun k hk=>.inr (by have:=HY.out k (by simpa using hk);omega))⟩
   clear hp hs hr hf
   go_wp2_with fail
   go_ret
   exact ⟨u3,m,rfl,HZ.out⟩
  ·intro l1 y v l2 W' h0 f5 it5 hen
   subst h0
   have hen2:=hen W' rfl rfl
   have HR2:=qj (HR.out.fr f5 (fun g hg hm=>by have:=HR.out.young g hg;simp at hm;omega))
   have HF5:=qj (And.intro (HF.out.1.step f5 (fun k hk=>.inr (by simp at hk;omega))) (Nat.le_trans HF.out.2 f5.size))
   have HI5:=qj it5
   have hRW:=it5.lt.1
   have HN0:Hid (NtAt (W'.alloc (.cells (ntC nt0).toArray 31)) W'.heap.size nt0):=qj (qm _ _)
   have HP2:Hid ((dn++[y]++(l1++l2).map Prod.fst).Perm (xn.map Prod.fst)):=qj (List.Perm.trans (by
    simp only [List.map_append,List.map_cons,List.append_assoc]
    refine List.Perm.append_left _ ?_
    exact (List.perm_middle (l₁:=l1.map Prod.fst)).symm) HP.out)
   clear HR HF HI HP f5 it5 hen
   refine hK _ _ ?_
   clear hK K
   simp only [qu,qv,qx]
   go_wp2_with (first | ((with_reducible refine wpList_of_wp (o:=⟨none,.store _ _ _,_,_,_,_⟩) rfl (fun K hK=>?_));apply stopD;case _other=>exact trivial))
   (refine stopD ?_ ?_;rotate_left;exact trivial)
   refine wp_nt (.tmp 4) (.tmp 15) W'.heap.size nt0 y rfl rfl rfl HN0.out rfl (fun W6 n6 f6=>hK _ _ ?_)
   have HN6:=qj n6
   have HF6:Hid (Fr [] W' W6):=qj ((Fr.alloc [] W' _).step f6 (fun k hk=>.inr (by simp at hk;omega)))
   clear hK K n6 f6 hen2 HN0
   go_wp2_with (first | ((with_reducible refine wpList_of_wp (o:=⟨some 17,_,_,_,_,_⟩) rfl (fun K hK=>?_));apply stopD;case _other=>exact trivial))
   (refine stopD ?_ ?_;rotate_left;exact trivial)
   refine wp_nt_load (.tmp 4) rfl rfl HN6.out (hK _ _ ?_)
   clear hK K
   have HB7:=qj (qm W6 (.cells (ntC y).toArray 31))
   have HR7:=qj ((HR2.out.same HF6.out).same (Fr.alloc [] W6 (.cells (ntC y).toArray 31)))
   have HF7:=qj (HF6.out.trans (Fr.alloc [] W6 (.cells (ntC y).toArray 31)))
   clear HR2 HF6 HN6
   have hdl:dn.length≤1000000:=by
    have:=HP2.out.length_eq
    simp at this;omega
   have hsz:w4.heap.size≤(W6.alloc (.cells (ntC y).toArray 31)).heap.size:=Nat.le_trans HF5.out.2 HF7.out.size
   have HSZ:=qj hsz
   clear hsz
   go_wp2_with (first | ((with_reducible refine wpList_of_wp (o:=⟨some 19,_,_,_,_,_⟩) rfl (fun K hK=>?_));apply stopD;case _other=>exact trivial))
   (refine stopD ?_ ?_;rotate_left;exact trivial)
   refine wp_app_g (v:=u3) ntC_len (fun t=>ntC_one t) (.tmp 16) (.tmp 18) 71 (ntV nt0) 120 rfl Tryz.underlying71 infoNtT rfl (by decide) (by decide) rfl HR7.out W6.heap.size 1 y 31 rfl HB7.out hdl HSZ.out (fun ga cap W8 r8 f8 _=>hK _ _ ?_)
   have HR8:=qj r8
   have hyo:=HR7.out.young
   have HF8:=qj (And.intro ((HF5.out.1.trans HF7.out).step f8 (fun k hk=>.inr (by have:=hyo k (by simpa using hk);omega))) (Nat.le_trans HSZ.out f8.size))
   have HI8:Hid (ItAt ntV W8 w.heap.size xnb (mapV Value.bool xn) (l1++l2)):=qj ((HI5.out.keep HF7.out (by simp) (by simp)).keep f8 (fun hm=>by have:=hyo _ (by simpa using hm);omega) (fun hm=>by have:=hyo _ (by simpa using hm);omega))
   clear hK K r8 f8 hyo HR7 HB7 HF5 HF7 HI5 HSZ
   go_wp2_with fail
   go_roundg (l1++l2).length
   case measure=>simp
   case rel=>exact ⟨l1++l2,dn++[y],rfl,HR8,HI8,HF8,HP2⟩
end
section
open Go.RowKit Go.Lib
structure Ln where
 st:Int
 ho:Int
 ep:Int
 si:Int
deriving DecidableEq
abbrev lnVv (l:Ln):Value:=.agg #[.int .i64 l.st,.int .i64 l.ho,.int .i64 l.ep,.int .i64 l.si]
def lnOk (l:Ln):Bool:=inB l.st 0 3 && (inB l.ep 0 1000 && (inB l.si 0 10000000 && (bif l.st == 0 then l.ho == -1 else (inB l.ho 0 63 && decide (1≤l.ep)))))
set_option maxRecDepth 100000 in
theorem lfValid_c (l:Ln) (w:World):Calls Tryz.prog 101 #[lnVv l] w fun e w'=>e=.returned (.bool (lnOk l))∧Fr [] w w':=by
 have CI:=qj fun (n lo hi:Int) W=>lfIsIn_c n lo hi W
 obtain ⟨st,ho,ep,si⟩:=l
 have HF:=qj (Fr.alloc [] w (.cells #[.int .i64 st,.int .i64 ho,.int .i64 ep,.int .i64 si] 131))
 unfold lnOk
 simp only
 generalize hx1:inB st 0 3=x1 at *
 generalize hx2:inB ep 0 1000=x2 at *
 generalize hx3:inB si 0 10000000=x3 at *
 generalize hx4:inB ho 0 63=x4 at *
 go_enter Tryz.func101,Tryz.ntmps101
 go_wp2_with fail
 refine (CI.out _ _ _ _).mono ?_
 rintro e w1 ⟨rfl,rfl⟩
 rw [hx1]
 cases x1 with
 | false =>
  go_wp2_with fail
  go_ret
  exact ⟨rfl,HF.out⟩
 | true =>
  go_wp2_with fail
  refine (CI.out _ _ _ _).mono ?_
  rintro e w1 ⟨rfl,rfl⟩
  rw [hx2]
  cases x2 with
  | false =>
   go_wp2_with fail
   go_ret
   exact ⟨rfl,HF.out⟩
  | true =>
   go_wp2_with fail
   refine (CI.out _ _ _ _).mono ?_
   rintro e w1 ⟨rfl,rfl⟩
   rw [hx3]
   cases x3 with
   | false =>
    go_wp2_with fail
    go_ret
    exact ⟨rfl,HF.out⟩
   | true =>
    clear hx1 hx2 hx3
    cases hz:st == 0 with
    | true =>
     go_wp2_with fail
     go_ret
     exact ⟨by simp [hz],HF.out⟩
    | false =>
     go_wp2_with fail
     refine (CI.out _ _ _ _).mono ?_
     rintro e w1 ⟨rfl,rfl⟩
     rw [hx4]
     cases x4 with
     | false =>
      go_wp2_with fail
      go_ret
      exact ⟨by simp [hz],HF.out⟩
     | true =>
      go_wp2_with fail
      go_ret
      exact ⟨by simp [hz],HF.out⟩
def entM (f:Nt) (first:Int):Bool:=bif f.kind == 1 then f.src == first else bif f.kind == 2 || f.ek == 5 then f.src == f.ct else bif f.ek == 1 || f.ek == 2 then f.src == f.cf else f.src == first
set_option maxRecDepth 100000 in
theorem entitled_c (f:Nt) (first:Int) (w:World):Calls Tryz.prog 99 #[ntV f,.int .i64 first] w fun e w'=>e=.returned (.bool (entM f first))∧Fr [] w w':=by
 have HF:=qj (Fr.alloc [] w (.cells (ntC f).toArray 31))
 obtain ⟨s,k,n,lk,la,lh,cn,cf,ct,ch,ca,cb,ek,ea,er⟩:=f
 unfold entM
 simp only
 cases h1:k == 1 with
 | true =>
  go_enter Tryz.func99,Tryz.ntmps99
  go_wp2_with fail
  go_ret
  exact ⟨rfl,HF.out⟩
 | false =>
  cases h2:k == 2 with
  | true =>
   go_enter Tryz.func99,Tryz.ntmps99
   go_wp2_with fail
   go_ret
   exact ⟨rfl,HF.out⟩
  | false =>
   cases h3:ek == 5 with
   | true =>
    go_enter Tryz.func99,Tryz.ntmps99
    go_wp2_with fail
    go_ret
    exact ⟨rfl,HF.out⟩
   | false =>
    cases h4:ek == 1 with
    | true =>
     go_enter Tryz.func99,Tryz.ntmps99
     go_wp2_with fail
     go_ret
     exact ⟨rfl,HF.out⟩
    | false =>
     cases h5:ek == 2 <;>
     ·go_enter Tryz.func99,Tryz.ntmps99
      go_wp2_with fail
      go_ret
      exact ⟨rfl,HF.out⟩
end
end Go.Proofs.YtledkokhghjfmaaGreatDoor
