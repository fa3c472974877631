/-
  Which notices count, plainly.
-/
import Derived.Test.YtledkokhghjfmaaGreatDoorPN02
import Derived.Test.YtledkokhghjfmaaGreatDoorPS01
import Derived.Test.YtledkokhghjfmaaGreatDoorPS21
import Derived.Test.YtledkokhghjfmaaGreatDoorPS19
import Derived.Test.YtledkokhghjfmaaGreatDoorPCaLh
namespace Go.Proofs.YtledkokhghjfmaaGreatDoor
section
open Go.RowKit Go.Lib
def cntB (num first:Int) (acc:List Nt) (f:Nt):Bool:=f.num == num && (!decide (f∈acc) && (fmN f && entM f first))
def cnt1 (num first:Int) (acc:List Nt) (f:Nt):List Nt:=bif cntB num first acc f then acc++[f] else acc
def cntM (num first:Int) (l:List Nt):List Nt:=l.foldl (cnt1 num first) []
def cntK (num first:Int) (l:List Nt) (k:Int):List Nt:=sortK keyC ((cntM num first l).filter (·.kind == k))
theorem cntM_succ {num first:Int} {l:List Nt} {i:Nat} (h:i < l.length):cntM num first (l.take (i+1))=cnt1 num first (cntM num first (l.take i)) l[i]:=by
 unfold cntM
 rw [List.take_succ_eq_append_getElem h,List.foldl_append];rfl
theorem cntG_mem {num first:Int}:∀ (l acc:List Nt) {f:Nt},f∈l.foldl (cnt1 num first) acc→f∈acc∨(f∈l∧f.num=num∧fmN f=true∧entM f first=true)
 | [],_,_,h=>.inl h
 | x :: l,acc,f,h=>by
  rcases cntG_mem l (cnt1 num first acc x) h with h1 | ⟨h1,h2⟩
  ·unfold cnt1 at h1
   cases hc:cntB num first acc x with
   | false=>rw [hc] at h1;exact .inl h1
   | true =>
    rw [hc] at h1
    simp only [cond_true,List.mem_append,List.mem_singleton] at h1
    rcases h1 with h1 | rfl
    ·exact .inl h1
    ·unfold cntB at hc
     simp only [Bool.and_eq_true,beq_iff_eq] at hc
     exact .inr ⟨List.mem_cons_self,hc.1,hc.2.2.1,hc.2.2.2⟩
  ·exact .inr ⟨List.mem_cons_of_mem _ h1,h2⟩
theorem cntM_mem {num first:Int} {l:List Nt} {f:Nt} (h:f∈cntM num first l):f∈l∧f.num=num∧fmN f=true∧entM f first=true:=by
 rcases cntG_mem l [] h with h | h
 ·cases h
 ·exact h
theorem cntM_len (num first:Int) (l:List Nt):(cntM num first l).length≤l.length:=by
 have:∀ (l acc:List Nt),(l.foldl (cnt1 num first) acc).length≤acc.length+l.length:=by
  intro l
  induction l with
  | nil=>intro acc;simp
  | cons x l ih =>
   intro acc
   have h1:=ih (cnt1 num first acc x)
   have h2:(cnt1 num first acc x).length≤acc.length+1:=by
    unfold cnt1
    cases cntB num first acc x <;> simp
   simp only [List.foldl_cons,List.length_cons] at *
   omega
 have h:=this l []
 simp only [List.length_nil,Nat.zero_add] at h
 exact h
theorem fm_src {f:Nt} (h:fmN f=true):(0≤f.src∧f.src≤7)∧(0≤f.num∧f.num≤99999999):=by
 unfold fmN at h
 simp only [Bool.and_eq_true,inB_iff] at h
 exact h.1
theorem keyC_inj {x y:Nt} {first:Int} (hx:fmN x=true) (hy:fmN y=true) (ex:entM x first=true) (ey:entM y first=true) (hn:x.num=y.num) (hk:x.kind=y.kind) (h:keyC x=keyC y):x=y:=by
 obtain ⟨s,k,n,lk,la,lh,cn,cf,ct,ch,ca,cb,ek,ea,er⟩:=x
 obtain ⟨s',k',n',lk',la',lh',cn',cf',ct',ch',ca',cb',ek',ea',er'⟩:=y
 simp only at hn hk
 subst hn;subst hk
 simp only [keyC,List.cons.injEq,and_true] at h
 obtain ⟨rfl,rfl,rfl,rfl,rfl,rfl,rfl,rfl,rfl,rfl,hb⟩:=h
 have hb:cb=cb':=by
  cases cb <;> cases cb' <;> simp [oneZ] at hb <;> rfl
 subst hb
 unfold fmN at hx hy
 unfold entM at ex ey
 simp only [Bool.and_eq_true,inB_iff] at hx hy
 have hx:=hx.2;have hy:=hy.2
 simp only at hx hy ex ey
 by_cases h1:k=1
 ·subst h1
  simp [claim0] at hx hy ex ey
  obtain ⟨⟨⟨rfl,_⟩,_⟩,_⟩:=hx
  obtain ⟨⟨⟨rfl,_⟩,_⟩,_⟩:=hy
  simp [ex,ey]
 ·by_cases h2:k=2
  ·subst h2
   simp at hx hy ex ey
   obtain ⟨⟨_,rfl⟩,_⟩:=hx
   obtain ⟨⟨_,rfl⟩,_⟩:=hy
   simp [ex,ey]
  ·by_cases h3:k=3
   ·subst h3
    simp at hx hy
    obtain ⟨⟨⟨⟨⟨_,rfl⟩,_⟩,_⟩,_⟩,_⟩:=hx
    obtain ⟨⟨⟨⟨⟨_,rfl⟩,_⟩,_⟩,_⟩,_⟩:=hy
    have:s=s':=by
     cases h5:ek == 5 <;> cases h6:ek == 1 <;> cases h7:ek == 2 <;> simp [h5,h6,h7] at ex ey <;> omega
    subst this;rfl
   ·simp [h1,h2,h3] at hx
theorem cntK_unique {num first:Int} {l m:List Nt} {k:Int} (hp:m.Perm ((cntM num first l).filter (·.kind == k))) (hs:SortK keyC m):m=cntK num first l k :=
 sort_unique (hp.trans (sortK_perm keyC _).symm) hs (sortK_sorted keyC _) fun x hx y hy he=>by
  have hx:=List.mem_filter.1 (hp.mem_iff.1 hx)
  have hy:=List.mem_filter.1 (hp.mem_iff.1 hy)
  obtain ⟨_,n1,f1,e1⟩:=cntM_mem hx.1
  obtain ⟨_,n2,f2,e2⟩:=cntM_mem hy.1
  exact keyC_inj f1 f2 e1 e2 (n1.trans n2.symm) ((by simpa using hx.2:x.kind=k).trans (by simpa using hy.2:y.kind=k).symm) he
theorem cntK_mem {num first:Int} {l:List Nt} {k:Int} {f:Nt} (h:f∈cntK num first l k):f∈l∧f.num=num∧fmN f=true∧entM f first=true∧f.kind=k:=by
 have h1:=List.mem_filter.1 ((sortK_perm keyC _).mem_iff.1 h)
 obtain ⟨a,b,c,d⟩:=cntM_mem h1.1
 exact ⟨a,b,c,d,by simpa using h1.2⟩
def seenA (acc:List Nt):List (Nt × Value):=acc.map fun f=>(f,Value.bool true)
theorem seenA_get (acc:List Nt) (f:Nt):(getA (seenA acc) f).getD (.bool false)=.bool (decide (f∈acc)):=by
 induction acc with
 | nil=>simp [seenA,getA]
 | cons a acc ih =>
  simp only [seenA,List.map_cons,getA] at ih ⊢
  by_cases h:a=f
  ·subst h;simp
  ·rw [if_neg h,ih]
   have:f≠a:=fun e=>h e.symm
   simp [this]
theorem seenA_set {acc:List Nt} {f:Nt} (h:f∉acc):setA (seenA acc) f (.bool true)=seenA (acc++[f]):=by
 rw [setA_none]
 ·simp [seenA]
 ·intro p hp
  obtain ⟨g,hg,rfl⟩:=List.mem_map.1 hp
  rintro rfl;exact h hg
end
section
open Go.RowKit Go.Lib
abbrev nilS:Value:=.slice none 0 0
structure KsIn (w W:World) (ob:Nat) (L:List (Int × Value)) (R:Int→List Nt):Prop where
 map:MpAt intE W ob L
 row:∀ k,RyG ntC 31 15 w W ((getA L k).getD nilS) (R k)
 apart:∀ k k' g,k≠k'→((getA L k).getD nilS).ownBlock=some g→((getA L k').getD nilS).ownBlock≠some g
theorem KsIn.fr {w W W':World} {ob:Nat} {L:List (Int × Value)} {R:Int→List Nt} {S:List Nat} (h:KsIn w W ob L R) (hf:Fr S W W') (hS:∀ k,k∈S→k≠ob∧∀ j g,((getA L j).getD nilS).ownBlock=some g→g≠k):KsIn w W' ob L R :=
 ⟨h.map.keep hf fun hm=>(hS _ hm).1 rfl,fun k=>(h.row k).fr hf fun g hg hm=>(hS _ hm).2 k g hg rfl,h.apart⟩
theorem KsIn.same {w W W':World} {ob:Nat} {L:List (Int × Value)} {R:Int→List Nt} (h:KsIn w W ob L R) (hf:Fr [] W W'):KsIn w W' ob L R:=h.fr hf (by simp)
theorem zeroNts (w:World):(zeroValue 71).run Tryz.prog w=.ok nilS w:=by kernel_rfl
theorem zeroBo (w:World):(zeroValue 4).run Tryz.prog w=.ok (.bool false) w:=by kernel_rfl
theorem look_ex {α:Type} [DecidableEq α] {enc:α→Value} {P:Program} {k t e:TypeId} {w:World} {b:Nat} {L:List (α × Value)} {ev:Operand→Value} {o:Oper} (x i:Operand) (key:α) (ho:o.op=.lookup t x i false) (hx:ev x=.map (some b)) (hi:ev i=enc key)
  (h:MpAt enc w b L) (KD:KeyD P k enc) (ht:P.underlying t=some (.map k e)) {z:Value} (hz:(zeroValue e).run P w=.ok z w):(execOp ev o).run P w=.ok (.value ((getA L key).getD z)) w:=by
 unfold execOp
 simp only [ho,hx,hi,Sem.run_bind,Sem.run_pure,Result.andThen_ok,h.look KD ht hz key false]
 rfl
theorem KsIn.put {w W W':World} {ob:Nat} {L:List (Int × Value)} {R:Int→List Nt} (h:KsIn w W ob L R) {k:Int} {v:Value} {m:List Nt} {S:List Nat} (hm:MpAt intE W' ob (setA L k v)) (hr:RyG ntC 31 15 w W' v m) (hf:Fr S W W') (hS:∀ x,x∈S→x=ob∨((getA L k).getD nilS).ownBlock=some x) (ho:ob < w.heap.size)
  (hv:∀ g,v.ownBlock=some g→((getA L k).getD nilS).ownBlock=some g∨W.heap.size≤g):KsIn w W' ob (setA L k v) (fun j=>if j=k then m else R j):=by
 have hg:∀ j,((getA (setA L k v) j).getD nilS)=if j=k then v else (getA L j).getD nilS:=fun j=>by
  rw [getA_setA]
  split <;> rfl
 refine ⟨hm,fun j=>?_,fun j j' g hne=>?_⟩
 ·rw [hg]
  by_cases hj:j=k
  ·simp only [hj,if_true];exact hr
  ·simp only [hj,if_false]
   refine (h.row j).fr hf fun g hg hm=>?_
   rcases hS _ hm with h1 | h1
   ·have:=(h.row j).young g hg;omega
   ·exact h.apart k j g (fun e=>hj e.symm) h1 hg
 ·rw [hg,hg]
  by_cases hj:j=k
  ·have hj2:j'≠k:=fun e=>hne (hj.trans e.symm)
   simp only [hj,hj2,if_true,if_false]
   intro h1 h2
   rcases hv g h1 with h3 | h3
   ·exact h.apart k j' g (fun e=>hj2 e.symm) h3 h2
   ·have:=(h.row j').lt g h2;omega
  ·by_cases hj2:j'=k
   ·simp only [hj,hj2,if_true,if_false]
    intro h1 h2
    rcases hv g h2 with h3 | h3
    ·exact h.apart k j g (fun e=>hj e.symm) h3 h1
    ·have:=(h.row j).lt g h1;omega
   ·simp only [hj,hj2,if_false]
    exact h.apart j j' g hne
theorem KsIn.turn {w W W':World} {ob:Nat} {L:List (Int × Value)} {R:Int→List Nt} (h:KsIn w W ob L R) {k:Int} {m:List Nt} (hr:RyG ntC 31 15 w W' ((getA L k).getD nilS) m) (hf:Fr ((getA L k).getD nilS).ownBlock.toList W W') (ho:ob < w.heap.size):KsIn w W' ob L (fun j=>if j=k then m else R j):=by
 refine ⟨h.map.keep hf (by simp;intro q;have:=(h.row k).young _ q;omega),fun j=>?_,h.apart⟩
 by_cases hj:j=k
 ·subst hj;simpa using hr
 ·simp only [hj,if_false]
  exact (h.row j).fr hf fun g hg hm=>h.apart k j g (fun e=>hj e.symm) (by simpa using hm) hg
theorem getA_mem {α β:Type} [DecidableEq α] {l:List (α × β)} (h:(l.map Prod.fst).Nodup) {p:α × β} (hp:p∈l):getA l p.1=some p.2:=by
 obtain ⟨i,hi,rfl⟩:=List.mem_iff_getElem.1 hp
 exact getA_at h (j:=i) (by simp [hi])
set_option maxRecDepth 100000 in
set_option maxHeartbeats 16000000 in
theorem counting_c (v:Value) (l:List Nt) (num first:Int) (w:World) (h:Sl w v l.length (l.flatMap ntC)) (hl:l.length≤1000000) :
  Calls Tryz.prog 58 #[v,.int .i64 num,.int .i64 first] w fun e w'=>∃ ob L,e=.returned (.map (some ob))∧KsIn w w' ob L (cntK num first l)∧w.heap.size≤ob∧Fr [] w w':=by
 obtain ⟨a,cap,rfl⟩:=h.val
 have HS:=qj h
 have CF:=qj fun (t:Nt) W=>caIsFormed_c t W
 have CE:=qj fun (t:Nt) W=>entitled_c t first W
 have CS:=qj fun (v:Value) (l:List Nt) W h1 h2=>sortN_c 100 keyC (fun _ _=>rfl) (fun a b W=>(compare_c a b W).mono fun e w' ⟨he,hf⟩=>⟨by rw [← cmpN_key];exact he,hf⟩) v l W h1 h2
 obtain ⟨F2,_,_⟩:=two_more w (.map #[] 0) (.map #[] 0)
 have HF2:=qj F2
 have hz2:((w.alloc (.map #[] 0)).alloc (.map #[] 0)).heap.size=w.heap.size+2:=by simp
 have HM1:Hid (MpAt ntV ((w.alloc (.map #[] 0)).alloc (.map #[] 0)) w.heap.size (seenA [])):=qj ((mpAt_new (enc:=ntV) w).keep (Fr.alloc [] _ _) (by simp))
 have HM2:Hid (MpAt intE ((w.alloc (.map #[] 0)).alloc (.map #[] 0)) (w.heap.size+1) []):=qj (by have:=mpAt_new (enc:=intE) (w.alloc (.map #[] 0));simpa using this)
 have hmm:=@run_makeMap Tryz.prog
 clear h F2
 go_enter Tryz.func58,Tryz.ntmps58
 go_wp2_with fail
 clear hmm
 generalize (w.alloc (.map #[] 0)).alloc (.map #[] 0)=w2 at *
 have HZ2:=qj hz2
 clear hz2
 go_loopw [17] (fun iv wr=>∃ (k:Nat) (L:List (Int × Value)),iv=.int .i64 k∧k≤l.length∧Hid (MpAt ntV wr w.heap.size (seenA (cntM num first (l.take k))))∧Hid (KsIn w2 wr (w.heap.size+1) L (fun j=>(cntM num first (l.take k)).filter (·.kind == j)))∧Hid (Fr [] w wr∧w.heap.size+2≤wr.heap.size)) (fun iv _=>l.length - (RowKit.intOf iv).toNat)
 case atStart=>exact ⟨0,[],rfl,Nat.zero_le _,by simpa [cntM] using HM1,qj ⟨HM2.out,fun k=>RyG.nil _ _,fun k k' g _ h=>by cases h⟩,qj ⟨HF2.out,by rw [HZ2.out];exact Nat.le_refl _⟩⟩
 case round =>
  clear HM1 HM2
  obtain ⟨k,L,rfl,hk,HM,HK,HF⟩:=hrel
  by_cases hlt:k < l.length
  ·obtain ⟨b,off,rfl,_⟩:=HS.out.at_ (by omega)
   have HR:=qj (sl_range ntC_len (HS.out.same HF.out.1) hlt (by omega))
   have HT:=qj (cntM_succ (num:=num) (first:=first) hlt)
   have hacl:(cntM num first (l.take k)).length≤1000000:=by
    have h1:=cntM_len num first (l.take k)
    simp at h1;omega
   generalize hf:l[k]=f at *
   clear hf
   go_wp2_with (first | ((with_reducible refine wpList_of_wp (o:=⟨some 20,_,_,_,_,_⟩) rfl (fun K hK=>?_));apply stopD;case _other=>exact trivial))
   (refine stopD ?_ ?_;rotate_left;exact trivial)
   refine wp_load_mid 31 (.tmp 19) rfl b (off+k*15) rfl (ntC f) _ HR.out Tryz.underlying31 rfl (by kernel_rfl) ?_
   refine hK _ _ ?_
   clear hK K
   have HN0:Hid (NtAt (wr.alloc (.cells (ntC nt0).toArray 31)) wr.heap.size nt0):=qj (qm _ _)
   go_wp2_with (first | ((with_reducible refine wpList_of_wp (o:=⟨none,.store _ _ _,_,_,_,_⟩) rfl (fun K hK=>?_));apply stopD;case _other=>exact trivial))
   (refine stopD ?_ ?_;rotate_left;exact trivial)
   refine wp_nt (.tmp 10) (.tmp 20) wr.heap.size nt0 f rfl rfl rfl HN0.out rfl (fun W6 n6 f6=>hK _ _ ?_)
   have HN6:=qj n6
   have HF6:Hid (Fr [] wr W6):=qj ((Fr.alloc [] wr _).step f6 (fun k hk=>.inr (by simp at hk;omega)))
   have hbx:w.heap.size+2≤wr.heap.size:=HF.out.2
   have HM6:=qj (HM.out.keep HF6.out (by simp))
   have HK6:=qj (HK.out.same HF6.out)
   have HG6:=qj (HF.out.1.trans HF6.out)
   have HRL:Hid (∀ j g,((getA L j).getD nilS).ownBlock=some g→g < wr.heap.size):=qj fun j g hg=>(HK.out.row j).lt g hg
   clear hK K n6 f6 HN0 HR HM HK
   have c0:W6.cell? ⟨wr.heap.size,0,none⟩=some (.int .i64 f.src):=HN6.out.cells 0 _ rfl
   have c1:W6.cell? ⟨wr.heap.size,1,none⟩=some (.int .i64 f.kind):=HN6.out.cells 1 _ rfl
   have c2:W6.cell? ⟨wr.heap.size,2,none⟩=some (.int .i64 f.num):=HN6.out.cells 2 _ rfl
   have c3:W6.cell? ⟨wr.heap.size,3,none⟩=some (.int .i64 f.lk):=HN6.out.cells 3 _ rfl
   have c4:W6.cell? ⟨wr.heap.size,4,none⟩=some (.int .i64 f.la):=HN6.out.cells 4 _ rfl
   have c5:W6.cell? ⟨wr.heap.size,5,none⟩=some (.int .i64 f.lh):=HN6.out.cells 5 _ rfl
   have c6:W6.cell? ⟨wr.heap.size,6,none⟩=some (.int .i64 f.cn):=HN6.out.cells 6 _ rfl
   have c7:W6.cell? ⟨wr.heap.size,7,none⟩=some (.int .i64 f.cf):=HN6.out.cells 7 _ rfl
   have c8:W6.cell? ⟨wr.heap.size,8,none⟩=some (.int .i64 f.ct):=HN6.out.cells 8 _ rfl
   have c9:W6.cell? ⟨wr.heap.size,9,none⟩=some (.int .i64 f.ch):=HN6.out.cells 9 _ rfl
   have c10:W6.cell? ⟨wr.heap.size,10,none⟩=some (.int .i64 f.ca):=HN6.out.cells 10 _ rfl
   have c11:W6.cell? ⟨wr.heap.size,11,none⟩=some (.bool f.cb):=HN6.out.cells 11 _ rfl
   have c12:W6.cell? ⟨wr.heap.size,12,none⟩=some (.int .i64 f.ek):=HN6.out.cells 12 _ rfl
   have c13:W6.cell? ⟨wr.heap.size,13,none⟩=some (.int .i64 f.ea):=HN6.out.cells 13 _ rfl
   have c14:W6.cell? ⟨wr.heap.size,14,none⟩=some (.int .i64 f.er):=HN6.out.cells 14 _ rfl
   have hT:=HT.out
   unfold cnt1 cntB at hT
   have lk:(Instr.lookup 103 (.map (some w.heap.size)) (ntV f) false).run Tryz.prog W6=.ok (.bool (decide (f∈cntM num first (l.take k)))) W6:=by
    have:=HM6.out.look keyN Tryz.underlying103 (zeroBo W6) f false
    simpa [seenA_get] using this
   generalize hx2:decide (f∈cntM num first (l.take k))=x2 at *
   have HX2:=qj hx2
   have HSZ:Hid (wr.heap.size≤W6.heap.size):=qj HF6.out.size
   clear hx2 HT
   cases x1:f.num == num with
   | false =>
    have HC:Hid (cntM num first (l.take (k+1))=cntM num first (l.take k)):=qj (by rw [hT,x1];rfl)
    clear hT lk
    go_wp2_with fail
    go_roundw
    case rel=>exact ⟨k+1,L,by go_num,hlt,qj (by rw [HC.out];exact (HM6.out)),qj (by rw [HC.out];exact (HK6.out)),qj ⟨HG6.out,Nat.le_trans hbx HSZ.out⟩⟩
    case measure=>simp [RowKit.intOf];omega
   | true =>
    cases x2 with
    | true =>
     have HC:Hid (cntM num first (l.take (k+1))=cntM num first (l.take k)):=qj (by rw [hT,x1];rfl)
     clear hT
     go_wp2_with fail
     go_roundw
     case rel=>exact ⟨k+1,L,by go_num,hlt,qj (by rw [HC.out];exact (HM6.out)),qj (by rw [HC.out];exact (HK6.out)),qj ⟨HG6.out,Nat.le_trans hbx HSZ.out⟩⟩
     case measure=>simp [RowKit.intOf];omega
    | false =>
     have CF6:=qj (CF.out f W6)
     cases x3:fmN f with
     | false =>
      have HC:Hid (cntM num first (l.take (k+1))=cntM num first (l.take k)):=qj (by rw [hT,x1,x3];rfl)
      rw [x3] at CF6
      clear hT
      go_wp2_with fail
      refine CF6.out.mono ?_
      rintro e W7 ⟨rfl,f7⟩
      have HF7:=qj f7
      clear f7
      go_wp2_with fail
      go_roundw
      case rel=>exact ⟨k+1,L,by go_num,hlt,qj (by rw [HC.out];exact (HM6.out.keep HF7.out (by simp))),qj (by rw [HC.out];exact (HK6.out.same HF7.out)),qj ⟨HG6.out.trans HF7.out,Nat.le_trans hbx (Nat.le_trans HSZ.out HF7.out.size)⟩⟩
      case measure=>simp [RowKit.intOf];omega
     | true =>
      rw [x3] at CF6
      go_wp2_with fail
      refine CF6.out.mono ?_
      rintro e W7 ⟨rfl,f7⟩
      replace c0:=f7.cel c0 (by simp)
      replace c1:=f7.cel c1 (by simp)
      replace c2:=f7.cel c2 (by simp)
      replace c3:=f7.cel c3 (by simp)
      replace c4:=f7.cel c4 (by simp)
      replace c5:=f7.cel c5 (by simp)
      replace c6:=f7.cel c6 (by simp)
      replace c7:=f7.cel c7 (by simp)
      replace c8:=f7.cel c8 (by simp)
      replace c9:=f7.cel c9 (by simp)
      replace c10:=f7.cel c10 (by simp)
      replace c11:=f7.cel c11 (by simp)
      replace c12:=f7.cel c12 (by simp)
      replace c13:=f7.cel c13 (by simp)
      replace c14:=f7.cel c14 (by simp)
      have HF7:=qj f7
      have CE7:=qj (CE.out f W7)
      clear f7 lk CF6
      cases x4:entM f first with
      | false =>
       have HC:Hid (cntM num first (l.take (k+1))=cntM num first (l.take k)):=qj (by rw [hT,x1,x3,x4];rfl)
       rw [x4] at CE7
       clear hT
       go_wp2_with fail
       refine CE7.out.mono ?_
       rintro e W8 ⟨rfl,f8⟩
       have HF8:=qj (HF7.out.trans f8)
       clear f8
       go_wp2_with fail
       go_roundw
       case rel=>exact ⟨k+1,L,by go_num,hlt,qj (by rw [HC.out];exact (HM6.out.keep HF8.out (by simp))),qj (by rw [HC.out];exact (HK6.out.same HF8.out)),qj ⟨HG6.out.trans HF8.out,Nat.le_trans hbx (Nat.le_trans HSZ.out HF8.out.size)⟩⟩
       case measure=>simp [RowKit.intOf];omega
      | true =>
       have HC:Hid (cntM num first (l.take (k+1))=cntM num first (l.take k)++[f]):=qj (by rw [hT,x1,x3,x4];rfl)
       rw [x4] at CE7
       clear hT
       go_wp2_with fail
       refine CE7.out.mono ?_
       rintro e W8 ⟨rfl,f8⟩
       replace c0:=f8.cel c0 (by simp)
       replace c1:=f8.cel c1 (by simp)
       replace c2:=f8.cel c2 (by simp)
       replace c3:=f8.cel c3 (by simp)
       replace c4:=f8.cel c4 (by simp)
       replace c5:=f8.cel c5 (by simp)
       replace c6:=f8.cel c6 (by simp)
       replace c7:=f8.cel c7 (by simp)
       replace c8:=f8.cel c8 (by simp)
       replace c9:=f8.cel c9 (by simp)
       replace c10:=f8.cel c10 (by simp)
       replace c11:=f8.cel c11 (by simp)
       replace c12:=f8.cel c12 (by simp)
       replace c13:=f8.cel c13 (by simp)
       replace c14:=f8.cel c14 (by simp)
       have HF8:=qj (HF7.out.trans f8)
       have HN8:=qj (HN6.out.keep HF8.out (by simp))
       have HM8:=qj (HM6.out.keep HF8.out (by simp))
       have HK8:=qj (HK6.out.same HF8.out)
       have HG8:=qj (HG6.out.trans HF8.out)
       have HS8:=qj (Nat.le_trans HSZ.out HF8.out.size)
       clear f8 HF7 HF8 HN6 HM6 HK6 HG6 HSZ CE7
       go_wp2_with (first | ((with_reducible refine wpList_of_wp (o:=⟨none,.mapUpdate _ _ _ _,_,_,_,_⟩) rfl (fun K hK=>?_));apply stopD;case _other=>exact trivial))
       (refine stopD ?_ ?_;rotate_left;exact trivial)
       refine wp_upd 103 4 (.tmp 40) (.tmp 41) (.const (.bool true)) f rfl rfl rfl HM8.out keyN Tryz.underlying103 rfl ?_
       intro W9 f9 z9 m9
       refine hK _ _ ?_
       clear hK K
       have hmem:f∉cntM num first (l.take k):=by
        have:=HX2.out;simpa using this
       have HM9:Hid (MpAt ntV W9 w.heap.size (seenA (cntM num first (l.take k)++[f]))):=qj (by rw [← seenA_set hmem];exact m9)
       have HK9:=qj (HK8.out.fr f9 (fun x hx=>by
        simp at hx;subst hx
        exact ⟨by omega,fun j g hg=>by have:=(HK8.out.row j).young g hg;have:=HZ2.out;omega⟩))
       have HBX:Hid (∀ j,((getA L j).getD nilS).ownBlock≠some wr.heap.size):=qj fun j hj=>absurd (HRL.out j _ hj) (Nat.lt_irrefl _)
       have HN9:=qj (HN8.out.keep f9 (by simp;omega))
       have HG9:Hid (Fr [] w W9):=qj (HG8.out.step f9 (fun x hx=>.inr (by simp at hx;omega)))
       have HS9:Hid (wr.heap.size < W9.heap.size):=qj (by rw [z9];exact blk_lt HN8.out)
       have c1:W9.cell? ⟨wr.heap.size,1,none⟩=some (.int .i64 f.kind):=HN9.out.cells 1 _ rfl
       clear m9 f9 z9 hmem HM8 HK8 HN8 HG8 HS8 c0 c2 c3 c4 c5 c6 c7 c8 c9 c10 c11 c12 c13 c14
       go_wp2_with fail
       generalize hrv:(getA L f.kind).getD nilS=rv
       have HRV:=qj hrv
       have hrow:RyG ntC 31 15 w2 W9 rv ((cntM num first (l.take k)).filter (·.kind == f.kind)):=hrv ▸ HK9.out.row f.kind
       have HROW:=qj hrow
       have HNB:Hid (∀ g,rv.ownBlock=some g→w.heap.size+2≤g∧g≠wr.heap.size):=qj fun g hg=>⟨by have:=hrow.young g hg;have:=HZ2.out;omega,by rintro rfl;exact HBX.out f.kind (by rw [hrv];exact hg)⟩
       clear hrv hrow
       refine reg_tree (Fr rv.ownBlock.toList W9) 10 (.take 0 (.take 1 (.take 2 (.take 3 (.take 4 (.take 5 (.take 6 (.take 7 (.one 8 (.one 9 (.one 10 .nil))))))))))) (by kernel_rfl) (by kernel_rfl) (by kernel_rfl) rfl ?_
       have FC:Fr rv.ownBlock.toList W9 W9.drew:=Fr.drew _ _
       have FD:Fr [] W9 W9.drew:=Fr.drew _ _
       generalize W9.drew=WC at FC FD ⊢
       iterate 6 (refine tree_take (v:=?_) rfl rfl rfl FC (fun w hS=>?_) ?_;rotate_left;(focus (have s1:=hS.cel c1 (by simp;intro q;exact (HNB.out _ q).2 rfl);clear hS;go_simp;rfl));simp only [qu,qv,qx])
       refine tree_take (v:=rv) rfl rfl rfl FC (fun W hS=>?_) ?_
       ·rw [← HRV.out]
        exact look_ex (.tmp 45) (.tmp 47) f.kind rfl rfl rfl (HK9.out.map.keep hS (by simp;intro q;have:=(HNB.out _ q).1;omega)) keyInt Tryz.underlying128 (zeroNts W)
       simp only [qu,qv,qx]
       refine tree_take (v:=ntV f) rfl rfl rfl FC (fun W hS=>nt_load (.tmp 10) rfl rfl (HN9.out.keep hS (by simp;intro q;exact (HNB.out _ q).2 rfl))) ?_
       simp only [qu,qv,qx]
       refine tree_one rfl rfl (fun K hK=>?_)
       go_simp
       have HB10:=qj (qm WC (.cells (ntC f).toArray 31))
       have HR10:=qj ((HROW.out.same FD).same (Fr.alloc [] WC (.cells (ntC f).toArray 31)))
       have HK10:=qj ((HK9.out.same FD).same (Fr.alloc [] WC (.cells (ntC f).toArray 31)))
       have HM10:=qj ((HM9.out.keep FD (by simp)).keep (Fr.alloc [] WC (.cells (ntC f).toArray 31)) (by simp))
       have HG10:=qj ((HG9.out.trans FD).trans (Fr.alloc [] WC (.cells (ntC f).toArray 31)))
       have FE:=FC.trans (Fr.alloc _ WC (.cells (ntC f).toArray 31))
       have HZ10:Hid (W9.heap.size≤(WC.alloc (.cells (ntC f).toArray 31)).heap.size):=qj FE.size
       refine hK _ _ FE ?_
       clear hK K
       try simp only [Act.put,qu,qv,qx]
       refine tree_one rfl rfl (fun K hK=>?_)
       refine wp_app_g (v:=rv) ntC_len (fun t=>ntC_one t) (.tmp 48) (.tmp 50) 71 (ntV nt0) 120 rfl Tryz.underlying71 infoNtT rfl (by decide) (by decide) rfl HR10.out WC.heap.size 1 f 31 rfl HB10.out (Nat.le_trans (List.length_filter_le _ _) hacl) (Nat.le_trans (by have:=HS9.out;have:=HZ2.out;omega:w2.heap.size≤W9.heap.size) HZ10.out) (fun ga cap3 W11 r11 f11 o11=>hK _ _ (FE.trans f11) ?_)
       have HR11:=qj r11;have HF11:=qj f11;have HO11:=qj o11
       clear hK K r11 f11 o11
       try simp only [Act.put,qu]
       refine tree_last rfl rfl (fun K hK=>?_)
       refine wp_upd 128 71 (.tmp 42) (.tmp 44) (.tmp 51) f.kind rfl rfl rfl (HK10.out.map.keep HF11.out (by simp;intro q;have:=(HNB.out _ q).1;omega)) keyInt Tryz.underlying128 rfl ?_
       intro W12 f12 z12 m12
       refine hK _ _ ?_
       clear hK K
       refine noPanicC ?_
       have hkk:=HK10.out.put (S:=(w.heap.size+1) :: rv.ownBlock.toList) m12 (HR11.out.fr f12 (fun g hg hm=>by simp at hm;have h1:=HR11.out.young g hg;have:=HZ2.out;omega)) ((HF11.out.mono (fun x hx=>List.mem_cons_of_mem _ hx)).trans (f12.mono (fun x hx=>by simp at hx;simp [hx])))
        (fun x hx=>by
         rcases List.mem_cons.1 hx with h | h
         ·exact .inl h
         ·exact .inr (by rw [HRV.out];simpa using h)) (by have:=HZ2.out;omega) (fun g hg=>by
         rcases HO11.out g hg with h | h
         ·exact .inl (by rw [HRV.out];exact h)
         ·exact .inr (Nat.le_of_eq h.symm))
       have hRe:(fun j=>if j=f.kind then ((cntM num first (l.take k)).filter (·.kind == f.kind))++[f] else (cntM num first (l.take k)).filter (·.kind == j))=fun j=>(cntM num first (l.take k)++[f]).filter (·.kind == j):=by
        funext j
        rw [List.filter_append]
        by_cases hj:j=f.kind
        ·subst hj;simp
        ·have hb:(f.kind == j)=false:=by simpa using fun e=>hj e.symm
         simp [hj,hb]
       rw [hRe] at hkk
       have HKE:=qj hkk
       have HME:=qj ((HM10.out.keep HF11.out (by simp;intro q;have:=(HNB.out _ q).1;omega)).keep f12 (by simp))
       have HGE:=qj (And.intro ((HG10.out.step HF11.out (fun x hx=>.inr (by simp at hx;have:=(HNB.out _ hx).1;omega))).step f12 (fun x hx=>.inr (by simp at hx;omega))) (show w.heap.size+2≤W12.heap.size from Nat.le_trans (by have:=HS9.out;omega:w.heap.size+2≤W9.heap.size) (Nat.le_trans HZ10.out (Nat.le_trans HF11.out.size f12.size))))
       clear hkk hRe f12 m12 z12 HR11 HF11 HO11 HK10 HM10 HG10 HZ10 HB10 HR10 FC FD FE HROW HRV HNB
       go_wp2_with fail
       go_roundw
       case rel=>exact ⟨k+1,_,by go_num,hlt,qj (by rw [HC.out];exact HME.out),qj (by rw [HC.out];exact HKE.out),HGE⟩
       case measure=>simp [RowKit.intOf];omega
  ·obtain rfl:k=l.length:=by omega
   simp only [List.take_length] at HM HK
   have hcl:(cntM num first l).length≤1000000:=Nat.le_trans (cntM_len num first l) hl
   clear HM CF CE HS
   go_wp2_with (first | ((with_reducible refine wpList_of_wp (o:=⟨some 54,_,_,_,_,_⟩) rfl (fun K hK=>?_));apply stopD;case _other=>exact trivial))
   (refine stopD ?_ ?_;rotate_left;exact trivial)
   refine wp_range 128 3 71 (.tmp 53) rfl rfl HK.out.map Tryz.underlying128 rfl ?_
   intro w4 f4 it4
   refine hK _ _ ?_
   clear hK K
   have HI4:=qj it4;have HF4:=qj (HF.out.1.trans f4);have HK4:=qj (HK.out.same f4)
   have hR:=it4.lt.1
   have HRo:Hid (∀ j,((getA L j).getD nilS).ownBlock≠some wr.heap.size):=qj fun j hj=>absurd ((HK.out.row j).lt _ hj) (Nat.lt_irrefl _)
   have HRb:Hid (w.heap.size+2≤wr.heap.size):=qj HF.out.2
   have hnd:=HK.out.map.nodup
   have HND:=qj hnd
   clear it4 f4 HK HF hnd
   generalize wr.heap.size=R0 at *
   simp only [qu,qv,qx]
   go_wp2_with fail
   go_loopg [12] L.length (fun gk _ wq=>∃ (left:List (Int × Value)) (R:Int→List Nt),gk=left.length∧Hid (ItAt intE wq R0 (w.heap.size+1) L left)∧Hid (KsIn w2 wq (w.heap.size+1) L R)∧Hid (Fr [] w wq)∧Hid (∀ p,p∈left→getA L p.1=some p.2)∧Hid (∀ j,(R j).Perm ((cntM num first l).filter (·.kind == j)))∧Hid (∀ j,j∉left.map Prod.fst→SortK keyC (R j)))
   case atStart =>
    refine ⟨L,_,rfl,HI4,HK4,HF4,qj (fun p hp=>getA_mem HND.out hp),qj (fun _=>List.Perm.refl _),qj fun j hj=>?_⟩
    have h1:=(HK4.out.row j).row.1
    have h2:getA L j=none:=getA_none_iff.2 hj
    have h3:=(HK4.out.row j).val
    rw [h2] at h3
    obtain ⟨a,c,h3⟩:=h3
    have h4:((cntM num first l).filter (·.kind == j)).length=0:=by
     simp only [Option.getD_none,nilS,Value.slice.injEq] at h3
     exact h3.2.1.symm
    rw [List.length_eq_zero_iff.1 h4]
    exact List.Pairwise.nil
   case round =>
    clear HI4 HK4 HF4
    obtain ⟨left,R,rfl,HI,HKR,HF,HA,HP,HSo⟩:=hrel
    go_wp2_with (first | ((with_reducible refine wpList_of_wp (o:=⟨some 55,_,_,_,_,_⟩) rfl (fun K hK=>?_));apply stopD;case _other=>exact trivial))
    (refine stopD ?_ ?_;rotate_left;exact trivial)
    refine wp_next (.tmp 54) rfl rfl HI.out (by have:=HRb.out;omega) rfl ?_ ?_
    ·intro h0
     subst h0
     refine hK _ _ ?_
     clear hK K
     have hRR:R=cntK num first l:=by
      funext j
      exact cntK_unique (HP.out j) (HSo.out j (by simp))
     subst hRR
     simp only [qu,qv,qx]
     have HEND:Hid (∃ L,KsIn w wr (w.heap.size+1) L (cntK num first l)):=qj ⟨L,HKR.out.map,fun j=>⟨(HKR.out.row j).row,fun g hg=>by have:=(HKR.out.row j).young g hg;have:=HZ2.out;omega⟩,HKR.out.apart⟩
     clear HKR HI HA HP HSo
     go_wp2_with fail
     go_ret
     obtain ⟨L',h'⟩:=HEND.out
     exact ⟨_,L',rfl,h',Nat.le_succ _,HF.out⟩
    ·intro l1 y v l2 W' h0 f5 it5 hen
     subst h0
     have hen2:=hen W' rfl rfl
     have hyv:getA L y=some v:=HA.out (y,v) (by simp)
     have HK5:=qj (HKR.out.fr f5 (fun x hx=>by simp at hx;subst hx;exact ⟨by have:=HRb.out;omega,fun j g hg e=>HRo.out j (e ▸ hg)⟩))
     have hrow:=HK5.out.row y
     rw [hyv] at hrow
     have hlen:(R y).length≤1000000:=by rw [(HP.out y).length_eq];exact Nat.le_trans (List.length_filter_le _ _) hcl
     have CS2:=qj (CS.out v (R y) W' hrow.row hlen)
     have HROW:=qj hrow
     have HF5:=qj (HF.out.step f5 (fun k hk=>.inr (by simp at hk;have:=HRb.out;omega)))
     have HI5:=qj it5
     have HYV:=qj hyv
     clear HI HKR HF hen f5 it5 hrow hlen hyv
     refine hK _ _ ?_
     clear hK K
     simp only [qu,qv,qx]
     go_wp2_with fail
     refine CS2.out.mono ?_
     rintro e W6 ⟨rfl,m,hp,hs,hr,hf⟩
     have hgy:(getA L y).getD nilS=v:=by rw [HYV.out];rfl
     have HK6:=qj (HK5.out.turn (k:=y) (m:=m) (by rw [hgy];exact ⟨hr,HROW.out.young⟩) (by rw [hgy];exact hf) (by have:=HZ2.out;omega))
     have HF6:=qj (HF5.out.step hf (fun x hx=>.inr (by simp at hx;have:=HROW.out.young x hx;have:=HZ2.out;omega)))
     have HI6:=qj (HI5.out.keep hf (by simp;intro q;have:=HROW.out.young _ q;have:=HZ2.out;omega) (by simp;intro q;exact HRo.out y (by rw [hgy];exact q)))
     have HP6:Hid (∀ j,(if j=y then m else R j).Perm ((cntM num first l).filter (·.kind == j))):=qj fun j=>by
      by_cases hj:j=y
      ·subst hj;simpa using hp.trans (HP.out j)
      ·simpa [hj] using HP.out j
     have HS6:Hid (∀ j,j∉(l1++l2).map Prod.fst→SortK keyC (if j=y then m else R j)):=qj fun j hj=>by
      by_cases hy:j=y
      ·simpa [hy] using hs
      ·simp only [hy,if_false]
       refine HSo.out j fun hm=>hj ?_
       simp only [List.map_append,List.map_cons,List.mem_append,List.mem_cons] at hm ⊢
       rcases hm with h | h | h
       ·exact .inl h
       ·exact absurd h hy
       ·exact .inr h
     have HA6:Hid (∀ p,p∈l1++l2→getA L p.1=some p.2):=qj fun p hp=>HA.out p (by
      simp only [List.mem_append,List.mem_cons] at hp ⊢
      rcases hp with h | h
      ·exact .inl h
      ·exact .inr (.inr h))
     clear hp hs hr hf hgy HK5 HF5 HI5 HP HSo HA CS2 HROW HYV hen2
     go_wp2_with fail
     go_roundg (l1++l2).length
     case measure=>simp
     case rel=>exact ⟨l1++l2,_,rfl,HI6,HK6,HF6,HA6,HP6,HS6⟩
end
section
open Go.RowKit Go.Lib
structure Le where
 k:Int
 a:Int
 h:Int
deriving DecidableEq
instance:Inhabited Le:=⟨⟨0,0,0⟩⟩
def leC (x:Le):List Value:=[.int .i64 x.k,.int .i64 x.a,.int .i64 x.h]
structure Po where
 n:Int
 f:Int
 t:Int
 h:Int
 a:Int
 b:Bool
 evs:List Ev
def poC (p:Po) (ev:Value):List Value:=[.int .i64 p.n,.int .i64 p.f,.int .i64 p.t,.int .i64 p.h,.int .i64 p.a,.bool p.b,ev]
structure Ch where
 num:Int
 first:Int
 ra:Int
 rc:Int
 rs:Int
 rr:Int
 life:List Le
 ports:List Po
abbrev chV (c:Ch) (lv pv:Value):Value:=.agg #[.int .i64 c.num,.int .i64 c.first,.int .i64 c.ra,.int .i64 c.rc,.int .i64 c.rs,.int .i64 c.rr,lv,pv]
def leOf (f:Nt):Le:=⟨f.lk,f.la,f.lh⟩
def evOf (f:Nt):Ev:=⟨f.ek,f.ea,f.er⟩
def line0L:Ln:=⟨0,-1,0,0⟩
def life1 (s:Ln × List Le) (f:Nt):Ln × List Le:=match stepX s.1 f.lk.toNat f.la f.lh with
 | some l=>bif decide (s.2.length < 40) then (l,s.2++[leOf f]) else s
 | none=>s
def lifeM (l:List Nt):Ln × List Le:=l.foldl life1 (line0L,[])
def sameP (f x:Nt):Bool:=x.cf == f.cf && (x.ct == f.ct && x.ca == f.ca)
def ev1 (f:Nt) (e:List Ev) (x:Nt):List Ev:=bif sameP f x && decide (e.length < 20) then e++[evOf x] else e
def evM (f:Nt) (l:List Nt):List Ev:=l.foldl (ev1 f) []
def poOf (l:List Nt) (f:Nt):Po:=⟨f.cn,f.cf,f.ct,f.ch,f.ca,f.cb,evM f l⟩
def portsM (evs claims:List Nt):List Po:=(claims.map (poOf evs)).take 8
def deriveM (s:Su) (l:List Nt) (num first:Int):Ch :=
 ⟨num,first,s.ra,s.rc,s.rs,s.rr,(lifeM (cntK num first l 1)).2,portsM (cntK num first l 3) (cntK num first l 2)⟩
theorem lifeM_succ {l:List Nt} {i:Nat} (h:i < l.length):lifeM (l.take (i+1))=life1 (lifeM (l.take i)) l[i]:=by
 unfold lifeM
 rw [List.take_succ_eq_append_getElem h,List.foldl_append];rfl
theorem evM_succ {f:Nt} {l:List Nt} {i:Nat} (h:i < l.length):evM f (l.take (i+1))=ev1 f (evM f (l.take i)) l[i]:=by
 unfold evM
 rw [List.take_succ_eq_append_getElem h,List.foldl_append];rfl
theorem evM_len (f:Nt) (l:List Nt):(evM f l).length≤20:=by
 have:∀ (l:List Nt) (e:List Ev),e.length≤20→(l.foldl (ev1 f) e).length≤20:=by
  intro l
  induction l with
  | nil=>intro e h;exact h
  | cons x l ih =>
   intro e h
   refine ih _ ?_
   unfold ev1
   by_cases hc:e.length < 20
   ·cases sameP f x <;> simp [hc] <;> omega
   ·simp [hc,h]
 exact this l [] (by simp)
theorem portsM_len (e c:List Nt):(portsM e c).length≤8:=by unfold portsM;simp;omega
theorem portsM_succ {e c:List Nt} {i:Nat} (h:i < c.length):portsM e (c.take (i+1))=if (portsM e (c.take i)).length < 8 then portsM e (c.take i)++[poOf e c[i]] else portsM e (c.take i):=by
 unfold portsM
 rw [List.take_succ_eq_append_getElem h,List.map_append,List.map_cons,List.map_nil]
 have hl:((c.take i).map (poOf e)).length=i:=by simp;omega
 by_cases hi:i < 8
 ·have h1:((c.take i).map (poOf e)).take 8=(c.take i).map (poOf e):=List.take_of_length_le (by omega)
  rw [if_pos (by rw [h1,hl];exact hi),h1,List.take_of_length_le (by simp;omega)]
 ·rw [if_neg (by rw [List.length_take,hl];omega),List.take_append_of_le_length (by omega)]
theorem stepX_ok {l l':Ln} {n:Nat} {a h:Int} (hl:lnOk l=true) (hn:lnB n a h=true) (hx:stepX l n a h=some l'):lnOk l'=true∧l'.si=a:=by
 have hk:1≤n∧n≤7:=by
  have:inB (n:Int) 1 7=true:=by unfold lnB at hn;simp only [Bool.and_eq_true] at hn;exact hn.1.1
  have:=inB_iff.1 this
  omega
 have ha:inB a 0 10000000=true:=by unfold lnB at hn;simp only [Bool.and_eq_true] at hn;exact hn.1.2
 have hh:(if (n:Int)=1∨(n:Int)=2 then inB h 0 63 else decide (h=-1))=true:=by unfold lnB at hn;simp only [Bool.and_eq_true] at hn;exact hn.2
 obtain ⟨st,ho,ep,si⟩:=l
 unfold lnOk at hl
 simp only [Bool.and_eq_true,inB_iff] at hl
 obtain ⟨h1,h2,h3,h4⟩:=hl
 unfold stepX at hx
 have hi:=inB_iff.1 ha
 obtain rfl | rfl | rfl | rfl | rfl | rfl | rfl:n=1∨n=2∨n=3∨n=4∨n=5∨n=6∨n=7:=by omega
 all_goals
  simp [canB,ruN,ruT,Bool.cond_eq_ite] at hx hh
  obtain ⟨hc,rfl⟩:=hx
  refine ⟨?_,rfl⟩
  unfold lnOk
  simp [inB] at *
  first | omega | (by_cases h0:st=0 <;> simp [h0] at*<;> omega)
def FitL (s:Ln × List Le) (f:Nt):Prop:=lnOk s.1=true∧lnB f.lk f.la f.lh=true∧s.1.si≤f.la
theorem fm_line1 {f:Nt} (h:fmN f=true) (hk:f.kind=1):lnB f.lk f.la f.lh=true:=by
 unfold fmN at h
 rw [hk] at h
 simp only [Bool.and_eq_true,if_true] at h
 exact h.2.2
theorem key_la {x y:Nt} (h:lexC (keyC x) (keyC y)≤0):x.la≤y.la:=by
 unfold keyC at h
 rw [lexC] at h
 split at h
 ·omega
 ·split at h
  ·omega
  ·omega
theorem stepX_si {l l':Ln} {n:Nat} {a h:Int} (hx:stepX l n a h=some l'):l'.si=a:=by
 unfold stepX at hx
 rw [Bool.cond_eq_ite] at hx
 split at hx
 ·cases hx;rfl
 ·cases hx
theorem life_fit {l:List Nt} (h1:∀ f,f∈l→lnB f.lk f.la f.lh=true) (hs:SortK keyC l):∀ k,k≤l.length→lnOk (lifeM (l.take k)).1=true∧((lifeM (l.take k)).1.si=0∨∃ j,∃ _h:j < k,∃ h2:j < l.length,(lifeM (l.take k)).1.si=(l[j]'h2).la)
 | 0,_=>⟨(by decide:lnOk line0L=true),.inl rfl⟩
 | k+1,hk=>by
  obtain ⟨i1,i2⟩:=life_fit h1 hs k (by omega)
  have hlt:k < l.length:=by omega
  rw [lifeM_succ hlt]
  have hb:=h1 l[k] (List.getElem_mem hlt)
  have hkk:1≤l[k].lk∧l[k].lk≤7:=by
   unfold lnB at hb;simp only [Bool.and_eq_true] at hb;exact inB_iff.1 hb.1.1
  have hcast:((l[k].lk.toNat:Nat):Int)=l[k].lk:=Int.toNat_of_nonneg (by omega)
  unfold life1
  cases hx:stepX (lifeM (l.take k)).1 l[k].lk.toNat l[k].la l[k].lh with
  | none=>exact ⟨i1,by
    rcases i2 with h | ⟨j,a,b,c⟩
    ·exact .inl h
    ·exact .inr ⟨j,by omega,b,c⟩⟩
  | some l' =>
   simp only
   cases hc:decide ((lifeM (l.take k)).2.length < 40) with
   | false=>exact ⟨i1,by
    rcases i2 with h | ⟨j,a,b,c⟩
    ·exact .inl h
    ·exact .inr ⟨j,by omega,b,c⟩⟩
   | true =>
    obtain ⟨o1,o2⟩:=stepX_ok i1 (by rw [hcast];exact hb) hx
    exact ⟨o1,.inr ⟨k,by omega,hlt,o2⟩⟩
theorem life_fitL {l:List Nt} (h1:∀ f,f∈l→lnB f.lk f.la f.lh=true) (hs:SortK keyC l) {k:Nat} (hk:k < l.length):FitL (lifeM (l.take k)) l[k]:=by
 obtain ⟨i1,i2⟩:=life_fit h1 hs k (by omega)
 have hb:=h1 l[k] (List.getElem_mem hk)
 have ha:0≤l[k].la:=by
  unfold lnB at hb;simp only [Bool.and_eq_true] at hb;exact (inB_iff.1 hb.1.2).1
 refine ⟨i1,hb,?_⟩
 rcases i2 with h | ⟨j,a,b,c⟩
 ·omega
 ·rw [c]
  exact key_la ((List.pairwise_iff_getElem.1 hs) j k b hk a)
theorem lifeM_len (l:List Nt):(lifeM l).2.length≤40:=by
 have:∀ (l:List Nt) (s:Ln × List Le),s.2.length≤40→(l.foldl life1 s).2.length≤40:=by
  intro l
  induction l with
  | nil=>intro s h;exact h
  | cons x l ih =>
   intro s h
   refine ih _ ?_
   unfold life1
   split
   ·by_cases hc:s.2.length < 40
    ·simp [hc];omega
    ·simp [hc,h]
   ·exact h
 exact this l _ (by simp)
end
end Go.Proofs.YtledkokhghjfmaaGreatDoor
