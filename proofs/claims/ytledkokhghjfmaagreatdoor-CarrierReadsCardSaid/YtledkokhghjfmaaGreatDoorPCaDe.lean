/-
  carrier: Derive.
-/
import Derived.Test.YtledkokhghjfmaaGreatDoorPN03
namespace Go.Proofs.YtledkokhghjfmaaGreatDoor
open Go.RowKit Go.Lib
theorem infoLeT:(Tryz.prog.info? 25).map (fun i=>(i.zero,i.size,i.bytes))=some (some (.agg #[.int .i64 0,.int .i64 0,.int .i64 0]),3,24):=by kernel_rfl
theorem infoLn:(Tryz.prog.info? 131).map (·.size)=some 4:=by kernel_rfl
theorem leC_len (x:Le):(leC x).length=3:=rfl
theorem leC_one (x:Le):∀ v,v∈leC x→v.oneCell'=true:=by
 intro v hv
 simp only [leC,List.mem_cons,List.not_mem_nil,or_false] at hv
 rcases hv with rfl | rfl | rfl <;> rfl
abbrev chC (n f ra rc rs rr:Int) (lv pv:Value):List Value:=[.int .i64 n,.int .i64 f,.int .i64 ra,.int .i64 rc,.int .i64 rs,.int .i64 rr,lv,pv]
def ChB (W:World) (b:Nat) (s:Su) (n f:Int) (lv pv:Value):Prop:=W.heap[b]?=some (.cells (chC n f s.ra s.rc s.rs s.rr lv pv).toArray 66 (0,0))
def LnAt (W:World) (b:Nat) (l:Ln):Prop:=W.heap[b]?=some (.cells #[.int .i64 l.st,.int .i64 l.ho,.int .i64 l.ep,.int .i64 l.si] 131 (0,0))
theorem infoEvT:(Tryz.prog.info? 29).map (fun i=>(i.zero,i.size,i.bytes))=some (some (.agg #[.int .i64 0,.int .i64 0,.int .i64 0]),3,24):=by kernel_rfl
theorem infoPoT:(Tryz.prog.info? 79).map (fun i=>(i.zero,i.size,i.bytes))=some (some (.agg #[.int .i64 0,.int .i64 0,.int .i64 0,.int .i64 0,.int .i64 0,.bool false,.slice none 0 0]),7,72):=by kernel_rfl
theorem evC_len (x:Ev):(evC x).length=3:=rfl
theorem evC_one (x:Ev):∀ v,v∈evC x→v.oneCell'=true:=by
 intro v hv
 simp only [evC,List.mem_cons,List.not_mem_nil,or_false] at hv
 rcases hv with rfl | rfl | rfl <;> rfl
structure Pv where
 p:Po
 a:Option Addr
 c:Nat
def Pv.v (x:Pv):Value:=.slice x.a x.p.evs.length x.c
def poX (x:Pv):List Value:=poC x.p x.v
theorem poX_len (x:Pv):(poX x).length=7:=rfl
theorem poX_one (x:Pv):∀ v,v∈poX x→v.oneCell'=true:=by
 intro v hv
 simp only [poX,poC,List.mem_cons,List.not_mem_nil,or_false] at hv
 rcases hv with rfl | rfl | rfl | rfl | rfl | rfl | rfl <;> rfl
structure PsIn (w W:World) (pv:Value) (ps:List Pv):Prop where
 row:RyG poX 79 7 w W pv ps
 evs:∀ x,x∈ps→RyG evC 29 3 w W x.v x.p.evs
 apart:∀ x,x∈ps→∀ g,x.v.ownBlock=some g→pv.ownBlock≠some g
theorem PsIn.fr {w W W':World} {pv:Value} {ps:List Pv} {S:List Nat} (h:PsIn w W pv ps) (hf:Fr S W W') (hS:∀ k,k∈S→k < w.heap.size∨W.heap.size≤k):PsIn w W' pv ps :=
 ⟨h.row.fr hf fun g hg hm=>by have:=h.row.young g hg;have:=h.row.lt g hg;rcases hS _ hm with h1 | h1 <;> omega,fun x hx=>(h.evs x hx).fr hf fun g hg hm=>by have:=(h.evs x hx).young g hg;have:=(h.evs x hx).lt g hg;rcases hS _ hm with h1 | h1 <;> omega,h.apart⟩
theorem PsIn.app {w W W':World} {pv pv':Value} {ps:List Pv} (h:PsIn w W pv ps) {q:Pv} (hr:RyG poX 79 7 w W' pv' (ps++[q])) (hf:Fr pv.ownBlock.toList W W') (ho:∀ g,pv'.ownBlock=some g→pv.ownBlock=some g∨g=W.heap.size) (hq:RyG evC 29 3 w W q.v q.p.evs) (hqa:∀ g,q.v.ownBlock=some g→pv.ownBlock≠some g):PsIn w W' pv' (ps++[q]):=by
 have key:∀ x:Pv,RyG evC 29 3 w W x.v x.p.evs→(∀ g,x.v.ownBlock=some g→pv.ownBlock≠some g)→RyG evC 29 3 w W' x.v x.p.evs∧∀ g,x.v.ownBlock=some g→pv'.ownBlock≠some g:=fun x hx ha =>
  ⟨hx.fr hf fun g hg hm=>ha g hg (by simpa using hm),fun g hg hp=>by
   rcases ho g hp with h1 | h1
   ·exact ha g hg h1
   ·have:=hx.lt g hg;omega⟩
 refine ⟨hr,fun x hx=>?_,fun x hx=>?_⟩
 ·rcases List.mem_append.1 hx with hx | hx
  ·exact (key x (h.evs x hx) (h.apart x hx)).1
  ·rw [List.mem_singleton] at hx;subst hx;exact (key x hq hqa).1
 ·rcases List.mem_append.1 hx with hx | hx
  ·exact (key x (h.evs x hx) (h.apart x hx)).2
  ·rw [List.mem_singleton] at hx;subst hx;exact (key x hq hqa).2
structure ChIn (w W:World) (c:Ch) (lv pv:Value) (ps:List Pv):Prop where
 life:RyG leC 25 3 w W lv c.life
 ports:PsIn w W pv ps
 eq:ps.map Pv.p=c.ports
theorem infoCh:(Tryz.prog.info? 66).map (·.size)=some 8:=by kernel_rfl
theorem chC_one (n f ra rc rs rr:Int) (a b:Option Addr) (k m c d:Nat):∀ v,v∈chC n f ra rc rs rr (.slice a k c) (.slice b m d)→v.oneCell'=true:=by
 intro v hv
 simp only [chC,List.mem_cons,List.not_mem_nil,or_false] at hv
 rcases hv with rfl | rfl | rfl | rfl | rfl | rfl | rfl | rfl <;> rfl
theorem de_res {tmps:Array Value} {w:World} (B:Nat) (n f ra rc rs rr:Int) (lv pv:Value) (k:Int) (hB:w.heap[B]?=some (.cells (chC n f ra rc rs rr lv pv).toArray 66 (0,0))) (h6:tmps[6]?=some (.pointer (some ⟨B,0,none⟩))) (h7:tmps[7]?=some (.int .i64 k)) :
  (results Tryz.f22 tmps).run Tryz.prog w=.ok (.tuple #[.agg (chC n f ra rc rs rr lv pv).toArray,.int .i64 k]) w:=by
 have x0:w.cell? ⟨B,0,none⟩=some (.int .i64 n):=qd hB 0
 have x1:w.cell? ⟨B,1,none⟩=some (.int .i64 f):=qd hB 1
 have x2:w.cell? ⟨B,2,none⟩=some (.int .i64 ra):=qd hB 2
 have x3:w.cell? ⟨B,3,none⟩=some (.int .i64 rc):=qd hB 3
 have x4:w.cell? ⟨B,4,none⟩=some (.int .i64 rs):=qd hB 4
 have x5:w.cell? ⟨B,5,none⟩=some (.int .i64 rr):=qd hB 5
 have x6:w.cell? ⟨B,6,none⟩=some lv:=qd hB 6
 have x7:w.cell? ⟨B,7,none⟩=some pv:=qd hB 7
 simp [results,Tryz.results22,go_sem,h6,h7,asAddr,x0,x1,x2,x3,x4,x5,x6,x7]
set_option maxRecDepth 100000 in
set_option maxHeartbeats 32000000 in
theorem CADerive_c (s:Su) (bv kv v:Value) (l:List Nt) (num first:Int) (w:World) (hs:SuAt w bv kv s) (hok:suOk s=true) (hf:findBk s.bks num=some first) (h:Sl w v l.length (l.flatMap ntC)) (hl:l.length≤1000000) :
  Calls Tryz.prog 22 #[suV s bv kv,v,.int .i64 num] w fun e w'=>∃ lv pv ps,e=.returned (.tuple #[chV (deriveM s l num first) lv pv,.int .i64 0])∧ChIn w w' (deriveM s l num first) lv pv ps∧Fr [] w w':=by
 obtain ⟨ad,cap,rfl⟩:=hs.bks.val
 obtain ⟨kd,kap,rfl⟩:=hs.keys.val
 obtain ⟨ld,lap,rfl⟩:=h.val
 have CV:=qj fun W (hF:Fr [] w W)=>caValid_c s (.slice ad s.bks.length cap) (.slice kd s.keys.length kap) W (hs.same hF)
 rw [hok] at CV
 have CB:=qj fun W (hF:Fr [] w W)=>bkFind_c (.slice ad s.bks.length cap) s.bks num W (hs.bks.same hF) hs.bn
 rw [hf] at CB
 have CC:=qj fun W (hF:Fr [] w W)=>counting_c (.slice ld l.length lap) l num first W (h.same hF) hl
 have HU:Hid (num=num):=qj rfl
 clear hs hok hf h
 obtain ⟨ow,bl,ra,rc,rs,rr,kl⟩:=s
 simp only at *
 obtain ⟨F2,B1,B2⟩:=two_more w (.cells #[.int .i64 ow,.slice ad bl.length cap,.int .i64 ra,.int .i64 rc,.int .i64 rs,.int .i64 rr,.slice kd kl.length kap] 48) (.cells #[.int .i64 0,.int .i64 0,.int .i64 0,.int .i64 0,.int .i64 0,.int .i64 0,.slice none 0 0,.slice none 0 0] 66)
 have HF2:=qj F2
 have HB:=qj (And.intro B1 B2)
 clear F2 B1 B2
 go_enter Tryz.func22,Tryz.ntmps22
 go_wp2_with fail
 refine (CV.out _ HF2.out).mono ?_
 rintro e w3 ⟨rfl,f3⟩
 have HF3:=qj (HF2.out.trans f3)
 have HB3:=qj (And.intro (f3.keep HB.out.1 (by simp)) (f3.keep HB.out.2 (by simp)))
 have s1:=qd HB3.out.1 1;have s2:=qd HB3.out.1 2;have s3:=qd HB3.out.1 3;have s4:=qd HB3.out.1 4;have s5:=qd HB3.out.1 5
 clear f3 HB HF2 CV
 go_wp2_with fail
 refine (CB.out _ HF3.out).mono ?_
 rintro e w4 ⟨rfl,f4⟩
 have HF4:=qj (HF3.out.trans f4)
 have HB4:=qj (And.intro (f4.keep HB3.out.1 (by simp)) (f4.keep HB3.out.2 (by simp)))
 have hlt4:=blk_lt HB4.out.2
 clear s1 s2 s3 s4 s5
 have s2:=qd HB4.out.1 2;have s3:=qd HB4.out.1 3;have s4:=qd HB4.out.1 4;have s5:=qd HB4.out.1 5
 clear f4 HB3 HF3 CB
 unfold findV
 go_wp2_with fail
 have FA4:=Fr.alloc [] w4 (.cells (chC num first ra rc rs rr nilS nilS).toArray 66)
 refine (CC.out _ (HF4.out.trans FA4)).mono ?_
 rintro e w5 ⟨ob,L,rfl,hK,hob,f5⟩
 have HC5:Hid (ChB w5 w4.heap.size ⟨ow,bl,ra,rc,rs,rr,kl⟩ num first nilS nilS):=qj (f5.keep (qm w4 (.cells (chC num first ra rc rs rr nilS nilS).toArray 66)) (by simp))
 have HF5:=qj ((HF4.out.trans FA4).trans f5)
 have HT5:=qj (f5.keep (FA4.keep HB4.out.2 (by simp)) (by simp))
 have hy5:∀ j g,((getA L j).getD nilS).ownBlock=some g→w4.heap.size < g:=fun j g hg=>by have:=(hK.row j).young g hg;simp at this;omega
 have hob5:w4.heap.size < ob:=by simp at hob;omega
 have hcb5:=blk_lt HC5.out
 have hr1:∀ f,f∈cntK num first l 1→lnB f.lk f.la f.lh=true:=fun f hf=>by
  obtain ⟨_,_,h3,_,h5⟩:=cntK_mem hf
  exact fm_line1 h3 h5
 have hs1:SortK keyC (cntK num first l 1):=sortK_sorted _ _
 have hn1:(cntK num first l 1).length≤1000000:=by
  unfold cntK
  rw [(sortK_perm keyC _).length_eq]
  exact Nat.le_trans (List.length_filter_le _ _) (Nat.le_trans (cntM_len _ _ _) hl)
 have HR1:=qj (And.intro hr1 hs1)
 have HK5:=qj hK;have HY5:=qj hy5
 clear hK f5 FA4 hy5 hob CC HB4 HF4 s2 s3 s4 s5 hr1 hs1
 have HLN:Hid (LnAt (w5.alloc (.cells #[.int .i64 0,.int .i64 (-1),.int .i64 0,.int .i64 0] 131)) w5.heap.size line0L):=qj (qm _ _)
 have HA6:=qj (Fr.alloc [] w5 (.cells #[.int .i64 0,.int .i64 (-1),.int .i64 0,.int .i64 0] 131))
 have hz6:(w5.alloc (.cells #[.int .i64 0,.int .i64 (-1),.int .i64 0,.int .i64 0] 131)).heap.size=w5.heap.size+1:=by simp
 go_wp2_with (first | ((with_reducible refine wpList_of_wp (o:=⟨some 48,_,_,_,_,_⟩) rfl (fun K hK=>?_));apply stopD;case _other=>exact trivial))
 (refine stopD ?_ ?_;rotate_left;exact trivial)
 generalize w5.alloc (.cells #[.int .i64 0,.int .i64 (-1),.int .i64 0,.int .i64 0] 131)=w6 at *
 have HK6:=qj (HK5.out.same HA6.out)
 have HZ6:=qj hz6
 clear hz6
 refine wp_look 128 71 (.tmp 47) (.const (.int .i64 1)) false 1 rfl rfl rfl HK6.out.map keyInt Tryz.underlying128 (zeroNts _) rfl ?_
 refine hK _ _ ?_
 clear hK K
 simp only [qu,qv,qx,Bool.false_eq_true,if_false]
 have hrow1:=HK6.out.row 1
 obtain ⟨ra1,rc1,hv1⟩:=hrow1.val
 rw [hv1] at hrow1 ⊢
 have HW1:=qj hrow1
 have HO1:Hid (∀ g,(Value.slice ra1 (cntK num first l 1).length rc1).ownBlock=some g→w4.heap.size < g∧g < w5.heap.size):=qj fun g hg=>by
  rw [← hv1] at hg
  exact ⟨HY5.out 1 g hg,(HK5.out.row 1).lt g hg⟩
 clear hrow1 hv1
 generalize hr:cntK num first l 1=r1 at *
 have HRR1:=qj hr
 clear hr
 go_wp2_with fail
 have HC6:=qj (HA6.out.keep HC5.out (by simp))
 go_loopw [50] (fun iv wr=>∃ (k:Nat) (lv:Value),iv=.int .i64 k∧k≤r1.length∧Hid (ChB wr w4.heap.size ⟨ow,bl,ra,rc,rs,rr,kl⟩ num first lv nilS)∧Hid (LnAt wr w5.heap.size (lifeM (r1.take k)).1)∧Hid (RyG leC 25 3 w6 wr lv (lifeM (r1.take k)).2)∧Hid (Fr [w4.heap.size,w5.heap.size] w6 wr)) (fun iv _=>r1.length - (RowKit.intOf iv).toNat)
 case atStart=>exact ⟨0,nilS,rfl,Nat.zero_le _,HC6,HLN,qj (RyG.nil _ _),qj (Fr.refl _ _)⟩
 case round =>
  clear HLN HC5 HC6
  obtain ⟨k,lv,rfl,hk,HC,HLN,HR,HF⟩:=hrel
  by_cases hlt:k < r1.length
  ·obtain ⟨b,off,rfl,_⟩:=HW1.out.sl.at_ (by omega)
   have hsl:=(HW1.out.fr HF.out (fun g hg hm=>by simp at hm;have:=HO1.out g hg;omega)).sl
   have HRg:=qj (sl_range ntC_len hsl hlt (by omega))
   have hfit:=life_fitL HR1.out.1 HR1.out.2 hlt
   have hsuc:=lifeM_succ hlt
   have hll:=lifeM_len (r1.take k)
   generalize r1[k]=f at *
   unfold life1 at hsuc
   generalize lifeM (r1.take k)=sl at *
   obtain ⟨ln,lf⟩:=sl
   simp only at HLN HR hsuc hll hfit
   unfold FitL at hfit
   obtain ⟨g1,g2,g3⟩:=hfit
   have hk7:1≤f.lk∧f.lk≤7:=by
    unfold lnB at g2;simp only [Bool.and_eq_true] at g2;exact inB_iff.1 g2.1.1
   have hcast:((f.lk.toNat:Nat):Int)=f.lk:=Int.toNat_of_nonneg (by omega)
   have CS:=fun W=>lfStep_x ln f.lk.toNat f.la f.lh W g1 (by rw [hcast];exact g2) g3
   rw [hcast] at CS
   have HCS:=qj CS
   have HSU:=qj hsuc
   have hcbr:w4.heap.size < wr.heap.size∧w5.heap.size < wr.heap.size:=⟨blk_lt HC.out,blk_lt HLN.out⟩
   clear hsl g1 g2 g3 hk7 hcast CS hsuc
   go_wp2_with (first | ((with_reducible refine wpList_of_wp (o:=⟨some 53,_,_,_,_,_⟩) rfl (fun K hK=>?_));apply stopD;case _other=>exact trivial))
   (refine stopD ?_ ?_;rotate_left;exact trivial)
   refine wp_load_mid 31 (.tmp 52) rfl b (off+k*15) rfl (ntC f) _ HRg.out Tryz.underlying31 rfl (by kernel_rfl) ?_
   refine hK _ _ ?_
   clear hK K HRg
   have HN0:Hid (NtAt (wr.alloc (.cells (ntC nt0).toArray 31)) wr.heap.size nt0):=qj (qm _ _)
   go_wp2_with (first | ((with_reducible refine wpList_of_wp (o:=⟨none,.store _ _ _,_,_,_,_⟩) rfl (fun K hK=>?_));apply stopD;case _other=>exact trivial))
   (refine stopD ?_ ?_;rotate_left;exact trivial)
   refine wp_nt (.tmp 14) (.tmp 53) wr.heap.size nt0 f rfl rfl rfl HN0.out rfl (fun W6 n6 f6=>hK _ _ ?_)
   have HF6:Hid (Fr [] wr W6):=qj ((Fr.alloc [] wr _).step f6 (fun k hk=>.inr (by simp at hk;omega)))
   have HN6:=qj n6
   have HLN6:=qj (HF6.out.keep HLN.out (by simp))
   have HC6:=qj (HF6.out.keep HC.out (by simp))
   have HR6:=qj (HR.out.same HF6.out)
   have HG6:=qj (HF.out.trans (HF6.out.mono (by simp)))
   have hz6:wr.heap.size < W6.heap.size:=blk_lt n6
   have c3:=n6.cells 3 _ rfl;have c4:=n6.cells 4 _ rfl;have c5:=n6.cells 5 _ rfl
   have l0:=qd HLN6.out 0;have l1:=qd HLN6.out 1;have l2:=qd HLN6.out 2;have l3:=qd HLN6.out 3
   clear hK K n6 f6 HN0 HF6 HLN HC HR HF
   go_wp2_with fail
   refine (HCS.out _).mono ?_
   cases hx:stepX ln f.lk.toNat f.la f.lh with
   | none =>
    rintro e W7 ⟨rfl,f7⟩
    have HE:Hid (lifeM (r1.take (k+1))=(ln,lf)):=qj (by rw [HSU.out,hx])
    have HLN7:=qj (f7.keep HLN6.out (by simp))
    have HC7:=qj (f7.keep HC6.out (by simp))
    have HR7:=qj (HR6.out.same f7)
    have HG7:=qj (HG6.out.trans (f7.mono (by simp)))
    have FA:=qj (Fr.alloc [] W7 (.cells #[.int .i64 0,.int .i64 0,.int .i64 0,.int .i64 0] 131))
    clear f7 HLN6 HC6 HR6 HG6 HCS HSU hx l0 l1 l2 l3 c3 c4 c5 HN6
    unfold stV
    go_wp2_with fail
    go_roundw
    case rel=>exact ⟨k+1,lv,by go_num,hlt,qj (FA.out.keep HC7.out (by simp)),qj (by rw [HE.out];exact FA.out.keep HLN7.out (by simp)),qj (by rw [HE.out];exact HR7.out.same FA.out),qj (HG7.out.trans (FA.out.mono (by simp)))⟩
    case measure=>simp [RowKit.intOf];omega
   | some ln' =>
    rintro e W7 ⟨rfl,f7⟩
    have HLN7:=qj (f7.keep HLN6.out (by simp))
    have HC7:=qj (f7.keep HC6.out (by simp))
    have HR7:=qj (HR6.out.same f7)
    have HG7:=qj (HG6.out.trans (f7.mono (by simp)))
    have HN7:=qj (HN6.out.keep f7 (by simp))
    have hz7:wr.heap.size < W7.heap.size:=Nat.lt_of_lt_of_le hz6 f7.size
    have hb7:w4.heap.size < W7.heap.size:=by omega
    have y6:W7.cell? ⟨w4.heap.size,6,none⟩=some lv:=qd HC7.out 6
    clear f7 HLN6 HC6 HR6 HG6 HN6 HCS l0 l1 l2 l3 c3 c4 c5
    obtain ⟨la,lc,rfl⟩:=HR7.out.val
    unfold stV
    have hci:decide ((lf.length:Int) < 40)=decide (lf.length < 40):=by rw [decide_eq_decide];omega
    cases hc:decide (lf.length < 40) with
    | false =>
     rw [hc] at hci
     have HE:Hid (lifeM (r1.take (k+1))=(ln,lf)):=qj (by rw [HSU.out,hx];simp only [hc];rfl)
     have FA:=qj (Fr.alloc [] W7 (.cells #[.int .i64 ln'.st,.int .i64 ln'.ho,.int .i64 ln'.ep,.int .i64 ln'.si] 131))
     clear hx HSU HN7
     go_wp2_with fail
     go_roundw
     case rel=>exact ⟨k+1,_,by go_num,hlt,qj (FA.out.keep HC7.out (by simp)),qj (by rw [HE.out];exact FA.out.keep HLN7.out (by simp)),qj (by rw [HE.out];exact HR7.out.same FA.out),qj (HG7.out.trans (FA.out.mono (by simp)))⟩
     case measure=>simp [RowKit.intOf];omega
    | true =>
     have HE:Hid (lifeM (r1.take (k+1))=(ln',lf++[leOf f])):=qj (by rw [HSU.out,hx];simp only [hc];rfl)
     have FA:=Fr.alloc [] W7 (.cells #[.int .i64 ln'.st,.int .i64 ln'.ho,.int .i64 ln'.ep,.int .i64 ln'.si] 131)
     have HC8:=qj (FA.keep HC7.out (by simp))
     have HLN8:=qj (FA.keep HLN7.out (by simp))
     have HR8:=qj (HR7.out.same FA)
     have HG8:=qj (HG7.out.trans (FA.mono (by simp)))
     have HN8:=qj (HN7.out.keep FA (by simp))
     have hz8:wr.heap.size < (W7.alloc (.cells #[.int .i64 ln'.st,.int .i64 ln'.ho,.int .i64 ln'.ep,.int .i64 ln'.si] 131)).heap.size:=Nat.lt_of_lt_of_le hz7 FA.size
     clear hx HSU HN7 HC7 HLN7 HR7 HG7 FA
     rw [hc] at hci
     have hc2:lf.length < 40:=by simpa using hc
     clear hc
     have HT8:=qj (qm W7 (.cells #[.int .i64 ln'.st,.int .i64 ln'.ho,.int .i64 ln'.ep,.int .i64 ln'.si] 131))
     go_upto_region 14 with fail
     generalize W7.alloc (.cells #[.int .i64 ln'.st,.int .i64 ln'.ho,.int .i64 ln'.ep,.int .i64 ln'.si] 131)=W8 at *
     have k0:=qd HT8.out 0;have k1:=qd HT8.out 1;have k2:=qd HT8.out 2;have k3:=qd HT8.out 3
     clear y6
     go_wp2_with (first | ((with_reducible refine wpList_of_wp (o:=⟨none,.store _ _ _,_,_,_,_⟩) rfl (fun K hK=>?_));apply stopD;case _other=>exact trivial))
     (refine stopD ?_ ?_;rotate_left;exact trivial)
     refine wp_sub 131 131 (.tmp 12) (.tmp 69) w5.heap.size 0 [.int .i64 ln.st,.int .i64 ln.ho,.int .i64 ln.ep,.int .i64 ln.si] [.int .i64 ln'.st,.int .i64 ln'.ho,.int .i64 ln'.ep,.int .i64 ln'.si] rfl rfl rfl infoLn HLN8.out (by simp) (by intro v hv;simp at hv;rcases hv with rfl | rfl | rfl | rfl <;> rfl) rfl (fun W9 q9 f9=>hK _ _ ?_)
     have HLN9:Hid (LnAt W9 w5.heap.size ln'):=qj q9
     have hcl:w4.heap.size≠w5.heap.size:=by omega
     have HC9:=qj (f9.keep HC8.out (by simp [hcl]))
     have hl5:∀ g,(Value.slice la lf.length lc).ownBlock=some g→w5.heap.size < g:=fun g hg=>by have:=HR8.out.young g hg;have:=HZ6.out;omega
     have HR9:=qj (HR8.out.fr f9 (fun g hg hm=>by simp at hm;have:=hl5 g hg;omega))
     have HG9:=qj (HG8.out.trans (f9.mono (by simp)))
     have HN9:=qj (HN8.out.keep f9 (by simp;omega))
     have HL5:=qj hl5
     have HS9:Hid (w6.heap.size≤W9.heap.size):=qj HG9.out.size
     have hcb9:=blk_lt HC9.out
     clear hK K q9 f9 HLN8 HC8 HR8 HG8 HN8 HT8 k0 k1 k2 k3 hl5
     have y6:W9.cell? ⟨w4.heap.size,6,none⟩=some (.slice la lf.length lc):=qd HC9.out 6
     have c3:=HN9.out.cells 3 _ rfl;have c4:=HN9.out.cells 4 _ rfl;have c5:=HN9.out.cells 5 _ rfl
     have HB10:=qj (qm W9 (.cells (leC (leOf f)).toArray 25))
     have FA:=qj (Fr.alloc [] W9 (.cells (leC (leOf f)).toArray 25))
     have HR10:=qj (HR9.out.same FA.out)
     have hsz:w6.heap.size≤(W9.alloc (.cells (leC (leOf f)).toArray 25)).heap.size:=Nat.le_trans HS9.out FA.out.size
     have HSZ:=qj hsz
     have hlf:lf.length≤1000000:=by omega
     clear hsz
     go_wp2_with (first | ((with_reducible refine wpList_of_wp (o:=⟨some 75,_,_,_,_,_⟩) rfl (fun K hK=>?_));apply stopD;case _other=>exact trivial))
     (refine stopD ?_ ?_;rotate_left;exact trivial)
     refine wp_app_g (v:=.slice la lf.length lc) leC_len leC_one (.tmp 71) (.tmp 74) 63 (.agg #[.int .i64 0,.int .i64 0,.int .i64 0]) 24 rfl Tryz.underlying63 infoLeT rfl (by decide) (by decide) rfl HR10.out W9.heap.size 1 (leOf f) 25 rfl HB10.out hlf HSZ.out (fun ga cap3 W11 r11 f11 o11=>hK _ _ ?_)
     have hn:∀ j,j≤w5.heap.size→j∉(Value.slice la lf.length lc).ownBlock.toList:=fun j hj hm=>by
      have:=HL5.out j (by simpa using hm);omega
     have HC11:=qj ((FA.out.keep HC9.out (by simp)) |> fun q=>f11.keep q (hn _ (by omega)))
     have HLN11:=qj ((FA.out.keep HLN9.out (by simp)) |> fun q=>f11.keep q (hn _ (Nat.le_refl _)))
     have HG11:=qj ((HG9.out.trans (FA.out.mono (by simp))).step f11 (fun x hx=>.inr (HR10.out.young x (by simpa using hx))))
     have HR11:=qj r11
     have hcl2:w5.heap.size < w6.heap.size:=by have:=HZ6.out;omega
     clear hK K r11 f11 o11 hn HR10 HB10 FA HC9 HLN9 HG9 HR9 HN9 c3 c4 c5 y6 HL5
     have y6:W11.cell? ⟨w4.heap.size,6,none⟩=some (.slice la lf.length lc):=qd HC11.out 6
     have y7:=ql HC11.out 6
     go_wp2_with fail
     go_roundw
     case rel=>exact ⟨k+1,_,by go_num,hlt,qj (qs (i:=6) _ HC11.out),qj (by rw [HE.out];exact heap_setCell_other _ HLN11.out (by simp;omega)),qj (by rw [HE.out];exact HR11.out.fr (Fr.setCell (fp:=[w4.heap.size]) (p:=⟨w4.heap.size,6,none⟩) _ _ (by simp)) (fun g hg hm=>by simp at hm;have:=HR11.out.young g hg;omega)),qj (HG11.out.trans (Fr.setCell (fp:=[w4.heap.size,w5.heap.size]) (p:=⟨w4.heap.size,6,none⟩) _ _ (by simp)))⟩
     case measure=>simp [RowKit.intOf];omega
  ·obtain rfl:k=r1.length:=by omega
   simp only [List.take_length] at HLN HR
   have HN5:Hid (w5.heap.size < w6.heap.size∧w4.heap.size < w5.heap.size):=qj ⟨by have:=HZ6.out;omega,hcb5⟩
   have HK7:=qj (HK6.out.fr HF.out (fun x hx=>by
    simp at hx
    have h1:=HN5.out
    rcases hx with rfl | rfl
    ·exact ⟨by omega,fun j g hg=>by have:=HY5.out j g hg;omega⟩
    ·exact ⟨by have:=HK5.out.map.lt;omega,fun j g hg=>by have:=(HK5.out.row j).lt g hg;omega⟩))
   have HB7:Hid (∀ j g,((getA L j).getD nilS).ownBlock=some g→w4.heap.size < g∧g < w6.heap.size):=qj fun j g hg=>⟨HY5.out j g hg,by have:=(HK5.out.row j).lt g hg;have:=HN5.out;omega⟩
   have HRo:Hid (∀ g,lv.ownBlock=some g→w6.heap.size≤g):=qj HR.out.young
   have HF7:Hid (Fr [w4.heap.size,w5.heap.size] w6 wr):=HF
   have HCu:=HC
   have hzr:w6.heap.size≤wr.heap.size:=HF.out.size
   clear HLN HC HW1 HO1 HR1 HF
   obtain ⟨w7,hw7⟩:∃ w7,w7=wr:=⟨_,rfl⟩
   have HW7:=qj hw7
   clear hw7
   go_wp2_with (first | ((with_reducible refine wpList_of_wp (o:=⟨some 79,_,_,_,_,_⟩) rfl (fun K hK=>?_));apply stopD;case _other=>exact trivial))
   (refine stopD ?_ ?_;rotate_left;exact trivial)
   refine wp_look 128 71 (.tmp 78) (.const (.int .i64 2)) false 2 rfl rfl rfl HK7.out.map keyInt Tryz.underlying128 (zeroNts _) rfl ?_
   refine hK _ _ ?_
   clear hK K
   simp only [qu,qv,qx,Bool.false_eq_true,if_false]
   have hrow2:=HK7.out.row 2
   obtain ⟨ra2,rc2,hv2⟩:=hrow2.val
   rw [hv2] at hrow2 ⊢
   have HW2:=qj hrow2
   have HO2:Hid (∀ g,(Value.slice ra2 (cntK num first l 2).length rc2).ownBlock=some g→w4.heap.size < g∧g < w6.heap.size):=qj fun g hg=>HB7.out 2 g (by rw [hv2];exact hg)
   have hrow3:=HK7.out.row 3
   obtain ⟨ra3,rc3,hv3⟩:=hrow3.val
   rw [hv3] at hrow3
   have HW3:=qj hrow3
   have HV3:=qj hv3
   have HO3:Hid (∀ g,(Value.slice ra3 (cntK num first l 3).length rc3).ownBlock=some g→w4.heap.size < g∧g < w6.heap.size):=qj fun g hg=>HB7.out 3 g (by rw [hv3];exact hg)
   have hn23:(cntK num first l 2).length≤1000000∧(cntK num first l 3).length≤1000000:=by
    unfold cntK
    rw [(sortK_perm keyC _).length_eq,(sortK_perm keyC _).length_eq]
    exact ⟨Nat.le_trans (List.length_filter_le _ _) (Nat.le_trans (cntM_len _ _ _) hl),Nat.le_trans (List.length_filter_le _ _) (Nat.le_trans (cntM_len _ _ _) hl)⟩
   clear hrow2 hv2 hrow3 hv3
   generalize hr2:cntK num first l 2=r2 at *
   generalize hr3:cntK num first l 3=r3 at *
   have HRR2:=qj (And.intro hr2 hr3)
   have hn2:=hn23.1;have hn3:=hn23.2
   clear hr2 hr3 hn23
   go_wp2_with fail
   have hw7:=HW7.out
   subst hw7
   go_loopw [81] (fun iv wr=>∃ (k:Nat) (pv:Value) (ps:List Pv),iv=.int .i64 k∧k≤r2.length∧Hid (ChB wr w4.heap.size ⟨ow,bl,ra,rc,rs,rr,kl⟩ num first lv pv)∧Hid (PsIn w7 wr pv ps)∧Hid (ps.map Pv.p=portsM r3 (r2.take k))∧Hid (Fr [w4.heap.size] w7 wr)) (fun iv _=>r2.length - (RowKit.intOf iv).toNat)
   case atStart=>exact ⟨0,nilS,[],rfl,Nat.zero_le _,HCu,qj ⟨RyG.nil _ _,(by simp),(by simp)⟩,qj rfl,qj (Fr.refl _ _)⟩
   case round =>
    clear HCu
    obtain ⟨k,pv,ps,rfl,hk,HC,HP,HQ,HF⟩:=hrel
    by_cases hlt:k < r2.length
    ·obtain ⟨b,off,rfl,_⟩:=HW2.out.sl.at_ (by omega)
     have hsl:=(HW2.out.fr HF.out (fun g hg hm=>by simp at hm;have:=HO2.out g hg;omega)).sl
     have HRg:=qj (sl_range ntC_len hsl hlt (by omega))
     have HPS:=qj (portsM_succ (e:=r3) hlt)
     have hpl:ps.length≤8:=by
      have h1:=congrArg List.length HQ.out
      rw [List.length_map] at h1
      have:=portsM_len r3 (r2.take k)
      omega
     have hcbr:=blk_lt HC.out
     generalize r2[k]=f at *
     clear hsl
     go_wp2_with (first | ((with_reducible refine wpList_of_wp (o:=⟨some 84,_,_,_,_,_⟩) rfl (fun K hK=>?_));apply stopD;case _other=>exact trivial))
     (refine stopD ?_ ?_;rotate_left;exact trivial)
     refine wp_load_mid 31 (.tmp 83) rfl b (off+k*15) rfl (ntC f) _ HRg.out Tryz.underlying31 rfl (by kernel_rfl) ?_
     refine hK _ _ ?_
     clear hK K HRg
     have HN0:Hid (NtAt (wr.alloc (.cells (ntC nt0).toArray 31)) wr.heap.size nt0):=qj (qm _ _)
     go_wp2_with (first | ((with_reducible refine wpList_of_wp (o:=⟨none,.store _ _ _,_,_,_,_⟩) rfl (fun K hK=>?_));apply stopD;case _other=>exact trivial))
     (refine stopD ?_ ?_;rotate_left;exact trivial)
     refine wp_nt (.tmp 18) (.tmp 84) wr.heap.size nt0 f rfl rfl rfl HN0.out rfl (fun W6 n6 f6=>hK _ _ ?_)
     have HF6:Hid (Fr [] wr W6):=qj ((Fr.alloc [] wr _).step f6 (fun k hk=>.inr (by simp at hk;omega)))
     have FA:=qj (Fr.alloc [] W6 (.cells #[.int .i64 f.cn,.int .i64 f.cf,.int .i64 f.ct,.int .i64 f.ch,.int .i64 f.ca,.bool f.cb,.slice none 0 0] 79))
     have HPB:Hid ((W6.alloc (.cells #[.int .i64 f.cn,.int .i64 f.cf,.int .i64 f.ct,.int .i64 f.ch,.int .i64 f.ca,.bool f.cb,.slice none 0 0] 79)).heap[W6.heap.size]?=some (.cells (poC (poOf [] f) nilS).toArray 79 (0,0))):=qj (qm _ _)
     have HN8:=qj (FA.out.keep n6 (by simp))
     have HC8:=qj ((HF6.out.trans FA.out).keep HC.out (by simp))
     have HP6:=qj (HP.out.fr HF6.out (by simp))
     have HF7b:=qj (HF.out.trans (HF6.out.mono (by simp)))
     have HF8:=qj (HF.out.trans ((HF6.out.trans FA.out).mono (by simp)))
     have HK8:=qj (HK7.out.fr HF8.out (fun x hx=>by
      simp at hx;subst hx
      exact ⟨by have:=HK5.out.map.lt;omega,fun j g hg=>by have:=HB7.out j g hg;omega⟩))
     have hz6:wr.heap.size < W6.heap.size:=blk_lt n6
     have HZ8:Hid ((W6.alloc (.cells #[.int .i64 f.cn,.int .i64 f.cf,.int .i64 f.ct,.int .i64 f.ch,.int .i64 f.ca,.bool f.cb,.slice none 0 0] 79)).heap.size=W6.heap.size+1):=qj (by simp)
     have c6:=n6.cells 6 _ rfl;have c7:=n6.cells 7 _ rfl;have c8:=n6.cells 8 _ rfl;have c9:=n6.cells 9 _ rfl;have c10:=n6.cells 10 _ rfl;have c11:=n6.cells 11 _ rfl
     have HZ7:Hid (w7.heap.size≤wr.heap.size):=qj HF.out.size
     clear hK K n6 f6 HN0 HF6 HC HP HF
     go_wp2_with (first | ((with_reducible refine wpList_of_wp (o:=⟨some 89,_,_,_,_,_⟩) rfl (fun K hK=>?_));apply stopD;case _other=>exact trivial))
     (refine stopD ?_ ?_;rotate_left;exact trivial)
     generalize W6.alloc (.cells #[.int .i64 f.cn,.int .i64 f.cf,.int .i64 f.ct,.int .i64 f.ch,.int .i64 f.ca,.bool f.cb,.slice none 0 0] 79)=w8 at *
     refine wp_look 128 71 (.tmp 88) (.const (.int .i64 3)) false 3 rfl rfl rfl HK8.out.map keyInt Tryz.underlying128 (zeroNts _) rfl ?_
     refine hK _ _ ?_
     clear hK K c6 c7 c8 c9 c10 c11
     simp only [qu,qv,qx,Bool.false_eq_true,if_false]
     rw [HV3.out]
     go_wp2_with fail
     clear HK8
     generalize wr.heap.size=fb at *
     go_loopw [91] (fun iv wq=>∃ (j:Nat) (ev:Value),iv=.int .i64 j∧j≤r3.length∧Hid (wq.heap[W6.heap.size]?=some (.cells (poC (poOf [] f) ev).toArray 79 (0,0)))∧Hid (RyG evC 29 3 w8 wq ev (evM f (r3.take j)))∧Hid (Fr [W6.heap.size] w8 wq)) (fun iv _=>r3.length - (RowKit.intOf iv).toNat)
     case atStart=>exact ⟨0,nilS,rfl,Nat.zero_le _,HPB,qj (RyG.nil _ _),qj (Fr.refl _ _)⟩
     case round =>
      clear HPB
      obtain ⟨j,ev,rfl,hj,HPB,HE,HG⟩:=hrel
      by_cases hlj:j < r3.length
      ·obtain ⟨b3,off3,rfl,_⟩:=HW3.out.sl.at_ (by omega)
       have hsl:=((HW3.out.fr HF8.out (fun g hg hm=>by simp at hm;have:=HO3.out g hg;omega)).fr HG.out (fun g hg hm=>by simp at hm;have:=HO3.out g hg;have:=HZ7.out;omega)).sl
       have HRg:=qj (sl_range ntC_len hsl hlj (by omega))
       have hevs:=evM_succ (f:=f) hlj
       have hevl:=evM_len f (r3.take j)
       have HNf:=qj (HG.out.keep HN8.out (by simp;omega))
       have hpbw:=blk_lt HPB.out
       generalize r3[j]=x at *
       generalize evM f (r3.take j)=el at *
       unfold ev1 sameP at hevs
       clear hsl
       go_wp2_with (first | ((with_reducible refine wpList_of_wp (o:=⟨some 94,_,_,_,_,_⟩) rfl (fun K hK=>?_));apply stopD;case _other=>exact trivial))
       (refine stopD ?_ ?_;rotate_left;exact trivial)
       refine wp_load_mid 31 (.tmp 93) rfl b3 (off3+j*15) rfl (ntC x) _ HRg.out Tryz.underlying31 rfl (by kernel_rfl) ?_
       refine hK _ _ ?_
       clear hK K HRg
       have HN0:Hid (NtAt (wr.alloc (.cells (ntC nt0).toArray 31)) wr.heap.size nt0):=qj (qm _ _)
       go_wp2_with (first | ((with_reducible refine wpList_of_wp (o:=⟨none,.store _ _ _,_,_,_,_⟩) rfl (fun K hK=>?_));apply stopD;case _other=>exact trivial))
       (refine stopD ?_ ?_;rotate_left;exact trivial)
       refine wp_nt (.tmp 21) (.tmp 94) wr.heap.size nt0 x rfl rfl rfl HN0.out rfl (fun W9 n9 f9=>hK _ _ ?_)
       have HF9:Hid (Fr [] wr W9):=qj ((Fr.alloc [] wr _).step f9 (fun k hk=>.inr (by simp at hk;omega)))
       have HPB6:=qj (HF9.out.keep HPB.out (by simp))
       have HE6:=qj (HE.out.same HF9.out)
       have HG6:=qj (HG.out.trans (HF9.out.mono (by simp)))
       have HNf6:=HF9.out.keep HNf.out (by simp)
       have c7:=n9.cells 7 _ rfl;have c8:=n9.cells 8 _ rfl;have c10:=n9.cells 10 _ rfl;have c12:=n9.cells 12 _ rfl;have c13:=n9.cells 13 _ rfl;have c14:=n9.cells 14 _ rfl
       have d7:=NtAt.cells HNf6 7 _ rfl;have d8:=NtAt.cells HNf6 8 _ rfl;have d10:=NtAt.cells HNf6 10 _ rfl
       have y6:W9.cell? ⟨W6.heap.size,6,none⟩=some ev:=qd HPB6.out 6
       have hxw:=blk_lt n9
       clear hK K n9 f9 HN0 HF9 HPB HE HG HNf HNf6
       obtain ⟨ea,ec,rfl⟩:=HE6.out.val
       cases s1:x.cf == f.cf with
       | false =>
        have HEV:Hid (evM f (r3.take (j+1))=el):=qj (by rw [hevs,s1];rfl)
        clear hevs
        go_wp2_with fail
        go_roundw
        case rel=>exact ⟨j+1,_,by go_num,hlj,HPB6,by rw [HEV.out];exact HE6,HG6⟩
        case measure=>simp [RowKit.intOf];omega
       | true =>
        cases s2:x.ct == f.ct with
        | false =>
         have HEV:Hid (evM f (r3.take (j+1))=el):=qj (by rw [hevs,s1,s2];rfl)
         clear hevs
         go_wp2_with fail
         go_roundw
         case rel=>exact ⟨j+1,_,by go_num,hlj,HPB6,by rw [HEV.out];exact HE6,HG6⟩
         case measure=>simp [RowKit.intOf];omega
        | true =>
         cases s3:x.ca == f.ca with
         | false =>
          have HEV:Hid (evM f (r3.take (j+1))=el):=qj (by rw [hevs,s1,s2,s3];rfl)
          clear hevs
          go_wp2_with fail
          go_roundw
          case rel=>exact ⟨j+1,_,by go_num,hlj,HPB6,by rw [HEV.out];exact HE6,HG6⟩
          case measure=>simp [RowKit.intOf];omega
         | true =>
          have hci:decide ((el.length:Int) < 20)=decide (el.length < 20):=by rw [decide_eq_decide];omega
          cases hc:decide (el.length < 20) with
          | false =>
           rw [hc] at hci
           have HEV:Hid (evM f (r3.take (j+1))=el):=qj (by rw [hevs,s1,s2,s3,hc];rfl)
           clear hevs hc
           go_wp2_with fail
           go_roundw
           case rel=>exact ⟨j+1,_,by go_num,hlj,HPB6,by rw [HEV.out];exact HE6,HG6⟩
           case measure=>simp [RowKit.intOf];omega
          | true =>
           rw [hc] at hci
           have HEV:Hid (evM f (r3.take (j+1))=el++[evOf x]):=qj (by rw [hevs,s1,s2,s3,hc];rfl)
           have hel:el.length≤1000000:=by omega
           clear hevs hc
           have HB10:=qj (qm W9 (.cells (evC (evOf x)).toArray 29))
           have FA:=qj (Fr.alloc [] W9 (.cells (evC (evOf x)).toArray 29))
           have HR10:=qj (HE6.out.same FA.out)
           have HSZ:Hid (w8.heap.size≤(W9.alloc (.cells (evC (evOf x)).toArray 29)).heap.size):=qj (Nat.le_trans HG6.out.size FA.out.size)
           go_wp2_with (first | ((with_reducible refine wpList_of_wp (o:=⟨some 132,_,_,_,_,_⟩) rfl (fun K hK=>?_));apply stopD;case _other=>exact trivial))
           (refine stopD ?_ ?_;rotate_left;exact trivial)
           refine wp_app_g (v:=.slice ea el.length ec) evC_len evC_one (.tmp 128) (.tmp 131) 77 (.agg #[.int .i64 0,.int .i64 0,.int .i64 0]) 24 rfl Tryz.underlying77 infoEvT rfl (by decide) (by decide) rfl HR10.out W9.heap.size 1 (evOf x) 29 rfl HB10.out hel HSZ.out (fun ga cap3 W11 r11 f11 o11=>hK _ _ ?_)
           have hn:W6.heap.size∉(Value.slice ea el.length ec).ownBlock.toList:=fun hm=>by
            have:=HR10.out.young _ (by simpa using hm);have:=HZ8.out;omega
           have HPB11:=qj (f11.keep (FA.out.keep HPB6.out (by simp)) hn)
           have HG11:=qj ((HG6.out.trans (FA.out.mono (by simp))).step f11 (fun x hx=>.inr (HR10.out.young x (by simpa using hx))))
           have HR11:=qj r11
           clear hK K r11 f11 o11 hn HR10 HB10 FA HPB6 HG6 HE6 c7 c8 c10 c12 c13 c14 d7 d8 d10 y6
           have y6:W11.cell? ⟨W6.heap.size,6,none⟩=some (.slice ea el.length ec):=qd HPB11.out 6
           have y7:=ql HPB11.out 6
           go_wp2_with fail
           go_roundw
           case rel=>exact ⟨j+1,_,by go_num,hlj,qj (qs (i:=6) _ HPB11.out),qj (by rw [HEV.out];exact HR11.out.fr (Fr.setCell (fp:=[W6.heap.size]) (p:=⟨W6.heap.size,6,none⟩) _ _ (by simp)) (fun g hg hm=>by simp at hm;have:=HR11.out.young g hg;have:=HZ8.out;omega)),qj (HG11.out.trans (Fr.setCell (fp:=[W6.heap.size]) (p:=⟨W6.heap.size,6,none⟩) _ _ (by simp)))⟩
           case measure=>simp [RowKit.intOf];omega
      ·obtain rfl:j=r3.length:=by omega
       simp only [List.take_length] at HE
       have HC9:=qj (HG.out.keep HC8.out (by simp;have:=HZ7.out;have:=HF7.out.size;have:=HN5.out;omega))
       have HP9:=qj (HP6.out.fr ((FA.out.mono (by simp)).trans HG.out) (fun x hx=>.inr (by simp at hx;omega)))
       have HF9:=qj ((HF8.out).step HG.out (fun x hx=>.inr (by simp at hx;have:=HZ7.out;omega)))
       have HE9:=qj (show RyG evC 29 3 w7 wr ev (evM f r3) from ⟨HE.out.row,fun g hg=>by have:=HE.out.young g hg;have:=HF8.out.size;omega⟩)
       have HEA:Hid (∀ g,ev.ownBlock=some g→pv.ownBlock≠some g):=qj fun g hg hp=>by
        have h1:=HE.out.young g hg
        have h2:=HP6.out.row.lt g hp
        have:=HZ8.out;omega
       have HPB9:=HPB
       obtain ⟨ea,ec,rfl⟩:=HE9.out.val
       obtain ⟨pa,pc,rfl⟩:=HP9.out.row.val
       have hplen:ps.length=(portsM r3 (r2.take k)).length:=by rw [← HQ.out,List.length_map]
       have HPL:=qj hplen
       clear HE HC8 HP6 HF8 HG HPB FA hplen HN8 HW3
       have y6:wr.cell? ⟨w4.heap.size,7,none⟩=some (.slice pa ps.length pc):=qd HC9.out 7
       have hci:decide ((ps.length:Int) < 8)=decide (ps.length < 8):=by rw [decide_eq_decide];omega
       cases hc:decide (ps.length < 8) with
       | false =>
        rw [hc] at hci
        have HQ9:Hid (ps.map Pv.p=portsM r3 (r2.take (k+1))):=qj (by
         rw [HPS.out,if_neg (by rw [← HPL.out];simpa using hc)];exact HQ.out)
        clear hc
        go_wp2_with fail
        go_roundw
        case rel=>exact ⟨k+1,_,ps,by go_num,hlt,HC9,HP9,HQ9,HF9⟩
        case measure=>simp [RowKit.intOf];omega
       | true =>
        rw [hc] at hci
        have HQ9:Hid ((ps++[(⟨poOf r3 f,ea,ec⟩:Pv)]).map Pv.p=portsM r3 (r2.take (k+1))):=qj (by
         rw [HPS.out,if_pos (by rw [← HPL.out];simpa using hc),List.map_append,HQ.out];rfl)
        have hpl2:ps.length≤1000000:=by omega
        clear hc
        have p0:wr.cell? ⟨W6.heap.size,0,none⟩=some (.int .i64 f.cn):=qd HPB9.out 0
        have p1:wr.cell? ⟨W6.heap.size,1,none⟩=some (.int .i64 f.cf):=qd HPB9.out 1
        have p2:wr.cell? ⟨W6.heap.size,2,none⟩=some (.int .i64 f.ct):=qd HPB9.out 2
        have p3:wr.cell? ⟨W6.heap.size,3,none⟩=some (.int .i64 f.ch):=qd HPB9.out 3
        have p4:wr.cell? ⟨W6.heap.size,4,none⟩=some (.int .i64 f.ca):=qd HPB9.out 4
        have p5:wr.cell? ⟨W6.heap.size,5,none⟩=some (.bool f.cb):=qd HPB9.out 5
        have p6:wr.cell? ⟨W6.heap.size,6,none⟩=some (.slice ea (evM f r3).length ec):=qd HPB9.out 6
        have HB10:=qj (qm wr (.cells (poX ⟨poOf r3 f,ea,ec⟩).toArray 79))
        have FA:=qj (Fr.alloc [] wr (.cells (poX ⟨poOf r3 f,ea,ec⟩).toArray 79))
        have HP10:=qj (HP9.out.fr FA.out (by simp))
        have HSZ:Hid (w7.heap.size≤(wr.alloc (.cells (poX ⟨poOf r3 f,ea,ec⟩).toArray 79)).heap.size):=qj (Nat.le_trans HF9.out.size FA.out.size)
        go_wp2_with (first | ((with_reducible refine wpList_of_wp (o:=⟨some 143,_,_,_,_,_⟩) rfl (fun K hK=>?_));apply stopD;case _other=>exact trivial))
        (refine stopD ?_ ?_;rotate_left;exact trivial)
        refine wp_app_g (v:=.slice pa ps.length pc) poX_len poX_one (.tmp 140) (.tmp 142) 64 (.agg #[.int .i64 0,.int .i64 0,.int .i64 0,.int .i64 0,.int .i64 0,.bool false,.slice none 0 0]) 72 rfl Tryz.underlying64 infoPoT rfl (by decide) (by decide) rfl HP10.out.row wr.heap.size 1 (⟨poOf r3 f,ea,ec⟩:Pv) 79 rfl HB10.out hpl2 HSZ.out (fun ga cap3 W11 r11 f11 o11=>hK _ _ ?_)
        have HP11:=qj (HP10.out.app r11 f11 o11 (HE9.out.same FA.out) HEA.out)
        have hcn:w4.heap.size < w7.heap.size:=by have:=HF7.out.size;have:=HN5.out;omega
        have hn:w4.heap.size∉(Value.slice pa ps.length pc).ownBlock.toList:=fun hm=>by
         have:=HP10.out.row.young _ (by simpa using hm);omega
        have HC11:=qj (f11.keep (FA.out.keep HC9.out (by simp)) hn)
        have HF11:=qj ((HF9.out.trans (FA.out.mono (by simp))).step f11 (fun x hx=>.inr (HP10.out.row.young x (by simpa using hx))))
        clear hK K r11 f11 o11 hn HP10 HB10 FA HC9 HF9 HP9 p0 p1 p2 p3 p4 p5 p6 y6
        have y6:W11.cell? ⟨w4.heap.size,7,none⟩=some (.slice pa ps.length pc):=qd HC11.out 7
        have y7:=ql HC11.out 7
        go_wp2_with fail
        go_roundw
        case rel=>exact ⟨k+1,_,_,by go_num,hlt,qj (qs (i:=7) _ HC11.out),qj (HP11.out.fr (Fr.setCell (fp:=[w4.heap.size]) (p:=⟨w4.heap.size,7,none⟩) _ _ (by simp)) (fun x hx=>.inl (by simp at hx;omega))),HQ9,qj (HF11.out.trans (Fr.setCell (fp:=[w4.heap.size]) (p:=⟨w4.heap.size,7,none⟩) _ _ (by simp)))⟩
        case measure=>simp [RowKit.intOf];omega
    ·obtain rfl:k=r2.length:=by omega
     simp only [List.take_length] at HQ
     have hb6:=HZ6.out
     have hb5:=HN5.out
     have hb7:=HF7.out.size
     have HT:=qj (HF.out.keep (HF7.out.keep (HA6.out.keep HT5.out (by simp)) (by simp;omega)) (by simp;omega))
     have HL:=qj (HR.out.fr HF.out (fun g hg hm=>by simp at hm;have:=HRo.out g hg;omega))
     obtain ⟨la,lc,rfl⟩:=HL.out.val
     obtain ⟨pa,pc,rfl⟩:=HP.out.row.val
     have y0:wr.cell? ⟨w4.heap.size,0,none⟩=some (.int .i64 num):=qd HC.out 0
     have y1:wr.cell? ⟨w4.heap.size,1,none⟩=some (.int .i64 first):=qd HC.out 1
     have y2:wr.cell? ⟨w4.heap.size,2,none⟩=some (.int .i64 ra):=qd HC.out 2
     have y3:wr.cell? ⟨w4.heap.size,3,none⟩=some (.int .i64 rc):=qd HC.out 3
     have y4:wr.cell? ⟨w4.heap.size,4,none⟩=some (.int .i64 rs):=qd HC.out 4
     have y5:wr.cell? ⟨w4.heap.size,5,none⟩=some (.int .i64 rr):=qd HC.out 5
     have y6:wr.cell? ⟨w4.heap.size,6,none⟩=some (.slice la (lifeM r1).2.length lc):=qd HC.out 6
     have y7:wr.cell? ⟨w4.heap.size,7,none⟩=some (.slice pa ps.length pc):=qd HC.out 7
     have HDe:Hid (deriveM ⟨ow,bl,ra,rc,rs,rr,kl⟩ l num first=⟨num,first,ra,rc,rs,rr,(lifeM r1).2,portsM r3 r2⟩):=qj (by unfold deriveM;rw [HRR1.out,HRR2.out.1,HRR2.out.2])
     have HFF:Hid (Fr [] w wr):=qj ((((HF5.out.trans HA6.out).step HF7.out (fun x hx=>.inr (by
      have h1:=HF5.out.size
      simp at hx;omega))).step HF.out (fun x hx=>.inr (by
      simp at hx;omega))))
     have hws:w.heap.size+1 < w4.heap.size:=hlt4
     clear HC HR HF HF7 HA6 HT5 HK5 HK6 HK7 HB7 HW2 HO2 HO3 HV3
     go_wp2_with (first | ((with_reducible refine wpList_of_wp (o:=⟨none,.store _ _ _,_,_,_,_⟩) rfl (fun K hK=>?_));apply stopD;case _other=>exact trivial))
     (refine stopD ?_ ?_;rotate_left;exact trivial)
     refine wp_sub 66 66 (.tmp 6) (.tmp 146) (w.heap.size+1) 0 (chC 0 0 0 0 0 0 nilS nilS) (chC num first ra rc rs rr (.slice la (lifeM r1).2.length lc) (.slice pa ps.length pc)) rfl rfl rfl infoCh HT.out (by simp) (chC_one _ _ _ _ _ _ _ _ _ _ _ _) rfl (fun W' q9 f9=>hK _ _ ?_)
     have HT9:Hid (W'.heap[w.heap.size+1]?=some (.cells (chC num first ra rc rs rr (.slice la (lifeM r1).2.length lc) (.slice pa ps.length pc)).toArray 66 (0,0))):=qj q9
     have HL9:=qj (HL.out.fr f9 (fun g hg hm=>by simp at hm;have:=HL.out.young g hg;omega))
     have HP9:=qj (HP.out.fr f9 (fun x hx=>.inl (by simp at hx;omega)))
     have HF9:=qj (HFF.out.step f9 (fun x hx=>.inr (by simp at hx;omega)))
     have hwz:w.heap.size≤w6.heap.size∧w.heap.size≤w7.heap.size:=by omega
     clear hK K q9 f9 HL HP HFF HT y0 y1 y2 y3 y4 y5 y6 y7
     go_wp2_with fail
     refine bodyPost_ret (de_res (w.heap.size+1) num first ra rc rs rr _ _ 0 HT9.out rfl rfl) rfl ?_
     refine ⟨.slice la (lifeM r1).2.length lc,.slice pa ps.length pc,?_,⟨ps,?_⟩,HF9.out⟩
     ·rw [HDe.out]
     ·rw [HDe.out]
      exact ⟨⟨HL9.out.row,fun g hg=>by have:=HL9.out.young g hg;omega⟩,⟨⟨HP9.out.row.row,fun g hg=>by have:=HP9.out.row.young g hg;omega⟩,fun x hx=>⟨(HP9.out.evs x hx).row,fun g hg=>by have:=(HP9.out.evs x hx).young g hg;omega⟩,HP9.out.apart⟩,HQ.out⟩
end Go.Proofs.YtledkokhghjfmaaGreatDoor
