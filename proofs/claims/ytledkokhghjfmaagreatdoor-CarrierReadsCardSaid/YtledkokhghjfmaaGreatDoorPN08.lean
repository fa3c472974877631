/-
  claim.Timeline, of a valid claim without void events.
-/
import Derived.Test.YtledkokhghjfmaaGreatDoorPN07
import Derived.Test.YtledkokhghjfmaaGreatDoorPN02
import Derived.Maps.OwnIn
import Derived.Test.YtledkokhghjfmaaGreatDoorPN05
namespace Go.Proofs.YtledkokhghjfmaaGreatDoor
section
open Go.RowKit Go.Lib
attribute [local go_sem] Oper.semAt_some
def cstC (r:Rl) (x:Int × Int):List Value:=[.int .i64 x.1,.int .i64 x.2,.int .i64 (nxS r x)]
theorem infoCst:(Tryz.prog.info? 288).map (fun i=>(i.zero,i.size,i.bytes))=some (some (.agg #[.int .i64 0,.int .i64 0,.int .i64 0]),3,24):=by kernel_rfl
theorem cstC_one (r:Rl) (x:Int × Int):∀ v,v∈cstC r x→v.oneCell'=true:=by
 intro v hv
 simp only [cstC,List.mem_cons,List.not_mem_nil,or_false] at hv
 rcases hv with rfl | rfl | rfl <;> rfl
def ClI (r:Rl) (w:World) (S:List Nat) (pre:List (Int × Int)) (W:World):Prop :=
 ∃ v,W.heap[w.heap.size]?=some (.cells #[v] 284 (0,0))∧RyG (cstC r) 288 3 w W v pre∧S=w.heap.size :: v.ownBlock.toList∧(∀ g,v.ownBlock=some g→w.heap.size < g)∧Fr [] w W
theorem clI_free (r:Rl) (w:World) (B:Nat) (hB:w.heap.size≤B):FreeU B (ClI r w):=by
 rintro S s X Y fp ⟨v,h1,h2,rfl,h3,h4⟩ hf hF
 exact ⟨v,hf.keep h1 (fun hm=>(hF _ hm).2 (by simp)),h2.fr hf (fun g hg hm=>(hF g hm).2 (by simp [hg])),rfl,h3,h4.step hf (fun k hk=>.inr (by have:=(hF k hk).1;omega))⟩
def ClA (r:Rl) (w:World) (g:Nat) (lb:Array Value) (x:Int × Int) (a:Act) (W:World):Prop:=∃ B,a={ tmps:=#[.slice none 0 0,.func (.func g) #[] lb,.pointer (some ⟨w.heap.size,0,none⟩),undef,.slice none 0 0,.pointer (some ⟨B,0,none⟩),.func (.func g) #[] lb,cstV r x,undef,undef,undef,undef,undef],defers:=[] }∧W.heap[B]?=some (.cells (cstC r x).toArray 288 (0,0))
set_option maxRecDepth 100000 in
set_option maxHeartbeats 2000000 in
theorem appendCs_in (r:Rl) (g:Nat) (lb:Array Value) (eg:∀ args w,(callFunc g args).run Tryz.prog w=.ok (.enter g args) w) (R:List Nat) (zs:List (Int × Int)) (hlen:zs.length≤1000) (w:World) (hR:∀ k,k∈R→k < w.heap.size)
  (hseq:∀ W,Fr [] w W→SeqU 2 g lb (fun x:Int × Int=>#[cstV r x]) R (·<+: zs) (·=zs) W) :
  CallsIn Fence.wide 3 Tryz.prog 212 #[.slice none 0 0,.func (.func g) #[] lb] w fun e W'=>∃ v,e=.returned v∧RyG (cstC r) 288 3 w W' v zs∧Fr [] w W':=by
 obtain ⟨i0,hi,hz0,hz1,hz2⟩:=info_parts infoCst
 refine callsIn_of_wp_marks Tryz.func212 rfl trivial ?_ rfl
 simp only [Tryz.ntmps212,List.size_toArray,List.length_cons,List.length_nil,Nat.reduceAdd,Nat.reduceSub,Array.replicate_succ,Array.replicate_zero,List.push_toArray,List.append_toArray,List.nil_append,List.cons_append]
 gi_wp2
 have F0:=Fr.alloc [] w (.cells #[.slice none 0 0] 284)
 have B0:=qm w (.cells #[.slice none 0 0] 284)
 have hz:(w.alloc (.cells #[.slice none 0 0] 284)).heap.size=w.heap.size+1:=World.size_alloc _ _
 generalize w.alloc (.cells #[.slice none 0 0] 284)=w1 at *
 refine range_u (n:=3) (by omega) (gf:=g) (lb:=lb) rfl eg [w.heap.size] R (·<+: zs) (·=zs) (fun k hk=>by simp at hk;subst hk;exact ⟨by omega,fun hm=>by have:=hR _ hm;omega⟩) (fun W hf=>hseq W (F0.trans hf)) (fun _=>rfl)
  (ClI r w) (fun _ _ _=>False) (clI_free r w _ (by omega)) (fun _ _ _ _ _ h _ _=>h) ⟨_,B0,RyG.nil _ _,rfl,(fun g hg=>by cases hg),F0⟩
  (ClA r w g lb) ?hAx ?assign ?body ?done ?stop
 case hAx =>
  rintro x a' W l o o' ⟨B,h1,h2⟩ ho hc
  exact ⟨B,h1,(fr_put _ _ _).keep h2 (fun hm=>by simp at hm;subst hm;rw [h2] at ho;cases ho;cases hc)⟩
 case assign =>
  rintro l S pre ⟨xs,xa⟩ W K hI hK
  clear hI
  dsimp only [cstV]
  generalize hnx:nxS r (xs,xa)=nx
  have HNX:=qj hnx
  clear hnx
  gi_wp2
  exact hK _ _ (Fr.alloc _ _ _) ⟨W.heap.size,by simp only [cstV,HNX.out],by simp only [cstC,HNX.out];exact qm _ _⟩
 case body =>
  rintro l S pre ⟨xs,xa⟩ a' W ⟨v,hv,hrow,rfl,hyv,hB⟩ hSl ⟨B,rfl,hb⟩ hp hs
  have hlt:pre.length < 1000:=by
   have:=hp.length_le
   rw [List.length_append] at this
   simp only [List.length_cons,List.length_nil] at this
   omega
  have HRW:=qj hrow;have HBX:=qj hv;have HYV:=qj hyv;have HFW:=qj hB;have HSl:=qj hSl
  have hc:W.cell? ⟨w.heap.size,0,none⟩=some v:=qd hv 0
  simp only [cstC] at hb
  dsimp only [cstV]
  obtain ⟨nx,hnx⟩:∃ nx,nxS r (xs,xa)=nx:=⟨_,rfl⟩
  simp only [hnx] at hb ⊢
  have HNX:=qj hnx
  have x0:W.cell? ⟨B,0,none⟩=some (.int .i64 xs):=qd hb 0
  have x1:W.cell? ⟨B,1,none⟩=some (.int .i64 xa):=qd hb 1
  have x2:W.cell? ⟨B,2,none⟩=some (.int .i64 nx):=qd hb 2
  have hbs:=hB.size
  clear hb hnx hrow hv hyv hB hSl hp
  have FA:=qj (Fr.alloc [] W (.cells #[.int .i64 xs,.int .i64 xa,.int .i64 nx] 288))
  gi_wp2_with (gi_at_builtin;refine wpListIn_append_own_at _ rfl _ _ 284 rfl 0 288 i0 _ 3 24 Tryz.underlying284 hi hz0 hz1 hz2 rfl (by decide) v pre.length _ rfl (HRW.out.same FA.out).row ⟨W.heap.size,0,none⟩ 1 1 [.int .i64 xs,.int .i64 xa,.int .i64 nx] rfl rfl (fun j u hu=>by rw [add_at,qd (qm _ _)];simpa using hu) (by simp [Value.oneCell']) (by simp only [maxLen];omega) (by omega) (by omega) ?_;intro v' w5 hown hgrow _ hob;have F5:=qj (Fr.grown (fp:=v.ownBlock.toList) hgrow (fun k hk=>by simp [hk]));have HO:=qj hown;have HOB:=qj hob;have hb5:=F5.out.keep (FA.out.keep HBX.out (by simp)) (by simp;intro q;have:=HYV.out _ q;omega);have hc5:w5.cell? ⟨w.heap.size,0,none⟩=some v:=qd hb5 0;have hg5:=ql hb5 0;have HB5:=qj hb5;clear hown hgrow hob hb5;obtain ⟨g',cap',hv'⟩:=ownsRow_succ HO.out;subst hv')
  have hbk:=qs (i:=0) (.slice (some ⟨g',0,none⟩) (pre.length+1) cap') HB5.out
  have FS:Fr [w.heap.size] w5 (w5.setCell ⟨w.heap.size,0,none⟩ (.slice (some ⟨g',0,none⟩) (pre.length+1) cap')):=Fr.setCell _ _ (by simp)
  have hw5:W.heap.size+1≤w5.heap.size:=by have:=F5.out.size;simp at this;omega
  have hgl:g' < w5.heap.size:=(HO.out.lt g' rfl).2
  have hgw:w.heap.size < g'∧(v.ownBlock=some g'∨W.heap.size≤g'):=by
   rcases HOB.out with h | h
   ·exact ⟨HYV.out g' h.symm,.inl h.symm⟩
   ·simp only [Value.ownBlock,Option.some.injEq,World.size_alloc] at h
    exact ⟨by omega,.inr (by omega)⟩
  have FT:Fr (w.heap.size :: v.ownBlock.toList) W (w5.setCell ⟨w.heap.size,0,none⟩ (.slice (some ⟨g',0,none⟩) (pre.length+1) cap')):=((FA.out.mono (by simp)).trans (F5.out.mono (fun i hi=>List.mem_cons_of_mem _ hi))).trans (FS.mono (by simp))
  refine ⟨w.heap.size :: [g'],FT,⟨_,hbk,⟨?_,fun g hg=>by cases hg;exact Nat.le_of_lt hgw.1⟩,rfl,fun g hg=>by cases hg;exact hgw.1,HFW.out.step FT (fun k hk=>?_)⟩,fun k hk=>?_⟩
  ·have h5:=row_fr HO.out FS (fun g hg=>by cases hg;simp;omega)
   simpa [cstC,HNX.out] using h5
  ·simp only [List.mem_cons] at hk
   rcases hk with rfl | hk
   ·exact .inr (Nat.le_refl _)
   ·exact .inr (Nat.le_of_lt (HYV.out k (by simpa using hk)))
  ·simp only [List.mem_cons,List.not_mem_nil,or_false] at hk
   rcases hk with rfl | rfl
   ·exact ⟨.inl (by simp),by have:=FS.size;omega⟩
   ·exact ⟨hgw.2.imp (fun h=>by simp [h]) id,by have:=FS.size;omega⟩
 case done =>
  rintro D S ys W hD hDS rfl ⟨v,hv,hrow,rfl,hyv,hB⟩ hK
  have hc:=qd hv 0
  have HRW:=qj hrow;have HB:=qj hB;have HK:=qj hK;have HDS:=qj hDS
  clear hv hrow hyv hB hK hDS
  gi_wp2
  refine ⟨by simp,.inl ⟨_,_,rfl,run_takeDeferred HK.out,?_⟩⟩
  exact ⟨_,results_tmp rfl _ _ _,v,rfl,HRW.out.fr (fr_put _ _ _) (fun g hg hm=>HDS.out (by simp at hm;subst hm;simp [hg])),HB.out.step (fr_put _ _ _) (fun k hk=>.inr (by simp at hk;omega))⟩
 case stop =>
  rintro D c pre W _ _ h _
  exact h.elim
set_option maxRecDepth 100000 in
theorem collectCs_c (r:Rl) (g:Nat) (lb:Array Value) (eg:∀ args w,(callFunc g args).run Tryz.prog w=.ok (.enter g args) w) (R:List Nat) (zs:List (Int × Int)) (hlen:zs.length≤1000) (w:World) (hR:∀ k,k∈R→k < w.heap.size)
  (hseq:∀ W,Fr [] w W→SeqU 2 g lb (fun x:Int × Int=>#[cstV r x]) R (·<+: zs) (·=zs) W) :
  Calls Tryz.prog 197 #[.func (.func g) #[] lb] w fun e W'=>∃ v,e=.returned v∧RyG (cstC r) 288 3 w W' v zs∧Fr [] w W':=by
 have CA:=qj ((callsIn_wide (n:=3)).1 (appendCs_in r g lb eg R zs hlen w hR hseq))
 clear hseq hR hlen
 go_enter Tryz.func197,Tryz.ntmps197
 go_wp2_with fail
 refine CA.out.mono ?_
 rintro e W' ⟨v,rfl,hr,hb⟩
 have HY:=qj (And.intro hr hb)
 clear hr hb CA
 go_wp2_with fail
 go_ret
 exact ⟨v,rfl,HY.out⟩
theorem alo_len (r:Rl) (u:Int):∀ (k:Nat) (x:Int × Int),(alo r u k x).length≤k
 | 0,_=>by simp [alo]
 | k+1,x=>by
  unfold alo
  split
  ·simp only [List.length_cons];have:=alo_len r u k (duS x.1,nxS r x);omega
  ·simp
theorem stsG_len (r:Rl) (b:Bool):∀ (l:List Ev) (x:Int × Int),(stsG r b x l).length≤4*l.length+3
 | [],x=>by unfold stsG;have:=alo_len r 4611686018427387904 3 x;simp;omega
 | e :: l,x=>by
  rw [stsG_cons,List.length_append,List.length_cons,List.length_cons]
  have h1:=alo_len r e.at_ 3 x
  have h2:=stsG_len r b l ((aftM b e.kind e.why (lstS x (alo r e.at_ 3 x)).1).1,e.at_)
  omega
set_option maxRecDepth 100000 in
set_option maxHeartbeats 2000000 in
theorem CLTimeline_c (ra rc rs rr:Int) (n f t h k:Int) (b:Bool) (v:Value) (l:List Ev) (w:World) (hs:Sl w v l.length (l.flatMap evC)) (hy:∀ g,v.ownBlock=some g→g < w.heap.size) (hv:(rulB ra rc rs rr && cmB n f t h k && decide (l.length≤20) && evsGo k l)=true) (hok:stsOk ⟨ra,rc,rs,rr⟩ b (1,k) l) :
  Calls Tryz.prog 182 #[.agg #[.int .i64 ra,.int .i64 rc,.int .i64 rs,.int .i64 rr],cmV n f t h k b,v] w fun e w'=>∃ u,e=.returned (.tuple #[u,.int .i64 0])∧RyG (cstC ⟨ra,rc,rs,rr⟩) 288 3 w w' u (stsM ⟨ra,rc,rs,rr⟩ b k l)∧Fr [] w w':=by
 obtain ⟨ad,cap,rfl⟩:=hs.val
 have hlen:l.length≤20:=by simp only [Bool.and_eq_true,decide_eq_true_eq] at hv;exact hv.1.2
 have hbd:rulB ra rc rs rr=true∧cmB n f t h k=true:=by simp only [Bool.and_eq_true] at hv;exact hv.1.1
 have hr:Rl.ok ⟨ra,rc,rs,rr⟩:=by
  have:=hbd.1
  simp only [rulB,List.all_cons,List.all_nil,Bool.and_eq_true,inB_iff,and_true] at this
  obtain ⟨h1,h2,h3,h4⟩:=this
  exact ⟨h1,h3,h2,h4⟩
 have hk:0≤k∧k≤20000000:=by
  have:=hbd.2
  simp only [cmB,Bool.and_eq_true,inB_iff] at this
  omega
 have CO:=qj fun W (hf:Fr [] w W)=>clOpen_c ra rc rs rr n f t h k b (.slice ad l.length cap) l W (hs.same hf) (by omega) hv
 have CC:=qj fun (W:World) (mb mx lx db eb:Nat) (hf:Fr [] w W) (hm:McIn W mb ⟨ra,rc,rs,rr⟩ n f t h k b db eb) (h1:W.heap[mx]?=some (.cells #[.pointer (some ⟨mb,0,none⟩)] 318 (0,0))) (h2:W.heap[lx]?=some (.cells #[.slice ad l.length cap] 77 (0,0))) =>
  collectCs_c ⟨ra,rc,rs,rr⟩ 213 #[.pointer (some ⟨mx,0,none⟩),.pointer (some ⟨lx,0,none⟩)] (fun _ _=>rfl) ([mb,db,eb,mx,lx]++(Value.slice ad l.length cap).ownBlock.toList) (stsM ⟨ra,rc,rs,rr⟩ b k l) (by
   have:=stsG_len ⟨ra,rc,rs,rr⟩ b l (1,k)
   unfold stsM;simp only [List.length_cons];omega) W (fun i hi=>by
   have h3:=hm.lt;have h4:=blk_lt h1;have h5:=blk_lt h2
   simp only [List.mem_append,List.mem_cons,List.not_mem_nil,or_false] at hi
   rcases hi with (rfl | rfl | rfl | rfl | rfl) | hi
   ·exact h3.1
   ·exact h3.2.1
   ·exact h3.2.2
   ·exact h4
   ·exact h5
   ·exact Nat.lt_of_lt_of_le (hy i (by simpa using hi)) hf.size) (fun V hV=>sts1_seq 2 mb mx lx db eb ⟨ra,rc,rs,rr⟩ n f t h k b hr hk ad cap l hlen hok V (hm.same hV) (hV.keep h1 (by simp)) (hV.keep h2 (by simp)) (hs.same (hf.trans hV)) (fun g hg=>Nat.lt_of_lt_of_le (hy g hg) (hf.trans hV).size))
 have HF:=qj (And.intro (two_more w (.cells #[.int .i64 ra,.int .i64 rc,.int .i64 rs,.int .i64 rr] 46) (.cells #[.int .i64 n,.int .i64 f,.int .i64 t,.int .i64 h,.int .i64 k,.bool b] 27)).1 True.intro)
 generalize stsM ⟨ra,rc,rs,rr⟩ b k l=Z at *
 generalize l.length=ln at *
 clear hs hy hv hok hbd hr hk
 go_enter Tryz.func182,Tryz.ntmps182
 go_wp2_with fail
 refine (CO.out _ HF.out.1).mono ?_
 rintro e w3 ⟨mb,db,eb,rfl,hm,f3,_⟩
 have HF3:=qj (HF.out.1.trans f3);have HM3:=qj hm
 clear hm f3 CO HF
 go_wp2_with fail
 refine (clStatuses_c mb ad ln cap w3).mono ?_
 rintro e w4 ⟨rfl,h4⟩
 have A2:=alloc2m w3 (.cells #[.pointer (some ⟨mb,0,none⟩)] 318) (.cells #[.slice ad ln cap] 77)
 rw [← h4] at A2
 obtain ⟨b0,b1,f4,hz4⟩:=A2
 have CC2:=qj (CC.out w4 mb w3.heap.size (w3.heap.size+1) db eb (HF3.out.trans f4) (HM3.out.same f4) b0 b1)
 have HF4:=qj (HF3.out.trans f4)
 clear CC b0 b1 f4 hz4 h4 HM3
 go_wp2_with fail
 refine CC2.out.mono ?_
 rintro e w5 ⟨u,rfl,hr,f5⟩
 have HY:Hid (RyG (cstC ⟨ra,rc,rs,rr⟩) 288 3 w w5 u Z):=qj ⟨hr.row,fun g hg=>Nat.le_trans HF4.out.size (hr.young g hg)⟩
 have HF5:=qj (HF4.out.trans f5)
 clear CC2 hr f5
 go_wp2_with fail
 go_ret2
 exact ⟨_,rfl,HY.out,HF5.out⟩
end
section
open Go.RowKit Go.Lib
structure Hp where
 at_:Int
 port:Int
 back:Bool
def hpC (x:Hp):List Value:=[.int .i64 x.at_,.int .i64 x.port,.bool x.back]
theorem hpC_one (x:Hp):∀ v,v∈hpC x→v.oneCell'=true:=by
 intro v hv
 simp only [hpC,List.mem_cons,List.not_mem_nil,or_false] at hv
 rcases hv with rfl | rfl | rfl <;> rfl
theorem infoHp:(Tryz.prog.info? 256).map (fun i=>(i.zero,i.size,i.bytes))=some (some (.agg #[.int .i64 0,.int .i64 0,.bool false]),3,24):=by kernel_rfl
def hapT (i:Int):List (Int × Int)→List Hp
 | []=>[]
 | s :: l=>(if s.1=4∨s.1=8 then [⟨s.2,i,decide (s.1=8)⟩] else [])++hapT i l
def hapP (r:Rl):Int→List Po→List Hp
 | _,[]=>[]
 | i,p :: l=>hapT i (stsM r p.b p.a p.evs)++hapP r (i+1) l
abbrev Ch.rl (c:Ch):Rl:=⟨c.ra,c.rc,c.rs,c.rr⟩
set_option maxRecDepth 100000 in
theorem insHp_c (v cf:Value) (n:Nat) (hn:n≤1) (w:World):Calls Tryz.prog 217 #[v,.int .i64 0,.int .i64 n,cf] w fun e w'=>(∃ u,e=.returned u)∧w=w':=by
 have h1:¬ (1:Int) < n:=by omega
 go_enter Tryz.func217,Tryz.ntmps217
 go_wp2_with fail
 go_loopw [8] (fun s wr=>s=.int .i64 1∧w=wr) (fun _ _=>0)
 case atStart=>exact ⟨rfl,rfl⟩
 case round =>
  obtain ⟨rfl,rfl⟩:=hrel
  go_wp2_with fail
  go_end0
  exact ⟨⟨_,rfl⟩,rfl⟩
set_option maxRecDepth 100000 in
theorem stbHp_c (v cf:Value) (n:Nat) (hn:n≤1) (w:World):Calls Tryz.prog 199 #[v,.int .i64 n,cf] w fun e w'=>(∃ u,e=.returned u)∧w=w':=by
 have h1:¬ (20:Int)≤n:=by omega
 have h2:¬ (20:Int) < n:=by omega
 go_enter Tryz.func199,Tryz.ntmps199
 go_wp2_with fail
 go_loopw [7,8] (fun t u wr=>t=.int .i64 0∧u=.int .i64 20∧w=wr) (fun _ _ _=>0)
 case atStart=>exact ⟨rfl,rfl,rfl⟩
 case round =>
  obtain ⟨rfl,rfl,rfl⟩:=hrel
  go_wp2_with fail
  refine (insHp_c v cf n hn w).mono ?_
  rintro e w' ⟨⟨u,rfl⟩,rfl⟩
  go_wp2_with fail
  go_loopw [6] (fun s wr=>s=.int .i64 20∧w=wr) (fun _ _=>0)
  case atStart=>exact ⟨rfl,rfl⟩
  case round =>
   obtain ⟨rfl,rfl⟩:=hrel
   go_wp2_with fail
   go_end0
   exact ⟨⟨_,rfl⟩,rfl⟩
set_option maxRecDepth 100000 in
theorem sortHp_c (a:Option Addr) (cap:Nat) (cf:Value) (n:Nat) (hn:n≤1) (w:World):Calls Tryz.prog 183 #[.slice a n cap,cf] w fun e w'=>(∃ u,e=.returned u)∧w=w':=by
 go_enter Tryz.func183,Tryz.ntmps183
 go_wp2_with fail
 refine (stbHp_c _ cf n hn w).mono ?_
 rintro e w' ⟨⟨u,rfl⟩,rfl⟩
 go_wp2_with fail
 go_end0
 exact ⟨⟨_,rfl⟩,rfl⟩
end
section
open Go.RowKit Go.Shelf Go.Lib
theorem hpC_len (x:Hp):(hpC x).length=3:=rfl
set_option maxRecDepth 100000 in
set_option maxHeartbeats 8000000 in
theorem happ_c (c:Ch) (lv pv:Value) (ps:List Pv) (w0 w:World) (hin:ChIn w0 w c lv pv ps) (hok:ChOk c) (hst:∀ p,p∈c.ports→stsOk c.rl p.b (1,p.a) p.evs) (hh:(hapP c.rl 0 c.ports).length≤1) :
  Calls Tryz.prog 157 #[chV c lv pv] w fun e w'=>∃ v,e=.returned v∧RyG hpC 256 3 w w' v (hapP c.rl 0 c.ports)∧Fr [] w w':=by
 obtain ⟨la,lc,rfl⟩:=hin.life.val
 obtain ⟨pa,pc,rfl⟩:=hin.ports.row.val
 have hpl:ps.length=c.ports.length:=by rw [← hin.eq,List.length_map]
 have hp8:ps.length≤8:=by have:=hok.len;omega
 have HPS:=qj fun W (hf:Fr [] w W)=>hin.ports.row.sl.same hf
 have HEV:=qj fun x (hx:x∈ps) W (hf:Fr [] w W)=>(hin.ports.evs x hx).sl.same hf
 have HEG:=qj fun x (hx:x∈ps) g (hg:x.v.ownBlock=some g)=>(hin.ports.evs x hx).lt g hg
 have HPO:Hid (∀ i (h:i < ps.length),ps[i].p∈c.ports):=qj fun i h=>by
  rw [← hin.eq];exact List.mem_map.2 ⟨_,List.getElem_mem h,rfl⟩
 have HPV:Hid (∀ i (h:i < ps.length),(rulB c.ra c.rc c.rs c.rr && cmB ps[i].p.n ps[i].p.f ps[i].p.t ps[i].p.h ps[i].p.a && decide (ps[i].p.evs.length≤20) && evsGo ps[i].p.a ps[i].p.evs)=true∧stsOk c.rl ps[i].p.b (1,ps[i].p.a) ps[i].p.evs):=qj fun i h=>⟨(hok.ports _ (HPO.out i h)).2,hst _ (HPO.out i h)⟩
 have HDR:Hid (∀ i (h:i < ps.length),c.ports.drop i=ps[i].p :: c.ports.drop (i+1)):=qj fun i h=>by
  rw [List.drop_eq_getElem_cons (by omega)]
  congr 1
  have:c.ports[i]'(by omega)=(ps.map Pv.p)[i]'(by simp;omega):=by simp only [hin.eq]
  rw [this,List.getElem_map]
 have HDE:Hid (c.ports.drop ps.length=[]):=qj (by rw [hpl,List.drop_length])
 obtain ⟨T,hT⟩:∃ T,hapP c.rl 0 c.ports=T:=⟨_,rfl⟩
 have H0:Hid (T=[]++hapP c.rl 0 (c.ports.drop 0)):=qj (by rw [← hT];rfl)
 rw [hT] at hh ⊢
 have HPL:=qj hpl
 clear hin hok hst hT hpl
 obtain ⟨num,first,ra,rc,rs,rr,life,ports⟩:=c
 simp only [Ch.rl] at *
 generalize life.length=nl at *
 have FA:=qj (Fr.alloc [] w (.cells #[.int .i64 num,.int .i64 first,.int .i64 ra,.int .i64 rc,.int .i64 rs,.int .i64 rr,.slice la nl lc,.slice pa ps.length pc] 66))
 have BA:=qj (qm w (.cells #[.int .i64 num,.int .i64 first,.int .i64 ra,.int .i64 rc,.int .i64 rs,.int .i64 rr,.slice la nl lc,.slice pa ps.length pc] 66))
 obtain ⟨w1,hw1⟩:∃ w1,w.alloc (.cells #[.int .i64 num,.int .i64 first,.int .i64 ra,.int .i64 rc,.int .i64 rs,.int .i64 rr,.slice la nl lc,.slice pa ps.length pc] 66)=w1:=⟨_,rfl⟩
 rw [hw1] at FA BA
 have HW:=qj hw1
 clear hw1
 dsimp only [chV]
 go_enter Tryz.func157,Tryz.ntmps157
 go_upto_region 2 with fail
 rw [HW.out]
 clear HW
 have x7:w1.cell? ⟨w.heap.size,7,none⟩=some (.slice pa ps.length pc):=qd BA.out 7
 go_wp2_with fail
 clear x7
 have HRN:=qj (RyG.nil (enc:=hpC) (e:=256) (k:=3) w w1)
 go_loopw [3,13] (fun lv iv wr=>∃ (i:Nat) (m:List Hp),iv=.int .i64 i∧i≤ps.length∧Hid (T=m++hapP ⟨ra,rc,rs,rr⟩ i (ports.drop i))∧Hid (RyG hpC 256 3 w wr lv m)∧Hid (Fr [] w wr)∧Hid (wr.heap[w.heap.size]?=some (.cells (chC num first ra rc rs rr (.slice la nl lc) (.slice pa ps.length pc)).toArray 66 (0,0)))∧Hid (∀ g,lv.ownBlock=some g→g≠w.heap.size)) (fun _ iv _=>ps.length - (RowKit.intOf iv).toNat)
 case atStart=>exact ⟨0,[],rfl,Nat.zero_le _,H0,HRN,FA,BA,qj fun g hg=>by cases hg⟩
 case round =>
  clear H0 HRN FA BA
  obtain ⟨i,m,rfl,hi,HT,HR,HF,HC,HN⟩:=hrel
  by_cases hlt:i < ps.length
  ·obtain ⟨pb,po,ha,hc⟩:=(HPS.out wr HF.out).at_ (by omega)
   have hc':∀ j u,j < 7→(poX ps[i])[j]?=some u→wr.cell? ⟨pb,po+i*7+j,none⟩=some u:=fun j u hj hu=>by
    rw [Nat.add_assoc]
    exact hc _ u (by rw [flat_get (enc:=poX) (k:=7) poX_len _ i hlt j hj];exact hu)
   have e0:=hc' 0 _ (by omega) rfl;have e1:=hc' 1 _ (by omega) rfl;have e2:=hc' 2 _ (by omega) rfl;have e3:=hc' 3 _ (by omega) rfl;have e4:=hc' 4 _ (by omega) rfl;have e5:=hc' 5 _ (by omega) rfl;have e6:=hc' 6 _ (by omega) rfl
   obtain ⟨hv,hso⟩:=HPV.out i hlt
   have CT:=qj fun W (hf:Fr [] w W)=>CLTimeline_c ra rc rs rr ps[i].p.n ps[i].p.f ps[i].p.t ps[i].p.h ps[i].p.a ps[i].p.b ps[i].v ps[i].p.evs W (HEV.out _ (List.getElem_mem hlt) W hf) (fun g hg=>Nat.lt_of_lt_of_le (HEG.out _ (List.getElem_mem hlt) g hg) hf.size) hv hso
   have HT2:Hid (T=m++(hapT i (stsM ⟨ra,rc,rs,rr⟩ ps[i].p.b ps[i].p.a ps[i].p.evs)++hapP ⟨ra,rc,rs,rr⟩ ((i:Int)+1) (ports.drop (i+1)))):=qj (by
    have:=HT.out
    rw [HDR.out i hlt] at this
    exact this)
   have hsl:(stsM ⟨ra,rc,rs,rr⟩ ps[i].p.b ps[i].p.a ps[i].p.evs).length≤1000:=by
    have h1:=stsG_len ⟨ra,rc,rs,rr⟩ ps[i].p.b ps[i].p.evs (1,ps[i].p.a)
    have h2:ps[i].p.evs.length≤20:=by simp only [Bool.and_eq_true,decide_eq_true_eq] at hv;exact hv.1.2
    unfold stsM;simp only [List.length_cons];omega
   clear hc hc' hv hso HT
   simp only [Pv.v] at CT e6
   subst ha
   generalize stsM ⟨ra,rc,rs,rr⟩ ps[i].p.b ps[i].p.a ps[i].p.evs=tl at *
   generalize ps[i].p.n=kn at *
   generalize ps[i].p.a=ka at *
   generalize ps[i].p.f=kf at *
   generalize ps[i].p.t=kt at *
   generalize ps[i].p.h=kh at *
   generalize ps[i].p.b=kb at *
   generalize ps[i].p.evs.length=ke at *
   generalize ps[i].a=kA at *
   generalize ps[i].c=kC at *
   have c2:wr.cell? ⟨w.heap.size,2,none⟩=some (.int .i64 ra):=qd HC.out 2
   have c3:wr.cell? ⟨w.heap.size,3,none⟩=some (.int .i64 rc):=qd HC.out 3
   have c4:wr.cell? ⟨w.heap.size,4,none⟩=some (.int .i64 rs):=qd HC.out 4
   have c5:wr.cell? ⟨w.heap.size,5,none⟩=some (.int .i64 rr):=qd HC.out 5
   have hwl:=blk_lt HC.out
   simp only [Nat.add_zero] at e0
   have FA:=qj (Fr.alloc [] wr (.cells #[.int .i64 kn,.int .i64 kf,.int .i64 kt,.int .i64 kh,.int .i64 ka,.bool kb,.slice kA ke kC] 79))
   go_wp2_with fail
   refine (CT.out _ (HF.out.trans FA.out)).mono ?_
   rintro e w6 ⟨u,rfl,hu,f6⟩
   have F6:=FA.out.trans f6
   have HR6:=qj (HR.out.same F6);have HF6:=qj (HF.out.trans F6);have HC6:=qj (F6.keep HC.out (by simp))
   have HU6:=qj hu.sl
   have HUD:Hid (∀ g,u.ownBlock=some g→u3.ownBlock≠some g∧g < w6.heap.size∧g≠w.heap.size):=qj fun g hg=>by
    have h1:=hu.young g hg
    have h2:=hu.lt g hg
    simp only [World.size_alloc] at h1
    refine ⟨fun hq=>?_,h2,by omega⟩
    have:=HR.out.lt g hq
    omega
   obtain ⟨ua,uc,rfl⟩:=hu.val
   clear hu f6 F6 FA CT HR HF HC e0 e1 e2 e3 e4 e5 e6 c2 c3 c4 c5 hwl
   go_wp2_with fail
   go_loopw [3,30] (fun lv jv wr=>∃ (j:Nat) (m':List Hp),jv=.int .i64 j∧j≤tl.length∧Hid (T=m'++(hapT i (tl.drop j)++hapP ⟨ra,rc,rs,rr⟩ ((i:Int)+1) (ports.drop (i+1))))∧Hid (RyG hpC 256 3 w wr lv m')∧Hid (Fr [] w wr)∧Hid (wr.heap[w.heap.size]?=some (.cells (chC num first ra rc rs rr (.slice la nl lc) (.slice (some ⟨pb,po,none⟩) ps.length pc)).toArray 66 (0,0)))∧Hid (∀ g,lv.ownBlock=some g→g≠w.heap.size)∧Hid (Sl wr (.slice ua tl.length uc) tl.length (tl.flatMap (cstC ⟨ra,rc,rs,rr⟩)))∧Hid (∀ g,(Value.slice ua tl.length uc).ownBlock=some g→lv.ownBlock≠some g∧g < wr.heap.size∧g≠w.heap.size)) (fun _ jv _=>tl.length - (RowKit.intOf jv).toNat)
   case atStart=>exact ⟨0,m,rfl,Nat.zero_le _,HT2,HR6,HF6,HC6,HN,HU6,HUD⟩
   case round =>
    clear HT2 HR6 HF6 HC6 HN HU6 HUD
    obtain ⟨j,m',rfl,hj,HTj,HRj,HFj,HCj,HNj,HUj,HDj⟩:=hrel
    by_cases hjl:j < tl.length
    ·obtain ⟨sb,so,had,hc⟩:=HUj.out.at_ (by omega)
     have hc':∀ k u,k < 3→(cstC ⟨ra,rc,rs,rr⟩ (tl[j]'hjl))[k]?=some u→wr.cell? ⟨sb,so+j*3+k,none⟩=some u:=fun k u hk hu=>by
      rw [Nat.add_assoc]
      exact hc _ u (by rw [flat_get (enc:=cstC ⟨ra,rc,rs,rr⟩) (k:=3) (fun _=>rfl) _ j hjl k hk];exact hu)
     have e0:=hc' 0 _ (by omega) rfl;have e1:=hc' 1 _ (by omega) rfl;have e2:=hc' 2 _ (by omega) rfl
     have HTn:=HTj.out
     rw [List.drop_eq_getElem_cons hjl] at HTn
     have HTn:=qj HTn
     clear hc hc' HTj
     simp only [Nat.add_zero] at e0
     subst had
     generalize tl[j]=st at *
     obtain ⟨s1,s2⟩:=st
     generalize nxS ⟨ra,rc,rs,rr⟩ (s1,s2)=nx at *
     unfold hapT at HTn
     simp only at HTn e0 e1
     have FB:=qj (Fr.alloc [] wr (.cells #[.int .i64 s1,.int .i64 s2,.int .i64 nx] 288))
     have HFV:=qj (HFj.out.trans FB.out);have HCV:=qj (FB.out.keep HCj.out (by simp));have HUV:=qj (HUj.out.same FB.out)
     have hml:m'.length≤1000:=by
      have:=hh
      rw [HTn.out,List.length_append] at this
      omega
     by_cases h4:s1=4
     ·subst h4
      clear HFj HCj HUj
      go_wp2_with (first | ((with_reducible refine wpList_of_wp (o:=⟨some 51,_,_,_,_,_⟩) rfl (fun K hK=>?_));apply stopD;case _other=>exact trivial))
      (refine stopD ?_ ?_;rotate_left;exact trivial)
      have hvz:(wr.alloc (.cells #[.int .i64 4,.int .i64 s2,.int .i64 nx] 288)).heap.size=wr.heap.size+1:=World.size_alloc _ _
      generalize wr.alloc (.cells #[.int .i64 4,.int .i64 s2,.int .i64 nx] 288)=V at *
      have FV:=Fr.alloc [] V (.cells #[.int .i64 s2,.int .i64 i,.bool false] 256)
      have hVz:w.heap.size≤(V.alloc (.cells #[.int .i64 s2,.int .i64 i,.bool false] 256)).heap.size:=by have:=HFV.out.size;have:=FV.size;omega
      have hbn:=qm V (.cells #[.int .i64 s2,.int .i64 i,.bool false] 256)
      rw [hvz] at hbn
      refine wp_app_g (v:=u3) hpC_len hpC_one (.tmp 42) (.tmp 50) 253 (.agg #[.int .i64 0,.int .i64 0,.bool false]) 24 rfl Tryz.underlying253 infoHp rfl (by decide) (by decide) rfl ((HRj.out.same FB.out).same FV) (wr.heap.size+1) 1 ⟨s2,i,false⟩ 256 rfl hbn (by omega) hVz (fun ga cap3 W7 r7 f7 o7=>hK _ _ ?_)
      have HR7:=qj r7
      have HF7:=qj ((HFV.out.trans FV).step f7 (fun k hk=>.inr (HRj.out.young k (by simpa using hk))))
      have HC7:=qj (f7.keep (FV.keep HCV.out (by simp)) (fun hm=>HNj.out _ (by simpa using hm) rfl))
      have HU7:=qj ((HUV.out.same FV).fr f7 (fun g hg hm=>(HDj.out g hg).1 (by simpa using hm)))
      have HN7:Hid (∀ g,(Value.slice ga (m'.length+1) cap3).ownBlock=some g→g≠w.heap.size):=qj fun g hg=>by
       rcases o7 g hg with h | h
       ·exact HNj.out g h
       ·have:=blk_lt HCV.out;have:=FV.size;omega
      have HD7:Hid (∀ g,(Value.slice (some ⟨sb,so,none⟩) tl.length uc).ownBlock=some g→(Value.slice ga (m'.length+1) cap3).ownBlock≠some g∧g < W7.heap.size∧g≠w.heap.size):=qj fun g hg=>by
       obtain ⟨h1,h2,h3⟩:=HDj.out g hg
       have hz1:=FB.out.size;have hz2:=FV.size;have hz3:=f7.size
       refine ⟨fun hq=>?_,by omega,h3⟩
       rcases o7 g hq with h | h
       ·exact h1 h
       ·omega
      clear hK K r7 f7 o7 FV hVz hbn hvz
      go_wp2_with fail
      go_roundw
      case rel=>exact ⟨j+1,m'++[⟨s2,i,false⟩],by go_num,hjl,qj (by rw [HTn.out];simp),HR7,HF7,HC7,HN7,HU7,HD7⟩
      case measure=>simp [RowKit.intOf];omega
     by_cases h8:s1=8
     ·subst h8
      clear HFj HCj HUj h4
      go_wp2_with (first | ((with_reducible refine wpList_of_wp (o:=⟨some 51,_,_,_,_,_⟩) rfl (fun K hK=>?_));apply stopD;case _other=>exact trivial))
      (refine stopD ?_ ?_;rotate_left;exact trivial)
      have hvz:(wr.alloc (.cells #[.int .i64 8,.int .i64 s2,.int .i64 nx] 288)).heap.size=wr.heap.size+1:=World.size_alloc _ _
      generalize wr.alloc (.cells #[.int .i64 8,.int .i64 s2,.int .i64 nx] 288)=V at *
      have FV:=Fr.alloc [] V (.cells #[.int .i64 s2,.int .i64 i,.bool true] 256)
      have hVz:w.heap.size≤(V.alloc (.cells #[.int .i64 s2,.int .i64 i,.bool true] 256)).heap.size:=by have:=HFV.out.size;have:=FV.size;omega
      have hbn:=qm V (.cells #[.int .i64 s2,.int .i64 i,.bool true] 256)
      rw [hvz] at hbn
      refine wp_app_g (v:=u3) hpC_len hpC_one (.tmp 42) (.tmp 50) 253 (.agg #[.int .i64 0,.int .i64 0,.bool false]) 24 rfl Tryz.underlying253 infoHp rfl (by decide) (by decide) rfl ((HRj.out.same FB.out).same FV) (wr.heap.size+1) 1 ⟨s2,i,true⟩ 256 rfl hbn (by omega) hVz (fun ga cap3 W7 r7 f7 o7=>hK _ _ ?_)
      have HR7:=qj r7
      have HF7:=qj ((HFV.out.trans FV).step f7 (fun k hk=>.inr (HRj.out.young k (by simpa using hk))))
      have HC7:=qj (f7.keep (FV.keep HCV.out (by simp)) (fun hm=>HNj.out _ (by simpa using hm) rfl))
      have HU7:=qj ((HUV.out.same FV).fr f7 (fun g hg hm=>(HDj.out g hg).1 (by simpa using hm)))
      have HN7:Hid (∀ g,(Value.slice ga (m'.length+1) cap3).ownBlock=some g→g≠w.heap.size):=qj fun g hg=>by
       rcases o7 g hg with h | h
       ·exact HNj.out g h
       ·have:=blk_lt HCV.out;have:=FV.size;omega
      have HD7:Hid (∀ g,(Value.slice (some ⟨sb,so,none⟩) tl.length uc).ownBlock=some g→(Value.slice ga (m'.length+1) cap3).ownBlock≠some g∧g < W7.heap.size∧g≠w.heap.size):=qj fun g hg=>by
       obtain ⟨h1,h2,h3⟩:=HDj.out g hg
       have hz1:=FB.out.size;have hz2:=FV.size;have hz3:=f7.size
       refine ⟨fun hq=>?_,by omega,h3⟩
       rcases o7 g hq with h | h
       ·exact h1 h
       ·omega
      clear hK K r7 f7 o7 FV hVz hbn hvz
      go_wp2_with fail
      go_roundw
      case rel=>exact ⟨j+1,m'++[⟨s2,i,true⟩],by go_num,hjl,qj (by rw [HTn.out];simp),HR7,HF7,HC7,HN7,HU7,HD7⟩
      case measure=>simp [RowKit.intOf];omega
     have q4:(s1 == 4)=false:=beq_eq_false_iff_ne.2 h4
     have q8:(s1 == 8)=false:=beq_eq_false_iff_ne.2 h8
     have hno:¬ (s1=4∨s1=8):=by omega
     rw [if_neg hno] at HTn
     have HRV:=qj (HRj.out.same FB.out)
     have HDV:Hid (∀ g,(Value.slice (some ⟨sb,so,none⟩) tl.length uc).ownBlock=some g→u3.ownBlock≠some g∧g < (wr.alloc (.cells #[.int .i64 s1,.int .i64 s2,.int .i64 nx] 288)).heap.size∧g≠w.heap.size):=qj fun g hg=>by
      obtain ⟨h1,h2,h3⟩:=HDj.out g hg
      exact ⟨h1,Nat.lt_of_lt_of_le h2 FB.out.size,h3⟩
     clear h4 h8 hno HFj HCj HUj HRj HDj
     go_wp2_with fail
     go_roundw
     case rel=>exact ⟨j+1,m',by go_num,hjl,qj (by rw [HTn.out];simp),HRV,HFV,HCV,HNj,HUV,HDV⟩
     case measure=>simp [RowKit.intOf];omega
    ·obtain rfl:j=tl.length:=by omega
     have HT3:Hid (T=m'++hapP ⟨ra,rc,rs,rr⟩ ((i:Int)+1) (ports.drop (i+1))):=qj (by
      have:=HTj.out
      rw [List.drop_length] at this
      exact this)
     clear HTj HUj HDj
     go_wp2_with fail
     go_roundw
     case rel=>exact ⟨i+1,m',by go_num,hlt,qj (by rw [HT3.out];simp),HRj,HFj,HCj,HNj⟩
     case measure=>simp [RowKit.intOf];omega
  ·obtain rfl:i=ps.length:=by omega
   have HT3:Hid (T=m):=qj (by
    have:=HT.out
    rw [HDE.out] at this
    simpa [hapP] using this)
   clear HT
   have hml:m.length≤1:=by rw [← HT3.out];exact hh
   obtain ⟨ga,gc,rfl⟩:=HR.out.val
   have HRT:Hid (RyG hpC 256 3 w wr (.slice ga m.length gc) T):=qj (by rw [HT3.out];exact HR.out)
   clear HR
   generalize m.length=ml at *
   go_wp2_with fail
   refine (sortHp_c ga gc _ ml hml wr).mono ?_
   rintro e w' ⟨⟨u,rfl⟩,rfl⟩
   go_wp2_with fail
   go_ret
   exact ⟨_,rfl,HRT.out,HF.out⟩
end
section
open Go.RowKit Go.Shelf Go.Lib
attribute [local go_sem] Oper.semAt_some
abbrev Mo:=(Int × Int × Int × Int) × (Option Addr × Nat × Nat)
abbrev moV (x:Mo):Value:=.agg #[.int .i64 x.1.1,.int .i64 x.1.2.1,.int .i64 x.1.2.2.1,.slice x.2.1 x.2.2.1 x.2.2.2,.int .i64 x.1.2.2.2]
theorem infoInt1:(Tryz.prog.info? 3).map (fun i=>(i.zero,i.size,i.bytes))=some (some (.int .i64 0),1,8):=by kernel_rfl
theorem copy_one (W:World) (ty:TypeId) (d g gc:Nat) (x:Int) (hd:W.heap[d]?=some (.cells #[.int .i64 0] 3 (0,0))) (hg:W.cell? ⟨g,0,none⟩=some (.int .i64 x)) :
  ∃ W',(Builtin.copy_ #[83,83] ty #[.slice (some ⟨d,0,none⟩) 1 1,.slice (some ⟨g,0,none⟩) 1 gc]).run Tryz.prog W=.ok (.int .i64 1) W'∧Fr [d] W W' :=
 ⟨_,run_copy_row (P:=Tryz.prog) W 83 83 ty 3 d 0 1 1 ⟨g,0,none⟩ 1 gc #[.int .i64 0] 3 [.int .i64 x] Tryz.underlying83 (by kernel_rfl) hd rfl (fun j v hj=>by
  match j,hj with
  | 0,hj=>simp only [List.getElem?_cons_zero,Option.some.injEq] at hj;subst hj;exact hg
  | n+1,hj=>simp at hj) (by simp) (by simp [Value.oneCell']),Fr.setRow _ _ (by simp)⟩
set_option maxRecDepth 100000 in
set_option maxHeartbeats 4000000 in
theorem turn_in (m n0:Nat) (ok:List Mo→Prop) (l cx fx yx g gc pb po pc nl np:Nat) (la:Option Addr) (lc:Nat) (num first ra rc rs rr tz at_ kd:Int) (J:List Nat→List Mo→World→Prop) (Jx:List Mo→World→Prop) (B:Nat) (hJ:FreeU B J) (hnp:0 < np)
  (hY:∀ S pre x W,J S pre W→(∀ k,k∈S→k < W.heap.size)→ok (pre++[x])→YieldAt Fence.wide n0 Tryz.prog l #[moV x] W fun e W' =>
   (e=.returned (.bool true)∧∃ S',J S' (pre++[x]) W'∧KpU S W W'∧∀ k,k∈S'→(k∈S∨W.heap.size≤k)∧k < W'.heap.size)∨(e=.returned (.bool false)∧Jx (pre++[x]) W'))
  (pre:List Mo) (hok:∀ s,ok (pre++[((at_,0,kd,tz),s)])) (S:List Nat) (hS:∀ k,k∈S→k < B) (W:World) (hB:B≤W.heap.size) (hj:J S pre W)
  (hcx:W.heap[cx]?=some (.cells #[.int .i64 num,.int .i64 first,.int .i64 ra,.int .i64 rc,.int .i64 rs,.int .i64 rr,.slice la nl lc,.slice (some ⟨pb,po,none⟩) np pc] 66 (0,0)))
  (hfx:W.heap[fx]?=some (.cells #[.slice (some ⟨g,0,none⟩) 1 gc] 83 (0,0))) (hyx:W.heap[yx]?=some (.cells #[.func (.yield l) #[] #[]] 252 (0,0))) (hg:W.cell? ⟨g,0,none⟩=some (.int .i64 0)) (hto:W.cell? ⟨pb,po+2,none⟩=some (.int .i64 tz)) :
  CallsIn Fence.wide m Tryz.prog 156 #[.int .i64 at_,.int .i64 0,.int .i64 kd,.pointer (some ⟨cx,0,none⟩),.pointer (some ⟨fx,0,none⟩),.pointer (some ⟨yx,0,none⟩)] W fun e W' =>
   ∃ s,(e=.returned (.bool true)∧∃ S',J S' (pre++[((at_,0,kd,tz),s)]) W'∧KpU S W W'∧∀ k,k∈S'→(k∈S∨W.heap.size≤k)∧k < W'.heap.size)∨(e=.returned (.bool false)∧Jx (pre++[((at_,0,kd,tz),s)]) W'):=by
 have HY:=qj hY;have HJ:=qj hJ;have HJ0:=qj hj;have HOK:=qj hok;have HCX:=qj hcx;have HFX:=qj hfx;have HYX:=qj hyx;have HGX:=qj hg;have HTX:=qj hto;have HSB:=qj hS
 have x1:W.cell? ⟨cx,1,none⟩=some (.int .i64 first):=qd hcx 1
 have cxl:=blk_lt hcx;have fxl:=blk_lt hfx;have yxl:=blk_lt hyx
 clear hY hJ hj hok hcx hfx hyx hg hto hS
 refine callsIn_of_wp Tryz.func156 rfl trivial ?_ rfl
 simp only [Tryz.ntmps156,List.size_toArray,List.length_cons,List.length_nil,Nat.reduceAdd,Nat.reduceSub,Array.replicate_succ,Array.replicate_zero,List.push_toArray,List.append_toArray,List.nil_append,List.cons_append]
 have FM:=qj (Fr.alloc [] W (.cells #[.int .i64 at_,.int .i64 0,.int .i64 kd,.slice none 0 0,.int .i64 first] 197))
 have BM:=qj (qm W (.cells #[.int .i64 at_,.int .i64 0,.int .i64 kd,.slice none 0 0,.int .i64 first] 197))
 obtain ⟨W1,hw1⟩:∃ W1,W.alloc (.cells #[.int .i64 at_,.int .i64 0,.int .i64 kd,.slice none 0 0,.int .i64 first] 197)=W1:=⟨_,rfl⟩
 rw [hw1] at FM BM
 have f0:W1.cell? ⟨fx,0,none⟩=some (.slice (some ⟨g,0,none⟩) 1 gc):=qd (FM.out.keep HFX.out (by simp)) 0
 have m3:=qd BM.out 3
 have y3:=ql BM.out 3
 have hmc:madeCells #[Value.int .i64 0] 1=#[.int .i64 0]:=Array.ext (by simp [madeCells]) (fun i h1 h2=>by simp at h2;subst h2;simp [madeCells])
 have hmk:∀ w:World,(Instr.makeSlice 83 (.int .i64 1) (.int .i64 1)).run Tryz.prog w=.ok (.slice (some ⟨w.heap.size,0,none⟩) 1 1) (w.alloc (.cells #[.int .i64 0] 3)):=fun w=>hmc ▸ run_make_row' (P:=Tryz.prog) 83 3 (.int .i64 0) 8 Tryz.underlying83 infoInt1 rfl .i64 .i64 1 (by omega) (by omega) w
 have hzs:W.heap.size < W1.heap.size:=blk_lt BM.out
 have hgl:g < W.heap.size:=by
  have h:=HGX.out
  unfold World.cell? at h
  cases hb:W.heap[g]? with
  | none=>simp [hb] at h
  | some o=>exact (Array.getElem?_eq_some_iff.1 hb).1
 have FS:Fr [W.heap.size] W1 (W1.setCell ⟨W.heap.size,3,none⟩ (.slice (some ⟨W1.heap.size,0,none⟩) 1 1)):=Fr.setCell _ _ (by simp)
 have BM2:=qs (i:=3) (.slice (some ⟨W1.heap.size,0,none⟩) 1 1) BM.out
 have hz2:(W1.setCell ⟨W.heap.size,3,none⟩ (.slice (some ⟨W1.heap.size,0,none⟩) 1 1)).heap.size=W1.heap.size:=by simp
 have FX2:=FS.keep (FM.out.keep HFX.out (by simp)) (by simp;omega)
 have FA:=Fr.alloc [] (W1.setCell ⟨W.heap.size,3,none⟩ (.slice (some ⟨W1.heap.size,0,none⟩) 1 1)) (.cells #[.int .i64 0] 3)
 have BA:=qm (W1.setCell ⟨W.heap.size,3,none⟩ (.slice (some ⟨W1.heap.size,0,none⟩) 1 1)) (.cells #[.int .i64 0] 3)
 rw [hz2] at BA
 have BM3:=FA.keep BM2 (by simp)
 have FX3:=FA.keep FX2 (by simp)
 have GX3:=FA.cel (FS.cel (FM.out.cel HGX.out (by simp)) (by simp;omega)) (by simp)
 have f03:World.cell? _ ⟨fx,0,none⟩=some (.slice (some ⟨g,0,none⟩) 1 gc):=qd FX3 0
 have m33:World.cell? _ ⟨W.heap.size,3,none⟩=some (.slice (some ⟨W1.heap.size,0,none⟩) 1 1):=qd BM3 3
 obtain ⟨W4,hcp,FC4⟩:=copy_one _ 3 W1.heap.size g gc 0 BA GX3
 clear hmc
 have F4:=((FM.out.step FS (fun k hk=>.inr (by simp at hk;omega))).trans FA).step FC4 (fun k hk=>.inr (by simp at hk;omega))
 have HF4:=qj F4
 have BM4:=FC4.keep BM3 (by simp;omega)
 have f04:W4.cell? ⟨fx,0,none⟩=some (.slice (some ⟨g,0,none⟩) 1 gc):=qd (F4.keep HFX.out (by simp)) 0
 have HB4:=qj BM4
 clear F4 BM4
 gi_wp2
 refine wpIn_wide.2 ?_
 refine reg_fin (Fr [] W4) 12 [0,1,2,3,4,5,6,7,8,9,10,11,12] (by kernel_rfl) (by kernel_rfl) (by kernel_rfl) rfl ?_
 have FC:Fr [] W4 W4.drew:=Fr.drew _ _
 generalize W4.drew=WC at FC ⊢
 (refine fin_take (v:=?_) rfl rfl rfl rfl FC (fun w hS=>?_) ?_;rotate_left;(focus (have X:=HF4.out.trans hS;have X1:=X.keep HCX.out (by simp);have c7:=qd X1 7;have X2:=X.keep HFX.out (by simp);have f0:=qd X2 0;have g0:=X.cel HGX.out (by simp);have t0:=X.cel HTX.out (by simp);clear X X1 X2;clear hS;go_simp;rfl));simp only [qu,qv,qx])
 (refine fin_take (v:=?_) rfl rfl rfl rfl FC (fun w hS=>?_) ?_;rotate_left;(focus (have X:=HF4.out.trans hS;have X1:=X.keep HCX.out (by simp);have c7:=qd X1 7;have X2:=X.keep HFX.out (by simp);have f0:=qd X2 0;have g0:=X.cel HGX.out (by simp);have t0:=X.cel HTX.out (by simp);clear X X1 X2;clear hS;go_simp;rfl));simp only [qu,qv,qx])
 (refine fin_take (v:=?_) rfl rfl rfl rfl FC (fun w hS=>?_) ?_;rotate_left;(focus (have X:=HF4.out.trans hS;have X1:=X.keep HCX.out (by simp);have c7:=qd X1 7;have X2:=X.keep HFX.out (by simp);have f0:=qd X2 0;have g0:=X.cel HGX.out (by simp);have t0:=X.cel HTX.out (by simp);clear X X1 X2;clear hS;go_simp;rfl));simp only [qu,qv,qx])
 (refine fin_take (v:=?_) rfl rfl rfl rfl FC (fun w hS=>?_) ?_;rotate_left;(focus (have X:=HF4.out.trans hS;have X1:=X.keep HCX.out (by simp);have c7:=qd X1 7;have X2:=X.keep HFX.out (by simp);have f0:=qd X2 0;have g0:=X.cel HGX.out (by simp);have t0:=X.cel HTX.out (by simp);clear X X1 X2;clear hS;go_simp;rfl));simp only [qu,qv,qx])
 (refine fin_take (v:=.int .i64 0) rfl rfl rfl rfl FC (fun w hS=>?_) ?_;(focus (have X:=HF4.out.trans hS;have X1:=X.keep HCX.out (by simp);have c7:=qd X1 7;have X2:=X.keep HFX.out (by simp);have f0:=qd X2 0;have g0:=X.cel HGX.out (by simp);have t0:=X.cel HTX.out (by simp);clear X X1 X2;clear hS;go_simp;try rfl));simp only [qu,qv,qx])
 (refine fin_take (v:=.pointer (some ⟨g,0,none⟩)) rfl rfl rfl rfl FC (fun w hS=>?_) ?_;(focus (have X:=HF4.out.trans hS;have X1:=X.keep HCX.out (by simp);have c7:=qd X1 7;have X2:=X.keep HFX.out (by simp);have f0:=qd X2 0;have g0:=X.cel HGX.out (by simp);have t0:=X.cel HTX.out (by simp);clear X X1 X2;clear hS;go_simp;try rfl));simp only [qu,qv,qx])
 (refine fin_take (v:=.int .i64 0) rfl rfl rfl rfl FC (fun w hS=>?_) ?_;(focus (have X:=HF4.out.trans hS;have X1:=X.keep HCX.out (by simp);have c7:=qd X1 7;have X2:=X.keep HFX.out (by simp);have f0:=qd X2 0;have g0:=X.cel HGX.out (by simp);have t0:=X.cel HTX.out (by simp);clear X X1 X2;clear hS;go_simp;try rfl));simp only [qu,qv,qx])
 (refine fin_take (v:=.pointer (some ⟨pb,po,none⟩)) rfl rfl rfl rfl FC (fun w hS=>?_) ?_;(focus (have X:=HF4.out.trans hS;have X1:=X.keep HCX.out (by simp);have c7:=qd X1 7;have X2:=X.keep HFX.out (by simp);have f0:=qd X2 0;have g0:=X.cel HGX.out (by simp);have t0:=X.cel HTX.out (by simp);clear X X1 X2;clear hS;go_simp;try rfl));simp only [qu,qv,qx])
 (refine fin_take (v:=.pointer (some ⟨pb,po,none⟩)) rfl rfl rfl rfl FC (fun w hS=>?_) ?_;(focus (have X:=HF4.out.trans hS;have X1:=X.keep HCX.out (by simp);have c7:=qd X1 7;have X2:=X.keep HFX.out (by simp);have f0:=qd X2 0;have g0:=X.cel HGX.out (by simp);have t0:=X.cel HTX.out (by simp);clear X X1 X2;clear hS;go_simp;try rfl));simp only [qu,qv,qx])
 (refine fin_take (v:=.pointer (some ⟨pb,po+2,none⟩)) rfl rfl rfl rfl FC (fun w hS=>?_) ?_;(focus (have X:=HF4.out.trans hS;have X1:=X.keep HCX.out (by simp);have c7:=qd X1 7;have X2:=X.keep HFX.out (by simp);have f0:=qd X2 0;have g0:=X.cel HGX.out (by simp);have t0:=X.cel HTX.out (by simp);clear X X1 X2;clear hS;go_simp;try rfl));simp only [qu,qv,qx])
 (refine fin_take (v:=.int .i64 tz) rfl rfl rfl rfl FC (fun w hS=>?_) ?_;(focus (have X:=HF4.out.trans hS;have X1:=X.keep HCX.out (by simp);have c7:=qd X1 7;have X2:=X.keep HFX.out (by simp);have f0:=qd X2 0;have g0:=X.cel HGX.out (by simp);have t0:=X.cel HTX.out (by simp);clear X X1 X2;clear hS;go_simp;try rfl));simp only [qu,qv,qx])
 (refine fin_take (v:=.pointer (some ⟨W.heap.size,4,none⟩)) rfl rfl rfl rfl FC (fun w hS=>?_) ?_;(focus (have X:=HF4.out.trans hS;have X1:=X.keep HCX.out (by simp);have c7:=qd X1 7;have X2:=X.keep HFX.out (by simp);have f0:=qd X2 0;have g0:=X.cel HGX.out (by simp);have t0:=X.cel HTX.out (by simp);clear X X1 X2;clear hS;go_simp;try rfl));simp only [qu,qv,qx])
 have M4:=FC.keep HB4.out (by simp)
 have m4:=qd M4 4
 have y4:=ql M4 4
 refine fin_last rfl rfl rfl (fun K hK=>?_)
 go_simp
 refine hK _ _ ?_
 clear hK K
 have M5:=qs (i:=4) (.int .i64 tz) M4
 have F5:=(HF4.out.trans FC).step (Fr.setCell (fp:=[W.heap.size]) (p:=⟨W.heap.size,4,none⟩) WC (.int .i64 tz) (by simp)) (fun k hk=>.inr (by simp at hk;omega))
 generalize WC.setCell ⟨W.heap.size,4,none⟩ (.int .i64 tz)=V5 at *
 have HF5:=qj F5
 have HJ5:=qj (HJ.out _ _ _ _ [] HJ0.out F5 (by simp))
 obtain ⟨fn,tmps,assign,body,hyy,hRR⟩:=HY.out S pre ((at_,0,kd,tz),(some ⟨W1.heap.size,0,none⟩,1,1)) V5 HJ5.out (fun k hk=>by have:=HSB.out k hk;have:=F5.size;omega) (HOK.out _)
 dsimp only [moV] at hyy
 have HRR:=qj hRR
 have n0:=qd M5 0;have n1:=qd M5 1;have n2:=qd M5 2;have n3:=qd M5 3;have n4:=qd M5 4
 have y0:V5.cell? ⟨yx,0,none⟩=some (.func (.yield l) #[] #[]):=qd (F5.keep HYX.out (by simp)) 0
 clear hRR m4 y4 M4 FC F5 M5 f04 hcp f03 m33 FX3 BM3 GX3 FA BA FX2 BM2 FS m3 y3 f0 x1 hmk FC4
 gi_wp2
 refine ⟨fun hh=>(by cases hh),?_⟩
 refine (roundIn_any HRR.out).mono ?_
 rintro e w6 (⟨rfl,S6,hj6,hk6,hs6⟩ | ⟨rfl,hjx⟩)
 ·have HJ6:=qj hj6
  have HK6:Hid (KpU S W w6∧∀ k,k∈S6→(k∈S∨W.heap.size≤k)∧k < w6.heap.size):=qj ⟨(KpU.of (HF5.out.mono (by simp))).trans hk6,fun k hk=>⟨(hs6 k hk).1.imp id (fun h=>by have:=HF5.out.size;omega),(hs6 k hk).2⟩⟩
  clear hj6 hk6 hs6 HRR hyy
  gi_wp2
  refine bodyPost_ret (results_tmp rfl _ _ _) rfl ?_
  exact ⟨_,.inl ⟨rfl,S6,HJ6.out,HK6.out⟩⟩
 ·have HJX:=qj hjx
  clear hjx HRR hyy
  gi_wp2
  refine bodyPost_ret (results_tmp rfl _ _ _) rfl ?_
  exact ⟨_,.inr ⟨rfl,HJX.out⟩⟩
end
end Go.Proofs.YtledkokhghjfmaaGreatDoor
