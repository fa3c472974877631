/-
  A region that draws its order whose effects float (Reg6.lean), where one effect consumes what another one has made: (j, c) in C: what is known of j holds until c is done; (j, i) in B: j comes behind i; what is known of j may speak of all values (Reg8.lean: of its own alone).
-/
import Derived.Test.YtledkokhghjfmaaGreatDoorPS07
import Derived.Test.YtledkokhghjfmaaGreatDoorPN05
import Derived.Test.YtledkokhghjfmaaGreatDoorPS19
namespace Go.Proofs.YtledkokhghjfmaaGreatDoor
section
section
variable {C B:List (Nat × Nat)} {P:Program} {ops:Array Oper} {Q:Exit→Act→World→Prop} {S:World→Prop} {fin:Nat}
def StepsG (C B:List (Nat × Nat)) (P:Program) (ops:Array Oper) (Q:Exit→Act→World→Prop) (S:World→Prop) (A:(Nat→Value)→Act) (Pd:Nat→(Nat→Value)→World→Prop):List (Nat × List Nat)→Prop
 | []=>True
 | (i,D) :: E=>(∀ g w,S w→(∀ j∈D,Pd j g w)→wpOp P ops Q i (fun a' w'=>S w'∧∃ v,a'=A (upG g i v)∧Pd i (upG g i v) w'∧∀ j,j≠i→(j,i)∉C→(j,i)∉B→Pd j g w→Pd j (upG g i v) w') (A g) w)∧StepsG C B P ops Q S A Pd E
theorem StepsG.get {A:(Nat→Value)→Act} {Pd:Nat→(Nat→Value)→World→Prop}:∀ {E:List (Nat × List Nat)},StepsG C B P ops Q S A Pd E→∀ {i:Nat} {D:List Nat},(i,D)∈E →
  ∀ g w,S w→(∀ j∈D,Pd j g w)→wpOp P ops Q i (fun a' w'=>S w'∧∃ v,a'=A (upG g i v)∧Pd i (upG g i v) w'∧∀ j,j≠i→(j,i)∉C→(j,i)∉B→Pd j g w→Pd j (upG g i v) w') (A g) w
 | [],_,_,_,hm=>by cases hm
 | (_,_) :: _,h,_,_,hm=>by
  rcases List.mem_cons.1 hm with hm | hm
  ·cases hm;exact h.1
  ·exact StepsG.get h.2 hm
def permG (C B:List (Nat × Nat)) (ops:Array Oper) (fin:Nat) (tk:List Nat) (E:List (Nat × List Nat)):Bool :=
 ((List.range ops.size).all fun i=>tk.contains i || (E.map (·.1)).contains i || i == fin)
  && ((List.range ops.size).all fun i=>i == fin || waitsB ops ops.size i fin)
  && decide (fin < ops.size) && !tk.contains fin
  && ((List.range ops.size).all fun i=>match ops[i]? with | none=>false | some o=>o.after.all fun e=>!Region.binds .any e || decide (e.on < i))
  && (B.all fun y=>waitsB ops ops.size y.2 y.1)
  && (E.all fun x=>!(x.1 == fin) && !tk.contains x.1 && decide (x.1 < ops.size) && x.2.all fun j=>!tk.contains j && (C.all fun y=>!(y.1 == j) || y.2 == x.1 || waitsB ops ops.size x.1 y.2) && (match ops[x.1]? with | none=>false | some o=>o.after.any fun e=>Region.binds .any e && e.on == j))
def InvG (C B:List (Nat × Nat)) (P:Program) (ops:Array Oper) (Q:Exit→Act→World→Prop) (S:World→Prop) (fin:Nat) (E:List (Nat × List Nat)) (a:Act) (w:World):Prop :=
 ∃ (A:(Nat→Value)→Act) (Pd:Nat→(Nat→Value)→World→Prop) (g0:Nat→Value),a=A g0∧S w∧StepsG C B P ops Q S A Pd E∧∀ g w,S w→(∀ e∈E,(∀ c,(e.1,c)∉C)→Pd e.1 g w)→wpOp P ops Q fin (fun a' w'=>Q .normal a' w') (A g) w
theorem invG_start {E:List (Nat × List Nat)} {a:Act} {w:World} (ds:List (Nat × Nat)) (Pd:Nat→(Nat→Value)→World→Prop) (hn:(ds.map (·.1)).Nodup) (hS:S w) (h1:StepsG C B P ops Q S (putG a ds) Pd E)
  (h2:∀ g w,S w→(∀ e∈E,(∀ c,(e.1,c)∉C)→Pd e.1 g w)→wpOp P ops Q fin (fun a' w'=>Q .normal a' w') (putG a ds g) w):InvG C B P ops Q S fin E a w:=by
 obtain ⟨g,hg⟩:=putT_self ds a.tmps hn
 exact ⟨putG a ds,Pd,g,by unfold putG;rw [hg],hS,h1,h2⟩
theorem wpAnyF_of_invG {tk:List Nat} {E:List (Nat × List Nat)} (hp:permG C B ops fin tk E=true) {fuel:Nat} {l:Array Bool} {a:Act} {w:World} (hc:Closed ops l) (hl:l.toList.countP (fun b=>!b)≤fuel) (hz:l.size=ops.size)
  (htk:∀ k,l.getD k false=true↔k∈tk) (h:InvG C B P ops Q S fin E a w):wpAnyF P ops Q S fin fuel l a w:=by
 simp only [permG,Bool.and_eq_true,decide_eq_true_eq,Bool.not_eq_true',List.all_eq_true,List.mem_range,Bool.or_eq_true,beq_iff_eq,beq_eq_false_iff_ne] at hp
 obtain ⟨⟨⟨⟨⟨⟨hcov,hwt⟩,hf⟩,hft⟩,hlow⟩,hB⟩,hE⟩:=hp
 have hft:fin∉tk:=by simpa using hft
 obtain ⟨A,Pd,g0,rfl,hS,hst,hfin⟩:=h
 have hdone:∀ l:Array Bool,Closed ops l→(l.getD fin false=true∨fin∈Region.ready .any ops l)→∀ i,i < ops.size→i≠fin→l.getD i false=true:=fun l hc hl i hi hne =>
  waits_listed hc ops.size fin ((hwt i hi).resolve_left hne) hl
 refine wpAnyF_of_inv (fun l a w=>l.size=ops.size∧(∀ k∈tk,l.getD k false=true)∧((l.getD fin false=true∧Q .normal a w)∨(l.getD fin false=false∧∃ g,a=A g∧S w∧∀ i,i∉tk→l.getD i false=true→(∀ c,(i,c)∈C→l.getD c false=false)→Pd i g w))) ?_ ?_ fuel l _ w hc hl ⟨hz,fun k hk=>(htk k).2 hk,.inr ⟨?_,g0,rfl,hS,fun i hi hh _=>absurd ((htk i).1 hh) hi⟩⟩
 ·rintro l a w i hc hi ⟨hz,ht,h⟩
  have hun:=(ready_false hi).2
  have hi':i < ops.size:=by
   rcases Nat.lt_or_ge i ops.size with h' | h'
   ·exact h'
   ·have:=(ready_false hi).1
    rw [List.getElem?_eq_none (by simpa [hz] using h')] at this
    cases this
  have hset:(l.setIfInBounds i true).getD i false=true:=by simp [hz,hi']
  rcases h with ⟨h1,_⟩ | ⟨h1,g,rfl,hS,hP⟩
  ·exfalso
   by_cases hne:i=fin
   ·subst hne;rw [h1] at hun;cases hun
   ·have:=hdone l hc (.inl h1) i hi' hne
    rw [this] at hun;cases hun
  ·by_cases hne:i=fin
   ·subst hne
    refine wpOp_mono (fun a' w' hq=>⟨.inl hset,by simpa using hz,fun k hk=>getD_set_true (ht k hk),.inl ⟨hset,hq⟩⟩) (hfin g w hS fun e he hnc=>?_)
    have he':=hE e he
    exact hP e.1 (by simpa using he'.1.1.2) (hdone l hc (.inr hi) e.1 he'.1.2 he'.1.1.1) (fun c hc=>absurd hc (hnc c))
   ·have hcv:=hcov i hi'
    have hnt:i∉tk:=fun hh=>by rw [ht i hh] at hun;cases hun
    have hm:i∈E.map (·.1):=by
     rcases hcv with (h2 | h2) | h2
     ·exact absurd (by simpa using h2) hnt
     ·simpa using h2
     ·exact absurd h2 hne
    obtain ⟨⟨i',D⟩,hmE,hii⟩:=List.mem_map.1 hm
    simp only at hii
    subst hii
    have he':=hE _ hmE
    simp only at he'
    have hD:∀ j∈D,Pd j g w:=fun j hj=>by
     obtain ⟨⟨hj1,hjC⟩,hj2⟩:=he'.2 j hj
     obtain ⟨_,o,ho,hall⟩:=mem_ready.1 hi
     rw [ho] at hj2
     simp only [Array.any_eq_true] at hj2
     obtain ⟨x,hx,hj2⟩:=hj2
     simp only [Bool.and_eq_true,beq_iff_eq] at hj2
     have h5:=hall _ (Array.getElem_mem hx) hj2.1
     rw [hj2.2] at h5
     exact hP j (by simpa using hj1) h5 (fun c hcm=>by
      rcases hjC (j,c) hcm with (h6 | h6) | h6
      ·exact absurd rfl h6
      ·simp only at h6;rw [h6];exact hun
      ·cases hlc:l.getD c false with
       | false=>rfl
       | true =>
        have:=waits_listed hc ops.size c h6 (.inl hlc)
        rw [this] at hun;cases hun)
    refine wpOp_mono ?_ (hst.get hmE g w hS hD)
    rintro a' w' ⟨hS',v,rfl,hv,hk⟩
    refine ⟨.inr hS',by simpa using hz,fun k hk=>getD_set_true (ht k hk),.inr ⟨?_,upG g i' v,rfl,hS',fun j hj hjd hjc=>?_⟩⟩
    ·rw [getD_set_ne false (by simpa using he'.1.1.1)];exact h1
    ·by_cases hji:j=i'
     ·subst hji;exact hv
     ·rw [getD_set_ne false (Ne.symm hji)] at hjd
      exact hk j hji (fun hm=>by have:=hjc _ hm;rw [hset] at this;cases this) (fun hm=>by
       have:=waits_listed hc ops.size j (hB _ hm) (.inl hjd)
       rw [this] at hun;cases hun) (hP j hj hjd (fun c hcm=>by
       have h7:=hjc c hcm
       by_cases hci:c=i'
       ·subst hci;rw [hset] at h7;cases h7
       ·rwa [getD_set_ne false (Ne.symm hci)] at h7))
 ·rintro l a w hc h0 ⟨hz,ht,h⟩
  rcases h with ⟨_,h⟩ | ⟨h1,_⟩
  ·exact h
  ·exfalso
   have hall:∀ n,n < ops.size→l.getD n false=true:=by
    intro n
    induction n using Nat.strongRecOn with
    | _ n ih =>
     intro hn
     cases hh:l.getD n false with
     | true=>rfl
     | false =>
      exfalso
      have hlo:=hlow n hn
      cases ho:ops[n]? with
      | none=>simp [ho] at hlo
      | some o =>
       simp only [ho,Array.all_eq_true,Bool.or_eq_true,Bool.not_eq_true',decide_eq_true_eq] at hlo
       have hr:n∈Region.ready .any ops l:=mem_ready.2 ⟨by
        have hz':n < l.size:=by omega
        simp [hz'] at hh ⊢;exact hh,o,ho,fun e he hb=>by
        obtain ⟨x,hx,rfl⟩:=Array.mem_iff_getElem.1 he
        rcases hlo x hx with h2 | h2
        ·rw [h2] at hb;cases hb
        ·exact ih _ h2 (by omega)⟩
       rw [h0] at hr
       cases hr
   rw [hall fin hf] at h1
   cases h1
 ·cases hh:l.getD fin false with
  | false=>rfl
  | true=>exact absurd ((htk fin).1 hh) hft
theorem reg_invG {id:Nat} {a:Act} {w:World} {l:List Oper} (S:World→Prop) (fin:Nat) (tk:List Nat) (E:List (Nat × List Nat)) (hm:P.follows .mixedOrders=true) (hs:Region.noSelect l.toArray=true) (hp:permTk l.toArray fin tk (Array.replicate l.toArray.size false)=true) (hi:permG C B l.toArray fin tk E=true)
  (ht:(takenB l.toArray.size tk && (tk.all fun k=>decide (k < l.toArray.size)) && decide ((setAll (Array.replicate l.toArray.size false) tk).toList.countP (fun b=>!b)+tk.length=l.toArray.size))=true)
  (h:wpTk P l.toArray S (InvG C B P l.toArray (NoPanic Q) S fin E) tk a w.drew):(Code.region id l.toArray true).wp P Q a w:=by
 simp only [Bool.and_eq_true,decide_eq_true_eq,takenB,List.all_eq_true,List.mem_range,beq_iff_eq] at ht
 obtain ⟨⟨ht1,ht2⟩,ht3⟩:=ht
 have hc:Closed l.toArray (Array.replicate l.toArray.size false):=fun k o _ hk=>by
  exfalso
  rw [Array.getD_eq_getD_getElem?,Array.getElem?_replicate] at hk
  split at hk <;> cases hk
 have h2:=wpAnyF_of_tk (Q:=NoPanic Q) (fin:=fin) (m:=(setAll (Array.replicate l.toArray.size false) tk).toList.countP (fun b=>!b)) hs (fun _ _ _ _ _ h=>h) tk _ a _ hp hc (fun a w hc' hR=>wpAnyF_of_invG hi hc' (Nat.le_refl _) (by rw [setAll_size];simp) (fun k=>by
  by_cases hk:k < l.toArray.size
  ·rw [ht1 k hk];simp
  ·constructor
   ·intro hh
    rw [Array.getD_eq_getD_getElem?,Array.getElem?_eq_none (by rw [setAll_size];simpa using hk)] at hh
    cases hh
   ·intro hh;exact absurd (ht2 k hh) hk) hR) h
 rw [ht3] at h2
 exact wp_region_noPanic (wp_region_any hm (wpAny_of_F _ _ _ _ h2))
theorem invG_op {i:Nat} {a:Act} {w:World} {o:Oper} {A:(Nat→Value)→Act} {Pd:Nat→(Nat→Value)→World→Prop} {g:Nat→Value} (ho:ops[i]?=some o) (hg:o.guard=none)
  (h:∀ K:Act→World→Prop,(∀ v w',S w'→Pd i (upG g i v) w'→(∀ j,j≠i→(j,i)∉C→(j,i)∉B→Pd j g w→Pd j (upG g i v) w')→K (A (upG g i v)) w')→o.wp P a w K Q):wpOp P ops Q i (fun a' w'=>S w'∧∃ v,a'=A (upG g i v)∧Pd i (upG g i v) w'∧∀ j,j≠i→(j,i)∉C→(j,i)∉B→Pd j g w→Pd j (upG g i v) w') a w:=by
 unfold wpOp
 simp only [ho,Region.wanted,hg,if_true]
 exact .inl (h _ fun v w' h1 h2 h3=>⟨h1,v,rfl,h2,h3⟩)
end
end
section
open Go.RowKit Go.Lib
theorem mpOf_inj {α:Type} {enc:α→Value} (hi:∀ a b,enc a=enc b→a=b):∀ {l m:List (α × Value)},mpOf enc l=mpOf enc m→l=m
 | [],[],_=>rfl
 | [],_ :: _,h=>by simp [mpOf] at h
 | _ :: _,[],h=>by simp [mpOf] at h
 | (a,u) :: l,(b,v) :: m,h=>by
  simp only [mpOf,List.map_cons,List.cons.injEq,Prod.mk.injEq] at h
  rw [hi _ _ h.1.1,h.1.2,mpOf_inj hi h.2]
theorem MpAt.one {α:Type} {enc:α→Value} {P:Program} {k:TypeId} {w:World} {b:Nat} {l m:List (α × Value)} (KD:KeyD P k enc) (h1:MpAt enc w b l) (h2:MpAt enc w b m):l=m:=by
 obtain ⟨es,c,a1,a2,_⟩:=h1.blk
 obtain ⟨es',c',b1,b2,_⟩:=h2.blk
 rw [a1] at b1
 cases b1
 exact mpOf_inj KD.inj (a2.symm.trans b2)
def effV:List ((Int × Int) × Value):=mapV (Value.int .i64) effL
def EffAt (w:World) (b:Nat):Prop:=∃ l,MpAt csE w b l∧∀ k,getA l k=getA effV k
theorem EffAt.keep {w w':World} {b:Nat} (h:EffAt w b) {fp:List Nat} (hf:Fr fp w w') (hn:b∉fp):EffAt w' b:=by
 obtain ⟨l,h1,h2⟩:=h
 exact ⟨l,h1.keep hf hn,h2⟩
def effK (i:Nat):Int × Int:=((effL[i]?).getD default).1
def effW (i:Nat):Value:=.int .i64 ((effL[i]?).getD default).2
def EfP (B:Nat) (i:Nat) (g:Nat→Value) (W:World):Prop :=
 if i=0 then ∃ b l,g 0=.map (some b)∧MpAt csE W b l∧B≤b∧∀ k v,getA l k=some v→getA effV k=some v
 else if i=17 then g 17=g 0
 else if i % 2=0∧i≤16 then ∀ b l,g 0=.map (some b)→MpAt csE W b l→getA l (effK (i / 2 - 1))=some (effW (i / 2 - 1)) else True
theorem EfP.put {B n:Nat} {g:Nat→Value} {W W':World} {b:Nat} {l:List ((Int × Int) × Value)} (h0:EfP B 0 g W) (hb:g 0=.map (some b)) (hm:MpAt csE W b l) (hn:n < 8) (h:MpAt csE W' b (setA l (effK n) (effW n))) (j:Nat) (u:Value) (hj:j≠2*n+2) (hp:EfP B j g W):EfP B j (upG g (2*n+2) u) W':=by
 have hz:upG g (2*n+2) u 0=g 0:=upG_ne g u (by omega)
 have hin:getA effV (effK n)=some (effW n):=by
  rcases n with _ | _ | _ | _ | _ | _ | _ | _ | n <;> first | rfl | omega
 unfold EfP at hp ⊢
 rw [hz]
 split
 ·rename_i e
  rw [if_pos e] at hp
  obtain ⟨b',l',h1,h2,h3,h4⟩:=hp
  rw [hb] at h1;cases h1
  have:=MpAt.one keyCs h2 hm
  subst this
  refine ⟨b,_,hb,h,h3,fun k v hk=>?_⟩
  rw [getA_setA] at hk
  split at hk
  ·rename_i e;cases hk;rw [e];exact hin
  ·exact h4 k v hk
 ·rename_i e
  rw [if_neg e] at hp
  split
  ·rename_i e2
   rw [if_pos e2] at hp
   rw [upG_ne g u (by omega)];exact hp
  ·rename_i e2
   rw [if_neg e2] at hp
   split
   case isFalse=>trivial
   rename_i e4
   rw [if_pos e4] at hp
   intro b' l' h1 h2
   rw [hb] at h1;cases h1
   have:=MpAt.one keyCs h2 h
   subst this
   rw [getA_setA]
   split
   ·rename_i e3
    have hq:j / 2 - 1=n∨j / 2 - 1≠n:=by omega
    have:=hp b l hb hm
    have h5:effK (j / 2 - 1)=effK n:=e3
    have h6:getA effV (effK (j / 2 - 1))=some (effW (j / 2 - 1)):=by
     obtain ⟨b',l',h1,h2,h3,h4⟩:=(show ∃ b l,g 0=.map (some b)∧MpAt csE W b l∧B≤b∧∀ k v,getA l k=some v→getA effV k=some v by
      have:=h0;unfold EfP at this;rw [if_pos rfl] at this;exact this)
     rw [hb] at h1;cases h1
     have he:=MpAt.one keyCs h2 hm
     subst he
     exact h4 _ _ this
    rw [h5,hin] at h6
    exact h6
   ·exact hp b l hb hm
theorem EfP.new {B n:Nat} {g:Nat→Value} {W':World} {b:Nat} {l:List ((Int × Int) × Value)} (hb:g 0=.map (some b)) (hn:n < 8) (h:MpAt csE W' b (setA l (effK n) (effW n))) (u:Value):EfP B (2*n+2) (upG g (2*n+2) u) W':=by
 have hz:upG g (2*n+2) u 0=g 0:=upG_ne g u (by omega)
 unfold EfP
 rw [if_neg (by omega),if_neg (by omega),if_pos (by omega),hz,show (2*n+2) / 2 - 1=n by omega]
 intro b' l' h1 h2
 rw [hb] at h1;cases h1
 have:=MpAt.one keyCs h2 h
 subst this
 rw [getA_setA,if_pos rfl]
theorem effV_all {l:List ((Int × Int) × Value)} (h1:∀ k v,getA l k=some v→getA effV k=some v) (h2:∀ n,n < 8→getA l (effK n)=some (effW n)) (k:Int × Int):getA l k=getA effV k:=by
 cases hk:getA l k with
 | some v=>exact (h1 k v hk).symm
 | none =>
  cases he:getA effV k with
  | none=>rfl
  | some v =>
   exfalso
   have hm:k∈effV.map Prod.fst:=Classical.byContradiction fun hn=>by rw [getA_none_iff.2 hn] at he;cases he
   have:∃ n,n < 8∧k=effK n:=by
    simp only [effV,effL,mapV,List.map_cons,List.map_nil,List.mem_cons,List.not_mem_nil,or_false] at hm
    rcases hm with rfl | rfl | rfl | rfl | rfl | rfl | rfl | rfl
    ·exact ⟨0,by omega,rfl⟩
    ·exact ⟨1,by omega,rfl⟩
    ·exact ⟨2,by omega,rfl⟩
    ·exact ⟨3,by omega,rfl⟩
    ·exact ⟨4,by omega,rfl⟩
    ·exact ⟨5,by omega,rfl⟩
    ·exact ⟨6,by omega,rfl⟩
    ·exact ⟨7,by omega,rfl⟩
   obtain ⟨n,hn,rfl⟩:=this
   rw [h2 n hn] at hk;cases hk
set_option maxRecDepth 100000 in
set_option maxHeartbeats 4000000 in
theorem effects_c (w:World):Calls Tryz.prog 211 #[] w fun e w'=>∃ b,e=.returned (.map (some b))∧EffAt w' b∧Fr [] w w'∧w.heap.size≤b:=by
 have hmm:=@run_makeMap Tryz.prog
 go_enter Tryz.func211,Tryz.ntmps211
 go_wp2_with fail
 refine reg_invG (C:=[]) (B:=[(2,0),(4,0),(6,0),(8,0),(10,0),(12,0),(14,0),(16,0),(17,0)]) (Fr [] w) 18 [1,3,5,7,9,11,13,15] [(0,[]),(2,[0]),(4,[0]),(6,[0]),(8,[0]),(10,[0]),(12,[0]),(14,[0]),(16,[0]),(17,[0,2,4,6,8,10,12,14,16])] (by kernel_rfl) (by kernel_rfl) (by kernel_rfl) (by kernel_rfl) (by kernel_rfl) ?_
 have FC:Fr [] w w.drew:=Fr.drew _ _
 iterate 8 (refine tk_take (v:=?_) rfl rfl rfl FC (fun w hS=>?_) ?_;rotate_left;(focus (clear hS;go_simp;rfl));simp only [qu,qv,qx])
 refine invG_start [(0,1),(17,10)] (EfP w.heap.size) (by decide) FC ⟨fun g w8 hS hD=>?_,fun g w8 hS hD=>?_,fun g w8 hS hD=>?_,fun g w8 hS hD=>?_,fun g w8 hS hD=>?_,fun g w8 hS hD=>?_,fun g w8 hS hD=>?_,fun g w8 hS hD=>?_,fun g w8 hS hD=>?_,fun g w8 hS hD=>?_,trivial⟩ (fun g w8 hS hD=>?_)
 ·refine invG_op rfl rfl (fun K hK=>?_)
  simp only [putG,putT,qu,qv,qx] at hK ⊢
  go_simp
  refine hK (.map (some w8.heap.size)) _ (hS.trans (Fr.alloc [] w8 (.map #[] 0))) ?_ (fun j hj _ hb h=>?_)
  ·unfold EfP
   rw [if_pos rfl]
   exact ⟨_,[],upG_self _ _ _,mpAt_new w8,hS.size,fun k v hk=>by cases hk⟩
  ·simp only [List.mem_cons,Prod.mk.injEq,and_true,List.not_mem_nil,or_false,not_or] at hb
   unfold EfP
   rw [if_neg hj,if_neg (by omega),if_neg (by omega)]
   trivial
 ·have hp0:=hD 0 (by simp)
  obtain ⟨b,l,xb,hm,hbl,hsub⟩:=(show ∃ b l,g 0=.map (some b)∧MpAt csE w8 b l∧w.heap.size≤b∧∀ k v,getA l k=some v→getA effV k=some v by
   have:=hp0;unfold EfP at this;rw [if_pos rfl] at this;exact this)
  refine invG_op rfl rfl (fun K hK=>?_)
  simp only [putG,putT,qu,qv,qx] at hK ⊢
  simp only [upG,Nat.reduceEqDiff,if_false] at hK
  rw [xb] at hK ⊢
  refine wp_ins 342 3 (.tmp 1) (.tmp 2) (.const (.int .i64 3)) ((1,1):Int × Int) rfl rfl rfl hm keyCs Tryz.underlying342 rfl (fun W f z h=>?_)
  have h':MpAt csE W b (setA l (effK 0) (effW 0)):=h
  have hK:=hK undef W (hS.step f (fun k hk=>.inr (by simp at hk;omega))) (EfP.new xb (by omega) h' _) (fun j hj _ _ hp=>EfP.put hp0 xb hm (by omega) h' j _ hj hp)
  exact hK
 ·have hp0:=hD 0 (by simp)
  obtain ⟨b,l,xb,hm,hbl,hsub⟩:=(show ∃ b l,g 0=.map (some b)∧MpAt csE w8 b l∧w.heap.size≤b∧∀ k v,getA l k=some v→getA effV k=some v by
   have:=hp0;unfold EfP at this;rw [if_pos rfl] at this;exact this)
  refine invG_op rfl rfl (fun K hK=>?_)
  simp only [putG,putT,qu,qv,qx] at hK ⊢
  simp only [upG,Nat.reduceEqDiff,if_false] at hK
  rw [xb] at hK ⊢
  refine wp_ins 342 3 (.tmp 1) (.tmp 3) (.const (.int .i64 2)) ((2,1):Int × Int) rfl rfl rfl hm keyCs Tryz.underlying342 rfl (fun W f z h=>?_)
  have h':MpAt csE W b (setA l (effK 1) (effW 1)):=h
  have hK:=hK undef W (hS.step f (fun k hk=>.inr (by simp at hk;omega))) (EfP.new xb (by omega) h' _) (fun j hj _ _ hp=>EfP.put hp0 xb hm (by omega) h' j _ hj hp)
  exact hK
 ·have hp0:=hD 0 (by simp)
  obtain ⟨b,l,xb,hm,hbl,hsub⟩:=(show ∃ b l,g 0=.map (some b)∧MpAt csE w8 b l∧w.heap.size≤b∧∀ k v,getA l k=some v→getA effV k=some v by
   have:=hp0;unfold EfP at this;rw [if_pos rfl] at this;exact this)
  refine invG_op rfl rfl (fun K hK=>?_)
  simp only [putG,putT,qu,qv,qx] at hK ⊢
  simp only [upG,Nat.reduceEqDiff,if_false] at hK
  rw [xb] at hK ⊢
  refine wp_ins 342 3 (.tmp 1) (.tmp 4) (.const (.int .i64 3)) ((3,2):Int × Int) rfl rfl rfl hm keyCs Tryz.underlying342 rfl (fun W f z h=>?_)
  have h':MpAt csE W b (setA l (effK 2) (effW 2)):=h
  have hK:=hK undef W (hS.step f (fun k hk=>.inr (by simp at hk;omega))) (EfP.new xb (by omega) h' _) (fun j hj _ _ hp=>EfP.put hp0 xb hm (by omega) h' j _ hj hp)
  exact hK
 ·have hp0:=hD 0 (by simp)
  obtain ⟨b,l,xb,hm,hbl,hsub⟩:=(show ∃ b l,g 0=.map (some b)∧MpAt csE w8 b l∧w.heap.size≤b∧∀ k v,getA l k=some v→getA effV k=some v by
   have:=hp0;unfold EfP at this;rw [if_pos rfl] at this;exact this)
  refine invG_op rfl rfl (fun K hK=>?_)
  simp only [putG,putT,qu,qv,qx] at hK ⊢
  simp only [upG,Nat.reduceEqDiff,if_false] at hK
  rw [xb] at hK ⊢
  refine wp_ins 342 3 (.tmp 1) (.tmp 5) (.const (.int .i64 6)) ((4,2):Int × Int) rfl rfl rfl hm keyCs Tryz.underlying342 rfl (fun W f z h=>?_)
  have h':MpAt csE W b (setA l (effK 3) (effW 3)):=h
  have hK:=hK undef W (hS.step f (fun k hk=>.inr (by simp at hk;omega))) (EfP.new xb (by omega) h' _) (fun j hj _ _ hp=>EfP.put hp0 xb hm (by omega) h' j _ hj hp)
  exact hK
 ·have hp0:=hD 0 (by simp)
  obtain ⟨b,l,xb,hm,hbl,hsub⟩:=(show ∃ b l,g 0=.map (some b)∧MpAt csE w8 b l∧w.heap.size≤b∧∀ k v,getA l k=some v→getA effV k=some v by
   have:=hp0;unfold EfP at this;rw [if_pos rfl] at this;exact this)
  refine invG_op rfl rfl (fun K hK=>?_)
  simp only [putG,putT,qu,qv,qx] at hK ⊢
  simp only [upG,Nat.reduceEqDiff,if_false] at hK
  rw [xb] at hK ⊢
  refine wp_ins 342 3 (.tmp 1) (.tmp 6) (.const (.int .i64 7)) ((5,1):Int × Int) rfl rfl rfl hm keyCs Tryz.underlying342 rfl (fun W f z h=>?_)
  have h':MpAt csE W b (setA l (effK 4) (effW 4)):=h
  have hK:=hK undef W (hS.step f (fun k hk=>.inr (by simp at hk;omega))) (EfP.new xb (by omega) h' _) (fun j hj _ _ hp=>EfP.put hp0 xb hm (by omega) h' j _ hj hp)
  exact hK
 ·have hp0:=hD 0 (by simp)
  obtain ⟨b,l,xb,hm,hbl,hsub⟩:=(show ∃ b l,g 0=.map (some b)∧MpAt csE w8 b l∧w.heap.size≤b∧∀ k v,getA l k=some v→getA effV k=some v by
   have:=hp0;unfold EfP at this;rw [if_pos rfl] at this;exact this)
  refine invG_op rfl rfl (fun K hK=>?_)
  simp only [putG,putT,qu,qv,qx] at hK ⊢
  simp only [upG,Nat.reduceEqDiff,if_false] at hK
  rw [xb] at hK ⊢
  refine wp_ins 342 3 (.tmp 1) (.tmp 7) (.const (.int .i64 7)) ((5,2):Int × Int) rfl rfl rfl hm keyCs Tryz.underlying342 rfl (fun W f z h=>?_)
  have h':MpAt csE W b (setA l (effK 5) (effW 5)):=h
  have hK:=hK undef W (hS.step f (fun k hk=>.inr (by simp at hk;omega))) (EfP.new xb (by omega) h' _) (fun j hj _ _ hp=>EfP.put hp0 xb hm (by omega) h' j _ hj hp)
  exact hK
 ·have hp0:=hD 0 (by simp)
  obtain ⟨b,l,xb,hm,hbl,hsub⟩:=(show ∃ b l,g 0=.map (some b)∧MpAt csE w8 b l∧w.heap.size≤b∧∀ k v,getA l k=some v→getA effV k=some v by
   have:=hp0;unfold EfP at this;rw [if_pos rfl] at this;exact this)
  refine invG_op rfl rfl (fun K hK=>?_)
  simp only [putG,putT,qu,qv,qx] at hK ⊢
  simp only [upG,Nat.reduceEqDiff,if_false] at hK
  rw [xb] at hK ⊢
  refine wp_ins 342 3 (.tmp 1) (.tmp 8) (.const (.int .i64 7)) ((5,3):Int × Int) rfl rfl rfl hm keyCs Tryz.underlying342 rfl (fun W f z h=>?_)
  have h':MpAt csE W b (setA l (effK 6) (effW 6)):=h
  have hK:=hK undef W (hS.step f (fun k hk=>.inr (by simp at hk;omega))) (EfP.new xb (by omega) h' _) (fun j hj _ _ hp=>EfP.put hp0 xb hm (by omega) h' j _ hj hp)
  exact hK
 ·have hp0:=hD 0 (by simp)
  obtain ⟨b,l,xb,hm,hbl,hsub⟩:=(show ∃ b l,g 0=.map (some b)∧MpAt csE w8 b l∧w.heap.size≤b∧∀ k v,getA l k=some v→getA effV k=some v by
   have:=hp0;unfold EfP at this;rw [if_pos rfl] at this;exact this)
  refine invG_op rfl rfl (fun K hK=>?_)
  simp only [putG,putT,qu,qv,qx] at hK ⊢
  simp only [upG,Nat.reduceEqDiff,if_false] at hK
  rw [xb] at hK ⊢
  refine wp_ins 342 3 (.tmp 1) (.tmp 9) (.const (.int .i64 8)) ((6,4):Int × Int) rfl rfl rfl hm keyCs Tryz.underlying342 rfl (fun W f z h=>?_)
  have h':MpAt csE W b (setA l (effK 7) (effW 7)):=h
  have hK:=hK undef W (hS.step f (fun k hk=>.inr (by simp at hk;omega))) (EfP.new xb (by omega) h' _) (fun j hj _ _ hp=>EfP.put hp0 xb hm (by omega) h' j _ hj hp)
  exact hK
 ·have hp0:=hD 0 (by simp)
  obtain ⟨b,l,xb,hm,hbl,hsub⟩:=(show ∃ b l,g 0=.map (some b)∧MpAt csE w8 b l∧w.heap.size≤b∧∀ k v,getA l k=some v→getA effV k=some v by
   have:=hp0;unfold EfP at this;rw [if_pos rfl] at this;exact this)
  refine invG_op rfl rfl (fun K hK=>?_)
  simp only [putG,putT,qu,qv,qx] at hK ⊢
  go_simp
  have hz:upG g 17 (.map (some b)) 0=g 0:=upG_ne g _ (by omega)
  have hv:EfP w.heap.size 17 (upG g 17 (.map (some b))) w8:=by
   unfold EfP
   rw [if_neg (by omega),if_pos rfl,hz,upG_self,xb]
  have hk:∀ j,j≠17→EfP w.heap.size j g w8→EfP w.heap.size j (upG g 17 (.map (some b))) w8:=fun j hj hp=>by
   unfold EfP at hp ⊢
   rw [hz]
   rw [if_neg hj] at hp ⊢
   exact hp
  have hK:=hK (.map (some b)) w8 hS hv (fun j hj _ _ hp=>hk j hj hp)
  simp only [hz,upG_self,xb] at hK
  exact hK
 ·have hp0:=hD (0,[]) (by simp) (by simp)
  obtain ⟨b,l,xb,hm,hbl,hsub⟩:=(show ∃ b l,g 0=.map (some b)∧MpAt csE w8 b l∧w.heap.size≤b∧∀ k v,getA l k=some v→getA effV k=some v by
   have:=hp0;unfold EfP at this;rw [if_pos rfl] at this;exact this)
  have x17:g 17=.map (some b):=by
   have:=hD (17,_) (by simp;rfl) (by simp)
   unfold EfP at this
   rw [if_neg (by omega),if_pos rfl,xb] at this
   exact this
  have hall:∀ n,n < 8→getA l (effK n)=some (effW n):=fun n hn=>by
   have:=hD (2*n+2,[0]) (by rcases (show n=0∨n=1∨n=2∨n=3∨n=4∨n=5∨n=6∨n=7 by omega) with rfl | rfl | rfl | rfl | rfl | rfl | rfl | rfl <;> simp) (by simp)
   unfold EfP at this
   rw [if_neg (by simp),if_neg (by simp;omega),if_pos (by simp;omega)] at this
   have h3:=this b l xb hm
   simp only [show (2*n+2) / 2 - 1=n by omega] at h3
   exact h3
  have HE:=qj (⟨l,hm,effV_all hsub hall⟩:EffAt w8 b)
  have HS:=qj hS;have HB:=qj hbl
  clear hmm hp0 hm hsub hall hD hS hbl
  refine inv_fin rfl rfl (fun K hK=>?_)
  simp only [putG,putT,qu,qv,qx] at hK ⊢
  rw [x17]
  go_simp
  refine hK _ _ ?_
  clear hK K
  refine noPanicN ?_
  go_wp2_with fail
  go_ret
  exact ⟨_,rfl,HE.out,HS.out,HB.out⟩
end
section
open Go.RowKit Go.Lib
structure McIn (w:World) (mb:Nat) (r:Rl) (n f t h a:Int) (b:Bool) (db eb:Nat):Prop where
 blk:w.heap[mb]?=some (.cells #[.int .i64 r.a,.int .i64 r.c,.int .i64 r.s,.int .i64 r.r,.int .i64 n,.int .i64 f,.int .i64 t,.int .i64 h,.int .i64 a,.bool b,.map (some db),.map (some eb),.slice none 0 0] 345 (0,0))
 dues:MpAt intE w db duesL
 eff:EffAt w eb
theorem McIn.fr {w w':World} {mb:Nat} {r:Rl} {n f t h a:Int} {b:Bool} {db eb:Nat} (hm:McIn w mb r n f t h a b db eb) {S:List Nat} (hf:Fr S w w') (hS:mb∉S∧db∉S∧eb∉S):McIn w' mb r n f t h a b db eb :=
 ⟨hf.keep hm.blk hS.1,hm.dues.keep hf hS.2.1,hm.eff.keep hf hS.2.2⟩
theorem McIn.same {w w':World} {mb:Nat} {r:Rl} {n f t h a:Int} {b:Bool} {db eb:Nat} (hm:McIn w mb r n f t h a b db eb) (hf:Fr [] w w'):McIn w' mb r n f t h a b db eb:=hm.fr hf (by simp)
theorem McIn.lt {w:World} {mb:Nat} {r:Rl} {n f t h a:Int} {b:Bool} {db eb:Nat} (hm:McIn w mb r n f t h a b db eb):mb < w.heap.size∧db < w.heap.size∧eb < w.heap.size :=
 ⟨blk_lt hm.blk,hm.dues.lt,by obtain ⟨l,h1,_⟩:=hm.eff;exact h1.lt⟩
theorem zeroDue (w:World):(zeroValue 351).run Tryz.prog w=.ok (.agg #[.nilFunc,.int .i64 0]) w:=by kernel_rfl
theorem alloc2m (w:World) (o0 o1:Obj):((w.alloc o0).alloc o1).heap[w.heap.size]?=some o0∧((w.alloc o0).alloc o1).heap[w.heap.size+1]?=some o1∧Fr [] w ((w.alloc o0).alloc o1)∧((w.alloc o0).alloc o1).heap.size=w.heap.size+1+1:=by
 have h1:=qm (w.alloc o0) o1
 simp only [World.size_alloc] at h1
 exact ⟨(Fr.alloc [] _ _).keep (qm w o0) (by simp),h1,(Fr.alloc _ _ _).trans (Fr.alloc _ _ _),by simp⟩
set_option maxRecDepth 100000 in
set_option maxHeartbeats 2000000 in
theorem begins_asked (mb:Nat) (r:Rl) (n f t h a:Int) (b:Bool) (db eb:Nat) (s z:Int) (hs:s=1) (w:World) (hm:McIn w mb r n f t h a b db eb) (hr:r.ok) (hz:0≤z∧z≤1000000000) :
  Calls Tryz.prog 214 #[.pointer (some ⟨mb,0,none⟩),.int .i64 s,.int .i64 z] w fun e w'=>e=.returned (cstV r (s,z))∧Fr [] w w':=by
 have A2:=alloc2m w (.cells #[.int .i64 0,.int .i64 0,.int .i64 0] 288) (.cells #[.int .i64 s,.int .i64 z,.int .i64 (-1)] 288)
 have HM:=qj hm
 have hlt:=hm.lt
 subst hs
 obtain ⟨ra,rc,rs,rr⟩:=r
 obtain ⟨r1,r2,r3,r4⟩:=hr
 simp only at r1 r2 r3 r4
 clear hm
 obtain ⟨w2,hw2⟩:∃ w2,(w.alloc (.cells #[.int .i64 0,.int .i64 0,.int .i64 0] 288)).alloc (.cells #[.int .i64 1,.int .i64 z,.int .i64 (-1)] 288)=w2:=⟨_,rfl⟩
 rw [hw2] at A2
 have HW:=qj hw2
 clear hw2
 go_enter Tryz.func214,Tryz.ntmps214
 go_upto_region 2 with fail
 rw [HW.out]
 clear HW
 obtain ⟨b0,b1,f2,hz2⟩:=A2
 have HB0:=qj b0;have HB1:=qj b1;have HF:=qj f2;have HZ:=qj hz2
 have HM2:=qj (HM.out.same f2)
 have m10:w2.cell? ⟨mb,10,none⟩=some (.map (some db)):=qd HM2.out.blk 10
 clear b0 b1 f2 hz2
 go_wp2_with (first | ((with_reducible refine wpList_of_wp (o:=⟨some 19,_,_,_,_,_⟩) rfl (fun K hK=>?_));apply stopD;case _other=>exact trivial))
 (refine stopD ?_ ?_;rotate_left;exact trivial)
 refine wp_look 340 351 (.tmp 17) (.tmp 18) true 1 rfl rfl rfl HM2.out.dues keyInt Tryz.underlying340 (zeroDue _) rfl (hK _ _ ?_)
 clear hK K m10
 rw [show getA duesL 1=some (.agg #[.func (.func 222) #[] #[],.int .i64 3]) from rfl]
 go_wp2_with fail
 have B3:=qm w2 (.cells #[.func (.func 222) #[] #[],.int .i64 3] 351)
 have F3:=Fr.alloc [] w2 (.cells #[.func (.func 222) #[] #[],.int .i64 3] 351)
 have HM3:=qj (HM2.out.same F3)
 have HB3:=qj B3;have HF3:=qj (HF.out.trans F3)
 have HN1:=qj (F3.keep HB1.out (by simp));have HN0:=qj (F3.keep HB0.out (by simp))
 have hz3:=qj (World.size_alloc w2 (.cells #[.func (.func 222) #[] #[],.int .i64 3] 351))
 rw [HZ.out] at HB3 ⊢
 generalize w2.alloc (.cells #[.func (.func 222) #[] #[],.int .i64 3] 351)=w3 at *
 clear B3 F3
 refine reg_fin (Fr [] w3) 10 [0,1,2,3,4,5,6,7,8,9,10] (by kernel_rfl) (by kernel_rfl) (by kernel_rfl) rfl ?_
 have FC:Fr [] w3 w3.drew:=Fr.drew _ _
 generalize w3.drew=WC at FC ⊢
 iterate 7 (refine fin_take (v:=?_) rfl rfl rfl rfl FC (fun w hS=>?_) ?_;rotate_left;(focus (have M3:=HM3.out.same hS;have k0:=qd M3.blk 0;have k1:=qd M3.blk 1;have k2:=qd M3.blk 2;have k3:=qd M3.blk 3;have D3:=hS.keep HB3.out (by simp);have d0:=qd D3 0;clear M3 D3;clear hS;go_simp;rfl));simp only [qu,qv,qx])
 refine fin_do rfl rfl rfl (fun K hK=>?_)
 go_simp
 refine (clAnswer_c ra rc rs rr WC).mono ?_
 rintro e wq ⟨rfl,fq⟩
 have FC:=FC.trans fq
 refine hK _ _ FC ?_
 clear hK K fq
 try simp only [Act.put,qu,qv,qx]
 iterate 2 (refine fin_take (v:=?_) rfl rfl rfl rfl FC (fun w hS=>?_) ?_;rotate_left;(focus (clear hS;go_simp;first | rw [IntWalk.i64_in (z+ra) (by omega)] | rfl));simp only [qu,qv,qx])
 have N1:=FC.keep HN1.out (by simp)
 have n2:=qd N1 2;have y2:=ql N1 2
 refine fin_last rfl rfl rfl (fun K hK=>?_)
 go_simp
 refine hK _ _ ?_
 clear hK K
 have P1:=qj (qs (i:=2) (.int .i64 (z+ra)) N1)
 have FS:Fr [w.heap.size+1] w3 (wq.setCell ⟨w.heap.size+1,2,none⟩ (.int .i64 (z+ra))):=(FC.mono (by simp)).trans (Fr.setCell _ _ (by simp))
 have P0:=FS.keep HN0.out (by simp)
 generalize wq.setCell ⟨w.heap.size+1,2,none⟩ (.int .i64 (z+ra))=V at *
 have HFV:=qj (HF3.out.step FS (fun k hk=>.inr (by simp at hk;omega)))
 have p0:=qd P1.out 0;have p1:=qd P1.out 1;have p2:=qd P1.out 2
 have o0:=qd P0 0;have o1:=qd P0 1;have o2:=qd P0 2
 have g0:=ql P0 0;have g1:=ql P0 1;have g2:=ql P0 2
 clear HM HM2 HM3 HB0 HB1 HB3 HN0 HN1 FC FS N1 n2 y2 hlt
 go_wp2_with fail
 obtain ⟨BS,FS⟩:=set3c P0 (.int .i64 1) (.int .i64 z) (.int .i64 (z+ra))
 generalize ((V.setCell ⟨w.heap.size,0,none⟩ (.int .i64 1)).setCell ⟨w.heap.size,1,none⟩ (.int .i64 z)).setCell ⟨w.heap.size,2,none⟩ (.int .i64 (z+ra))=V2 at *
 have k0:=qd BS 0;have k1:=qd BS 1;have k2:=qd BS 2
 refine bodyPost_ret (v:=cstV ⟨ra,rc,rs,rr⟩ (1,z)) (by simp [results,Tryz.results214,go_sem,k0,k1,k2,nxS]) rfl ⟨rfl,?_⟩
 exact HFV.out.step FS (fun k hk=>.inr (by simp at hk;omega))
set_option maxRecDepth 100000 in
set_option maxHeartbeats 2000000 in
theorem begins_disputed (mb:Nat) (r:Rl) (n f t h a:Int) (b:Bool) (db eb:Nat) (s z:Int) (hs:s=2) (w:World) (hm:McIn w mb r n f t h a b db eb) (hr:r.ok) (hz:0≤z∧z≤1000000000) :
  Calls Tryz.prog 214 #[.pointer (some ⟨mb,0,none⟩),.int .i64 s,.int .i64 z] w fun e w'=>e=.returned (cstV r (s,z))∧Fr [] w w':=by
 have A2:=alloc2m w (.cells #[.int .i64 0,.int .i64 0,.int .i64 0] 288) (.cells #[.int .i64 s,.int .i64 z,.int .i64 (-1)] 288)
 have HM:=qj hm
 have hlt:=hm.lt
 subst hs
 obtain ⟨ra,rc,rs,rr⟩:=r
 obtain ⟨r1,r2,r3,r4⟩:=hr
 simp only at r1 r2 r3 r4
 clear hm
 obtain ⟨w2,hw2⟩:∃ w2,(w.alloc (.cells #[.int .i64 0,.int .i64 0,.int .i64 0] 288)).alloc (.cells #[.int .i64 2,.int .i64 z,.int .i64 (-1)] 288)=w2:=⟨_,rfl⟩
 rw [hw2] at A2
 have HW:=qj hw2
 clear hw2
 go_enter Tryz.func214,Tryz.ntmps214
 go_upto_region 2 with fail
 rw [HW.out]
 clear HW
 obtain ⟨b0,b1,f2,hz2⟩:=A2
 have HB0:=qj b0;have HB1:=qj b1;have HF:=qj f2;have HZ:=qj hz2
 have HM2:=qj (HM.out.same f2)
 have m10:w2.cell? ⟨mb,10,none⟩=some (.map (some db)):=qd HM2.out.blk 10
 clear b0 b1 f2 hz2
 go_wp2_with (first | ((with_reducible refine wpList_of_wp (o:=⟨some 19,_,_,_,_,_⟩) rfl (fun K hK=>?_));apply stopD;case _other=>exact trivial))
 (refine stopD ?_ ?_;rotate_left;exact trivial)
 refine wp_look 340 351 (.tmp 17) (.tmp 18) true 2 rfl rfl rfl HM2.out.dues keyInt Tryz.underlying340 (zeroDue _) rfl (hK _ _ ?_)
 clear hK K m10
 rw [show getA duesL 2=some (.agg #[.func (.func 223) #[] #[],.int .i64 3]) from rfl]
 go_wp2_with fail
 have B3:=qm w2 (.cells #[.func (.func 223) #[] #[],.int .i64 3] 351)
 have F3:=Fr.alloc [] w2 (.cells #[.func (.func 223) #[] #[],.int .i64 3] 351)
 have HM3:=qj (HM2.out.same F3)
 have HB3:=qj B3;have HF3:=qj (HF.out.trans F3)
 have HN1:=qj (F3.keep HB1.out (by simp));have HN0:=qj (F3.keep HB0.out (by simp))
 have hz3:=qj (World.size_alloc w2 (.cells #[.func (.func 223) #[] #[],.int .i64 3] 351))
 rw [HZ.out] at HB3 ⊢
 generalize w2.alloc (.cells #[.func (.func 223) #[] #[],.int .i64 3] 351)=w3 at *
 clear B3 F3
 refine reg_fin (Fr [] w3) 10 [0,1,2,3,4,5,6,7,8,9,10] (by kernel_rfl) (by kernel_rfl) (by kernel_rfl) rfl ?_
 have FC:Fr [] w3 w3.drew:=Fr.drew _ _
 generalize w3.drew=WC at FC ⊢
 iterate 7 (refine fin_take (v:=?_) rfl rfl rfl rfl FC (fun w hS=>?_) ?_;rotate_left;(focus (have M3:=HM3.out.same hS;have k0:=qd M3.blk 0;have k1:=qd M3.blk 1;have k2:=qd M3.blk 2;have k3:=qd M3.blk 3;have D3:=hS.keep HB3.out (by simp);have d0:=qd D3 0;clear M3 D3;clear hS;go_simp;rfl));simp only [qu,qv,qx])
 refine fin_do rfl rfl rfl (fun K hK=>?_)
 go_simp
 refine (clSettle_c ra rc rs rr WC).mono ?_
 rintro e wq ⟨rfl,fq⟩
 have FC:=FC.trans fq
 refine hK _ _ FC ?_
 clear hK K fq
 try simp only [Act.put,qu,qv,qx]
 iterate 2 (refine fin_take (v:=?_) rfl rfl rfl rfl FC (fun w hS=>?_) ?_;rotate_left;(focus (clear hS;go_simp;first | rw [IntWalk.i64_in (z+rs) (by omega)] | rfl));simp only [qu,qv,qx])
 have N1:=FC.keep HN1.out (by simp)
 have n2:=qd N1 2;have y2:=ql N1 2
 refine fin_last rfl rfl rfl (fun K hK=>?_)
 go_simp
 refine hK _ _ ?_
 clear hK K
 have P1:=qj (qs (i:=2) (.int .i64 (z+rs)) N1)
 have FS:Fr [w.heap.size+1] w3 (wq.setCell ⟨w.heap.size+1,2,none⟩ (.int .i64 (z+rs))):=(FC.mono (by simp)).trans (Fr.setCell _ _ (by simp))
 have P0:=FS.keep HN0.out (by simp)
 generalize wq.setCell ⟨w.heap.size+1,2,none⟩ (.int .i64 (z+rs))=V at *
 have HFV:=qj (HF3.out.step FS (fun k hk=>.inr (by simp at hk;omega)))
 have p0:=qd P1.out 0;have p1:=qd P1.out 1;have p2:=qd P1.out 2
 have o0:=qd P0 0;have o1:=qd P0 1;have o2:=qd P0 2
 have g0:=ql P0 0;have g1:=ql P0 1;have g2:=ql P0 2
 clear HM HM2 HM3 HB0 HB1 HB3 HN0 HN1 FC FS N1 n2 y2 hlt
 go_wp2_with fail
 obtain ⟨BS,FS⟩:=set3c P0 (.int .i64 2) (.int .i64 z) (.int .i64 (z+rs))
 generalize ((V.setCell ⟨w.heap.size,0,none⟩ (.int .i64 2)).setCell ⟨w.heap.size,1,none⟩ (.int .i64 z)).setCell ⟨w.heap.size,2,none⟩ (.int .i64 (z+rs))=V2 at *
 have k0:=qd BS 0;have k1:=qd BS 1;have k2:=qd BS 2
 refine bodyPost_ret (v:=cstV ⟨ra,rc,rs,rr⟩ (2,z)) (by simp [results,Tryz.results214,go_sem,k0,k1,k2,nxS]) rfl ⟨rfl,?_⟩
 exact HFV.out.step FS (fun k hk=>.inr (by simp at hk;omega))
set_option maxRecDepth 100000 in
set_option maxHeartbeats 2000000 in
theorem begins_cooling (mb:Nat) (r:Rl) (n f t h a:Int) (b:Bool) (db eb:Nat) (s z:Int) (hs:s=3) (w:World) (hm:McIn w mb r n f t h a b db eb) (hr:r.ok) (hz:0≤z∧z≤1000000000) :
  Calls Tryz.prog 214 #[.pointer (some ⟨mb,0,none⟩),.int .i64 s,.int .i64 z] w fun e w'=>e=.returned (cstV r (s,z))∧Fr [] w w':=by
 have A2:=alloc2m w (.cells #[.int .i64 0,.int .i64 0,.int .i64 0] 288) (.cells #[.int .i64 s,.int .i64 z,.int .i64 (-1)] 288)
 have HM:=qj hm
 have hlt:=hm.lt
 subst hs
 obtain ⟨ra,rc,rs,rr⟩:=r
 obtain ⟨r1,r2,r3,r4⟩:=hr
 simp only at r1 r2 r3 r4
 clear hm
 obtain ⟨w2,hw2⟩:∃ w2,(w.alloc (.cells #[.int .i64 0,.int .i64 0,.int .i64 0] 288)).alloc (.cells #[.int .i64 3,.int .i64 z,.int .i64 (-1)] 288)=w2:=⟨_,rfl⟩
 rw [hw2] at A2
 have HW:=qj hw2
 clear hw2
 go_enter Tryz.func214,Tryz.ntmps214
 go_upto_region 2 with fail
 rw [HW.out]
 clear HW
 obtain ⟨b0,b1,f2,hz2⟩:=A2
 have HB0:=qj b0;have HB1:=qj b1;have HF:=qj f2;have HZ:=qj hz2
 have HM2:=qj (HM.out.same f2)
 have m10:w2.cell? ⟨mb,10,none⟩=some (.map (some db)):=qd HM2.out.blk 10
 clear b0 b1 f2 hz2
 go_wp2_with (first | ((with_reducible refine wpList_of_wp (o:=⟨some 19,_,_,_,_,_⟩) rfl (fun K hK=>?_));apply stopD;case _other=>exact trivial))
 (refine stopD ?_ ?_;rotate_left;exact trivial)
 refine wp_look 340 351 (.tmp 17) (.tmp 18) true 3 rfl rfl rfl HM2.out.dues keyInt Tryz.underlying340 (zeroDue _) rfl (hK _ _ ?_)
 clear hK K m10
 rw [show getA duesL 3=some (.agg #[.func (.func 224) #[] #[],.int .i64 4]) from rfl]
 go_wp2_with fail
 have B3:=qm w2 (.cells #[.func (.func 224) #[] #[],.int .i64 4] 351)
 have F3:=Fr.alloc [] w2 (.cells #[.func (.func 224) #[] #[],.int .i64 4] 351)
 have HM3:=qj (HM2.out.same F3)
 have HB3:=qj B3;have HF3:=qj (HF.out.trans F3)
 have HN1:=qj (F3.keep HB1.out (by simp));have HN0:=qj (F3.keep HB0.out (by simp))
 have hz3:=qj (World.size_alloc w2 (.cells #[.func (.func 224) #[] #[],.int .i64 4] 351))
 rw [HZ.out] at HB3 ⊢
 generalize w2.alloc (.cells #[.func (.func 224) #[] #[],.int .i64 4] 351)=w3 at *
 clear B3 F3
 refine reg_fin (Fr [] w3) 10 [0,1,2,3,4,5,6,7,8,9,10] (by kernel_rfl) (by kernel_rfl) (by kernel_rfl) rfl ?_
 have FC:Fr [] w3 w3.drew:=Fr.drew _ _
 generalize w3.drew=WC at FC ⊢
 iterate 7 (refine fin_take (v:=?_) rfl rfl rfl rfl FC (fun w hS=>?_) ?_;rotate_left;(focus (have M3:=HM3.out.same hS;have k0:=qd M3.blk 0;have k1:=qd M3.blk 1;have k2:=qd M3.blk 2;have k3:=qd M3.blk 3;have D3:=hS.keep HB3.out (by simp);have d0:=qd D3 0;clear M3 D3;clear hS;go_simp;rfl));simp only [qu,qv,qx])
 refine fin_do rfl rfl rfl (fun K hK=>?_)
 go_simp
 refine (clCooling_c ra rc rs rr WC).mono ?_
 rintro e wq ⟨rfl,fq⟩
 have FC:=FC.trans fq
 refine hK _ _ FC ?_
 clear hK K fq
 try simp only [Act.put,qu,qv,qx]
 iterate 2 (refine fin_take (v:=?_) rfl rfl rfl rfl FC (fun w hS=>?_) ?_;rotate_left;(focus (clear hS;go_simp;first | rw [IntWalk.i64_in (z+rc) (by omega)] | rfl));simp only [qu,qv,qx])
 have N1:=FC.keep HN1.out (by simp)
 have n2:=qd N1 2;have y2:=ql N1 2
 refine fin_last rfl rfl rfl (fun K hK=>?_)
 go_simp
 refine hK _ _ ?_
 clear hK K
 have P1:=qj (qs (i:=2) (.int .i64 (z+rc)) N1)
 have FS:Fr [w.heap.size+1] w3 (wq.setCell ⟨w.heap.size+1,2,none⟩ (.int .i64 (z+rc))):=(FC.mono (by simp)).trans (Fr.setCell _ _ (by simp))
 have P0:=FS.keep HN0.out (by simp)
 generalize wq.setCell ⟨w.heap.size+1,2,none⟩ (.int .i64 (z+rc))=V at *
 have HFV:=qj (HF3.out.step FS (fun k hk=>.inr (by simp at hk;omega)))
 have p0:=qd P1.out 0;have p1:=qd P1.out 1;have p2:=qd P1.out 2
 have o0:=qd P0 0;have o1:=qd P0 1;have o2:=qd P0 2
 have g0:=ql P0 0;have g1:=ql P0 1;have g2:=ql P0 2
 clear HM HM2 HM3 HB0 HB1 HB3 HN0 HN1 FC FS N1 n2 y2 hlt
 go_wp2_with fail
 obtain ⟨BS,FS⟩:=set3c P0 (.int .i64 3) (.int .i64 z) (.int .i64 (z+rc))
 generalize ((V.setCell ⟨w.heap.size,0,none⟩ (.int .i64 3)).setCell ⟨w.heap.size,1,none⟩ (.int .i64 z)).setCell ⟨w.heap.size,2,none⟩ (.int .i64 (z+rc))=V2 at *
 have k0:=qd BS 0;have k1:=qd BS 1;have k2:=qd BS 2
 refine bodyPost_ret (v:=cstV ⟨ra,rc,rs,rr⟩ (3,z)) (by simp [results,Tryz.results214,go_sem,k0,k1,k2,nxS]) rfl ⟨rfl,?_⟩
 exact HFV.out.step FS (fun k hk=>.inr (by simp at hk;omega))
set_option maxRecDepth 100000 in
set_option maxHeartbeats 2000000 in
theorem begins_effective (mb:Nat) (r:Rl) (n f t h a:Int) (b:Bool) (db eb:Nat) (s z:Int) (hs:s=4) (w:World) (hm:McIn w mb r n f t h a b db eb) (hr:r.ok) (hz:0≤z∧z≤1000000000) :
  Calls Tryz.prog 214 #[.pointer (some ⟨mb,0,none⟩),.int .i64 s,.int .i64 z] w fun e w'=>e=.returned (cstV r (s,z))∧Fr [] w w':=by
 have A2:=alloc2m w (.cells #[.int .i64 0,.int .i64 0,.int .i64 0] 288) (.cells #[.int .i64 s,.int .i64 z,.int .i64 (-1)] 288)
 have HM:=qj hm
 have hlt:=hm.lt
 subst hs
 obtain ⟨ra,rc,rs,rr⟩:=r
 obtain ⟨r1,r2,r3,r4⟩:=hr
 simp only at r1 r2 r3 r4
 clear hm
 obtain ⟨w2,hw2⟩:∃ w2,(w.alloc (.cells #[.int .i64 0,.int .i64 0,.int .i64 0] 288)).alloc (.cells #[.int .i64 4,.int .i64 z,.int .i64 (-1)] 288)=w2:=⟨_,rfl⟩
 rw [hw2] at A2
 have HW:=qj hw2
 clear hw2
 go_enter Tryz.func214,Tryz.ntmps214
 go_upto_region 2 with fail
 rw [HW.out]
 clear HW
 obtain ⟨b0,b1,f2,hz2⟩:=A2
 have HB0:=qj b0;have HB1:=qj b1;have HF:=qj f2;have HZ:=qj hz2
 have HM2:=qj (HM.out.same f2)
 have m10:w2.cell? ⟨mb,10,none⟩=some (.map (some db)):=qd HM2.out.blk 10
 clear b0 b1 f2 hz2
 go_wp2_with (first | ((with_reducible refine wpList_of_wp (o:=⟨some 19,_,_,_,_,_⟩) rfl (fun K hK=>?_));apply stopD;case _other=>exact trivial))
 (refine stopD ?_ ?_;rotate_left;exact trivial)
 refine wp_look 340 351 (.tmp 17) (.tmp 18) true 4 rfl rfl rfl HM2.out.dues keyInt Tryz.underlying340 (zeroDue _) rfl (hK _ _ ?_)
 clear hK K m10
 rw [show getA duesL 4=some (.agg #[.func (.func 225) #[] #[],.int .i64 5]) from rfl]
 go_wp2_with fail
 have B3:=qm w2 (.cells #[.func (.func 225) #[] #[],.int .i64 5] 351)
 have F3:=Fr.alloc [] w2 (.cells #[.func (.func 225) #[] #[],.int .i64 5] 351)
 have HM3:=qj (HM2.out.same F3)
 have HB3:=qj B3;have HF3:=qj (HF.out.trans F3)
 have HN1:=qj (F3.keep HB1.out (by simp));have HN0:=qj (F3.keep HB0.out (by simp))
 have hz3:=qj (World.size_alloc w2 (.cells #[.func (.func 225) #[] #[],.int .i64 5] 351))
 rw [HZ.out] at HB3 ⊢
 generalize w2.alloc (.cells #[.func (.func 225) #[] #[],.int .i64 5] 351)=w3 at *
 clear B3 F3
 refine reg_fin (Fr [] w3) 10 [0,1,2,3,4,5,6,7,8,9,10] (by kernel_rfl) (by kernel_rfl) (by kernel_rfl) rfl ?_
 have FC:Fr [] w3 w3.drew:=Fr.drew _ _
 generalize w3.drew=WC at FC ⊢
 iterate 7 (refine fin_take (v:=?_) rfl rfl rfl rfl FC (fun w hS=>?_) ?_;rotate_left;(focus (have M3:=HM3.out.same hS;have k0:=qd M3.blk 0;have k1:=qd M3.blk 1;have k2:=qd M3.blk 2;have k3:=qd M3.blk 3;have D3:=hS.keep HB3.out (by simp);have d0:=qd D3 0;clear M3 D3;clear hS;go_simp;rfl));simp only [qu,qv,qx])
 refine fin_do rfl rfl rfl (fun K hK=>?_)
 go_simp
 refine (clReverse_c ra rc rs rr WC).mono ?_
 rintro e wq ⟨rfl,fq⟩
 have FC:=FC.trans fq
 refine hK _ _ FC ?_
 clear hK K fq
 try simp only [Act.put,qu,qv,qx]
 iterate 2 (refine fin_take (v:=?_) rfl rfl rfl rfl FC (fun w hS=>?_) ?_;rotate_left;(focus (clear hS;go_simp;first | rw [IntWalk.i64_in (z+rr) (by omega)] | rfl));simp only [qu,qv,qx])
 have N1:=FC.keep HN1.out (by simp)
 have n2:=qd N1 2;have y2:=ql N1 2
 refine fin_last rfl rfl rfl (fun K hK=>?_)
 go_simp
 refine hK _ _ ?_
 clear hK K
 have P1:=qj (qs (i:=2) (.int .i64 (z+rr)) N1)
 have FS:Fr [w.heap.size+1] w3 (wq.setCell ⟨w.heap.size+1,2,none⟩ (.int .i64 (z+rr))):=(FC.mono (by simp)).trans (Fr.setCell _ _ (by simp))
 have P0:=FS.keep HN0.out (by simp)
 generalize wq.setCell ⟨w.heap.size+1,2,none⟩ (.int .i64 (z+rr))=V at *
 have HFV:=qj (HF3.out.step FS (fun k hk=>.inr (by simp at hk;omega)))
 have p0:=qd P1.out 0;have p1:=qd P1.out 1;have p2:=qd P1.out 2
 have o0:=qd P0 0;have o1:=qd P0 1;have o2:=qd P0 2
 have g0:=ql P0 0;have g1:=ql P0 1;have g2:=ql P0 2
 clear HM HM2 HM3 HB0 HB1 HB3 HN0 HN1 FC FS N1 n2 y2 hlt
 go_wp2_with fail
 obtain ⟨BS,FS⟩:=set3c P0 (.int .i64 4) (.int .i64 z) (.int .i64 (z+rr))
 generalize ((V.setCell ⟨w.heap.size,0,none⟩ (.int .i64 4)).setCell ⟨w.heap.size,1,none⟩ (.int .i64 z)).setCell ⟨w.heap.size,2,none⟩ (.int .i64 (z+rr))=V2 at *
 have k0:=qd BS 0;have k1:=qd BS 1;have k2:=qd BS 2
 refine bodyPost_ret (v:=cstV ⟨ra,rc,rs,rr⟩ (4,z)) (by simp [results,Tryz.results214,go_sem,k0,k1,k2,nxS]) rfl ⟨rfl,?_⟩
 exact HFV.out.step FS (fun k hk=>.inr (by simp at hk;omega))
set_option maxRecDepth 100000 in
set_option maxHeartbeats 2000000 in
theorem begins_other (mb:Nat) (r:Rl) (n f t h a:Int) (b:Bool) (db eb:Nat) (s z:Int) (hs:s≠1∧s≠2∧s≠3∧s≠4) (w:World) (hm:McIn w mb r n f t h a b db eb) (hr:r.ok) (_hz:0≤z∧z≤1000000000) :
  Calls Tryz.prog 214 #[.pointer (some ⟨mb,0,none⟩),.int .i64 s,.int .i64 z] w fun e w'=>e=.returned (cstV r (s,z))∧Fr [] w w':=by
 have A2:=alloc2m w (.cells #[.int .i64 0,.int .i64 0,.int .i64 0] 288) (.cells #[.int .i64 s,.int .i64 z,.int .i64 (-1)] 288)
 have HM:=qj hm
 have hlt:=hm.lt
 have HNO:Hid (getA duesL s=none∧∀ r:Rl,nxS r (s,z)=-1):=by
  obtain ⟨h1,h2,h3,h4⟩:=hs
  refine qj ⟨?_,fun r=>?_⟩
  ·simp only [duesL,getA]
   rw [if_neg (Ne.symm h1),if_neg (Ne.symm h2),if_neg (Ne.symm h3),if_neg (Ne.symm h4)]
  ·unfold nxS
   simp only
   rw [if_neg h1,if_neg h2,if_neg h3,if_neg h4]
 clear hs
 obtain ⟨ra,rc,rs,rr⟩:=r
 obtain ⟨r1,r2,r3,r4⟩:=hr
 simp only at r1 r2 r3 r4
 clear hm
 obtain ⟨w2,hw2⟩:∃ w2,(w.alloc (.cells #[.int .i64 0,.int .i64 0,.int .i64 0] 288)).alloc (.cells #[.int .i64 s,.int .i64 z,.int .i64 (-1)] 288)=w2:=⟨_,rfl⟩
 rw [hw2] at A2
 have HW:=qj hw2
 clear hw2
 go_enter Tryz.func214,Tryz.ntmps214
 go_upto_region 2 with fail
 rw [HW.out]
 clear HW
 obtain ⟨b0,b1,f2,hz2⟩:=A2
 have HB0:=qj b0;have HB1:=qj b1;have HF:=qj f2;have HZ:=qj hz2
 have HM2:=qj (HM.out.same f2)
 have m10:w2.cell? ⟨mb,10,none⟩=some (.map (some db)):=qd HM2.out.blk 10
 clear b0 b1 f2 hz2
 go_wp2_with (first | ((with_reducible refine wpList_of_wp (o:=⟨some 19,_,_,_,_,_⟩) rfl (fun K hK=>?_));apply stopD;case _other=>exact trivial))
 (refine stopD ?_ ?_;rotate_left;exact trivial)
 refine wp_look 340 351 (.tmp 17) (.tmp 18) true s rfl rfl rfl HM2.out.dues keyInt Tryz.underlying340 (zeroDue _) rfl (hK _ _ ?_)
 clear hK K m10
 rw [HNO.out.1]
 have F3:=Fr.alloc [] w2 (.cells #[.nilFunc,.int .i64 0] 351)
 have HN1:=F3.keep HB1.out (by simp);have HN0:=F3.keep HB0.out (by simp)
 have HF3:=qj (HF.out.trans F3)
 have p0:=qd HN1 0;have p1:=qd HN1 1;have p2:=qd HN1 2
 have o0:=qd HN0 0;have o1:=qd HN0 1;have o2:=qd HN0 2
 have g0:=ql HN0 0;have g1:=ql HN0 1;have g2:=ql HN0 2
 clear F3 HN1 HM HM2
 go_wp2_with fail
 generalize w2.alloc (.cells #[.nilFunc,.int .i64 0] 351)=V at *
 obtain ⟨BS,FS⟩:=set3c HN0 (.int .i64 s) (.int .i64 z) (.int .i64 (-1))
 generalize ((V.setCell ⟨w.heap.size,0,none⟩ (.int .i64 s)).setCell ⟨w.heap.size,1,none⟩ (.int .i64 z)).setCell ⟨w.heap.size,2,none⟩ (.int .i64 (-1))=V2 at *
 have k0:=qd BS 0;have k1:=qd BS 1;have k2:=qd BS 2
 refine bodyPost_ret (v:=cstV ⟨ra,rc,rs,rr⟩ (s,z)) (by simp [results,Tryz.results214,go_sem,k0,k1,k2,HNO.out.2]) rfl ⟨rfl,?_⟩
 exact HF3.out.step FS (fun k hk=>.inr (by simp at hk;omega))
theorem begins_c (mb:Nat) (r:Rl) (n f t h a:Int) (b:Bool) (db eb:Nat) (s z:Int) (w:World) (hm:McIn w mb r n f t h a b db eb) (hr:r.ok) (hz:0≤z∧z≤1000000000) :
  Calls Tryz.prog 214 #[.pointer (some ⟨mb,0,none⟩),.int .i64 s,.int .i64 z] w fun e w'=>e=.returned (cstV r (s,z))∧Fr [] w w':=by
 by_cases h1:s=1
 ·exact begins_asked mb r n f t h a b db eb s z h1 w hm hr hz
 by_cases h2:s=2
 ·exact begins_disputed mb r n f t h a b db eb s z h2 w hm hr hz
 by_cases h3:s=3
 ·exact begins_cooling mb r n f t h a b db eb s z h3 w hm hr hz
 by_cases h4:s=4
 ·exact begins_effective mb r n f t h a b db eb s z h4 w hm hr hz
 exact begins_other mb r n f t h a b db eb s z ⟨h1,h2,h3,h4⟩ w hm hr hz
end
section
open Go.RowKit Go.Lib
theorem zeroInt (w:World):(zeroValue 3).run Tryz.prog w=.ok (.int .i64 0) w:=by kernel_rfl
theorem effV_get (k:Int × Int):((getA effV k).getD (.int .i64 0))=.int .i64 ((getA effL k).getD 0)∧(getA effV k).isSome=(getA effL k).isSome:=by
 unfold effV
 rw [getA_mapV]
 cases getA effL k <;> exact ⟨rfl,rfl⟩
set_option maxRecDepth 100000 in
set_option maxHeartbeats 2000000 in
theorem after_c (mb:Nat) (r:Rl) (n f t h a:Int) (b:Bool) (db eb:Nat) (s k z y:Int) (w:World) (hm:McIn w mb r n f t h a b db eb) :
  Calls Tryz.prog 216 #[.pointer (some ⟨mb,0,none⟩),.int .i64 s,.agg #[.int .i64 k,.int .i64 z,.int .i64 y]] w fun e w'=>e=.returned (.tuple #[.int .i64 (aftM b k y s).1,.bool (aftM b k y s).2])∧Fr [] w w':=by
 have F1:=Fr.alloc [] w (.cells #[.int .i64 k,.int .i64 z,.int .i64 y] 29)
 have HB1:=qj (qm w (.cells #[.int .i64 k,.int .i64 z,.int .i64 y] 29))
 have HM1:=qj (hm.same F1)
 have HF1:=qj F1
 have HG:=qj (effV_get (k,s))
 unfold aftM
 clear hm F1
 go_enter Tryz.func216,Tryz.ntmps216
 go_wp2_with fail
 generalize w.alloc (.cells #[.int .i64 k,.int .i64 z,.int .i64 y] 29)=w1 at *
 refine reg_mix (Fr [] w1) [0,1,2,3,4,5,6,7,8,9,10,11,12,13] (by kernel_rfl) (by kernel_rfl) (by kernel_rfl) rfl (Fr.drew _ _) ?_
 have FC:Fr [] w1 w1.drew:=Fr.drew _ _
 generalize w1.drew=WC at FC ⊢
 iterate 8 (refine mix_take1 (v:=?_) rfl rfl rfl rfl (fun w hS=>?_) ?_;rotate_left;(focus (have m11:=qd (HM1.out.same hS).blk 11;have B1:=hS.keep HB1.out (by simp);have x0:=qd B1 0;clear B1;clear hS;go_simp;rfl));simp only [qu,qv,qx])
 refine mix_do rfl rfl rfl (fun K hK=>?_)
 obtain ⟨l,hl,ha⟩:=(HM1.out.same FC).eff
 refine wp_look 342 3 (.tmp 14) (.tmp 18) true (k,s) rfl rfl rfl hl keyCs Tryz.underlying342 (zeroInt WC) rfl (hK _ _ FC ?_)
 rw [ha,HG.out.1,HG.out.2]
 clear hK K hl ha
 simp only [qu,qv,qx]
 obtain ⟨nx,hnx⟩:∃ nx,(getA effL (k,s)).getD 0=nx:=⟨_,rfl⟩
 obtain ⟨is,his⟩:∃ is,(getA effL (k,s)).isSome=is:=⟨_,rfl⟩
 rw [hnx,his]
 have HNX:=qj hnx;have HIS:=qj his
 clear hnx his
 iterate 5 (refine mix_take1 (v:=?_) rfl rfl rfl rfl (fun w hS=>?_) ?_;rotate_left;(focus (clear hS;go_simp;rfl));simp only [qu,qv,qx])
 refine mix_end ?_
 have B1:=FC.keep HB1.out (by simp)
 have x0:=qd B1 0;have x2:=qd B1 2
 have m9:=qd (HM1.out.same FC).blk 9
 have HF:=qj (HF1.out.trans FC)
 clear B1 FC HM1 HB1 HG
 cases hy:(y == 1) <;> cases hk:(k == 2) <;> cases is <;> cases b
 all_goals (go_wp2_with fail;go_ret2;refine ⟨?_,HF.out⟩;simp only [HNX.out,HIS.out,hy,hk];rfl)
end
end Go.Proofs.YtledkokhghjfmaaGreatDoor
