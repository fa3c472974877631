/-
  A region that draws its order, walked once (Reg.lean), where the LAST operation (fin) may break what the others rely on: no operation that is taken early can come behind it, for it waits for them.
-/
import Derived.Test.YtledkokhghjfmaaGreatDoorPS02
import Derived.OrdersIn
import Derived.OrdersHeld
import Derived.RegionTactic
namespace Go.Proofs.YtledkokhghjfmaaGreatDoor
section
section
variable {P:Program} {ops:Array Oper} {Q:Exit→Act→World→Prop} {S:World→Prop} {fin:Nat}
def Closed (ops:Array Oper) (listed:Array Bool):Prop:=∀ k o,ops[k]?=some o→listed.getD k false=true→∀ e∈o.after,Region.binds .any e=true→listed.getD e.on false=true
def waitsB (ops:Array Oper):Nat→Nat→Nat→Bool
 | 0,_,_=>false
 | n+1,i,f=>match ops[f]? with
  | none=>false
  | some o=>o.after.any fun e=>Region.binds .any e && (e.on == i || waitsB ops n i e.on)
theorem closed_set {listed:Array Bool} {j:Nat} (hc:Closed ops listed) (hj:j∈Region.ready .any ops listed):Closed ops (listed.setIfInBounds j true):=by
 intro k o ho hk e he hb
 refine getD_set_true ?_
 by_cases hjk:j=k
 ·subst hjk
  obtain ⟨_,oj,hoj,hall⟩:=mem_ready.1 hj
  rw [ho] at hoj
  cases hoj
  exact hall e he hb
 ·rw [getD_set_ne false hjk] at hk
  exact hc k o ho hk e he hb
theorem waits_listed {listed:Array Bool} {i:Nat} (hc:Closed ops listed):∀ (n f:Nat),waitsB ops n i f=true→(listed.getD f false=true∨f∈Region.ready .any ops listed)→listed.getD i false=true
 | 0,_,h,_=>by simp [waitsB] at h
 | n+1,f,h,hf=>by
  unfold waitsB at h
  cases ho:ops[f]? with
  | none=>simp [ho] at h
  | some o =>
   simp only [ho] at h
   have hp:∀ e∈o.after,Region.binds .any e=true→listed.getD e.on false=true:=by
    rcases hf with hf | hf
    ·exact hc f o ho hf
    ·obtain ⟨_,o',ho',hall⟩:=mem_ready.1 hf
     rw [ho] at ho'
     cases ho'
     exact hall
   rw [Array.any_eq_true] at h
   obtain ⟨x,hx,h⟩:=h
   simp only [Bool.and_eq_true,Bool.or_eq_true,beq_iff_eq] at h
   obtain ⟨hb,h1⟩:=h
   have he:=Array.getElem_mem hx
   generalize o.after[x]=e at *
   have hl:=hp e he hb
   rcases h1 with h1 | h1
   ·rw [← h1];exact hl
   ·exact waits_listed hc n e.on h1 (.inl hl)
def wpAnyF (P:Program) (ops:Array Oper) (Q:Exit→Act→World→Prop) (S:World→Prop) (fin:Nat):Nat→Array Bool→Act→World→Prop
 | 0,listed,a,w=>Region.ready .any ops listed=[]∧Q .normal a w
 | fuel+1,listed,a,w =>
  (Region.ready .any ops listed=[]→Q .normal a w) ∧
  ∀ i∈Region.ready .any ops listed,wpOp P ops Q i (fun a' w'=>((listed.setIfInBounds i true).getD fin false=true∨S w')∧wpAnyF P ops Q S fin fuel (listed.setIfInBounds i true) a' w') a w
theorem wpAny_of_F:∀ (fuel:Nat) (listed:Array Bool) (a:Act) (w:World),wpAnyF P ops Q S fin fuel listed a w→wpAny P .any ops Q fuel listed a w
 | 0,_,_,_,h=>h
 | fuel+1,_,_,_,h=>⟨h.1,fun i hi=>wpOp_mono (fun a' w' h'=>wpAny_of_F fuel _ a' w' h'.2) (h.2 i hi)⟩
theorem wpAnyF_first {i m:Nat} {oi:Oper} {v:Value} (hi:ops[i]?=some oi) (hsel:∀ (j:Nat) (o:Oper) cs b,ops[j]?=some o→o.op≠.select cs b)
  (hQ:∀ c a w,Q (.panic c) (a.put oi.dst v) w→Q (.panic c) a w) (hw:waitsB ops m i fin=true) :
  ∀ (fuel:Nat) (listed:Array Bool) (a:Act) (w:World),Closed ops listed →
   (∀ j oj,ops[j]?=some oj→j≠i→listed.getD j true=false→(∀ e∈oj.after,Region.binds .any e=true→e.on≠i)→oi.apart ops oj=true) →
   i∈Region.ready .any ops listed→YieldsIf P ops S oi v a→S w →
   wpAnyF P ops Q S fin fuel (listed.setIfInBounds i true) (a.put oi.dst v) w→wpAnyF P ops Q S fin (fuel+1) listed a w:=by
 intro fuel
 induction fuel with
 | zero =>
  intro listed a w _ _ hr hy hS H
  refine ⟨fun h=>(by rw [h] at hr;cases hr),fun j hj=>?_⟩
  by_cases hji:j=i
  ·subst hji;exact hy.wpOp hi hS ⟨.inr hS,H⟩
  ·have:=ready_mono hj hji
   rw [H.1] at this
   cases this
 | succ fuel ih =>
  intro listed a w hc hfree hr hy hS H
  refine ⟨fun h=>(by rw [h] at hr;cases hr),fun j hj=>?_⟩
  have hiun:∀ {l:Array Bool},i∈Region.ready .any ops l→l.getD i false=true→False:=fun h0 h1=>by
   have h2:=(mem_ready.1 h0).1
   rename_i l
   rcases Nat.lt_or_ge i l.size with h' | h'
   ·simp [h'] at h1 h2;rw [h2] at h1;cases h1
   ·simp [Array.getElem?_eq_none h'] at h1
  by_cases hji:j=i
  ·subst hji;exact hy.wpOp hi hS ⟨.inr hS,H⟩
  ·have h1:=H.2 j (ready_mono hj hji)
   obtain ⟨hjun,oj,hoj,hall⟩:=mem_ready.1 hj
   have hnot:∀ e∈oj.after,Region.binds .any e=true→e.on≠i:=fun e he hb heq=>hiun hr (heq ▸ hall e he hb)
   have h2:=wpOp_putIf hoj (hfree j oj hoj hji hjun hnot) (fun cs b=>hsel i oi cs b hi) (fun cs b=>hsel j oj cs b hoj) hQ hy h1
   have hfree':∀ k ok,ops[k]?=some ok→k≠i→(listed.setIfInBounds j true).getD k true=false →
     (∀ e∈ok.after,Region.binds .any e=true→e.on≠i)→oi.apart ops ok=true:=fun k ok hk hki hun hno=>by
    refine hfree k ok hk hki ?_ hno
    by_cases hjk:j=k
    ·subst hjk;exact hjun
    ·rw [getD_set_ne true hjk] at hun;exact hun
   have hr':=ready_mono hr (Ne.symm hji)
   have hc':=closed_set hc hj
   refine wpOp_mono (fun a' w' h3=>?_) h2
   have hnf:¬ (listed.setIfInBounds j true).getD fin false=true:=fun hf=>hiun hr' (waits_listed hc' m fin hw (.inl hf))
   have hS':S w':=by
    rcases h3.2.1 with h4 | h4
    ·exfalso
     by_cases hif:i=fin
     ·have:=waits_listed hc' m fin hw (.inr (hif ▸ hr'))
      exact hiun hr' this
     ·rw [Array.setIfInBounds_comm _ _ (Ne.symm hji),getD_set_ne false hif] at h4
      exact hnf h4
    ·exact h4
   refine ⟨.inr hS',ih (listed.setIfInBounds j true) a' w' hc' hfree' hr' h3.1 hS' ?_⟩
   rw [Array.setIfInBounds_comm _ _ hji]
   exact h3.2.2
def permF (ops:Array Oper) (fin:Nat):List Nat→Array Bool→Bool
 | [],listed=>(Region.ready .any ops listed).isEmpty
 | i :: rest,listed=>(match ops[i]? with
   | none=>false
   | some o=>decide (i < listed.size) && if effB o then Region.ready .any ops listed == [i] else Region.free .any ops listed i && (Region.ready .any ops listed).contains i && waitsB ops ops.size i fin) && permF ops fin rest (listed.setIfInBounds i true)
def wpMixF (P:Program) (ops:Array Oper) (Q:Exit→Act→World→Prop) (S:World→Prop) (fin:Nat):List Nat→Act→World→Prop
 | [],a,w=>Q .normal a w
 | i :: rest,a,w=>match ops[i]? with
  | none=>False
  | some o=>if effB o then wpOp P ops Q i (fun a' w'=>(i=fin∧rest=[]∨S w')∧wpMixF P ops Q S fin rest a' w') a w else ∃ v,YieldsIf P ops S o v a∧S w∧wpMixF P ops Q S fin rest (a.put o.dst v) w
theorem wpAnyF_of_mix (hs:Region.noSelect ops=true) (hQ:∀ (d:Option Tmp) (v:Value) c a w,Q (.panic c) (a.put d v) w→Q (.panic c) a w) :
  ∀ (perm:List Nat) (listed:Array Bool) (a:Act) (w:World),permF ops fin perm listed=true→Closed ops listed→wpMixF P ops Q S fin perm a w→wpAnyF P ops Q S fin perm.length listed a w
 | [],listed,a,w,hp,_,h=>by
  simp only [permF,List.isEmpty_iff] at hp
  exact ⟨hp,h⟩
 | i :: rest,listed,a,w,hp,hc,h=>by
  simp only [permF,Bool.and_eq_true] at hp
  obtain ⟨h1,h2⟩:=hp
  cases ho:ops[i]? with
  | none=>simp [ho] at h1
  | some o =>
   simp only [ho,Bool.and_eq_true,decide_eq_true_eq] at h1
   obtain ⟨hsz,h1⟩:=h1
   simp only [wpMixF,ho] at h
   cases he:effB o with
   | true =>
    simp only [he,if_true,beq_iff_eq] at h1
    simp only [he,if_true] at h
    refine ⟨fun h0=>(by rw [h0] at h1;cases h1),fun j hj=>?_⟩
    have hj':=hj
    rw [h1] at hj
    simp only [List.mem_singleton] at hj
    subst hj
    refine wpOp_mono (fun a' w' hh=>⟨?_,wpAnyF_of_mix hs hQ rest _ a' w' h2 (closed_set hc hj') hh.2⟩) h
    rcases hh.1 with ⟨h3,_⟩ | h3
    ·subst h3;exact .inl (by simp [hsz])
    ·exact .inr h3
   | false =>
    simp only [he,Bool.false_eq_true,if_false,Bool.and_eq_true] at h1 h
    obtain ⟨v,hy,hS,h3⟩:=h
    have hr:i∈Region.ready .any ops listed:=by simpa using h1.1.2
    exact wpAnyF_first ho (Region.noSelect_spec hs) (hQ o.dst v) h1.2 _ listed a w hc (Region.free_spec ho h1.1.1) hr hy hS (wpAnyF_of_mix hs hQ rest _ _ w h2 (closed_set hc hr) h3)
theorem reg_fin {id:Nat} {a:Act} {w:World} {l:List Oper} (S:World→Prop) (fin:Nat) (perm:List Nat) (hm:P.follows .mixedOrders=true) (hs:Region.noSelect l.toArray=true) (hp:permF l.toArray fin perm (Array.replicate l.toArray.size false)=true) (hl:perm.length=l.toArray.size)
  (h:wpMixF P l.toArray (NoPanic Q) S fin perm a w.drew):(Code.region id l.toArray true).wp P Q a w:=by
 have hc:Closed l.toArray (Array.replicate l.toArray.size false):=fun k o _ hk=>by
  exfalso
  rw [Array.getD_eq_getD_getElem?,Array.getElem?_replicate] at hk
  split at hk <;> cases hk
 have h2:=wpAnyF_of_mix hs (fun _ _ _ _ _ h=>h) perm _ a _ hp hc h
 rw [hl] at h2
 exact wp_region_noPanic (wp_region_any hm (wpAny_of_F _ _ _ _ h2))
theorem fin_take {i:Nat} {d:Tmp} {rest:List Nat} {a:Act} {w:World} {o:Oper} {v:Value} (ho:ops[i]?=some o) (hod:o.dst=some d) (he:effB o=false) (hg:o.guard=none) (hS:S w)
  (hy:∀ w,S w→(execOp a.eval o).run P w=.ok (.value v) w) (h:wpMixF P ops Q S fin rest { a with tmps:=a.tmps.setIfInBounds d v } w):wpMixF P ops Q S fin (i :: rest) a w:=by
 simp only [wpMixF,ho,he,Bool.false_eq_true,if_false]
 exact ⟨v,.inl ⟨by simp [Region.wanted,hg],hy⟩,hS,by rw [put_some hod];exact h⟩
theorem fin_do {i:Nat} {rest:List Nat} {a:Act} {w:World} {o:Oper} (ho:ops[i]?=some o) (he:effB o=true) (hg:o.guard=none)
  (h:∀ K:Act→World→Prop,(∀ a' w',S w'→wpMixF P ops Q S fin rest a' w'→K a' w')→o.wp P a w K Q):wpMixF P ops Q S fin (i :: rest) a w:=by
 simp only [wpMixF,ho,he,if_true]
 unfold wpOp
 simp only [ho,Region.wanted,hg,if_true]
 exact .inl (h _ fun a' w' h1 h2=>⟨.inr h1,h2⟩)
theorem fin_last {a:Act} {w:World} {o:Oper} (ho:ops[fin]?=some o) (he:effB o=true) (hg:o.guard=none)
  (h:∀ K:Act→World→Prop,(∀ a' w',Q .normal a' w'→K a' w')→o.wp P a w K (NoPanic Q)):wpMixF P ops (NoPanic Q) S fin [fin] a w:=by
 simp only [wpMixF,ho,he,if_true]
 unfold wpOp
 simp only [ho,Region.wanted,hg,if_true]
 exact .inl (h _ fun a' w' h2=>⟨.inl (by simp),h2⟩)
end
end
section
section
variable {F:Fence} {n:Nat} {P:Program} {ops:Array Oper} {Q:Exit→Act→World→Prop} {S:World→Prop} {fin:Nat}
def anyS (F:Fence) (n:Nat) (P:Program) (ops:Array Oper) (Q:Exit→Act→World→Prop) (S:World→Prop) (fin:Nat):Nat→Array Bool→Act→World→Prop
 | 0,L,a,w=>Region.ready .any ops L=[]∧Q .normal a w
 | k+1,L,a,w=>(Region.ready .any ops L=[]→Q .normal a w)∧∀ i∈Region.ready .any ops L,wpOpIn F n P ops Q i (fun a' w'=>((L.setIfInBounds i true).getD fin false=true∨S w')∧anyS F n P ops Q S fin k (L.setIfInBounds i true) a' w') a w
theorem any_of_S:∀ (k:Nat) (L:Array Bool) (a:Act) (w:World),anyS F n P ops Q S fin k L a w→wpAnyIn F n P .any ops Q k L a w
 | 0,_,_,_,h=>h
 | k+1,_,_,_,h=>⟨h.1,fun i hi=>wpOpIn_mono (fun _ _ h'=>any_of_S k _ _ _ h'.2) (h.2 i hi)⟩
structure GiveS (P:Program) (ops:Array Oper) (S:World→Prop) (o:Oper) (v:Value) (a:Act):Prop where
 y:YieldsIf P ops S o v a
 q:∀ w,S w→o.about P w a.eval=none
theorem GiveS.op {i:Nat} {o:Oper} {v:Value} {a:Act} (hro:F.round=none) (hi:ops[i]?=some o) (h:GiveS P ops S o v a) {K:Act→World→Prop} {w:World} (hS:S w) (hK:K (a.put o.dst v) w):wpOpIn F n P ops Q i K a w:=by
 have hab:∀ f,o.about P w a.eval=some f→F.fn f:=fun f hf=>by rw [h.q w hS] at hf;cases hf
 unfold wpOpIn
 simp only [hi]
 rcases h.y with ⟨hw,hv⟩ | ⟨hw,rfl⟩
 ·rw [if_pos hw]
  unfold Oper.wpIn
  rw [hro,Oper.semAt_none,hv w hS]
  exact ⟨hab,hK⟩
 ·rw [if_neg (by simp [hw])]
  exact ⟨hab,hK⟩
theorem GiveS.put {o:Oper} {v:Value} {a:Act} (h:GiveS P ops S o v a) (d:Option Tmp) (u:Value) (hs:∀ cs b,o.op≠.select cs b) (hd:∀ t,d=some t→t∉o.looksAt ops):GiveS P ops S o v (a.put d u) :=
 ⟨h.y.of_same (execOp_put o hs a d u hd) (wanted_put o a d u hd),fun w hw=>by rw [about_put o w a d u hd];exact h.q w hw⟩
theorem GiveS.defer {o:Oper} {v:Value} {a:Act} (h:GiveS P ops S o v a) (d:Deferred):GiveS P ops S o v { a with defers:=d :: a.defers }:=⟨h.y.of_same rfl rfl,h.q⟩
theorem besideS {j:Nat} {oi oj:Oper} {v:Value} (hro:F.round=none) (hj:ops[j]?=some oj) (hap:oi.apart ops oj=true) (hsi:∀ cs b,oi.op≠.select cs b) (hsj:∀ cs b,oj.op≠.select cs b)
  (hQ:∀ c a w,Q (.panic c) (a.put oi.dst v) w→Q (.panic c) a w) {K:Act→World→Prop} {a:Act} {w:World} (hy:GiveS P ops S oi v a) (h:wpOpIn F n P ops Q j K (a.put oi.dst v) w) :
  wpOpIn F n P ops Q j (fun a' w'=>GiveS P ops S oi v a'∧K (a'.put oi.dst v) w') a w:=by
 obtain ⟨h1,h2,h3⟩:=Oper.apart_spec hap
 have go:∀ (u:Value) (W:World),K ((a.put oi.dst v).put oj.dst u) W→GiveS P ops S oi v (a.put oj.dst u)∧K ((a.put oj.dst u).put oi.dst v) W:=fun u W hk=>⟨hy.put _ _ hsi h3,by rw [← Act.put_comm a v u h2];exact hk⟩
 unfold wpOpIn at h ⊢
 simp only [hj] at h ⊢
 rw [wanted_put oj a oi.dst v h1,about_put oj w a oi.dst v h1] at h
 by_cases hw:Region.wanted oj (yielded ops a.tmps)=true
 ·rw [if_pos hw] at h ⊢
  unfold Oper.wpIn at h ⊢
  rw [about_put oj w a oi.dst v h1,hro,Oper.semAt_none,execOp_put oj hsj a oi.dst v h1] at h
  rw [hro,Oper.semAt_none]
  obtain ⟨ha,h⟩:=h
  refine ⟨ha,?_⟩
  cases hr:(execOp a.eval oj).run P w with
  | halt x W =>
   rw [hr] at h
   cases x <;> simp only [Oper.uponIn] at h ⊢
   exact hQ _ _ _ h
  | ok x W =>
   rw [hr] at h
   cases x <;> simp only [Oper.uponIn] at h ⊢
   case value u=>exact go u _ h
   case skip=>exact go undef _ h
   case defer d=>exact ⟨(hy.defer d).put _ _ hsi h3,by rw [← Act.put_comm _ v undef h2,← Act.put_defers];exact h⟩
   case enter f args =>
    refine ⟨h.1,CallsIn.mono h.2 fun e W' he=>?_⟩
    cases e with
    | returned u=>exact go u _ he
    | panicked c=>exact hQ _ _ _ he
    | outgrown=>exact he
   case row r args=>exact ⟨h.1,RowsIn.mono h.2 fun u W' he=>go u _ he⟩
   case round l f tmps assign body =>
    refine ⟨h.1,RoundIn.mono h.2 fun e W' he=>?_⟩
    cases e with
    | returned u=>exact go u _ he
    | panicked c=>exact hQ _ _ _ he
    | outgrown=>exact he
 ·rw [if_neg hw] at h ⊢
  exact ⟨h.1,go undef _ h.2⟩
theorem firstS {i m:Nat} {oi:Oper} {v:Value} (hro:F.round=none) (hi:ops[i]?=some oi) (hsel:∀ (j:Nat) (o:Oper) cs b,ops[j]?=some o→o.op≠.select cs b) (hQ:∀ c a w,Q (.panic c) (a.put oi.dst v) w→Q (.panic c) a w) (hwt:waitsB ops m i fin=true) :
  ∀ (k:Nat) (L:Array Bool) (a:Act) (w:World),Closed ops L→(∀ j oj,ops[j]?=some oj→j≠i→L.getD j true=false→(∀ e∈oj.after,Region.binds .any e=true→e.on≠i)→oi.apart ops oj=true)→i∈Region.ready .any ops L→GiveS P ops S oi v a→S w →
   anyS F n P ops Q S fin k (L.setIfInBounds i true) (a.put oi.dst v) w→anyS F n P ops Q S fin (k+1) L a w
 | 0,L,a,w,_,_,hr,hy,hS,H=>⟨fun h=>(by rw [h] at hr;cases hr),fun j hj=>by
   by_cases hji:j=i
   ·subst hji;exact hy.op hro hi hS ⟨.inr hS,H⟩
   ·have:=ready_mono hj hji
    rw [H.1] at this
    cases this⟩
 | k+1,L,a,w,hc,hfree,hr,hy,hS,H=>⟨fun h=>(by rw [h] at hr;cases hr),fun j hj=>by
   have hun:∀ {L:Array Bool},i∈Region.ready .any ops L→L.getD i false=true→False:=fun {L} h0 h1=>by
    have h2:=(mem_ready.1 h0).1
    rcases Nat.lt_or_ge i L.size with h' | h'
    ·simp [h'] at h1 h2;rw [h2] at h1;cases h1
    ·simp [Array.getElem?_eq_none h'] at h1
   by_cases hji:j=i
   ·subst hji;exact hy.op hro hi hS ⟨.inr hS,H⟩
   ·obtain ⟨hjun,oj,hoj,hall⟩:=mem_ready.1 hj
    have hnot:∀ e∈oj.after,Region.binds .any e=true→e.on≠i:=fun e he hb heq=>hun hr (heq ▸ hall e he hb)
    have hr':=ready_mono hr (Ne.symm hji)
    have hc':=closed_set hc hj
    refine wpOpIn_mono (fun a' w' h3=>?_) (besideS hro hoj (hfree j oj hoj hji hjun hnot) (fun cs b=>hsel i oi cs b hi) (fun cs b=>hsel j oj cs b hoj) hQ hy (H.2 j (ready_mono hj hji)))
    have hS':S w':=by
     rcases h3.2.1 with h4 | h4
     ·exfalso
      by_cases hif:i=fin
      ·exact hun hr' (waits_listed hc' m fin hwt (.inr (hif ▸ hr')))
      ·rw [Array.setIfInBounds_comm _ _ (Ne.symm hji),getD_set_ne false hif] at h4
       exact hun hr' (waits_listed hc' m fin hwt (.inl h4))
     ·exact h4
    refine ⟨.inr hS',firstS hro hi hsel hQ hwt k _ a' w' hc' (fun q om hm hmi hu hno=>?_) hr' h3.1 hS' ?_⟩
    ·refine hfree q om hm hmi ?_ hno
     by_cases hjm:j=q
     ·subst hjm;exact hjun
     ·rw [getD_set_ne true hjm] at hu;exact hu
    ·rw [Array.setIfInBounds_comm _ _ hji]
     exact h3.2.2⟩
structure AtS (F:Fence) (n:Nat) (P:Program) (ops:Array Oper) (Q:Exit→Act→World→Prop) (S:World→Prop) (fin k:Nat) (L:Array Bool) (a:Act) (w:World):Prop where
 h:Closed ops L→anyS F n P ops Q S fin k L a w
theorem takeS {i:Nat} {d:Tmp} {oi:Oper} {v:Value} {k:Nat} {L:Array Bool} {a:Act} {w:World} (hro:F.round=none) (hi:ops[i]?=some oi) (hod:oi.dst=some d) (hg:oi.guard=none) (hc:∀ c,oi.op≠.call c) (hs:Region.noSelect ops=true) (hf:Region.free .any ops L i=true) (hr:(Region.ready .any ops L).contains i=true) (hwt:waitsB ops ops.size i fin=true)
  (hQ:∀ c a w,Q (.panic c) (a.put oi.dst v) w→Q (.panic c) a w) (hS:S w) (hy:∀ w,S w→(execOp a.eval oi).run P w=.ok (.value v) w)
  (h:AtS F n P ops Q S fin k (L.setIfInBounds i true) { a with tmps:=a.tmps.setIfInBounds d v } w):AtS F n P ops Q S fin (k+1) L a w :=
 ⟨fun hcl=>firstS hro hi (Region.noSelect_spec hs) hQ hwt k L a w hcl (Region.free_spec hi hf) (by simpa using hr) ⟨.inl ⟨by simp [Region.wanted,hg],hy⟩,fun w _=>by
  unfold Oper.about
  cases ho:oi.op <;> first | rfl | (exact absurd ho (hc _))⟩ hS (by
  have e:a.put oi.dst v={ a with tmps:=a.tmps.setIfInBounds d v }:=by rw [hod];rfl
  rw [e];exact h.h (closed_set hcl (by simpa using hr)))⟩
theorem onlyS {i:Nat} {k:Nat} {L:Array Bool} {a:Act} {w:World} {o:Oper} (hr:Region.ready .any ops L=[i]) (hfl:(L.setIfInBounds i true).getD fin false=true) (ho:ops[i]?=some o) (hg:o.guard=none)
  (h:∀ K:Act→World→Prop,(∀ a' w',AtS F n P ops Q S fin k (L.setIfInBounds i true) a' w'→K a' w')→o.wpIn F n P a w K Q):AtS F n P ops Q S fin (k+1) L a w :=
 ⟨fun hcl=>⟨fun h0=>(by rw [hr] at h0;cases h0),fun j hj=>by
  have hcl':=closed_set hcl hj
  rw [hr,List.mem_singleton] at hj
  subst hj
  unfold wpOpIn
  simp only [ho,Region.wanted,hg,if_true]
  exact h _ fun a' w' h2=>⟨.inl hfl,h2.h hcl'⟩⟩⟩
theorem doneS {L:Array Bool} {a:Act} {w:World} (hr:Region.ready .any ops L=[]) (h:Q .normal a w):∀ k,AtS F n P ops Q S fin k L a w
 | 0=>⟨fun _=>⟨hr,h⟩⟩
 | _+1=>⟨fun _=>⟨fun _=>h,by rw [hr];simp⟩⟩
theorem regS {id:Nat} {a:Act} {w:World} {l:List Oper} (S:World→Prop) (fin:Nat) (hm:P.follows .mixedOrders=true) (h:AtS F n P l.toArray Q S fin l.toArray.size (Array.replicate l.toArray.size false) a w.drew):(Code.region id l.toArray true).wpIn F n P Q a w :=
 wpIn_region_any hm (any_of_S _ _ _ _ (h.h fun k o _ hk=>by
  exfalso
  rw [Array.getD_eq_getD_getElem?,Array.getElem?_replicate] at hk
  split at hk <;> cases hk))
end
end
end Go.Proofs.YtledkokhghjfmaaGreatDoor
