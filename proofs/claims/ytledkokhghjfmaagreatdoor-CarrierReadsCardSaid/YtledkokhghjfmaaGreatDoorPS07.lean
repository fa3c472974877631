/-
  Arrays of words, further: a laid table, new arrays.
-/
import Derived.Test.YtledkokhghjfmaaGreatDoorPS03
import Derived.Test.YtledkokhghjfmaaGreatDoorPS01
import Derived.Test.YtledkokhghjfmaaGreatDoorPS02
import Derived.Test.YtledkokhghjfmaaGreatDoorRows
import Derived.ProofKit
import Derived.Test.YtledkokhghjfmaaGreatDoorPS05
namespace Go.Proofs.YtledkokhghjfmaaGreatDoor
section
open Go.RowKit Go.Lib
def kLaid (w:World) (C:Array Value):Prop:=∃ t fz,w.heap[1]?=some (.cells C t fz)
abbrev RndAt (w:World):Prop:=kLaid w (u32A kTab)
theorem RndAt.same {w W:World} {S:List Nat} (h:RndAt w) (hf:Fr S w W) (hS:1∉S):RndAt W:=by
 obtain ⟨t,fz,h⟩:=h
 exact ⟨t,fz,hf.keep h hS⟩
section
variable {t:TypeId} {n:Nat} {e:TypeId}
theorem wp_arr_loadG {o:Oper} {a:Act} {W:World} {K:Act→World→Prop} {Q:Exit→Act→World→Prop} {b:Nat} {C:Array Value} {t':TypeId} {fz:Nat × Nat} (x:Operand) (hu:Tryz.prog.underlying t=some (.array n e)) (hi:(Tryz.prog.info? t).map (·.size)=some C.size) (ho:o.op=.load t x) (hx:a.eval x=.pointer (some ⟨b,0,none⟩)) (h:W.heap[b]?=some (.cells C t' fz)) (hk:K (a.put o.dst (.agg C)) W):o.wp Tryz.prog a W K Q:=by
 unfold Oper.wp execOp
 simp only [ho,hx,Instr.loadAt,Instr.sureAddr,Sem.run_bind,Sem.run_pure,Result.andThen_ok,run_loadVar_row W b t' t C fz _ h hu rfl hi]
 exact hk
end
set_option maxRecDepth 100000 in
theorem w64_alloc {ev:Operand→Value} {o:Oper} {W:World} (ho:o.op=.alloc 329):(execOp ev o).run Tryz.prog W=.ok (.value (.pointer (some ⟨W.heap.size,0,none⟩))) (W.alloc (.cells (u32A (List.replicate 64 0)) 329)):=by
 unfold execOp
 simp only [ho]
 go_simp
 rfl
set_option maxRecDepth 100000 in
theorem w64_alloc_store {ops:Array Oper} {rest:List Oper} {a:Act} {W:World} {Q:Exit→Act→World→Prop} (o1 o2:Oper) (p:Tmp) (y:Operand) (C:List Int) (hC:C.length=64) (g1:o1.guard=none) (h1:o1.op=.alloc 329) (d1:o1.dst=some p) (g2:o2.guard=none) (h2:o2.op=.store 329 (.tmp p) y) (d2:o2.dst=none)
  (hx:∀ v,(a.put (some p) v).eval (.tmp p)=v) (hy:∀ v,(a.put (some p) v).eval y=.agg (u32A C)) (h:wpList Tryz.prog ops Q rest (a.put (some p) (.pointer (some ⟨W.heap.size,0,none⟩))) (W.alloc (.cells (u32A C) 329))):wpList Tryz.prog ops Q (o1 :: o2 :: rest) a W:=by
 refine wpList_plain g1 fun K hK=>?_
 unfold Oper.wp
 rw [w64_alloc h1,Oper.upon_value,d1]
 refine hK _ _ (wpList_plain g2 fun K' hK'=>?_)
 have hi:(Tryz.prog.info? 329).map (·.size)=some (u32A C).size:=by rw [u32A_size,hC];kernel_rfl
 refine wp_store_row 329 _ y h2 W.heap.size (u32A C) (hx _) (hy _) 329 (u32A (List.replicate 64 0)) (qm W _) hi (by rw [u32A_size,u32A_size,hC];rfl) (u32A_one _) ?_
 rw [World.setRow_alloc_new,d2]
 exact hK' _ _ h
end
section
open Go.RowKit Go.Lib
theorem arr_index {t:TypeId} {n:Nat} {W:World} {l:List Int} {k:Nat} (hu:Tryz.prog.underlying t=some (.array n 149)) (hn:l.length=n) (hk:k < n):(Instr.index t (.agg (u32A l)) (.int .i64 k)).run Tryz.prog W=.ok (.int .u32 (l.getD k 0)) W:=by
 have hz:(sizeOf 149).run Tryz.prog W=.ok 1 W:=by kernel_rfl
 have hg:(isAgg 149).run Tryz.prog W=.ok false W:=by kernel_rfl
 simp only [Instr.index,asIntOf,Sem.run_bind,Sem.run_pure,Result.andThen_ok,run_underlying hu,part]
 rw [if_pos (by omega)]
 simp only [Sem.run_bind,Result.andThen_ok,hz,hg,Int.toNat_natCast,Nat.mul_one,u32A_get l k (by omega),Sem.run_pure,Bool.false_eq_true,if_false]
end
section
open Go.RowKit Go.Lib
theorem rot_and:∀ n:Fin 32,1≤n.val→bits .and .u64 (IntKind.u64.wrap (IntKind.i64.wrap (-(n.val:Int)))) 31=((32 - n.val:Nat):Int):=by decide
theorem rot_sub (n:Nat) (h:1≤n∧n≤31):IntKind.u64.wrap (32 - ((32 - n:Nat):Int))=(n:Int):=by rw [IntKind.wrap_u64];omega
set_option maxRecDepth 100000 in
theorem rotl_c (x:Int) (n:Nat) (hn:1≤n∧n≤31) (w:World):Calls Tryz.prog 219 #[.int .u32 x,.int .i64 (-(n:Int))] w fun e w'=>e=.returned (.int .u32 (ror x n))∧w=w':=by
 have e1:=rot_and ⟨n,by omega⟩ hn.1
 simp only at e1
 have e2:=rot_sub n hn
 have e3:IntKind.i64.wrap (-(n:Int))=-(n:Int):=IntWalk.i64_in _ (by omega)
 rw [e3] at e1
 have hs:0≤((32 - n:Nat):Int):=by omega
 have e4:(min (((32 - n:Nat):Int)).toNat 32)=32 - n:=by omega
 have e5:(min ((n:Nat):Int).toNat 32)=n:=by omega
 clear e3
 go_enter Tryz.func219,Tryz.ntmps219
 go_wp2_with fail
 go_ret
 exact ⟨rfl,rfl⟩
set_option maxRecDepth 100000 in
theorem mixed_c (x:Int) (v:Value) (l:List Int) (w:World) (h:IntsAt w v l) (hl:∀ n,n∈l→1≤n∧n≤31):Calls Tryz.prog 204 #[.int .u32 x,v] w fun e w'=>e=.returned (.int .u32 (mix x l))∧Fr [] w w':=by
 obtain ⟨a,p,rfl⟩:=h.val
 have hlen:=h.len
 have H:=qj h
 clear h
 go_enter Tryz.func204,Tryz.ntmps204
 go_wp2_with fail
 go_loopw [5,10] (fun s i wr=>∃ k:Nat,k≤l.length∧i=.int .i64 k∧s=.int .u32 (mixGo x (l.take k) 0)∧Hid (Fr [] w wr)) (fun _ i _=>l.length - (RowKit.intOf i).toNat)
 case atStart=>exact ⟨0,Nat.zero_le _,rfl,rfl,qj (Fr.refl _ _)⟩
 case round =>
  obtain ⟨k,hk,rfl,rfl,HF⟩:=hrel
  by_cases hlt:k < l.length
  ·obtain ⟨b,off,ha,hc⟩:=(H.out.same HF.out).at_ (by omega)
   subst ha
   have c0:wr.cell? ⟨b,off+k,none⟩=some (.int .i64 l[k]):=hc k _ (by simp [intC,hlt])
   have hn:=hl l[k] (List.getElem_mem hlt)
   have HT:Hid (mixGo x (l.take (k+1)) 0=xorI (mixGo x (l.take k) 0) (ror x (l[k]).toNat)):=qj (by rw [List.take_succ_eq_append_getElem hlt,mixGo_snoc])
   generalize l[k]=n at *
   obtain ⟨m,rfl⟩:=Int.eq_ofNat_of_zero_le (show 0≤n by omega)
   have CR:=qj fun W=>rotl_c x m ⟨by omega,by omega⟩ W
   clear hc
   go_wp2_with fail
   refine (CR.out _).mono ?_
   rintro e w0 ⟨rfl,rfl⟩
   clear c0 CR
   go_wp2_with fail
   go_roundw
   case rel=>exact ⟨k+1,by omega,by go_num,by rw [HT.out];rfl,HF⟩
   case measure=>simp [RowKit.intOf];omega
  ·obtain rfl:k=l.length:=by omega
   go_wp2_with fail
   go_ret
   exact ⟨by rw [List.take_length];rfl,HF.out⟩
end
section
theorem cnt_set:∀ (l:List Bool) (i:Nat),l[i]?=some false→(l.set i true).countP (fun b=>!b)+1=l.countP (fun b=>!b)
 | [],i,h=>by simp at h
 | false :: l,0,_=>by simp
 | true :: l,0,h=>by simp at h
 | b :: l,i+1,h=>by
  have:=cnt_set l i (by simpa using h)
  simp only [qv,List.countP_cons]
  omega
theorem ready_false {ops:Array Oper} {l:Array Bool} {i:Nat} (h:i∈Region.ready .any ops l):l.toList[i]?=some false∧l.getD i false=false:=by
 have h1:=(mem_ready.1 h).1
 rcases Nat.lt_or_ge i l.size with h' | h'
 ·simp [h'] at h1 ⊢;exact h1
 ·simp [Array.getElem?_eq_none h'] at h1
def upG (g:Nat→Value) (i:Nat) (v:Value):Nat→Value:=fun j=>if j=i then v else g j
theorem upG_self (g:Nat→Value) (i:Nat) (v:Value):upG g i v i=v:=by simp [upG]
theorem upG_ne (g:Nat→Value) {i j:Nat} (v:Value) (h:j≠i):upG g i v j=g j:=by simp [upG,h]
def putT (g:Nat→Value):List (Nat × Nat)→Array Value→Array Value
 | [],t=>t
 | (i,d) :: ds,t=>putT g ds (t.setIfInBounds d (g i))
def putG (a:Act) (ds:List (Nat × Nat)) (g:Nat→Value):Act:={ a with tmps:=putT g ds a.tmps }
section
variable {P:Program} {ops:Array Oper} {Q:Exit→Act→World→Prop} {S:World→Prop} {fin:Nat}
theorem wpAnyF_of_inv (J:Array Bool→Act→World→Prop)
  (hstep:∀ l a w i,Closed ops l→i∈Region.ready .any ops l→J l a w→wpOp P ops Q i (fun a' w'=>((l.setIfInBounds i true).getD fin false=true∨S w')∧J (l.setIfInBounds i true) a' w') a w)
  (hend:∀ l a w,Closed ops l→Region.ready .any ops l=[]→J l a w→Q .normal a w) :
  ∀ (fuel:Nat) (l:Array Bool) (a:Act) (w:World),Closed ops l→l.toList.countP (fun b=>!b)≤fuel→J l a w→wpAnyF P ops Q S fin fuel l a w
 | 0,l,a,w,hc,hl,h=>by
  have h0:Region.ready .any ops l=[]:=List.eq_nil_iff_forall_not_mem.2 fun i hi=>by
   have:=cnt_set _ _ (ready_false hi).1
   omega
  exact ⟨h0,hend l a w hc h0 h⟩
 | fuel+1,l,a,w,hc,hl,h=>⟨fun h0=>hend l a w hc h0 h,fun i hi=>wpOp_mono (fun a' w' hh=>⟨hh.1,wpAnyF_of_inv J hstep hend fuel _ a' w' (closed_set hc hi) (by
   have:=cnt_set _ _ (ready_false hi).1
   rw [Array.toList_setIfInBounds]
   omega) hh.2⟩) (hstep l a w i hc hi h)⟩
def StepsE (P:Program) (ops:Array Oper) (Q:Exit→Act→World→Prop) (S:World→Prop) (A:(Nat→Value)→Act) (Pd:Nat→Value→World→Prop):List (Nat × List Nat)→Prop
 | []=>True
 | (i,D) :: E=>(∀ g w,S w→(∀ j∈D,Pd j (g j) w)→wpOp P ops Q i (fun a' w'=>S w'∧∃ v,a'=A (upG g i v)∧Pd i v w'∧∀ j u,j≠i→Pd j u w→Pd j u w') (A g) w)∧StepsE P ops Q S A Pd E
theorem StepsE.get {A:(Nat→Value)→Act} {Pd:Nat→Value→World→Prop}:∀ {E:List (Nat × List Nat)},StepsE P ops Q S A Pd E→∀ {i:Nat} {D:List Nat},(i,D)∈E →
  ∀ g w,S w→(∀ j∈D,Pd j (g j) w)→wpOp P ops Q i (fun a' w'=>S w'∧∃ v,a'=A (upG g i v)∧Pd i v w'∧∀ j u,j≠i→Pd j u w→Pd j u w') (A g) w
 | [],_,_,_,hm=>by cases hm
 | (_,_) :: _,h,_,_,hm=>by
  rcases List.mem_cons.1 hm with hm | hm
  ·cases hm;exact h.1
  ·exact StepsE.get h.2 hm
theorem putT_other {i:Nat} {v:Value} {g:Nat→Value}:∀ {ds:List (Nat × Nat)} {t:Array Value},i∉ds.map (·.1)→putT (upG g i v) ds t=putT g ds t
 | [],_,_=>rfl
 | (j,d) :: ds,t,h=>by
  simp only [List.map_cons,List.mem_cons,not_or] at h
  simp only [putT]
  rw [upG_ne g v (fun e=>h.1 e.symm),putT_other h.2]
theorem putT_self:∀ (ds:List (Nat × Nat)) (t:Array Value),(ds.map (·.1)).Nodup→∃ g,putT g ds t=t
 | [],t,_=>⟨fun _=>undef,rfl⟩
 | (i,d) :: ds,t,h=>by
  simp only [List.map_cons,List.nodup_cons] at h
  obtain ⟨g,hg⟩:=putT_self ds t h.2
  refine ⟨upG g i (t.getD d undef),?_⟩
  have e:t.setIfInBounds d (t.getD d undef)=t:=by
   by_cases hd:d < t.size
   ·simp [hd,Array.setIfInBounds]
   ·simp [Array.setIfInBounds,hd]
  simp only [putT,upG_self,e]
  rw [putT_other h.1,hg]
def permI (ops:Array Oper) (fin:Nat) (tk:List Nat) (E:List (Nat × List Nat)):Bool :=
 ((List.range ops.size).all fun i=>tk.contains i || (E.map (·.1)).contains i || i == fin)
  && ((List.range ops.size).all fun i=>i == fin || waitsB ops ops.size i fin)
  && decide (fin < ops.size) && !tk.contains fin
  && ((List.range ops.size).all fun i=>match ops[i]? with | none=>false | some o=>o.after.all fun e=>!Region.binds .any e || decide (e.on < i))
  && (E.all fun x=>!(x.1 == fin) && !tk.contains x.1 && decide (x.1 < ops.size) && x.2.all fun j=>!tk.contains j && (match ops[x.1]? with | none=>false | some o=>o.after.any fun e=>Region.binds .any e && e.on == j))
def InvR (P:Program) (ops:Array Oper) (Q:Exit→Act→World→Prop) (S:World→Prop) (fin:Nat) (E:List (Nat × List Nat)) (a:Act) (w:World):Prop :=
 ∃ (A:(Nat→Value)→Act) (Pd:Nat→Value→World→Prop) (g0:Nat→Value),a=A g0∧S w∧StepsE P ops Q S A Pd E∧∀ g w,S w→(∀ e∈E,Pd e.1 (g e.1) w)→wpOp P ops Q fin (fun a' w'=>Q .normal a' w') (A g) w
theorem inv_start {E:List (Nat × List Nat)} {a:Act} {w:World} (ds:List (Nat × Nat)) (Pd:Nat→Value→World→Prop) (hn:(ds.map (·.1)).Nodup) (hS:S w) (h1:StepsE P ops Q S (putG a ds) Pd E)
  (h2:∀ g w,S w→(∀ e∈E,Pd e.1 (g e.1) w)→wpOp P ops Q fin (fun a' w'=>Q .normal a' w') (putG a ds g) w):InvR P ops Q S fin E a w:=by
 obtain ⟨g,hg⟩:=putT_self ds a.tmps hn
 exact ⟨putG a ds,Pd,g,by unfold putG;rw [hg],hS,h1,h2⟩
theorem wpAnyF_of_invR {tk:List Nat} {E:List (Nat × List Nat)} (hp:permI ops fin tk E=true) {fuel:Nat} {l:Array Bool} {a:Act} {w:World} (hc:Closed ops l) (hl:l.toList.countP (fun b=>!b)≤fuel) (hz:l.size=ops.size)
  (htk:∀ k,l.getD k false=true↔k∈tk) (h:InvR P ops Q S fin E a w):wpAnyF P ops Q S fin fuel l a w:=by
 simp only [permI,Bool.and_eq_true,decide_eq_true_eq,Bool.not_eq_true',List.all_eq_true,List.mem_range,Bool.or_eq_true,beq_iff_eq,beq_eq_false_iff_ne] at hp
 obtain ⟨⟨⟨⟨⟨hcov,hwt⟩,hf⟩,hft⟩,hlow⟩,hE⟩:=hp
 have hft:fin∉tk:=by simpa using hft
 obtain ⟨A,Pd,g0,rfl,hS,hst,hfin⟩:=h
 have hdone:∀ l:Array Bool,Closed ops l→(l.getD fin false=true∨fin∈Region.ready .any ops l)→∀ i,i < ops.size→i≠fin→l.getD i false=true:=fun l hc hl i hi hne =>
  waits_listed hc ops.size fin ((hwt i hi).resolve_left hne) hl
 refine wpAnyF_of_inv (fun l a w=>l.size=ops.size∧(∀ k∈tk,l.getD k false=true)∧((l.getD fin false=true∧Q .normal a w)∨(l.getD fin false=false∧∃ g,a=A g∧S w∧∀ i,i∉tk→l.getD i false=true→Pd i (g i) w))) ?_ ?_ fuel l _ w hc hl ⟨hz,fun k hk=>(htk k).2 hk,.inr ⟨?_,g0,rfl,hS,fun i hi hh=>absurd ((htk i).1 hh) hi⟩⟩
 ·rintro l a w i hc hi ⟨hz,ht,h⟩
  have hun:=(ready_false hi).2
  have hi':i < ops.size:=by
   rcases Nat.lt_or_ge i ops.size with h' | h'
   ·exact h'
   ·have:=(ready_false hi).1
    rw [List.getElem?_eq_none (by simpa [hz] using h')] at this
    cases this
  have hset:(l.setIfInBounds i true).getD i false=true:=by simp [hz,hi']
  rcases h with ⟨h1,_⟩ | ⟨h1,g,rfl,hS,hP⟩
  ·exfalso
   by_cases hne:i=fin
   ·subst hne;rw [h1] at hun;cases hun
   ·have:=hdone l hc (.inl h1) i hi' hne
    rw [this] at hun;cases hun
  ·by_cases hne:i=fin
   ·subst hne
    refine wpOp_mono (fun a' w' hq=>⟨.inl hset,by simpa using hz,fun k hk=>getD_set_true (ht k hk),.inl ⟨hset,hq⟩⟩) (hfin g w hS fun e he=>?_)
    have he':=hE e he
    exact hP e.1 (by simpa using he'.1.1.2) (hdone l hc (.inr hi) e.1 he'.1.2 he'.1.1.1)
   ·have hcv:=hcov i hi'
    have hnt:i∉tk:=fun hh=>by rw [ht i hh] at hun;cases hun
    have hm:i∈E.map (·.1):=by
     rcases hcv with (h2 | h2) | h2
     ·exact absurd (by simpa using h2) hnt
     ·simpa using h2
     ·exact absurd h2 hne
    obtain ⟨⟨i',D⟩,hmE,hii⟩:=List.mem_map.1 hm
    simp only at hii
    subst hii
    have he':=hE _ hmE
    simp only at he'
    have hD:∀ j∈D,Pd j (g j) w:=fun j hj=>by
     obtain ⟨hj1,hj2⟩:=he'.2 j hj
     obtain ⟨_,o,ho,hall⟩:=mem_ready.1 hi
     rw [ho] at hj2
     simp only [Array.any_eq_true] at hj2
     obtain ⟨x,hx,hj2⟩:=hj2
     simp only [Bool.and_eq_true,beq_iff_eq] at hj2
     have h5:=hall _ (Array.getElem_mem hx) hj2.1
     rw [hj2.2] at h5
     exact hP j (by simpa using hj1) h5
    refine wpOp_mono ?_ (hst.get hmE g w hS hD)
    rintro a' w' ⟨hS',v,rfl,hv,hk⟩
    refine ⟨.inr hS',by simpa using hz,fun k hk=>getD_set_true (ht k hk),.inr ⟨?_,upG g i' v,rfl,hS',fun j hj hjd=>?_⟩⟩
    ·rw [getD_set_ne false (by simpa using he'.1.1.1)];exact h1
    ·by_cases hji:j=i'
     ·subst hji;rw [upG_self];exact hv
     ·rw [upG_ne g v hji]
      rw [getD_set_ne false (Ne.symm hji)] at hjd
      exact hk j _ hji (hP j hj hjd)
 ·rintro l a w hc h0 ⟨hz,ht,h⟩
  rcases h with ⟨_,h⟩ | ⟨h1,_⟩
  ·exact h
  ·exfalso
   have hall:∀ n,n < ops.size→l.getD n false=true:=by
    intro n
    induction n using Nat.strongRecOn with
    | _ n ih =>
     intro hn
     cases hh:l.getD n false with
     | true=>rfl
     | false =>
      exfalso
      have hlo:=hlow n hn
      cases ho:ops[n]? with
      | none=>simp [ho] at hlo
      | some o =>
       simp only [ho,Array.all_eq_true,Bool.or_eq_true,Bool.not_eq_true',decide_eq_true_eq] at hlo
       have hr:n∈Region.ready .any ops l:=mem_ready.2 ⟨by
        have hz':n < l.size:=by omega
        simp [hz'] at hh ⊢;exact hh,o,ho,fun e he hb=>by
        obtain ⟨x,hx,rfl⟩:=Array.mem_iff_getElem.1 he
        rcases hlo x hx with h2 | h2
        ·rw [h2] at hb;cases hb
        ·exact ih _ h2 (by omega)⟩
       rw [h0] at hr
       cases hr
   rw [hall fin hf] at h1
   cases h1
 ·cases hh:l.getD fin false with
  | false=>rfl
  | true=>exact absurd ((htk fin).1 hh) hft
def setAll (l:Array Bool):List Nat→Array Bool
 | []=>l
 | i :: tk=>setAll (l.setIfInBounds i true) tk
def permTk (ops:Array Oper) (fin:Nat):List Nat→Array Bool→Bool
 | [],_=>true
 | i :: t,l=>(match ops[i]? with
   | none=>false
   | some _=>decide (i < l.size) && Region.free .any ops l i && (Region.ready .any ops l).contains i && waitsB ops ops.size i fin) && permTk ops fin t (l.setIfInBounds i true)
def wpTk (P:Program) (ops:Array Oper) (S:World→Prop) (R:Act→World→Prop):List Nat→Act→World→Prop
 | [],a,w=>R a w
 | i :: t,a,w=>match ops[i]? with
  | none=>False
  | some o=>∃ v,YieldsIf P ops S o v a∧S w∧wpTk P ops S R t (a.put o.dst v) w
theorem wpAnyF_of_tk {R:Act→World→Prop} {m:Nat} (hs:Region.noSelect ops=true) (hQ:∀ (d:Option Tmp) (v:Value) c a w,Q (.panic c) (a.put d v) w→Q (.panic c) a w) :
  ∀ (tk:List Nat) (l:Array Bool) (a:Act) (w:World),permTk ops fin tk l=true→Closed ops l→(∀ a w,Closed ops (setAll l tk)→R a w→wpAnyF P ops Q S fin m (setAll l tk) a w)→wpTk P ops S R tk a w→wpAnyF P ops Q S fin (m+tk.length) l a w
 | [],l,a,w,_,hc,hR,h=>hR a w hc h
 | i :: t,l,a,w,hp,hc,hR,h=>by
  simp only [permTk,Bool.and_eq_true] at hp
  obtain ⟨h1,h2⟩:=hp
  cases ho:ops[i]? with
  | none=>simp [ho] at h1
  | some o =>
   simp only [ho,Bool.and_eq_true,decide_eq_true_eq] at h1
   obtain ⟨⟨⟨_,hfr⟩,hrd⟩,hw⟩:=h1
   simp only [wpTk,ho] at h
   obtain ⟨v,hy,hS,h3⟩:=h
   have hr:i∈Region.ready .any ops l:=by simpa using hrd
   exact wpAnyF_first ho (Region.noSelect_spec hs) (hQ o.dst v) hw _ l a w hc (Region.free_spec ho hfr) hr hy hS (wpAnyF_of_tk hs hQ t _ _ w h2 (closed_set hc hr) hR h3)
def takenB (n:Nat) (tk:List Nat):Bool:=(List.range n).all fun k=>(setAll (Array.replicate n false) tk).getD k false == tk.contains k
theorem setAll_size:∀ (tk:List Nat) (l:Array Bool),(setAll l tk).size=l.size
 | [],_=>rfl
 | i :: tk,l=>by rw [setAll,setAll_size tk];simp
theorem reg_inv {id:Nat} {a:Act} {w:World} {l:List Oper} (S:World→Prop) (fin:Nat) (tk:List Nat) (E:List (Nat × List Nat)) (hm:P.follows .mixedOrders=true) (hs:Region.noSelect l.toArray=true) (hp:permTk l.toArray fin tk (Array.replicate l.toArray.size false)=true) (hi:permI l.toArray fin tk E=true)
  (ht:(takenB l.toArray.size tk && (tk.all fun k=>decide (k < l.toArray.size)) && decide ((setAll (Array.replicate l.toArray.size false) tk).toList.countP (fun b=>!b)+tk.length=l.toArray.size))=true)
  (h:wpTk P l.toArray S (InvR P l.toArray (NoPanic Q) S fin E) tk a w.drew):(Code.region id l.toArray true).wp P Q a w:=by
 simp only [Bool.and_eq_true,decide_eq_true_eq,takenB,List.all_eq_true,List.mem_range,beq_iff_eq] at ht
 obtain ⟨⟨ht1,ht2⟩,ht3⟩:=ht
 have hc:Closed l.toArray (Array.replicate l.toArray.size false):=fun k o _ hk=>by
  exfalso
  rw [Array.getD_eq_getD_getElem?,Array.getElem?_replicate] at hk
  split at hk <;> cases hk
 have h2:=wpAnyF_of_tk (Q:=NoPanic Q) (fin:=fin) (m:=(setAll (Array.replicate l.toArray.size false) tk).toList.countP (fun b=>!b)) hs (fun _ _ _ _ _ h=>h) tk _ a _ hp hc (fun a w hc' hR=>wpAnyF_of_invR hi hc' (Nat.le_refl _) (by rw [setAll_size];simp) (fun k=>by
  by_cases hk:k < l.toArray.size
  ·rw [ht1 k hk];simp
  ·constructor
   ·intro hh
    rw [Array.getD_eq_getD_getElem?,Array.getElem?_eq_none (by rw [setAll_size];simpa using hk)] at hh
    cases hh
   ·intro hh;exact absurd (ht2 k hh) hk) hR) h
 rw [ht3] at h2
 exact wp_region_noPanic (wp_region_any hm (wpAny_of_F _ _ _ _ h2))
theorem tk_take {R:Act→World→Prop} {k:Nat} {d:Tmp} {t:List Nat} {a:Act} {w:World} {o:Oper} {v:Value} (ho:ops[k]?=some o) (hod:o.dst=some d) (hg:o.guard=none) (hS:S w)
  (hy:∀ w,S w→(execOp a.eval o).run P w=.ok (.value v) w) (h:wpTk P ops S R t { a with tmps:=a.tmps.setIfInBounds d v } w):wpTk P ops S R (k :: t) a w:=by
 simp only [wpTk,ho]
 exact ⟨v,.inl ⟨by simp [Region.wanted,hg],hy⟩,hS,by rw [put_some hod];exact h⟩
theorem inv_op {i:Nat} {a:Act} {w:World} {o:Oper} {A:(Nat→Value)→Act} {Pd:Nat→Value→World→Prop} {g:Nat→Value} (ho:ops[i]?=some o) (hg:o.guard=none)
  (h:∀ K:Act→World→Prop,(∀ v w',S w'→Pd i v w'→(∀ j u,j≠i→Pd j u w→Pd j u w')→K (A (upG g i v)) w')→o.wp P a w K Q):wpOp P ops Q i (fun a' w'=>S w'∧∃ v,a'=A (upG g i v)∧Pd i v w'∧∀ j u,j≠i→Pd j u w→Pd j u w') a w:=by
 unfold wpOp
 simp only [ho,Region.wanted,hg,if_true]
 exact .inl (h _ fun v w' h1 h2 h3=>⟨h1,v,rfl,h2,h3⟩)
theorem inv_fin {i:Nat} {a:Act} {w:World} {o:Oper} (ho:ops[i]?=some o) (hg:o.guard=none) (h:∀ K:Act→World→Prop,(∀ a' w',Q .normal a' w'→K a' w')→o.wp P a w K Q):wpOp P ops Q i (fun a' w'=>Q .normal a' w') a w:=by
 unfold wpOp
 simp only [ho,Region.wanted,hg,if_true]
 exact .inl (h _ fun _ _ h=>h)
end
end
end Go.Proofs.YtledkokhghjfmaaGreatDoor
