/-
  A region that draws its order (Reg2.lean) in which, behind what is taken early, two operations may come first: both orders are walked.
-/
import Derived.Test.YtledkokhghjfmaaGreatDoorPS04
import Derived.Test.YtledkokhghjfmaaGreatDoorPS03
import Derived.Test.YtledkokhghjfmaaGreatDoorPS02
import Derived.Laws.EntriesVeiled
namespace Go.Proofs.YtledkokhghjfmaaGreatDoor
section
section
variable {P:Program} {ops:Array Oper} {Q:Exit→Act→World→Prop} {S:World→Prop} {fin:Nat}
def permK (ops:Array Oper) (fin i j:Nat) (p1 p2:List Nat):List Nat→Array Bool→Bool
 | [],listed=>Region.ready .any ops listed == [i,j] && decide (i < listed.size) && decide (j < listed.size) && permF ops fin p1 (listed.setIfInBounds i true) && permF ops fin p2 (listed.setIfInBounds j true) && p1.length == p2.length
 | k :: rest,listed=>(match ops[k]? with
   | none=>false
   | some o=>decide (k < listed.size) && !effB o && Region.free .any ops listed k && (Region.ready .any ops listed).contains k && waitsB ops ops.size k fin) && permK ops fin i j p1 p2 rest (listed.setIfInBounds k true)
def wpFork (P:Program) (ops:Array Oper) (Q:Exit→Act→World→Prop) (S:World→Prop) (fin i j:Nat) (p1 p2:List Nat):List Nat→Act→World→Prop
 | [],a,w=>wpOp P ops Q i (fun a' w'=>S w'∧wpMixF P ops Q S fin p1 a' w') a w∧wpOp P ops Q j (fun a' w'=>S w'∧wpMixF P ops Q S fin p2 a' w') a w
 | k :: rest,a,w=>match ops[k]? with
  | none=>False
  | some o=>∃ v,YieldsIf P ops S o v a∧S w∧wpFork P ops Q S fin i j p1 p2 rest (a.put o.dst v) w
theorem wpAnyF_of_fork {i j:Nat} {p1 p2:List Nat} (hs:Region.noSelect ops=true) (hQ:∀ (d:Option Tmp) (v:Value) c a w,Q (.panic c) (a.put d v) w→Q (.panic c) a w) :
  ∀ (pre:List Nat) (listed:Array Bool) (a:Act) (w:World),permK ops fin i j p1 p2 pre listed=true→Closed ops listed→wpFork P ops Q S fin i j p1 p2 pre a w→wpAnyF P ops Q S fin (p1.length+1+pre.length) listed a w
 | [],listed,a,w,hp,hc,h=>by
  simp only [permK,Bool.and_eq_true,beq_iff_eq,decide_eq_true_eq] at hp
  obtain ⟨⟨⟨⟨⟨h1,h2⟩,h3⟩,h4⟩,h5⟩,h6⟩:=hp
  refine ⟨fun h0=>(by rw [h0] at h1;cases h1),fun r hr=>?_⟩
  have hr':=hr
  rw [h1] at hr
  simp only [List.mem_cons,List.not_mem_nil,or_false] at hr
  rcases hr with rfl | rfl
  ·exact wpOp_mono (fun a' w' hh=>⟨.inr hh.1,wpAnyF_of_mix hs hQ p1 _ a' w' h4 (closed_set hc hr') hh.2⟩) h.1
  ·refine wpOp_mono (fun a' w' hh=>⟨.inr hh.1,?_⟩) h.2
   have:=wpAnyF_of_mix hs hQ p2 _ a' w' h5 (closed_set hc hr') hh.2
   rw [← h6] at this
   exact this
 | k :: rest,listed,a,w,hp,hc,h=>by
  simp only [permK,Bool.and_eq_true] at hp
  obtain ⟨h1,h2⟩:=hp
  cases ho:ops[k]? with
  | none=>simp [ho] at h1
  | some o =>
   simp only [ho,Bool.and_eq_true,decide_eq_true_eq] at h1
   obtain ⟨⟨⟨⟨hsz,he⟩,hfr⟩,hrd⟩,hw⟩:=h1
   simp only [wpFork,ho] at h
   obtain ⟨v,hy,hS,h3⟩:=h
   have hr:k∈Region.ready .any ops listed:=by simpa using hrd
   exact wpAnyF_first ho (Region.noSelect_spec hs) (hQ o.dst v) hw _ listed a w hc (Region.free_spec ho hfr) hr hy hS (wpAnyF_of_fork hs hQ rest _ _ w h2 (closed_set hc hr) h3)
end
end
section
inductive OrdT where
 | nil
 | take (i:Nat) (t:OrdT)
 | one (i:Nat) (t:OrdT)
 | two (i j:Nat) (t u:OrdT)
def OrdT.len:OrdT→Nat
 | .nil=>0
 | .take _ t=>t.len+1
 | .one _ t=>t.len+1
 | .two _ _ t _=>t.len+1
section
variable {P:Program} {ops:Array Oper} {Q:Exit→Act→World→Prop} {S:World→Prop} {fin:Nat}
def permT (ops:Array Oper) (fin:Nat):OrdT→Array Bool→Bool
 | .nil,l=>(Region.ready .any ops l).isEmpty
 | .take i t,l=>(match ops[i]? with
   | none=>false
   | some _=>decide (i < l.size) && Region.free .any ops l i && (Region.ready .any ops l).contains i && waitsB ops ops.size i fin) && permT ops fin t (l.setIfInBounds i true)
 | .one i t,l=>Region.ready .any ops l == [i] && decide (i < l.size) && permT ops fin t (l.setIfInBounds i true)
 | .two i j t u,l=>Region.ready .any ops l == [i,j] && decide (i < l.size) && decide (j < l.size) && permT ops fin t (l.setIfInBounds i true) && permT ops fin u (l.setIfInBounds j true) && t.len == u.len
def wpTree (P:Program) (ops:Array Oper) (Q:Exit→Act→World→Prop) (S:World→Prop) (fin:Nat):OrdT→Act→World→Prop
 | .nil,a,w=>Q .normal a w
 | .take i t,a,w=>match ops[i]? with
  | none=>False
  | some o=>∃ v,YieldsIf P ops S o v a∧S w∧wpTree P ops Q S fin t (a.put o.dst v) w
 | .one i t,a,w=>wpOp P ops Q i (fun a' w'=>(i=fin∨S w')∧wpTree P ops Q S fin t a' w') a w
 | .two i j t u,a,w=>wpOp P ops Q i (fun a' w'=>(i=fin∨S w')∧wpTree P ops Q S fin t a' w') a w∧wpOp P ops Q j (fun a' w'=>(j=fin∨S w')∧wpTree P ops Q S fin u a' w') a w
theorem wpAnyF_of_tree (hs:Region.noSelect ops=true) (hQ:∀ (d:Option Tmp) (v:Value) c a w,Q (.panic c) (a.put d v) w→Q (.panic c) a w) :
  ∀ (t:OrdT) (l:Array Bool) (a:Act) (w:World),permT ops fin t l=true→Closed ops l→wpTree P ops Q S fin t a w→wpAnyF P ops Q S fin t.len l a w
 | .nil,l,a,w,hp,_,h=>by
  simp only [permT,List.isEmpty_iff] at hp
  exact ⟨hp,h⟩
 | .take i t,l,a,w,hp,hc,h=>by
  simp only [permT,Bool.and_eq_true] at hp
  obtain ⟨h1,h2⟩:=hp
  cases ho:ops[i]? with
  | none=>simp [ho] at h1
  | some o =>
   simp only [ho,Bool.and_eq_true,decide_eq_true_eq] at h1
   obtain ⟨⟨⟨_,hfr⟩,hrd⟩,hw⟩:=h1
   simp only [wpTree,ho] at h
   obtain ⟨v,hy,hS,h3⟩:=h
   have hr:i∈Region.ready .any ops l:=by simpa using hrd
   exact wpAnyF_first ho (Region.noSelect_spec hs) (hQ o.dst v) hw _ l a w hc (Region.free_spec ho hfr) hr hy hS (wpAnyF_of_tree hs hQ t _ _ w h2 (closed_set hc hr) h3)
 | .one i t,l,a,w,hp,hc,h=>by
  simp only [permT,Bool.and_eq_true,beq_iff_eq,decide_eq_true_eq] at hp
  obtain ⟨⟨h1,h2⟩,h3⟩:=hp
  refine ⟨fun h0=>(by rw [h0] at h1;cases h1),fun j hj=>?_⟩
  have hj':=hj
  rw [h1] at hj
  simp only [List.mem_singleton] at hj
  subst hj
  refine wpOp_mono (fun a' w' hh=>⟨?_,wpAnyF_of_tree hs hQ t _ a' w' h3 (closed_set hc hj') hh.2⟩) h
  rcases hh.1 with h4 | h4
  ·subst h4;exact .inl (by simp [h2])
  ·exact .inr h4
 | .two i j t u,l,a,w,hp,hc,h=>by
  simp only [permT,Bool.and_eq_true,beq_iff_eq,decide_eq_true_eq] at hp
  obtain ⟨⟨⟨⟨⟨h1,h2⟩,h3⟩,h4⟩,h5⟩,h6⟩:=hp
  refine ⟨fun h0=>(by rw [h0] at h1;cases h1),fun r hr=>?_⟩
  have hr':=hr
  rw [h1] at hr
  simp only [List.mem_cons,List.not_mem_nil,or_false] at hr
  rcases hr with rfl | rfl
  ·refine wpOp_mono (fun a' w' hh=>⟨?_,wpAnyF_of_tree hs hQ t _ a' w' h4 (closed_set hc hr') hh.2⟩) h.1
   rcases hh.1 with h7 | h7
   ·subst h7;exact .inl (by simp [h2])
   ·exact .inr h7
  ·refine wpOp_mono (fun a' w' hh=>⟨?_,?_⟩) h.2
   ·rcases hh.1 with h7 | h7
    ·subst h7;exact .inl (by simp [h3])
    ·exact .inr h7
   ·have:=wpAnyF_of_tree hs hQ u _ a' w' h5 (closed_set hc hr') hh.2
    rw [← h6] at this
    exact this
theorem reg_tree {id:Nat} {a:Act} {w:World} {l:List Oper} (S:World→Prop) (fin:Nat) (t:OrdT) (hm:P.follows .mixedOrders=true) (hs:Region.noSelect l.toArray=true) (hp:permT l.toArray fin t (Array.replicate l.toArray.size false)=true) (hl:t.len=l.toArray.size)
  (h:wpTree P l.toArray (NoPanic Q) S fin t a w.drew):(Code.region id l.toArray true).wp P Q a w:=by
 have hc:Closed l.toArray (Array.replicate l.toArray.size false):=fun k o _ hk=>by
  exfalso
  rw [Array.getD_eq_getD_getElem?,Array.getElem?_replicate] at hk
  split at hk <;> cases hk
 have h2:=wpAnyF_of_tree hs (fun _ _ _ _ _ h=>h) t _ a _ hp hc h
 rw [hl] at h2
 exact wp_region_noPanic (wp_region_any hm (wpAny_of_F _ _ _ _ h2))
theorem tree_take {k:Nat} {d:Tmp} {t:OrdT} {a:Act} {w:World} {o:Oper} {v:Value} (ho:ops[k]?=some o) (hod:o.dst=some d) (hg:o.guard=none) (hS:S w)
  (hy:∀ w,S w→(execOp a.eval o).run P w=.ok (.value v) w) (h:wpTree P ops Q S fin t { a with tmps:=a.tmps.setIfInBounds d v } w):wpTree P ops Q S fin (.take k t) a w:=by
 simp only [wpTree,ho]
 exact ⟨v,.inl ⟨by simp [Region.wanted,hg],hy⟩,hS,by rw [put_some hod];exact h⟩
theorem tree_op {i:Nat} {t:OrdT} {a:Act} {w:World} {o:Oper} (ho:ops[i]?=some o) (hg:o.guard=none)
  (h:∀ K:Act→World→Prop,(∀ a' w',S w'→wpTree P ops Q S fin t a' w'→K a' w')→o.wp P a w K Q):wpOp P ops Q i (fun a' w'=>(i=fin∨S w')∧wpTree P ops Q S fin t a' w') a w:=by
 unfold wpOp
 simp only [ho,Region.wanted,hg,if_true]
 exact .inl (h _ fun a' w' h1 h2=>⟨.inr h1,h2⟩)
theorem tree_one {i:Nat} {t:OrdT} {a:Act} {w:World} {o:Oper} (ho:ops[i]?=some o) (hg:o.guard=none)
  (h:∀ K:Act→World→Prop,(∀ a' w',S w'→wpTree P ops Q S fin t a' w'→K a' w')→o.wp P a w K Q):wpTree P ops Q S fin (.one i t) a w:=by
 simp only [wpTree]
 exact tree_op ho hg h
theorem tree_last {a:Act} {w:World} {o:Oper} (ho:ops[fin]?=some o) (hg:o.guard=none)
  (h:∀ K:Act→World→Prop,(∀ a' w',Q .normal a' w'→K a' w')→o.wp P a w K Q):wpTree P ops Q S fin (.one fin .nil) a w:=by
 simp only [wpTree]
 unfold wpOp
 simp only [ho,Region.wanted,hg,if_true]
 exact .inl (h _ fun a' w' h2=>⟨.inl trivial,h2⟩)
end
end
section
open Go.RowKit Go.Lib
theorem noPanicC {Q:Exit→Act→World→Prop} {a:Act} {w:World} (h:Q .normal a w):NoPanic Q .normal a w:=h
def rulesC:Array Value:=#[.int .i64 0,.int .i64 0,.bool false,.int .i64 1,.int .i64 1,.bool true,.int .i64 2,.int .i64 1,.bool true,.int .i64 2,.int .i64 2,.bool false,.int .i64 4,.int .i64 1,.bool false,.int .i64 6,.int .i64 3,.bool false,.int .i64 8,.int .i64 1,.bool false,.int .i64 8,.int .i64 0,.bool false]
theorem lfRules_c (w:World):Calls Tryz.prog 102 #[] w fun e w'=>e=.returned (.slice (some ⟨w.heap.size,0,none⟩) 8 8)∧w'=w.alloc (.cells rulesC 190):=by
 go_enter Tryz.func102,Tryz.ntmps102
 go_wp2_with fail
 go_ret
 exact ⟨rfl,rfl⟩
theorem rulesC_at (k:Nat) (h:k≤7):∃ f t,rulesC[k*3]?=some (.int .i64 f)∧rulesC[k*3+1]?=some (.int .i64 t)∧rulesC[k*3+2]?=some (.bool (decide (k=1∨k=2))):=by
 obtain rfl | rfl | rfl | rfl | rfl | rfl | rfl | rfl:k=0∨k=1∨k=2∨k=3∨k=4∨k=5∨k=6∨k=7:=by omega
 all_goals exact ⟨_,_,rfl,rfl,rfl⟩
set_option maxRecDepth 100000 in
theorem lfFormed_c (k a h:Int) (w:World):Calls Tryz.prog 67 #[.agg #[.int .i64 k,.int .i64 a,.int .i64 h]] w fun e w'=>e=.returned (.bool (lnB k a h))∧Fr [] w w':=by
 have C1:=qj fun W=>lfIsIn_c k 1 7 W
 have C2:=qj fun W=>lfIsIn_c a 0 10000000 W
 have C3:=qj fun W=>lfIsIn_c h 0 63 W
 have A1:=qm w (.cells #[.int .i64 k,.int .i64 a,.int .i64 h] 25)
 have F1:=qj (Fr.alloc [] w (.cells #[.int .i64 k,.int .i64 a,.int .i64 h] 25))
 have hsz:(w.alloc (.cells #[.int .i64 k,.int .i64 a,.int .i64 h] 25)).heap.size=w.heap.size+1:=by simp
 have c0:=qd A1 0;have c1:=qd A1 1;have c2:=qd A1 2
 unfold lnB
 cases h1:inB k 1 7 with
 | false =>
  simp only [h1] at C1
  simp only [Bool.false_and]
  clear h1 C2 C3 hsz
  go_enter Tryz.func67,Tryz.ntmps67
  go_wp2_with fail
  refine (C1.out _).mono ?_
  rintro e w1 ⟨rfl,rfl⟩
  go_wp2_with fail
  go_ret
  exact ⟨rfl,F1.out⟩
 | true =>
  cases h2:inB a 0 10000000 with
  | false =>
   simp only [h1] at C1
   simp only [h2] at C2
   simp only [Bool.false_and,Bool.and_false]
   clear h1 h2 C3 hsz
   go_enter Tryz.func67,Tryz.ntmps67
   go_wp2_with fail
   refine (C1.out _).mono ?_
   rintro e w1 ⟨rfl,rfl⟩
   go_wp2_with fail
   refine (C2.out _).mono ?_
   rintro e w1 ⟨rfl,rfl⟩
   go_wp2_with fail
   go_ret
   exact ⟨rfl,F1.out⟩
  | true =>
   obtain ⟨hk1,hk7⟩:=inB_iff.1 h1
   simp only [h1] at C1
   simp only [h2] at C2
   obtain ⟨n,rfl⟩:=Int.eq_ofNat_of_zero_le (show 0≤k by omega)
   have hn:n≤7:=by omega
   obtain ⟨rf,rt,r0,r1,r2⟩:=rulesC_at n hn
   have hnm:(decide ((n:Int)=1∨(n:Int)=2))=decide (n=1∨n=2):=by rw [decide_eq_decide];omega
   rw [Bool.true_and,Bool.true_and,show (if (n:Int)=1∨(n:Int)=2 then inB h 0 63 else decide (h=-1))=bif decide (n=1∨n=2) then inB h 0 63 else decide (h=-1) from by rw [← hnm];by_cases hc:(n:Int)=1∨(n:Int)=2 <;> simp [hc]]
   generalize decide (n=1∨n=2)=nm at *
   clear h1 h2 hk1 hk7 hnm
   go_enter Tryz.func67,Tryz.ntmps67
   go_wp2_with fail
   refine (C1.out _).mono ?_
   rintro e w1 ⟨rfl,rfl⟩
   go_wp2_with fail
   refine (C2.out _).mono ?_
   rintro e w1 ⟨rfl,rfl⟩
   generalize w.alloc (.cells #[.int .i64 (n:Int),.int .i64 a,.int .i64 h] 25)=W at *
   go_wp2_with fail
   refine reg_tree (Fr [] W) 5 (.take 1 (.take 2 (.one 0 (.one 3 (.one 4 (.one 5 .nil)))))) (by kernel_rfl) (by kernel_rfl) (by kernel_rfl) rfl ?_
   have FC:Fr [] W W.drew:=Fr.drew _ _
   generalize W.drew=WC at FC ⊢
   iterate 2 (refine tree_take (v:=?_) rfl rfl rfl FC (fun w hS=>?_) ?_;rotate_left;(focus (have s0:=hS.cel c0 (by simp);clear hS;go_simp;rfl));simp only [qu,qv,qx])
   refine tree_one rfl rfl (fun K hK=>?_)
   go_simp
   refine (lfRules_c _).mono ?_
   rintro e w2 ⟨rfl,rfl⟩
   have R0:=qm WC (.cells rulesC 190)
   have FC:=FC.trans (Fr.alloc [] WC (.cells rulesC 190))
   have r3:=(qd R0 (n*3+2)).trans r2
   generalize WC.heap.size=b at *
   generalize WC.alloc (.cells rulesC 190)=WD at *
   refine hK _ _ FC ?_
   clear hK K R0 r0 r1 r2
   try simp only [Act.put,qu,qv,qx]
   refine tree_one rfl rfl (fun K hK=>?_)
   go_simp
   rw [if_pos (by omega)]
   try go_upon
   try go_simp
   refine hK _ _ FC ?_
   clear hK K
   try simp only [Act.put,qu,qv,qx]
   refine tree_one rfl rfl (fun K hK=>?_)
   go_simp
   try go_upon
   try go_simp
   refine hK _ _ FC ?_
   clear hK K
   try simp only [Act.put,qu,qv,qx]
   refine tree_last rfl rfl (fun K hK=>?_)
   go_simp
   try go_upon
   try go_simp
   refine hK _ _ ?_
   clear hK K r3
   refine noPanicC ?_
   have c2:=FC.cel c2 (by simp)
   have HF:=qj (F1.out.trans FC)
   clear FC c0 c1 F1 C1 C2
   cases nm with
   | true =>
    go_wp2_with fail
    refine (C3.out _).mono ?_
    rintro e w3 ⟨rfl,rfl⟩
    go_wp2_with fail
    go_ret
    exact ⟨rfl,HF.out⟩
   | false =>
    clear C3
    go_wp2_with fail
    go_ret
    exact ⟨rfl,HF.out⟩
end
section
open Go.RowKit Go.Lib
def rgB (f t:Int):Bool:=decide (0≤f) && (decide (f < t) && decide (t≤100000000))
theorem bkIsRange_c (f t:Int) (w:World):Calls Tryz.prog 108 #[.agg #[.int .i64 f,.int .i64 t]] w fun e w'=>e=.returned (.bool (rgB f t))∧Fr [] w w':=by
 unfold rgB
 cases h1:decide (0≤f) with
 | true =>
  cases h2:decide (f < t) with
  | true =>
   go_enter Tryz.func108,Tryz.ntmps108
   go_wp2_with fail
   go_ret
   exact ⟨by simp,Fr.alloc _ _ _⟩
  | false =>
   go_enter Tryz.func108,Tryz.ntmps108
   go_wp2_with fail
   go_ret
   exact ⟨rfl,Fr.alloc _ _ _⟩
 | false =>
  go_enter Tryz.func108,Tryz.ntmps108
  go_wp2_with fail
  go_ret
  exact ⟨rfl,Fr.alloc _ _ _⟩
theorem bkIsCarrier_c (n:Int) (w:World):Calls Tryz.prog 109 #[.int .i64 n] w fun e w'=>e=.returned (.bool (inB n 0 7))∧w=w':=by
 unfold inB
 by_cases h:0≤n
 ·go_enter Tryz.func109,Tryz.ntmps109
  go_wp2
  go_ret
  exact ⟨by simp [h],rfl⟩
 ·go_enter Tryz.func109,Tryz.ntmps109
  go_wp2
  go_ret
  exact ⟨by simp [show ¬ 0≤n by omega],rfl⟩
def bkOk (z b:Bk):Bool:=rgB b.frm b.to_ && inB b.car 0 7 && !decide (b.frm < z.to_) && !(decide (b.frm=z.to_) && decide (b.car=z.car))
def bksGo:Bk→List Bk→Bool
 | _,[]=>true
 | z,b :: l=>bkOk z b && bksGo b l
def validBk (l:List Bk):Bool:=decide (l.length≤40) && bksGo ⟨0,0,-1⟩ l
set_option maxRecDepth 100000 in
set_option maxHeartbeats 2000000 in
theorem bkValid1_c (z b:Bk) (be:Nat) (w:World) (h:w.heap[be]?=some (.cells (bkC z).toArray 99 (0,0))):Calls Tryz.prog 107 #[bkV b,.pointer (some ⟨be,0,none⟩)] w fun e w'=>e=.returned (.bool (!bkOk z b))∧w'.heap[be]?=some (.cells (bkC b).toArray 99 (0,0))∧Fr [be] w w':=by
 obtain ⟨z0,z1,z2⟩:=z
 obtain ⟨b0,b1,b2⟩:=b
 have CR:=qj fun W=>bkIsRange_c b0 b1 W
 have CC:=qj fun W=>bkIsCarrier_c b2 W
 have hlt:=blk_lt h
 have g0:=qd h 0;have g1:=qd h 1;have g2:=qd h 2
 have y0:=ql h 0;have y1:=ql h 1;have y2:=ql h 2
 unfold bkOk
 simp only
 generalize hr:rgB b0 b1=rb at *
 generalize hc:inB b2 0 7=cb at *
 generalize hl:decide (b0 < z1)=lb
 clear hr hc
 simp only [bkC] at g0 g1 g2 ⊢
 go_enter Tryz.func107,Tryz.ntmps107
 go_wp2_with fail
 obtain ⟨K3,F3⟩:=set3c h (.int .i64 b0) (.int .i64 b1) (.int .i64 b2)
 have hsz:(((w.setCell ⟨be,0,none⟩ (.int .i64 b0)).setCell ⟨be,1,none⟩ (.int .i64 b1)).setCell ⟨be,2,none⟩ (.int .i64 b2)).heap.size=w.heap.size:=by simp
 obtain ⟨F5,B1,B2⟩:=two_more (((w.setCell ⟨be,0,none⟩ (.int .i64 b0)).setCell ⟨be,1,none⟩ (.int .i64 b1)).setCell ⟨be,2,none⟩ (.int .i64 b2)) (.cells #[.int .i64 b0,.int .i64 b1,.int .i64 b2] 99) (.cells #[.int .i64 z0,.int .i64 z1,.int .i64 z2] 99)
 rw [hsz] at B1 B2
 have HB:=qj (And.intro (F5.keep K3 (by simp)) (And.intro (F3.trans (F5.mono (by simp))) (And.intro B1 B2)))
 clear K3 F3 F5 B1 B2 hsz g0 g1 g2 y0 y1 y2 h
 generalize ((((w.setCell ⟨be,0,none⟩ (.int .i64 b0)).setCell ⟨be,1,none⟩ (.int .i64 b1)).setCell ⟨be,2,none⟩ (.int .i64 b2)).alloc (.cells #[.int .i64 b0,.int .i64 b1,.int .i64 b2] 99)).alloc (.cells #[.int .i64 z0,.int .i64 z1,.int .i64 z2] 99)=W at *
 refine (CR.out _).mono ?_
 rintro e w2 ⟨rfl,f2⟩
 have HC:Hid (w2.heap[be]?=some (.cells #[.int .i64 b0,.int .i64 b1,.int .i64 b2] 99 (0,0))∧Fr [be] w w2):=qj ⟨f2.keep HB.out.1 (by simp),HB.out.2.1.trans (f2.mono (by simp))⟩
 have c0:=f2.cel (qd HB.out.2.2.1 0) (by simp);have c1:=f2.cel (qd HB.out.2.2.1 1) (by simp);have c2:=f2.cel (qd HB.out.2.2.1 2) (by simp)
 have z1':=f2.cel (qd HB.out.2.2.2 1) (by simp);have z2':=f2.cel (qd HB.out.2.2.2 2) (by simp)
 clear f2 HB CR
 cases rb with
 | false =>
  clear CC
  go_wp2_with fail
  go_ret
  exact ⟨rfl,HC.out⟩
 | true =>
  go_wp2_with fail
  refine (CC.out _).mono ?_
  rintro e w3 ⟨rfl,rfl⟩
  clear CC
  cases cb with
  | false =>
   go_wp2_with fail
   go_ret
   exact ⟨rfl,HC.out⟩
  | true =>
   cases lb with
   | true =>
    go_wp2_with fail
    go_ret
    exact ⟨rfl,HC.out⟩
   | false =>
    clear hlt
    by_cases e1:b2=z2
    ·subst e1
     by_cases e0:b0=z1
     ·subst e0
      go_wp2_with fail
      all_goals (go_ret;refine ⟨by simp,?_⟩;first | exact HC.out | exact ⟨(Fr.drew [] _).keep HC.out.1 (by simp),HC.out.2.trans (Fr.drew _ _)⟩)
     ·go_wp2_with fail
      all_goals (go_ret;refine ⟨by simp,?_⟩;first | exact HC.out | exact ⟨(Fr.drew [] _).keep HC.out.1 (by simp),HC.out.2.trans (Fr.drew _ _)⟩)
    ·go_wp2_with fail
     all_goals (go_ret;refine ⟨by simp [e1],?_⟩;first | exact HC.out | exact ⟨(Fr.drew [] _).keep HC.out.1 (by simp),HC.out.2.trans (Fr.drew _ _)⟩)
def lastBk (l:List Bk) (k:Nat):Bk:=if k=0 then ⟨0,0,-1⟩ else l.getD (k - 1) default
theorem bksGo_any:∀ (l:List Bk) (z:Bk),bksGo z l=!anyN (fun k=>!bkOk (if k=0 then z else l.getD (k - 1) default) (l.getD k default)) l.length
 | [],z=>rfl
 | b :: l,z=>by
  rw [bksGo,bksGo_any l b,List.length_cons,anyN_succ,Bool.not_or]
  simp only [if_true,List.getD_cons_zero,Bool.not_not]
  congr 3
  funext k
  cases k with
  | zero=>simp
  | succ k=>simp
theorem Sl.yng {w w':World} {v:Value} {n:Nat} {cs:List Value} {S:List Nat} (h:Sl w v n cs) (hf:Fr S w w') (hS:∀ k,k∈S→w.heap.size≤k):Sl w' v n cs:=by
 obtain ⟨a,cap,rfl,h1,h2,h3⟩:=h
 refine ⟨a,cap,rfl,h1,h2,fun h0=>?_⟩
 obtain ⟨b,off,rfl,hc⟩:=h3 h0
 refine ⟨b,off,rfl,fun j u hu=>?_⟩
 have:=hc j u hu
 have hb:=World.block_lt_of_cell? w _ this
 exact (World.cell?_of_block (hf.block b hb (fun hm=>by have:=hS b hm;simp at hb;omega))).trans this
set_option maxRecDepth 100000 in
theorem bkValid_c (v:Value) (l:List Bk) (w:World) (h:Sl w v l.length (l.flatMap bkC)) (hl:l.length≤1000000):Calls Tryz.prog 64 #[v] w fun e w'=>e=.returned (.bool (validBk l))∧Fr [] w w':=by
 obtain ⟨a,cap,rfl⟩:=h.val
 have HL:=qj h
 have A1:=qm w (.cells (bkC ⟨0,0,-1⟩).toArray 99)
 have f1:=Fr.alloc [] w (.cells (bkC ⟨0,0,-1⟩).toArray 99)
 have CV:=qj (cfBk_c 107 #[.pointer (some ⟨w.heap.size,0,none⟩)] (fun _ _=>rfl) a cap l (fun k=>!bkOk (if k=0 then ⟨0,0,-1⟩ else l.getD (k - 1) default) (l.getD k default))
  (fun k W=>W.heap[w.heap.size]?=some (.cells (bkC (if k=0 then ⟨0,0,-1⟩ else l.getD (k - 1) default)).toArray 99 (0,0))∧Fr [w.heap.size] (w.alloc (.cells (bkC ⟨0,0,-1⟩).toArray 99)) W) _
  (fun k W hJ=>h.yng ((f1.mono (by simp)).trans hJ.2) (fun k hk=>by simp at hk;omega))
  (fun k W hk _ hJ=>(bkValid1_c _ _ _ W hJ.1).mono fun e W' ⟨he,h1,h2⟩=>⟨he,by simpa using h1,hJ.2.trans h2⟩) ⟨A1,Fr.refl _ _⟩)
 have hfin:∀ W,Fr [w.heap.size] (w.alloc (.cells (bkC ⟨0,0,-1⟩).toArray 99)) W→Fr [] w W:=fun W hf=>f1.step hf (fun g hg=>.inr (by simp at hg;omega))
 have HF:=qj hfin;have HF1:=qj f1
 clear A1 f1 hfin h
 unfold validBk
 rw [bksGo_any]
 simp only [bkC] at CV HF HF1
 generalize anyN _ l.length=q at *
 cases h4:decide (l.length≤40) with
 | false =>
  have h5:decide ((l.length:Int)≤40)=false:=by rw [← h4,decide_eq_decide];omega
  clear h4 CV
  go_enter Tryz.func64,Tryz.ntmps64
  go_wp2_with fail
  go_ret
  exact ⟨rfl,HF1.out⟩
 | true =>
  have h5:decide ((l.length:Int)≤40)=true:=by rw [← h4,decide_eq_decide];omega
  clear h4
  go_enter Tryz.func64,Tryz.ntmps64
  go_wp2_with fail
  refine CV.out.mono ?_
  rintro e w2 ⟨rfl,k,_,f2⟩
  have HF2:=qj (HF.out _ f2)
  clear f2 CV HF
  go_wp2_with fail
  go_ret
  exact ⟨rfl,HF2.out⟩
def inBk (n:Int) (b:Bk):Bool:=decide (b.frm≤n) && decide (n < b.to_)
theorem bkFind1_c (b:Bk) (n:Int) (bn:Nat) (w:World) (h:w.heap[bn]?=some (.cells #[.int .i64 n] 3 (0,0))):Calls Tryz.prog 98 #[bkV b,.pointer (some ⟨bn,0,none⟩)] w fun e w'=>e=.returned (.bool (inBk n b))∧Fr [] w w':=by
 obtain ⟨b0,b1,b2⟩:=b
 have c0:=heap_alloc_old (.cells #[.int .i64 b0,.int .i64 b1,.int .i64 b2] 99) h
 have g0:=qd c0 0
 unfold inBk
 simp only
 cases hc:decide (b0≤n) with
 | true =>
  go_enter Tryz.func98,Tryz.ntmps98
  go_wp2_with fail
  go_ret
  exact ⟨by simp,Fr.alloc _ _ _⟩
 | false =>
  go_enter Tryz.func98,Tryz.ntmps98
  go_wp2_with fail
  go_ret
  exact ⟨rfl,Fr.alloc _ _ _⟩
def findBk (l:List Bk) (n:Int):Option Int:=if validBk l then (l.find? (inBk n)).map (·.car) else none
end
section
open Go.RowKit Go.Lib
theorem find_idx {α:Type} (l:List α) (q:α→Bool) (d:α):(∃ (k:Nat) (h:k < l.length),idxN (fun k=>q (l.getD k d)) l.length=k∧l.find? q=some l[k])∨(idxN (fun k=>q (l.getD k d)) l.length=-1∧l.find? q=none):=by
 cases hf:l.find? q with
 | none =>
  refine .inr ⟨idxN_none fun j hj=>?_,rfl⟩
  have:=List.find?_eq_none.1 hf l[j] (List.getElem_mem hj)
  simpa [hj] using this
 | some x =>
  obtain ⟨k,hk,hx,hq,hb⟩:∃ (k:Nat) (hk:k < l.length),l[k]=x∧q l[k]=true∧∀ j,(hj:j < k)→q (l[j]'(by omega))=false:=by
   obtain ⟨h1,k,hk,h2,h3⟩:=List.find?_eq_some_iff_getElem.1 hf
   exact ⟨k,hk,h2,by rw [h2];exact h1,fun j hj=>by simpa using h3 j hj⟩
  refine .inl ⟨k,hk,idxN_some hk (by simpa [hk] using hq) (fun j hj=>?_),by rw [hx]⟩
  have:=hb j hj
  simpa [show j < l.length by omega] using this
def findV:Option Int→Value
 | some c=>.tuple #[.int .i64 c,.bool true]
 | none=>.tuple #[.int .i64 0,.bool false]
set_option maxRecDepth 100000 in
set_option maxHeartbeats 1000000 in
theorem bkFind_c (v:Value) (l:List Bk) (n:Int) (w:World) (h:Sl w v l.length (l.flatMap bkC)) (hl:l.length≤1000000):Calls Tryz.prog 57 #[v,.int .i64 n] w fun e w'=>e=.returned (findV (findBk l n))∧Fr [] w w':=by
 obtain ⟨a,cap,rfl⟩:=h.val
 have A1:=qm w (.cells #[.int .i64 n] 3)
 have f1:=Fr.alloc [] w (.cells #[.int .i64 n] 3)
 have CF:=qj (ifBk_c 98 #[.pointer (some ⟨w.heap.size,0,none⟩)] (fun _ _=>rfl) a cap l (fun k=>inBk n (l.getD k default))
  (fun _ W=>Fr [] (w.alloc (.cells #[.int .i64 n] 3)) W) _
  (fun k W hJ=>(h.same f1).same hJ)
  (fun k W hk _ hJ=>(bkFind1_c _ n _ W (hJ.keep A1 (by simp))).mono fun e W' ⟨he,h1⟩=>⟨he,hJ.trans h1⟩) (Fr.refl _ _))
 have CV:=qj fun W (hf:Fr [] w W)=>bkValid_c (.slice a l.length cap) l W (h.same hf) hl
 have HF1:=qj f1
 have HL:=qj h
 unfold findBk
 have hfi:=find_idx l (inBk n) default
 generalize validBk l=vb at *
 generalize idxN _ l.length=r at *
 clear A1 f1 h
 rcases hfi with ⟨k,hk,rfl,hf⟩ | ⟨rfl,hf⟩
 ·rw [hf]
  obtain ⟨b,off,rfl,hc⟩:=HL.out.at_ (by omega)
  have c0:=hc (k*3+2) _ ((flat_get (enc:=bkC) (k:=3) (fun _=>rfl) l k hk 2 (by omega)).trans rfl)
  generalize l[k]=x at *
  obtain ⟨x0,x1,x2⟩:=x
  simp only [← Nat.add_assoc] at c0
  clear hf hc
  go_enter Tryz.func57,Tryz.ntmps57
  go_wp2_with fail
  refine CF.out.mono ?_
  rintro e w2 ⟨rfl,j,f2⟩
  have HF2:=qj (HF1.out.trans f2)
  clear f2 CF HF1
  go_wp2_with fail
  refine (CV.out _ HF2.out).mono ?_
  rintro e w3 ⟨rfl,f3⟩
  have c0:=(HF2.out.trans f3).cel c0 (by simp)
  have HF3:=qj (HF2.out.trans f3)
  clear f3 HF2 CV
  cases vb with
  | true =>
   go_wp2_with fail
   go_ret2
   exact ⟨rfl,HF3.out⟩
  | false =>
   go_wp2_with fail
   go_ret2
   exact ⟨rfl,HF3.out⟩
 ·rw [hf,show (if vb=true then Option.map (fun x:Bk=>x.car) none else none)=none from by cases vb <;> rfl]
  clear CV hf
  go_enter Tryz.func57,Tryz.ntmps57
  go_wp2_with fail
  refine CF.out.mono ?_
  rintro e w2 ⟨rfl,j,f2⟩
  have HF2:=qj (HF1.out.trans f2)
  clear f2 CF HF1
  go_wp2_with fail
  go_ret2
  exact ⟨rfl,HF2.out⟩
end
section
open Go.RowKit Go.Lib
set_option maxRecDepth 100000 in
theorem clIsClaim_c (n f t h a:Int) (b:Bool) (w:World):Calls Tryz.prog 111 #[.agg #[.int .i64 n,.int .i64 f,.int .i64 t,.int .i64 h,.int .i64 a,.bool b]] w fun e w'=>e=.returned (.bool (cmB n f t h a))∧Fr [] w w':=by
 have C1:=qj fun W=>clIsIn_c n 0 99999999 W
 have C2:=qj fun W=>clIsIn_c f 0 7 W
 have C3:=qj fun W=>clIsIn_c t 0 7 W
 have C5:=qj fun W=>clIsIn_c h 0 63 W
 have C6:=qj fun W=>clIsIn_c a 0 10000000 W
 have F1:=qj (Fr.alloc [] w (.cells #[.int .i64 n,.int .i64 f,.int .i64 t,.int .i64 h,.int .i64 a,.bool b] 27))
 unfold cmB
 generalize inB n 0 99999999=b1 at *
 generalize inB f 0 7=b2 at *
 generalize inB t 0 7=b3 at *
 generalize inB h 0 63=b5 at *
 generalize inB a 0 10000000=b6 at *
 go_enter Tryz.func111,Tryz.ntmps111
 go_wp2_with fail
 refine (C1.out _).mono ?_
 rintro e w1 ⟨rfl,rfl⟩
 cases b1 with
 | false =>
  go_wp2_with fail
  go_ret
  exact ⟨rfl,F1.out⟩
 | true =>
  go_wp2_with fail
  refine (C2.out _).mono ?_
  rintro e w1 ⟨rfl,rfl⟩
  cases b2 with
  | false =>
   go_wp2_with fail
   go_ret
   exact ⟨rfl,F1.out⟩
  | true =>
   go_wp2_with fail
   refine (C3.out _).mono ?_
   rintro e w1 ⟨rfl,rfl⟩
   cases b3 with
   | false =>
    go_wp2_with fail
    go_ret
    exact ⟨rfl,F1.out⟩
   | true =>
    by_cases e4:f=t
    ·subst e4
     go_wp2_with fail
     go_ret
     exact ⟨by simp,F1.out⟩
    ·go_wp2_with fail
     refine (C5.out _).mono ?_
     rintro e w1 ⟨rfl,rfl⟩
     cases b5 with
     | false =>
      go_wp2_with fail
      go_ret
      exact ⟨by simp,F1.out⟩
     | true =>
      go_wp2_with fail
      refine (C6.out _).mono ?_
      rintro e w1 ⟨rfl,rfl⟩
      cases b6 with
      | false =>
       go_wp2_with fail
       go_ret
       exact ⟨by simp,F1.out⟩
      | true =>
       go_wp2_with fail
       go_ret
       exact ⟨by simp [e4],F1.out⟩
theorem getD_at {α:Type} (l:List α) (k:Nat) (d:α) (h:k < l.length):l.getD k d=l[k]:=by simp [h]
def rulB (a c s r:Int):Bool:=[a,s,c,r].all fun n=>inB n 1 1000000
set_option maxRecDepth 100000 in
theorem clAreValid_c (a c s r:Int) (w:World):Calls Tryz.prog 110 #[.agg #[.int .i64 a,.int .i64 c,.int .i64 s,.int .i64 r]] w fun e w'=>e=.returned (.bool (rulB a c s r))∧Fr [] w w':=by
 obtain ⟨F2,_,B2⟩:=two_more w (.cells #[.int .i64 a,.int .i64 c,.int .i64 s,.int .i64 r] 203) (.cells #[.int .i64 a,.int .i64 s,.int .i64 c,.int .i64 r] 3)
 have HF:=qj F2
 have HC:Hid (∀ k,k < 4→((w.alloc (.cells #[.int .i64 a,.int .i64 c,.int .i64 s,.int .i64 r] 203)).alloc (.cells #[.int .i64 a,.int .i64 s,.int .i64 c,.int .i64 r] 3)).cell? ⟨w.heap.size+1,k,none⟩=some (.int .i64 ([a,s,c,r].getD k 0))):=qj fun k hk=>by
  rw [qd B2]
  obtain rfl | rfl | rfl | rfl:k=0∨k=1∨k=2∨k=3:=by omega
  all_goals rfl
 have HS:Hid (rulB a c s r=[a,s,c,r].all fun n=>inB n 1 1000000):=qj rfl
 generalize rulB a c s r=R at *
 generalize hl:[a,s,c,r]=l at *
 have hlen:l.length=4:=by rw [← hl];rfl
 clear F2 B2 hl
 go_enter Tryz.func110,Tryz.ntmps110
 go_wp2_with fail
 generalize (w.alloc (.cells #[.int .i64 a,.int .i64 c,.int .i64 s,.int .i64 r] 203)).alloc (.cells #[.int .i64 a,.int .i64 s,.int .i64 c,.int .i64 r] 3)=W at *
 go_loopw [15] (fun i wr=>∃ k:Nat,k≤4∧i=.int .i64 k∧Hid (wr=W)∧Hid (∀ j,j < k→inB (l.getD j 0) 1 1000000=true)) (fun i _=>4 - (RowKit.intOf i).toNat)
 case atStart=>exact ⟨0,Nat.zero_le _,rfl,qj rfl,qj fun j h=>by omega⟩
 case round =>
  obtain ⟨k,hk,rfl,HJ,HP⟩:=hrel
  have hJ:=HJ.out
  subst hJ
  by_cases hlt:k < 4
  ·have c0:=HC.out k hlt
   have CI:=qj (clIsIn_c (l.getD k 0) 1 1000000 wr)
   have HM:Hid (l.getD k 0∈l):=qj (by rw [getD_at l k 0 (by omega)];exact List.getElem_mem _)
   obtain ⟨b,hb⟩:∃ b,inB (l.getD k 0) 1 1000000=b:=⟨_,rfl⟩
   have HB:=qj hb
   rw [hb] at CI
   clear hb hlen
   obtain ⟨x,hx⟩:∃ x,x=l.getD k 0:=⟨_,rfl⟩
   rw [← hx] at CI c0 HM HB
   have HX:=qj hx
   clear hx
   cases b with
   | false =>
    have HR:Hid (R=false):=qj (by rw [HS.out,List.all_eq_false];exact ⟨x,HM.out,by rw [HB.out];simp⟩)
    go_wp2_with fail
    refine CI.out.mono ?_
    rintro e w1 ⟨rfl,rfl⟩
    go_wp2_with fail
    go_ret
    exact ⟨by rw [HR.out];rfl,HF.out⟩
   | true =>
    go_wp2_with fail
    refine CI.out.mono ?_
    rintro e w1 ⟨rfl,rfl⟩
    go_wp2_with fail
    go_roundw
    case rel=>exact ⟨k+1,by omega,by go_num,qj trivial,qj fun j h=>by
     rcases Nat.lt_or_ge j k with h1 | h1
     ·exact HP.out j h1
     ·obtain rfl:j=k:=by omega
      rw [← HX.out];exact HB.out⟩
    case measure=>simp [RowKit.intOf];omega
  ·obtain rfl:k=4:=by omega
   have HR:Hid (R=true):=qj (by
    rw [HS.out,List.all_eq_true]
    intro x hx
    obtain ⟨j,hj,rfl⟩:=List.getElem_of_mem hx
    have:=HP.out j (by omega)
    rwa [getD_at l j 0 hj] at this)
   clear hlen
   go_wp2_with fail
   go_ret
   exact ⟨by rw [HR.out];rfl,HF.out⟩
theorem inB_zero (r:Int):inB r 0 0=decide (r=0):=by unfold inB;rw [Bool.eq_iff_iff];simp;omega
set_option maxRecDepth 100000 in
set_option maxHeartbeats 2000000 in
theorem clValid1_c (x:Ev) (z:Int) (bl:Nat) (w:World) (h:w.heap[bl]?=some (.cells #[.int .i64 z] 3 (0,0))):Calls Tryz.prog 112 #[evV x,.pointer (some ⟨bl,0,none⟩)] w fun e w'=>e=.returned (.bool (!evB z x.kind x.at_ x.why))∧w'.heap[bl]?=some (.cells #[.int .i64 x.at_] 3 (0,0))∧Fr [bl] w w':=by
 obtain ⟨k,a,r⟩:=x
 have C1:=qj fun W=>clIsIn_c k 1 6 W
 have C2:=qj fun W=>clIsIn_c a z 20000000 W
 have hlt:=blk_lt h
 have g0:=qd h 0;have y0:=ql h 0
 have K0:=qs (i:=0) (.int .i64 a) h
 have F0:=Fr.setCell (fp:=[bl]) (p:=⟨bl,0,none⟩) w (.int .i64 a) (by simp)
 have hsz:(w.setCell ⟨bl,0,none⟩ (.int .i64 a)).heap.size=w.heap.size:=by simp
 have B0:=qm (w.setCell ⟨bl,0,none⟩ (.int .i64 a)) (.cells #[.int .i64 k,.int .i64 a,.int .i64 r] 29)
 rw [hsz] at B0
 have HC:Hid (((w.setCell ⟨bl,0,none⟩ (.int .i64 a)).alloc (.cells #[.int .i64 k,.int .i64 a,.int .i64 r] 29)).heap[bl]?=some (.cells #[.int .i64 a] 3 (0,0))∧Fr [bl] w ((w.setCell ⟨bl,0,none⟩ (.int .i64 a)).alloc (.cells #[.int .i64 k,.int .i64 a,.int .i64 r] 29))):=qj ⟨heap_alloc_old _ K0,F0.trans (Fr.alloc _ _ _)⟩
 clear K0 F0 hsz h B0
 unfold evB
 simp only
 by_cases k2:k=2
 ·subst k2
  have C3:=qj fun W=>clIsIn_c r 1 9 W
  simp only [true_or,if_true]
  generalize inB (2:Int) 1 6=b1 at *
  generalize inB a z 20000000=b2 at *
  generalize inB r 1 9=b3 at *
  go_enter Tryz.func112,Tryz.ntmps112
  go_wp2_with fail
  refine (C1.out _).mono ?_
  rintro e w1 ⟨rfl,rfl⟩
  cases b1 with
  | false =>
   go_wp2_with fail
   go_ret
   exact ⟨by simp,HC.out⟩
  | true =>
   go_wp2_with fail
   refine (C2.out _).mono ?_
   rintro e w1 ⟨rfl,rfl⟩
   cases b2 with
   | false =>
    go_wp2_with fail
    go_ret
    exact ⟨by simp,HC.out⟩
   | true =>
    go_wp2_with fail
    refine (C3.out _).mono ?_
    rintro e w1 ⟨rfl,rfl⟩
    cases b3 with
    | false =>
     go_wp2_with fail
     go_ret
     exact ⟨by simp,HC.out⟩
    | true =>
     go_wp2_with fail
     go_ret
     exact ⟨by simp,HC.out⟩
 ·by_cases k6:k=6
  ·subst k6
   have C3:=qj fun W=>clIsIn_c r 1 9 W
   simp only [or_true,if_true]
   generalize inB (6:Int) 1 6=b1 at *
   generalize inB a z 20000000=b2 at *
   generalize inB r 1 9=b3 at *
   go_enter Tryz.func112,Tryz.ntmps112
   go_wp2_with fail
   refine (C1.out _).mono ?_
   rintro e w1 ⟨rfl,rfl⟩
   cases b1 with
   | false =>
    go_wp2_with fail
    go_ret
    exact ⟨by simp,HC.out⟩
   | true =>
    go_wp2_with fail
    refine (C2.out _).mono ?_
    rintro e w1 ⟨rfl,rfl⟩
    cases b2 with
    | false =>
     go_wp2_with fail
     go_ret
     exact ⟨by simp,HC.out⟩
    | true =>
     go_wp2_with fail
     refine (C3.out _).mono ?_
     rintro e w1 ⟨rfl,rfl⟩
     cases b3 with
     | false =>
      go_wp2_with fail
      go_ret
      exact ⟨by simp,HC.out⟩
     | true =>
      go_wp2_with fail
      go_ret
      exact ⟨by simp,HC.out⟩
  ·have C3:=qj fun W=>clIsIn_c r 0 0 W
   have q2:(k == 2)=false:=beq_eq_false_iff_ne.2 k2
   have q6:(k == 6)=false:=beq_eq_false_iff_ne.2 k6
   rw [if_neg (show ¬ (k=2∨k=6) by omega),← inB_zero]
   generalize inB k 1 6=b1 at *
   generalize inB a z 20000000=b2 at *
   generalize inB r 0 0=b3 at *
   clear k2 k6
   go_enter Tryz.func112,Tryz.ntmps112
   go_wp2_with fail
   refine (C1.out _).mono ?_
   rintro e w1 ⟨rfl,rfl⟩
   cases b1 with
   | false =>
    go_wp2_with fail
    go_ret
    exact ⟨by simp,HC.out⟩
   | true =>
    go_wp2_with fail
    refine (C2.out _).mono ?_
    rintro e w1 ⟨rfl,rfl⟩
    cases b2 with
    | false =>
     go_wp2_with fail
     go_ret
     exact ⟨by simp,HC.out⟩
    | true =>
     go_wp2_with fail
     refine (C3.out _).mono ?_
     rintro e w1 ⟨rfl,rfl⟩
     cases b3 with
     | false =>
      go_wp2_with fail
      go_ret
      exact ⟨by simp,HC.out⟩
     | true =>
      go_wp2_with fail
      go_ret
      exact ⟨by simp,HC.out⟩
end
section
open Go.RowKit Go.Lib
def evsGo:Int→List Ev→Bool
 | _,[]=>true
 | z,x :: l=>evB z x.kind x.at_ x.why && evsGo x.at_ l
def evLast (z:Int) (l:List Ev) (k:Nat):Int:=if k=0 then z else (l.getD (k - 1) default).at_
def evBad (z:Int) (l:List Ev) (k:Nat):Bool:=!evB (evLast z l k) (l.getD k default).kind (l.getD k default).at_ (l.getD k default).why
theorem evsGo_any:∀ (l:List Ev) (z:Int),evsGo z l=!anyN (evBad z l) l.length
 | [],z=>rfl
 | x :: l,z=>by
  rw [evsGo,evsGo_any l x.at_,List.length_cons,anyN_succ,Bool.not_or]
  congr 1
  ·simp [evBad,evLast]
  ·congr 2
   funext k
   cases k with
   | zero=>simp [evBad,evLast]
   | succ k=>simp [evBad,evLast]
def validC (a c s r:Int) (f:Nt) (l:List Ev):Bool:=rulB a c s r && cmB f.cn f.cf f.ct f.ch f.ca && decide (l.length≤20) && evsGo f.ca l
abbrev cmV (n f t h a:Int) (b:Bool):Value:=.agg #[.int .i64 n,.int .i64 f,.int .i64 t,.int .i64 h,.int .i64 a,.bool b]
set_option maxRecDepth 100000 in
set_option maxHeartbeats 1000000 in
theorem clValid_c (a c s r:Int) (n f t h k:Int) (b:Bool) (v:Value) (l:List Ev) (w:World) (hs:Sl w v l.length (l.flatMap evC)) (hl:l.length≤1000000) :
  Calls Tryz.prog 66 #[.agg #[.int .i64 a,.int .i64 c,.int .i64 s,.int .i64 r],cmV n f t h k b,v] w fun e w'=>e=.returned (.bool (rulB a c s r && cmB n f t h k && decide (l.length≤20) && evsGo k l))∧Fr [] w w':=by
 obtain ⟨ad,cap,rfl⟩:=hs.val
 obtain ⟨F2,B1,B2⟩:=two_more w (.cells #[.int .i64 a,.int .i64 c,.int .i64 s,.int .i64 r] 46) (.cells #[.int .i64 n,.int .i64 f,.int .i64 t,.int .i64 h,.int .i64 k,.bool b] 27)
 have CR:=qj fun W=>clAreValid_c a c s r W
 have CC:=qj fun W=>clIsClaim_c n f t h k b W
 have CV:=qj fun W (hf:Fr [] w W)=>cfEv_c 112 #[.pointer (some ⟨W.heap.size,0,none⟩)] (fun _ _=>rfl) ad cap l (evBad k l)
  (fun j V=>V.heap[W.heap.size]?=some (.cells #[.int .i64 (evLast k l j)] 3 (0,0))∧Fr [W.heap.size] (W.alloc (.cells #[.int .i64 k] 3)) V) (W.alloc (.cells #[.int .i64 k] 3))
  (fun j V hJ=>(hs.same hf).yng (((Fr.alloc [] W (.cells #[.int .i64 k] 3)).mono (by simp)).trans hJ.2) (fun q hq=>by simp at hq;omega))
  (fun j V hk _ hJ=>(clValid1_c (l.getD j default) _ _ V hJ.1).mono fun e V' ⟨he,h1,h2⟩=>⟨he,by simpa [evLast] using h1,hJ.2.trans h2⟩) ⟨qm _ _,Fr.refl _ _⟩
 have HF2:=qj F2;have HB:=qj (And.intro B1 B2)
 rw [evsGo_any]
 generalize rulB a c s r=rb at *
 generalize cmB n f t h k=cb at *
 generalize anyN (evBad k l) l.length=q at *
 have c0:=qd B1 0;have c1:=qd B1 1;have c2:=qd B1 2;have c3:=qd B1 3
 clear F2 B1 B2 hs
 have hlq:(decide ((l.length:Int) > 20))=!decide (l.length≤20):=by rw [Bool.eq_iff_iff];simp;omega
 generalize decide (l.length≤20)=lb at *
 go_enter Tryz.func66,Tryz.ntmps66
 go_wp2_with fail
 generalize (w.alloc (.cells #[.int .i64 a,.int .i64 c,.int .i64 s,.int .i64 r] 46)).alloc (.cells #[.int .i64 n,.int .i64 f,.int .i64 t,.int .i64 h,.int .i64 k,.bool b] 27)=W at *
 refine (CR.out _).mono ?_
 rintro e w1 ⟨rfl,f1⟩
 have HF1:=qj (HF2.out.trans f1)
 have HB1:=qj (f1.keep HB.out.2 (by simp))
 have d0:=qd HB1.out 0;have d1:=qd HB1.out 1;have d2:=qd HB1.out 2;have d3:=qd HB1.out 3;have d4:=qd HB1.out 4;have d5:=qd HB1.out 5
 clear f1 c0 c1 c2 c3 CR
 cases rb with
 | false =>
  go_wp2_with fail
  go_ret
  exact ⟨by simp,HF1.out⟩
 | true =>
  go_wp2_with fail
  refine (CC.out _).mono ?_
  rintro e w2 ⟨rfl,f2⟩
  have HF3:=qj (HF1.out.trans f2)
  have d4:=f2.cel d4 (by simp)
  clear f2 d0 d1 d2 d3 d5 CC
  cases cb with
  | false =>
   go_wp2_with fail
   go_ret
   exact ⟨by simp,HF3.out⟩
  | true =>
   cases lb with
   | false =>
    go_wp2_with fail
    go_ret
    exact ⟨by simp,HF3.out⟩
   | true =>
    have CV2:=qj (CV.out w2 HF3.out)
    clear CV
    go_wp2_with fail
    refine CV2.out.mono ?_
    rintro e w3 ⟨rfl,j,_,f3⟩
    have HF4:Hid (Fr [] w w3):=qj ((HF3.out.trans (Fr.alloc [] w2 (.cells #[.int .i64 k] 3))).step f3 (fun g hg=>.inr (by have:=HF3.out.size;simp at hg;omega)))
    clear f3
    go_wp2_with fail
    go_ret
    exact ⟨by simp,HF4.out⟩
end
section
open Go.RowKit Go.Lib
def ntC (f:Nt):List Value:=[.int .i64 f.src,.int .i64 f.kind,.int .i64 f.num,.int .i64 f.lk,.int .i64 f.la,.int .i64 f.lh,.int .i64 f.cn,.int .i64 f.cf,.int .i64 f.ct,.int .i64 f.ch,.int .i64 f.ca,.bool f.cb,.int .i64 f.ek,.int .i64 f.ea,.int .i64 f.er]
abbrev ntV (f:Nt):Value:=.agg #[.int .i64 f.src,.int .i64 f.kind,.int .i64 f.num,.int .i64 f.lk,.int .i64 f.la,.int .i64 f.lh,.int .i64 f.cn,.int .i64 f.cf,.int .i64 f.ct,.int .i64 f.ch,.int .i64 f.ca,.bool f.cb,.int .i64 f.ek,.int .i64 f.ea,.int .i64 f.er]
set_option maxRecDepth 100000 in
theorem caIsClaim_c (n f t h k:Int) (b:Bool) (v:Value) (l:List Ev) (w:World) (hs:Sl w v l.length (l.flatMap evC)) (hl:l.length≤20) :
  Calls Tryz.prog 68 #[cmV n f t h k b,v] w fun e w'=>e=.returned (.bool (cmB n f t h k && evsGo k l))∧Fr [] w w':=by
 obtain ⟨ad,cap,rfl⟩:=hs.val
 have f1:=Fr.alloc [] w (.cells #[.int .i64 n,.int .i64 f,.int .i64 t,.int .i64 h,.int .i64 k,.bool b] 27)
 have CV:=qj (clValid_c 1 1 1 1 n f t h k b (.slice ad l.length cap) l (w.alloc (.cells #[.int .i64 n,.int .i64 f,.int .i64 t,.int .i64 h,.int .i64 k,.bool b] 27)) (hs.same f1) (by omega))
 have hr:rulB 1 1 1 1=true:=rfl
 rw [hr,Bool.true_and,decide_eq_true hl,Bool.and_true] at CV
 have HF:=qj f1
 generalize (cmB n f t h k && evsGo k l)=q at *
 clear hs f1 hr hl
 go_enter Tryz.func68,Tryz.ntmps68
 go_wp2_with fail
 refine CV.out.mono ?_
 rintro e w1 ⟨rfl,f1⟩
 have HF1:=qj (HF.out.trans f1)
 clear f1
 go_wp2_with fail
 go_ret
 exact ⟨rfl,HF1.out⟩
set_option maxRecDepth 100000 in
set_option maxHeartbeats 4000000 in
theorem formed1_c (s n lk la lh cn cf ct ch ca:Int) (cb:Bool) (ek ea er:Int) (w:World):Calls Tryz.prog 28 #[ntV ⟨s,1,n,lk,la,lh,cn,cf,ct,ch,ca,cb,ek,ea,er⟩] w fun e w'=>e=.returned (.bool (fmN ⟨s,1,n,lk,la,lh,cn,cf,ct,ch,ca,cb,ek,ea,er⟩))∧Fr [] w w':=by
 have C1:=qj fun W=>caIsWithin_c s 0 7 W
 have C2:=qj fun W=>caIsWithin_c n 0 99999999 W
 have CF:=qj fun W=>lfFormed_c lk la lh W
 have hfm:fmN ⟨s,1,n,lk,la,lh,cn,cf,ct,ch,ca,cb,ek,ea,er⟩=(inB s 0 7 && inB n 0 99999999 && ((claim0 ⟨s,1,n,lk,la,lh,cn,cf,ct,ch,ca,cb,ek,ea,er⟩ && event0 ⟨s,1,n,lk,la,lh,cn,cf,ct,ch,ca,cb,ek,ea,er⟩) && lnB lk la lh)):=rfl
 rw [hfm]
 have hce:(claim0 ⟨s,1,n,lk,la,lh,cn,cf,ct,ch,ca,cb,ek,ea,er⟩ && event0 ⟨s,1,n,lk,la,lh,cn,cf,ct,ch,ca,cb,ek,ea,er⟩)=decide (cn=0∧cf=0∧ct=0∧ch=0∧ca=0∧cb=false∧ek=0∧ea=0∧er=0):=by
  unfold claim0 event0;rw [Bool.eq_iff_iff];simp [and_assoc]
 rw [hce]
 generalize inB s 0 7=b1 at *
 generalize inB n 0 99999999=b2 at *
 generalize lnB lk la lh=b3 at *
 obtain ⟨z,hzz⟩:∃ z,decide (cn=0∧cf=0∧ct=0∧ch=0∧ca=0∧cb=false∧ek=0∧ea=0∧er=0)=z:=⟨_,rfl⟩
 rw [hzz]
 have HZ:=qj hzz
 clear hfm hce hzz
 have F1:=qj (Fr.alloc [] w (.cells #[.int .i64 s,.int .i64 1,.int .i64 n,.int .i64 lk,.int .i64 la,.int .i64 lh,.int .i64 cn,.int .i64 cf,.int .i64 ct,.int .i64 ch,.int .i64 ca,.bool cb,.int .i64 ek,.int .i64 ea,.int .i64 er] 31))
 go_enter Tryz.func28,Tryz.ntmps28
 go_wp2_with fail
 refine (C1.out _).mono ?_
 rintro e w1 ⟨rfl,rfl⟩
 cases b1 with
 | false =>
  go_wp2_with fail
  go_ret
  exact ⟨by simp,F1.out⟩
 | true =>
  go_wp2_with fail
  refine (C2.out _).mono ?_
  rintro e w1 ⟨rfl,rfl⟩
  cases b2 with
  | false =>
   go_wp2_with fail
   go_ret
   exact ⟨by simp,F1.out⟩
  | true =>
   cases z with
   | true =>
    obtain ⟨rfl,rfl,rfl,rfl,rfl,rfl,rfl,rfl,rfl⟩:=of_decide_eq_true HZ.out
    have F2:=qj (F1.out.trans (Fr.alloc [] _ (.cells #[.int .i64 0,.int .i64 0,.int .i64 0,.int .i64 0,.int .i64 0,.int .i64 0,.int .i64 0,.int .i64 0,.int .i64 0,.int .i64 0,.int .i64 0,.bool false,.int .i64 0,.int .i64 0,.int .i64 0] 31)))
    clear HZ
    go_wp2_with fail
    refine (CF.out _).mono ?_
    rintro e w1 ⟨rfl,f1⟩
    have HF:=qj (F2.out.trans f1)
    clear f1 F1 F2
    go_wp2_with fail
    go_ret
    exact ⟨by simp,HF.out⟩
   | false =>
    have hz:¬ (cn=0∧cf=0∧ct=0∧ch=0∧ca=0∧cb=false∧ek=0∧ea=0∧er=0):=of_decide_eq_false HZ.out
    have HN:=qj hz
    clear HZ hz
    go_wp2_with fail
    all_goals first
     | (exfalso;have hz:=HN.out;clear CF C1 C2 HN F1;simp_all;done)
     | (go_ret;exact ⟨by simp,(Fr.alloc _ _ _).trans (Fr.alloc _ _ _)⟩)
end
end Go.Proofs.YtledkokhghjfmaaGreatDoor
