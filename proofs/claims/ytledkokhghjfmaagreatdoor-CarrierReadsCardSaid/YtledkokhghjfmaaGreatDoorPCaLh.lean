/-
  life: Step.
-/
import Derived.Test.YtledkokhghjfmaaGreatDoorPN02
namespace Go.Proofs.YtledkokhghjfmaaGreatDoor
open Go.RowKit Go.Lib
def ruF:Nat→Int
 | 1=>1 | 2=>2 | 3=>2 | 4=>4 | 5=>6 | 6=>8 | 7=>8 | _=>0
def ruT:Nat→Int
 | 1=>1 | 2=>1 | 3=>2 | 4=>1 | 5=>3 | 6=>1 | _=>0
def ruN (n:Nat):Bool:=decide (n=1∨n=2)
theorem rulesC_at2 (k:Nat) (h:k≤7):rulesC[k*3]?=some (.int .i64 (ruF k))∧rulesC[k*3+1]?=some (.int .i64 (ruT k))∧rulesC[k*3+2]?=some (.bool (ruN k)):=by
 obtain rfl | rfl | rfl | rfl | rfl | rfl | rfl | rfl:k=0∨k=1∨k=2∨k=3∨k=4∨k=5∨k=6∨k=7:=by omega
 all_goals exact ⟨rfl,rfl,rfl⟩
def LfP (N n:Nat) (i:Nat) (v:Value) (w:World):Prop :=
 (i=0→∃ b,v=.slice (some ⟨b,0,none⟩) 8 8∧w.heap[b]?=some (.cells rulesC 190 (0,0))) ∧
 (i=3→∃ b,v=.pointer (some ⟨b,n*3,none⟩)∧w.heap[b]?=some (.cells rulesC 190 (0,0))) ∧
 (i=4→v=.agg #[.int .i64 (ruF n),.int .i64 (ruT n),.bool (ruN n)]) ∧
 (i=5→∃ b,v=.pointer (some ⟨b,0,none⟩)∧N≤b∧w.heap[b]?=some (.cells #[.int .i64 0,.int .i64 0,.bool false] 190 (0,0)))
theorem LfP.same {N n i:Nat} {v:Value} {w w':World} (h:LfP N n i v w) (hf:Fr [] w w'):LfP N n i v w' :=
 ⟨fun e=>by obtain ⟨b,h1,h2⟩:=h.1 e;exact ⟨b,h1,hf.keep h2 (by simp)⟩,fun e=>by obtain ⟨b,h1,h2⟩:=h.2.1 e;exact ⟨b,h1,hf.keep h2 (by simp)⟩,h.2.2.1,fun e=>by obtain ⟨b,h1,h3,h2⟩:=h.2.2.2 e;exact ⟨b,h1,h3,hf.keep h2 (by simp)⟩⟩
def canB (n:Nat) (st:Int):Bool:=match n with
 | 1=>st == 0
 | 2=>st == 1
 | 3=>st == 1
 | 4=>st == 2
 | 5=>st == 1 || st == 2
 | _=>st == 3
def stepX (l:Ln) (n:Nat) (a h:Int):Option Ln :=
 bif canB n l.st && !(ruN n && (l.ep == 1000 || l.ho == h)) && !(decide (n=7) && decide (a - l.si < 2592000)) then some ⟨ruT n,bif ruN n then h else bif decide (n=7) then -1 else l.ho,bif ruN n then l.ep+1 else l.ep,a⟩ else none
def stV:Option Ln→Value
 | some l=>.tuple #[lnVv l,.int .i64 0]
 | none=>.tuple #[lnVv ⟨0,0,0,0⟩,.int .i64 140]
theorem infoRule:(Tryz.prog.info? 190).map (·.size)=some 3:=by kernel_rfl
set_option maxRecDepth 100000 in
set_option maxHeartbeats 40000000 in
theorem lfStep_x (l:Ln) (n:Nat) (a h:Int) (w:World) (hl:lnOk l=true) (hn:lnB n a h=true) (ht:l.si≤a) :
  Calls Tryz.prog 59 #[lnVv l,.agg #[.int .i64 (n:Int),.int .i64 a,.int .i64 h]] w fun e w'=>e=.returned (stV (stepX l n a h))∧Fr [] w w':=by
 have CV:=qj fun W=>lfValid_c l W
 have CF:=qj fun W=>lfFormed_c n a h W
 rw [hl] at CV;rw [hn] at CF
 obtain ⟨st,ho,ep,si⟩:=l
 have hk:1≤n∧n≤7:=by
  have:inB (n:Int) 1 7=true:=by unfold lnB at hn;simp only [Bool.and_eq_true] at hn;exact hn.1.1
  have:=inB_iff.1 this
  omega
 have hst:0≤st∧st≤3:=by
  unfold lnOk at hl;simp only [Bool.and_eq_true] at hl;exact inB_iff.1 hl.1
 have hep:0≤ep∧ep≤1000:=by
  unfold lnOk at hl;simp only [Bool.and_eq_true] at hl;exact inB_iff.1 hl.2.1
 have hsi:0≤si∧si≤10000000:=by
  unfold lnOk at hl;simp only [Bool.and_eq_true] at hl;exact inB_iff.1 hl.2.2.1
 have hat:0≤a∧a≤10000000:=by
  unfold lnB at hn;simp only [Bool.and_eq_true] at hn;exact inB_iff.1 hn.1.2
 have hlt:decide (a < si)=false:=by simpa using ht
 obtain ⟨r0,r1,r2⟩:=rulesC_at2 n hk.2
 have HRU:=qj (And.intro r0 (And.intro r1 r2))
 obtain ⟨F2,B1,B2,B3,_⟩:=alloc3n w (.cells #[.int .i64 st,.int .i64 ho,.int .i64 ep,.int .i64 si] 131) (.cells #[.int .i64 (n:Int),.int .i64 a,.int .i64 h] 25) (.cells #[.int .i64 0,.int .i64 0,.int .i64 0,.int .i64 0] 131)
 have HF0:=qj F2
 have HB:=qj (And.intro B1 (And.intro B2 B3))
 have HW:Hid (w.heap.size+2 < (((w.alloc (.cells #[.int .i64 st,.int .i64 ho,.int .i64 ep,.int .i64 si] 131)).alloc (.cells #[.int .i64 (n:Int),.int .i64 a,.int .i64 h] 25)).alloc (.cells #[.int .i64 0,.int .i64 0,.int .i64 0,.int .i64 0] 131)).heap.size):=qj (by simp)
 clear hl hn ht r0 r1 r2 F2 B1 B2 B3
 go_enter Tryz.func59,Tryz.ntmps59
 go_wp2_with fail
 refine (CV.out _).mono ?_
 rintro e w1 ⟨rfl,f1⟩
 have HB1:=qj (And.intro (f1.keep HB.out.1 (by simp)) (And.intro (f1.keep HB.out.2.1 (by simp)) (f1.keep HB.out.2.2 (by simp))))
 have HF1:=qj (HF0.out.trans f1)
 have HW1:=qj (Nat.lt_of_lt_of_le HW.out f1.size)
 have e0:=qd HB1.out.2.1 0;have e1:=qd HB1.out.2.1 1;have e2:=qd HB1.out.2.1 2
 clear f1 HB HF0 CV HW
 go_wp2_with fail
 refine (CF.out _).mono ?_
 rintro e w2 ⟨rfl,f2⟩
 have HB2:=qj (And.intro (f2.keep HB1.out.1 (by simp)) (And.intro (f2.keep HB1.out.2.1 (by simp)) (f2.keep HB1.out.2.2 (by simp))))
 have HF2:=qj (HF1.out.trans f2)
 have HW2:=qj (Nat.lt_of_lt_of_le HW1.out f2.size)
 clear e0 e1 e2
 have e0:=qd HB2.out.2.1 0;have e1:=qd HB2.out.2.1 1;have e2:=qd HB2.out.2.1 2
 have l0:=qd HB2.out.1 0;have l1:=qd HB2.out.1 1;have l2:=qd HB2.out.1 2;have l3:=qd HB2.out.1 3
 clear f2 HB1 HF1 CF HW1
 go_wp2_with fail
 refine reg_inv (Fr [] w2) 6 [1,2] [(0,[]),(3,[0]),(4,[3]),(5,[])] (by kernel_rfl) (by kernel_rfl) (by kernel_rfl) (by kernel_rfl) (by kernel_rfl) ?_
 have S0:Fr [] w2 w2.drew:=Fr.drew _ _
 generalize w2.drew=WD at S0 ⊢
 iterate 2 (refine tk_take (v:=?_) rfl rfl rfl S0 (fun w hS=>?_) ?_;rotate_left;(focus (have e0:=hS.cel e0 (by simp);clear hS;go_simp;rfl));simp only [qu,qv,qx])
 refine inv_start [(0,23),(3,26),(4,27),(5,6)] (LfP w2.heap.size n) (by decide) S0 ⟨fun g W hS hD=>?_,fun g W hS hD=>?_,fun g W hS hD=>?_,fun g W hS hD=>?_,trivial⟩ (fun g W hS hD=>?_)
 ·refine inv_op rfl rfl (fun K hK=>?_)
  simp only [putG,putT,qu,qv,qx] at hK ⊢
  have fa:=Fr.alloc [] W (.cells rulesC 190)
  go_simp
  refine (lfRules_c _).mono ?_
  rintro e _ ⟨rfl,rfl⟩
  exact hK _ _ (hS.trans fa) ⟨fun _=>⟨_,rfl,qm _ _⟩,(fun h=>by cases h),(fun h=>by cases h),(fun h=>by cases h)⟩ (fun _ _ _ h=>h.same fa)
 ·obtain ⟨b,h0,hb⟩:=(hD 0 (by simp)).1 rfl
  refine inv_op rfl rfl (fun K hK=>?_)
  simp only [putG,putT,qu,qv,qx] at hK ⊢
  simp only [upG,Nat.reduceEqDiff,if_false,if_true] at hK
  rw [h0] at hK ⊢
  go_simp
  rw [if_pos (by omega)]
  try go_upon
  try go_simp
  exact hK _ _ hS ⟨(fun h=>by cases h),fun _=>⟨b,rfl,hb⟩,(fun h=>by cases h),(fun h=>by cases h)⟩ (fun _ _ _ h=>h)
 ·obtain ⟨b,h0,hb⟩:=(hD 3 (by simp)).2.1 rfl
  have q0:=(qd hb (n*3)).trans HRU.out.1
  have q1:=(qd hb (n*3+1)).trans HRU.out.2.1
  have q2:=(qd hb (n*3+2)).trans HRU.out.2.2
  refine inv_op rfl rfl (fun K hK=>?_)
  simp only [putG,putT,qu,qv,qx] at hK ⊢
  simp only [upG,Nat.reduceEqDiff,if_false,if_true] at hK
  rw [h0] at hK ⊢
  go_simp
  exact hK _ _ hS ⟨(fun h=>by cases h),(fun h=>by cases h),fun _=>rfl,(fun h=>by cases h)⟩ (fun _ _ _ h=>h)
 ·refine inv_op rfl rfl (fun K hK=>?_)
  simp only [putG,putT,qu,qv,qx] at hK ⊢
  have fa:=Fr.alloc [] W (.cells #[.int .i64 0,.int .i64 0,.bool false] 190)
  go_simp
  exact hK _ _ (hS.trans fa) ⟨(fun h=>by cases h),(fun h=>by cases h),(fun h=>by cases h),fun _=>⟨_,rfl,hS.size,qm _ _⟩⟩ (fun _ _ _ h=>h.same fa)
 ·have h4:=(hD (4,[3]) (by simp)).2.2.1 rfl
  obtain ⟨b,h5,hbN,hb⟩:=(hD (5,[]) (by simp)).2.2.2 rfl
  refine inv_fin rfl rfl (fun K hK=>?_)
  simp only [putG,putT,qu,qv,qx] at hK ⊢
  simp only at h4 h5
  rw [h4,h5]
  generalize g 0=g0 at *
  generalize g 3=g3 at *
  clear hD h4 h5
  refine wp_sub 190 190 (.tmp 6) (.tmp 27) b 0 [.int .i64 0,.int .i64 0,.bool false] [.int .i64 (ruF n),.int .i64 (ruT n),.bool (ruN n)] rfl rfl rfl infoRule hb (by simp) (by intro v hv;simp at hv;rcases hv with rfl | rfl | rfl <;> rfl) rfl (fun W' k1 f1=>hK _ _ ?_)
  clear hK K
  refine noPanicC ?_
  have hlo:∀ j,j≤w.heap.size+2→j∉[b]:=fun j hj hm=>by
   simp at hm;have:=HW2.out;omega
  have HF3:=qj ((HF2.out.trans hS).step f1 (fun k hk=>.inr (by simp at hk;have:=HF2.out.size;omega)))
  have b1:=f1.keep (hS.keep HB2.out.1 (by simp)) (hlo _ (by omega));have b2:=f1.keep (hS.keep HB2.out.2.1 (by simp)) (hlo _ (by omega));have b3:=f1.keep (hS.keep HB2.out.2.2 (by simp)) (hlo _ (by omega))
  have hne:b≠w.heap.size∧b≠w.heap.size+1∧b≠w.heap.size+1+1:=by have:=HW2.out;omega
  clear e0 e1 e2 l0 l1 l2 l3
  have e0:=qd b2 0;have e1:=qd b2 1;have e2:=qd b2 2
  have l0:=qd b1 0;have l1:=qd b1 1;have l2:=qd b1 2;have l3:=qd b1 3
  have z0:=qd b3 0;have z1:=qd b3 1;have z2:=qd b3 2;have z3:=qd b3 3
  have y0:=ql b3 0;have y1:=ql b3 1;have y2:=ql b3 2;have y3:=ql b3 3
  have x0:=ql b1 0;have x1:=ql b1 1;have x2:=ql b1 2;have x3:=ql b1 3
  have r0:W'.cell? ⟨b,0,none⟩=some (.int .i64 (ruF n)):=qd k1 0
  have r1:W'.cell? ⟨b,1,none⟩=some (.int .i64 (ruT n)):=qd k1 1
  have r2:W'.cell? ⟨b,2,none⟩=some (.bool (ruN n)):=qd k1 2
  have HBK:=qj (And.intro b1 b3)
  clear b1 b2 b3 k1 f1 hb hS HB2 HF2 HRU HW2 hlo hbN S0
  have q0:bits .and .i64 0 1=0:=by decide
  have q1:bits .and .i64 1 1=1:=by decide
  have q2:bits .and .i64 2 1=0:=by decide
  have q3:bits .and .i64 3 1=1:=by decide
  have q4:bits .and .i64 4 1=0:=by decide
  have q6:bits .and .i64 6 1=0:=by decide
  have q8:bits .and .i64 8 1=0:=by decide
  obtain rfl | rfl | rfl | rfl:st=0∨st=1∨st=2∨st=3:=by omega
  ·obtain rfl | rfl | rfl | rfl | rfl | rfl | rfl:n=1∨n=2∨n=3∨n=4∨n=5∨n=6∨n=7:=by omega
   ·simp only [ruF,ruT,ruN] at r0 r1 r2
    cases g1:ep == 1000 with
    | true =>
     go_wp2_with fail
     refine bodyPost_ret (v:=.tuple #[.agg #[.int .i64 0,.int .i64 0,.int .i64 0,.int .i64 0],.int .i64 140]) (by simp [results,Tryz.results59,go_sem,z0,z1,z2,z3];try rfl) rfl ⟨?_,?_⟩
     ·unfold stepX;simp only [];rw [g1];rfl
     ·repeat (first | with_reducible exact HF3.out | refine Fr.step ?_ (Fr.setCell (fp:=[_]) _ _ (List.mem_singleton.2 rfl)) (fun k hk=>.inr (by simp at hk;omega)))
    | false =>
     cases g2:ho == h with
     | true =>
      go_wp2_with fail
      refine bodyPost_ret (v:=.tuple #[.agg #[.int .i64 0,.int .i64 0,.int .i64 0,.int .i64 0],.int .i64 140]) (by simp [results,Tryz.results59,go_sem,z0,z1,z2,z3];try rfl) rfl ⟨?_,?_⟩
      ·unfold stepX;simp only [];rw [g1,g2];rfl
      ·repeat (first | with_reducible exact HF3.out | refine Fr.step ?_ (Fr.setCell (fp:=[_]) _ _ (List.mem_singleton.2 rfl)) (fun k hk=>.inr (by simp at hk;omega)))
     | false =>
      go_wp2_with fail
      refine reg_tree (Fr [w.heap.size] W') 7 (.take 0 (.take 1 (.take 2 (.take 3 (.take 4 (.one 5 (.take 6 (.one 7 .nil)))))))) (by kernel_rfl) (by kernel_rfl) (by kernel_rfl) rfl ?_
      have FC:Fr [w.heap.size] W' W'.drew:=Fr.drew _ _
      iterate 5 (refine tree_take (v:=?_) rfl rfl rfl FC (fun w hS=>?_) ?_;rotate_left;(focus (have s1:=hS.cel r1 (by simp [hne]);have s2:=hS.cel e1 (by simp);clear hS;go_simp;rfl));simp only [qu,qv,qx])
      refine tree_one rfl rfl (fun K hK=>?_)
      go_simp
      have FC:=FC.trans (Fr.setCell (fp:=[w.heap.size]) (p:=⟨w.heap.size,0,none⟩) W'.drew (.int .i64 1) (by simp))
      refine hK _ _ FC ?_
      clear hK K
      try simp only [Act.put,qu,qv,qx]
      (refine tree_take (v:=?_) rfl rfl rfl FC (fun w hS=>?_) ?_;rotate_left;(focus (clear hS;go_simp;rfl));simp only [qu,qv,qx])
      refine tree_last rfl rfl (fun K hK=>?_)
      go_simp
      refine hK _ _ ?_
      clear hK K FC
      refine noPanicC ?_
      have m1:(((W'.setCell ⟨w.heap.size,0,none⟩ (.int .i64 1)).setCell ⟨w.heap.size,3,none⟩ (.int .i64 a)).drew).heap[w.heap.size]?=some (.cells #[.int .i64 1,.int .i64 ho,.int .i64 ep,.int .i64 a] 131 (0,0)):=qs (i:=3) (.int .i64 a) (qs (w:=W') (i:=0) (.int .i64 1) HBK.out.1)
      have m2:(((W'.setCell ⟨w.heap.size,0,none⟩ (.int .i64 1)).setCell ⟨w.heap.size,3,none⟩ (.int .i64 a)).drew).heap[w.heap.size+1+1]?=some (.cells #[.int .i64 0,.int .i64 0,.int .i64 0,.int .i64 0] 131 (0,0)):=heap_setCell_other (p:=⟨w.heap.size,3,none⟩) (.int .i64 a) (heap_setCell_other (w:=W') (p:=⟨w.heap.size,0,none⟩) (.int .i64 1) HBK.out.2 (by simp;omega)) (by simp;omega)
      have m3:Hid (Fr [] w (((W'.setCell ⟨w.heap.size,0,none⟩ (.int .i64 1)).setCell ⟨w.heap.size,3,none⟩ (.int .i64 a)).drew)):=qj (((HF3.out.step (Fr.setCell (fp:=[w.heap.size]) (p:=⟨w.heap.size,0,none⟩) _ (.int .i64 1) (by simp)) (fun k hk=>.inr (by simp at hk;omega))).step (Fr.setCell (fp:=[w.heap.size]) (p:=⟨w.heap.size,3,none⟩) _ (.int .i64 a) (by simp)) (fun k hk=>.inr (by simp at hk;omega))).trans (Fr.drew _ _))
      have m4:∀ k,k≠w.heap.size→(((W'.setCell ⟨w.heap.size,0,none⟩ (.int .i64 1)).setCell ⟨w.heap.size,3,none⟩ (.int .i64 a)).drew).heap[k]?=W'.heap[k]?:=fun k hk=>by
       show ((W'.setCell ⟨w.heap.size,0,none⟩ (.int .i64 1)).setCell ⟨w.heap.size,3,none⟩ (.int .i64 a)).heap[k]?=_
       rw [Below.heap_setCell _ _ _ _ (by exact hk),Below.heap_setCell _ _ _ _ (by exact hk)]
      have r1':=(World.cell?_of_block (m4 b hne.1)).trans r1
      have r2':=(World.cell?_of_block (m4 b hne.1)).trans r2
      have e2':=(World.cell?_of_block (m4 (w.heap.size+1) (by omega))).trans e2
      clear r0 r1 r2 e0 e1 e2 l0 l1 l2 l3 x0 x1 x2 x3 z0 z1 z2 z3 y0 y1 y2 y3 m4 HF3 HBK
      generalize ((W'.setCell ⟨w.heap.size,0,none⟩ (.int .i64 1)).setCell ⟨w.heap.size,3,none⟩ (.int .i64 a)).drew=W6 at *
      have HF3:=m3
      have l0:W6.cell? ⟨w.heap.size,0,none⟩=some (.int .i64 1):=qd m1 0
      have l1:W6.cell? ⟨w.heap.size,1,none⟩=some (.int .i64 ho):=qd m1 1
      have l2:W6.cell? ⟨w.heap.size,2,none⟩=some (.int .i64 ep):=qd m1 2
      have l3:W6.cell? ⟨w.heap.size,3,none⟩=some (.int .i64 a):=qd m1 3
      have x1:=ql m1 1;have x2:=ql m1 2
      have z0:=qd m2 0;have z1:=qd m2 1;have z2:=qd m2 2;have z3:=qd m2 3
      have y0:=ql m2 0;have y1:=ql m2 1;have y2:=ql m2 2;have y3:=ql m2 3
      have x0:=x1;have x3:=x1
      clear m1 m2 m3
      go_wp2_with fail
      refine bodyPost_ret (v:=.tuple #[.agg #[.int .i64 1,.int .i64 h,.int .i64 (ep+1),.int .i64 a],.int .i64 0]) (by simp [results,Tryz.results59,go_sem,z0,z1,z2,z3];try rfl) rfl ⟨?_,?_⟩
      ·unfold stepX;simp only [];rw [g1,g2];rfl
      ·repeat (first | with_reducible exact HF3.out | refine Fr.step ?_ (Fr.setCell (fp:=[_]) _ _ (List.mem_singleton.2 rfl)) (fun k hk=>.inr (by simp at hk;omega)))
   ·simp only [ruF,ruT,ruN] at r0 r1 r2
    go_wp2_with fail
    refine bodyPost_ret (v:=.tuple #[.agg #[.int .i64 0,.int .i64 0,.int .i64 0,.int .i64 0],.int .i64 140]) (by simp [results,Tryz.results59,go_sem,z0,z1,z2,z3];try rfl) rfl ⟨?_,?_⟩
    ·unfold stepX;simp only [];rfl
    ·repeat (first | with_reducible exact HF3.out | refine Fr.step ?_ (Fr.setCell (fp:=[_]) _ _ (List.mem_singleton.2 rfl)) (fun k hk=>.inr (by simp at hk;omega)))
   ·simp only [ruF,ruT,ruN] at r0 r1 r2
    go_wp2_with fail
    refine bodyPost_ret (v:=.tuple #[.agg #[.int .i64 0,.int .i64 0,.int .i64 0,.int .i64 0],.int .i64 140]) (by simp [results,Tryz.results59,go_sem,z0,z1,z2,z3];try rfl) rfl ⟨?_,?_⟩
    ·unfold stepX;simp only [];rfl
    ·repeat (first | with_reducible exact HF3.out | refine Fr.step ?_ (Fr.setCell (fp:=[_]) _ _ (List.mem_singleton.2 rfl)) (fun k hk=>.inr (by simp at hk;omega)))
   ·simp only [ruF,ruT,ruN] at r0 r1 r2
    go_wp2_with fail
    refine bodyPost_ret (v:=.tuple #[.agg #[.int .i64 0,.int .i64 0,.int .i64 0,.int .i64 0],.int .i64 140]) (by simp [results,Tryz.results59,go_sem,z0,z1,z2,z3];try rfl) rfl ⟨?_,?_⟩
    ·unfold stepX;simp only [];rfl
    ·repeat (first | with_reducible exact HF3.out | refine Fr.step ?_ (Fr.setCell (fp:=[_]) _ _ (List.mem_singleton.2 rfl)) (fun k hk=>.inr (by simp at hk;omega)))
   ·simp only [ruF,ruT,ruN] at r0 r1 r2
    go_wp2_with fail
    refine bodyPost_ret (v:=.tuple #[.agg #[.int .i64 0,.int .i64 0,.int .i64 0,.int .i64 0],.int .i64 140]) (by simp [results,Tryz.results59,go_sem,z0,z1,z2,z3];try rfl) rfl ⟨?_,?_⟩
    ·unfold stepX;simp only [];rfl
    ·repeat (first | with_reducible exact HF3.out | refine Fr.step ?_ (Fr.setCell (fp:=[_]) _ _ (List.mem_singleton.2 rfl)) (fun k hk=>.inr (by simp at hk;omega)))
   ·simp only [ruF,ruT,ruN] at r0 r1 r2
    go_wp2_with fail
    refine bodyPost_ret (v:=.tuple #[.agg #[.int .i64 0,.int .i64 0,.int .i64 0,.int .i64 0],.int .i64 140]) (by simp [results,Tryz.results59,go_sem,z0,z1,z2,z3];try rfl) rfl ⟨?_,?_⟩
    ·unfold stepX;simp only [];rfl
    ·repeat (first | with_reducible exact HF3.out | refine Fr.step ?_ (Fr.setCell (fp:=[_]) _ _ (List.mem_singleton.2 rfl)) (fun k hk=>.inr (by simp at hk;omega)))
   ·simp only [ruF,ruT,ruN] at r0 r1 r2
    go_wp2_with fail
    refine bodyPost_ret (v:=.tuple #[.agg #[.int .i64 0,.int .i64 0,.int .i64 0,.int .i64 0],.int .i64 140]) (by simp [results,Tryz.results59,go_sem,z0,z1,z2,z3];try rfl) rfl ⟨?_,?_⟩
    ·unfold stepX;simp only [];rfl
    ·repeat (first | with_reducible exact HF3.out | refine Fr.step ?_ (Fr.setCell (fp:=[_]) _ _ (List.mem_singleton.2 rfl)) (fun k hk=>.inr (by simp at hk;omega)))
  ·obtain rfl | rfl | rfl | rfl | rfl | rfl | rfl:n=1∨n=2∨n=3∨n=4∨n=5∨n=6∨n=7:=by omega
   ·simp only [ruF,ruT,ruN] at r0 r1 r2
    go_wp2_with fail
    refine bodyPost_ret (v:=.tuple #[.agg #[.int .i64 0,.int .i64 0,.int .i64 0,.int .i64 0],.int .i64 140]) (by simp [results,Tryz.results59,go_sem,z0,z1,z2,z3];try rfl) rfl ⟨?_,?_⟩
    ·unfold stepX;simp only [];rfl
    ·repeat (first | with_reducible exact HF3.out | refine Fr.step ?_ (Fr.setCell (fp:=[_]) _ _ (List.mem_singleton.2 rfl)) (fun k hk=>.inr (by simp at hk;omega)))
   ·simp only [ruF,ruT,ruN] at r0 r1 r2
    cases g1:ep == 1000 with
    | true =>
     go_wp2_with fail
     refine bodyPost_ret (v:=.tuple #[.agg #[.int .i64 0,.int .i64 0,.int .i64 0,.int .i64 0],.int .i64 140]) (by simp [results,Tryz.results59,go_sem,z0,z1,z2,z3];try rfl) rfl ⟨?_,?_⟩
     ·unfold stepX;simp only [];rw [g1];rfl
     ·repeat (first | with_reducible exact HF3.out | refine Fr.step ?_ (Fr.setCell (fp:=[_]) _ _ (List.mem_singleton.2 rfl)) (fun k hk=>.inr (by simp at hk;omega)))
    | false =>
     cases g2:ho == h with
     | true =>
      go_wp2_with fail
      refine bodyPost_ret (v:=.tuple #[.agg #[.int .i64 0,.int .i64 0,.int .i64 0,.int .i64 0],.int .i64 140]) (by simp [results,Tryz.results59,go_sem,z0,z1,z2,z3];try rfl) rfl ⟨?_,?_⟩
      ·unfold stepX;simp only [];rw [g1,g2];rfl
      ·repeat (first | with_reducible exact HF3.out | refine Fr.step ?_ (Fr.setCell (fp:=[_]) _ _ (List.mem_singleton.2 rfl)) (fun k hk=>.inr (by simp at hk;omega)))
     | false =>
      go_wp2_with fail
      refine reg_tree (Fr [w.heap.size] W') 7 (.take 0 (.take 1 (.take 2 (.take 3 (.take 4 (.one 5 (.take 6 (.one 7 .nil)))))))) (by kernel_rfl) (by kernel_rfl) (by kernel_rfl) rfl ?_
      have FC:Fr [w.heap.size] W' W'.drew:=Fr.drew _ _
      iterate 5 (refine tree_take (v:=?_) rfl rfl rfl FC (fun w hS=>?_) ?_;rotate_left;(focus (have s1:=hS.cel r1 (by simp [hne]);have s2:=hS.cel e1 (by simp);clear hS;go_simp;rfl));simp only [qu,qv,qx])
      refine tree_one rfl rfl (fun K hK=>?_)
      go_simp
      have FC:=FC.trans (Fr.setCell (fp:=[w.heap.size]) (p:=⟨w.heap.size,0,none⟩) W'.drew (.int .i64 1) (by simp))
      refine hK _ _ FC ?_
      clear hK K
      try simp only [Act.put,qu,qv,qx]
      (refine tree_take (v:=?_) rfl rfl rfl FC (fun w hS=>?_) ?_;rotate_left;(focus (clear hS;go_simp;rfl));simp only [qu,qv,qx])
      refine tree_last rfl rfl (fun K hK=>?_)
      go_simp
      refine hK _ _ ?_
      clear hK K FC
      refine noPanicC ?_
      have m1:(((W'.setCell ⟨w.heap.size,0,none⟩ (.int .i64 1)).setCell ⟨w.heap.size,3,none⟩ (.int .i64 a)).drew).heap[w.heap.size]?=some (.cells #[.int .i64 1,.int .i64 ho,.int .i64 ep,.int .i64 a] 131 (0,0)):=qs (i:=3) (.int .i64 a) (qs (w:=W') (i:=0) (.int .i64 1) HBK.out.1)
      have m2:(((W'.setCell ⟨w.heap.size,0,none⟩ (.int .i64 1)).setCell ⟨w.heap.size,3,none⟩ (.int .i64 a)).drew).heap[w.heap.size+1+1]?=some (.cells #[.int .i64 0,.int .i64 0,.int .i64 0,.int .i64 0] 131 (0,0)):=heap_setCell_other (p:=⟨w.heap.size,3,none⟩) (.int .i64 a) (heap_setCell_other (w:=W') (p:=⟨w.heap.size,0,none⟩) (.int .i64 1) HBK.out.2 (by simp;omega)) (by simp;omega)
      have m3:Hid (Fr [] w (((W'.setCell ⟨w.heap.size,0,none⟩ (.int .i64 1)).setCell ⟨w.heap.size,3,none⟩ (.int .i64 a)).drew)):=qj (((HF3.out.step (Fr.setCell (fp:=[w.heap.size]) (p:=⟨w.heap.size,0,none⟩) _ (.int .i64 1) (by simp)) (fun k hk=>.inr (by simp at hk;omega))).step (Fr.setCell (fp:=[w.heap.size]) (p:=⟨w.heap.size,3,none⟩) _ (.int .i64 a) (by simp)) (fun k hk=>.inr (by simp at hk;omega))).trans (Fr.drew _ _))
      have m4:∀ k,k≠w.heap.size→(((W'.setCell ⟨w.heap.size,0,none⟩ (.int .i64 1)).setCell ⟨w.heap.size,3,none⟩ (.int .i64 a)).drew).heap[k]?=W'.heap[k]?:=fun k hk=>by
       show ((W'.setCell ⟨w.heap.size,0,none⟩ (.int .i64 1)).setCell ⟨w.heap.size,3,none⟩ (.int .i64 a)).heap[k]?=_
       rw [Below.heap_setCell _ _ _ _ (by exact hk),Below.heap_setCell _ _ _ _ (by exact hk)]
      have r1':=(World.cell?_of_block (m4 b hne.1)).trans r1
      have r2':=(World.cell?_of_block (m4 b hne.1)).trans r2
      have e2':=(World.cell?_of_block (m4 (w.heap.size+1) (by omega))).trans e2
      clear r0 r1 r2 e0 e1 e2 l0 l1 l2 l3 x0 x1 x2 x3 z0 z1 z2 z3 y0 y1 y2 y3 m4 HF3 HBK
      generalize ((W'.setCell ⟨w.heap.size,0,none⟩ (.int .i64 1)).setCell ⟨w.heap.size,3,none⟩ (.int .i64 a)).drew=W6 at *
      have HF3:=m3
      have l0:W6.cell? ⟨w.heap.size,0,none⟩=some (.int .i64 1):=qd m1 0
      have l1:W6.cell? ⟨w.heap.size,1,none⟩=some (.int .i64 ho):=qd m1 1
      have l2:W6.cell? ⟨w.heap.size,2,none⟩=some (.int .i64 ep):=qd m1 2
      have l3:W6.cell? ⟨w.heap.size,3,none⟩=some (.int .i64 a):=qd m1 3
      have x1:=ql m1 1;have x2:=ql m1 2
      have z0:=qd m2 0;have z1:=qd m2 1;have z2:=qd m2 2;have z3:=qd m2 3
      have y0:=ql m2 0;have y1:=ql m2 1;have y2:=ql m2 2;have y3:=ql m2 3
      have x0:=x1;have x3:=x1
      clear m1 m2 m3
      go_wp2_with fail
      refine bodyPost_ret (v:=.tuple #[.agg #[.int .i64 1,.int .i64 h,.int .i64 (ep+1),.int .i64 a],.int .i64 0]) (by simp [results,Tryz.results59,go_sem,z0,z1,z2,z3];try rfl) rfl ⟨?_,?_⟩
      ·unfold stepX;simp only [];rw [g1,g2];rfl
      ·repeat (first | with_reducible exact HF3.out | refine Fr.step ?_ (Fr.setCell (fp:=[_]) _ _ (List.mem_singleton.2 rfl)) (fun k hk=>.inr (by simp at hk;omega)))
   ·simp only [ruF,ruT,ruN] at r0 r1 r2
    go_wp2_with fail
    refine reg_tree (Fr [w.heap.size] W') 7 (.take 0 (.take 1 (.take 2 (.take 3 (.take 4 (.one 5 (.take 6 (.one 7 .nil)))))))) (by kernel_rfl) (by kernel_rfl) (by kernel_rfl) rfl ?_
    have FC:Fr [w.heap.size] W' W'.drew:=Fr.drew _ _
    iterate 5 (refine tree_take (v:=?_) rfl rfl rfl FC (fun w hS=>?_) ?_;rotate_left;(focus (have s1:=hS.cel r1 (by simp [hne]);have s2:=hS.cel e1 (by simp);clear hS;go_simp;rfl));simp only [qu,qv,qx])
    refine tree_one rfl rfl (fun K hK=>?_)
    go_simp
    have FC:=FC.trans (Fr.setCell (fp:=[w.heap.size]) (p:=⟨w.heap.size,0,none⟩) W'.drew (.int .i64 2) (by simp))
    refine hK _ _ FC ?_
    clear hK K
    try simp only [Act.put,qu,qv,qx]
    (refine tree_take (v:=?_) rfl rfl rfl FC (fun w hS=>?_) ?_;rotate_left;(focus (clear hS;go_simp;rfl));simp only [qu,qv,qx])
    refine tree_last rfl rfl (fun K hK=>?_)
    go_simp
    refine hK _ _ ?_
    clear hK K FC
    refine noPanicC ?_
    have m1:(((W'.setCell ⟨w.heap.size,0,none⟩ (.int .i64 2)).setCell ⟨w.heap.size,3,none⟩ (.int .i64 a)).drew).heap[w.heap.size]?=some (.cells #[.int .i64 2,.int .i64 ho,.int .i64 ep,.int .i64 a] 131 (0,0)):=qs (i:=3) (.int .i64 a) (qs (w:=W') (i:=0) (.int .i64 2) HBK.out.1)
    have m2:(((W'.setCell ⟨w.heap.size,0,none⟩ (.int .i64 2)).setCell ⟨w.heap.size,3,none⟩ (.int .i64 a)).drew).heap[w.heap.size+1+1]?=some (.cells #[.int .i64 0,.int .i64 0,.int .i64 0,.int .i64 0] 131 (0,0)):=heap_setCell_other (p:=⟨w.heap.size,3,none⟩) (.int .i64 a) (heap_setCell_other (w:=W') (p:=⟨w.heap.size,0,none⟩) (.int .i64 2) HBK.out.2 (by simp;omega)) (by simp;omega)
    have m3:Hid (Fr [] w (((W'.setCell ⟨w.heap.size,0,none⟩ (.int .i64 2)).setCell ⟨w.heap.size,3,none⟩ (.int .i64 a)).drew)):=qj (((HF3.out.step (Fr.setCell (fp:=[w.heap.size]) (p:=⟨w.heap.size,0,none⟩) _ (.int .i64 2) (by simp)) (fun k hk=>.inr (by simp at hk;omega))).step (Fr.setCell (fp:=[w.heap.size]) (p:=⟨w.heap.size,3,none⟩) _ (.int .i64 a) (by simp)) (fun k hk=>.inr (by simp at hk;omega))).trans (Fr.drew _ _))
    have m4:∀ k,k≠w.heap.size→(((W'.setCell ⟨w.heap.size,0,none⟩ (.int .i64 2)).setCell ⟨w.heap.size,3,none⟩ (.int .i64 a)).drew).heap[k]?=W'.heap[k]?:=fun k hk=>by
     show ((W'.setCell ⟨w.heap.size,0,none⟩ (.int .i64 2)).setCell ⟨w.heap.size,3,none⟩ (.int .i64 a)).heap[k]?=_
     rw [Below.heap_setCell _ _ _ _ (by exact hk),Below.heap_setCell _ _ _ _ (by exact hk)]
    have r1':=(World.cell?_of_block (m4 b hne.1)).trans r1
    have r2':=(World.cell?_of_block (m4 b hne.1)).trans r2
    have e2':=(World.cell?_of_block (m4 (w.heap.size+1) (by omega))).trans e2
    clear r0 r1 r2 e0 e1 e2 l0 l1 l2 l3 x0 x1 x2 x3 z0 z1 z2 z3 y0 y1 y2 y3 m4 HF3 HBK
    generalize ((W'.setCell ⟨w.heap.size,0,none⟩ (.int .i64 2)).setCell ⟨w.heap.size,3,none⟩ (.int .i64 a)).drew=W6 at *
    have HF3:=m3
    have l0:W6.cell? ⟨w.heap.size,0,none⟩=some (.int .i64 2):=qd m1 0
    have l1:W6.cell? ⟨w.heap.size,1,none⟩=some (.int .i64 ho):=qd m1 1
    have l2:W6.cell? ⟨w.heap.size,2,none⟩=some (.int .i64 ep):=qd m1 2
    have l3:W6.cell? ⟨w.heap.size,3,none⟩=some (.int .i64 a):=qd m1 3
    have x1:=ql m1 1;have x2:=ql m1 2
    have z0:=qd m2 0;have z1:=qd m2 1;have z2:=qd m2 2;have z3:=qd m2 3
    have y0:=ql m2 0;have y1:=ql m2 1;have y2:=ql m2 2;have y3:=ql m2 3
    have x0:=x1;have x3:=x1
    clear m1 m2 m3
    go_wp2_with fail
    refine bodyPost_ret (v:=.tuple #[.agg #[.int .i64 2,.int .i64 ho,.int .i64 ep,.int .i64 a],.int .i64 0]) (by simp [results,Tryz.results59,go_sem,z0,z1,z2,z3];try rfl) rfl ⟨?_,?_⟩
    ·unfold stepX;simp only [];rfl
    ·repeat (first | with_reducible exact HF3.out | refine Fr.step ?_ (Fr.setCell (fp:=[_]) _ _ (List.mem_singleton.2 rfl)) (fun k hk=>.inr (by simp at hk;omega)))
   ·simp only [ruF,ruT,ruN] at r0 r1 r2
    go_wp2_with fail
    refine bodyPost_ret (v:=.tuple #[.agg #[.int .i64 0,.int .i64 0,.int .i64 0,.int .i64 0],.int .i64 140]) (by simp [results,Tryz.results59,go_sem,z0,z1,z2,z3];try rfl) rfl ⟨?_,?_⟩
    ·unfold stepX;simp only [];rfl
    ·repeat (first | with_reducible exact HF3.out | refine Fr.step ?_ (Fr.setCell (fp:=[_]) _ _ (List.mem_singleton.2 rfl)) (fun k hk=>.inr (by simp at hk;omega)))
   ·simp only [ruF,ruT,ruN] at r0 r1 r2
    go_wp2_with fail
    refine reg_tree (Fr [w.heap.size] W') 7 (.take 0 (.take 1 (.take 2 (.take 3 (.take 4 (.one 5 (.take 6 (.one 7 .nil)))))))) (by kernel_rfl) (by kernel_rfl) (by kernel_rfl) rfl ?_
    have FC:Fr [w.heap.size] W' W'.drew:=Fr.drew _ _
    iterate 5 (refine tree_take (v:=?_) rfl rfl rfl FC (fun w hS=>?_) ?_;rotate_left;(focus (have s1:=hS.cel r1 (by simp [hne]);have s2:=hS.cel e1 (by simp);clear hS;go_simp;rfl));simp only [qu,qv,qx])
    refine tree_one rfl rfl (fun K hK=>?_)
    go_simp
    have FC:=FC.trans (Fr.setCell (fp:=[w.heap.size]) (p:=⟨w.heap.size,0,none⟩) W'.drew (.int .i64 3) (by simp))
    refine hK _ _ FC ?_
    clear hK K
    try simp only [Act.put,qu,qv,qx]
    (refine tree_take (v:=?_) rfl rfl rfl FC (fun w hS=>?_) ?_;rotate_left;(focus (clear hS;go_simp;rfl));simp only [qu,qv,qx])
    refine tree_last rfl rfl (fun K hK=>?_)
    go_simp
    refine hK _ _ ?_
    clear hK K FC
    refine noPanicC ?_
    have m1:(((W'.setCell ⟨w.heap.size,0,none⟩ (.int .i64 3)).setCell ⟨w.heap.size,3,none⟩ (.int .i64 a)).drew).heap[w.heap.size]?=some (.cells #[.int .i64 3,.int .i64 ho,.int .i64 ep,.int .i64 a] 131 (0,0)):=qs (i:=3) (.int .i64 a) (qs (w:=W') (i:=0) (.int .i64 3) HBK.out.1)
    have m2:(((W'.setCell ⟨w.heap.size,0,none⟩ (.int .i64 3)).setCell ⟨w.heap.size,3,none⟩ (.int .i64 a)).drew).heap[w.heap.size+1+1]?=some (.cells #[.int .i64 0,.int .i64 0,.int .i64 0,.int .i64 0] 131 (0,0)):=heap_setCell_other (p:=⟨w.heap.size,3,none⟩) (.int .i64 a) (heap_setCell_other (w:=W') (p:=⟨w.heap.size,0,none⟩) (.int .i64 3) HBK.out.2 (by simp;omega)) (by simp;omega)
    have m3:Hid (Fr [] w (((W'.setCell ⟨w.heap.size,0,none⟩ (.int .i64 3)).setCell ⟨w.heap.size,3,none⟩ (.int .i64 a)).drew)):=qj (((HF3.out.step (Fr.setCell (fp:=[w.heap.size]) (p:=⟨w.heap.size,0,none⟩) _ (.int .i64 3) (by simp)) (fun k hk=>.inr (by simp at hk;omega))).step (Fr.setCell (fp:=[w.heap.size]) (p:=⟨w.heap.size,3,none⟩) _ (.int .i64 a) (by simp)) (fun k hk=>.inr (by simp at hk;omega))).trans (Fr.drew _ _))
    have m4:∀ k,k≠w.heap.size→(((W'.setCell ⟨w.heap.size,0,none⟩ (.int .i64 3)).setCell ⟨w.heap.size,3,none⟩ (.int .i64 a)).drew).heap[k]?=W'.heap[k]?:=fun k hk=>by
     show ((W'.setCell ⟨w.heap.size,0,none⟩ (.int .i64 3)).setCell ⟨w.heap.size,3,none⟩ (.int .i64 a)).heap[k]?=_
     rw [Below.heap_setCell _ _ _ _ (by exact hk),Below.heap_setCell _ _ _ _ (by exact hk)]
    have r1':=(World.cell?_of_block (m4 b hne.1)).trans r1
    have r2':=(World.cell?_of_block (m4 b hne.1)).trans r2
    have e2':=(World.cell?_of_block (m4 (w.heap.size+1) (by omega))).trans e2
    clear r0 r1 r2 e0 e1 e2 l0 l1 l2 l3 x0 x1 x2 x3 z0 z1 z2 z3 y0 y1 y2 y3 m4 HF3 HBK
    generalize ((W'.setCell ⟨w.heap.size,0,none⟩ (.int .i64 3)).setCell ⟨w.heap.size,3,none⟩ (.int .i64 a)).drew=W6 at *
    have HF3:=m3
    have l0:W6.cell? ⟨w.heap.size,0,none⟩=some (.int .i64 3):=qd m1 0
    have l1:W6.cell? ⟨w.heap.size,1,none⟩=some (.int .i64 ho):=qd m1 1
    have l2:W6.cell? ⟨w.heap.size,2,none⟩=some (.int .i64 ep):=qd m1 2
    have l3:W6.cell? ⟨w.heap.size,3,none⟩=some (.int .i64 a):=qd m1 3
    have x1:=ql m1 1;have x2:=ql m1 2
    have z0:=qd m2 0;have z1:=qd m2 1;have z2:=qd m2 2;have z3:=qd m2 3
    have y0:=ql m2 0;have y1:=ql m2 1;have y2:=ql m2 2;have y3:=ql m2 3
    have x0:=x1;have x3:=x1
    clear m1 m2 m3
    go_wp2_with fail
    refine bodyPost_ret (v:=.tuple #[.agg #[.int .i64 3,.int .i64 ho,.int .i64 ep,.int .i64 a],.int .i64 0]) (by simp [results,Tryz.results59,go_sem,z0,z1,z2,z3];try rfl) rfl ⟨?_,?_⟩
    ·unfold stepX;simp only [];rfl
    ·repeat (first | with_reducible exact HF3.out | refine Fr.step ?_ (Fr.setCell (fp:=[_]) _ _ (List.mem_singleton.2 rfl)) (fun k hk=>.inr (by simp at hk;omega)))
   ·simp only [ruF,ruT,ruN] at r0 r1 r2
    go_wp2_with fail
    refine bodyPost_ret (v:=.tuple #[.agg #[.int .i64 0,.int .i64 0,.int .i64 0,.int .i64 0],.int .i64 140]) (by simp [results,Tryz.results59,go_sem,z0,z1,z2,z3];try rfl) rfl ⟨?_,?_⟩
    ·unfold stepX;simp only [];rfl
    ·repeat (first | with_reducible exact HF3.out | refine Fr.step ?_ (Fr.setCell (fp:=[_]) _ _ (List.mem_singleton.2 rfl)) (fun k hk=>.inr (by simp at hk;omega)))
   ·simp only [ruF,ruT,ruN] at r0 r1 r2
    go_wp2_with fail
    refine bodyPost_ret (v:=.tuple #[.agg #[.int .i64 0,.int .i64 0,.int .i64 0,.int .i64 0],.int .i64 140]) (by simp [results,Tryz.results59,go_sem,z0,z1,z2,z3];try rfl) rfl ⟨?_,?_⟩
    ·unfold stepX;simp only [];rfl
    ·repeat (first | with_reducible exact HF3.out | refine Fr.step ?_ (Fr.setCell (fp:=[_]) _ _ (List.mem_singleton.2 rfl)) (fun k hk=>.inr (by simp at hk;omega)))
  ·obtain rfl | rfl | rfl | rfl | rfl | rfl | rfl:n=1∨n=2∨n=3∨n=4∨n=5∨n=6∨n=7:=by omega
   ·simp only [ruF,ruT,ruN] at r0 r1 r2
    go_wp2_with fail
    refine bodyPost_ret (v:=.tuple #[.agg #[.int .i64 0,.int .i64 0,.int .i64 0,.int .i64 0],.int .i64 140]) (by simp [results,Tryz.results59,go_sem,z0,z1,z2,z3];try rfl) rfl ⟨?_,?_⟩
    ·unfold stepX;simp only [];rfl
    ·repeat (first | with_reducible exact HF3.out | refine Fr.step ?_ (Fr.setCell (fp:=[_]) _ _ (List.mem_singleton.2 rfl)) (fun k hk=>.inr (by simp at hk;omega)))
   ·simp only [ruF,ruT,ruN] at r0 r1 r2
    go_wp2_with fail
    refine bodyPost_ret (v:=.tuple #[.agg #[.int .i64 0,.int .i64 0,.int .i64 0,.int .i64 0],.int .i64 140]) (by simp [results,Tryz.results59,go_sem,z0,z1,z2,z3];try rfl) rfl ⟨?_,?_⟩
    ·unfold stepX;simp only [];rfl
    ·repeat (first | with_reducible exact HF3.out | refine Fr.step ?_ (Fr.setCell (fp:=[_]) _ _ (List.mem_singleton.2 rfl)) (fun k hk=>.inr (by simp at hk;omega)))
   ·simp only [ruF,ruT,ruN] at r0 r1 r2
    go_wp2_with fail
    refine bodyPost_ret (v:=.tuple #[.agg #[.int .i64 0,.int .i64 0,.int .i64 0,.int .i64 0],.int .i64 140]) (by simp [results,Tryz.results59,go_sem,z0,z1,z2,z3];try rfl) rfl ⟨?_,?_⟩
    ·unfold stepX;simp only [];rfl
    ·repeat (first | with_reducible exact HF3.out | refine Fr.step ?_ (Fr.setCell (fp:=[_]) _ _ (List.mem_singleton.2 rfl)) (fun k hk=>.inr (by simp at hk;omega)))
   ·simp only [ruF,ruT,ruN] at r0 r1 r2
    go_wp2_with fail
    refine reg_tree (Fr [w.heap.size] W') 7 (.take 0 (.take 1 (.take 2 (.take 3 (.take 4 (.one 5 (.take 6 (.one 7 .nil)))))))) (by kernel_rfl) (by kernel_rfl) (by kernel_rfl) rfl ?_
    have FC:Fr [w.heap.size] W' W'.drew:=Fr.drew _ _
    iterate 5 (refine tree_take (v:=?_) rfl rfl rfl FC (fun w hS=>?_) ?_;rotate_left;(focus (have s1:=hS.cel r1 (by simp [hne]);have s2:=hS.cel e1 (by simp);clear hS;go_simp;rfl));simp only [qu,qv,qx])
    refine tree_one rfl rfl (fun K hK=>?_)
    go_simp
    have FC:=FC.trans (Fr.setCell (fp:=[w.heap.size]) (p:=⟨w.heap.size,0,none⟩) W'.drew (.int .i64 1) (by simp))
    refine hK _ _ FC ?_
    clear hK K
    try simp only [Act.put,qu,qv,qx]
    (refine tree_take (v:=?_) rfl rfl rfl FC (fun w hS=>?_) ?_;rotate_left;(focus (clear hS;go_simp;rfl));simp only [qu,qv,qx])
    refine tree_last rfl rfl (fun K hK=>?_)
    go_simp
    refine hK _ _ ?_
    clear hK K FC
    refine noPanicC ?_
    have m1:(((W'.setCell ⟨w.heap.size,0,none⟩ (.int .i64 1)).setCell ⟨w.heap.size,3,none⟩ (.int .i64 a)).drew).heap[w.heap.size]?=some (.cells #[.int .i64 1,.int .i64 ho,.int .i64 ep,.int .i64 a] 131 (0,0)):=qs (i:=3) (.int .i64 a) (qs (w:=W') (i:=0) (.int .i64 1) HBK.out.1)
    have m2:(((W'.setCell ⟨w.heap.size,0,none⟩ (.int .i64 1)).setCell ⟨w.heap.size,3,none⟩ (.int .i64 a)).drew).heap[w.heap.size+1+1]?=some (.cells #[.int .i64 0,.int .i64 0,.int .i64 0,.int .i64 0] 131 (0,0)):=heap_setCell_other (p:=⟨w.heap.size,3,none⟩) (.int .i64 a) (heap_setCell_other (w:=W') (p:=⟨w.heap.size,0,none⟩) (.int .i64 1) HBK.out.2 (by simp;omega)) (by simp;omega)
    have m3:Hid (Fr [] w (((W'.setCell ⟨w.heap.size,0,none⟩ (.int .i64 1)).setCell ⟨w.heap.size,3,none⟩ (.int .i64 a)).drew)):=qj (((HF3.out.step (Fr.setCell (fp:=[w.heap.size]) (p:=⟨w.heap.size,0,none⟩) _ (.int .i64 1) (by simp)) (fun k hk=>.inr (by simp at hk;omega))).step (Fr.setCell (fp:=[w.heap.size]) (p:=⟨w.heap.size,3,none⟩) _ (.int .i64 a) (by simp)) (fun k hk=>.inr (by simp at hk;omega))).trans (Fr.drew _ _))
    have m4:∀ k,k≠w.heap.size→(((W'.setCell ⟨w.heap.size,0,none⟩ (.int .i64 1)).setCell ⟨w.heap.size,3,none⟩ (.int .i64 a)).drew).heap[k]?=W'.heap[k]?:=fun k hk=>by
     show ((W'.setCell ⟨w.heap.size,0,none⟩ (.int .i64 1)).setCell ⟨w.heap.size,3,none⟩ (.int .i64 a)).heap[k]?=_
     rw [Below.heap_setCell _ _ _ _ (by exact hk),Below.heap_setCell _ _ _ _ (by exact hk)]
    have r1':=(World.cell?_of_block (m4 b hne.1)).trans r1
    have r2':=(World.cell?_of_block (m4 b hne.1)).trans r2
    have e2':=(World.cell?_of_block (m4 (w.heap.size+1) (by omega))).trans e2
    clear r0 r1 r2 e0 e1 e2 l0 l1 l2 l3 x0 x1 x2 x3 z0 z1 z2 z3 y0 y1 y2 y3 m4 HF3 HBK
    generalize ((W'.setCell ⟨w.heap.size,0,none⟩ (.int .i64 1)).setCell ⟨w.heap.size,3,none⟩ (.int .i64 a)).drew=W6 at *
    have HF3:=m3
    have l0:W6.cell? ⟨w.heap.size,0,none⟩=some (.int .i64 1):=qd m1 0
    have l1:W6.cell? ⟨w.heap.size,1,none⟩=some (.int .i64 ho):=qd m1 1
    have l2:W6.cell? ⟨w.heap.size,2,none⟩=some (.int .i64 ep):=qd m1 2
    have l3:W6.cell? ⟨w.heap.size,3,none⟩=some (.int .i64 a):=qd m1 3
    have x1:=ql m1 1;have x2:=ql m1 2
    have z0:=qd m2 0;have z1:=qd m2 1;have z2:=qd m2 2;have z3:=qd m2 3
    have y0:=ql m2 0;have y1:=ql m2 1;have y2:=ql m2 2;have y3:=ql m2 3
    have x0:=x1;have x3:=x1
    clear m1 m2 m3
    go_wp2_with fail
    refine bodyPost_ret (v:=.tuple #[.agg #[.int .i64 1,.int .i64 ho,.int .i64 ep,.int .i64 a],.int .i64 0]) (by simp [results,Tryz.results59,go_sem,z0,z1,z2,z3];try rfl) rfl ⟨?_,?_⟩
    ·unfold stepX;simp only [];rfl
    ·repeat (first | with_reducible exact HF3.out | refine Fr.step ?_ (Fr.setCell (fp:=[_]) _ _ (List.mem_singleton.2 rfl)) (fun k hk=>.inr (by simp at hk;omega)))
   ·simp only [ruF,ruT,ruN] at r0 r1 r2
    go_wp2_with fail
    refine reg_tree (Fr [w.heap.size] W') 7 (.take 0 (.take 1 (.take 2 (.take 3 (.take 4 (.one 5 (.take 6 (.one 7 .nil)))))))) (by kernel_rfl) (by kernel_rfl) (by kernel_rfl) rfl ?_
    have FC:Fr [w.heap.size] W' W'.drew:=Fr.drew _ _
    iterate 5 (refine tree_take (v:=?_) rfl rfl rfl FC (fun w hS=>?_) ?_;rotate_left;(focus (have s1:=hS.cel r1 (by simp [hne]);have s2:=hS.cel e1 (by simp);clear hS;go_simp;rfl));simp only [qu,qv,qx])
    refine tree_one rfl rfl (fun K hK=>?_)
    go_simp
    have FC:=FC.trans (Fr.setCell (fp:=[w.heap.size]) (p:=⟨w.heap.size,0,none⟩) W'.drew (.int .i64 3) (by simp))
    refine hK _ _ FC ?_
    clear hK K
    try simp only [Act.put,qu,qv,qx]
    (refine tree_take (v:=?_) rfl rfl rfl FC (fun w hS=>?_) ?_;rotate_left;(focus (clear hS;go_simp;rfl));simp only [qu,qv,qx])
    refine tree_last rfl rfl (fun K hK=>?_)
    go_simp
    refine hK _ _ ?_
    clear hK K FC
    refine noPanicC ?_
    have m1:(((W'.setCell ⟨w.heap.size,0,none⟩ (.int .i64 3)).setCell ⟨w.heap.size,3,none⟩ (.int .i64 a)).drew).heap[w.heap.size]?=some (.cells #[.int .i64 3,.int .i64 ho,.int .i64 ep,.int .i64 a] 131 (0,0)):=qs (i:=3) (.int .i64 a) (qs (w:=W') (i:=0) (.int .i64 3) HBK.out.1)
    have m2:(((W'.setCell ⟨w.heap.size,0,none⟩ (.int .i64 3)).setCell ⟨w.heap.size,3,none⟩ (.int .i64 a)).drew).heap[w.heap.size+1+1]?=some (.cells #[.int .i64 0,.int .i64 0,.int .i64 0,.int .i64 0] 131 (0,0)):=heap_setCell_other (p:=⟨w.heap.size,3,none⟩) (.int .i64 a) (heap_setCell_other (w:=W') (p:=⟨w.heap.size,0,none⟩) (.int .i64 3) HBK.out.2 (by simp;omega)) (by simp;omega)
    have m3:Hid (Fr [] w (((W'.setCell ⟨w.heap.size,0,none⟩ (.int .i64 3)).setCell ⟨w.heap.size,3,none⟩ (.int .i64 a)).drew)):=qj (((HF3.out.step (Fr.setCell (fp:=[w.heap.size]) (p:=⟨w.heap.size,0,none⟩) _ (.int .i64 3) (by simp)) (fun k hk=>.inr (by simp at hk;omega))).step (Fr.setCell (fp:=[w.heap.size]) (p:=⟨w.heap.size,3,none⟩) _ (.int .i64 a) (by simp)) (fun k hk=>.inr (by simp at hk;omega))).trans (Fr.drew _ _))
    have m4:∀ k,k≠w.heap.size→(((W'.setCell ⟨w.heap.size,0,none⟩ (.int .i64 3)).setCell ⟨w.heap.size,3,none⟩ (.int .i64 a)).drew).heap[k]?=W'.heap[k]?:=fun k hk=>by
     show ((W'.setCell ⟨w.heap.size,0,none⟩ (.int .i64 3)).setCell ⟨w.heap.size,3,none⟩ (.int .i64 a)).heap[k]?=_
     rw [Below.heap_setCell _ _ _ _ (by exact hk),Below.heap_setCell _ _ _ _ (by exact hk)]
    have r1':=(World.cell?_of_block (m4 b hne.1)).trans r1
    have r2':=(World.cell?_of_block (m4 b hne.1)).trans r2
    have e2':=(World.cell?_of_block (m4 (w.heap.size+1) (by omega))).trans e2
    clear r0 r1 r2 e0 e1 e2 l0 l1 l2 l3 x0 x1 x2 x3 z0 z1 z2 z3 y0 y1 y2 y3 m4 HF3 HBK
    generalize ((W'.setCell ⟨w.heap.size,0,none⟩ (.int .i64 3)).setCell ⟨w.heap.size,3,none⟩ (.int .i64 a)).drew=W6 at *
    have HF3:=m3
    have l0:W6.cell? ⟨w.heap.size,0,none⟩=some (.int .i64 3):=qd m1 0
    have l1:W6.cell? ⟨w.heap.size,1,none⟩=some (.int .i64 ho):=qd m1 1
    have l2:W6.cell? ⟨w.heap.size,2,none⟩=some (.int .i64 ep):=qd m1 2
    have l3:W6.cell? ⟨w.heap.size,3,none⟩=some (.int .i64 a):=qd m1 3
    have x1:=ql m1 1;have x2:=ql m1 2
    have z0:=qd m2 0;have z1:=qd m2 1;have z2:=qd m2 2;have z3:=qd m2 3
    have y0:=ql m2 0;have y1:=ql m2 1;have y2:=ql m2 2;have y3:=ql m2 3
    have x0:=x1;have x3:=x1
    clear m1 m2 m3
    go_wp2_with fail
    refine bodyPost_ret (v:=.tuple #[.agg #[.int .i64 3,.int .i64 ho,.int .i64 ep,.int .i64 a],.int .i64 0]) (by simp [results,Tryz.results59,go_sem,z0,z1,z2,z3];try rfl) rfl ⟨?_,?_⟩
    ·unfold stepX;simp only [];rfl
    ·repeat (first | with_reducible exact HF3.out | refine Fr.step ?_ (Fr.setCell (fp:=[_]) _ _ (List.mem_singleton.2 rfl)) (fun k hk=>.inr (by simp at hk;omega)))
   ·simp only [ruF,ruT,ruN] at r0 r1 r2
    go_wp2_with fail
    refine bodyPost_ret (v:=.tuple #[.agg #[.int .i64 0,.int .i64 0,.int .i64 0,.int .i64 0],.int .i64 140]) (by simp [results,Tryz.results59,go_sem,z0,z1,z2,z3];try rfl) rfl ⟨?_,?_⟩
    ·unfold stepX;simp only [];rfl
    ·repeat (first | with_reducible exact HF3.out | refine Fr.step ?_ (Fr.setCell (fp:=[_]) _ _ (List.mem_singleton.2 rfl)) (fun k hk=>.inr (by simp at hk;omega)))
   ·simp only [ruF,ruT,ruN] at r0 r1 r2
    go_wp2_with fail
    refine bodyPost_ret (v:=.tuple #[.agg #[.int .i64 0,.int .i64 0,.int .i64 0,.int .i64 0],.int .i64 140]) (by simp [results,Tryz.results59,go_sem,z0,z1,z2,z3];try rfl) rfl ⟨?_,?_⟩
    ·unfold stepX;simp only [];rfl
    ·repeat (first | with_reducible exact HF3.out | refine Fr.step ?_ (Fr.setCell (fp:=[_]) _ _ (List.mem_singleton.2 rfl)) (fun k hk=>.inr (by simp at hk;omega)))
  ·obtain rfl | rfl | rfl | rfl | rfl | rfl | rfl:n=1∨n=2∨n=3∨n=4∨n=5∨n=6∨n=7:=by omega
   ·simp only [ruF,ruT,ruN] at r0 r1 r2
    go_wp2_with fail
    refine bodyPost_ret (v:=.tuple #[.agg #[.int .i64 0,.int .i64 0,.int .i64 0,.int .i64 0],.int .i64 140]) (by simp [results,Tryz.results59,go_sem,z0,z1,z2,z3];try rfl) rfl ⟨?_,?_⟩
    ·unfold stepX;simp only [];rfl
    ·repeat (first | with_reducible exact HF3.out | refine Fr.step ?_ (Fr.setCell (fp:=[_]) _ _ (List.mem_singleton.2 rfl)) (fun k hk=>.inr (by simp at hk;omega)))
   ·simp only [ruF,ruT,ruN] at r0 r1 r2
    go_wp2_with fail
    refine bodyPost_ret (v:=.tuple #[.agg #[.int .i64 0,.int .i64 0,.int .i64 0,.int .i64 0],.int .i64 140]) (by simp [results,Tryz.results59,go_sem,z0,z1,z2,z3];try rfl) rfl ⟨?_,?_⟩
    ·unfold stepX;simp only [];rfl
    ·repeat (first | with_reducible exact HF3.out | refine Fr.step ?_ (Fr.setCell (fp:=[_]) _ _ (List.mem_singleton.2 rfl)) (fun k hk=>.inr (by simp at hk;omega)))
   ·simp only [ruF,ruT,ruN] at r0 r1 r2
    go_wp2_with fail
    refine bodyPost_ret (v:=.tuple #[.agg #[.int .i64 0,.int .i64 0,.int .i64 0,.int .i64 0],.int .i64 140]) (by simp [results,Tryz.results59,go_sem,z0,z1,z2,z3];try rfl) rfl ⟨?_,?_⟩
    ·unfold stepX;simp only [];rfl
    ·repeat (first | with_reducible exact HF3.out | refine Fr.step ?_ (Fr.setCell (fp:=[_]) _ _ (List.mem_singleton.2 rfl)) (fun k hk=>.inr (by simp at hk;omega)))
   ·simp only [ruF,ruT,ruN] at r0 r1 r2
    go_wp2_with fail
    refine bodyPost_ret (v:=.tuple #[.agg #[.int .i64 0,.int .i64 0,.int .i64 0,.int .i64 0],.int .i64 140]) (by simp [results,Tryz.results59,go_sem,z0,z1,z2,z3];try rfl) rfl ⟨?_,?_⟩
    ·unfold stepX;simp only [];rfl
    ·repeat (first | with_reducible exact HF3.out | refine Fr.step ?_ (Fr.setCell (fp:=[_]) _ _ (List.mem_singleton.2 rfl)) (fun k hk=>.inr (by simp at hk;omega)))
   ·simp only [ruF,ruT,ruN] at r0 r1 r2
    go_wp2_with fail
    refine bodyPost_ret (v:=.tuple #[.agg #[.int .i64 0,.int .i64 0,.int .i64 0,.int .i64 0],.int .i64 140]) (by simp [results,Tryz.results59,go_sem,z0,z1,z2,z3];try rfl) rfl ⟨?_,?_⟩
    ·unfold stepX;simp only [];rfl
    ·repeat (first | with_reducible exact HF3.out | refine Fr.step ?_ (Fr.setCell (fp:=[_]) _ _ (List.mem_singleton.2 rfl)) (fun k hk=>.inr (by simp at hk;omega)))
   ·simp only [ruF,ruT,ruN] at r0 r1 r2
    go_wp2_with fail
    refine reg_tree (Fr [w.heap.size] W') 7 (.take 0 (.take 1 (.take 2 (.take 3 (.take 4 (.one 5 (.take 6 (.one 7 .nil)))))))) (by kernel_rfl) (by kernel_rfl) (by kernel_rfl) rfl ?_
    have FC:Fr [w.heap.size] W' W'.drew:=Fr.drew _ _
    iterate 5 (refine tree_take (v:=?_) rfl rfl rfl FC (fun w hS=>?_) ?_;rotate_left;(focus (have s1:=hS.cel r1 (by simp [hne]);have s2:=hS.cel e1 (by simp);clear hS;go_simp;rfl));simp only [qu,qv,qx])
    refine tree_one rfl rfl (fun K hK=>?_)
    go_simp
    have FC:=FC.trans (Fr.setCell (fp:=[w.heap.size]) (p:=⟨w.heap.size,0,none⟩) W'.drew (.int .i64 1) (by simp))
    refine hK _ _ FC ?_
    clear hK K
    try simp only [Act.put,qu,qv,qx]
    (refine tree_take (v:=?_) rfl rfl rfl FC (fun w hS=>?_) ?_;rotate_left;(focus (clear hS;go_simp;rfl));simp only [qu,qv,qx])
    refine tree_last rfl rfl (fun K hK=>?_)
    go_simp
    refine hK _ _ ?_
    clear hK K FC
    refine noPanicC ?_
    have m1:(((W'.setCell ⟨w.heap.size,0,none⟩ (.int .i64 1)).setCell ⟨w.heap.size,3,none⟩ (.int .i64 a)).drew).heap[w.heap.size]?=some (.cells #[.int .i64 1,.int .i64 ho,.int .i64 ep,.int .i64 a] 131 (0,0)):=qs (i:=3) (.int .i64 a) (qs (w:=W') (i:=0) (.int .i64 1) HBK.out.1)
    have m2:(((W'.setCell ⟨w.heap.size,0,none⟩ (.int .i64 1)).setCell ⟨w.heap.size,3,none⟩ (.int .i64 a)).drew).heap[w.heap.size+1+1]?=some (.cells #[.int .i64 0,.int .i64 0,.int .i64 0,.int .i64 0] 131 (0,0)):=heap_setCell_other (p:=⟨w.heap.size,3,none⟩) (.int .i64 a) (heap_setCell_other (w:=W') (p:=⟨w.heap.size,0,none⟩) (.int .i64 1) HBK.out.2 (by simp;omega)) (by simp;omega)
    have m3:Hid (Fr [] w (((W'.setCell ⟨w.heap.size,0,none⟩ (.int .i64 1)).setCell ⟨w.heap.size,3,none⟩ (.int .i64 a)).drew)):=qj (((HF3.out.step (Fr.setCell (fp:=[w.heap.size]) (p:=⟨w.heap.size,0,none⟩) _ (.int .i64 1) (by simp)) (fun k hk=>.inr (by simp at hk;omega))).step (Fr.setCell (fp:=[w.heap.size]) (p:=⟨w.heap.size,3,none⟩) _ (.int .i64 a) (by simp)) (fun k hk=>.inr (by simp at hk;omega))).trans (Fr.drew _ _))
    have m4:∀ k,k≠w.heap.size→(((W'.setCell ⟨w.heap.size,0,none⟩ (.int .i64 1)).setCell ⟨w.heap.size,3,none⟩ (.int .i64 a)).drew).heap[k]?=W'.heap[k]?:=fun k hk=>by
     show ((W'.setCell ⟨w.heap.size,0,none⟩ (.int .i64 1)).setCell ⟨w.heap.size,3,none⟩ (.int .i64 a)).heap[k]?=_
     rw [Below.heap_setCell _ _ _ _ (by exact hk),Below.heap_setCell _ _ _ _ (by exact hk)]
    have r1':=(World.cell?_of_block (m4 b hne.1)).trans r1
    have r2':=(World.cell?_of_block (m4 b hne.1)).trans r2
    have e2':=(World.cell?_of_block (m4 (w.heap.size+1) (by omega))).trans e2
    clear r0 r1 r2 e0 e1 e2 l0 l1 l2 l3 x0 x1 x2 x3 z0 z1 z2 z3 y0 y1 y2 y3 m4 HF3 HBK
    generalize ((W'.setCell ⟨w.heap.size,0,none⟩ (.int .i64 1)).setCell ⟨w.heap.size,3,none⟩ (.int .i64 a)).drew=W6 at *
    have HF3:=m3
    have l0:W6.cell? ⟨w.heap.size,0,none⟩=some (.int .i64 1):=qd m1 0
    have l1:W6.cell? ⟨w.heap.size,1,none⟩=some (.int .i64 ho):=qd m1 1
    have l2:W6.cell? ⟨w.heap.size,2,none⟩=some (.int .i64 ep):=qd m1 2
    have l3:W6.cell? ⟨w.heap.size,3,none⟩=some (.int .i64 a):=qd m1 3
    have x1:=ql m1 1;have x2:=ql m1 2
    have z0:=qd m2 0;have z1:=qd m2 1;have z2:=qd m2 2;have z3:=qd m2 3
    have y0:=ql m2 0;have y1:=ql m2 1;have y2:=ql m2 2;have y3:=ql m2 3
    have x0:=x1;have x3:=x1
    clear m1 m2 m3
    go_wp2_with fail
    refine bodyPost_ret (v:=.tuple #[.agg #[.int .i64 1,.int .i64 ho,.int .i64 ep,.int .i64 a],.int .i64 0]) (by simp [results,Tryz.results59,go_sem,z0,z1,z2,z3];try rfl) rfl ⟨?_,?_⟩
    ·unfold stepX;simp only [];rfl
    ·repeat (first | with_reducible exact HF3.out | refine Fr.step ?_ (Fr.setCell (fp:=[_]) _ _ (List.mem_singleton.2 rfl)) (fun k hk=>.inr (by simp at hk;omega)))
   ·simp only [ruF,ruT,ruN] at r0 r1 r2
    cases g1:decide (a - si < 2592000) with
    | true =>
     go_wp2_with fail
     refine bodyPost_ret (v:=.tuple #[.agg #[.int .i64 0,.int .i64 0,.int .i64 0,.int .i64 0],.int .i64 140]) (by simp [results,Tryz.results59,go_sem,z0,z1,z2,z3];try rfl) rfl ⟨?_,?_⟩
     ·unfold stepX;simp only [];rw [g1];rfl
     ·repeat (first | with_reducible exact HF3.out | refine Fr.step ?_ (Fr.setCell (fp:=[_]) _ _ (List.mem_singleton.2 rfl)) (fun k hk=>.inr (by simp at hk;omega)))
    | false =>
     go_wp2_with fail
     refine reg_tree (Fr [w.heap.size] W') 7 (.take 0 (.take 1 (.take 2 (.take 3 (.take 4 (.one 5 (.take 6 (.one 7 .nil)))))))) (by kernel_rfl) (by kernel_rfl) (by kernel_rfl) rfl ?_
     have FC:Fr [w.heap.size] W' W'.drew:=Fr.drew _ _
     iterate 5 (refine tree_take (v:=?_) rfl rfl rfl FC (fun w hS=>?_) ?_;rotate_left;(focus (have s1:=hS.cel r1 (by simp [hne]);have s2:=hS.cel e1 (by simp);clear hS;go_simp;rfl));simp only [qu,qv,qx])
     refine tree_one rfl rfl (fun K hK=>?_)
     go_simp
     have FC:=FC.trans (Fr.setCell (fp:=[w.heap.size]) (p:=⟨w.heap.size,0,none⟩) W'.drew (.int .i64 0) (by simp))
     refine hK _ _ FC ?_
     clear hK K
     try simp only [Act.put,qu,qv,qx]
     (refine tree_take (v:=?_) rfl rfl rfl FC (fun w hS=>?_) ?_;rotate_left;(focus (clear hS;go_simp;rfl));simp only [qu,qv,qx])
     refine tree_last rfl rfl (fun K hK=>?_)
     go_simp
     refine hK _ _ ?_
     clear hK K FC
     refine noPanicC ?_
     have m1:(((W'.setCell ⟨w.heap.size,0,none⟩ (.int .i64 0)).setCell ⟨w.heap.size,3,none⟩ (.int .i64 a)).drew).heap[w.heap.size]?=some (.cells #[.int .i64 0,.int .i64 ho,.int .i64 ep,.int .i64 a] 131 (0,0)):=qs (i:=3) (.int .i64 a) (qs (w:=W') (i:=0) (.int .i64 0) HBK.out.1)
     have m2:(((W'.setCell ⟨w.heap.size,0,none⟩ (.int .i64 0)).setCell ⟨w.heap.size,3,none⟩ (.int .i64 a)).drew).heap[w.heap.size+1+1]?=some (.cells #[.int .i64 0,.int .i64 0,.int .i64 0,.int .i64 0] 131 (0,0)):=heap_setCell_other (p:=⟨w.heap.size,3,none⟩) (.int .i64 a) (heap_setCell_other (w:=W') (p:=⟨w.heap.size,0,none⟩) (.int .i64 0) HBK.out.2 (by simp;omega)) (by simp;omega)
     have m3:Hid (Fr [] w (((W'.setCell ⟨w.heap.size,0,none⟩ (.int .i64 0)).setCell ⟨w.heap.size,3,none⟩ (.int .i64 a)).drew)):=qj (((HF3.out.step (Fr.setCell (fp:=[w.heap.size]) (p:=⟨w.heap.size,0,none⟩) _ (.int .i64 0) (by simp)) (fun k hk=>.inr (by simp at hk;omega))).step (Fr.setCell (fp:=[w.heap.size]) (p:=⟨w.heap.size,3,none⟩) _ (.int .i64 a) (by simp)) (fun k hk=>.inr (by simp at hk;omega))).trans (Fr.drew _ _))
     have m4:∀ k,k≠w.heap.size→(((W'.setCell ⟨w.heap.size,0,none⟩ (.int .i64 0)).setCell ⟨w.heap.size,3,none⟩ (.int .i64 a)).drew).heap[k]?=W'.heap[k]?:=fun k hk=>by
      show ((W'.setCell ⟨w.heap.size,0,none⟩ (.int .i64 0)).setCell ⟨w.heap.size,3,none⟩ (.int .i64 a)).heap[k]?=_
      rw [Below.heap_setCell _ _ _ _ (by exact hk),Below.heap_setCell _ _ _ _ (by exact hk)]
     have r1':=(World.cell?_of_block (m4 b hne.1)).trans r1
     have r2':=(World.cell?_of_block (m4 b hne.1)).trans r2
     have e2':=(World.cell?_of_block (m4 (w.heap.size+1) (by omega))).trans e2
     clear r0 r1 r2 e0 e1 e2 l0 l1 l2 l3 x0 x1 x2 x3 z0 z1 z2 z3 y0 y1 y2 y3 m4 HF3 HBK
     generalize ((W'.setCell ⟨w.heap.size,0,none⟩ (.int .i64 0)).setCell ⟨w.heap.size,3,none⟩ (.int .i64 a)).drew=W6 at *
     have HF3:=m3
     have l0:W6.cell? ⟨w.heap.size,0,none⟩=some (.int .i64 0):=qd m1 0
     have l1:W6.cell? ⟨w.heap.size,1,none⟩=some (.int .i64 ho):=qd m1 1
     have l2:W6.cell? ⟨w.heap.size,2,none⟩=some (.int .i64 ep):=qd m1 2
     have l3:W6.cell? ⟨w.heap.size,3,none⟩=some (.int .i64 a):=qd m1 3
     have x1:=ql m1 1;have x2:=ql m1 2
     have z0:=qd m2 0;have z1:=qd m2 1;have z2:=qd m2 2;have z3:=qd m2 3
     have y0:=ql m2 0;have y1:=ql m2 1;have y2:=ql m2 2;have y3:=ql m2 3
     have x0:=x1;have x3:=x1
     clear m1 m2 m3
     go_wp2_with fail
     refine bodyPost_ret (v:=.tuple #[.agg #[.int .i64 0,.int .i64 (-1),.int .i64 ep,.int .i64 a],.int .i64 0]) (by simp [results,Tryz.results59,go_sem,z0,z1,z2,z3];try rfl) rfl ⟨?_,?_⟩
     ·unfold stepX;simp only [];rw [g1];rfl
     ·repeat (first | with_reducible exact HF3.out | refine Fr.step ?_ (Fr.setCell (fp:=[_]) _ _ (List.mem_singleton.2 rfl)) (fun k hk=>.inr (by simp at hk;omega)))
end Go.Proofs.YtledkokhghjfmaaGreatDoor
