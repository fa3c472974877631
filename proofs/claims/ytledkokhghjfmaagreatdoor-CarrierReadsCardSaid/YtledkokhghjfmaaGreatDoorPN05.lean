/-
  sort.Search for the event that comes behind a time. life.at, life.At.
-/
import Derived.Test.YtledkokhghjfmaaGreatDoorPN04
import Derived.Test.YtledkokhghjfmaaGreatDoorPS07
import Derived.Test.YtledkokhghjfmaaGreatDoorPCaDe
import Derived.Test.YtledkokhghjfmaaGreatDoorPS03
import Derived.Test.YtledkokhghjfmaaGreatDoorPN03
import Derived.Test.YtledkokhghjfmaaGreatDoorPS20
namespace Go.Proofs.YtledkokhghjfmaaGreatDoor
section
open Go.RowKit Go.Shelf Go.Lib
attribute [local go_sem] Oper.semAt_some
def kAt (ls:List Le) (t:Int):Nat:=(ls.takeWhile fun e=>decide (e.a≤t)).length
theorem kAt_le (ls:List Le) (t:Int):kAt ls t≤ls.length:=(List.takeWhile_sublist _).length_le
theorem kAt_spec {t:Int}:∀ {ls:List Le},ls.Pairwise (fun x y=>x.a≤y.a)→∀ i (h:i < ls.length),t < ls[i].a↔kAt ls t≤i
 | [],_,i,h=>by simp at h
 | x :: ls,hp,i,h=>by
  rw [List.pairwise_cons] at hp
  unfold kAt
  rw [List.takeWhile_cons]
  by_cases hx:x.a≤t
  ·simp only [hx,decide_true,if_true,List.length_cons]
   cases i with
   | zero=>simp;omega
   | succ i =>
    have:=kAt_spec hp.2 (t:=t) i (by simpa using h)
    unfold kAt at this
    simp only [List.getElem_cons_succ]
    rw [this];omega
  ·simp only [hx,decide_false,Bool.false_eq_true,if_false,List.length_nil]
   cases i with
   | zero=>simp;omega
   | succ i =>
    have:=hp.1 (ls[i]'(by simpa using h)) (List.getElem_mem _)
    simp only [List.getElem_cons_succ]
    omega
theorem LifeOk.sorted {ls:List Le} (h:LifeOk ls):ls.Pairwise (fun x y=>x.a≤y.a):=by
 have key:∀ k (hk:k+1 < ls.length),(ls[k]'(by omega)).a≤ls[k+1].a:=fun k hk=>by
  have h1:=(h.step k (by omega)).2.2.2
  have h2:=(h.step (k+1) hk).2.2.1
  rw [stepX_si h1] at h2
  exact h2
 rw [List.pairwise_iff_getElem]
 intro i j hi hj hij
 obtain ⟨d,rfl⟩:∃ d,j=i+1+d:=⟨j - i - 1,by omega⟩
 induction d with
 | zero=>exact key i hj
 | succ d ih=>exact Int.le_trans (ih (by omega) (by omega)) (key (i+1+d) hj)
theorem lnAt_take (ls:List Le) {j k:Nat} (h:j≤k):lnAt (ls.take k) j=lnAt ls j:=by
 unfold lnAt;rw [List.take_take,Nat.min_eq_left h]
theorem LifeOk.take {ls:List Le} (h:LifeOk ls) (k:Nat):LifeOk (ls.take k):=by
 refine ⟨by have:=h.len;simp;omega,fun j hj=>?_⟩
 have hj':j < k∧j < ls.length:=by simp at hj;omega
 rw [lnAt_take ls (by omega),lnAt_take ls (by omega),List.getElem_take]
 exact h.step j hj'.2
set_option maxRecDepth 100000 in
theorem lfAt1_c (bx bt:Nat) (a:Option Addr) (cap:Nat) (ls:List Le) (t:Int) (i:Nat) (w:World) (hx:w.heap[bx]?=some (.cells #[.slice a ls.length cap] 63 (0,0))) (hb:w.heap[bt]?=some (.cells #[.int .i64 t] 3 (0,0)))
  (hr:Sl w (.slice a ls.length cap) ls.length (ls.flatMap leC)) (hi:i < ls.length) :
  Calls Tryz.prog 201 #[.int .i64 i,.pointer (some ⟨bx,0,none⟩),.pointer (some ⟨bt,0,none⟩)] w fun e w'=>e=.returned (.bool (decide (t < ls[i].a)))∧Fr [] w w':=by
 have x0:=qd hx 0;have t0:=qd hb 0
 obtain ⟨sb,so,ha,hc⟩:=hr.at_ (by omega)
 have e1:w.cell? ⟨sb,so+i*3+1,none⟩=some (.int .i64 ls[i].a):=by
  rw [Nat.add_assoc]
  exact hc _ _ (by rw [flat_get (enc:=leC) (k:=3) (fun _=>rfl) _ i hi 1 (by omega)];rfl)
 have hl:=hr.len
 subst ha
 generalize hv:ls[i].a=ea at *
 have HV:=qj hv
 clear hx hb hr hc hv
 go_enter Tryz.func201,Tryz.ntmps201
 go_upto_region 1 with fail
 refine reg_mix (Fr [] w) [0,1,2,3,4,5,6,7] (by kernel_rfl) (by kernel_rfl) (by kernel_rfl) rfl (Fr.drew _ _) ?_
 have FC:Fr [] w w.drew:=Fr.drew _ _
 generalize w.drew=WC at FC ⊢
 iterate 8 (refine mix_take1 (v:=?_) rfl rfl rfl rfl (fun w hS=>?_) ?_;rotate_left;(focus (have x0:=hS.cel x0 (by simp);have t0:=hS.cel t0 (by simp);have e1:=hS.cel e1 (by simp);clear hS;go_simp;rfl));simp only [qu,qv,qx])
 refine mix_end ?_
 clear x0 t0 e1
 have HC:=qj FC
 clear FC
 go_wp2_with fail
 go_ret
 exact ⟨rfl,HC.out⟩
set_option maxRecDepth 100000 in
theorem search_c (bx bt:Nat) (a:Option Addr) (cap:Nat) (ls:List Le) (t:Int) (w:World) (hx:w.heap[bx]?=some (.cells #[.slice a ls.length cap] 63 (0,0))) (hb:w.heap[bt]?=some (.cells #[.int .i64 t] 3 (0,0)))
  (hr:Sl w (.slice a ls.length cap) ls.length (ls.flatMap leC)) (hs:ls.Pairwise (fun x y=>x.a≤y.a)) (hl:ls.length≤40) :
  Calls Tryz.prog 200 #[.int .i64 ls.length,.func (.func 201) #[] #[.pointer (some ⟨bx,0,none⟩),.pointer (some ⟨bt,0,none⟩)]] w fun e w'=>e=.returned (.int .i64 (kAt ls t))∧Fr [] w w':=by
 have CC:=qj fun (i:Nat) (hi:i < ls.length) W (hf:Fr [] w W)=>lfAt1_c bx bt a cap ls t i W (hf.keep hx (by simp)) (hf.keep hb (by simp)) (hr.same hf) hi
 have HS:=qj fun i (hi:i < ls.length)=>kAt_spec hs (t:=t) i hi
 have hk:=kAt_le ls t
 generalize hkk:kAt ls t=k at *
 clear hx hb hr hs hkk
 go_enter Tryz.func200,Tryz.ntmps200
 go_wp2_with fail
 go_loopw [5,6] (fun lo hi wr=>∃ i j:Nat,lo=.int .i64 i∧hi=.int .i64 j∧i≤k∧k≤j∧j≤ls.length∧Hid (Fr [] w wr)) (fun lo hi _=>(RowKit.intOf hi).toNat - (RowKit.intOf lo).toNat)
 case atStart=>exact ⟨0,ls.length,rfl,rfl,Nat.zero_le _,hk,Nat.le_refl _,qj (Fr.refl _ _)⟩
 case round =>
  obtain ⟨i,j,rfl,rfl,h1,h2,h3,HF⟩:=hrel
  by_cases hij:i < j
  ·go_wp2_with fail
   have hm:((i:Int)+(j:Int)) / 2=(((i+j) / 2:Nat):Int):=by omega
   simp only [hm]
   have hmm:i≤(i+j) / 2∧(i+j) / 2 < j:=by omega
   clear hm
   generalize (i+j) / 2=m at *
   have CM:=qj (CC.out m (by omega) wr HF.out)
   have HM:=qj (HS.out m (by omega))
   generalize hd:decide (t < (ls[m]'(by omega)).a)=d at *
   have HD:Hid (d=decide (k≤m)):=qj (by rw [← hd];exact decide_eq_decide.2 HM.out)
   clear hd HM
   refine CM.out.mono ?_
   rintro e w2 ⟨rfl,f2⟩
   have HF2:=qj (HF.out.trans f2)
   clear f2 CM HF
   cases d with
   | true =>
    have hkm:k≤m:=by simpa using HD.out
    go_wp2_with fail
    go_roundw
    case rel=>exact ⟨i,m,rfl,rfl,h1,hkm,by omega,HF2⟩
    case measure=>simp [RowKit.intOf];omega
   | false =>
    have hkm:m < k:=by simpa using HD.out
    go_wp2_with fail
    go_roundw
    case rel=>exact ⟨m+1,j,by go_num,rfl,by omega,h2,h3,HF2⟩
    case measure=>simp [RowKit.intOf];omega
  ·obtain rfl:i=j:=by omega
   obtain rfl:i=k:=by omega
   go_wp2_with fail
   go_ret
   exact ⟨rfl,HF.out⟩
theorem Sl.takeL {w:World} {a:Option Addr} {cap k:Nat} {ls:List Le} (h:Sl w (.slice a ls.length cap) ls.length (ls.flatMap leC)) (hk:k≤ls.length):Sl w (.slice a k cap) k ((ls.take k).flatMap leC):=by
 obtain ⟨h1,h2⟩:=h.caps3
 refine ⟨a,cap,rfl,by omega,h2,fun h0=>?_⟩
 obtain ⟨b,off,rfl,hc⟩:=h.at_ (by omega)
 refine ⟨b,off,rfl,fun j u hu=>hc j u ?_⟩
 have e:ls.flatMap leC=(ls.take k).flatMap leC++(ls.drop k).flatMap leC:=by rw [← List.flatMap_append,List.take_append_drop]
 rw [e,List.getElem?_append_left (List.getElem?_eq_some_iff.1 hu).1]
 exact hu
set_option maxRecDepth 100000 in
set_option maxHeartbeats 8000000 in
theorem lfat_c (a:Option Addr) (cap:Nat) (ls:List Le) (t:Int) (w:World) (hok:LifeOk ls) (h:Sl w (.slice a ls.length cap) ls.length (ls.flatMap leC)) (hy:∀ g,(Value.slice a ls.length cap).ownBlock=some g→g < w.heap.size) (ht:inB t 0 10000000=true) :
  Calls Tryz.prog 185 #[.slice a ls.length cap,.int .i64 t] w fun e w'=>e=.returned (.tuple #[lnVv (lnAt ls (kAt ls t)),.bool true])∧Fr [] w w':=by
 have hk:=kAt_le ls t
 have CS0:=qj fun W hx hb (hf:Fr [] w W)=>search_c w.heap.size (w.heap.size+1) a cap ls t W hx hb (h.same hf) hok.sorted hok.len
 have CR0:Hid (∀ W,Fr [] w W→Calls Tryz.prog 154 #[.slice a (kAt ls t) cap] W fun e w'=>e=.returned (.tuple #[lnVv (lnAt ls (kAt ls t)),.int .i64 (kAt ls t),.int .i64 0])∧Fr [] W w'):=qj fun W hf=>by
  have hl:(ls.take (kAt ls t)).length=kAt ls t:=by simp;omega
  have:=lfRun_c a cap (ls.take (kAt ls t)) W (hok.take _) (by rw [hl];exact (h.same hf).takeL hk) (fun g hg=>Nat.lt_of_lt_of_le (hy g (by cases a <;> exact hg)) hf.size)
  rw [hl,lnAt_take ls (Nat.le_refl _)] at this
  exact this
 generalize kAt ls t=k at *
 obtain ⟨z,hz⟩:∃ z,lnAt ls k=z:=⟨_,rfl⟩
 rw [hz] at CR0 ⊢
 obtain ⟨zt,zo,zp,zi⟩:=z
 simp only [lnVv] at CR0
 clear hz
 have CR:=qj fun W (hf:Fr [] w W)=>lfRun_c a cap ls W hok (h.same hf) (fun g hg=>Nat.lt_of_lt_of_le (hy g hg) hf.size)
 have CI:=qj fun (n lo hi:Int) W=>lfIsIn_c n lo hi W
 have HO:=qj hok;have HS:=qj h;have HG:=qj hy;have HT:=qj ht
 have hlen:=hok.len
 have hcap:=h.caps3
 clear hok h hy ht
 have A3:=alloc3y w (.cells #[.slice a ls.length cap] 63) (.cells #[.int .i64 t] 3) (.cells #[.int .i64 0,.int .i64 0,.int .i64 0,.int .i64 0] 131)
 go_enter Tryz.func185,Tryz.ntmps185
 go_wp2_with fail
 generalize ((w.alloc (.cells #[.slice a ls.length cap] 63)).alloc (.cells #[.int .i64 t] 3)).alloc (.cells #[.int .i64 0,.int .i64 0,.int .i64 0,.int .i64 0] 131)=w3 at *
 obtain ⟨b0,b1,b2,f3,hz3⟩:=A3
 refine (CR.out w3 f3).mono ?_
 rintro e w4 ⟨rfl,f4⟩
 obtain ⟨w5,hw5⟩:∃ w5,w4.alloc (.cells #[.int .i64 (lnAt ls ls.length).st,.int .i64 (lnAt ls ls.length).ho,.int .i64 (lnAt ls ls.length).ep,.int .i64 (lnAt ls ls.length).si] 131)=w5:=⟨_,rfl⟩
 have f5:=f4.trans (Fr.alloc [] w4 (.cells #[.int .i64 (lnAt ls ls.length).st,.int .i64 (lnAt ls ls.length).ho,.int .i64 (lnAt ls ls.length).ep,.int .i64 (lnAt ls ls.length).si] 131))
 rw [hw5] at f5
 have HB0:=qj (f5.keep b0 (by simp));have HB1:=qj (f5.keep b1 (by simp));have HB2:=qj (f5.keep b2 (by simp))
 have HF5:=qj (f3.trans f5)
 have hz5:w.heap.size+1+1+1≤w5.heap.size:=by have:=f5.size;omega
 have t0:=qd HB1.out 0
 have s0:=qd HB0.out 0
 have HW5:=qj hw5
 clear b0 b1 b2 f3 f4 f5 hz3 hw5
 simp only [lnVv]
 go_upto_region 2 with fail
 rw [HW5.out]
 clear HW5
 go_wp2_with fail
 refine (CI.out _ _ _ _).mono ?_
 rintro e wz ⟨rfl,rfl⟩
 rw [HT.out]
 have CSR:=qj fun W (hf:Fr [] w5 W)=>CS0.out W (hf.keep HB0.out (by simp)) (hf.keep HB1.out (by simp)) (HF5.out.trans hf)
 have CR2:=qj fun W (hf:Fr [] w5 W)=>CR0.out W (HF5.out.trans hf)
 clear CI CR HT CS0 CR0
 go_wp2_with fail
 have HRB:=qj HB2.out
 refine reg_tree (Fr [] w5) 14 (.take 0 (.take 1 (.take 2 (.take 3 (.two 4 11 (.take 5 (.two 6 11 (.take 7 (.take 8 (.take 9 (.take 10 (.one 11 (.one 12 (.one 13 (.one 14 .nil)))))))) (.one 6 (.take 7 (.take 8 (.take 9 (.take 10 (.one 12 (.one 13 (.one 14 .nil)))))))))) (.one 4 (.take 5 (.one 6 (.take 7 (.take 8 (.take 9 (.take 10 (.one 12 (.one 13 (.one 14 .nil))))))))))))))) (by kernel_rfl) (by kernel_rfl) (by kernel_rfl) rfl ?_
 have FC:Fr [] w5 w5.drew:=Fr.drew _ _
 generalize w5.drew=WC at FC ⊢
 iterate 4 (refine tree_take (v:=?_) rfl rfl rfl FC (fun w hS=>?_) ?_;rotate_left;(focus (have s0:=hS.cel s0 (by simp);clear hS;go_simp;try rfl));simp only [qu,qv,qx])
 refine ⟨tree_op rfl rfl (fun K hK=>?_),tree_op rfl rfl (fun K hK=>?_)⟩
 ·go_simp
  refine (CSR.out _ FC).mono ?_
  rintro e W1 ⟨rfl,f⟩
  have FC:=FC.trans f
  refine hK _ _ FC ?_
  clear hK K f
  try simp only [Act.put,qu,qv,qx]
  (refine tree_take (v:=.slice a k cap) rfl rfl rfl FC (fun w hS=>?_) ?_;(focus (clear hS;go_simp;intro hh;exfalso;omega));simp only [qu,qv,qx])
  refine ⟨tree_op rfl rfl (fun K hK=>?_),tree_op rfl rfl (fun K hK=>?_)⟩
  ·go_simp
   refine (CR2.out _ FC).mono ?_
   rintro e W2 ⟨rfl,f⟩
   have FC:=FC.trans f
   refine hK _ _ FC ?_
   clear hK K f
   try simp only [Act.put,qu,qv,qx]
   iterate 4 (refine tree_take (v:=?_) rfl rfl rfl FC (fun w hS=>?_) ?_;rotate_left;(focus (clear hS;go_simp;try rfl));simp only [qu,qv,qx])
   refine tree_one rfl rfl (fun K hK=>?_)
   go_simp
   have HBB:=qj (qm W2 (.cells #[.int .i64 0,.int .i64 0,.int .i64 0,.int .i64 0] 131))
   have hbb:=FC.size
   have HFP:=qj FC
   have FC:=FC.trans (Fr.alloc [] W2 (.cells #[.int .i64 0,.int .i64 0,.int .i64 0,.int .i64 0] 131))
   refine hK _ _ FC ?_
   clear hK K
   try simp only [Act.put,qu,qv,qx]
   refine tree_one rfl rfl (fun K hK=>?_)
   have d0:=qd HBB.out 0;have d1:=qd HBB.out 1;have d2:=qd HBB.out 2;have d3:=qd HBB.out 3
   have g0:=ql HBB.out 0;have g1:=ql HBB.out 1;have g2:=ql HBB.out 2;have g3:=ql HBB.out 3
   go_simp
   try go_upon
   try go_simp
   have bs:=qm W2 (.cells #[.int .i64 zt,.int .i64 zo,.int .i64 zp,.int .i64 zi] 131)
   have FC:=HFP.out.trans (Fr.alloc [] W2 (.cells #[.int .i64 zt,.int .i64 zo,.int .i64 zp,.int .i64 zi] 131))
   refine hK _ _ FC ?_
   clear hK K d0 d1 d2 d3 g0 g1 g2 g3
   try simp only [Act.put,qu,qv,qx]
   refine tree_one rfl rfl (fun K hK=>?_)
   go_simp
   refine hK _ _ FC ?_
   clear hK K
   try simp only [Act.put,qu,qv,qx]
   refine tree_last rfl rfl (fun K hK=>?_)
   go_simp
   refine hK _ _ ?_
   clear hK K
   refine noPanicC ?_
   have HR2:=qj (FC.keep HB2.out (by simp))
   have HBS:=qj bs
   have HFC:=qj (HF5.out.trans FC)
   clear FC bs HBB s0 t0
   have d0:=qd HBS.out 0;have d1:=qd HBS.out 1;have d2:=qd HBS.out 2;have d3:=qd HBS.out 3
   have r0:=qd HR2.out 0;have r1:=qd HR2.out 1;have r2:=qd HR2.out 2;have r3:=qd HR2.out 3
   have g0:=ql HR2.out 0;have g1:=ql HR2.out 1;have g2:=ql HR2.out 2;have g3:=ql HR2.out 3
   go_wp2_with fail
   obtain ⟨fs,bs⟩:=set4 HR2.out (.int .i64 zt) (.int .i64 zo) (.int .i64 zp) (.int .i64 zi)
   generalize (((World.setCell _ ⟨w.heap.size+1+1,0,none⟩ (.int .i64 zt)).setCell ⟨w.heap.size+1+1,1,none⟩ (.int .i64 zo)).setCell ⟨w.heap.size+1+1,2,none⟩ (.int .i64 zp)).setCell ⟨w.heap.size+1+1,3,none⟩ (.int .i64 zi)=V at *
   have k0:=qd bs 0;have k1:=qd bs 1;have k2:=qd bs 2;have k3:=qd bs 3
   refine bodyPost_ret (v:=.tuple #[lnVv ⟨zt,zo,zp,zi⟩,.bool true]) (by simp [results,Tryz.results185,go_sem,k0,k1,k2,k3];try rfl) rfl ⟨rfl,?_⟩
   exact HFC.out.step fs (fun k hk=>.inr (by simp at hk;omega))
  ·go_simp
   have HBB:=qj (qm W1 (.cells #[.int .i64 0,.int .i64 0,.int .i64 0,.int .i64 0] 131))
   have hbb:=FC.size
   have HFP:=qj FC
   have FC:=FC.trans (Fr.alloc [] W1 (.cells #[.int .i64 0,.int .i64 0,.int .i64 0,.int .i64 0] 131))
   refine hK _ _ FC ?_
   clear hK K
   try simp only [Act.put,qu,qv,qx]
   refine tree_one rfl rfl (fun K hK=>?_)
   go_simp
   refine (CR2.out _ FC).mono ?_
   rintro e W2 ⟨rfl,f⟩
   have FC:=FC.trans f
   have HBB:=qj (f.keep HBB.out (by simp))
   refine hK _ _ FC ?_
   clear hK K f
   try simp only [Act.put,qu,qv,qx]
   iterate 4 (refine tree_take (v:=?_) rfl rfl rfl FC (fun w hS=>?_) ?_;rotate_left;(focus (clear hS;go_simp;try rfl));simp only [qu,qv,qx])
   refine tree_one rfl rfl (fun K hK=>?_)
   have d0:=qd HBB.out 0;have d1:=qd HBB.out 1;have d2:=qd HBB.out 2;have d3:=qd HBB.out 3
   have g0:=ql HBB.out 0;have g1:=ql HBB.out 1;have g2:=ql HBB.out 2;have g3:=ql HBB.out 3
   go_simp
   try go_upon
   try go_simp
   obtain ⟨fs,bs⟩:=set4 HBB.out (.int .i64 zt) (.int .i64 zo) (.int .i64 zp) (.int .i64 zi)
   have FC:=FC.step fs (fun k hk=>.inr (by simp at hk;omega))
   refine hK _ _ FC ?_
   clear hK K d0 d1 d2 d3 g0 g1 g2 g3 fs
   try simp only [Act.put,qu,qv,qx]
   refine tree_one rfl rfl (fun K hK=>?_)
   go_simp
   refine hK _ _ FC ?_
   clear hK K
   try simp only [Act.put,qu,qv,qx]
   refine tree_last rfl rfl (fun K hK=>?_)
   go_simp
   refine hK _ _ ?_
   clear hK K
   refine noPanicC ?_
   have HR2:=qj (FC.keep HB2.out (by simp))
   have HBS:=qj bs
   have HFC:=qj (HF5.out.trans FC)
   clear FC bs HBB s0 t0
   have d0:=qd HBS.out 0;have d1:=qd HBS.out 1;have d2:=qd HBS.out 2;have d3:=qd HBS.out 3
   have r0:=qd HR2.out 0;have r1:=qd HR2.out 1;have r2:=qd HR2.out 2;have r3:=qd HR2.out 3
   have g0:=ql HR2.out 0;have g1:=ql HR2.out 1;have g2:=ql HR2.out 2;have g3:=ql HR2.out 3
   go_wp2_with fail
   obtain ⟨fs,bs⟩:=set4 HR2.out (.int .i64 zt) (.int .i64 zo) (.int .i64 zp) (.int .i64 zi)
   generalize (((World.setCell _ ⟨w.heap.size+1+1,0,none⟩ (.int .i64 zt)).setCell ⟨w.heap.size+1+1,1,none⟩ (.int .i64 zo)).setCell ⟨w.heap.size+1+1,2,none⟩ (.int .i64 zp)).setCell ⟨w.heap.size+1+1,3,none⟩ (.int .i64 zi)=V at *
   have k0:=qd bs 0;have k1:=qd bs 1;have k2:=qd bs 2;have k3:=qd bs 3
   refine bodyPost_ret (v:=.tuple #[lnVv ⟨zt,zo,zp,zi⟩,.bool true]) (by simp [results,Tryz.results185,go_sem,k0,k1,k2,k3];try rfl) rfl ⟨rfl,?_⟩
   exact HFC.out.step fs (fun k hk=>.inr (by simp at hk;omega))
 ·go_simp
  have HBB:=qj (qm WC (.cells #[.int .i64 0,.int .i64 0,.int .i64 0,.int .i64 0] 131))
  have hbb:=FC.size
  have HFP:=qj FC
  have FC:=FC.trans (Fr.alloc [] WC (.cells #[.int .i64 0,.int .i64 0,.int .i64 0,.int .i64 0] 131))
  refine hK _ _ FC ?_
  clear hK K
  try simp only [Act.put,qu,qv,qx]
  refine tree_one rfl rfl (fun K hK=>?_)
  go_simp
  refine (CSR.out _ FC).mono ?_
  rintro e W1 ⟨rfl,f⟩
  have FC:=FC.trans f
  have HBB:=qj (f.keep HBB.out (by simp))
  refine hK _ _ FC ?_
  clear hK K f
  try simp only [Act.put,qu,qv,qx]
  (refine tree_take (v:=.slice a k cap) rfl rfl rfl FC (fun w hS=>?_) ?_;(focus (clear hS;go_simp;intro hh;exfalso;omega));simp only [qu,qv,qx])
  refine tree_one rfl rfl (fun K hK=>?_)
  go_simp
  refine (CR2.out _ FC).mono ?_
  rintro e W2 ⟨rfl,f⟩
  have FC:=FC.trans f
  have HBB:=qj (f.keep HBB.out (by simp))
  refine hK _ _ FC ?_
  clear hK K f
  try simp only [Act.put,qu,qv,qx]
  iterate 4 (refine tree_take (v:=?_) rfl rfl rfl FC (fun w hS=>?_) ?_;rotate_left;(focus (clear hS;go_simp;try rfl));simp only [qu,qv,qx])
  refine tree_one rfl rfl (fun K hK=>?_)
  have d0:=qd HBB.out 0;have d1:=qd HBB.out 1;have d2:=qd HBB.out 2;have d3:=qd HBB.out 3
  have g0:=ql HBB.out 0;have g1:=ql HBB.out 1;have g2:=ql HBB.out 2;have g3:=ql HBB.out 3
  go_simp
  try go_upon
  try go_simp
  obtain ⟨fs,bs⟩:=set4 HBB.out (.int .i64 zt) (.int .i64 zo) (.int .i64 zp) (.int .i64 zi)
  have FC:=FC.step fs (fun k hk=>.inr (by simp at hk;omega))
  refine hK _ _ FC ?_
  clear hK K d0 d1 d2 d3 g0 g1 g2 g3 fs
  try simp only [Act.put,qu,qv,qx]
  refine tree_one rfl rfl (fun K hK=>?_)
  go_simp
  refine hK _ _ FC ?_
  clear hK K
  try simp only [Act.put,qu,qv,qx]
  refine tree_last rfl rfl (fun K hK=>?_)
  go_simp
  refine hK _ _ ?_
  clear hK K
  refine noPanicC ?_
  have HR2:=qj (FC.keep HB2.out (by simp))
  have HBS:=qj bs
  have HFC:=qj (HF5.out.trans FC)
  clear FC bs HBB s0 t0
  have d0:=qd HBS.out 0;have d1:=qd HBS.out 1;have d2:=qd HBS.out 2;have d3:=qd HBS.out 3
  have r0:=qd HR2.out 0;have r1:=qd HR2.out 1;have r2:=qd HR2.out 2;have r3:=qd HR2.out 3
  have g0:=ql HR2.out 0;have g1:=ql HR2.out 1;have g2:=ql HR2.out 2;have g3:=ql HR2.out 3
  go_wp2_with fail
  obtain ⟨fs,bs⟩:=set4 HR2.out (.int .i64 zt) (.int .i64 zo) (.int .i64 zp) (.int .i64 zi)
  generalize (((World.setCell _ ⟨w.heap.size+1+1,0,none⟩ (.int .i64 zt)).setCell ⟨w.heap.size+1+1,1,none⟩ (.int .i64 zo)).setCell ⟨w.heap.size+1+1,2,none⟩ (.int .i64 zp)).setCell ⟨w.heap.size+1+1,3,none⟩ (.int .i64 zi)=V at *
  have k0:=qd bs 0;have k1:=qd bs 1;have k2:=qd bs 2;have k3:=qd bs 3
  refine bodyPost_ret (v:=.tuple #[lnVv ⟨zt,zo,zp,zi⟩,.bool true]) (by simp [results,Tryz.results185,go_sem,k0,k1,k2,k3];try rfl) rfl ⟨rfl,?_⟩
  exact HFC.out.step fs (fun k hk=>.inr (by simp at hk;omega))
end
section
open Go.RowKit Go.Shelf Go.Lib
set_option maxRecDepth 100000 in
set_option maxHeartbeats 4000000 in
theorem LFAt_c (a:Option Addr) (cap:Nat) (ls:List Le) (t:Int) (w:World) (hok:LifeOk ls) (h:Sl w (.slice a ls.length cap) ls.length (ls.flatMap leC)) (hy:∀ g,(Value.slice a ls.length cap).ownBlock=some g→g < w.heap.size) (ht:inB t 0 10000000=true) :
  Calls Tryz.prog 159 #[.slice a ls.length cap,.int .i64 t] w fun e w'=>e=.returned (.tuple #[lnVv (lnAt ls (kAt ls t)),.int .i64 0])∧Fr [] w w':=by
 have CA:=qj fun W (hf:Fr [] w W)=>lfat_c a cap ls t W hok (h.same hf) (fun g hg=>Nat.lt_of_lt_of_le (hy g hg) hf.size) ht
 generalize lnAt ls (kAt ls t)=z at *
 obtain ⟨zt,zo,zp,zi⟩:=z
 simp only [lnVv] at CA
 generalize ls.length=n at *
 have FA:=Fr.alloc [] w (.cells #[.int .i64 0,.int .i64 0,.int .i64 0,.int .i64 0] 131)
 have BA:=qm w (.cells #[.int .i64 0,.int .i64 0,.int .i64 0,.int .i64 0] 131)
 clear hok h hy ht
 go_enter Tryz.func159,Tryz.ntmps159
 go_wp2_with fail
 refine (CA.out _ FA).mono ?_
 rintro e w2 ⟨rfl,f2⟩
 have hr:=f2.keep BA (by simp)
 have hf3:=Fr.alloc [] w2 (.cells #[.int .i64 zt,.int .i64 zo,.int .i64 zp,.int .i64 zi] 131)
 have HR:=qj (hf3.keep hr (by simp))
 have HF:=qj ((FA.trans f2).trans hf3)
 have HB:=qj (qm w2 (.cells #[.int .i64 zt,.int .i64 zo,.int .i64 zp,.int .i64 zi] 131))
 obtain ⟨w3,hw3⟩:∃ w3,w2.alloc (.cells #[.int .i64 zt,.int .i64 zo,.int .i64 zp,.int .i64 zi] 131)=w3:=⟨_,rfl⟩
 rw [hw3] at HR HF HB
 have HW:=qj hw3
 clear CA FA BA f2 hr hf3 hw3
 go_upto_region 2 with fail
 rw [HW.out]
 clear HW
 have d0:=qd HB.out 0;have d1:=qd HB.out 1;have d2:=qd HB.out 2;have d3:=qd HB.out 3
 have r0:=qd HR.out 0;have r1:=qd HR.out 1;have r2:=qd HR.out 2;have r3:=qd HR.out 3
 have g0:=ql HR.out 0;have g1:=ql HR.out 1;have g2:=ql HR.out 2;have g3:=ql HR.out 3
 go_wp2_with fail
 obtain ⟨fs,bs⟩:=set4 HR.out (.int .i64 zt) (.int .i64 zo) (.int .i64 zp) (.int .i64 zi)
 generalize (((World.setCell _ ⟨w.heap.size,0,none⟩ (.int .i64 zt)).setCell ⟨w.heap.size,1,none⟩ (.int .i64 zo)).setCell ⟨w.heap.size,2,none⟩ (.int .i64 zp)).setCell ⟨w.heap.size,3,none⟩ (.int .i64 zi)=V at *
 have k0:=qd bs 0;have k1:=qd bs 1;have k2:=qd bs 2;have k3:=qd bs 3
 refine bodyPost_ret (v:=.tuple #[lnVv ⟨zt,zo,zp,zi⟩,.int .i64 0]) (by simp [results,Tryz.results159,go_sem,k0,k1,k2,k3];try rfl) rfl ⟨rfl,?_⟩
 exact HF.out.step fs (fun k hk=>.inr (by simp at hk;omega))
end
section
open Go.RowKit Go.Shelf Go.Lib
def poOk (c:Ch) (p:Po):Prop:=p.n=c.num∧(rulB c.ra c.rc c.rs c.rr && cmB p.n p.f p.t p.h p.a && decide (p.evs.length≤20) && evsGo p.a p.evs)=true
structure ChOk (c:Ch):Prop where
 life:LifeOk c.life
 num:inB c.num 0 99999999=true
 first:inB c.first 0 7=true
 len:c.ports.length≤8
 ports:∀ p,p∈c.ports→poOk c p
 asked:c.ports.Pairwise (fun x y=>x.a≤y.a)
def lastA (l:List Po):Int:=(l.getLast?.map (·.a)).getD 0
set_option maxRecDepth 100000 in
set_option maxHeartbeats 8000000 in
theorem CHValid_c (c:Ch) (lv pv:Value) (ps:List Pv) (w0 w:World) (hin:ChIn w0 w c lv pv ps) (hok:ChOk c) :
  Calls Tryz.prog 103 #[chV c lv pv] w fun e w'=>e=.returned (.bool true)∧Fr [] w w':=by
 obtain ⟨la,lc,rfl⟩:=hin.life.val
 obtain ⟨pa,pc,rfl⟩:=hin.ports.row.val
 have CR:=qj fun W (hf:Fr [] w W)=>lfRun_c la lc c.life W hok.life (hin.life.sl.same hf) (fun g hg=>Nat.lt_of_lt_of_le (hin.life.lt g hg) hf.size)
 have CI:=qj fun (n lo hi:Int) W=>chIsIn_c n lo hi W
 have H1:=qj hok.num;have H2:=qj hok.first
 have hpl:ps.length=c.ports.length:=by rw [← hin.eq,List.length_map]
 have hp8:ps.length≤8:=by have:=hok.len;omega
 have HPS:=qj fun W (hf:Fr [] w W)=>hin.ports.row.sl.same hf
 have HEV:=qj fun x (hx:x∈ps) W (hf:Fr [] w W)=>(hin.ports.evs x hx).sl.same hf
 have HOK:=qj hok;have HEQ:=qj hin.eq
 obtain ⟨num,first,ra,rc,rs,rr,life,ports⟩:=c
 simp only at CR H1 H2 HEQ hpl ⊢
 generalize lnAt life life.length=z at *
 obtain ⟨zt,zo,zp,zi⟩:=z
 simp only [lnVv] at CR
 generalize life.length=nl at *
 have FA:=qj (Fr.alloc [] w (.cells (chC num first ra rc rs rr (.slice la nl lc) (.slice pa ps.length pc)).toArray 66))
 have BA:=qj (qm w (.cells (chC num first ra rc rs rr (.slice la nl lc) (.slice pa ps.length pc)).toArray 66))
 have HPL:=qj hpl
 clear hin hok hpl
 go_enter Tryz.func103,Tryz.ntmps103
 go_wp2_with fail
 refine (CR.out _ FA.out).mono ?_
 rintro e w2 ⟨rfl,f2⟩
 have f3:=f2.trans (Fr.alloc [] w2 (.cells #[.int .i64 zt,.int .i64 zo,.int .i64 zp,.int .i64 zi] 131))
 have HB3:=qj (f3.keep BA.out (by simp))
 have HF3:=qj (FA.out.trans f3)
 obtain ⟨w3,hw3⟩:∃ w3,w2.alloc (.cells #[.int .i64 zt,.int .i64 zo,.int .i64 zp,.int .i64 zi] 131)=w3:=⟨_,rfl⟩
 rw [hw3] at HB3 HF3
 have HW:=qj hw3
 clear CR FA BA f2 f3 hw3
 go_upto_region 2 with fail
 rw [HW.out]
 clear HW
 have x0:w3.cell? ⟨w.heap.size,0,none⟩=some (.int .i64 num):=qd HB3.out 0
 have x1:w3.cell? ⟨w.heap.size,1,none⟩=some (.int .i64 first):=qd HB3.out 1
 have x7:w3.cell? ⟨w.heap.size,7,none⟩=some (.slice pa ps.length pc):=qd HB3.out 7
 go_wp2_with fail
 refine (CI.out _ _ _ _).mono ?_
 rintro e wz ⟨rfl,rfl⟩
 rw [H1.out]
 go_wp2_with fail
 refine (CI.out _ _ _ _).mono ?_
 rintro e wz ⟨rfl,rfl⟩
 rw [H2.out]
 have h8:((8:Int) < (ps.length:Int))=False:=by simp;omega
 have HPO:Hid (∀ i (h:i < ps.length),poOk ⟨num,first,ra,rc,rs,rr,life,ports⟩ ps[i].p):=qj fun i h=>HOK.out.ports _ (by
  show ps[i].p∈ports
  rw [← HEQ.out];exact List.mem_map.2 ⟨_,List.getElem_mem h,rfl⟩)
 have HAS:Hid (∀ i (h:i+1 < ps.length),(ps[i]'(by omega)).p.a≤ps[i+1].p.a):=qj fun i h=>by
  have hp:=HOK.out.asked
  simp only at hp
  rw [← HEQ.out] at hp
  have:=(List.pairwise_iff_getElem.1 hp) i (i+1) (by simp;omega) (by simpa using h) (by omega)
  simpa using this
 go_wp2_with fail
 clear x0 x1 x7 h8 H1 H2 CI HOK HEQ HPL
 go_loopw [6,39] (fun lv iv wr=>∃ (i:Nat) (last:Int),iv=.int .i64 i∧lv=.int .i64 last∧i≤ps.length∧Hid (∀ h:i < ps.length,last≤ps[i].p.a)∧Hid (Fr [] w wr)∧Hid (wr.heap[w.heap.size]?=some (.cells (chC num first ra rc rs rr (.slice la nl lc) (.slice pa ps.length pc)).toArray 66 (0,0)))) (fun _ iv _=>ps.length - (RowKit.intOf iv).toNat)
 case atStart =>
  refine ⟨0,0,rfl,rfl,Nat.zero_le _,qj fun h=>?_,HF3,HB3⟩
  have:=(HPO.out 0 h).2
  simp only [Bool.and_eq_true,cmB,inB_iff] at this
  omega
 case round =>
  clear HF3 HB3
  obtain ⟨i,last,rfl,rfl,hi,HLA,HF,HC⟩:=hrel
  by_cases hlt:i < ps.length
  ·obtain ⟨pb,po,ha,hc⟩:=(HPS.out wr HF.out).at_ (by omega)
   have hc':∀ j u,j < 7→(poX ps[i])[j]?=some u→wr.cell? ⟨pb,po+i*7+j,none⟩=some u:=fun j u hj hu=>by
    rw [Nat.add_assoc]
    exact hc _ u (by rw [flat_get (enc:=poX) (k:=7) poX_len _ i hlt j hj];exact hu)
   have e0:=hc' 0 _ (by omega) rfl;have e1:=hc' 1 _ (by omega) rfl;have e2:=hc' 2 _ (by omega) rfl;have e3:=hc' 3 _ (by omega) rfl;have e4:=hc' 4 _ (by omega) rfl;have e5:=hc' 5 _ (by omega) rfl;have e6:=hc' 6 _ (by omega) rfl
   have hla:=HLA.out hlt
   obtain ⟨hn,hv⟩:=HPO.out i hlt
   have CV:=qj fun W (hf:Fr [] w W)=>clValid_c ra rc rs rr ps[i].p.n ps[i].p.f ps[i].p.t ps[i].p.h ps[i].p.a ps[i].p.b ps[i].v ps[i].p.evs W (HEV.out _ (List.getElem_mem hlt) W hf) (by
    simp only [Bool.and_eq_true,decide_eq_true_eq] at hv;omega)
   have HNX:Hid (∀ h:i+1 < ps.length,ps[i].p.a≤ps[i+1].p.a):=qj fun h=>HAS.out i h
   rw [hv] at CV
   simp only at hn
   rw [hn] at CV e0
   clear hc hc' hv hn HLA
   simp only [Pv.v] at CV e6
   subst ha
   generalize ps[i].p.a=ka at *
   generalize ps[i].p.f=kf at *
   generalize ps[i].p.t=kt at *
   generalize ps[i].p.h=kh at *
   generalize ps[i].p.b=kb at *
   generalize ps[i].p.evs.length=ke at *
   generalize ps[i].a=kA at *
   generalize ps[i].c=kC at *
   have c0:wr.cell? ⟨w.heap.size,0,none⟩=some (.int .i64 num):=qd HC.out 0
   have c2:wr.cell? ⟨w.heap.size,2,none⟩=some (.int .i64 ra):=qd HC.out 2
   have c3:wr.cell? ⟨w.heap.size,3,none⟩=some (.int .i64 rc):=qd HC.out 3
   have c4:wr.cell? ⟨w.heap.size,4,none⟩=some (.int .i64 rs):=qd HC.out 4
   have c5:wr.cell? ⟨w.heap.size,5,none⟩=some (.int .i64 rr):=qd HC.out 5
   have hwl:=blk_lt HC.out
   simp only [Nat.add_zero] at e0
   have FA:=qj (Fr.alloc [] wr (.cells #[.int .i64 num,.int .i64 kf,.int .i64 kt,.int .i64 kh,.int .i64 ka,.bool kb,.slice kA ke kC] 79))
   have BA:=qj (qm wr (.cells #[.int .i64 num,.int .i64 kf,.int .i64 kt,.int .i64 kh,.int .i64 ka,.bool kb,.slice kA ke kC] 79))
   go_wp2_with fail
   refine (CV.out _ (HF.out.trans FA.out)).mono ?_
   rintro e w5 ⟨rfl,f5⟩
   have HB5:=f5.keep BA.out (by simp)
   have HC5:=qj (f5.keep (FA.out.keep HC.out (by simp)) (by simp))
   have HF5:=qj ((HF.out.trans FA.out).trans f5)
   clear f5 FA BA CV HF HC e0 e1 e2 e3 e4 e5 e6 c0 c2 c3 c4 c5
   have e4:w5.cell? ⟨wr.heap.size,4,none⟩=some (.int .i64 ka):=qd HB5 4
   clear HB5
   have hng:¬ ka < last:=by omega
   go_wp2_with fail
   go_roundw
   case rel=>exact ⟨i+1,ka,by go_num,rfl,hlt,HNX,HF5,HC5⟩
   case measure=>simp [RowKit.intOf];omega
  ·obtain rfl:i=ps.length:=by omega
   go_wp2_with fail
   go_ret
   exact ⟨rfl,HF.out⟩
end
section
open Go.RowKit Go.Lib
set_option maxRecDepth 100000 in
theorem CADerive_none (s:Su) (bv kv v:Value) (num:Int) (w:World) (hs:SuAt w bv kv s) (hok:suOk s=true) (hf:findBk s.bks num=none) :
  Calls Tryz.prog 22 #[suV s bv kv,v,.int .i64 num] w fun e w'=>e=.returned (.tuple #[.agg (chC 0 0 0 0 0 0 nilS nilS).toArray,.int .i64 430])∧Fr [] w w':=by
 obtain ⟨ad,cap,rfl⟩:=hs.bks.val
 obtain ⟨kd,kap,rfl⟩:=hs.keys.val
 have CV:=qj fun W (hF:Fr [] w W)=>caValid_c s (.slice ad s.bks.length cap) (.slice kd s.keys.length kap) W (hs.same hF)
 rw [hok] at CV
 have CB:=qj fun W (hF:Fr [] w W)=>bkFind_c (.slice ad s.bks.length cap) s.bks num W (hs.bks.same hF) hs.bn
 rw [hf] at CB
 clear hs hok hf
 obtain ⟨ow,bl,ra,rc,rs,rr,kl⟩:=s
 simp only at *
 obtain ⟨F2,B1,B2⟩:=two_more w (.cells #[.int .i64 ow,.slice ad bl.length cap,.int .i64 ra,.int .i64 rc,.int .i64 rs,.int .i64 rr,.slice kd kl.length kap] 48) (.cells #[.int .i64 0,.int .i64 0,.int .i64 0,.int .i64 0,.int .i64 0,.int .i64 0,.slice none 0 0,.slice none 0 0] 66)
 have HF2:=qj F2
 have HB:=qj (And.intro B1 B2)
 clear F2 B1 B2
 go_enter Tryz.func22,Tryz.ntmps22
 go_wp2_with fail
 refine (CV.out _ HF2.out).mono ?_
 rintro e w3 ⟨rfl,f3⟩
 have HF3:=qj (HF2.out.trans f3)
 have HB3:=qj (And.intro (f3.keep HB.out.1 (by simp)) (f3.keep HB.out.2 (by simp)))
 have s1:=qd HB3.out.1 1;have s2:=qd HB3.out.1 2;have s3:=qd HB3.out.1 3;have s4:=qd HB3.out.1 4;have s5:=qd HB3.out.1 5
 clear f3 HB HF2 CV
 go_wp2_with fail
 refine (CB.out _ HF3.out).mono ?_
 rintro e w4 ⟨rfl,f4⟩
 have HF4:=qj (HF3.out.trans f4)
 have HB4:=qj (f4.keep HB3.out.2 (by simp))
 clear s1 s2 s3 s4 s5 f4 HB3 HF3 CB
 unfold findV
 have r0:=qd HB4.out 0;have r1:=qd HB4.out 1;have r2:=qd HB4.out 2;have r3:=qd HB4.out 3
 have r4:=qd HB4.out 4;have r5:=qd HB4.out 5;have r6:=qd HB4.out 6;have r7:=qd HB4.out 7
 have g0:=ql HB4.out 0;have g1:=ql HB4.out 1;have g2:=ql HB4.out 2;have g3:=ql HB4.out 3
 have g4:=ql HB4.out 4;have g5:=ql HB4.out 5;have g6:=ql HB4.out 6;have g7:=ql HB4.out 7
 go_wp2_with fail
 have QS:((((((((w4.setCell ⟨w.heap.size+1,0,none⟩ (.int .i64 0)).setCell ⟨w.heap.size+1,1,none⟩ (.int .i64 0)).setCell ⟨w.heap.size+1,2,none⟩ (.int .i64 0)).setCell ⟨w.heap.size+1,3,none⟩ (.int .i64 0)).setCell ⟨w.heap.size+1,4,none⟩ (.int .i64 0)).setCell ⟨w.heap.size+1,5,none⟩ (.int .i64 0)).setCell ⟨w.heap.size+1,6,none⟩ (.slice none 0 0)).setCell ⟨w.heap.size+1,7,none⟩ (.slice none 0 0)).heap[w.heap.size+1]?=some (.cells (chC 0 0 0 0 0 0 nilS nilS).toArray 66 (0,0)):=(qs (i:=7) (.slice none 0 0) (qs (i:=6) (.slice none 0 0) (qs (i:=5) (.int .i64 0) (qs (i:=4) (.int .i64 0) (qs (i:=3) (.int .i64 0) (qs (i:=2) (.int .i64 0) (qs (i:=1) (.int .i64 0) (qs (i:=0) (.int .i64 0) HB4.out))))))))
 have FS:Fr [w.heap.size+1] w4 ((((((((w4.setCell ⟨w.heap.size+1,0,none⟩ (.int .i64 0)).setCell ⟨w.heap.size+1,1,none⟩ (.int .i64 0)).setCell ⟨w.heap.size+1,2,none⟩ (.int .i64 0)).setCell ⟨w.heap.size+1,3,none⟩ (.int .i64 0)).setCell ⟨w.heap.size+1,4,none⟩ (.int .i64 0)).setCell ⟨w.heap.size+1,5,none⟩ (.int .i64 0)).setCell ⟨w.heap.size+1,6,none⟩ (.slice none 0 0)).setCell ⟨w.heap.size+1,7,none⟩ (.slice none 0 0)):=((((((((Fr.setCell (fp:=[w.heap.size+1]) _ _ (by simp)).trans (Fr.setCell (fp:=[w.heap.size+1]) _ _ (by simp))).trans (Fr.setCell (fp:=[w.heap.size+1]) _ _ (by simp))).trans (Fr.setCell (fp:=[w.heap.size+1]) _ _ (by simp))).trans (Fr.setCell (fp:=[w.heap.size+1]) _ _ (by simp))).trans (Fr.setCell (fp:=[w.heap.size+1]) _ _ (by simp))).trans (Fr.setCell (fp:=[w.heap.size+1]) _ _ (by simp))).trans (Fr.setCell (fp:=[w.heap.size+1]) _ _ (by simp)))
 generalize ((((((((w4.setCell ⟨w.heap.size+1,0,none⟩ (.int .i64 0)).setCell ⟨w.heap.size+1,1,none⟩ (.int .i64 0)).setCell ⟨w.heap.size+1,2,none⟩ (.int .i64 0)).setCell ⟨w.heap.size+1,3,none⟩ (.int .i64 0)).setCell ⟨w.heap.size+1,4,none⟩ (.int .i64 0)).setCell ⟨w.heap.size+1,5,none⟩ (.int .i64 0)).setCell ⟨w.heap.size+1,6,none⟩ (.slice none 0 0)).setCell ⟨w.heap.size+1,7,none⟩ (.slice none 0 0))=V at *
 refine bodyPost_ret (de_res (w.heap.size+1) 0 0 0 0 0 0 nilS nilS 430 QS rfl rfl) rfl ⟨rfl,?_⟩
 exact HF4.out.step FS (fun k hk=>.inr (by simp at hk;omega))
end
section
open Go.RowKit Go.Lib
set_option maxRecDepth 100000 in
set_option maxHeartbeats 1000000 in
theorem indexInt_c (v:Value) (zs:List Int) (x:Int) (w:World) (h:Sl w v zs.length (zs.map (Value.int .i64))) :
  Calls Tryz.prog 158 #[v,.int .i64 x] w fun e w'=>e=.returned (.int .i64 (idxN (fun k=>x == zs.getD k 0) zs.length))∧w=w':=by
 obtain ⟨a,cap,rfl⟩:=h.val
 have hlen:=h.len
 have HS:=qj h;clear h
 go_enter Tryz.func158,Tryz.ntmps158
 go_wp2_with fail
 go_loopw [8] (fun i wr=>∃ k:Nat,k≤zs.length∧i=.int .i64 k∧w=wr∧Hid (∀ j,j < k→(x == zs.getD j 0)=false)) (fun i _=>zs.length - (RowKit.intOf i).toNat)
 case atStart=>exact ⟨0,Nat.zero_le _,rfl,rfl,qj fun j h=>by omega⟩
 case round =>
  obtain ⟨k,hk,rfl,rfl,HP⟩:=hrel
  by_cases hlt:k < zs.length
  ·obtain ⟨b,off,ha,hc⟩:=HS.out.at_ (by omega)
   subst ha
   have c0:=hc k (.int .i64 (zs.getD k 0)) (by simp [hlt])
   clear hc
   cases hb:(x == zs.getD k 0) with
   | true =>
    have HI:Hid (idxN (fun k=>x == zs.getD k 0) zs.length=k):=qj (idxN_some hlt hb HP.out)
    obtain ⟨y,hy⟩:∃ y,y=zs.getD k 0:=⟨_,rfl⟩
    rw [← hy] at c0 hb
    clear hy
    go_wp2_with fail
    go_ret
    exact ⟨by rw [HI.out];rfl,rfl⟩
   | false =>
    have Hb0:=qj hb
    have HN:Hid (∀ j,j < k+1→(x == zs.getD j 0)=false):=qj fun j h=>by
     rcases Nat.lt_or_ge j k with h1 | h1
     ·exact HP.out j h1
     ·obtain rfl:j=k:=by omega
      exact Hb0.out
    clear Hb0
    obtain ⟨y,hy⟩:∃ y,y=zs.getD k 0:=⟨_,rfl⟩
    rw [← hy] at c0 hb
    clear hy
    go_wp2_with fail
    go_roundw
    case rel=>exact ⟨k+1,by omega,by go_num,by first | rfl | trivial,HN⟩
    case measure=>simp [RowKit.intOf];omega
  ·obtain rfl:k=zs.length:=by omega
   go_wp2_with fail
   go_ret
   exact ⟨by rw [idxN_none HP.out];rfl,rfl⟩
end
section
open Go.RowKit Go.Lib
theorem wp_ins {α:Type} [DecidableEq α] {enc:α→Value} {P:Program} {k:TypeId} {b:Nat} {l:List (α × Value)} {o:Oper} {a:Act} {W:World} {K:Act→World→Prop} {Q:Exit→Act→World→Prop} (t e:TypeId) (x i y:Operand) (key:α) (ho:o.op=.insert t x i y) (hx:a.eval x=.map (some b)) (hi:a.eval i=enc key)
  (h:MpAt enc W b l) (KD:KeyD P k enc) (ht:P.underlying t=some (.map k e)) (hd:o.dst=none) (hK:∀ W',Fr [b] W W'→W'.heap.size=W.heap.size→MpAt enc W' b (setA l key (a.eval y))→K a W'):o.wp P a W K Q:=by
 obtain ⟨W',h1,h2,h3,h4⟩:=h.upd KD ht key (a.eval y)
 unfold Oper.wp execOp
 simp only [ho,hx,hi,Sem.run_bind,Sem.run_pure,Result.andThen_ok,h1]
 have:=hK W' h2 h3 h4
 show K (a.put o.dst undef) W'
 rw [hd]
 exact this
def duesL:List (Int × Value):=[(1,.agg #[.func (.func 222) #[] #[],.int .i64 3]),(2,.agg #[.func (.func 223) #[] #[],.int .i64 3]),(3,.agg #[.func (.func 224) #[] #[],.int .i64 4]),(4,.agg #[.func (.func 225) #[] #[],.int .i64 5])]
set_option maxRecDepth 100000 in
theorem dues_c (w:World):Calls Tryz.prog 210 #[] w fun e w'=>∃ b,e=.returned (.map (some b))∧MpAt intE w' b duesL∧Fr [] w w'∧w.heap.size≤b:=by
 have hmm:=@run_makeMap Tryz.prog
 go_enter Tryz.func210,Tryz.ntmps210
 have HM:=qj (mpAt_new (enc:=intE) w)
 have HF:=qj (Fr.alloc [] w (.map #[] 0))
 go_wp2_with (first | ((with_reducible refine wpList_of_wp (o:=⟨none,.insert _ _ _ _,_,_,_,_⟩) rfl (fun K hK=>?_));apply stopD;case _other=>exact trivial))
 (refine stopD ?_ ?_;rotate_left;exact trivial)
 refine wp_ins 340 351 (.tmp 1) (.const (.int .i64 1)) (.tmp 2) (1:Int) rfl rfl rfl HM.out keyInt Tryz.underlying340 rfl (fun W f z h=>hK _ _ ?_)
 have HM:=qj h;have HF:=qj (HF.out.step f (fun k hk=>.inr (by simp at hk;omega)))
 clear hK K f z h
 go_wp2_with (first | ((with_reducible refine wpList_of_wp (o:=⟨none,.insert _ _ _ _,_,_,_,_⟩) rfl (fun K hK=>?_));apply stopD;case _other=>exact trivial))
 (refine stopD ?_ ?_;rotate_left;exact trivial)
 refine wp_ins 340 351 (.tmp 1) (.const (.int .i64 2)) (.tmp 3) (2:Int) rfl rfl rfl HM.out keyInt Tryz.underlying340 rfl (fun W f z h=>hK _ _ ?_)
 have HM:=qj h;have HF:=qj (HF.out.step f (fun k hk=>.inr (by simp at hk;omega)))
 clear hK K f z h
 go_wp2_with (first | ((with_reducible refine wpList_of_wp (o:=⟨none,.insert _ _ _ _,_,_,_,_⟩) rfl (fun K hK=>?_));apply stopD;case _other=>exact trivial))
 (refine stopD ?_ ?_;rotate_left;exact trivial)
 refine wp_ins 340 351 (.tmp 1) (.const (.int .i64 3)) (.tmp 4) (3:Int) rfl rfl rfl HM.out keyInt Tryz.underlying340 rfl (fun W f z h=>hK _ _ ?_)
 have HM:=qj h;have HF:=qj (HF.out.step f (fun k hk=>.inr (by simp at hk;omega)))
 clear hK K f z h
 go_wp2_with (first | ((with_reducible refine wpList_of_wp (o:=⟨none,.insert _ _ _ _,_,_,_,_⟩) rfl (fun K hK=>?_));apply stopD;case _other=>exact trivial))
 (refine stopD ?_ ?_;rotate_left;exact trivial)
 refine wp_ins 340 351 (.tmp 1) (.const (.int .i64 4)) (.tmp 5) (4:Int) rfl rfl rfl HM.out keyInt Tryz.underlying340 rfl (fun W f z h=>hK _ _ ?_)
 have HM:=qj h;have HF:=qj (HF.out.step f (fun k hk=>.inr (by simp at hk;omega)))
 clear hK K f z h
 clear hmm
 go_wp2_with fail
 go_ret
 exact ⟨_,rfl,HM.out,HF.out,Nat.le_refl _⟩
end
section
open Go.RowKit Go.Lib
open Go.MapKept
def csE (a:Int × Int):Value:=.agg #[.int .i64 a.1,.int .i64 a.2]
theorem csEq_run (a b:Int × Int) (w:World):(Op.equal 357 (csE a) (csE b)).run Tryz.prog w=.ok (decide (a=b)) w:=by
 obtain ⟨a1,a2⟩:=a
 obtain ⟨b1,b2⟩:=b
 show (Op.equalIn (9999+1) 357 (csE _) (csE _)).run Tryz.prog w=_
 rw [csE,csE,run_equalIn_agg w 9999 357 _ _ (by kernel_rfl) (by kernel_rfl)]
 go_simp
 simp only [ite_ok]
 congr 1
 rw [Bool.eq_iff_iff]
 simp only [Bool.and_eq_true,decide_eq_true_eq,and_true]
theorem csCheck_run (em:Bool) (a:Int × Int) (w:World):(Instr.checkKey em 10000 357 (csE a)).run Tryz.prog w=.ok () w:=by
 rw [csE,Instr.checkKey]
 go_simp
 simp only [ckI_run,Result.andThen_ok]
theorem csStays_run (a:Int × Int) (w:World):(Instr.keyThatStays (csE a) (csE a)).run Tryz.prog w=.ok (csE a) w:=by
 have:Instr.sameBits 10000 (csE a) (csE a)=true:=by
  unfold csE
  show Instr.sameBits (9999+1) (.agg _) (.agg _)=true
  simp [Instr.sameBits]
 simp [Instr.keyThatStays,this]
theorem csE_inj (a b:Int × Int) (h:csE a=csE b):a=b:=by
 obtain ⟨a1,a2⟩:=a;obtain ⟨b1,b2⟩:=b
 simp only [csE,Value.agg.injEq,Array.mk.injEq,List.cons.injEq,Value.int.injEq,true_and,and_true] at h
 simp only [Prod.mk.injEq];exact h
theorem csFind_run (w:World) (a:Int × Int):∀ (es:List MapEntry) (i:Nat),(∀ e∈es,∃ b:Int × Int,e.key=csE b) →
  ((Instr.findAsking 357 (csE a) es i).run Tryz.prog w=.ok none w∧∀ e∈es,e.key≠csE a)∨∃ j e,(Instr.findAsking 357 (csE a) es i).run Tryz.prog w=.ok (some (i+j,e.val)) w∧es[j]?=some e∧e.key=csE a
 | [],i,_=>.inl ⟨by simp [Instr.findAsking],by simp⟩
 | e :: es,i,h=>by
  obtain ⟨b,hb⟩:=h e List.mem_cons_self
  by_cases hab:a=b
  ·subst hab
   exact .inr ⟨0,e,by simp [Instr.findAsking,hb,csEq_run],rfl,hb⟩
  ·have h1:(Instr.findAsking 357 (csE a) (e :: es) i).run Tryz.prog w=(Instr.findAsking 357 (csE a) es (i+1)).run Tryz.prog w:=by
    simp [Instr.findAsking,hb,csEq_run,hab]
   rw [h1]
   rcases csFind_run w a es (i+1) (fun x hx=>h x (List.mem_cons_of_mem _ hx)) with ⟨h2,h3⟩ | ⟨j,x,h2,h3,h4⟩
   ·exact .inl ⟨h2,fun x hx=>by
     rcases List.mem_cons.1 hx with rfl | hx
     ·rw [hb];exact fun q=>hab (csE_inj _ _ q).symm
     ·exact h3 x hx⟩
   ·exact .inr ⟨j+1,x,by rw [h2,show i+1+j=i+(j+1) from by omega],by simpa using h3,h4⟩
theorem keyCs:KeyD Tryz.prog 357 csE where
 check w em a:=csCheck_run em a w
 find w a es h:=by
  cases es with
  | nil=>exact .inl ⟨by rw [Instr.findKey,Sem.run_bind,run_underlying Tryz.underlying357,Result.andThen_ok];rfl,by simp⟩
  | cons e es =>
   have h1:(Instr.findKey 357 (csE a) (e :: es)).run Tryz.prog w=(Instr.findAsking 357 (csE a) (e :: es) 0).run Tryz.prog w:=by
    obtain ⟨b,hb⟩:=h e List.mem_cons_self
    rw [Instr.findKey,Sem.run_bind,run_underlying Tryz.underlying357,Result.andThen_ok];rfl
   rw [h1]
   rcases csFind_run w a (e :: es) 0 h with ⟨h2,h3⟩ | ⟨j,x,h2,h3,h4⟩
   ·exact .inl ⟨h2,h3⟩
   ·exact .inr ⟨j,x,by simpa using h2,h3,h4⟩
 stays w a:=csStays_run a w
 inj:=csE_inj
end
section
open Go.RowKit Go.Lib
set_option maxRecDepth 100000 in
theorem clAnswer_c (a c s r:Int) (w:World):Calls Tryz.prog 222 #[.agg #[.int .i64 a,.int .i64 c,.int .i64 s,.int .i64 r]] w fun e w'=>e=.returned (.int .i64 a)∧Fr [] w w':=by
 have HF:=qj (Fr.alloc [] w (.cells #[.int .i64 a,.int .i64 c,.int .i64 s,.int .i64 r] 203))
 go_enter Tryz.func222,Tryz.ntmps222
 go_wp2_with fail
 go_ret
 exact ⟨rfl,HF.out⟩
set_option maxRecDepth 100000 in
theorem clSettle_c (a c s r:Int) (w:World):Calls Tryz.prog 223 #[.agg #[.int .i64 a,.int .i64 c,.int .i64 s,.int .i64 r]] w fun e w'=>e=.returned (.int .i64 s)∧Fr [] w w':=by
 have HF:=qj (Fr.alloc [] w (.cells #[.int .i64 a,.int .i64 c,.int .i64 s,.int .i64 r] 203))
 go_enter Tryz.func223,Tryz.ntmps223
 go_wp2_with fail
 go_ret
 exact ⟨rfl,HF.out⟩
set_option maxRecDepth 100000 in
theorem clCooling_c (a c s r:Int) (w:World):Calls Tryz.prog 224 #[.agg #[.int .i64 a,.int .i64 c,.int .i64 s,.int .i64 r]] w fun e w'=>e=.returned (.int .i64 c)∧Fr [] w w':=by
 have HF:=qj (Fr.alloc [] w (.cells #[.int .i64 a,.int .i64 c,.int .i64 s,.int .i64 r] 203))
 go_enter Tryz.func224,Tryz.ntmps224
 go_wp2_with fail
 go_ret
 exact ⟨rfl,HF.out⟩
set_option maxRecDepth 100000 in
theorem clReverse_c (a c s r:Int) (w:World):Calls Tryz.prog 225 #[.agg #[.int .i64 a,.int .i64 c,.int .i64 s,.int .i64 r]] w fun e w'=>e=.returned (.int .i64 r)∧Fr [] w w':=by
 have HF:=qj (Fr.alloc [] w (.cells #[.int .i64 a,.int .i64 c,.int .i64 s,.int .i64 r] 203))
 go_enter Tryz.func225,Tryz.ntmps225
 go_wp2_with fail
 go_ret
 exact ⟨rfl,HF.out⟩
end
section
structure Rl where
 a:Int
 c:Int
 s:Int
 r:Int
def Rl.ok (r:Rl):Prop:=(1≤r.a∧r.a≤1000000)∧(1≤r.c∧r.c≤1000000)∧(1≤r.s∧r.s≤1000000)∧(1≤r.r∧r.r≤1000000)
def nxS (r:Rl) (x:Int × Int):Int:=if x.1=1 then x.2+r.a else if x.1=2 then x.2+r.s else if x.1=3 then x.2+r.c else if x.1=4 then x.2+r.r else -1
def duS (s:Int):Int:=if s=3 then 4 else if s=4 then 5 else 3
def rkS (s:Int):Nat:=if s=1 then 3 else if s=2 then 3 else if s=3 then 2 else if s=4 then 1 else 0
def alo (r:Rl) (u:Int):Nat→Int × Int→List (Int × Int)
 | 0,_=>[]
 | k+1,x=>if 0≤nxS r x∧nxS r x≤u then (duS x.1,nxS r x) :: alo r u k (duS x.1,nxS r x) else []
theorem alo_none {r:Rl} {u:Int} {x:Int × Int} (h:¬ (0≤nxS r x∧nxS r x≤u)) (k:Nat):alo r u k x=[]:=by
 cases k with
 | zero=>rfl
 | succ k=>rw [alo,if_neg h]
theorem nx_rk {r:Rl} {x:Int × Int} (h:0≤nxS r x):x.1=1∨x.1=2∨x.1=3∨x.1=4:=by
 unfold nxS at h
 repeat' split at h
 all_goals first | omega | skip
theorem rk_du {s:Int} (h:s=1∨s=2∨s=3∨s=4):rkS (duS s)+1≤rkS s:=by
 rcases h with rfl | rfl | rfl | rfl <;> decide
theorem rk_le (s:Int):rkS s≤3:=by
 unfold rkS
 repeat' split
 all_goals omega
theorem alo_step {r:Rl} {u:Int} {x:Int × Int} {k:Nat} (h:0≤nxS r x∧nxS r x≤u) (hk:rkS x.1≤k):∃ j,k=j+1∧rkS (duS x.1)≤j∧alo r u k x=(duS x.1,nxS r x) :: alo r u j (duS x.1,nxS r x):=by
 have h1:=rk_du (nx_rk h.1)
 obtain ⟨j,rfl⟩:∃ j,k=j+1:=⟨k - 1,by omega⟩
 exact ⟨j,rfl,by omega,by rw [alo,if_pos h]⟩
theorem nx_bd {r:Rl} (hr:r.ok) {x:Int × Int} (h:0≤nxS r x):x.2+1≤nxS r x∧nxS r x≤x.2+1000000:=by
 obtain ⟨h1,h2,h3,h4⟩:=hr
 unfold nxS at h ⊢
 repeat' split at h
 all_goals (first | (simp only [*,if_true,if_false];try omega) | skip)
 all_goals (first | omega | (simp_all;try omega))
def effL:List ((Int × Int) × Int):=[((1,1),3),((2,1),2),((3,2),3),((4,2),6),((5,1),7),((5,2),7),((5,3),7),((6,4),8)]
def aftM (b:Bool) (k w s:Int):Int × Bool :=
 bif w == 1 then (bif k == 2 then 6 else (getA effL (k,s)).getD 0,(getA effL (k,s)).isSome && !b) else ((getA effL (k,s)).getD 0,(getA effL (k,s)).isSome)
def lstS (x:Int × Int) (l:List (Int × Int)):Int × Int:=l.getLast?.getD x
theorem lstS_snoc (x:Int × Int) (l:List (Int × Int)) (y:Int × Int):lstS x (l++[y])=y:=by unfold lstS;simp
def stsG (r:Rl) (b:Bool):Int × Int→List Ev→List (Int × Int)
 | x,[]=>alo r 4611686018427387904 3 x
 | x,e :: l=>alo r e.at_ 3 x++(((aftM b e.kind e.why (lstS x (alo r e.at_ 3 x)).1).1,e.at_) :: stsG r b ((aftM b e.kind e.why (lstS x (alo r e.at_ 3 x)).1).1,e.at_) l)
def stsOk (r:Rl) (b:Bool):Int × Int→List Ev→Prop
 | _,[]=>True
 | x,e :: l=>(aftM b e.kind e.why (lstS x (alo r e.at_ 3 x)).1).2=true∧(0≤e.at_∧e.at_≤20000000)∧stsOk r b ((aftM b e.kind e.why (lstS x (alo r e.at_ 3 x)).1).1,e.at_) l
def stsM (r:Rl) (b:Bool) (asked:Int) (l:List Ev):List (Int × Int):=(1,asked) :: stsG r b (1,asked) l
theorem stsG_cons (r:Rl) (b:Bool) (x:Int × Int) (e:Ev) (l:List Ev):stsG r b x (e :: l)=alo r e.at_ 3 x++(((aftM b e.kind e.why (lstS x (alo r e.at_ 3 x)).1).1,e.at_) :: stsG r b ((aftM b e.kind e.why (lstS x (alo r e.at_ 3 x)).1).1,e.at_) l):=rfl
abbrev cstV (r:Rl) (x:Int × Int):Value:=.agg #[.int .i64 x.1,.int .i64 x.2,.int .i64 (nxS r x)]
end
end Go.Proofs.YtledkokhghjfmaaGreatDoor
