/-
  link: keys, seals, which packets are genuine.
-/
import Derived.Test.YtledkokhghjfmaaGreatDoorPS17
import Derived.Test.YtledkokhghjfmaaGreatDoorPS01
namespace Go.Proofs.YtledkokhghjfmaaGreatDoor
section
open Go.RowKit Go.Lib
structure Pk where
 ser:Int
 ack:Int
 body:ByteArray
 sl:ByteArray
abbrev pkV (p:Pk):Value:=.agg #[.int .i64 p.ser,.int .i64 p.ack,.string p.body,.string p.sl]
def pkC (p:Pk):List Value:=[.int .i64 p.ser,.int .i64 p.ack,.string p.body,.string p.sl]
def sealP (key:ByteArray) (p:Pk):ByteArray:=nodeM key (leafM (putA [8,p.ser,p.ack]++putS p.body))
def keyB (s:ByteArray):Bool:=decide (s.size=32)
def genP (key:ByteArray) (p:Pk):Bool:=keyB key && keyB p.sl && inB p.ser 0 100 && inB p.ack 0 100 && decide (p.body.size≤200) && !(decide (p.ser=0) && !decide (p.body=ByteArray.empty)) && decide (p.sl=sealP key p)
theorem strs_beq (s t:ByteArray):(s.toList == t.toList)=decide (s=t):=by
 rw [ByteArray.toList_eq,ByteArray.toList_eq]
 by_cases h:s=t
 ·subst h;simp
 ·rw [decide_eq_false h,beq_eq_false_iff_ne]
  intro e;apply h;exact ByteArray.ext (Array.ext' e)
theorem str_some {s:ByteArray} (h:s≠ByteArray.empty):s.toList.isEmpty=false:=by
 rw [ByteArray.toList_eq]
 cases hl:s.data.toList with
 | nil=>exact absurd (ByteArray.ext (Array.ext' hl)) h
 | cons x l=>rfl
theorem lkIsKey_c (s:ByteArray) (w:World):Calls Tryz.prog 79 #[.string s] w fun e w'=>e=.returned (.bool (keyB s))∧w=w':=by
 unfold keyB
 by_cases h:s.size=32
 ·have hq:((s.size:Int) == 32)=true:=by rw [h];rfl
  have hd:decide (s.size=32)=true:=decide_eq_true h
  rw [hd]
  clear h hd
  go_enter Tryz.func79,Tryz.ntmps79
  go_wp2
  go_ret
  exact ⟨rfl,rfl⟩
 ·have hq:((s.size:Int) == 32)=false:=beq_eq_false_iff_ne.2 (by omega)
  have hd:decide (s.size=32)=false:=decide_eq_false h
  rw [hd]
  clear h hd
  go_enter Tryz.func79,Tryz.ntmps79
  go_wp2
  go_ret
  exact ⟨rfl,rfl⟩
set_option maxRecDepth 100000 in
set_option maxHeartbeats 1000000 in
theorem lkSeal_c (key:ByteArray) (p:Pk) (w:World) (hs:-1≤p.ser∧p.ser≤4611686018427387903) (ha:-1≤p.ack∧p.ack≤4611686018427387903) (hb:p.body.size≤65536) (hk:key.size≤1000000) (hR:RndAt w) :
  Calls Tryz.prog 78 #[.string key,pkV p] w fun e w'=>e=.returned (.string (sealP key p))∧Fr [] w w':=by
 obtain ⟨n,a,b,q⟩:=p
 simp only at hs ha hb
 unfold sealP
 have B1:=qj (qm w (.cells #[.int .i64 n,.int .i64 a,.string b,.string q] 60))
 have F1:=qj (Fr.alloc [] w (.cells #[.int .i64 n,.int .i64 a,.string b,.string q] 60))
 have hP:(putS b).length≤65539:=by
  unfold putS
  have:=(encZ_len (2*b.size) (by omega)).1
  rw [List.length_append,bts_len];omega
 have hN:(putA [8,n,a]).length≤27:=putA_len [8,n,a] (by intro z hz;simp only [List.mem_cons,List.not_mem_nil,or_false] at hz;omega)
 have CP:=qj fun W=>putStr_c b hb W
 have CL:=qj fun (W:World) (bk:Nat) (h:W.heap[bk]?=some (.cells #[.int .i64 8,.int .i64 n,.int .i64 a] 3 (0,0)))=>lkPut_c (.slice (some ⟨bk,0,none⟩) 3 3) [8,n,a] W (sl_blk (cs:=([8,n,a]:List Int).map (Value.int .i64)) h rfl (by omega)) (by intro z hz;simp only [List.mem_cons,List.not_mem_nil,or_false] at hz;omega) (by simp)
 have CF:=qj fun (W:World) (hf:Fr [] w W)=>leaf_c (str (putA [8,n,a]++putS b)) (by rw [str_size,List.length_append];omega) W (hR.same hf (by simp))
 have CN:=qj fun (W:World) (hf:Fr [] w W)=>node_c key (leafM (putA [8,n,a]++putS b)) (by have:(leafM (putA [8,n,a]++putS b)).size=32:=shaB_size _;omega) W (hR.same hf (by simp))
 have hcat:str (putA [8,n,a])++str (putS b)=str (putA [8,n,a]++putS b):=by rw [str_app];rfl
 have HC:=qj hcat
 have hz1:(str (putA [8,n,a])).size≤27:=hN
 have hz2:(str (putS b)).size≤65539:=hP
 rw [bts_str] at CF
 generalize str (putA [8,n,a]++putS b)=S at *
 generalize putA [8,n,a]++putS b=L at *
 generalize str (putA [8,n,a])=s1 at *
 generalize str (putS b)=s2 at *
 clear hs ha hb hk hR hP hN hcat
 go_enter Tryz.func78,Tryz.ntmps78
 go_wp2_with fail
 refine (CP.out _).mono ?_
 rintro e w1 ⟨rfl,f1⟩
 have K1:=f1.keep B1.out (by simp)
 have c0:=qd K1 0;have c1:=qd K1 1
 have HF1:=qj (F1.out.trans f1)
 have F2:=Fr.alloc [] w1 (.cells #[.int .i64 8,.int .i64 n,.int .i64 a] 3)
 have CL2:=qj (CL.out _ _ (qm w1 (.cells #[.int .i64 8,.int .i64 n,.int .i64 a] 3)))
 have HF2:=qj (HF1.out.trans F2)
 clear f1 K1 B1 F1 F2 CP CL
 go_wp2_with fail
 refine CL2.out.mono ?_
 rintro e w2 ⟨rfl,f2⟩
 have HF3:=qj (HF2.out.trans f2)
 clear f2 c0 c1 HF1 HF2
 go_wp2_with fail
 rw [HC.out]
 refine (CF.out _ HF3.out).mono ?_
 rintro e w3 ⟨rfl,f3⟩
 have HF4:=qj (HF3.out.trans f3)
 clear f3 HF3
 go_wp2_with fail
 refine (CN.out _ HF4.out).mono ?_
 rintro e w4 ⟨rfl,f4⟩
 have HF5:=qj (HF4.out.trans f4)
 clear f4 HF4
 go_wp2_with fail
 go_ret
 exact ⟨rfl,HF5.out⟩
set_option maxRecDepth 100000 in
set_option maxHeartbeats 2000000 in
theorem genuine_c (key:ByteArray) (p:Pk) (w:World) (hR:RndAt w):Calls Tryz.prog 42 #[.string key,pkV p] w fun e w'=>e=.returned (.bool (genP key p))∧Fr [] w w':=by
 have CS0:=qj fun (hk:key.size≤1000000) (hs:-1≤p.ser∧p.ser≤4611686018427387903) (ha:-1≤p.ack∧p.ack≤4611686018427387903) (hb:p.body.size≤65536) (W:World) (hf:Fr [] w W)=>lkSeal_c key p W hs ha hb hk (hR.same hf (by simp))
 obtain ⟨n,a,b,q⟩:=p
 have C1:=qj fun W=>lkIsKey_c key W
 have C2:=qj fun W=>lkIsKey_c q W
 have C3:=qj fun W=>lkIsIn_c n 0 100 W
 have C4:=qj fun W=>lkIsIn_c a 0 100 W
 have B1:=qj (qm w (.cells #[.int .i64 n,.int .i64 a,.string b,.string q] 60))
 have F1:=qj (Fr.alloc [] w (.cells #[.int .i64 n,.int .i64 a,.string b,.string q] 60))
 have HRES:Shut (genP key ⟨n,a,b,q⟩=(keyB key && keyB q && inB n 0 100 && inB a 0 100 && decide (b.size≤200) && !(decide (n=0) && !decide (b=ByteArray.empty)) && decide (q=sealP key ⟨n,a,b,q⟩))):=⟨rfl⟩
 generalize genP key ⟨n,a,b,q⟩=R at *
 simp only at CS0 ⊢
 have HK:=qj (fun (h:keyB key=true)=>(of_decide_eq_true h:key.size=32))
 have H3:=qj (fun (h:inB n 0 100=true)=>inB_iff.1 h)
 have H4:=qj (fun (h:inB a 0 100=true)=>inB_iff.1 h)
 generalize sealP key ⟨n,a,b,q⟩=S at *
 generalize keyB key=b1 at *
 generalize keyB q=b2 at *
 generalize inB n 0 100=b3 at *
 generalize inB a 0 100=b4 at *
 clear hR
 go_enter Tryz.func42,Tryz.ntmps42
 go_wp2_with fail
 refine (C1.out _).mono ?_
 rintro e w1 ⟨rfl,rfl⟩
 cases b1 with
 | false =>
  go_wp2_with fail
  go_ret
  exact ⟨by rw [HRES.out];simp,F1.out⟩
 | true =>
  go_wp2_with fail
  refine (C2.out _).mono ?_
  rintro e w1 ⟨rfl,rfl⟩
  cases b2 with
  | false =>
   go_wp2_with fail
   go_ret
   exact ⟨by rw [HRES.out];simp,F1.out⟩
  | true =>
   go_wp2_with fail
   refine (C3.out _).mono ?_
   rintro e w1 ⟨rfl,rfl⟩
   cases b3 with
   | false =>
    go_wp2_with fail
    go_ret
    exact ⟨by rw [HRES.out];simp,F1.out⟩
   | true =>
    go_wp2_with fail
    refine (C4.out _).mono ?_
    rintro e w1 ⟨rfl,rfl⟩
    cases b4 with
    | false =>
     go_wp2_with fail
     go_ret
     exact ⟨by rw [HRES.out];simp,F1.out⟩
    | true =>
     by_cases hb:b.size≤200
     ·by_cases hn:n=0∧¬ b=ByteArray.empty
      ·obtain ⟨rfl,hbe⟩:=hn
       have hE:(decide ((0:Int)=0) && !decide (b=ByteArray.empty))=true:=by simp [hbe]
       have hq:b.toList.isEmpty=false:=str_some hbe
       have hE:=qj hE
       clear hbe
       go_wp2_with fail
       go_ret
       exact ⟨by rw [HRES.out,hE.out];simp,F1.out⟩
      ·have hE:(decide (n=0) && !decide (b=ByteArray.empty))=false:=by
        by_cases h0:n=0
        ·have:b=ByteArray.empty:=Classical.byContradiction fun h=>hn ⟨h0,h⟩
         simp [this]
        ·simp [h0]
       have CS:=qj fun (W:World) (hf:Fr [] (w.alloc (.cells #[.int .i64 n,.int .i64 a,.string b,.string q] 60)) W)=>CS0.out (by have:=HK.out (by simp);omega) (by have:=H3.out (by simp);omega) (by have:=H4.out (by simp);omega) (by omega) W (F1.out.trans hf)
       have hw:Hid (n=0→b.toList.isEmpty=true):=qj fun h0=>by
        have:b=ByteArray.empty:=Classical.byContradiction fun h=>hn ⟨h0,h⟩
        rw [this,ByteArray.toList_eq];rfl
       have HE:=qj hE
       clear hE hn CS0 C1 C2 C3 C4 HK H3 H4
       have x0:=qd B1.out 0;have x1:=qd B1.out 1;have x2:=qd B1.out 2;have x3:=qd B1.out 3
       clear B1
       by_cases h0:n=0
       ·subst h0
        have hq:=hw.out rfl
        clear hw
        go_upto_region 3 with fail
        generalize (w.alloc (.cells #[.int .i64 0,.int .i64 a,.string b,.string q] 60))=w at *
        refine reg_mix (Fr [] w) [0,1,2,3,4,5,6] (by kernel_rfl) (by kernel_rfl) (by kernel_rfl) rfl (Fr.drew _ _) ?_
        have FC:Fr [] w w.drew:=Fr.drew _ _
        generalize w.drew=WC at FC ⊢
        iterate 4 (refine mix_take1 (v:=?_) rfl rfl rfl rfl (fun w hS=>?_) ?_;rotate_left;(focus (have x0:=hS.cel x0 (by simp);have x1:=hS.cel x1 (by simp);have x2:=hS.cel x2 (by simp);have x3:=hS.cel x3 (by simp);clear hS;go_simp;rfl));simp only [qu,qv,qx])
        refine mix_do rfl rfl rfl (fun K hK=>?_)
        go_simp
        refine (CS.out _ FC).mono ?_
        rintro e wq ⟨rfl,fq⟩
        have FC:=FC.trans fq
        clear fq
        refine hK _ _ FC ?_
        clear hK K
        try simp only [Act.put,qu,qv,qx]
        iterate 2 (refine mix_take1 (v:=?_) rfl rfl rfl rfl (fun w hS=>?_) ?_;rotate_left;(focus (clear hS;go_simp;rfl));simp only [qu,qv,qx])
        refine mix_end ?_
        go_wp2_with fail
        go_ret
        exact ⟨by rw [HRES.out,HE.out,strs_beq];simp [hb],F1.out.trans FC⟩
       ·have hq:(n == 0)=false:=beq_eq_false_iff_ne.2 h0
        clear hw h0
        go_upto_region 3 with fail
        generalize (w.alloc (.cells #[.int .i64 n,.int .i64 a,.string b,.string q] 60))=w at *
        refine reg_mix (Fr [] w) [0,1,2,3,4,5,6] (by kernel_rfl) (by kernel_rfl) (by kernel_rfl) rfl (Fr.drew _ _) ?_
        have FC:Fr [] w w.drew:=Fr.drew _ _
        generalize w.drew=WC at FC ⊢
        iterate 4 (refine mix_take1 (v:=?_) rfl rfl rfl rfl (fun w hS=>?_) ?_;rotate_left;(focus (have x0:=hS.cel x0 (by simp);have x1:=hS.cel x1 (by simp);have x2:=hS.cel x2 (by simp);have x3:=hS.cel x3 (by simp);clear hS;go_simp;rfl));simp only [qu,qv,qx])
        refine mix_do rfl rfl rfl (fun K hK=>?_)
        go_simp
        refine (CS.out _ FC).mono ?_
        rintro e wq ⟨rfl,fq⟩
        have FC:=FC.trans fq
        clear fq
        refine hK _ _ FC ?_
        clear hK K
        try simp only [Act.put,qu,qv,qx]
        iterate 2 (refine mix_take1 (v:=?_) rfl rfl rfl rfl (fun w hS=>?_) ?_;rotate_left;(focus (clear hS;go_simp;rfl));simp only [qu,qv,qx])
        refine mix_end ?_
        go_wp2_with fail
        go_ret
        exact ⟨by rw [HRES.out,HE.out,strs_beq];simp [hb],F1.out.trans FC⟩
     ·go_wp2_with fail
      go_ret
      exact ⟨by rw [HRES.out];simp [hb],F1.out⟩
end
section
open Go.RowKit Go.Lib
open Go.MapKept
theorem findNow_int {k:IntKind} (a:Int):∀ (es:List MapEntry) (i:Nat),(∀ e∈es,∃ b,e.key=.int k b) →
  (Instr.findNow (.int k) (.int k a) es i=some none∧∀ e∈es,e.key≠.int k a)∨∃ j e,Instr.findNow (.int k) (.int k a) es i=some (some (i+j,e.val))∧es[j]?=some e∧e.key=.int k a
 | [],i,_=>.inl ⟨rfl,by simp⟩
 | e :: es,i,h=>by
  obtain ⟨b,hb⟩:=h e List.mem_cons_self
  by_cases hab:a=b
  ·subst hab
   exact .inr ⟨0,e,by simp [Instr.findNow,Instr.sameNow,hb],rfl,hb⟩
  ·have h1:Instr.findNow (.int k) (.int k a) (e :: es) i=Instr.findNow (.int k) (.int k a) es (i+1):=by
    have hq:(a == b)=false:=beq_eq_false_iff_ne.2 hab
    simp [Instr.findNow,Instr.sameNow,hb,hq]
   rw [h1]
   rcases findNow_int a es (i+1) (fun x hx=>h x (List.mem_cons_of_mem _ hx)) with ⟨h2,h3⟩ | ⟨j,x,h2,h3,h4⟩
   ·exact .inl ⟨h2,fun x hx=>by
     rcases List.mem_cons.1 hx with rfl | hx
     ·rw [hb];simp [Ne.symm hab]
     ·exact h3 x hx⟩
   ·exact .inr ⟨j+1,x,by rw [h2];congr 3;omega,by simpa using h3,h4⟩
theorem keyI {P:Program} {t:TypeId} {k:IntKind} (hu:P.underlying t=some (.int k)):KeyD P t (fun a:Int=>Value.int k a) where
 check w em a:=run_checkKey hu (show IsKey (.int k) (.int k a) from rfl) em 9999
 find w a es h:=by
  rcases findNow_int a es 0 h with ⟨h1,h2⟩ | ⟨j,e,h1,h2,h3⟩
  ·exact .inl ⟨by simp [Instr.findKey,run_underlying hu,h1],h2⟩
  ·exact .inr ⟨j,e,by simp [Instr.findKey,run_underlying hu,h1],h2,h3⟩
 stays w a:=run_keyThatStays (show IsKey (.int k) (.int k a) from rfl)
 inj a b h:=by injection h
structure En where
 key:ByteArray
 oth:ByteArray
 sent:List ByteArray
 acked:Nat
 recv:Nat
 early:List (Int × ByteArray)
theorem row_bx {w:World} {e e':TypeId} {s n:Nat} {v:Value} {xs:List Value} {b:Nat} {cs:Array Value} {fz:Nat × Nat} (h:w.ownsRow 0 e s v n xs) (hb:w.heap[b]?=some (.cells cs e' fz)) (he:e≠e'):v.ownBlock≠some b:=by
 intro hg
 rcases h.2 with ⟨rfl,_⟩ | ⟨a,c,cur,rfl,_,ha,_⟩
 ·cases hg
 ·simp only [Value.ownBlock,Option.some.injEq] at hg
  subst hg
  rw [ha] at hb
  simp only [Option.some.injEq,Obj.cells.injEq] at hb
  exact he hb.2.1
structure EnIn (w:World) (eb mb:Nat) (vs:Value) (E:En):Prop where
 blk:w.heap[eb]?=some (.cells #[.string E.key,.string E.oth,vs,.int .i64 E.acked,.int .i64 E.recv,.map (some mb)] 168 (0,0))
 row:w.ownsRow 0 9 1 vs E.sent.length (E.sent.map Value.string)
 map:MpAt (fun a:Int=>Value.int .i64 a) w mb (mapV Value.string E.early)
abbrev enB (eb mb:Nat) (vs:Value):List Nat:=eb :: mb :: vs.ownBlock.toList
theorem EnIn.fr {w w':World} {eb mb:Nat} {vs:Value} {E:En} {S:List Nat} (h:EnIn w eb mb vs E) (hf:Fr S w w') (hS:∀ k,k∈enB eb mb vs→k∉S):EnIn w' eb mb vs E :=
 ⟨hf.keep h.blk (hS _ (by simp)),row_fr h.row hf (fun g hg=>hS g (by simp [hg])),h.map.keep hf (hS _ (by simp))⟩
theorem EnIn.same {w w':World} {eb mb:Nat} {vs:Value} {E:En} (h:EnIn w eb mb vs E) (hf:Fr [] w w'):EnIn w' eb mb vs E:=h.fr hf (by simp)
theorem EnIn.ne {w:World} {eb mb:Nat} {vs:Value} {E:En} (h:EnIn w eb mb vs E):eb≠mb:=by
 intro e
 obtain ⟨es,c,h1,_⟩:=h.map.blk
 rw [← e,h.blk] at h1
 cases h1
theorem EnIn.apart {w:World} {eb mb:Nat} {vs:Value} {E:En} (h:EnIn w eb mb vs E) {g:Nat} (hg:vs.ownBlock=some g):g≠eb∧g≠mb:=by
 obtain ⟨_,c,hc⟩:=ownRow_at h.row g hg
 constructor
 ·rintro rfl
  rw [h.blk] at hc
  injection hc with hc;injection hc with _ he
  revert he;decide
 ·rintro rfl
  obtain ⟨es,c',h1,_⟩:=h.map.blk
  rw [h1] at hc;cases hc
theorem EnIn.lt {w:World} {eb mb:Nat} {vs:Value} {E:En} (h:EnIn w eb mb vs E):∀ k,k∈enB eb mb vs→k < w.heap.size:=by
 intro k hk
 simp only [List.mem_cons,Option.mem_toList] at hk
 rcases hk with rfl | rfl | hk
 ·exact blk_lt h.blk
 ·exact h.map.lt
 ·obtain ⟨_,c,hc⟩:=ownRow_at h.row k hk
  exact blk_lt hc
set_option maxRecDepth 100000 in
theorem lkOpen_c (k o:ByteArray) (w:World) (hk:k.size=32) (ho:o.size=32):Calls Tryz.prog 50 #[.string k,.string o] w fun e w'=>e=.returned (.tuple #[.pointer (some ⟨w.heap.size+1,0,none⟩),.int .i64 0])∧EnIn w' (w.heap.size+1) w.heap.size (.slice none 0 0) ⟨k,o,[],0,0,[]⟩∧Fr [] w w'∧w'.heap.size=w.heap.size+2:=by
 have C1:=qj fun W=>lkIsKey_c k W
 have C2:=qj fun W=>lkIsKey_c o W
 have h1:keyB k=true:=decide_eq_true hk
 have h2:keyB o=true:=decide_eq_true ho
 rw [h1] at C1
 rw [h2] at C2
 have hmm:=@run_makeMap Tryz.prog
 have B1:=mpAt_new (enc:=fun a:Int=>Value.int .i64 a) w
 obtain ⟨F2,_,B2⟩:=two_more w (.map #[] 0) (.cells #[.string k,.string o,.slice none 0 0,.int .i64 0,.int .i64 0,.map (some w.heap.size)] 168)
 have HR:Hid (EnIn _ (w.heap.size+1) w.heap.size (.slice none 0 0) ⟨k,o,[],0,0,[]⟩):=qj ⟨B2,World.ownsRow_nil _ _ _ _,B1.keep (Fr.alloc [] _ _) (by simp)⟩
 have HF:=qj F2
 clear hk ho h1 h2 B1 B2 F2
 go_enter Tryz.func50,Tryz.ntmps50
 go_wp2_with fail
 refine (C1.out _).mono ?_
 rintro e w1 ⟨rfl,rfl⟩
 go_wp2_with fail
 refine (C2.out _).mono ?_
 rintro e w1 ⟨rfl,rfl⟩
 go_wp2_with fail
 go_ret2
 exact ⟨rfl,HR.out,HF.out,by simp⟩
set_option maxRecDepth 100000 in
theorem lkSent_c {w:World} {eb mb:Nat} {vs:Value} {E:En} (h:EnIn w eb mb vs E):Calls Tryz.prog 44 #[.pointer (some ⟨eb,0,none⟩)] w fun e w'=>e=.returned (.int .i64 E.sent.length)∧w=w':=by
 obtain ⟨a,c,rfl⟩:=(sl_of_row h.row).val
 have c2:w.cell? ⟨eb,2,none⟩=some (.slice a E.sent.length c):=qd h.blk 2
 clear h
 go_enter Tryz.func44,Tryz.ntmps44
 go_wp2_with fail
 go_ret
 exact ⟨rfl,rfl⟩
theorem infoStrT:(Tryz.prog.info? 9).map (fun i=>(i.zero,i.size,i.bytes))=some (some (.string ⟨#[]⟩),1,16):=by kernel_rfl
set_option maxRecDepth 100000 in
set_option maxHeartbeats 1000000 in
theorem lkSend_c {w:World} {eb mb:Nat} {vs:Value} {E:En} (h:EnIn w eb mb vs E) (s:ByteArray) (hs:s.size≤200) (hl:E.sent.length < 100) :
  Calls Tryz.prog 75 #[.pointer (some ⟨eb,0,none⟩),.string s] w fun e w'=>e=.returned (.int .i64 0)∧∃ vs',EnIn w' eb mb vs' ⟨E.key,E.oth,E.sent++[s],E.acked,E.recv,E.early⟩∧Upd (enB eb mb vs) (enB eb mb vs') w w':=by
 obtain ⟨k,o,l,ac,rc,er⟩:=E
 simp only at hl
 obtain ⟨a,c,rfl⟩:=(sl_of_row h.row).val
 simp only at h
 have c2:w.cell? ⟨eb,2,none⟩=some (.slice a l.length c):=qd h.blk 2
 have HE:=qj h
 have hlt:=blk_lt h.blk
 clear h
 go_enter Tryz.func75,Tryz.ntmps75
 go_wp2_with (first | ((with_reducible refine wpList_of_wp (o:=⟨some 25,_,_,_,_,_⟩) rfl (fun K hK=>?_));apply stopD;case _other=>exact trivial))
 (refine stopD ?_ ?_;rotate_left;exact trivial)
 have F1:=Fr.alloc [] w (.cells #[.string s] 9)
 have h1:=HE.out.same F1
 have g1:=qm w (.cells #[.string s] 9)
 refine wp_append_src (.tmp 22) (.tmp 24) 40 9 (.string ⟨#[]⟩) 1 16 rfl Tryz.underlying40 infoStrT rfl (by decide) (.slice a l.length c) l.length (l.map Value.string) rfl h1.row (.slice (some ⟨w.heap.size,0,none⟩) 1 1) 1 [.string s] rfl ⟨.inr ⟨_,1,rfl,fun j u hu=>by rw [add_at,qd g1];simpa using hu⟩⟩ (by simp) (by simp [Value.oneCell']) (by omega) (by omega) ?_
 intro ga cap W' r1 f1 o1
 refine hK _ _ ?_
 clear hK K
 have hn:∀ g,(Value.slice a l.length c).ownBlock=some g→g≠eb∧g≠mb:=fun g hg=>HE.out.apart hg
 have hb:=f1.keep h1.blk (fun hm=>(hn eb (by simpa using hm)).1 rfl)
 have hm:=h1.map.keep f1 (fun hm=>(hn mb (by simpa using hm)).2 rfl)
 have c2':W'.cell? ⟨eb,2,none⟩=some (.slice a l.length c):=qd hb 2
 have y2:=ql hb 2
 have hr1:W'.ownsRow 0 9 1 (.slice ga (l.length+1) cap) (l++[s]).length ((l++[s]).map Value.string):=by simpa using r1
 have hg1:(Value.slice ga (l.length+1) cap).ownBlock≠some eb:=row_bx hr1 hb (by decide)
 have fs:=Fr.setCell (fp:=[eb]) (p:=⟨eb,2,none⟩) W' (.slice ga (l.length+1) cap) (by simp)
 have HN:Hid (EnIn _ eb mb (.slice ga (l.length+1) cap) ⟨k,o,l++[s],ac,rc,er⟩):=qj ⟨qs (i:=2) _ hb,row_fr hr1 fs (fun g hg hm=>by simp at hm;subst hm;exact hg1 hg),hm.keep fs (by simpa using HE.out.ne.symm)⟩
 have HU:Hid (Upd (enB eb mb (.slice a l.length c)) (enB eb mb (.slice ga (l.length+1) cap)) w (W'.setCell ⟨eb,2,none⟩ (.slice ga (l.length+1) cap))):=qj ⟨(F1.mono (by simp)).trans ((f1.mono (fun i hi=>by simp at hi ⊢;exact .inr (.inr hi))).trans (fs.mono (by simp))),fun i hi=>by
  simp only [List.mem_cons,Option.mem_toList] at hi
  rcases hi with rfl | rfl | hi
  ·exact .inl (by simp)
  ·exact .inl (by simp)
  ·rcases o1 with h4 | h4
   ·exact .inl (by simp [← h4,hi])
   ·rw [hi] at h4;simp at h4;exact .inr (by omega)⟩
 clear f1 r1 o1 hb hm fs hn h1 g1 F1 c2 hr1 hg1
 go_wp2_with fail
 go_ret
 exact ⟨rfl,_,HN.out,HU.out⟩
end
end Go.Proofs.YtledkokhghjfmaaGreatDoor
