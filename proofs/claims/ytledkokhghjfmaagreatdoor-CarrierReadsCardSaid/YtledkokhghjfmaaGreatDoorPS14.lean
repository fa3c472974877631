/-
  journal: Append, its loop.
-/
import Derived.Test.YtledkokhghjfmaaGreatDoorPS13
namespace Go.Proofs.YtledkokhghjfmaaGreatDoor
open Go.RowKit Go.Lib
theorem headOf_size (l:List ByteArray):∀ h:ByteArray,h.size=32→(headOf h l).size=32:=by
 induction l with
 | nil=>intro h hh;exact hh
 | cons r l ih=>intro h hh;exact ih _ (chainM_size h r)
theorem encAll_snoc (h:ByteArray) (l:List ByteArray) (r:ByteArray):encAll h (l++[r])=encAll h l++recL (headOf h l) r:=by
 rw [encAll_append,encAll,encAll,List.append_nil]
theorem adds_snoc (t:Tp) (l:List ByteArray) (r:ByteArray):t.adds (l++[r])=(t.adds l).add r:=by rw [adds_append];rfl
theorem encAll_take_le (h:ByteArray) (l:List ByteArray) (k:Nat):(encAll h (l.take k)).length≤(encAll h l).length:=by
 have:=encAll_append (l.take k) (l.drop k) h
 rw [List.take_append_drop] at this
 rw [this,List.length_append]
 omega
theorem not_long {l:List ByteArray} (h:l.any longB=false) {r:ByteArray} (hr:r∈l):r.size≤65536:=by
 rw [List.any_eq_false] at h
 have:=h r hr
 simp only [longB,decide_eq_true_eq] at this
 omega
structure ApL (w:World) (nb bb:Nat) (t:Tp) (l:List ByteArray) (k:Nat) (wr:World) (vr vb p:Value):Prop where
 tape:TapeAt wr nb [] 175 vr (t.adds (l.take k))
 bld:BldAt wr bb p vb (encAll t.head (l.take k))
 self:p=.pointer none∨p=.pointer (some ⟨bb,0,none⟩)
 nil:k=0→vb=.slice none 0 0
 fr:Fr [] w wr
 young:∀ i,i∈tpB nb vr→w.heap.size≤i∧i∉bldB bb vb
 youngB:∀ i,i∈bldB bb vb→w.heap.size≤i
theorem ApL.next {w wr w1 w2:World} {nb bb k:Nat} {t:Tp} {l:List ByteArray} {vr vb p vr' vb':Value} (h:ApL w nb bb t l k wr vr vb p) (hk:k < l.length)
  (h1:TapeAt w1 nb [] 175 vr' ((t.adds (l.take k)).add l[k])) (u1:Upd (tpB nb vr) (tpB nb vr') wr w1)
  (h2:BldAt w2 bb (.pointer (some ⟨bb,0,none⟩)) vb' (encAll t.head (l.take k)++recL (headOf t.head (l.take k)) l[k])) (u2:Upd (bldB bb vb) (bldB bb vb') w1 w2) (hlt:∀ i,i∈bldB bb vb→i < wr.heap.size):ApL w nb bb t l (k+1) w2 vr' vb' (.pointer (some ⟨bb,0,none⟩)):=by
 have ht:l.take (k+1)=l.take k++[l[k]]:=by rw [List.take_succ_eq_append_getElem hk]
 have hlt1:=tape_lt h1
 have y1:∀ i,i∈tpB nb vr'→w.heap.size≤i∧i∉bldB bb vb:=fun i hi=>by
  rcases u1.sub i hi with h3 | h3
  ·exact h.young i h3
  ·exact ⟨Nat.le_trans h.fr.size h3,fun hm=>by have:=hlt i hm;omega⟩
 refine ⟨?_,?_,.inr rfl,by omega,(h.fr.step u1.fr (fun i hi=>.inr (h.young i hi).1)).step u2.fr (fun i hi=>.inr (h.youngB i hi)),fun i hi=>⟨(y1 i hi).1,fun hm=>?_⟩,fun i hi=>?_⟩
 ·rw [ht,adds_snoc]
  exact h1.fr u2.fr (fun i hi=>(y1 i hi).2)
 ·rw [ht,encAll_snoc]
  exact h2
 ·rcases u2.sub i hm with h3 | h3
  ·exact (y1 i hi).2 h3
  ·have:=hlt1 i hi;omega
 ·rcases u2.sub i hi with h3 | h3
  ·exact h.youngB i h3
  ·have:=h.fr.size;have:=u1.fr.size;omega
theorem bld_lt {w:World} {b:Nat} {p v:Value} {l:List UInt8} (h:BldAt w b p v l):∀ k,k∈bldB b v→k < w.heap.size:=fun k hk=>by
 simp only [bldB,List.mem_cons,Option.mem_toList] at hk
 rcases hk with rfl | hk
 ·exact blk_lt h.blk
 ·exact ownsRow_lt h.row hk
def Dk.apps (D:Dk) (t:Tp) (br:Bool) (l:List ByteArray):Int × Tp × Bool × Dk :=
 if br || l.any longB then (100,t,br,D) else if (D.dur.length:Int) - t.size < (encAll t.head l).length then (101,t,br,D) else if l=[] then (0,t,br,D) else
  let r:=D.runs [.write ((t.size:Int)+1) (str ((encAll t.head l).drop 1)),.sync,.write t.size (str ((encAll t.head l).take 1)),.sync]
  if r.1=0 then (0,t.adds l,false,r.2) else (r.1,t,true,r.2)
def AppJ (jb db:Nat) (fp:List Nat) (vr:Value) (w:World) (o:Int × Tp × Bool × Dk) (e:Ending) (w':World):Prop:=e=.returned (.int .i64 o.1)∧∃ vr' fp',JnAt w' jb db fp' vr' o.2.1 o.2.2.1 o.2.2.2∧Upd (tpB jb vr++fp) (tpB jb vr'++fp') w w'
theorem appJ_same {jb db:Nat} {fp:List Nat} {vr:Value} {w:World} {t:Tp} {br:Bool} {D:Dk} {w':World} (n:Int) (h:JnAt w jb db fp vr t br D) (hf:Fr [] w w'):AppJ jb db fp vr w (n,t,br,D) (.returned (.int .i64 n)) w' :=
 ⟨rfl,vr,fp,h.same hf,hf.mono (by simp),fun _ h=>.inl h⟩
set_option maxRecDepth 100000 in
set_option maxHeartbeats 1000000 in
theorem app_c {jb db:Nat} {fp:List Nat} {vr:Value} {t:Tp} {br:Bool} {D:Dk} {w:World} (h:JnAt w jb db fp vr t br D) (l:List ByteArray) (a:Option Addr) (cap:Nat) (hs:Sl w (.slice a l.length cap) l.length (l.map Value.string)) (hh:t.head.size=32) (hts:t.size≤D.dur.length) (hrl:t.recs.length≤10000000)
  (hll:l.length≤10000000) (hN:l.any longB=false→(encAll t.head l).length≤1000000000) (hR:RndAt w) (hp:D.pend.length≤4000000000):Calls Tryz.prog 74 #[.pointer (some ⟨jb,0,none⟩),.slice a l.length cap] w (AppJ jb db fp vr w (D.apps t br l)):=by
 have hm:D.dur.length≤4194304:=by obtain ⟨_,_,_,hd,_⟩:=h.disk;exact hd.ok.max
 have CC:=qj (containsLong_c a cap l w hs)
 have HS:=qj hs;have HJ:=qj h
 have c4:w.cell? ⟨jb,4,none⟩=some (.bool br):=qd h.tape.blk 4
 have HA:Shut (D.apps t br l=if br || l.any longB then (100,t,br,D) else if (D.dur.length:Int) - t.size < (encAll t.head l).length then (101,t,br,D) else if l=[] then (0,t,br,D) else
  let r:=D.runs [.write ((t.size:Int)+1) (str ((encAll t.head l).drop 1)),.sync,.write t.size (str ((encAll t.head l).take 1)),.sync]
  if r.1=0 then (0,t.adds l,false,r.2) else (r.1,t,true,r.2)):=⟨rfl⟩
 cases br with
 | true =>
  clear h hs hR hN CC
  go_enter Tryz.func74,Tryz.ntmps74
  go_wp2_with fail
  go_ret
  rw [HA.out,Bool.true_or,if_pos rfl]
  exact appJ_same 100 HJ.out (Fr.refl _ _)
 | false =>
  cases hlong:l.any longB with
  | true =>
   rw [hlong] at CC HA
   clear h hs hR hN hlong
   go_enter Tryz.func74,Tryz.ntmps74
   go_wp2_with fail
   refine CC.out.mono ?_
   rintro e w1 ⟨rfl,rfl⟩
   go_wp2_with fail
   go_ret
   rw [HA.out,Bool.or_true,if_pos rfl]
   exact appJ_same 100 HJ.out (Fr.refl _ _)
  | false =>
   rw [hlong] at CC HA
   have HNL:Hid (∀ r,r∈l→r.size≤65536):=qj fun r hr=>not_long hlong hr
   have HN:=qj (hN hlong)
   have HR:=qj hR
   have hrw:1 < w.heap.size:=by obtain ⟨_,_,h⟩:=hR;exact blk_lt h
   obtain ⟨va,vn,vc,rfl⟩:∃ va vn vc,vr=.slice va vn vc:=by
    rcases h.tape.row.2 with ⟨rfl,_⟩ | ⟨g,cap,cur,rfl,_⟩
    ·exact ⟨_,_,_,rfl⟩
    ·exact ⟨_,_,_,rfl⟩
   have CL:=qj fun W (hf:Fr [] w W)=>clone_c (.slice va vn vc) t.recs W (row_fr h.tape.row hf (by simp)) (by omega)
   clear hs hR hN hlong
   have d0:w.cell? ⟨jb,0,none⟩=some (.slice va vn vc):=qd h.tape.blk 0
   have d1:w.cell? ⟨jb,1,none⟩=some (.string t.head):=qd h.tape.blk 1
   have d2:w.cell? ⟨jb,2,none⟩=some (.int .i64 t.size):=qd h.tape.blk 2
   clear h
   go_enter Tryz.func74,Tryz.ntmps74
   go_wp2_with fail
   refine CC.out.mono ?_
   rintro e w1 ⟨rfl,rfl⟩
   go_wp2_with fail
   have F1:Fr [] w (w.alloc (.cells #[.slice va vn vc,.string t.head,.int .i64 t.size] 175)):=Fr.alloc _ _ _
   have b1:=qm w (.cells #[.slice va vn vc,.string t.head,.int .i64 t.size] 175)
   have z1:(w.alloc (.cells #[.slice va vn vc,.string t.head,.int .i64 t.size] 175)).heap.size=w.heap.size+1:=by simp
   refine (CL.out _ F1).mono ?_
   rintro e W2 ⟨v',rfl,r2,n2,f2⟩
   rw [z1] at n2
   generalize World.alloc w _=W1 at *
   obtain ⟨ua,un,uc,rfl⟩:∃ ua un uc,v'=.slice ua un uc:=by
    rcases r2.2 with ⟨rfl,_⟩ | ⟨g,cap,cur,rfl,_⟩
    ·exact ⟨_,_,_,rfl⟩
    ·exact ⟨_,_,_,rfl⟩
   have b2:=f2.keep b1 (by simp)
   have k0:=qd b2 0
   have y0:=ql b2 0
   have hz2:w.heap.size+1≤W2.heap.size:=by have:=f2.size;omega
   have HB2:=qj b2;have HF2:=qj (F1.trans f2);have HR2:=qj r2;have HN2:=qj n2
   clear b1 b2 F1 f2 r2 n2 z1 CL CC d0 d1 d2
   go_upto_region 8 with fail
   have b3:=qs (i:=0) (.slice ua un uc) HB2.out
   have f3:Fr [w.heap.size] W2 (W2.setCell ⟨w.heap.size,0,none⟩ (.slice ua un uc)):=Fr.setCell _ _ (by simp)
   have r3:=row_fr HR2.out f3 (fun g hg=>by have:=HN2.out g hg;simp;omega)
   have F3:=HF2.out.step f3 (by simp)
   have z3:(W2.setCell ⟨w.heap.size,0,none⟩ (.slice ua un uc)).heap.size=W2.heap.size:=by simp [World.setCell]
   generalize W2.setCell ⟨w.heap.size,0,none⟩ (.slice ua un uc)=W3 at *
   have HZ3:=qj z3
   clear z3 k0 y0
   go_upto_region 9 with fail
   have F4:Fr [] w (W3.alloc (.cells #[.pointer none,.slice none 0 0] 215)):=F3.trans (Fr.alloc _ _ _)
   have A4:ApL w w.heap.size W3.heap.size t l 0 (W3.alloc (.cells #[.pointer none,.slice none 0 0] 215)) (.slice ua un uc) (.slice none 0 0) (.pointer none):=by
    refine ⟨⟨heap_alloc_old _ b3,row_fr r3 (Fr.alloc [] _ _) (by simp),fun e=>by have:=HN2.out _ e;omega⟩,⟨qm _ _,World.ownsRow_nil _ _ _ _,by simp [Value.ownBlock]⟩,.inl rfl,fun _=>rfl,F4,fun i hi=>?_,fun i hi=>?_⟩
    ·have hz:=HZ3.out
     simp only [tpB,List.mem_cons,Option.mem_toList] at hi
     rcases hi with rfl | hi
     ·exact ⟨Nat.le_refl _,by simp [bldB,Value.ownBlock];omega⟩
     ·have h5:=HN2.out _ hi
      have h6:=ownsRow_lt r3 hi
      exact ⟨by omega,by simp [bldB,Value.ownBlock];omega⟩
    ·simp [bldB,Value.ownBlock] at hi
     have hz:=HZ3.out
     omega
   have HA4:=qj A4
   have hbb:w.heap.size < W3.heap.size:=by have:=HZ3.out;omega
   clear F4 A4 F3 f3 b3 r3
   generalize World.alloc W3 _=W4 at *
   generalize W3.heap.size=bb at *
   go_wp2_with fail
   go_loopw [33] (fun i wr=>∃ (k:Nat) (vr' vb p:Value),i=.int .i64 k∧k≤l.length∧Hid (ApL w w.heap.size bb t l k wr vr' vb p)) (fun i _=>l.length - (RowKit.intOf i).toNat)
   case atStart=>exact ⟨0,_,_,_,rfl,Nat.zero_le _,HA4⟩
   case round =>
    obtain ⟨k,vr',vb,p,rfl,hk,H⟩:=hrel
    by_cases hlt:k < l.length
    ·obtain ⟨b,off,rfl,hc⟩:=(HS.out.same H.out.fr).at_ (by omega)
     have ck:wr.cell? ⟨b,off+k,none⟩=some (.string l[k]):=hc k _ (by simp [hlt])
     have hr:l[k].size≤65536:=HNL.out _ (List.getElem_mem hlt)
     have ht:l.take (k+1)=l.take k++[l[k]]:=by rw [List.take_succ_eq_append_getElem hlt]
     have hbnd:(encAll t.head (l.take k)).length+(recL (headOf t.head (l.take k)) l[k]).length≤1000000000:=by
      have h5:=encAll_take_le t.head l (k+1)
      rw [ht,encAll_snoc,List.length_append] at h5
      have:=HN.out;omega
     have AC:=add_c w.heap.size [] 175 vr' (t.adds (l.take k)) l[k] wr H.out.tape hr (by rw [adds_head];exact headOf_size _ _ hh) (by rw [adds_recs,List.length_append,List.length_take];omega) (by rw [adds_size];omega) (HR.out.same H.out.fr (by simp)) (fun i hi=>by have:=(H.out.young i hi).1;omega)
     rw [adds_head] at AC
     have HNX:=qj fun (w1 w2:World) (vr2 vb2:Value) h1 u1 h2 u2=>ApL.next (w1:=w1) (w2:=w2) (vr':=vr2) (vb':=vb2) H.out hlt h1 u1 h2 u2 (bld_lt H.out.bld)
     have HAC:=qj AC;have HB:=qj hbnd
     clear AC hbnd ht hc hr
     generalize hrr:l[k]=r at *
     generalize hrl2:recL (headOf t.head (l.take k)) r=rl at *
     clear hrr
     go_wp2_with fail
     refine HAC.out.mono ?_
     rintro e w5 ⟨rfl,vr5,h5,u5⟩
     have HBW:=qj (bwrite_c bb p vb _ (str rl) w5 (H.out.bld.fr u5.fr (fun i hi hm=>(H.out.young i hm).2 hi)) H.out.self (by rw [str_size];have:=HB.out;omega))
     have H5:=qj h5;have U5:=qj u5
     clear h5 u5 HAC
     go_wp2_with fail
     refine HBW.out.mono ?_
     rintro e w6 ⟨rfl,vb6,h6,u6⟩
     rw [bts_str] at h6
     have H7:=qj (HNX.out w5 w6 vr5 vb6 H5.out U5.out h6 u6)
     clear HBW HNX h6 u6 H5 U5 H HB
     go_wp2_with fail
     go_roundw
     case rel=>exact ⟨k+1,_,_,_,by go_num,hlt,H7⟩
     case measure=>simp [RowKit.intOf];omega
    ·have he:k=l.length:=by omega
     subst he
     go_wp2_with fail
     have hTp:TapeAt wr w.heap.size [] 175 vr' (t.adds l):=by have:=H.out.tape;rw [List.take_length] at this;exact this
     have hBl:BldAt wr bb p vb (encAll t.head l):=by have:=H.out.bld;rw [List.take_length] at this;exact this
     have HA2:Shut (D.apps t false l=if (D.dur.length:Int) - t.size < (encAll t.head l).length then (101,t,false,D) else if l=[] then (0,t,false,D) else
      let r:=D.runs [.write ((t.size:Int)+1) (str ((encAll t.head l).drop 1)),.sync,.write t.size (str ((encAll t.head l).take 1)),.sync]
      if r.1=0 then (0,t.adds l,false,r.2) else (r.1,t,true,r.2)):=⟨by have:=HA.out;simp only [Bool.or_self,Bool.false_eq_true,if_false] at this;exact this⟩
     have hvb:=H.out.nil
     have F9:=H.out.fr
     have hyg:=H.out.young
     have hyb:=H.out.youngB
     clear HA H c4
     cases hE:encAll t.head l with
     | nil =>
      have hl0:l=[]:=by
       have:=encAll_len l t.head
       rw [hE] at this
       exact List.eq_nil_of_length_eq_zero (by simpa using this)
      have hb0:=hvb (by rw [hl0];rfl)
      subst hb0
      rw [hE] at hBl HA2
      have HA3:Shut (D.apps t false l=(0,t,false,D)):=⟨by rw [HA2.out,if_neg (by simp;omega),if_pos hl0]⟩
      have HS1:=qj (bstring_nil bb p wr hBl)
      have HF9:=qj F9
      clear hE hl0 hTp hBl HA2 hvb F9 hyg hyb HN
      refine HS1.out.mono ?_
      rintro e w5 ⟨rfl,f5⟩
      have CR:=qj (room_c (HJ.out.same (HF9.out.trans f5)) (by omega))
      have HF5:=qj (HF9.out.trans f5)
      clear f5 HS1
      go_wp2_with fail
      refine CR.out.mono ?_
      rintro e w6 ⟨rfl,f6⟩
      have HF6:=qj (HF5.out.trans f6)
      clear f6 CR
      have hge:decide ((D.dur.length:Int) - (t.size:Int) < 0)=false:=by simp;omega
      go_wp2_with fail
      go_ret
      rw [HA3.out]
      exact appJ_same 0 HJ.out HF6.out
     | cons y E =>
      have hl0:l≠[]:=fun h=>by rw [h] at hE;cases hE
      rw [hE] at hBl HA2 HN
      have HS1:=qj (bstring_c bb p vb (y :: E) wr hBl (by simp))
      have HF9:=qj F9;have HT9:=qj hTp;have HY:=qj hyg;have HYB:=qj hyb
      have hEl:E.length≤1000000000:=by have:=HN.out;simp at this;omega
      clear hE hTp hBl hvb F9 hyg hyb HN
      refine HS1.out.mono ?_
      rintro e w5 ⟨rfl,f5⟩
      have F5:=HF9.out.step f5 (fun i hi=>.inr (HYB.out i (by simp [bldB];right;simpa using hi)))
      have HT5:=qj (HT9.out.fr f5 (fun i hi hm=>(HY.out i hi).2 (by simp [bldB];right;simpa using hm)))
      have CR:=qj (room_c (HJ.out.same F5) (by omega))
      have HF5:=qj F5
      clear f5 F5 HS1 HT9
      rw [show str (y :: E)=⟨(y :: E).toArray⟩ from rfl]
      by_cases hfit:(D.dur.length:Int) - (t.size:Int) < (E.length:Int)+1
      ·have HA3:Shut (D.apps t false l=(101,t,false,D)):=⟨by rw [HA2.out,if_pos (by simp;omega)]⟩
       clear HA2
       go_wp2_with fail
       refine CR.out.mono ?_
       rintro e w6 ⟨rfl,f6⟩
       have HF6:=qj (HF5.out.trans f6)
       clear f6 CR
       go_wp2_with fail
       go_ret
       rw [HA3.out]
       exact appJ_same 101 HJ.out HF6.out
      ·have HA3:Shut (D.apps t false l=(if (D.runs [.write ((t.size:Int)+1) (str E),.sync,.write t.size (str [y]),.sync]).1=0 then (0,t.adds l,false,(D.runs [.write ((t.size:Int)+1) (str E),.sync,.write t.size (str [y]),.sync]).2) else ((D.runs [.write ((t.size:Int)+1) (str E),.sync,.write t.size (str [y]),.sync]).1,t,true,(D.runs [.write ((t.size:Int)+1) (str E),.sync,.write t.size (str [y]),.sync]).2))):=⟨by
        rw [HA2.out,if_neg (by simp;omega),if_neg hl0]
        simp⟩
       clear HA2
       go_wp2_with fail
       refine CR.out.mono ?_
       rintro e w6 ⟨rfl,f6⟩
       have HF6:=qj (HF5.out.trans f6);have HT6:=qj (HT5.out.same f6)
       clear f6 CR
       go_wp2_with fail
       have hx1:ByteArray.extract ⟨(y :: E).toArray⟩ 1 (E.length+1)=str E:=by
        have:=extract_str (str (y :: E)) 1 (E.length+1)
        rw [bts_str,List.take_of_length_le (by simp)] at this
        exact this
       have hx2:ByteArray.extract ⟨(y :: E).toArray⟩ 0 1=str [y]:=by
        have:=extract_str (str (y :: E)) 0 1
        rw [bts_str] at this
        exact this
       have HJ6:=HJ.out.same HF6.out
       have HB6:=qj HJ6.tape.blk
       have hjb:=HJ6.apart jb (by simp [tpB])
       have HD6:=qj HJ6.disk
       clear HJ6
       have hmf:∀ (fn:Fn) (first cap:Array Value) (w:World),(Instr.makeFunc fn first cap).run Tryz.prog w=.ok (.func fn first cap) w:=fun _ _ _ _=>rfl
       refine reg_tree (Fr fp w6) 31 (.take 0 (.take 1 (.take 2 (.take 3 (.take 4 (.take 5 (.take 6 (.take 7 (.take 8 (.take 10 (.take 11 (.take 12 (.take 13 (.take 14 (.take 15 (.take 16 (.take 17 (.take 18 (.take 19 (.take 20 (.take 21 (.take 22 (.take 24 (.take 25 (.take 26 (.take 27 (.take 28 (.one 9 (.one 23 (.one 29 (.one 30 (.one 31 .nil)))))))))))))))))))))))))))))))) (by kernel_rfl) (by kernel_rfl) (by kernel_rfl) rfl ?_
       have F0:Fr [] w6 w6.drew:=Fr.drew _ _
       generalize w6.drew=WC at F0 ⊢
       have S0:Fr fp w6 WC:=F0.mono (by simp)
       have hwc:w6.heap.size≤WC.heap.size:=F0.size
       iterate 6 (refine tree_take (v:=?_) rfl rfl rfl S0 (fun w hS=>?_) ?_;rotate_left;(focus (have X:=hS.keep HB6.out hjb;have c2:World.cell? _ ⟨jb,2,none⟩=some (.int .i64 t.size):=qd X 2;have c3:World.cell? _ ⟨jb,3,none⟩=some (.pointer (some ⟨db,0,none⟩)):=qd X 3;clear hS X;go_simp;rfl));simp only [qu,qv,qx])
       iterate 1 (refine tree_take (v:=?_) rfl rfl rfl S0 (fun w hS=>?_) ?_;rotate_left;(focus (have X:=hS.keep HB6.out hjb;have c2:World.cell? _ ⟨jb,2,none⟩=some (.int .i64 t.size):=qd X 2;have c3:World.cell? _ ⟨jb,3,none⟩=some (.pointer (some ⟨db,0,none⟩)):=qd X 3;clear hS X;go_simp;rw [IntWalk.i64_in ((t.size:Int)+1) (by omega)]));simp only [qu,qv,qx])
       iterate 1 (refine tree_take (v:=?_) rfl rfl rfl S0 (fun w hS=>?_) ?_;rotate_left;(focus (have X:=hS.keep HB6.out hjb;have c2:World.cell? _ ⟨jb,2,none⟩=some (.int .i64 t.size):=qd X 2;have c3:World.cell? _ ⟨jb,3,none⟩=some (.pointer (some ⟨db,0,none⟩)):=qd X 3;clear hS X;go_simp;rfl));simp only [qu,qv,qx])
       iterate 1 (refine tree_take (v:=?_) rfl rfl rfl S0 (fun w hS=>?_) ?_;rotate_left;(focus (have X:=hS.keep HB6.out hjb;have c2:World.cell? _ ⟨jb,2,none⟩=some (.int .i64 t.size):=qd X 2;have c3:World.cell? _ ⟨jb,3,none⟩=some (.pointer (some ⟨db,0,none⟩)):=qd X 3;clear hS X;go_simp;rw [if_pos (by omega)]));simp only [qu,qv,qx])
       iterate 12 (refine tree_take (v:=?_) rfl rfl rfl S0 (fun w hS=>?_) ?_;rotate_left;(focus (have X:=hS.keep HB6.out hjb;have c2:World.cell? _ ⟨jb,2,none⟩=some (.int .i64 t.size):=qd X 2;have c3:World.cell? _ ⟨jb,3,none⟩=some (.pointer (some ⟨db,0,none⟩)):=qd X 3;clear hS X;go_simp;rfl));simp only [qu,qv,qx])
       iterate 1 (refine tree_take (v:=?_) rfl rfl rfl S0 (fun w hS=>?_) ?_;rotate_left;(focus (have X:=hS.keep HB6.out hjb;have c2:World.cell? _ ⟨jb,2,none⟩=some (.int .i64 t.size):=qd X 2;have c3:World.cell? _ ⟨jb,3,none⟩=some (.pointer (some ⟨db,0,none⟩)):=qd X 3;clear hS X;go_simp;rw [if_pos (by omega)]));simp only [qu,qv,qx])
       iterate 5 (refine tree_take (v:=?_) rfl rfl rfl S0 (fun w hS=>?_) ?_;rotate_left;(focus (have X:=hS.keep HB6.out hjb;have c2:World.cell? _ ⟨jb,2,none⟩=some (.int .i64 t.size):=qd X 2;have c3:World.cell? _ ⟨jb,3,none⟩=some (.pointer (some ⟨db,0,none⟩)):=qd X 3;clear hS X;go_simp;rfl));simp only [qu,qv,qx])
       refine tree_one rfl rfl (fun K hK=>?_)
       go_simp
       refine (writing_c jb ((t.size:Int)+1) (str E) WC).mono ?_
       rintro e W3 ⟨rfl,hwr,hf3,hz3⟩
       have s3:=S0.trans (hf3.mono (by simp))
       have f3:=F0.trans hf3
       simp only [wrV,Fv.val]
       refine hK _ _ s3 ?_
       clear hK K S0 F0
       try simp only [Act.put,qu,qv,qx]
       refine tree_one rfl rfl (fun K hK=>?_)
       go_simp
       refine (writing_c jb t.size (str [y]) W3).mono ?_
       rintro e W4 ⟨rfl,hwr2,hf4,hz4⟩
       rw [hz3] at hwr2 hz4 ⊢
       have hwr1:=hwr.fr hf4 (by simp)
       have s4:=s3.trans (hf4.mono (by simp))
       have f4:=f3.trans hf4
       simp only [wrV,Fv.val]
       refine hK _ _ s4 ?_
       clear hK K s3 hwr
       try simp only [Act.put,qu,qv,qx]
       refine tree_one rfl rfl (fun K hK=>?_)
       go_simp
       have hf5:Fr [] W4 (W4.alloc (.cells #[(wrV WC.heap.size).val,(syncV db).val,(wrV (WC.heap.size+3)).val,(syncV db).val] 121)):=Fr.alloc _ _ _
       have sl5:=sl_vals (qm W4 (.cells #[(wrV WC.heap.size).val,(syncV db).val,(wrV (WC.heap.size+3)).val,(syncV db).val] 121)) (n:=4) rfl (by decide)
       have s5:=s4.trans (hf5.mono (fp2:=fp) (by simp))
       have f5:=f4.trans hf5
       have wr5:=hwr1.fr hf5 (by simp)
       have wr6:=hwr2.fr hf5 (by simp)
       have hnf:∀ j,w6.heap.size≤j→j∉fp:=fun j hj hm=>by have:=DkAt.lt HD6.out j hm;omega
       have z5:(W4.alloc (.cells #[(wrV WC.heap.size).val,(syncV db).val,(wrV (WC.heap.size+3)).val,(syncV db).val] 121)).heap.size=WC.heap.size+3+3+1:=by simp [hz4]
       have hob:W4.heap.size∉fp:=hnf _ (by omega)
       simp only [wrV,syncV,Fv.val] at s5 f5 wr5 wr6 sl5 z5
       refine hK _ _ s5 ?_
       clear hK K s4 f4 hwr1 hwr2 hf4 hf5 hf3 f3
       try simp only [Act.put,qu,qv,qx]
       generalize World.alloc W4 _=W5 at *
       have RF:=runF_ops (w:=W5) (f5.keep HB6.out (by simp)) hjb [(.write ((t.size:Int)+1) (str E),wrV WC.heap.size),(.sync,syncV db),(.write t.size (str [y]),wrV (WC.heap.size+3)),(.sync,syncV db)] D fp W5 (by
        intro x hx
        simp only [List.mem_cons,List.not_mem_nil,or_false] at hx
        rcases hx with rfl | rfl | rfl | rfl
        ·exact ⟨_,rfl,wr5,⟨hnf _ (by omega),hnf _ (by omega),hnf _ (by omega)⟩,by omega,by omega,by rw [str_size];omega⟩
        ·rfl
        ·exact ⟨_,rfl,wr6,⟨hnf _ (by omega),hnf _ (by omega),hnf _ (by omega)⟩,by omega,by omega,by rw [str_size];simp⟩
        ·rfl) (HD6.out.keep f5 (by simp)) (Upd.refl _ _) (by simp;omega)
       simp only [List.map_cons,List.map_nil] at RF
       have FC:=first_c fp [wrV WC.heap.size,syncV db,wrV (WC.heap.size+3),syncV db] (some ⟨W4.heap.size,0,none⟩) 4 W5 _ sl5 (by rintro g hg;cases hg;exact hob) RF
       rw [show [wrV WC.heap.size,syncV db,wrV (WC.heap.size+3),syncV db].length=4 from rfl,hz4] at FC
       have HFC:=qj FC
       clear FC RF
       refine tree_one rfl rfl (fun K hK=>?_)
       go_simp
       refine HFC.out.mono ?_
       rintro e W6 ⟨n,rfl,hn,fp',h1,h2⟩
       have s6:=s5.trans h2.fr
       refine hK _ _ s6 ?_
       clear hK K HFC s5 sl5 wr5 wr6
       try simp only [Act.put,qu,qv,qx]
       have hfp:∀ i,i∈fp→i < w.heap.size:=DkAt.lt HJ.out.disk
       have HT7:=qj ((HT6.out.same f5).fr h2.fr (fun i hi hm=>by have:=hfp i hm;have:=(HY.out i hi).1;omega))
       have F65:=HF6.out.trans f5
       have HU7:Hid (Upd fp fp' w W6):=qj (Upd.trans ⟨F65.mono (by simp),fun _ h=>.inl h⟩ h2)
       have HJ7:Hid (JnAt W6 jb db fp' (.slice va vn vc) t false (D.runs [.write ((t.size:Int)+1) (str E),.sync,.write t.size (str [y]),.sync]).2):=qj ⟨(HJ.out.tape.same F65).fr h2.fr HJ.out.apart,h1,fun i hi hm=>by
        rcases h2.sub i hm with h | h
        ·exact HJ.out.apart i hi h
        ·have:=tape_lt HJ.out.tape i hi;have:=F65.size;omega⟩
       have HY7:Hid (∀ i,i∈tpB w.heap.size vr'→w.heap.size≤i∧i∉fp'):=qj fun i hi=>⟨(HY.out i hi).1,fun hm=>by
        rcases h2.sub i hm with h | h
        ·have:=hfp i h;have:=(HY.out i hi).1;omega
        ·have:=tape_lt HT6.out i hi;have:=f5.size;omega⟩
       have HN7:Shut (n=(D.runs [.write ((t.size:Int)+1) (str E),.sync,.write t.size (str [y]),.sync]).1):=⟨hn⟩
       clear h1 h2 hn s6 f5 F65 hfp hnf hob
       refine tree_last rfl rfl (fun K hK=>?_)
       go_simp
       try go_upon
       try go_simp
       refine hK _ _ ?_
       clear hK K
       refine noPanicN ?_
       obtain ⟨xa,xn,xc,rfl⟩:∃ xa xn xc,vr'=.slice xa xn xc:=by
        rcases HT7.out.row.2 with ⟨rfl,_⟩ | ⟨g,cap,cur,rfl,_⟩
        ·exact ⟨_,_,_,rfl⟩
        ·exact ⟨_,_,_,rfl⟩
       generalize D.runs [.write ((t.size:Int)+1) (str E),.sync,.write t.size (str [y]),.sync]=R at *
       have jB:=HJ7.out.tape.blk
       have e4:W6.cell? ⟨jb,4,none⟩=some (.bool false):=qd jB 4
       have e0:W6.cell? ⟨jb,0,none⟩=some (.slice va vn vc):=qd jB 0
       have e1:W6.cell? ⟨jb,1,none⟩=some (.string t.head):=qd jB 1
       have e2:W6.cell? ⟨jb,2,none⟩=some (.int .i64 t.size):=qd jB 2
       have g0:=ql jB 0
       have g1:=ql jB 1
       have g2:=ql jB 2
       have g4:=ql jB 4
       have HjB:=qj jB
       clear jB
       by_cases h0:n=0
       ·subst h0
        have q0:W6.cell? ⟨w.heap.size,0,none⟩=some (.slice xa xn xc):=qd HT7.out.blk 0
        have q1:W6.cell? ⟨w.heap.size,1,none⟩=some (.string (t.adds l).head):=qd HT7.out.blk 1
        have q2:W6.cell? ⟨w.heap.size,2,none⟩=some (.int .i64 (t.adds l).size):=qd HT7.out.blk 2
        go_wp2_with fail
        go_ret
        rw [HA3.out,← HN7.out,if_pos rfl]
        have hjw:=blk_lt HJ.out.tape.blk
        have f9:Fr [jb] W6 (((W6.setCell ⟨jb,0,none⟩ (.slice xa xn xc)).setCell ⟨jb,1,none⟩ (.string (t.adds l).head)).setCell ⟨jb,2,none⟩ (.int .i64 (t.adds l).size)):=((Fr.setCell _ _ (by simp)).trans (Fr.setCell _ _ (by simp))).trans (Fr.setCell _ _ (by simp))
        have b7:=qs (i:=0) (.slice xa xn xc) HjB.out
        rw [tpC_set0] at b7
        have b8:=qs (i:=1) (.string (t.adds l).head) b7
        rw [tpC_set1] at b8
        have b9:=qs (i:=2) (.int .i64 (t.adds l).size) b8
        rw [tpC_set2] at b9
        have hown:∀ g,(Value.slice xa xn xc).ownBlock=some g→w.heap.size≤g∧g∉fp':=fun g hg=>HY7.out g (by simp [tpB,hg])
        refine ⟨rfl,.slice xa xn xc,fp',⟨⟨b9,row_fr HT7.out.row f9 (fun g hg=>by have:=(hown g hg).1;simp;omega),fun e=>by have:=(hown _ e).1;omega⟩,HJ7.out.disk.keep f9 (fun i hi=>by simp;rintro rfl;exact HJ7.out.apart _ (by simp [tpB]) hi),fun i hi=>?_⟩,(HU7.out.fr.mono (by simp +contextual)).trans (f9.mono (by simp [tpB])),fun i hi=>?_⟩
        ·simp only [tpB,List.mem_cons,Option.mem_toList] at hi
         rcases hi with rfl | hi
         ·exact HJ7.out.apart _ (by simp [tpB])
         ·exact (hown i hi).2
        ·rcases List.mem_append.1 hi with h | h
         ·simp only [tpB,List.mem_cons,Option.mem_toList] at h
          rcases h with rfl | h
          ·exact .inl (by simp [tpB])
          ·exact .inr (hown i h).1
         ·exact (HU7.out.sub i h).imp (fun h=>by simp [h]) id
       ·have hb:(n != 0)=true:=by simpa using h0
        have H0:=qj h0
        clear h0
        go_wp2_with fail
        go_ret
        rw [HA3.out,← HN7.out,if_neg H0.out]
        have f9:Fr [jb] W6 (W6.setCell ⟨jb,4,none⟩ (.bool true)):=Fr.setCell _ _ (by simp)
        have b9:=qs (i:=4) (.bool true) HjB.out
        refine ⟨rfl,.slice va vn vc,fp',⟨⟨?_,row_fr HJ7.out.tape.row f9 (fun g hg=>by simp;rintro rfl;exact HJ7.out.tape.ne hg),HJ7.out.tape.ne⟩,HJ7.out.disk.keep f9 (fun i hi=>by simp;rintro rfl;exact HJ7.out.apart _ (by simp [tpB]) hi),HJ7.out.apart⟩,(HU7.out.fr.mono (by simp +contextual)).trans (f9.mono (by simp [tpB])),fun i hi=>?_⟩
        ·simpa [tpC] using b9
        ·rcases List.mem_append.1 hi with h | h
         ·exact .inl (by simp [h])
         ·exact (HU7.out.sub i h).imp (fun h=>by simp [h]) id
end Go.Proofs.YtledkokhghjfmaaGreatDoor
