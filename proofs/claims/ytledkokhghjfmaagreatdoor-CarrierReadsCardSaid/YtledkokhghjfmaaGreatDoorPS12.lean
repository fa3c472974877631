/-
  The walks of package disk, second part: inside, Read, Size, Pending, Cut, settle, Sync.
-/
import Derived.Test.YtledkokhghjfmaaGreatDoorPS11
namespace Go.Proofs.YtledkokhghjfmaaGreatDoor
section
open Go.RowKit Go.Lib
set_option maxHeartbeats 1000000 in
theorem inside_c (b bd m:Nat) (off n:Int) (w:World) (hc:w.cell? ⟨b,2,none⟩=some (.slice (some ⟨bd,0,none⟩) m m)) (hm:m≤4194304) (ho:-9223372036854775808≤off) (ho2:off≤9223372036854775807) (hn:-9223372036854775808≤n) (hn2:n≤9223372036854775807) :
  Calls Tryz.prog 129 #[.pointer (some ⟨b,0,none⟩),.int .i64 off,.int .i64 n] w fun e w'=>e=.returned (.bool (insB m off n))∧w=w':=by
 by_cases h1:0≤off
 ·by_cases h2:0≤n
  ·by_cases h3:off≤m
   ·by_cases h4:n≤m - off
    ·have hb:insB m off n=true:=by simp [insB];omega
     rw [hb]
     go_enter Tryz.func129,Tryz.ntmps129
     go_wp2
     go_ret
     exact ⟨rfl,rfl⟩
    ·have hb:insB m off n=false:=by simp [insB];omega
     rw [hb]
     have h4':(m:Int) - off < n:=by omega
     go_enter Tryz.func129,Tryz.ntmps129
     go_wp2
     go_ret
     exact ⟨rfl,rfl⟩
   ·have hb:insB m off n=false:=by simp [insB];omega
    rw [hb]
    have h3':(m:Int) < off:=by omega
    have h3d:decide (off≤(m:Int))=false:=by simp;omega
    go_enter Tryz.func129,Tryz.ntmps129
    go_wp2
    go_ret
    exact ⟨rfl,rfl⟩
  ·have hb:insB m off n=false:=by simp [insB];omega
   rw [hb]
   have h2d:decide (0≤n)=false:=by simp;omega
   go_enter Tryz.func129,Tryz.ntmps129
   go_wp2
   go_ret
   exact ⟨rfl,rfl⟩
 ·have hb:insB m off n=false:=by simp [insB];omega
  rw [hb]
  have h1d:decide (0≤off)=false:=by simp;omega
  go_enter Tryz.func129,Tryz.ntmps129
  go_wp2
  go_ret
  exact ⟨rfl,rfl⟩
set_option maxHeartbeats 400000 in
theorem size_c (b:Nat) (a:Option Addr) (m c:Nat) (w:World) (hc:w.cell? ⟨b,2,none⟩=some (.slice a m c)):Calls Tryz.prog 85 #[.pointer (some ⟨b,0,none⟩)] w fun e w'=>e=.returned (.int .i64 m)∧w=w':=by
 go_enter Tryz.func85,Tryz.ntmps85
 go_wp2
 go_ret
 exact ⟨rfl,rfl⟩
theorem size_dk (b:Nat) (fp:List Nat) (D:Dk) (w:World) (h:DkA w b fp D):Calls Tryz.prog 85 #[.pointer (some ⟨b,0,none⟩)] w fun e w'=>e=.returned (.int .i64 D.dur.length)∧w=w':=by
 obtain ⟨bd,bv,pv,h,rfl⟩:=h
 exact size_c b _ _ _ w (by rw [qd h.str];rfl)
def Dk.cutE (D:Dk) (n:Int):Int:=if D.off then 91 else if n < 0 then 2 else 0
def Dk.cutD (D:Dk) (n:Int):Dk:=if D.off then D else if n < 0 then D else D.cut n.toNat
end
section
open Go.RowKit Go.Lib
set_option maxHeartbeats 400000 in
theorem read_off (b:Nat) (off n:Int) (w:World) (hc:w.cell? ⟨b,0,none⟩=some (.bool true)):Calls Tryz.prog 84 #[.pointer (some ⟨b,0,none⟩),.int .i64 off,.int .i64 n] w fun e w'=>e=.returned (.tuple #[.string ⟨#[]⟩,.int .i64 91])∧w=w':=by
 go_enter Tryz.func84,Tryz.ntmps84
 go_wp2_with (go_at_call 128;refine (check_off _ _ hc).mono ?_;rintro e w' ⟨rfl,rfl⟩)
 go_ret2
 exact ⟨rfl,rfl⟩
set_option maxHeartbeats 400000 in
theorem read_out (b bd m:Nat) (off n:Int) (w:World) (hc:w.cell? ⟨b,0,none⟩=some (.bool false)) (hc2:w.cell? ⟨b,2,none⟩=some (.slice (some ⟨bd,0,none⟩) m m)) (hm:m≤4194304) (ho:-9223372036854775808≤off) (ho2:off≤9223372036854775807) (hn:-9223372036854775808≤n) (hn2:n≤9223372036854775807) (hi:insB m off n=false) :
  Calls Tryz.prog 84 #[.pointer (some ⟨b,0,none⟩),.int .i64 off,.int .i64 n] w fun e w'=>e=.returned (.tuple #[.string ⟨#[]⟩,.int .i64 90])∧w=w':=by
 have cI:=inside_c b bd m off n w hc2 hm ho ho2 hn hn2
 rw [hi] at cI
 have CI:=qj cI;clear cI
 have Hi:=qj hi;clear hi
 go_enter Tryz.func84,Tryz.ntmps84
 go_wp2_with (first | (go_at_call 128;refine (check_on _ _ hc).mono ?_;rintro e w' ⟨rfl,rfl⟩) | (go_at_call 129;refine CI.out.mono ?_;rintro e w' ⟨rfl,rfl⟩))
 go_ret2
 exact ⟨rfl,rfl⟩
set_option maxRecDepth 100000 in
set_option maxHeartbeats 800000 in
theorem read_in (b bd bv m off n:Nat) (l:List UInt8) (w:World) (hc:w.cell? ⟨b,0,none⟩=some (.bool false)) (hc2:w.cell? ⟨b,2,none⟩=some (.slice (some ⟨bd,0,none⟩) m m)) (hc3:w.cell? ⟨b,3,none⟩=some (.slice (some ⟨bv,0,none⟩) m m)) (hm:m≤4194304) (hi:off+n≤m) (hb:BytesAt w bv 5 l) (hl:l.length=m) :
  Calls Tryz.prog 84 #[.pointer (some ⟨b,0,none⟩),.int .i64 off,.int .i64 n] w fun e w'=>e=.returned (.tuple #[.string ⟨((l.drop off).take n).toArray⟩,.int .i64 0])∧w=w':=by
 have cI:=inside_c b bd m off n w hc2 hm (by omega) (by omega) (by omega) (by omega)
 rw [show insB m off n=true by simp [insB];omega] at cI
 have CI:=qj cI;clear cI
 have Hb:=qj hb;clear hb
 have Hl:=qj hl;clear hl
 have ho:off≤m:=by omega
 have hnn:n≤m - off:=by omega
 by_cases he:m=off
 ·subst he
  have h0:n=0:=by omega
  subst h0
  go_enter Tryz.func84,Tryz.ntmps84
  go_wp2_with (first | (go_at_call 128;refine (check_on _ _ hc).mono ?_;rintro e w' ⟨rfl,rfl⟩) | (go_at_call 129;refine CI.out.mono ?_;rintro e w' ⟨rfl,rfl⟩) | ((with_reducible refine wpList_of_wp (o:=⟨some 27,_,_,_,_,_⟩) rfl (fun K hK=>?_));refine (wp_bytes_str (.tmp 26) 39 9 5 rfl Tryz.underlying39 Tryz.underlying5 Tryz.underlying9 bv 0 0 0 l 5 rfl Hb.out (by omega) (hK _ _ ?_))))
  go_ret2
  exact ⟨by simp,rfl⟩
 ·go_enter Tryz.func84,Tryz.ntmps84
  go_wp2_with (first | (go_at_call 128;refine (check_on _ _ hc).mono ?_;rintro e w' ⟨rfl,rfl⟩) | (go_at_call 129;refine CI.out.mono ?_;rintro e w' ⟨rfl,rfl⟩) | ((with_reducible refine wpList_of_wp (o:=⟨some 27,_,_,_,_,_⟩) rfl (fun K hK=>?_));refine (wp_bytes_str (.tmp 26) 39 9 5 rfl Tryz.underlying39 Tryz.underlying5 Tryz.underlying9 bv off n (m - off) l 5 rfl Hb.out (by rw [Hl.out];omega) (hK _ _ ?_))))
  go_ret2
  exact ⟨rfl,rfl⟩
def Dk.readE (D:Dk) (off n:Int):Int:=if D.off then 91 else if insB D.dur.length off n then 0 else 90
def Dk.readS (D:Dk) (off n:Int):List UInt8:=if D.off then [] else if insB D.dur.length off n then (D.vis.drop off.toNat).take n.toNat else []
theorem read_dk (b:Nat) (fp:List Nat) (D:Dk) (off n:Int) (w:World) (h:DkA w b fp D) (ho:-9223372036854775808≤off) (ho2:off≤9223372036854775807) (hn:-9223372036854775808≤n) (hn2:n≤9223372036854775807) :
  Calls Tryz.prog 84 #[.pointer (some ⟨b,0,none⟩),.int .i64 off,.int .i64 n] w fun e w'=>e=.returned (.tuple #[.string ⟨(D.readS off n).toArray⟩,.int .i64 (D.readE off n)])∧w=w':=by
 obtain ⟨bd,bv,pv,h,rfl⟩:=h
 have hm:=h.ok.max
 cases hoff:D.off with
 | true =>
  rw [show D.readS off n=[] by simp [Dk.readS,hoff],show D.readE off n=91 by simp [Dk.readE,hoff]]
  exact read_off b off n w (by rw [qd h.str];simp [hoff])
 | false =>
  cases hi:insB D.dur.length off n with
  | false =>
   rw [show D.readS off n=[] by simp [Dk.readS,hi],show D.readE off n=90 by simp [Dk.readE,hoff,hi]]
   exact read_out b bd _ off n w (by rw [qd h.str];simp [hoff]) (by rw [qd h.str];rfl) hm ho ho2 hn hn2 hi
  | true =>
   rw [show D.readS off n=(D.vis.drop off.toNat).take n.toNat by simp [Dk.readS,hoff,hi],show D.readE off n=0 by simp [Dk.readE,hoff,hi]]
   simp only [insB,decide_eq_true_eq] at hi
   obtain ⟨o,rfl⟩:=Int.eq_ofNat_of_zero_le hi.1
   obtain ⟨k,rfl⟩:=Int.eq_ofNat_of_zero_le hi.2.1
   exact read_in b bd bv _ o k D.vis w (by rw [qd h.str];simp [hoff]) (by rw [qd h.str];rfl) (by rw [qd h.str];rfl) hm (by omega) h.vis h.ok.len
end
section
open Go.RowKit Go.Lib
theorem zeroW (w:World):(zeroValue 273).run Tryz.prog w=.ok (.agg #[.int .i64 0,.string ⟨#[]⟩]) w:=by kernel_rfl
def Settled (b gd:Nat) (ls:List UInt8) (pv:Value) (st:Array Value) (w:World) (e:Ending) (w':World):Prop :=
 e=.returned (.tuple #[])∧∃ pv',Fr (b :: gd :: pv.ownBlock.toList) w w'∧BytesAt w' gd 5 ls∧w'.ownsRow 0 273 2 pv' 0 []∧pv'.ownBlock=pv.ownBlock ∧
  w'.heap[b]?=some (.cells (st.setIfInBounds 4 pv') 158 (0,0))
set_option maxRecDepth 100000 in
set_option maxHeartbeats 800000 in
theorem settle_nil (b gs gd n:Nat) (ls ld:List UInt8) (st:Array Value) (w:World) (hst:w.heap[b]?=some (.cells st 158 (0,0))) (h4:st[4]?=some (.slice none 0 0)) (hs:BytesAt w gs 5 ls) (hd:BytesAt w gd 5 ld) (hls:ls.length=n) (hld:ld.length=n) (hne:b≠gd) :
  Calls Tryz.prog 142 #[.pointer (some ⟨b,0,none⟩),.slice (some ⟨gs,0,none⟩) n n,.slice (some ⟨gd,0,none⟩) n n] w (Settled b gd ls (.slice none 0 0) st w):=by
 have Hs:=qj hs;have Hd:=qj hd;have Hls:=qj hls;have Hld:=qj hld
 have Hst:=qj hst;have H4:=qj h4
 clear hs hd hls hld hst h4
 go_enter Tryz.func142,Tryz.ntmps142
 go_wp2_with (first | ((with_reducible refine wpList_of_wp (o:=⟨some 8,_,_,_,_,_⟩) rfl (fun K hK=>?_));refine (wp_copy_bytes (.tmp 6) (.tmp 7) 39 39 5 rfl Tryz.underlying39 infoU8 gd gs n n n ld ls 5 rfl rfl Hd.out Hs.out Hld.out Hls.out (fun w1 f1 s1 b1=>hK _ _ ?_));clear hK K s1;have K1:=qj (f1.keep Hst.out (by simpa using hne));have c4:w1.cell? ⟨b,4,none⟩=some (.slice none 0 0):=(qd K1.out 4).trans H4.out;have z4:=ql K1.out 4) | ((with_reducible refine wpList_of_wp (o:=⟨none,.call _,_,_,_,_⟩) rfl (fun K hK=>?_));refine wp_clear_nil (.tmp 12) 156 273 rfl Tryz.underlying156 rfl (hK _ _ ?_)))
 go_end0
 refine ⟨rfl,.slice none 0 0,?_,?_,⟨rfl,.inl ⟨rfl,rfl⟩⟩,rfl,qs _ K1.out⟩
 ·exact (f1.mono (by simp)).trans (Fr.setCell _ _ (by simp))
 ·exact heap_setCell_other _ b1 hne.symm
set_option maxRecDepth 100000 in
set_option maxHeartbeats 800000 in
theorem settle_some (b gs gd n g k cap:Nat) (cur:Array Value) (ls ld:List UInt8) (st:Array Value) (w:World) (hst:w.heap[b]?=some (.cells st 158 (0,0))) (h4:st[4]?=some (.slice (some ⟨g,0,none⟩) k cap)) (hs:BytesAt w gs 5 ls) (hd:BytesAt w gd 5 ld) (hls:ls.length=n) (hld:ld.length=n) (hne:b≠gd)
  (hg:w.heap[g]?=some (.cells cur 273 (0,0))) (hk:k≤cap) (hcap:cap≤maxLen) (hcur:cur.size=cap*2) (hg1:g≠b) (hg2:g≠gd) :
  Calls Tryz.prog 142 #[.pointer (some ⟨b,0,none⟩),.slice (some ⟨gs,0,none⟩) n n,.slice (some ⟨gd,0,none⟩) n n] w (Settled b gd ls (.slice (some ⟨g,0,none⟩) k cap) st w):=by
 have Hs:=qj hs;have Hd:=qj hd;have Hls:=qj hls;have Hld:=qj hld
 have Hst:=qj hst;have H4:=qj h4;have Hg:=qj hg;have Hcur:=qj hcur;have Hcap:=qj hcap
 clear hs hd hls hld hst h4 hg hcur hcap
 go_enter Tryz.func142,Tryz.ntmps142
 go_wp2_with (first | ((with_reducible refine wpList_of_wp (o:=⟨some 8,_,_,_,_,_⟩) rfl (fun K hK=>?_));refine (wp_copy_bytes (.tmp 6) (.tmp 7) 39 39 5 rfl Tryz.underlying39 infoU8 gd gs n n n ld ls 5 rfl rfl Hd.out Hs.out Hld.out Hls.out (fun w1 f1 s1 b1=>hK _ _ ?_));clear hK K s1;have K1:=qj (f1.keep Hst.out (by simpa using hne));have KG:=qj (f1.keep Hg.out (by simpa using hg2));have c4:w1.cell? ⟨b,4,none⟩=some (.slice (some ⟨g,0,none⟩) k cap):=(qd K1.out 4).trans H4.out) | ((with_reducible refine wpList_of_wp (o:=⟨none,.call _,_,_,_,_⟩) rfl (fun K hK=>?_));refine (wp_clear_blk (.tmp 12) 156 273 _ rfl Tryz.underlying156 zeroW (by simp [Value.cells,Value.oneCell']) g k cap cur 273 rfl KG.out (by rw [Hcur.out];simp [Value.cells];omega) (by simp [Value.cells]) (fun cs hcs=>hK _ _ ?_));clear hK K;have K2:=qj ((setRow_other w1 g b cs (Ne.symm hg1)).trans K1.out);have c4':(w1.setRow g cs).cell? ⟨b,4,none⟩=some (.slice (some ⟨g,0,none⟩) k cap):=(qd K2.out 4).trans H4.out;have z4:=ql K2.out 4;clear c4;have Hcs:=qj hcs;clear hcs))
 go_end0
 refine ⟨rfl,.slice (some ⟨g,0,none⟩) 0 cap,?_,?_,⟨rfl,.inr ⟨g,cap,cs,rfl,Nat.zero_le _,?_,Nat.zero_le _,Hcap.out,by rw [Hcs.out,Hcur.out],by simp⟩⟩,rfl,qs _ K2.out⟩
 ·exact ((f1.mono (by simp)).trans (Fr.setRow _ _ (by simp [Value.ownBlock]))).trans (Fr.setCell _ _ (by simp))
 ·exact heap_setCell_other _ ((setRow_other _ _ _ _ (Ne.symm hg2)).trans b1) hne.symm
 ·exact heap_setCell_other _ (setRow_heap _ _ _ _ _ _ KG.out) hg1
theorem settle_any (b gs gd n k:Nat) (pv:Value) (xs:List Value) (ls ld:List UInt8) (st:Array Value) (w:World) (hst:w.heap[b]?=some (.cells st 158 (0,0))) (h4:st[4]?=some pv) (hs:BytesAt w gs 5 ls) (hd:BytesAt w gd 5 ld) (hls:ls.length=n) (hld:ld.length=n) (hne:b≠gd)
  (hp:w.ownsRow 0 273 2 pv k xs) (hg:∀ g,pv.ownBlock=some g→g≠b∧g≠gd) :
  Calls Tryz.prog 142 #[.pointer (some ⟨b,0,none⟩),.slice (some ⟨gs,0,none⟩) n n,.slice (some ⟨gd,0,none⟩) n n] w (Settled b gd ls pv st w):=by
 rcases hp.2 with ⟨rfl,_⟩ | ⟨g,cap,cur,rfl,_,hh,h1,h2,h3,_⟩
 ·exact settle_nil b gs gd n ls ld st w hst h4 hs hd hls hld hne
 ·exact settle_some b gs gd n g k cap cur ls ld st w hst h4 hs hd hls hld hne hh h1 h2 h3 (hg g rfl).1 (hg g rfl).2
theorem settle_dur (b bd bv:Nat) (pv:Value) (D:Dk) (w:World) (h:DkI w b bd bv pv D) :
  Calls Tryz.prog 142 #[.pointer (some ⟨b,0,none⟩),.slice (some ⟨bv,0,none⟩) D.dur.length D.dur.length,.slice (some ⟨bd,0,none⟩) D.dur.length D.dur.length] w fun e w' =>
   e=.returned (.tuple #[])∧∃ pv',DkI w' b bd bv pv' D.sync∧pv'.ownBlock=pv.ownBlock∧Fr (b :: bd :: bv :: pv.ownBlock.toList) w w':=by
 refine (settle_any b bv bd _ _ pv _ D.vis D.dur _ w h.str rfl h.vis h.dur h.ok.len rfl h.ne1 h.pend (fun g hg=>⟨(h.nep g hg).1,(h.nep g hg).2.1⟩)).mono ?_
 rintro e w' ⟨rfl,pv',hf,hb,hp,ho,hs⟩
 refine ⟨rfl,pv',⟨⟨rfl,?_,?_,h.ok.left,?_⟩,?_,hb,?_,hp,h.ne1,h.ne2,h.ne3,by rw [ho];exact h.nep⟩,ho,hf.mono (fun i hi=>by simp only [List.mem_cons] at hi ⊢;rcases hi with h | h | h <;> simp [h])⟩
 ·simpa [Dk.sync,h.ok.len] using h.ok.pos
 ·simpa [Dk.sync,h.ok.len] using h.ok.max
 ·simp [Dk.sync]
 ·rw [hs];simp [Dk.sync,h.ok.len]
 ·exact hf.keep h.vis (by
   simp only [List.mem_cons,Option.mem_toList,not_or]
   exact ⟨h.ne2.symm,h.ne3.symm,fun hg=>(h.nep bv hg).2.2 rfl⟩)
end
section
open Go.RowKit Go.Lib
set_option maxHeartbeats 400000 in
theorem sync_off (b:Nat) (w:World) (hc:w.cell? ⟨b,0,none⟩=some (.bool true)):Calls Tryz.prog 90 #[.pointer (some ⟨b,0,none⟩)] w fun e w'=>e=.returned (.int .i64 91)∧w=w':=by
 go_enter Tryz.func90,Tryz.ntmps90
 go_wp2_with (go_at_call 128;refine (check_off _ _ hc).mono ?_;rintro e w' ⟨rfl,rfl⟩)
 go_ret
 exact ⟨rfl,rfl⟩
theorem DkIn.drew {tD tW tB:TypeId} {w:World} {b bd bv:Nat} {pv:Value} {D:Dk} (h:DkIn tD tW tB w b bd bv pv D):DkIn tD tW tB w.drew b bd bv pv D:=h.keep fun _ _=>rfl
set_option maxRecDepth 100000 in
set_option maxHeartbeats 800000 in
theorem sync_on (b bd bv:Nat) (pv:Value) (D:Dk) (w:World) (h:DkI w b bd bv pv D) (ho:D.off=false) :
  Calls Tryz.prog 90 #[.pointer (some ⟨b,0,none⟩)] w fun e w'=>e=.returned (.int .i64 0)∧∃ pv',DkI w' b bd bv pv' D.sync∧pv'.ownBlock=pv.ownBlock∧Fr (b :: bd :: bv :: pv.ownBlock.toList) w w':=by
 have hc:w.cell? ⟨b,0,none⟩=some (.bool false):=by rw [qd h.str];simp [ho]
 have hc2:w.cell? ⟨b,2,none⟩=some (.slice (some ⟨bd,0,none⟩) D.dur.length D.dur.length):=by rw [qd h.str];rfl
 have hc3:w.cell? ⟨b,3,none⟩=some (.slice (some ⟨bv,0,none⟩) D.dur.length D.dur.length):=by rw [qd h.str];rfl
 have cS:=qj (settle_dur b bd bv pv D w.drew h.drew)
 clear h ho
 go_enter Tryz.func90,Tryz.ntmps90
 go_wp2_with (go_at_call 128;refine (check_on _ _ hc).mono ?_;rintro e w' ⟨rfl,rfl⟩)
 go_region_law (go_simp;go_at_call 142;refine cS.out.mono ?_;rintro e w' ⟨rfl,pv',h1,h2,h3⟩)
 all_goals
  have H1:=qj h1;have H2:=qj h2;clear h1 h2
  go_wp2
  go_ret
  exact ⟨rfl,pv',H1.out,H2.out,(Fr.drew _ _).trans h3⟩
theorem madeCells_bytes (n:Nat):madeCells #[Value.int .u8 0] n=(byteCells (List.replicate n 0)).toArray:=by
 apply Array.ext'
 simp only [madeCells,Array.toList_map,Array.toList_range,byteCells]
 apply List.ext_getElem
 ·simp
 ·intro i h1 h2
  simp [Nat.mod_one]
def Dk.new (n:Nat):Dk:={ off:=false,left:=0,dur:=List.replicate n 0,vis:=List.replicate n 0,pend:=[] }
def NewDisk (n:Nat) (w:World) (e:Ending) (w':World):Prop :=
 ∃ b fp,e=.returned (.tuple #[.pointer (some ⟨b,0,none⟩),.int .i64 0])∧DkA w' b fp (Dk.new n)∧Fr [] w w'∧∀ k,k∈fp→w.heap.size≤k
theorem newDk_of (n b bd bv:Nat) (w:World) (h1:1≤n) (h2:n≤4194304)
  (hs:w.heap[b]?=some (.cells #[.bool false,.int .i64 0,.slice (some ⟨bd,0,none⟩) n n,.slice (some ⟨bv,0,none⟩) n n,.slice none 0 0] 158 (0,0)))
  (hd:w.heap[bd]?=some (.cells (madeCells #[Value.int .u8 0] n) 5 (0,0))) (hv:w.heap[bv]?=some (.cells (madeCells #[Value.int .u8 0] n) 5 (0,0)))
  (n1:b≠bd) (n2:b≠bv) (n3:bd≠bv):DkI w b bd bv (.slice none 0 0) (Dk.new n) where
 ok:=⟨by simp [Dk.new],by simpa [Dk.new] using h1,by simpa [Dk.new] using h2,by simp [Dk.new],by simp [Dk.new]⟩
 str:=by simpa [Dk.new] using hs
 dur:=by rw [BytesAt,hd,madeCells_bytes];rfl
 vis:=by rw [BytesAt,hv,madeCells_bytes];rfl
 pend:=⟨rfl,.inl ⟨rfl,rfl⟩⟩
 ne1:=n1
 ne2:=n2
 ne3:=n3
 nep:=fun g hg=>by cases hg
theorem alloc3 (w:World) (x y z:Obj):(((w.alloc x).alloc y).alloc z).drew.heap[w.heap.size]?=some x∧(((w.alloc x).alloc y).alloc z).drew.heap[w.heap.size+1]?=some y∧(((w.alloc x).alloc y).alloc z).drew.heap[w.heap.size+1+1]?=some z:=by
 have e1:(w.alloc x).heap.size=w.heap.size+1:=by simp
 have e2:((w.alloc x).alloc y).heap.size=w.heap.size+1+1:=by simp
 have h0:=qm w x
 have h1:=qm (w.alloc x) y
 have h2:=qm ((w.alloc x).alloc y) z
 rw [e1] at h1
 rw [e2] at h2
 exact ⟨heap_alloc_old z (heap_alloc_old y h0),heap_alloc_old z h1,h2⟩
set_option maxRecDepth 100000 in
set_option maxHeartbeats 800000 in
theorem new_ok (n:Nat) (w:World) (h1:1≤n) (h2:n≤4194304):Calls Tryz.prog 37 #[.int .i64 n] w (NewDisk n w):=by
 have hmk:=fun w=>run_make_row' (P:=Tryz.prog) 39 5 (.int .u8 0) 1 Tryz.underlying39 infoB rfl .i64 .i64 n (by omega) (by omega) w
 have hd:decide ((n:Int) < 1)=false:=by simp;omega
 have hd1:decide ((4194304:Int) < n)=false:=by simp;omega
 go_enter Tryz.func37,Tryz.ntmps37
 go_wp2
 go_region
 all_goals
  go_wp2
  go_ret2
 ·obtain ⟨x0,x1,x2⟩:=alloc3 w (.cells (madeCells #[Value.int .u8 0] n) 5) (.cells (madeCells #[Value.int .u8 0] n) 5) (.cells #[.bool false,.int .i64 0,.slice (some ⟨w.heap.size,0,none⟩) n n,.slice (some ⟨w.heap.size+1,0,none⟩) n n,.slice none 0 0] 158)
  exact ⟨_,_,rfl,⟨_,_,_,newDk_of n _ _ _ _ h1 h2 x2 x0 x1 (by omega) (by omega) (by omega),rfl⟩,(((Fr.alloc _ _ _).trans (Fr.alloc _ _ _)).trans (Fr.alloc _ _ _)).trans (Fr.drew _ _),by simp [Value.ownBlock];omega⟩
 ·obtain ⟨x0,x1,x2⟩:=alloc3 w (.cells (madeCells #[Value.int .u8 0] n) 5) (.cells (madeCells #[Value.int .u8 0] n) 5) (.cells #[.bool false,.int .i64 0,.slice (some ⟨w.heap.size+1,0,none⟩) n n,.slice (some ⟨w.heap.size,0,none⟩) n n,.slice none 0 0] 158)
  exact ⟨_,_,rfl,⟨_,_,_,newDk_of n _ _ _ _ h1 h2 x2 x1 x0 (by omega) (by omega) (by omega),rfl⟩,(((Fr.alloc _ _ _).trans (Fr.alloc _ _ _)).trans (Fr.alloc _ _ _)).trans (Fr.drew _ _),by simp [Value.ownBlock];omega⟩
end
section
open Go.RowKit Go.Lib
set_option maxHeartbeats 400000 in
theorem write_off (b:Nat) (off:Int) (s:ByteArray) (w:World) (hc:w.cell? ⟨b,0,none⟩=some (.bool true)):Calls Tryz.prog 141 #[.pointer (some ⟨b,0,none⟩),.int .i64 off,.string s] w fun e w'=>e=.returned (.int .i64 91)∧w=w':=by
 go_enter Tryz.func141,Tryz.ntmps141
 go_wp2_with (go_at_call 128;refine (check_off _ _ hc).mono ?_;rintro e w' ⟨rfl,rfl⟩)
 go_ret
 exact ⟨rfl,rfl⟩
set_option maxHeartbeats 400000 in
theorem write_out (b bd m:Nat) (off:Int) (s:ByteArray) (w:World) (hc:w.cell? ⟨b,0,none⟩=some (.bool false)) (hc2:w.cell? ⟨b,2,none⟩=some (.slice (some ⟨bd,0,none⟩) m m)) (hm:m≤4194304) (ho:-9223372036854775808≤off) (ho2:off≤9223372036854775807) (hn2:s.size≤9223372036854775807) (hi:insB m off s.size=false) :
  Calls Tryz.prog 141 #[.pointer (some ⟨b,0,none⟩),.int .i64 off,.string s] w fun e w'=>e=.returned (.int .i64 90)∧w=w':=by
 have cI:=inside_c b bd m off s.size w hc2 hm ho ho2 (by omega) (by omega)
 rw [hi] at cI
 have CI:=qj cI;clear cI
 have Hi:=qj hi;clear hi
 go_enter Tryz.func141,Tryz.ntmps141
 go_wp2_with (first | (go_at_call 128;refine (check_on _ _ hc).mono ?_;rintro e w' ⟨rfl,rfl⟩) | (go_at_call 129;refine CI.out.mono ?_;rintro e w' ⟨rfl,rfl⟩))
 go_ret
 exact ⟨rfl,rfl⟩
theorem alloc2 (w:World) (x y:Obj):((w.alloc x).alloc y).heap[w.heap.size]?=some x∧((w.alloc x).alloc y).heap[w.heap.size+1]?=some y:=by
 have e1:(w.alloc x).heap.size=w.heap.size+1:=by simp
 have h0:=qm w x
 have h1:=qm (w.alloc x) y
 rw [e1] at h1
 exact ⟨heap_alloc_old y h0,h1⟩
structure AtOnto (w:World) (b bd bv:Nat) (pv:Value) (D:Dk) (o:Nat) (s:ByteArray) (w2:World):Prop where
 tmp:w2.heap[w.heap.size]?=some (.cells #[.int .i64 o,.string s] 273 (0,0))
 disk:∃ pv',DkI w2 b bd bv pv' { D with pend:=D.pend++[(o,s)] }∧(∀ g,pv'.ownBlock=some g→pv.ownBlock=some g∨w.heap.size≤g)
 fr:Fr (b :: bd :: bv :: pv.ownBlock.toList) w w2
theorem atOnto (b bd bv:Nat) (pv:Value) (D:Dk) (o:Nat) (s:ByteArray) (w w1 w2:World) (h:DkI w b bd bv pv D) (hs:o+s.size≤D.dur.length) (B2:Obj) (g cap:Nat)
  (hw1:Fr pv.ownBlock.toList ((w.alloc (.cells #[.int .i64 o,.string s] 273)).alloc B2) w1)
  (hown:w1.ownsRow 0 273 2 (.slice (some ⟨g,0,none⟩) (D.pend.length+1) cap) (D.pend.length+1) (pendC D.pend++[.int .i64 o,.string s]))
  (hg:pv.ownBlock=some g∨g=w.heap.size+1+1) (hw2:w2.heap=(w1.setCell ⟨b,4,none⟩ (.slice (some ⟨g,0,none⟩) (D.pend.length+1) cap)).heap) (ho:w2.os=w1.os) (ht:w2.tape=w1.tape) (hp:w2.output=w1.output):AtOnto w b bd bv pv D o s w2:=by
 have hlt:=h.fp_lt
 have lb:b < w.heap.size:=hlt b (by simp)
 have lbd:bd < w.heap.size:=hlt bd (by simp)
 have lbv:bv < w.heap.size:=hlt bv (by simp)
 have hgb:g≠b∧g≠bd∧g≠bv:=by
  rcases hg with hg | hg
  ·exact h.nep g hg
  ·omega
 have hne:w.heap.size∉pv.ownBlock.toList:=fun hm=>Nat.lt_irrefl _ (hlt _ (by simp only [List.mem_cons];exact .inr (.inr (.inr hm))))
 have a2:=(alloc2 w (.cells #[.int .i64 o,.string s] 273) B2).1
 have f0:Fr pv.ownBlock.toList w w1:=((Fr.alloc _ _ _).trans (Fr.alloc _ _ _)).trans hw1
 have kp:∀ k,k < w.heap.size→k∉pv.ownBlock.toList→k≠b→w2.heap[k]?=w.heap[k]?:=fun k h1 h2 h3=>by
  rw [hw2,Below.heap_setCell _ _ _ _ h3];exact f0.block k h1 h2
 have nb:∀ k,pv.ownBlock≠some k→k∉pv.ownBlock.toList:=fun k hk hm=>hk (by simpa using hm)
 refine ⟨?_,⟨.slice (some ⟨g,0,none⟩) (D.pend.length+1) cap,⟨⟨h.ok.len,h.ok.pos,h.ok.max,h.ok.left,?_⟩,?_,?_,?_,?_,h.ne1,h.ne2,h.ne3,?_⟩,?_⟩,?_⟩
 ·rw [hw2,Below.heap_setCell _ _ _ _ (by simp;omega)]
  exact hw1.keep a2 hne
 ·intro p hp
  simp only [List.mem_append,List.mem_singleton] at hp
  rcases hp with hp | rfl
  ·exact h.ok.pend p hp
  ·exact hs
 ·rw [hw2]
  have hb1:=f0.keep h.str (nb b fun hm=>(h.nep b hm).1 rfl)
  rw [qs _ hb1]
  simp
 ·exact (kp bd lbd (nb bd fun hm=>(h.nep bd hm).2.1 rfl) h.ne1.symm).trans h.dur
 ·exact (kp bv lbv (nb bv fun hm=>(h.nep bv hm).2.2 rfl) h.ne2.symm).trans h.vis
 ·have:w2.ownsRow 0 273 2 (.slice (some ⟨g,0,none⟩) (D.pend.length+1) cap) (D.pend.length+1) (pendC D.pend++[.int .i64 o,.string s]) :=
   ownsRow_keep hown fun g' hg'=>by
    have:g'=g:=by simpa [Value.ownBlock] using hg'.symm
    subst this
    rw [hw2,Below.heap_setCell _ _ _ _ hgb.1]
  simpa [pendC_snoc] using this
 ·intro g' hg'
  have:g'=g:=by simpa [Value.ownBlock] using hg'.symm
  subst this
  exact hgb
 ·intro g' hg'
  have:g'=g:=by simpa [Value.ownBlock] using hg'.symm
  subst this
  rcases hg with hg | hg
  ·exact .inl hg
  ·exact .inr (by omega)
 ·have f1:Fr (b :: bd :: bv :: pv.ownBlock.toList) w (w1.setCell ⟨b,4,none⟩ (.slice (some ⟨g,0,none⟩) (D.pend.length+1) cap)) :=
   (f0.mono fun i hi=>by simp only [List.mem_cons];exact .inr (.inr (.inr hi))).trans (Fr.setCell _ _ (by simp))
  exact ⟨ho.trans f1.os,ht.trans f1.tape,hp.trans f1.output,by rw [hw2];exact f1.size,fun k h1 h2=>by rw [hw2];exact f1.block k h1 h2⟩
theorem putIn {w w':World} {b bd bv o:Nat} {pv:Value} {D:Dk} {s:ByteArray} (h:DkI w b bd bv pv { D with pend:=D.pend++[(o,s)] }) (hs:o+s.size≤D.dur.length) (hf:Fr [bv] w w') (hb:BytesAt w' bv 5 (paste D.vis o s.data.toList)):DkI w' b bd bv pv (D.put o s) where
 ok:=by
  have h0:D.Ok:=⟨h.ok.len,h.ok.pos,h.ok.max,h.ok.left,fun p hp=>h.ok.pend p (by simp [hp])⟩
  exact h0.put hs
 str:=hf.keep h.str (by simpa using h.ne2)
 dur:=hf.keep h.dur (by simpa using h.ne3)
 vis:=hb
 pend:=ownsRow_keep h.pend fun g hg=>hf.block g (ownsRow_lt h.pend hg) (by simpa using (h.nep g hg).2.2)
 ne1:=h.ne1
 ne2:=h.ne2
 ne3:=h.ne3
 nep:=h.nep
set_option maxRecDepth 100000 in
set_option maxHeartbeats 1000000 in
theorem write_ok (b bd bv o:Nat) (pv:Value) (D:Dk) (s:ByteArray) (w:World) (h:DkI w b bd bv pv D) (ho:D.off=false) (hs:o+s.size≤D.dur.length) (hp:D.pend.length≤4294967296) :
  Calls Tryz.prog 141 #[.pointer (some ⟨b,0,none⟩),.int .i64 o,.string s] w fun e w'=>e=.returned (.int .i64 0)∧∃ pv',DkI w' b bd bv pv' (D.write o s)∧(∀ g,pv'.ownBlock=some g→pv.ownBlock=some g∨w.heap.size≤g)∧Fr (b :: bd :: bv :: pv.ownBlock.toList) w w':=by
 have hc:w.cell? ⟨b,0,none⟩=some (.bool false):=by rw [qd h.str];simp [ho]
 have hc2:w.cell? ⟨b,2,none⟩=some (.slice (some ⟨bd,0,none⟩) D.dur.length D.dur.length):=by rw [qd h.str];rfl
 have hc4:w.cell? ⟨b,4,none⟩=some pv:=by rw [qd h.str];rfl
 have hm:=h.ok.max
 have cI:=inside_c b bd _ o s.size w hc2 hm (by omega) (by omega) (by omega) (by omega)
 rw [show insB D.dur.length o s.size=true by simp [insB];omega] at cI
 have CI:=qj cI;clear cI
 have hbl:=blk_lt h.str
 have Hp:Hid (∀ x y,(((w.alloc x).alloc y).drew).ownsRow 0 273 2 pv D.pend.length (pendC D.pend)):=qj fun x y=>ownsRow_keep h.pend fun g hg =>
  (Below.heap_alloc _ _ _ (by have:=ownsRow_lt h.pend hg;simp;omega)).trans (Below.heap_alloc _ _ _ (ownsRow_lt h.pend hg))
 have HN:Hid (∀ x y,(((w.alloc x).alloc y).drew).heap[w.heap.size+1]?=some y):=qj fun x y=>(alloc2 w x y).2
 have H:=qj h;have Ho:=qj ho;clear h ho
 go_enter Tryz.func141,Tryz.ntmps141
 go_wp2_with (first | (go_at_call 128;refine (check_on _ _ hc).mono ?_;rintro e w' ⟨rfl,rfl⟩) | (go_at_call 129;refine CI.out.mono ?_;rintro e w' ⟨rfl,rfl⟩))
 have nb:b∉pv.ownBlock.toList:=fun hm=>(H.out.nep b (by simpa using hm)).1 rfl
 go_region_law (refine step_of_wp rfl (wp_append_blk (.tmp 27) (.tmp 29) 156 273 _ 2 24 rfl Tryz.underlying156 infoW rfl (by decide) pv D.pend.length (pendC D.pend) rfl (by exact Hp.out _ _) (w.heap.size+1) 1 1 _ _ _ rfl (by exact HN.out _ _) rfl (by simp [Value.oneCell']) (by decide) (by omega) (by omega) ?_);intro g cap w1 hown hfr hat;have KB:=qj (hfr.keep (heap_alloc_old _ (heap_alloc_old _ H.out.str)) nb);have c4:w1.cell? ⟨b,4,none⟩=some pv:=qd KB.out 4;have z4:=ql KB.out 4;have Hown:=qj hown;have Hat:=qj hat;clear hown hat)
 all_goals
  have HA:AtOnto w b bd bv pv D o s (w1.setCell ⟨b,4,none⟩ (.slice (some ⟨g,0,none⟩) (D.pend.length+1) cap)):=atOnto b bd bv pv D o s w w1 _ H.out hs _ g cap ((Fr.drew _ _).trans hfr) (by simpa using Hown.out) (by simpa using Hat.out) rfl rfl rfl rfl
  generalize w1.setCell ⟨b,4,none⟩ (.slice (some ⟨g,0,none⟩) (D.pend.length+1) cap)=w2 at HA ⊢
  clear c4 z4 KB Hown Hat hfr
  obtain ⟨tmp,⟨pv',hd,hsub⟩,fr⟩:=HA
  have t0:w2.cell? ⟨w.heap.size,0,none⟩=some (.int .i64 o):=qd tmp 0
  have t1:w2.cell? ⟨w.heap.size,1,none⟩=some (.string s):=qd tmp 1
  have c3:w2.cell? ⟨b,3,none⟩=some (.slice (some ⟨bv,0,none⟩) D.dur.length D.dur.length):=qd hd.str 3
  have CO:=qj (onto_any o s bv D.dur.length D.vis w2.drew hs hm hd.vis hd.ok.len)
  have Hd:=qj hd;have Hsub:=qj hsub;have Tmp:=qj tmp;clear hd hsub tmp
  go_wp2
  go_region_law (go_simp;go_at_call 174;refine CO.out.mono ?_;rintro e w3 ⟨rfl,f3,b3⟩)
  all_goals
   have Hu:=qj (used_dk b bd bv pv' (D.put o s) w3 (putIn Hd.out hs ((Fr.drew _ _).trans f3) b3))
   clear b3
   go_wp2_with (go_at_call 175;refine Hu.out.mono ?_;rintro e w4 ⟨rfl,d4,f4⟩)
   go_ret
   exact ⟨rfl,pv',d4,Hsub.out,(fr.trans ((Fr.drew _ _).trans (f3.mono (by simp)))).trans (f4.mono (by simp))⟩
def Dk.writeE (D:Dk) (off:Int) (s:ByteArray):Int:=if D.off then 91 else if insB D.dur.length off s.size then 0 else 90
def Dk.writeD (D:Dk) (off:Int) (s:ByteArray):Dk:=if D.off then D else if insB D.dur.length off s.size then D.write off.toNat s else D
def DkStep (b:Nat) (fp:List Nat) (r:Value) (D:Dk) (w:World) (e:Ending) (w':World):Prop:=e=.returned r∧∃ fp',DkA w' b fp' D∧Upd fp fp' w w'
theorem dkStep_of {b bd bv:Nat} {pv:Value} {r:Value} {D:Dk} {w w':World} {e:Ending} (he:e=.returned r) {pv':Value} (h:DkI w' b bd bv pv' D) (hs:∀ g,pv'.ownBlock=some g→pv.ownBlock=some g∨w.heap.size≤g)
  (hf:Fr (b :: bd :: bv :: pv.ownBlock.toList) w w'):DkStep b (b :: bd :: bv :: pv.ownBlock.toList) r D w e w' :=
 ⟨he,_,⟨bd,bv,pv',h,rfl⟩,hf,fun k hk=>by
  simp only [List.mem_cons,Option.mem_toList] at hk ⊢
  rcases hk with hk | hk | hk | hk
  ·exact .inl (.inl hk)
  ·exact .inl (.inr (.inl hk))
  ·exact .inl (.inr (.inr (.inl hk)))
  ·rcases hs k hk with h | h
   ·exact .inl (.inr (.inr (.inr h)))
   ·exact .inr h⟩
theorem dkStep_same {b:Nat} {fp:List Nat} {r:Value} {D:Dk} {w w':World} {e:Ending} (he:e=.returned r) (h:DkA w b fp D) (hw:w=w'):DkStep b fp r D w e w':=by
 subst hw;exact ⟨he,fp,h,Upd.refl _ _⟩
theorem write_dk (b:Nat) (fp:List Nat) (D:Dk) (off:Int) (s:ByteArray) (w:World) (h:DkA w b fp D) (ho:-9223372036854775808≤off) (ho2:off≤9223372036854775807) (hs:s.size≤9223372036854775807) (hp:D.pend.length≤4294967296) :
  Calls Tryz.prog 141 #[.pointer (some ⟨b,0,none⟩),.int .i64 off,.string s] w (DkStep b fp (.int .i64 (D.writeE off s)) (D.writeD off s) w):=by
 have h0:=h
 obtain ⟨bd,bv,pv,h,rfl⟩:=h
 have hm:=h.ok.max
 cases hoff:D.off with
 | true =>
  rw [show D.writeE off s=91 by simp [Dk.writeE,hoff],show D.writeD off s=D by simp [Dk.writeD,hoff]]
  exact (write_off b off s w (by rw [qd h.str];simp [hoff])).mono fun e w' ⟨he,hw⟩=>dkStep_same he h0 hw
 | false =>
  cases hi:insB D.dur.length off s.size with
  | false =>
   rw [show D.writeE off s=90 by simp [Dk.writeE,hoff,hi],show D.writeD off s=D by simp [Dk.writeD,hi]]
   exact (write_out b bd _ off s w (by rw [qd h.str];simp [hoff]) (by rw [qd h.str];rfl) hm ho ho2 hs hi).mono fun e w' ⟨he,hw⟩=>dkStep_same he h0 hw
  | true =>
   rw [show D.writeE off s=0 by simp [Dk.writeE,hoff,hi],show D.writeD off s=D.write off.toNat s by simp [Dk.writeD,hoff,hi]]
   simp only [insB,decide_eq_true_eq] at hi
   obtain ⟨o,rfl⟩:=Int.eq_ofNat_of_zero_le hi.1
   exact (write_ok b bd bv o pv D s w h hoff (by omega) hp).mono fun e w' ⟨he,pv',h1,h2,h3⟩=>dkStep_of he h1 h2 h3
def Dk.syncE (D:Dk):Int:=if D.off then 91 else 0
def Dk.syncD (D:Dk):Dk:=if D.off then D else D.sync
theorem sync_dk (b:Nat) (fp:List Nat) (D:Dk) (w:World) (h:DkA w b fp D):Calls Tryz.prog 90 #[.pointer (some ⟨b,0,none⟩)] w (DkStep b fp (.int .i64 D.syncE) D.syncD w):=by
 have h0:=h
 obtain ⟨bd,bv,pv,h,rfl⟩:=h
 cases hoff:D.off with
 | true =>
  rw [show D.syncE=91 by simp [Dk.syncE,hoff],show D.syncD=D by simp [Dk.syncD,hoff]]
  exact (sync_off b w (by rw [qd h.str];simp [hoff])).mono fun e w' ⟨he,hw⟩=>dkStep_same he h0 hw
 | false =>
  rw [show D.syncE=0 by simp [Dk.syncE,hoff],show D.syncD=D.sync by simp [Dk.syncD,hoff]]
  exact (sync_on b bd bv pv D w h hoff).mono fun e w' ⟨he,pv',h1,h2,h3⟩=>dkStep_of he h1 (fun g hg=>.inl (h2 ▸ hg)) h3
end
section
open Go.RowKit Go.Lib
structure Fv where
 k:FuncId
 pre:Array Value
 cap:Array Value
def Fv.val (f:Fv):Value:=.func (.func f.k) f.pre f.cap
def Ent (k:FuncId):Prop:=∀ (args:Array Value) (w:World),(callFunc k args).run Tryz.prog w=.ok (.enter k args) w
def RunF (S:List Nat) (w:World):List Fv→World→(Int→World→Prop)→Prop
 | [],wr,R=>R 0 wr
 | f :: fs,wr,R=>Ent f.k∧Calls Tryz.prog f.k (f.pre++f.cap) wr fun e w'=>∃ n:Int,e=.returned (.int .i64 n)∧Fr S w w'∧if n=0 then RunF S w fs w' R else R n w'
theorem runF_drop (S:List Nat) (w:World) (fs:List Fv) (k:Nat) (hk:k < fs.length) (wr:World) (R:Int→World→Prop) (h:RunF S w (fs.drop k) wr R) :
  Ent fs[k].k∧Calls Tryz.prog fs[k].k (fs[k].pre++fs[k].cap) wr fun e w'=>∃ n:Int,e=.returned (.int .i64 n)∧Fr S w w'∧if n=0 then RunF S w (fs.drop (k+1)) w' R else R n w':=by
 rw [List.drop_eq_getElem_cons hk] at h
 exact h
set_option maxRecDepth 100000 in
set_option maxHeartbeats 4000000 in
theorem first_c (S:List Nat) (fs:List Fv) (ad:Option Addr) (cap:Nat) (w:World) (R:Int→World→Prop) (hs:Sl w (.slice ad fs.length cap) fs.length (fs.map Fv.val)) (hg:∀ g,(Value.slice ad fs.length cap).ownBlock=some g→g∉S) (hr:RunF S w fs w R) :
  Calls Tryz.prog 88 #[.slice ad fs.length cap] w fun e w'=>∃ n:Int,e=.returned (.int .i64 n)∧R n w':=by
 have hlen:=hs.len
 have HS:=qj hs;have HG:=qj hg;have HR:=qj hr
 clear hs hg hr
 go_enter Tryz.func88,Tryz.ntmps88
 go_wp2_with fail
 go_loopw [8] (fun i wr=>∃ (k:Nat),i=.int .i64 k∧k≤fs.length∧Hid (RunF S w (fs.drop k) wr R)∧Hid (Fr S w wr)) (fun i _=>fs.length - (RowKit.intOf i).toNat)
 case atStart=>exact ⟨0,rfl,Nat.zero_le _,HR,qj (Fr.refl _ _)⟩
 case round =>
  obtain ⟨k,rfl,hk,HRk,HF⟩:=hrel
  by_cases hlt:k < fs.length
  ·obtain ⟨b,off,rfl,hc⟩:=(HS.out.fr HF.out HG.out).at_ (by omega)
   have ck:wr.cell? ⟨b,off+k,none⟩=some (.func (.func fs[k].k) fs[k].pre fs[k].cap):=hc k _ (by simp [hlt];rfl)
   have hE:=(runF_drop S w fs k hlt wr R HRk.out).1
   have HC:=qj (runF_drop S w fs k hlt wr R HRk.out).2
   clear hc HRk
   generalize hf:fs[k]=f at *
   obtain ⟨fk,fp,fc⟩:=f
   simp only at ck HC hE
   unfold Ent at hE
   clear hf
   go_wp2_with fail
   refine HC.out.mono ?_
   rintro e w2 ⟨n,rfl,hf2,hn⟩
   have HF2:=qj hf2
   clear hE hf2 HC
   by_cases h0:n=0
   ·subst h0
    rw [if_pos rfl] at hn
    have HN:=qj hn
    clear hn
    go_wp2_with fail
    go_roundw
    case rel=>exact ⟨k+1,by go_num,hlt,HN,HF2⟩
    case measure=>simp [RowKit.intOf];omega
   ·rw [if_neg h0] at hn
    have HN:=qj hn
    have hb:(n != 0)=true:=by simpa using h0
    clear hn h0
    go_wp2_with fail
    go_ret
    exact ⟨n,rfl,HN.out⟩
  ·have he:k=fs.length:=by omega
   subst he
   have HE:=qj HRk.out
   go_wp2_with fail
   go_ret
   refine ⟨0,rfl,?_⟩
   have h:=HRk.out
   rw [List.drop_length] at h
   exact h
end
section
open Go.RowKit Go.Lib
theorem DkStep.pre {b:Nat} {fp:List Nat} {r:Value} {D:Dk} {w w1 w2:World} {e:Ending} (h:DkStep b fp r D w1 e w2) (hf:Fr [] w w1):DkStep b fp r D w e w2 :=
 ⟨h.1,h.2.imp fun _ k=>⟨k.1,Upd.trans ⟨hf.mono (by simp),fun _ h=>.inl h⟩ k.2⟩⟩
structure WrAt (w:World) (k jb:Nat) (at_:Int) (s:ByteArray):Prop where
 j:w.heap[k]?=some (.cells #[.pointer (some ⟨jb,0,none⟩)] 102 (0,0))
 a:w.heap[k+1]?=some (.cells #[.int .i64 at_] 3 (0,0))
 s:w.heap[k+2]?=some (.cells #[.string s] 9 (0,0))
def wrV (k:Nat):Fv:=⟨140,#[],#[.pointer (some ⟨k,0,none⟩),.pointer (some ⟨k+1,0,none⟩),.pointer (some ⟨k+2,0,none⟩)]⟩
theorem WrAt.fr {w w':World} {k jb:Nat} {at_:Int} {s:ByteArray} {S:List Nat} (h:WrAt w k jb at_ s) (hf:Fr S w w') (hS:k∉S∧k+1∉S∧k+2∉S):WrAt w' k jb at_ s :=
 ⟨hf.keep h.j hS.1,hf.keep h.a hS.2.1,hf.keep h.s hS.2.2⟩
set_option maxRecDepth 100000 in
theorem writing_c (jb:Nat) (at_:Int) (s:ByteArray) (w:World):Calls Tryz.prog 89 #[.pointer (some ⟨jb,0,none⟩),.int .i64 at_,.string s] w fun e w'=>e=.returned (wrV w.heap.size).val∧WrAt w' w.heap.size jb at_ s∧Fr [] w w'∧w'.heap.size=w.heap.size+3:=by
 have hmf:∀ (fn:Fn) (first cap:Array Value) (w:World),(Instr.makeFunc fn first cap).run Tryz.prog w=.ok (.func fn first cap) w:=fun _ _ _ _=>rfl
 go_enter Tryz.func89,Tryz.ntmps89
 go_wp2_with fail
 go_ret
 refine ⟨rfl,?_,((Fr.alloc _ _ _).trans (Fr.alloc _ _ _)).trans (Fr.alloc _ _ _),by simp⟩
 have e1:(w.alloc (.cells #[.pointer (some ⟨jb,0,none⟩)] 102)).heap.size=w.heap.size+1:=by simp
 have e2:((w.alloc (.cells #[.pointer (some ⟨jb,0,none⟩)] 102)).alloc (.cells #[.int .i64 at_] 3)).heap.size=w.heap.size+2:=by simp
 have h0:=qm w (.cells #[.pointer (some ⟨jb,0,none⟩)] 102)
 have h1:=qm (w.alloc (.cells #[.pointer (some ⟨jb,0,none⟩)] 102)) (.cells #[.int .i64 at_] 3)
 have h2:=qm ((w.alloc (.cells #[.pointer (some ⟨jb,0,none⟩)] 102)).alloc (.cells #[.int .i64 at_] 3)) (.cells #[.string s] 9)
 rw [e1] at h1
 rw [e2] at h2
 exact ⟨heap_alloc_old _ (heap_alloc_old _ h0),heap_alloc_old _ h1,h2⟩
set_option maxRecDepth 100000 in
set_option maxHeartbeats 1000000 in
theorem writing1_c (k jb db:Nat) (fp:List Nat) (D:Dk) (at_:Int) (s:ByteArray) (vr:Value) (hd:ByteArray) (n:Nat) (br:Value) (w:World) (hW:WrAt w k jb at_ s) (hJ:w.heap[jb]?=some (.cells (tpC vr hd n [.pointer (some ⟨db,0,none⟩),br]) 177 (0,0))) (h:DkA w db fp D) (hj:jb∉fp) (hk:k∉fp∧k+1∉fp∧k+2∉fp)
  (ho:-9223372036854775808≤at_) (ho2:at_≤9223372036854775807) (hs:s.size≤9223372036854775807) (hp:D.pend.length≤4294967296) :
  Calls Tryz.prog 140 (wrV k).cap w (DkStep db fp (.int .i64 (D.writeE at_ s)) (D.writeD at_ s) w):=by
 have CW:=qj fun W (hf:Fr [] w W)=>write_dk db fp D at_ s W (h.keep hf (by simp)) ho ho2 hs hp
 have HW:=qj hW;have HJ:=qj hJ;have HK:=qj hk;have HJF:=qj hj
 clear hW hJ h hk hj
 unfold wrV
 simp only
 go_enter Tryz.func140,Tryz.ntmps140
 go_wp2_with fail
 refine reg_tree (Fr fp w) 7 (.take 0 (.take 1 (.take 2 (.take 3 (.take 4 (.take 5 (.one 6 (.one 7 .nil)))))))) (by kernel_rfl) (by kernel_rfl) (by kernel_rfl) rfl ?_
 have F0:Fr [] w w.drew:=Fr.drew _ _
 generalize w.drew=WC at F0 ⊢
 have S0:Fr fp w WC:=F0.mono (by simp)
 iterate 6 (refine tree_take (v:=?_) rfl rfl rfl S0 (fun w hS=>?_) ?_;rotate_left;(focus (have X:=HW.out.fr hS HK.out;have c0:=qd X.j 0;have c1:=qd X.a 0;have c2:=qd X.s 0;have c3:World.cell? _ ⟨jb,3,none⟩=some (.pointer (some ⟨db,0,none⟩)):=qd (hS.keep HJ.out HJF.out) 3;clear hS X;go_simp;rfl));simp only [qu,qv,qx])
 refine tree_one rfl rfl (fun K hK=>?_)
 go_simp
 refine (CW.out _ F0).mono ?_
 rintro e w2 hst
 have HST:=qj (hst.pre F0)
 have F2:=S0.trans (by obtain ⟨_,_,_,u⟩:=hst;exact u.fr)
 obtain ⟨rfl,-⟩:=hst
 refine hK _ _ F2 ?_
 clear hK K S0
 try simp only [Act.put,qu,qv,qx]
 refine tree_last rfl rfl (fun K hK=>?_)
 go_simp
 try go_upon
 try go_simp
 refine hK _ _ ?_
 clear hK K
 refine noPanicN ?_
 go_wp2_with fail
 go_ret
 exact HST.out
end
end Go.Proofs.YtledkokhghjfmaaGreatDoor
