/-
  digest: Leaf, Node.
-/
import Derived.Test.YtledkokhghjfmaaGreatDoorPS11
import Derived.Test.YtledkokhghjfmaaGreatDoorPS10
import Derived.Test.YtledkokhghjfmaaGreatDoorPS03
import Derived.Test.YtledkokhghjfmaaGreatDoorPCX
namespace Go.Proofs.YtledkokhghjfmaaGreatDoor
section
open Go.RowKit Go.Lib
def leafM (s:List UInt8):ByteArray:=shaB (str (0 :: s))
def nodeM (a b:ByteArray):ByteArray:=shaB (str (1 :: (bts a++bts b)))
theorem join1 (h:ByteArray):Lib.join ([h].map (·.data.toList)) (⟨#[]⟩:ByteArray).data.toList=bts h:=by simp [Lib.join,bts]
set_option maxRecDepth 100000 in
set_option maxHeartbeats 4000000 in
theorem marked1a_c (m h:ByteArray) (hs:m.size+h.size≤1000000000000) (b mb:Nat) (w:World) (hR:RndAt w) (hm:w.heap[mb]?=some (.cells #[.string m] 9 (0,0))) (hb:w.heap[b]?=some (.cells #[.string h] 9 (0,0))) :
  Calls Tryz.prog 164 #[.slice (some ⟨b,0,none⟩) 1 1,.pointer (some ⟨mb,0,none⟩)] w fun e w'=>e=.returned (.string (shaB (str (bts m++(bts h)))))∧Fr [] w w':=by
 have CJ:∀ W:World,Fr [] w W→Calls Tryz.prog 166 #[.slice (some ⟨b,0,none⟩) 1 1,.string ⟨#[]⟩] W fun e w'=>e=.returned (.string (str (bts h)))∧Fr [] W w':=by
  intro W hf
  have hb2:=hf.keep hb (by simp)
  have h1:=Tryz.strings_Join b 0 1 [h] ⟨#[]⟩ W (by
   intro j x hx
   rw [qd hb2]
   match j,hx with
   | 0,hx=>simp at hx ⊢;exact hx
   | j+1,hx=>simp at hx) (blk_lt hb2) (by simp) (by simp) (by rw [join1,bts_len];omega)
  rw [join1] at h1
  exact h1.mono fun e w' ⟨he,hbw⟩=>⟨he,Fr.of_below [] hbw⟩
 have CS:∀ W:World,Fr [] w W→Calls Tryz.prog 165 #[.string (str (bts m++(bts h)))] W fun e w'=>e=.returned (.string (shaB (str (bts m++(bts h)))))∧Fr [] W w':=fun W hf =>
  sum_c _ (by rw [str_size];simp only [List.length_append,bts_len];omega) W (hR.same hf (by simp))
 have HJ:=qj CJ;have HS:=qj CS
 have c0:=qd hm 0
 have hsz:(str (bts h)).size=h.size:=by rw [str_size];simp only [bts_len]
 have hcat:m++str (bts h)=str (bts m++(bts h)):=by
  apply ByteArray.ext;simp [str,bts]
 have HC:=qj hcat
 have HZ:=qj hsz
 clear CJ CS hm hb hR hsz hcat
 go_enter Tryz.func164,Tryz.ntmps164
 go_wp2_with fail
 refine reg_mix (Fr [] w) [0,1,2,3,4,5] (by kernel_rfl) (by kernel_rfl) (by kernel_rfl) rfl (Fr.drew _ _) ?_
 have FC:Fr [] w w.drew:=Fr.drew _ _
 generalize w.drew=WC at FC ⊢
 iterate 2 (refine mix_take1 (v:=?_) rfl rfl rfl rfl (fun w hS=>?_) ?_;rotate_left;(focus (have s0:=hS.cel c0 (by simp);clear hS;go_simp;rfl));simp only [qu,qv,qx])
 refine mix_do rfl rfl rfl (fun K hK=>?_)
 go_simp
 refine (HJ.out _ FC).mono ?_
 rintro e wq ⟨rfl,fq⟩
 have FC:=FC.trans fq
 refine hK _ _ FC ?_
 clear hK K fq
 try simp only [Act.put,qu,qv,qx]
 (refine mix_take1 (v:=?_) rfl rfl rfl rfl (fun w hS=>?_) ?_;rotate_left;(focus (clear hS;go_simp;rw [if_neg (by rw [HZ.out];omega),HC.out]));simp only [qu,qv,qx])
 refine mix_do rfl rfl rfl (fun K hK=>?_)
 go_simp
 refine (HS.out _ FC).mono ?_
 rintro e wr ⟨rfl,fq⟩
 have FC:=FC.trans fq
 refine hK _ _ FC ?_
 clear hK K fq
 try simp only [Act.put,qu,qv,qx]
 (refine mix_take1 (v:=?_) rfl rfl rfl rfl (fun w hS=>?_) ?_;rotate_left;(focus (clear hS;go_simp;rfl));simp only [qu,qv,qx])
 refine mix_end ?_
 have HF:=qj FC
 clear FC c0
 go_wp2_with fail
 go_ret
 exact ⟨rfl,HF.out⟩
set_option maxRecDepth 100000 in
theorem leaf_c (s:ByteArray) (hs:s.size≤900000000000) (w:World) (hR:RndAt w):Calls Tryz.prog 82 #[.string s] w fun e w'=>e=.returned (.string (leafM (bts s)))∧Fr [] w w':=by
 have HR:=qj hR
 clear hR
 go_enter Tryz.func82,Tryz.ntmps82
 go_wp2_with fail
 refine (marked_c _ _).mono ?_
 rintro e w1 ⟨rfl,hw1⟩
 have F1:=Fr.alloc [] w (.cells #[.string ⟨#[0]⟩] 9)
 have B1:=qm w (.cells #[.string ⟨#[0]⟩] 9)
 rw [← hw1] at F1 B1
 have F2:=Fr.alloc [] w1 (.cells #[.string s] 9)
 have CM:=qj (marked1a_c ⟨#[0]⟩ s (by show 1+s.size≤_;omega) w1.heap.size w.heap.size _ (HR.out.same (F1.trans F2) (by simp)) (F2.keep B1 (by simp)) (qm _ _))
 have HF:=qj (F1.trans F2)
 clear hw1 F1 B1 F2
 go_wp2_with fail
 refine CM.out.mono ?_
 rintro e w2 ⟨rfl,f2⟩
 have HF2:=qj (HF.out.trans f2)
 clear f2
 go_wp2_with fail
 go_ret
 exact ⟨rfl,HF2.out⟩
set_option maxRecDepth 100000 in
theorem node_c (h r:ByteArray) (hs:h.size+r.size≤900000000000) (w:World) (hR:RndAt w):Calls Tryz.prog 81 #[.string h,.string r] w fun e w'=>e=.returned (.string (nodeM h r))∧Fr [] w w':=by
 have HR:=qj hR
 clear hR
 go_enter Tryz.func81,Tryz.ntmps81
 go_wp2_with fail
 refine (marked_c _ _).mono ?_
 rintro e w1 ⟨rfl,hw1⟩
 have F1:=Fr.alloc [] w (.cells #[.string ⟨#[1]⟩] 9)
 have B1:=qm w (.cells #[.string ⟨#[1]⟩] 9)
 rw [← hw1] at F1 B1
 have F2:=Fr.alloc [] w1 (.cells #[.string h,.string r] 9)
 have CM:=qj (marked1_c ⟨#[1]⟩ h r (by show 1+h.size+r.size≤_;omega) w1.heap.size w.heap.size _ (HR.out.same (F1.trans F2) (by simp)) (F2.keep B1 (by simp)) (qm _ _))
 have HF:=qj (F1.trans F2)
 clear hw1 F1 B1 F2
 go_wp2_with fail
 refine CM.out.mono ?_
 rintro e w2 ⟨rfl,f2⟩
 have HF2:=qj (HF.out.trans f2)
 clear f2
 go_wp2_with fail
 go_ret
 exact ⟨rfl,HF2.out⟩
end
section
open Go.RowKit Go.Shelf Go.Lib
attribute [local go_sem] Oper.semAt_some
theorem zig_m1:bits .xor .u64 (IntKind.u64.wrap (IntKind.u64.wrap (-1)*2)) (IntKind.u64.wrap (-1 / 9223372036854775808))=((1:Nat):Int):=by kernel_rfl
set_option maxRecDepth 100000 in
set_option maxHeartbeats 4000000 in
theorem putZ_c (n:Int) (z:Nat) (HZB:Shut (bits .xor .u64 (IntKind.u64.wrap (IntKind.u64.wrap n*2)) (IntKind.u64.wrap (n / 9223372036854775808))=(z:Int))) (hn:-1≤n∧n≤4611686018427387903) (hz:z≤9223372036854775806) (w:World):Calls Tryz.prog 69 #[.int .i64 n] w fun e w'=>e=.returned (.tuple #[.string (str (encZ z)),.int .i64 0])∧Fr [] w w':=by
 refine (callsIn_wide (n:=3)).1 (callsIn_of_wp_marks Tryz.func69 rfl trivial ?_ rfl)
 simp only [Tryz.ntmps69,List.size_toArray,List.length_cons,List.length_nil,Nat.reduceAdd,Nat.reduceSub,Array.replicate_succ,Array.replicate_zero,List.push_toArray,List.append_toArray,List.nil_append,List.cons_append]
 refine wpIn_wide.2 ?_
 go_wp2_with fail
 rw [HZB.out]
 refine (groups_c _ _).mono ?_
 rintro e W0 ⟨rfl,hW0⟩
 have hB0:W0.heap[w.heap.size]?=some (.cells #[.slice none 0 0] 39 (0,0)):=by rw [hW0];exact heap_alloc_old _ (qm _ _)
 have hX0:W0.heap[w.heap.size+1]?=some (.cells #[.int .u64 (z:Int)] 210 (0,0)):=by
  rw [hW0]
  have:=qm (w.alloc (.cells #[.slice none 0 0] 39)) (.cells #[.int .u64 (z:Int)] 210)
  simpa using this
 have F0:Fr [] w W0:=by rw [hW0];exact (Fr.alloc _ _ _).trans (Fr.alloc _ _ _)
 have hz0:W0.heap.size=w.heap.size+2:=by rw [hW0];simp
 have HB0:=qj hB0;have HX0:=qj hX0;have HF0:=qj F0;have HZ0:=qj hz0
 have hgl:=(grpL_len 9 z (by omega)).1
 have hgp:=(grpL_len 9 z (by omega)).2
 clear hB0 hX0 F0 hz0 hW0
 go_wp2_with fail
 refine (wpIn_wide (n:=3)).1 ?_
 apply range_wr (F:=Fence.wide) (n:=3) rfl (by omega) (gf:=161) (lb:=#[.pointer (some ⟨w.heap.size+1,0,none⟩)]) rfl trivial (fun _ _=>rfl) (by rw [HZ0.out];omega)
  (groups_seq 2 (w.heap.size+1) w.heap.size z W0 (by omega) HX0.out (by omega)) KpO.trans (fun W l o o' hl h=>KpO.put W l o o' hl h) (fun _=>rfl)
  (PiI W0 w.heap.size (w.heap.size+1)) (piI_fr (by rw [HZ0.out];omega) (by omega)) (piI_own (by rw [HZ0.out];omega)) ⟨_,HB0.out,World.ownsRow_nil _ _ _ _,Fr.refl _ _⟩
 case hassign =>
  intro l x W K hK
  gi_wp2
  exact hK
 case hbody =>
  rintro l pre ⟨g,last⟩ W ⟨v,h1,h2,h3⟩ hlt
  have c0:=qd h1 0
  have hsz:=h3.size
  have hBo:w.heap.size < W0.heap.size:=by rw [HZ0.out];omega
  obtain ⟨i0,hi,hz0,hz1,hz2⟩:=info_parts infoBy
  have H1:=qj h1;have H2:=qj h2;have H3:=qj h3;have HI:=qj hi;have HI0:=qj hz0;have HI1:=qj hz1;have HI2:=qj hz2
  clear h1 h2 h3 hi hz0 hz1 hz2
  cases last
  ·gi_wp2_with (gi_at_builtin;refine wpListIn_append_own _ rfl _ _ 39 rfl W0.heap.size 5 i0 (.int .u8 0) 1 1 Tryz.underlying39 HI.out HI0.out HI1.out HI2.out rfl (by decide) _ _ _ rfl (H2.out.alloc _) ⟨W.heap.size,0,none⟩ 1 1 [.int .u8 (bits .or .u8 g 128)] rfl rfl (cell_one_new _ _ _) (by simp [Value.oneCell']) (by simp only [maxLen];omega) (by omega) (by simp;omega) ?_;intro v' w1 hown hgrow _;obtain ⟨g',cap',rfl⟩:=ownsRow_succ hown;obtain ⟨k1,k2,k3,k4,k5,k6⟩:=app_box hBo H1.out H2.out H3.out hown hgrow;have hc1:=qd k1 0;have hf1:=ql k1 0;have K2:=qj k2;have K3:=qj k3;have K4:=qj k4;have K5:=qj k5;have K6:=qj k6;clear k1 k2 k3 k4 k5 k6 hown hgrow)
   exact ⟨K2.out,K3.out,_,K4.out,by simpa [encV] using K5.out,K6.out⟩
  ·gi_wp2_with (gi_at_builtin;refine wpListIn_append_own _ rfl _ _ 39 rfl W0.heap.size 5 i0 (.int .u8 0) 1 1 Tryz.underlying39 HI.out HI0.out HI1.out HI2.out rfl (by decide) _ _ _ rfl (H2.out.alloc _) ⟨W.heap.size,0,none⟩ 1 1 [.int .u8 g] rfl rfl (cell_one_new _ _ _) (by simp [Value.oneCell']) (by simp only [maxLen];omega) (by omega) (by simp;omega) ?_;intro v' w1 hown hgrow _;obtain ⟨g',cap',rfl⟩:=ownsRow_succ hown;obtain ⟨k1,k2,k3,k4,k5,k6⟩:=app_box hBo H1.out H2.out H3.out hown hgrow;have hc1:=qd k1 0;have hf1:=ql k1 0;have K2:=qj k2;have K3:=qj k3;have K4:=qj k4;have K5:=qj k5;have K6:=qj k6;clear k1 k2 k3 k4 k5 k6 hown hgrow)
   exact ⟨K2.out,K3.out,_,K4.out,by simpa [encV] using K5.out,K6.out⟩
 case hdone =>
  rintro D xs W hD hS ⟨v,h1,h2,h3⟩ hK
  have hS':xs=grpL z:=hS
  subst hS'
  rw [encV_grp] at h2
  obtain ⟨k,hk⟩:∃ k,(grpL z).length=k+1:=⟨(grpL z).length - 1,by omega⟩
  rw [hk] at h2
  obtain ⟨g,cap,rfl⟩:=ownsRow_succ h2
  have c0:=qd h1 0
  have HSL:=qj (sl_of_row (row_zero h2))
  have hel:(encZ z).length=k+1:=by
   have:=congrArg List.length (encV_grp z)
   simp only [List.length_map,byteCells] at this
   omega
  have HEL:=qj hel
  have hwD:w.heap.size≤D:=by rw [HZ0.out] at hD;omega
  have FQ:=(HF0.out.step h3 (fun i hi=>by simp at hi;exact .inr (by omega))).step (Fr.grown (fp:=[D]) (grownBy_putObj' W D (.deferred none)) (fun k hk=>by cases hk;simp)) (fun i hi=>.inr (by rw [List.mem_singleton] at hi;omega))
  have HQ:=qj FQ;have HKE:=qj hK
  clear h1 h2 h3 hK hS hk hel FQ hD
  go_wp2_with (first | ((with_reducible refine wpList_of_wp (o:=⟨some 32,_,_,_,_,_⟩) rfl (fun K hK=>?_));apply stopD;case _other=>exact trivial))
  (refine stopD ?_ ?_;rotate_left;exact trivial)
  refine wp_sl_str (.tmp 31) rfl _ (k+1) cap _ rfl HSL.out (by omega) HEL.out ?_
  refine hK _ _ ?_
  clear hK K
  go_wp2_with fail
  refine ⟨by simp,.inl ⟨_,_,rfl,run_takeDeferred HKE.out,?_⟩⟩
  exact ⟨_,results_tmp2 rfl _ _ _,rfl,HQ.out⟩
theorem zig_nat (m:Nat):zig (m:Int)=2*m:=by unfold zig;rw [if_neg (by omega)];omega
theorem putI_c (n:Int) (h:-1≤n∧n≤4611686018427387903) (w:World):Calls Tryz.prog 69 #[.int .i64 n] w fun e w'=>e=.returned (.tuple #[.string (str (putZ n)),.int .i64 0])∧Fr [] w w':=by
 by_cases h0:n=-1
 ·subst h0;exact putZ_c (-1) 1 ⟨zig_m1⟩ (by omega) (by omega) w
 ·obtain ⟨m,rfl⟩:=Int.eq_ofNat_of_zero_le (show 0≤n by omega)
  unfold putZ
  rw [zig_nat]
  exact putInt_c m (by omega) w
end
section
open Go.RowKit Go.Lib
theorem putZ_len {n:Int} (h:-1≤n∧n≤4611686018427387903):(putZ n).length≤9:=by
 have:=zig_bound (n:=n) (by omega)
 exact encZ_lenK 8 _ (by omega)
theorem putA_len:∀ l:List Int,(∀ n,n∈l→-1≤n∧n≤4611686018427387903)→(putA l).length≤9*l.length
 | [],_=>by simp [putA]
 | n :: l,h=>by
  have h1:=putZ_len (h n List.mem_cons_self)
  have h2:=putA_len l fun x hx=>h x (List.mem_cons_of_mem _ hx)
  have e:putA (n :: l)=putZ n++putA l:=rfl
  rw [e,List.length_append,List.length_cons];omega
set_option maxRecDepth 100000 in
theorem caText_c (v:Value) (l:List Int) (w:World) (hs:Sl w v l.length (l.map (Value.int .i64))) (hn:∀ n,n∈l→-1≤n∧n≤4611686018427387903) (hl:l.length≤100) :
  Calls Tryz.prog 29 #[v] w fun e w'=>e=.returned (.string (str (putA l)))∧Fr [] w w':=by
 obtain ⟨a,cap,rfl⟩:=hs.val
 have HS:=qj hs;have HN:=qj hn
 clear hs hn
 go_enter Tryz.func29,Tryz.ntmps29
 go_wp2_with fail
 go_loopw [3,10] (fun ov iv wr=>∃ (k:Nat) (o:ByteArray),ov=.string o∧iv=.int .i64 k∧k≤l.length∧Hid (o=str (putA (l.take k)))∧Hid (Fr [] w wr)) (fun _ iv _=>l.length - (RowKit.intOf iv).toNat)
 case atStart=>exact ⟨0,_,rfl,rfl,Nat.zero_le _,qj rfl,qj (Fr.refl _ _)⟩
 case round =>
  obtain ⟨k,o,rfl,rfl,hk,HO,HF⟩:=hrel
  by_cases hlt:k < l.length
  ·obtain ⟨b,off,rfl,hc⟩:=HS.out.at_ (by omega)
   have c0:=HF.out.cel (hc k _ (by simp [hlt];rfl)) (by simp)
   have CP:=qj (putI_c l[k] (HN.out _ (List.getElem_mem hlt)) wr)
   have HE:Hid (putA (l.take (k+1))=putA (l.take k)++putZ l[k]):=qj (by rw [List.take_succ_eq_append_getElem hlt,putA_app];simp [putA])
   have hzl:=putZ_len (n:=l[k]) (HN.out _ (List.getElem_mem hlt))
   have hol:o.size≤9*k:=by
    rw [HO.out,str_size]
    have:=putA_len (l.take k) (fun n hn=>HN.out n (List.mem_of_mem_take hn))
    have hk2:(l.take k).length=k:=by simp;omega
    omega
   clear hc
   generalize l[k]=z at *
   go_wp2_with fail
   refine CP.out.mono ?_
   rintro e w1 ⟨rfl,f1⟩
   have HF1:=qj (HF.out.trans f1)
   clear f1 CP
   generalize hz:str (putZ z)=sz
   have HZ:=qj hz
   have hsl:sz.size≤9:=by rw [← hz,str_size];exact hzl
   clear hz hzl
   go_wp2_with fail
   go_roundw
   case rel=>exact ⟨k+1,_,rfl,by go_num,hlt,qj (by rw [HE.out,HO.out,← HZ.out,str_app];rfl),HF1⟩
   case measure=>simp [RowKit.intOf];omega
  ·obtain rfl:k=l.length:=by omega
   go_wp2_with fail
   go_ret
   exact ⟨by rw [HO.out];simp,HF.out⟩
set_option maxRecDepth 100000 in
theorem lkPut_c (v:Value) (l:List Int) (w:World) (hs:Sl w v l.length (l.map (Value.int .i64))) (hn:∀ n,n∈l→-1≤n∧n≤4611686018427387903) (hl:l.length≤100) :
  Calls Tryz.prog 126 #[v] w fun e w'=>e=.returned (.string (str (putA l)))∧Fr [] w w':=by
 obtain ⟨a,cap,rfl⟩:=hs.val
 have HS:=qj hs;have HN:=qj hn
 clear hs hn
 go_enter Tryz.func126,Tryz.ntmps126
 go_wp2_with fail
 go_loopw [3,10] (fun ov iv wr=>∃ (k:Nat) (o:ByteArray),ov=.string o∧iv=.int .i64 k∧k≤l.length∧Hid (o=str (putA (l.take k)))∧Hid (Fr [] w wr)) (fun _ iv _=>l.length - (RowKit.intOf iv).toNat)
 case atStart=>exact ⟨0,_,rfl,rfl,Nat.zero_le _,qj rfl,qj (Fr.refl _ _)⟩
 case round =>
  obtain ⟨k,o,rfl,rfl,hk,HO,HF⟩:=hrel
  by_cases hlt:k < l.length
  ·obtain ⟨b,off,rfl,hc⟩:=HS.out.at_ (by omega)
   have c0:=HF.out.cel (hc k _ (by simp [hlt];rfl)) (by simp)
   have CP:=qj (putI_c l[k] (HN.out _ (List.getElem_mem hlt)) wr)
   have HE:Hid (putA (l.take (k+1))=putA (l.take k)++putZ l[k]):=qj (by rw [List.take_succ_eq_append_getElem hlt,putA_app];simp [putA])
   have hzl:=putZ_len (n:=l[k]) (HN.out _ (List.getElem_mem hlt))
   have hol:o.size≤9*k:=by
    rw [HO.out,str_size]
    have:=putA_len (l.take k) (fun n hn=>HN.out n (List.mem_of_mem_take hn))
    have hk2:(l.take k).length=k:=by simp;omega
    omega
   clear hc
   generalize l[k]=z at *
   go_wp2_with fail
   refine CP.out.mono ?_
   rintro e w1 ⟨rfl,f1⟩
   have HF1:=qj (HF.out.trans f1)
   clear f1 CP
   generalize hz:str (putZ z)=sz
   have HZ:=qj hz
   have hsl:sz.size≤9:=by rw [← hz,str_size];exact hzl
   clear hz hzl
   go_wp2_with fail
   go_roundw
   case rel=>exact ⟨k+1,_,rfl,by go_num,hlt,qj (by rw [HE.out,HO.out,← HZ.out,str_app];rfl),HF1⟩
   case measure=>simp [RowKit.intOf];omega
  ·obtain rfl:k=l.length:=by omega
   go_wp2_with fail
   go_ret
   exact ⟨by rw [HO.out];simp,HF.out⟩
end
section
open Go.RowKit Go.Lib
theorem sl_blk {w:World} {b n:Nat} {ty:TypeId} {cs:List Value} (h:w.heap[b]?=some (.cells cs.toArray ty (0,0))) (_hl:cs.length=n) (hn:n≤9223372036854775807):Sl w (.slice (some ⟨b,0,none⟩) n n) n cs :=
 ⟨_,_,rfl,Nat.le_refl _,hn,fun _=>⟨_,0,rfl,fun j u hu=>by
  rw [Nat.zero_add,qd h]
  simpa using hu⟩⟩
set_option maxRecDepth 100000 in
set_option maxHeartbeats 2000000 in
theorem text1_c (s n a b c:Int) (w:World) (hf:fmN ⟨s,1,n,a,b,c,0,0,0,0,0,false,0,0,0⟩=true) (hn:∀ z,z∈([1,n,a,b,c]:List Int)→-1≤z∧z≤4611686018427387903) :
  Calls Tryz.prog 8 #[ntV ⟨s,1,n,a,b,c,0,0,0,0,0,false,0,0,0⟩] w fun e w'=>e=.returned (.tuple #[.string (str (putA [1,n,a,b,c])),.int .i64 0])∧Fr [] w w':=by
 have CI:=qj fun W=>caIsFormed_c ⟨s,1,n,a,b,c,0,0,0,0,0,false,0,0,0⟩ W
 rw [hf] at CI
 have B1:=qj (qm w (.cells #[.int .i64 s,.int .i64 1,.int .i64 n,.int .i64 a,.int .i64 b,.int .i64 c,.int .i64 0,.int .i64 0,.int .i64 0,.int .i64 0,.int .i64 0,.bool false,.int .i64 0,.int .i64 0,.int .i64 0] 31))
 have F1:=qj (Fr.alloc [] w (.cells #[.int .i64 s,.int .i64 1,.int .i64 n,.int .i64 a,.int .i64 b,.int .i64 c,.int .i64 0,.int .i64 0,.int .i64 0,.int .i64 0,.int .i64 0,.bool false,.int .i64 0,.int .i64 0,.int .i64 0] 31))
 have CT:=qj fun (W:World) (bk:Nat) (h:W.heap[bk]?=some (.cells #[.int .i64 1,.int .i64 n,.int .i64 a,.int .i64 b,.int .i64 c] 3 (0,0)))=>caText_c (.slice (some ⟨bk,0,none⟩) 5 5) [1,n,a,b,c] W (sl_blk (cs:=([1,n,a,b,c]:List Int).map (Value.int .i64)) h rfl (by omega)) hn (by simp)
 generalize hP:str (putA [1,n,a,b,c])=P at *
 clear hf hn hP
 go_enter Tryz.func8,Tryz.ntmps8
 go_wp2_with fail
 refine (CI.out _).mono ?_
 rintro e w1 ⟨rfl,f1⟩
 have K1:=f1.keep B1.out (by simp)
 have c0:=qd K1 0
 have c1:=qd K1 1
 have c2:=qd K1 2
 have c3:=qd K1 3
 have c4:=qd K1 4
 have c5:=qd K1 5
 have c6:=qd K1 6
 have c7:=qd K1 7
 have c8:=qd K1 8
 have c9:=qd K1 9
 have c10:=qd K1 10
 have c11:=qd K1 11
 have c12:=qd K1 12
 have c13:=qd K1 13
 have c14:=qd K1 14
 have HF1:=qj (F1.out.trans f1)
 obtain ⟨T1,_,T3⟩:=two_more w1 (.cells #[.int .i64 0,.int .i64 0,.int .i64 0,.int .i64 0,.int .i64 0,.bool false] 27) (.cells #[.int .i64 1,.int .i64 n,.int .i64 a,.int .i64 b,.int .i64 c] 3)
 have hlt:=blk_lt K1
 have CT2:=qj (CT.out _ _ T3)
 have HF2:=qj (HF1.out.trans T1)
 clear f1 K1 B1 F1 CI T1 T3 CT HF1
 go_wp2_with fail
 refine CT2.out.mono ?_
 rintro e w2 ⟨rfl,f2⟩
 have HF3:=qj (HF2.out.trans f2)
 clear f2
 go_wp2_with fail
 go_ret2
 exact ⟨rfl,HF3.out⟩
set_option maxRecDepth 100000 in
set_option maxHeartbeats 2000000 in
theorem text2_c (s n a b c d:Int) (bb:Bool) (w:World) (hf:fmN ⟨s,2,n,0,0,0,n,a,b,c,d,bb,0,0,0⟩=true) (hn:∀ z,z∈([2,n,a,b,c,d,(if bb then 1 else 0)]:List Int)→-1≤z∧z≤4611686018427387903) :
  Calls Tryz.prog 8 #[ntV ⟨s,2,n,0,0,0,n,a,b,c,d,bb,0,0,0⟩] w fun e w'=>e=.returned (.tuple #[.string (str (putA [2,n,a,b,c,d,(if bb then 1 else 0)])),.int .i64 0])∧Fr [] w w':=by
 have CI:=qj fun W=>caIsFormed_c ⟨s,2,n,0,0,0,n,a,b,c,d,bb,0,0,0⟩ W
 rw [hf] at CI
 have B1:=qj (qm w (.cells #[.int .i64 s,.int .i64 2,.int .i64 n,.int .i64 0,.int .i64 0,.int .i64 0,.int .i64 n,.int .i64 a,.int .i64 b,.int .i64 c,.int .i64 d,.bool bb,.int .i64 0,.int .i64 0,.int .i64 0] 31))
 have F1:=qj (Fr.alloc [] w (.cells #[.int .i64 s,.int .i64 2,.int .i64 n,.int .i64 0,.int .i64 0,.int .i64 0,.int .i64 n,.int .i64 a,.int .i64 b,.int .i64 c,.int .i64 d,.bool bb,.int .i64 0,.int .i64 0,.int .i64 0] 31))
 have CT:=qj fun (W:World) (bk:Nat) (h:W.heap[bk]?=some (.cells #[.int .i64 2,.int .i64 n,.int .i64 a,.int .i64 b,.int .i64 c,.int .i64 d,.int .i64 (if bb then 1 else 0)] 3 (0,0)))=>caText_c (.slice (some ⟨bk,0,none⟩) 7 7) [2,n,a,b,c,d,(if bb then 1 else 0)] W (sl_blk (cs:=([2,n,a,b,c,d,(if bb then 1 else 0)]:List Int).map (Value.int .i64)) h rfl (by omega)) hn (by simp)
 generalize hP:str (putA [2,n,a,b,c,d,(if bb then 1 else 0)])=P at *
 clear hf hn hP
 go_enter Tryz.func8,Tryz.ntmps8
 go_wp2_with fail
 refine (CI.out _).mono ?_
 rintro e w1 ⟨rfl,f1⟩
 have K1:=f1.keep B1.out (by simp)
 have c0:=qd K1 0
 have c1:=qd K1 1
 have c2:=qd K1 2
 have c3:=qd K1 3
 have c4:=qd K1 4
 have c5:=qd K1 5
 have c6:=qd K1 6
 have c7:=qd K1 7
 have c8:=qd K1 8
 have c9:=qd K1 9
 have c10:=qd K1 10
 have c11:=qd K1 11
 have c12:=qd K1 12
 have c13:=qd K1 13
 have c14:=qd K1 14
 have HF1:=qj (F1.out.trans f1)
 obtain ⟨T1,_,T3⟩:=two_more w1 (.cells #[.int .i64 n,.int .i64 a,.int .i64 b,.int .i64 c,.int .i64 d,.bool bb] 27) (.cells #[.int .i64 2,.int .i64 n,.int .i64 a,.int .i64 b,.int .i64 c,.int .i64 d,.int .i64 (if bb then 1 else 0)] 3)
 have hlt:=blk_lt K1
 have CT2:=qj (CT.out _ _ T3)
 have HF2:=qj (HF1.out.trans T1)
 clear f1 K1 B1 F1 CI T1 T3 CT HF1
 cases bb with
 | false =>
  go_wp2_with fail
  refine CT2.out.mono ?_
  rintro e w2 ⟨rfl,f2⟩
  have HF3:=qj (HF2.out.trans f2)
  clear f2
  go_wp2_with fail
  go_ret2
  exact ⟨rfl,HF3.out⟩
 | true =>
  go_wp2_with fail
  refine CT2.out.mono ?_
  rintro e w2 ⟨rfl,f2⟩
  have HF3:=qj (HF2.out.trans f2)
  clear f2
  go_wp2_with fail
  go_ret2
  exact ⟨rfl,HF3.out⟩
set_option maxRecDepth 100000 in
set_option maxHeartbeats 2000000 in
theorem text3_c (s n a b d x t r:Int) (w:World) (hf:fmN ⟨s,3,n,0,0,0,n,a,b,0,d,false,x,t,r⟩=true) (hn:∀ z,z∈([3,n,a,b,d,x,t,r]:List Int)→-1≤z∧z≤4611686018427387903) :
  Calls Tryz.prog 8 #[ntV ⟨s,3,n,0,0,0,n,a,b,0,d,false,x,t,r⟩] w fun e w'=>e=.returned (.tuple #[.string (str (putA [3,n,a,b,d,x,t,r])),.int .i64 0])∧Fr [] w w':=by
 have CI:=qj fun W=>caIsFormed_c ⟨s,3,n,0,0,0,n,a,b,0,d,false,x,t,r⟩ W
 rw [hf] at CI
 have B1:=qj (qm w (.cells #[.int .i64 s,.int .i64 3,.int .i64 n,.int .i64 0,.int .i64 0,.int .i64 0,.int .i64 n,.int .i64 a,.int .i64 b,.int .i64 0,.int .i64 d,.bool false,.int .i64 x,.int .i64 t,.int .i64 r] 31))
 have F1:=qj (Fr.alloc [] w (.cells #[.int .i64 s,.int .i64 3,.int .i64 n,.int .i64 0,.int .i64 0,.int .i64 0,.int .i64 n,.int .i64 a,.int .i64 b,.int .i64 0,.int .i64 d,.bool false,.int .i64 x,.int .i64 t,.int .i64 r] 31))
 have CT:=qj fun (W:World) (bk:Nat) (h:W.heap[bk]?=some (.cells #[.int .i64 3,.int .i64 n,.int .i64 a,.int .i64 b,.int .i64 d,.int .i64 x,.int .i64 t,.int .i64 r] 3 (0,0)))=>caText_c (.slice (some ⟨bk,0,none⟩) 8 8) [3,n,a,b,d,x,t,r] W (sl_blk (cs:=([3,n,a,b,d,x,t,r]:List Int).map (Value.int .i64)) h rfl (by omega)) hn (by simp)
 generalize hP:str (putA [3,n,a,b,d,x,t,r])=P at *
 clear hf hn hP
 go_enter Tryz.func8,Tryz.ntmps8
 go_wp2_with fail
 refine (CI.out _).mono ?_
 rintro e w1 ⟨rfl,f1⟩
 have K1:=f1.keep B1.out (by simp)
 have c0:=qd K1 0
 have c1:=qd K1 1
 have c2:=qd K1 2
 have c3:=qd K1 3
 have c4:=qd K1 4
 have c5:=qd K1 5
 have c6:=qd K1 6
 have c7:=qd K1 7
 have c8:=qd K1 8
 have c9:=qd K1 9
 have c10:=qd K1 10
 have c11:=qd K1 11
 have c12:=qd K1 12
 have c13:=qd K1 13
 have c14:=qd K1 14
 have HF1:=qj (F1.out.trans f1)
 obtain ⟨T1,_,T3⟩:=two_more w1 (.cells #[.int .i64 n,.int .i64 a,.int .i64 b,.int .i64 0,.int .i64 d,.bool false] 27) (.cells #[.int .i64 3,.int .i64 n,.int .i64 a,.int .i64 b,.int .i64 d,.int .i64 x,.int .i64 t,.int .i64 r] 3)
 have hlt:=blk_lt K1
 have CT2:=qj (CT.out _ _ T3)
 have HF2:=qj (HF1.out.trans T1)
 clear f1 K1 B1 F1 CI T1 T3 CT HF1
 go_wp2_with fail
 refine CT2.out.mono ?_
 rintro e w2 ⟨rfl,f2⟩
 have HF3:=qj (HF2.out.trans f2)
 clear f2
 go_wp2_with fail
 go_ret2
 exact ⟨rfl,HF3.out⟩
theorem nums_ok {t:Nt} (h:fmN t=true):∀ z,z∈numsN t→-1≤z∧z≤4611686018427387903:=by
 rcases fmN_kind h with k | k | k
 ·obtain ⟨s,n,a,b,c,rfl,h1,h2,h3,h4,h5⟩:=fm_line h k
  intro z hz
  simp only [numsN,if_true,List.mem_cons,List.not_mem_nil,or_false] at hz
  omega
 ·obtain ⟨s,n,a,b,c,d,e,rfl,h1,h2,h3,h4,h5,h6,h7⟩:=fm_claim h k
  intro z hz
  simp only [numsN,show ¬ ((2:Int)=1) by decide,if_false,if_true,List.mem_cons,List.not_mem_nil,or_false] at hz
  have:(if e=true then (1:Int) else 0)=0∨(if e=true then (1:Int) else 0)=1:=by cases e <;> simp
  omega
 ·obtain ⟨s,n,a,b,d,x,t,r,rfl,h1,h2,h3,h4,h5,h6,h7,h8,h9⟩:=fm_event h k
  intro z hz
  simp only [numsN,show ¬ ((3:Int)=1) by decide,show ¬ ((3:Int)=2) by decide,if_false,List.mem_cons,List.not_mem_nil,or_false] at hz
  omega
def txtV (t:Nt):Value:=if fmN t then .tuple #[.string (str (txtN t)),.int .i64 0] else .tuple #[.string ⟨#[]⟩,.int .i64 430]
set_option maxRecDepth 100000 in
set_option maxHeartbeats 1000000 in
theorem CAText_c (t:Nt) (w:World):Calls Tryz.prog 8 #[ntV t] w fun e w'=>e=.returned (txtV t)∧Fr [] w w':=by
 cases hf:fmN t with
 | true =>
  have hn:=nums_ok hf
  unfold txtV txtN
  rw [hf]
  rcases fmN_kind hf with k | k | k
  ·obtain ⟨s,n,a,b,c,rfl,_⟩:=fm_line hf k
   exact text1_c s n a b c w hf hn
  ·obtain ⟨s,n,a,b,c,d,e,rfl,_⟩:=fm_claim hf k
   exact text2_c s n a b c d e w hf hn
  ·obtain ⟨s,n,a,b,d,x,t,r,rfl,_⟩:=fm_event hf k
   exact text3_c s n a b d x t r w hf hn
 | false =>
  unfold txtV
  have CI:=qj fun W=>caIsFormed_c t W
  rw [hf] at CI ⊢
  obtain ⟨s,k,n,lk,la,lh,cn,cf,ct,ch,ca,cb,ek,ea,er⟩:=t
  have F1:=qj (Fr.alloc [] w (.cells #[.int .i64 s,.int .i64 k,.int .i64 n,.int .i64 lk,.int .i64 la,.int .i64 lh,.int .i64 cn,.int .i64 cf,.int .i64 ct,.int .i64 ch,.int .i64 ca,.bool cb,.int .i64 ek,.int .i64 ea,.int .i64 er] 31))
  clear hf
  go_enter Tryz.func8,Tryz.ntmps8
  go_wp2_with fail
  refine (CI.out _).mono ?_
  rintro e w1 ⟨rfl,f1⟩
  have HF1:=qj (F1.out.trans f1)
  clear f1
  go_wp2_with fail
  go_ret2
  exact ⟨rfl,HF1.out⟩
end
end Go.Proofs.YtledkokhghjfmaaGreatDoor
