/-
  The law's sane: the carriers.
-/
import Derived.Test.YtledkokhghjfmaaGreatDoorPN11
namespace Go.Proofs.YtledkokhghjfmaaGreatDoor
open Go.RowKit Go.Shelf Go.Lib
def sndC:Code→Code
 | .seq _ y=>y
 | c=>c
def fstC:Code→Code
 | .seq x _=>x
 | c=>c
theorem suT {W:World} {bv kv:Value} (h:SuAt W bv kv exS):SuAt W bv kv exT:=⟨h.bks,h.keys,h.bn,h.kn⟩
set_option maxRecDepth 100000 in
set_option maxHeartbeats 16000000 in
theorem saneB_c (w0 w:World) (hF:Fr [] w0 w) (a:Addr) (hA:DmgAt w a) (hR:RndAt w) (u2 u3 u4 u5 u6 u7 u8 u11 u12 u13 u14 u15 u16 u17 u18 u19 u20 u21 u22 u23 u24 u25 u26 u27 u28 u29 u30 u31 u32 u33 u34 u35 u36 u37 u38 u39 u40 u41 u42 u43 u44 u45 u46 u47 u48 u49 u50 u51 u52 u53 u54 u55 u56 u57 u58 u59 u60 u61 u62 u63 u64 u65 u66 u67 u68 u69 u70 u71 u72 u73 u74 u75 u76 u77 u78 u79 u80 u81 u82 u83 u84 u85 u86 u87 u88 u89 u90 u91 u92 u93 u94 u95 u96 u97 u98 u99 u100 u101 u102 u103 u104 u105 u106 u107 u108 u109 u110 u111 u112 u113 u114 u115 u116 u117 u118 u119 u120 u121 u122 u123 u124 u125 u126 u127 u128 u129 u130 u131 u132 u133 u134 u135 u136 u137 u138 u139 u140 u141 u142 u143 u144 u145 u146 u147 u148 u149 u150 u151 u152 u153 u154 u155 u156 u157 u158 u159 u160 u161 u162 u163 u164 u165 u166 u167 u168 u169 u170 u171 u172 u173 u174 u175 u176 u177 u178 u179 u180 u181 u182 u183 u184 u185 u186 u187 u188 u189 u190 u191 u192 u193 u194 u195 u196 u197 u198 u199 u200 u201 u202 u203 u204 u205 u206 u207 u208 u209 u210 u211 u212 u213 u214 u215 u216 u217 u218 u219 u220 u221 u222 u223 u224 u225 u226 u227 u228 u229 u230 u231 u232 u233 u234 u235 u236 u237 u238 u239 u240 u241 u242 u243 u244 u245 u246 u247 u248 u249 u250 u251 u252 u253 u254 u255 u256 u257 u258 u259 u260 u261 u262 u263 u264 u265 u266 u267 u268 u269 u270:Value) (Q:Exit→Act→World→Prop) (hQ:Q=bodyPost Tryz.prog Tryz.f5 fun e w'=>e=.returned (.bool true)∧Fr [] w0 w') :
  ∀ K:Act→World→Prop,(∀ a w,(sndC (sndC (sndC (sndC (sndC (sndC (sndC (sndC (sndC ((Tryz.f5.body).getD .skip)))))))))).wp Tryz.prog Q a w→K a w) →
  (fstC (sndC (sndC (sndC (sndC (sndC (sndC (sndC (sndC ((Tryz.f5.body).getD .skip)))))))))).wp Tryz.prog (Exit.then K Q) { tmps:=#[.bool false,.string ⟨#[2,172,2,2,0,6]⟩,u2,u3,u4,u5,u6,u7,u8,.bool true,.bool true,u11,u12,u13,u14,u15,u16,u17,u18,u19,u20,u21,u22,u23,u24,u25,u26,u27,u28,u29,u30,u31,u32,u33,u34,u35,u36,u37,u38,u39,u40,u41,u42,u43,u44,u45,u46,u47,u48,u49,u50,u51,u52,u53,u54,u55,u56,u57,u58,u59,u60,u61,u62,u63,u64,u65,u66,u67,u68,u69,u70,u71,u72,u73,u74,u75,u76,u77,u78,u79,u80,u81,u82,u83,u84,u85,u86,u87,u88,u89,u90,u91,u92,u93,u94,u95,u96,u97,u98,u99,u100,u101,u102,u103,u104,u105,u106,u107,u108,u109,u110,u111,u112,u113,u114,u115,u116,u117,u118,u119,u120,u121,u122,u123,u124,u125,u126,u127,u128,u129,u130,u131,u132,u133,u134,u135,u136,u137,u138,u139,u140,u141,u142,u143,u144,u145,u146,u147,u148,u149,u150,u151,u152,u153,u154,u155,u156,u157,u158,u159,u160,u161,u162,u163,u164,u165,u166,u167,u168,u169,u170,u171,u172,u173,u174,u175,u176,u177,u178,u179,u180,u181,u182,u183,u184,u185,u186,u187,u188,u189,u190,u191,u192,u193,u194,u195,u196,u197,u198,u199,u200,u201,u202,u203,u204,u205,u206,u207,u208,u209,u210,u211,u212,u213,u214,u215,u216,u217,u218,u219,u220,u221,u222,u223,u224,u225,u226,u227,u228,u229,u230,u231,u232,u233,u234,u235,u236,u237,u238,u239,u240,u241,u242,u243,u244,u245,u246,u247,u248,u249,u250,u251,u252,u253,u254,u255,u256,u257,u258,u259,u260,u261,u262,u263,u264,u265,u266,u267,u268,u269,u270],defers:=[] } w:=by
 have HDm:=qj hA;have HRd:=qj hR;have HF:=qj hF;have HQ:=qj hQ
 clear hA hR hF hQ
 simp only [Tryz.f5,Option.getD_some,sndC,fstC]
 intro K hK
 go_wp2_with fail
 refine (example_c w).mono ?_
 rintro e w1 ⟨bb,kb,rfl,hsu,f1,_,_,hb1,hb2⟩
 have HF1:=qj (HF.out.trans f1);have HS1:=qj hsu
 have HDm1:=qj (HDm.out.fr f1 (by simp));have HRd1:=qj (HRd.out.same f1 (by simp))
 have HL1:=qj (And.intro hb1 hb2)
 clear hsu f1 hb1 hb2 HF HDm HRd
 have FA:=Fr.alloc [] w1 (.cells #[.int .i64 0,.slice (some ⟨bb,0,none⟩) 1 1,.int .i64 10,.int .i64 5,.int .i64 20,.int .i64 30,.slice (some ⟨kb,0,none⟩) 2 2] 48)
 have HA2:=qj (qm w1 (.cells #[.int .i64 0,.slice (some ⟨bb,0,none⟩) 1 1,.int .i64 10,.int .i64 5,.int .i64 20,.int .i64 30,.slice (some ⟨kb,0,none⟩) 2 2] 48))
 have HF2:=qj (HF1.out.trans FA);have HS2:=qj (HS1.out.same FA);have HDm2:=qj (HDm1.out.fr FA (by simp));have HRd2:=qj (HRd1.out.same FA (by simp))
 have hz2:=World.size_alloc w1 (.cells #[.int .i64 0,.slice (some ⟨bb,0,none⟩) 1 1,.int .i64 10,.int .i64 5,.int .i64 20,.int .i64 30,.slice (some ⟨kb,0,none⟩) 2 2] 48)
 obtain ⟨w2,hw2⟩:∃ w2,w1.alloc (.cells #[.int .i64 0,.slice (some ⟨bb,0,none⟩) 1 1,.int .i64 10,.int .i64 5,.int .i64 20,.int .i64 30,.slice (some ⟨kb,0,none⟩) 2 2] 48)=w2:=⟨_,rfl⟩
 rw [hw2] at HA2 HF2 HS2 HDm2 HRd2 hz2
 have HZ2:Hid (w1.heap.size < w2.heap.size):=qj (by omega)
 have HW2:=qj hw2
 clear HF1 HS1 HDm1 HRd1 FA hz2 hw2
 dsimp only [suV,suC,exS]
 go_wp2_with fail
 rw [HW2.out]
 clear HW2
 refine (example_c w2).mono ?_
 rintro e w3 ⟨cb,lb,rfl,hsu,f3,hc1,hc2,hc3,hc4⟩
 have HS3:=qj (HS2.out.same f3);have HT3:=qj hsu;have HF3:=qj (HF2.out.trans f3);have HDm3:=qj (HDm2.out.fr f3 (by simp));have HRd3:=qj (HRd2.out.same f3 (by simp))
 have HA3:=qj (f3.keep HA2.out (by simp));have HLE3:=qj f3.size
 clear hsu f3 HA2 HF2 HS2 HDm2 HRd2
 dsimp only [suV,suC,exS]
 have FA:=Fr.alloc [] w3 (.cells #[.int .i64 1,.slice (some ⟨cb,0,none⟩) 1 1,.int .i64 10,.int .i64 5,.int .i64 20,.int .i64 30,.slice (some ⟨lb,0,none⟩) 2 2] 48)
 have HB4:=qj (qm w3 (.cells #[.int .i64 1,.slice (some ⟨cb,0,none⟩) 1 1,.int .i64 10,.int .i64 5,.int .i64 20,.int .i64 30,.slice (some ⟨lb,0,none⟩) 2 2] 48))
 have HF4:=qj (HF3.out.trans FA);have HS4:=qj (HS3.out.same FA);have HT4:=qj (suT (HT3.out.same FA));have HDm4:=qj (HDm3.out.fr FA (by simp));have HRd4:=qj (HRd3.out.same FA (by simp));have HA4:=qj (FA.keep HA3.out (by simp))
 have hz4:=World.size_alloc w3 (.cells #[.int .i64 1,.slice (some ⟨cb,0,none⟩) 1 1,.int .i64 10,.int .i64 5,.int .i64 20,.int .i64 30,.slice (some ⟨lb,0,none⟩) 2 2] 48)
 obtain ⟨w4,hw4⟩:∃ w4,w3.alloc (.cells #[.int .i64 1,.slice (some ⟨cb,0,none⟩) 1 1,.int .i64 10,.int .i64 5,.int .i64 20,.int .i64 30,.slice (some ⟨lb,0,none⟩) 2 2] 48)=w4:=⟨_,rfl⟩
 rw [hw4] at HB4 HF4 HS4 HT4 HDm4 HRd4 HA4 hz4
 have HL4:Hid ((bb < w4.heap.size∧kb < w4.heap.size)∧cb < w4.heap.size∧lb < w4.heap.size):=qj (by
  have h1:=HL1.out;have h2:=HZ2.out;have h3:=blk_lt HA3.out
  have h5:=hz4
  have h6:w2.heap.size≤w3.heap.size:=HLE3.out
  omega)
 have HW4:=qj hw4
 clear HF3 HS3 HT3 HDm3 HRd3 HA3 FA hz4 hw4 hc1 hc2 hc3 hc4 HL1 HZ2 HLE3
 go_upto_region 12 with fail
 rw [HW4.out]
 clear HW4
 have s0:=qd HA4.out 0;have s1:=qd HA4.out 1;have s2:=qd HA4.out 2;have s3:=qd HA4.out 3;have s4:=qd HA4.out 4;have s5:=qd HA4.out 5;have s6:=qd HA4.out 6
 go_wp2_with fail
 clear s0 s1 s2 s3 s4 s5 s6
 refine (opened_c exS _ _ w4 HS4.out (by decide) 0 rfl (by decide) (by decide) (fun g hg=>by
  rcases hg with hg | hg
  ·cases hg;exact HL4.out.1.1
  ·cases hg;exact HL4.out.1.2) a HDm4.out HRd4.out).mono ?_
 rintro e w5 ⟨x,J,rfl,hcj,hxc,hxb,hJt,hJb,hJD,f5,hy,hgx⟩
 clear hgx
 have hB5:=f5.keep HB4.out (by simp)
 have s0:=qd hB5 0
 have s1:=qd hB5 1
 have s2:=qd hB5 2
 have s3:=qd hB5 3
 have s4:=qd hB5 4
 have s5:=qd hB5 5
 have s6:=qd hB5 6
 have HO5:=qj (opened_c exT (.slice (some ⟨cb,0,none⟩) 1 1) (.slice (some ⟨lb,0,none⟩) 2 2) w5 (HT4.out.same f5) (by decide) 1 rfl (by decide) (by decide) (fun g hg=>by
  have h0:=f5.size
  rcases hg with hg | hg
  ·cases hg;exact Nat.lt_of_lt_of_le HL4.out.2.1 h0
  ·cases hg;exact Nat.lt_of_lt_of_le HL4.out.2.2 h0) a (HDm4.out.fr f5 (by simp)) (HRd4.out.same f5 (by simp)))
 have H5:=qj (And.intro hcj (And.intro hxc (And.intro hxb (And.intro hJt (And.intro hJb (And.intro hJD (And.intro f5 hy)))))))
 clear hB5 hcj hxc hxb hJt hJb hJD f5 hy
 go_wp2_with fail
 clear s0 s1 s2 s3 s4 s5 s6
 refine HO5.out.mono ?_
 rintro e w6 ⟨y,K,rfl,hcj2,hyc,hyb,hKt,hKb,hKD,f6,hz,hgy⟩
 obtain ⟨hcj,hxc,hxb,hJt,hJb,hJD,f5,hy⟩:=H5.out
 have ht:=TwP.new hcj hxc hxb hJt hJb hJD f5 hy hcj2 hyc hyb hKt hKb hKD f6 hz hgy
 obtain ⟨xa,hxa⟩:∃ xa,x.cb=xa:=⟨_,rfl⟩
 obtain ⟨ya,hya⟩:∃ ya,y.cb=ya:=⟨_,rfl⟩
 obtain ⟨da,hda⟩:∃ da,J.db=da:=⟨_,rfl⟩
 obtain ⟨db,hdb⟩:∃ db,K.db=db:=⟨_,rfl⟩
 rw [hxa,hya,hda] at ht
 rw [hxa,hya,hda,hdb]
 have HT6:=qj ht
 clear HO5 H5 hcj2 hyc hyb hKt hKb hKD f6 hz hgy hcj hxc hxb hJt hJb hJD f5 hy ht hxa hya hda hdb
 clear x y J K
 go_wp2_with fail
 refine (said_c _).mono ?_
 rintro e w7 ⟨rfl,hr,f⟩
 have sa:=(said_at hr).1
 have x0:w7.cell? ⟨w6.heap.size,0,none⟩=some (.int .i64 0):=sa 0 _ rfl
 have x1:w7.cell? ⟨w6.heap.size,1,none⟩=some (.int .i64 1):=sa 1 _ rfl
 have x2:w7.cell? ⟨w6.heap.size,2,none⟩=some (.int .i64 150):=sa 2 _ rfl
 have x3:w7.cell? ⟨w6.heap.size,3,none⟩=some (.int .i64 1):=sa 3 _ rfl
 have x4:w7.cell? ⟨w6.heap.size,4,none⟩=some (.int .i64 0):=sa 4 _ rfl
 have x5:w7.cell? ⟨w6.heap.size,5,none⟩=some (.int .i64 3):=sa 5 _ rfl
 have x6:w7.cell? ⟨w6.heap.size,6,none⟩=some (.int .i64 0):=sa 6 _ rfl
 have x7:w7.cell? ⟨w6.heap.size,7,none⟩=some (.int .i64 0):=sa 7 _ rfl
 have x8:w7.cell? ⟨w6.heap.size,8,none⟩=some (.int .i64 0):=sa 8 _ rfl
 have x9:w7.cell? ⟨w6.heap.size,9,none⟩=some (.int .i64 0):=sa 9 _ rfl
 have x10:w7.cell? ⟨w6.heap.size,10,none⟩=some (.int .i64 0):=sa 10 _ rfl
 have x11:w7.cell? ⟨w6.heap.size,11,none⟩=some (.bool false):=sa 11 _ rfl
 have x12:w7.cell? ⟨w6.heap.size,12,none⟩=some (.int .i64 0):=sa 12 _ rfl
 have x13:w7.cell? ⟨w6.heap.size,13,none⟩=some (.int .i64 0):=sa 13 _ rfl
 have x14:w7.cell? ⟨w6.heap.size,14,none⟩=some (.int .i64 0):=sa 14 _ rfl
 have HT7:=qj (HT6.out.same f)
 clear sa hr f HT6
 go_wp2_with fail
 clear x0 x1 x2 x3 x4 x5 x6 x7 x8 x9 x10 x11 x12 x13 x14
 refine (addA_c HT7.out HRd4.out).mono ?_
 rintro e w8 ⟨rfl,ht⟩
 have HT8:=qj ht
 clear ht HT7
 go_wp2_with fail
 refine (said_c _).mono ?_
 rintro e w9 ⟨rfl,hr,f⟩
 have sa:=(said_at hr).2
 have x0:w9.cell? ⟨w8.heap.size,15,none⟩=some (.int .i64 1):=sa 0 _ rfl
 have x1:w9.cell? ⟨w8.heap.size,16,none⟩=some (.int .i64 2):=sa 1 _ rfl
 have x2:w9.cell? ⟨w8.heap.size,17,none⟩=some (.int .i64 150):=sa 2 _ rfl
 have x3:w9.cell? ⟨w8.heap.size,18,none⟩=some (.int .i64 0):=sa 3 _ rfl
 have x4:w9.cell? ⟨w8.heap.size,19,none⟩=some (.int .i64 0):=sa 4 _ rfl
 have x5:w9.cell? ⟨w8.heap.size,20,none⟩=some (.int .i64 0):=sa 5 _ rfl
 have x6:w9.cell? ⟨w8.heap.size,21,none⟩=some (.int .i64 150):=sa 6 _ rfl
 have x7:w9.cell? ⟨w8.heap.size,22,none⟩=some (.int .i64 0):=sa 7 _ rfl
 have x8:w9.cell? ⟨w8.heap.size,23,none⟩=some (.int .i64 1):=sa 8 _ rfl
 have x9:w9.cell? ⟨w8.heap.size,24,none⟩=some (.int .i64 3):=sa 9 _ rfl
 have x10:w9.cell? ⟨w8.heap.size,25,none⟩=some (.int .i64 50):=sa 10 _ rfl
 have x11:w9.cell? ⟨w8.heap.size,26,none⟩=some (.bool false):=sa 11 _ rfl
 have x12:w9.cell? ⟨w8.heap.size,27,none⟩=some (.int .i64 0):=sa 12 _ rfl
 have x13:w9.cell? ⟨w8.heap.size,28,none⟩=some (.int .i64 0):=sa 13 _ rfl
 have x14:w9.cell? ⟨w8.heap.size,29,none⟩=some (.int .i64 0):=sa 14 _ rfl
 have HT9:=qj (HT8.out.same f)
 clear sa hr f HT8
 go_wp2_with fail
 clear x0 x1 x2 x3 x4 x5 x6 x7 x8 x9 x10 x11 x12 x13 x14
 refine (addB_c HT9.out HRd4.out).mono ?_
 rintro e w10 ⟨rfl,ht⟩
 have HT10:=qj ht
 clear ht HT9
 go_wp2_with fail
 refine (said_c _).mono ?_
 rintro e w11 ⟨rfl,hr,f⟩
 have sa:=(said_at hr).2
 have x0:w11.cell? ⟨w10.heap.size,15,none⟩=some (.int .i64 1):=sa 0 _ rfl
 have x1:w11.cell? ⟨w10.heap.size,16,none⟩=some (.int .i64 2):=sa 1 _ rfl
 have x2:w11.cell? ⟨w10.heap.size,17,none⟩=some (.int .i64 150):=sa 2 _ rfl
 have x3:w11.cell? ⟨w10.heap.size,18,none⟩=some (.int .i64 0):=sa 3 _ rfl
 have x4:w11.cell? ⟨w10.heap.size,19,none⟩=some (.int .i64 0):=sa 4 _ rfl
 have x5:w11.cell? ⟨w10.heap.size,20,none⟩=some (.int .i64 0):=sa 5 _ rfl
 have x6:w11.cell? ⟨w10.heap.size,21,none⟩=some (.int .i64 150):=sa 6 _ rfl
 have x7:w11.cell? ⟨w10.heap.size,22,none⟩=some (.int .i64 0):=sa 7 _ rfl
 have x8:w11.cell? ⟨w10.heap.size,23,none⟩=some (.int .i64 1):=sa 8 _ rfl
 have x9:w11.cell? ⟨w10.heap.size,24,none⟩=some (.int .i64 3):=sa 9 _ rfl
 have x10:w11.cell? ⟨w10.heap.size,25,none⟩=some (.int .i64 50):=sa 10 _ rfl
 have x11:w11.cell? ⟨w10.heap.size,26,none⟩=some (.bool false):=sa 11 _ rfl
 have x12:w11.cell? ⟨w10.heap.size,27,none⟩=some (.int .i64 0):=sa 12 _ rfl
 have x13:w11.cell? ⟨w10.heap.size,28,none⟩=some (.int .i64 0):=sa 13 _ rfl
 have x14:w11.cell? ⟨w10.heap.size,29,none⟩=some (.int .i64 0):=sa 14 _ rfl
 have HT11:=qj (HT10.out.same f)
 clear sa hr f HT10
 go_wp2_with fail
 clear x0 x1 x2 x3 x4 x5 x6 x7 x8 x9 x10 x11 x12 x13 x14
 refine (addN_c HT11.out).mono ?_
 rintro e w12 ⟨rfl,ht⟩
 have HT12:=qj ht
 clear ht HT11
 go_wp2_with fail
 refine (outA_c HT12.out HRd4.out).mono ?_
 rintro e w13 ⟨pa,po,pc,rfl,hpc,ht⟩
 have HT13:=qj ht
 clear ht HT12
 have HPA:=qj hpc
 clear hpc
 go_wp2_with fail
 refine (outB_c HT13.out HRd4.out).mono ?_
 rintro e w14 ⟨qa,qo,qc,rfl,hqc,hf,ht⟩
 have HT14:=qj ht
 clear ht HT13
 have HPB:=qj hqc
 have HPA2:=qj (fun j u h=>hf.cel (HPA.out j u h) (by simp))
 clear hqc hf HPA
 have HPA:=HPA2
 clear HPA2
 have c0:w14.cell? ⟨pa,po,none⟩=some (.int .i64 1):=by
  have h:=HPA.out 0 _ rfl
  rw [Nat.add_zero] at h
  exact h
 have c1:w14.cell? ⟨pa,po+1,none⟩=some (.int .i64 0):=HPA.out 1 _ rfl
 have c2:w14.cell? ⟨pa,po+2,none⟩=some (.string ⟨#[2,172,2,2,0,6]⟩):=by
  have h:=HPA.out 2 _ rfl
  rw [show (.string ⟨#[2,172,2,2,0,6]⟩:Value)=.string tA from by rw [tA,txtA]]
  exact h
 have c3:w14.cell? ⟨pa,po+3,none⟩=some (.string pkA.sl):=HPA.out 3 _ rfl
 go_wp2_with fail
 clear c0 c1 c2 c3 HPA
 refine (inB_c HT14.out HRd4.out).mono ?_
 rintro e w15 ⟨rfl,ht,hk⟩
 have HT15:=qj ht
 clear ht HT14
 have HPB2:=qj (fun j u h=>hk _ _ (HPB.out j u h))
 clear hk HPB
 have HPB:=HPB2
 clear HPB2
 have c0:w15.cell? ⟨qa,qo,none⟩=some (.int .i64 1):=by
  have h:=HPB.out 0 _ rfl
  rw [Nat.add_zero] at h
  exact h
 have c1:w15.cell? ⟨qa,qo+1,none⟩=some (.int .i64 0):=HPB.out 1 _ rfl
 have c2:w15.cell? ⟨qa,qo+2,none⟩=some (.string tB):=HPB.out 2 _ rfl
 have c3:w15.cell? ⟨qa,qo+3,none⟩=some (.string pkB.sl):=HPB.out 3 _ rfl
 go_wp2_with fail
 clear c0 c1 c2 c3 HPB
 refine (inA_c HT15.out HRd4.out).mono ?_
 rintro e w16 ⟨rfl,ht⟩
 have HT16:=qj ht
 clear ht HT15
 have hA:=HT16.out.fr.keep HA4.out (by simp)
 have s0:=qd hA 0
 have s1:=qd hA 1
 have s2:=qd hA 2
 have s3:=qd hA 3
 have s4:=qd hA 4
 have s5:=qd hA 5
 have s6:=qd hA 6
 go_wp2_with fail
 clear hA s0 s1 s2 s3 s4 s5 s6
 refine (again_c HT16.out HRd4.out a HDm4.out (HS4.out.same HT16.out.fr) (fun g hg=>by
  rcases hg with hg | hg
  ·cases hg;exact HL4.out.1.1
  ·cases hg;exact HL4.out.1.2)).mono ?_
 rintro e w17 ⟨za,rfl,ht⟩
 have HT17:=qj ht
 clear ht HT16
 go_wp2_with fail
 refine (notesA_c HT17.out).mono ?_
 rintro e w18 ⟨v,rfl,hv,ht⟩
 have HT18:=qj ht
 clear ht HT17
 have HV:=qj hv
 clear hv
 go_wp2_with fail
 refine (said_c _).mono ?_
 rintro e w19 ⟨rfl,hr,f⟩
 have HV2:=qj (HV.out.same f)
 have HS2:=qj hr.sl
 have HT19:=qj (HT18.out.same f)
 clear hr f HT18 HV
 go_wp2_with fail
 refine (same43_c [ntA,ntB] _ _ w19 HV2.out HS2.out).mono ?_
 rintro e w20 ⟨rfl,f⟩
 have HT20:=qj (HT19.out.same f)
 clear f HT19 HV2 HS2
 go_wp2_with fail
 refine (notesB_c HT20.out).mono ?_
 rintro e w21 ⟨v,rfl,hv,ht⟩
 have HT21:=qj ht
 clear ht HT20
 have HV:=qj hv
 clear hv
 go_wp2_with fail
 refine (said_c _).mono ?_
 rintro e w22 ⟨rfl,hr,f⟩
 have HV2:=qj (HV.out.same f)
 have HS2:=qj hr.sl
 have HT22:=qj (HT21.out.same f)
 clear hr f HT21 HV
 go_wp2_with fail
 refine (same43_c [ntA,ntB] _ _ w22 HV2.out HS2.out).mono ?_
 rintro e w23 ⟨rfl,f⟩
 have HT23:=qj (HT22.out.same f)
 clear f HT22 HV2 HS2
 go_wp2_with fail
 refine (notesZ_c HT23.out).mono ?_
 rintro e w24 ⟨v,rfl,hv,ht⟩
 have HT24:=qj ht
 clear ht HT23
 have HV:=qj hv
 clear hv
 go_wp2_with fail
 refine (said_c _).mono ?_
 rintro e w25 ⟨rfl,hr,f⟩
 have HV2:=qj (HV.out.same f)
 have HS2:=qj hr.sl
 have HT25:=qj (HT24.out.same f)
 clear hr f HT24 HV
 go_wp2_with fail
 refine (same43_c [ntA,ntB] _ _ w25 HV2.out HS2.out).mono ?_
 rintro e w26 ⟨rfl,f⟩
 have HT26:=qj (HT25.out.same f)
 clear f HT25 HV2 HS2
 have hA:=HT26.out.fr.keep HA4.out (by simp)
 have s0:=qd hA 0
 have s1:=qd hA 1
 have s2:=qd hA 2
 have s3:=qd hA 3
 have s4:=qd hA 4
 have s5:=qd hA 5
 have s6:=qd hA 6
 go_wp2_with fail
 clear hA s0 s1 s2 s3 s4 s5 s6
 refine (caValid_c exS _ _ _ (HS4.out.same HT26.out.fr)).mono ?_
 rintro e w27 ⟨rfl,f⟩
 rw [show suOk exS=true from by decide]
 have HF27:=qj (HT26.out.fr.trans f)
 clear f HT26
 go_wp2_with fail
 refine (caValid_c ⟨0,[],0,0,0,0,[]⟩ (.slice none 0 0) (.slice none 0 0) _ ⟨Sl.nil _,Sl.nil _,by decide,by decide⟩).mono ?_
 rintro e w28 ⟨rfl,f⟩
 rw [show suOk ⟨0,[],0,0,0,0,[]⟩=false from by decide]
 have HF28:=qj (HF4.out.trans (HF27.out.trans f))
 clear f HF27 HF4
 have hq:=HQ.out
 clear HQ
 subst hq
 go_wp2_with fail
 go_ret
 exact ⟨rfl,HF28.out⟩
end Go.Proofs.YtledkokhghjfmaaGreatDoor
