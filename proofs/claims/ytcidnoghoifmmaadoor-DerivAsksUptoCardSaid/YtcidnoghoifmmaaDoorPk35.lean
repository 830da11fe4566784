/-
  Texts of this proof, put together: D8, D9, PlA, NfS1, NfS2, NfA, NfC, AcA, AcB, NfS3, NfS4, AcC, NfS5, NfS6, AcD, NfS7, NfD, NfE, DrA, DrB, DrC.
-/
import Derived.Test.YtcidnoghoifmmaaDoorPk34
import Derived.Test.YtcidnoghoifmmaaDoorPk33
set_option linter.unusedSectionVars false
set_option linter.unusedSimpArgs false
set_option linter.unusedVariables false
section
set_option maxRecDepth 4000
set_option maxHeartbeats 4000000
namespace Go.Proofs.YtcidnoghoifmmaaDoor
open Go AW
attribute [local irreducible] W WD SH XS XLoop DFun XCall XYield
def Sw:aC:=.o [qx 1 9 0,qm 2 (ki 0),qm 3 (ki 0)] (.o [qn 6 9 1,qc 7 89 [6],qm 4 7] (.s (.o [qm 8 4,qb 9 .neq 8 (ki 0)] (.cond 9 (.o [qm 10 4,qm 2 (ki 0),qm 3 10] .ret) .skip)) (.o [qn 11 9 1,qc 12 90 [11],qb 13 .add 12 (ki 1),qm 5 13] (.s (.o [qm 14 5,qb 15 .gtr 14 (ki 16384)] (.cond 15 (.o [qm 2 (ki 0),qm 3 (ki 3)] .ret) .skip)) (.o [qm 16 5,qm 2 16,qm 3 (ki 0)] .ret)))))
def R64:List RA:=[(.tmp 2),(.tmp 3)]
theorem k64:au Tryd.prog (dQ [1]) 64=some ⟨17,Sw,R64⟩:=by kernel_rfl
noncomputable def Ti (n:aK):Option (Int × Int):=(Tl n>>=fun r_1=>(if (r_1 != 0)=true then (some (0,r_1)) else (XF n>>=fun r_4=>(if (decide ((IntKind.wrap .i64 (r_4+1))>16384))=true then (some (0,3)) else (some (IntKind.wrap .i64 (r_4+1),0))))))
theorem d64 (n:aK) (r:Int × Int) (hF:Ti n=some r):DFun Tryd.prog gE 64 [dL n] (AV.bt [AV.int .i64 r.1,AV.int .i64 r.2]):=by
 unfold Ti at hF;refine bD k64 z ?_;have hs:SH [] []:=SH.nil;generalize ([]:aA)=st at hs ⊢;refine rn 0 z (W.o (aY (cs:=bn n) z (by rw [aF];rfl) (aX _)) (rn 2 z (W.o (aL z (DP.refl _) (aF _)) (bj hF fun r_1 g_2 hF=>df (d89 n _ g_2) z (rn 3 z (ci hF z (fun c_3 hF=>?_) (fun c_3 hF=>?_)))))))
 ·refine rn 3 z ?_;cases hF;exact rD (ah (ah bG)) z
 refine rn 0 z (W.o (aL z (DP.refl _) (aF _)) (bj hF fun r_4 g_5 hF=>df (d90 n _ g_5) z (rn 4 z (ci hF z (fun c_6 hF=>?_) (fun c_6 hF=>?_)))))
 ·refine rn 2 z ?_;cases hF;exact rD (ah (ah bG)) z
 refine rn 3 z ?_;cases hF;exact rD (ah (ah bG)) z
def Sz:aC:=.o [qx 3 9 1,qm 4 (ki 0)] (.s (.draw [] 0 1 [qm 5 0,qm 6 0,qk 7 6,qa 8 0 7,qa 9 2 8,ql 10 9,qn 11 9 3,q 12 (.bE 9 1 true [zb,zu,zu,zu,zu,zi,zi,zi,zi] [(0,(9,11))] false)] [q 13 (.ng 9 72 10 12),qk 14 5,qa 15 0 14,qa 16 2 15,qs 1 16 13]) (.o [qm 17 0,qk 18 17,qa 19 0 18,qa 20 2 19,ql 21 20,qh 22 21,qb 23 .sub 22 (ki 1),qm 4 23] .ret))
def R67:List RA:=[(.tmp 4)]
theorem k67:au Tryd.prog (dQ [3,13]) 67=some ⟨24,Sz,R67⟩:=by kernel_rfl
noncomputable def vf (l:af) (x_:aT):Option (Int × af):=(if ((ls l.Code).length+(ls (some ([x_]:List aT))).length)*72≤140737488355328 then (some (IntKind.wrap .i64 (((ls (bW l.Code (ls (some ([x_]:List aT))))).length:Int)-1),({l with Code:=bW l.Code (ls (some ([x_]:List aT)))}:af))) else none)
theorem d67 (l:af) (x_:aT) (r:Int × af) (hF:vf l x_=some r): ∀(K:AV→aA→Prop) (Ls:List bU) (iP0:Nat),(∀st,SH st (aq iP0 r.2::Ls)→K (AV.int .i64 r.1) st)→ ∀(st:aA),SH st (aq iP0 l::Ls)→XCall Tryd.prog gE 67 [.ptr iP0 0,v76 x_] st K:=by
 unfold vf at hF;intro K Ls iP0 hK  st hs;refine bS k67 z (rn 0 z (W.o (aY (cs:=dx x_) z z z) ?_));obtain ⟨j_1,hs⟩:=SH.fm hs;refine rn 1 z (Ai hs fun s_2 st h0 hs=>dn 2 z (de z (bT z (h0.g 0 z)) (de z (aJ z (h0.g 0 z)) (de z (aJ z (h0.g 0 z)) (de z (l1 z (h0.g 0 z) z) (de z (uD (s:=dx x_) z z z) (CJ (f:=v76) ([x_]:List aT) hs 0 z z z z z z fun st hs=>dz (gj hF fun g_5 hF=>QJ (f:=v76) (c:=dx) (ys:=ls (some ([x_]:List aT))) hs 2 z z (eR (cO (o:=(some ([x_]:List aT))) (id:=(List.length s_2+0)) z)) g_5 gI (fun _=>z) (fun _=>z) fun st b_6 hs=>W.o (bT z (hs.g 1 z)) (W.o (aJ z (hs.g 1 z)) ?_)))))))));refine W.o (aJ z (hs.g 1 z)) (so hs 1 z z z (Cn (es:=9) (o:=bW l.Code (ls (some ([x_]:List aT)))) (id:=b_6)) z (cs':=(cI .i64) (l.bH)++((cI .i64) (l.bX)++([fC 9 (bW l.Code (ls (some ([x_]:List aT)))) b_6]))) z z fun st hs=>rn 1 z (W.o (bT z (hs.g 1 z)) (W.o (aJ z (hs.g 1 z)) (W.o (aJ z (hs.g 1 z)) (W.o (l1 z (hs.g 1 z) z) (W.o (gL hs 2 z z) (rn 2 z ?_)))))));have hs:SH st (aq iP0 ({l with Code:=bW l.Code (ls (some ([x_]:List aT)))}:af)::_):=SH.eE b_6 (hs.p 3 [1,1,0] z);cases hF;exact rS (ah bG) (hK _ (hs.p 2 [0] z)) z
def TW:aC:=.o [qm 2 (ki 0)] (.o [qm 3 0,qk 4 3,qa 5 0 4,qa 6 2 5,ql 7 6,qh 8 7,qm 2 8] .ret)
def R91:List RA:=[(.tmp 2)]
theorem Zo:au Tryd.prog (dQ []) 91=some ⟨9,TW,R91⟩:=by kernel_rfl
noncomputable def Gn (l:af):Option (Int × af):=(some (((ls l.Code).length:Int),l))
theorem d91 (l:af) (r:Int × af) (hF:Gn l=some r): ∀(K:AV→aA→Prop) (Ls:List bU) (iP0:Nat),(∀st,SH st (aq iP0 r.2::Ls)→K (AV.int .i64 r.1) st)→ ∀(st:aA),SH st (aq iP0 l::Ls)→XCall Tryd.prog gE 91 [.ptr iP0 0] st K:=by
 unfold Gn at hF;intro K Ls iP0 hK  st hs;refine bS Zo z ?_;obtain ⟨j_1,hs⟩:=SH.fm hs;refine rn 2 z (W.o (bT z (hs.g 0 z)) (W.o (aJ z (hs.g 0 z)) (W.o (aJ z (hs.g 0 z)) (W.o (l1 z (hs.g 0 z) z) (W.o (gL hs 1 z z) (rn 1 z ?_))))));have hs:SH st (aq iP0 l::_):=SH.eE j_1 (hs.p 2 [0,0] z);cases hF;exact rS (ah bG) (hK _ hs) z
theorem YB (l:af) (r:Int × af) (hF:Gn l=some r): ∀(K:AV→aA→Prop) (Ls:List bU) (iP0:Nat) (st:aA),SH st (aq iP0 l::Ls)→K (AV.int .i64 r.1) st→XCall Tryd.prog gE 91 [.ptr iP0 0] st K:=by
 unfold Gn at hF;intro K Ls iP0 st hs hK;refine bS Zo rfl ?_;obtain ⟨j_1,hs⟩:=SH.fm hs;refine rn 2 rfl (W.o (bT rfl (hs.g 0 rfl)) (W.o (aJ rfl (hs.g 0 rfl)) (W.o (aJ rfl (hs.g 0 rfl)) (W.o (l1 rfl (hs.g 0 rfl) rfl) (W.o (gL hs 1 rfl rfl) (rn 1 rfl ?_))))));cases hF;exact rS (ah bG) hK rfl
def Fu:aC:=.s (.o [qm 40 6,qa 41 8 4,ql 42 41,qh 43 42,qb 44 .lss 40 43] (.cond 44 .skip (.exit 1))) (.s (.block 2 (.ops [qm 47 0,qa 48 8 4,ql 49 48,qm 50 6,qi 51 9 49 50,qn 52 9 51,qm 53 2,qc 54 66 [47,52,53]])) (.ops [qm 45 6,qb 46 .add 45 (ki 1),qm 6 46]))
def Fv:aC:=.s (.o [qm 80 9,qm 81 8,qb 82 .lss 80 81] (.cond 82 .skip (.exit 3))) (.s (.block 4 (.o [qm 85 0,q 86 (.build [zb,zu,zu,zu,zu,zi,zi,zi,zi] [(0,(1,(ku 2)))]),qc 87 67 [85,86],qm 10 87] (.o [qm 88 0,qa 89 8 4,ql 90 89,qm 91 9,qi 92 9 90 91,qn 93 9 92,qm 94 2,qc 95 66 [88,93,94]] (.o [qm 96 7,qm 97 0,q 98 (.build [zb,zu,zu,zu,zu,zi,zi,zi,zi] [(0,(1,(ku 3)))]),qc 99 67 [97,98],q 100 (.bE 1 1 false [zi] [(0,(1,99))] false),q 101 (.app 1 8 96 100),qm 7 101] (.draw [] 0 0 [qm 102 0,qk 103 102,qa 104 0 103,qa 105 2 104,ql 106 105,qm 107 10,qm 108 0,qc 109 91 [108],qi 110 9 106 107,qa 111 5 110] [qs 1 111 109]))))) (.ops [qm 83 9,qb 84 .add 83 (ki 1),qm 9 84]))
def Fx:aC:=.s (.o [qm 120 11,qm 121 7,qh 122 121,qb 123 .lss 120 122] (.cond 123 .skip (.exit 5))) (.s (.block 6 (.draw [] 0 0 [qm 126 0,qk 127 126,qa 128 0 127,qa 129 2 128,ql 130 129,qm 131 7,qm 132 11,qi 133 1 131 132,ql 134 133,qm 135 0,qc 136 91 [135],qi 137 9 130 134,qa 138 5 137] [qs 1 138 136])) (.ops [qm 124 11,qb 125 .add 124 (ki 1),qm 11 125]))
def Fw:aC:=.o [qm 112 0,qa 113 8 4,ql 114 113,qm 115 8,qi 116 9 114 115,qn 117 9 116,qm 118 2,qc 119 66 [112,117,118]] (.o [qm 11 (ki 0)] (.block 5 (.loop Fx)))
def OY:aC:=.o [qb 39 .eql 13 (ku 3),qm 38 39] (.cond 38 (.o [qm 6 (ki 0)] (.block 1 (.loop Fu))) (.o [qb 56 .eql 13 (ku 6),qm 55 56] (.cond 55 (.o [qm 57 0,qa 58 7 4,ql 59 58,q 60 (.build [zb,zu,zu,zu,zu,zi,zi,zi,zi] [(0,(1,(ku 4))),(6,(1,59))]),qc 61 67 [57,60]] (.o [qm 62 0,qa 63 8 4,ql 64 63,qi 65 9 64 (ki 0),qn 66 9 65,qm 67 2,qc 68 66 [62,66,67]] (.ops [qm 69 0,qa 70 7 4,ql 71 70,q 72 (.build [zb,zu,zu,zu,zu,zi,zi,zi,zi] [(0,(1,(ku 5))),(6,(1,71))]),qc 73 67 [69,72]]))) (.o [qb 75 .eql 13 (ku 4),qm 74 75] (.cond 74 (.o [qm 7 (.c .aP)] (.o [qa 76 8 4,ql 77 76,qh 78 77,qb 79 .sub 78 (ki 1),qm 8 79] (.s (.o [qm 9 (ki 0)] (.block 3 (.loop Fv))) Fw))) (.o [qb 140 .eql 13 (ku 5),qm 139 140] (.cond 139 (.ops [qm 141 0,qn 142 9 4,qm 143 2,qc 144 92 [141,142,143]]) .skip)))))))
def Sy:aC:=.o [qx 4 9 1] (.o [qa 12 0 4,ql 13 12] (.block 0 (.o [qb 15 .eql 13 (ku 2),qm 14 15] (.cond 14 (.ops [qm 16 0,qa 17 1 4,qn 18 4 17,q 19 (.build [zb,zu,zu,zu,zu,zi,zi,zi,zi] [(0,(1,(ku 1))),(1,(4,18))]),qc 20 67 [16,19]]) (.o [qb 22 .eql 13 (ku 8),qm 21 22] (.cond 21 (.ops [qm 23 0,q 24 (.build [zb,zu,zu,zu,zu,zi,zi,zi,zi] [(0,(1,(ku 10)))]),qc 25 67 [23,24]]) (.o [qb 27 .eql 13 (ku 9),qm 26 27] (.cond 26 (.ops [qm 28 0,q 29 (.build [zb,zu,zu,zu,zu,zi,zi,zi,zi] [(0,(1,(ku 11)))]),qc 30 67 [28,29]]) (.o [qb 32 .eql 13 (ku 7),qm 31 32] (.cond 31 (.ops [qm 33 0,qa 34 7 4,ql 35 34,q 36 (.build [zb,zu,zu,zu,zu,zi,zi,zi,zi] [(0,(1,(ku 9))),(6,(1,35))]),qc 37 67 [33,36]]) OY))))))))))
def ZI:List RA:=[]
theorem k66:au Tryd.prog (dQ [4]) 66=some ⟨145,Sy,ZI⟩:=by kernel_rfl
noncomputable abbrev XX (K:AV→aA→Prop):Cx:=cK Tryd.prog gE 145 ZI (uL K) [4]
def Ol:aC:=.cond 30 (.exit 0) .skip
def MK:aC:=.s (.o [qm 12 6,qa 13 5 4,ql 14 13,qb 15 .lss 12 14] (.cond 15 .skip (.exit 0))) (.s (.block 1 (.o [qm 18 0,qc 19 91 [18],qm 7 19] (.o [qm 20 0,qa 21 8 4,ql 22 21,qi 23 9 22 (ki 0),qn 24 9 23,qm 25 2,qc 26 100 [20,24,25]] (.o [qm 27 0,qc 28 91 [27],qm 29 7,qb 30 .eql 28 29] Ol)))) (.ops [qm 16 6,qb 17 .add 16 (ki 1),qm 6 17]))
def Om:aC:=.o [qm 60 8,qm 61 0,q 62 (.build [zb,zu,zu,zu,zu,zi,zi,zi,zi] [(0,(1,(ku 2)))]),qc 63 67 [61,62],q 64 (.bE 1 1 false [zi] [(0,(1,63))] false),q 65 (.app 1 8 60 64),qm 8 65] (.ops [qm 66 0,qa 67 8 4,ql 68 67,qi 69 9 68 (ki 0),qn 70 9 69,qm 71 2,qc 72 101 [66,70,71]])
def GW:aC:=.s (.o [qm 54 10,qa 55 6 4,ql 56 55,qb 57 .lss 54 56] (.cond 57 .skip (.exit 2))) (.s (.block 3 Om) (.ops [qm 58 10,qb 59 .add 58 (ki 1),qm 10 59]))
def GY:aC:=.s (.o [qm 73 11,qm 74 8,qh 75 74,qb 76 .lss 73 75] (.cond 76 .skip (.exit 4))) (.s (.block 5 (.draw [] 0 0 [qm 79 0,qk 80 79,qa 81 0 80,qa 82 2 81,ql 83 82,qm 84 8,qm 85 11,qi 86 1 84 85,ql 87 86,qm 88 0,qc 89 91 [88],qi 90 9 83 87,qa 91 5 90] [qs 1 91 89])) (.ops [qm 77 11,qb 78 .add 77 (ki 1),qm 11 78]))
def GX:aC:=.o [qm 11 (ki 0)] (.block 4 (.loop GY))
def GV:aC:=.s (.o [qa 52 5 4,ql 53 52,qm 10 53] (.block 2 (.loop GW))) GX
def zw:aC:=.o [qm 8 (.c .aP)] (.s (.o [qa 31 6 4,ql 32 31,qb 33 .lss 32 (ki 0)] (.cond 33 (.o [qm 34 0,q 35 (.build [zb,zu,zu,zu,zu,zi,zi,zi,zi] [(0,(1,(ku 2)))]),qc 36 67 [34,35],qm 9 36] (.o [qm 37 8,qm 38 9,q 39 (.bE 1 1 false [zi] [(0,(1,38))] false),q 40 (.app 1 8 37 39),qm 8 40] (.o [qm 41 0,qa 42 8 4,ql 43 42,qi 44 9 43 (ki 0),qn 45 9 44,qm 46 2,qc 47 101 [41,45,46]] (.ops [qm 48 0,qm 49 9,q 50 (.build [zb,zu,zu,zu,zu,zi,zi,zi,zi] [(0,(1,(ku 3))),(5,(1,49))]),qc 51 67 [48,50]])))) .skip)) GV)
def TX:aC:=.o [qx 4 9 1] (.s (.o [qm 6 (ki 0)] (.block 0 (.loop MK))) zw)
def ZS:List RA:=[]
theorem k92:au Tryd.prog (dQ [4]) 92=some ⟨92,TX,ZS⟩:=by kernel_rfl
noncomputable abbrev UB (K:AV→aA→Prop):Cx:=cK Tryd.prog gE 92 ZS (uL K) [4]
def Bj:aC:=.ops [qm 20 0,qn 21 9 4,qm 22 2,qc 23 66 [20,21,22]]
def Nt:aC:=.o [qx 4 9 1] (.o [qn 9 9 4,qc 10 65 [9],qm 8 10,qe 11 8 0,qe 12 8 1,qm 6 11,qm 7 12] (.s (.o [qm 13 6,qb 14 .gtr 13 (ki 0)] (.cond 14 (.ops [qm 15 0,qm 16 6,qm 17 7,q 18 (.build [zb,zu,zu,zu,zu,zi,zi,zi,zi] [(0,(1,(ku 6))),(6,(1,16)),(7,(1,17))]),qc 19 67 [15,18]]) .skip)) Bj))
def Tt:List RA:=[]
theorem Xt:au Tryd.prog (dQ [4]) 100=some ⟨24,Nt,Tt⟩:=by kernel_rfl
noncomputable abbrev XP (K:AV→aA→Prop):Cx:=cK Tryd.prog gE 24 Tt (uL K) [4]
def EW:aC:=.o [qm 20 0,qm 21 2,q 22 (.build [zb,zu,zu,zu,zu,zi,zi,zi,zi] [(0,(1,(ku 7))),(8,(1,21))]),qc 23 67 [20,22]] (.o [qm 24 0,qn 25 9 4,qm 26 2,qb 27 .add 26 (ki 1),qc 28 100 [24,25,27]] (.ops [qm 29 0,qm 30 2,q 31 (.build [zb,zu,zu,zu,zu,zi,zi,zi,zi] [(0,(1,(ku 8))),(8,(1,30))]),qc 32 67 [29,31]]))
def Nu:aC:=.o [qx 4 9 1] (.s (.o [qm 6 0,qk 7 6,qa 8 0 7,qa 9 1 8,ql 10 9,qm 11 2,qb 12 .add 11 (ki 1),qb 13 .lss 10 12] (.cond 13 (.ops [qm 14 0,qm 15 2,qb 16 .add 15 (ki 1),qk 17 14,qa 18 0 17,qa 19 1 18,qs 1 19 16]) .skip)) EW)
def Tu:List RA:=[]
theorem Xu:au Tryd.prog (dQ [4]) 101=some ⟨33,Nu,Tu⟩:=by kernel_rfl
noncomputable abbrev XQ (K:AV→aA→Prop):Cx:=cK Tryd.prog gE 33 Tu (uL K) [4]
inductive HN where
 | yC (l:af) (n:aK) (free:Int)
 | tI (free:Int) (n:aK) (i:Int) (l:af)
 | tJ (free:Int) (n:aK) (last:Int) (i:Int) (l:af) (jumps:Sl Int)
 | qP (i:Int) (l:af) (jumps:Sl Int)
 | Qj (l:af) (n:aK) (free:Int)
 | tP (free:Int) (n:aK) (i:Int) (l:af)
 | tQ (free:Int) (n:aK) (l:af)
 | yg (free:Int) (n:aK) (l:af) (splits:Sl Int)
 | tR (free:Int) (n:aK) (i:Int) (l:af) (splits:Sl Int)
 | oS (i:Int) (l:af) (splits:Sl Int)
 | sP (l:af) (kid:aK) (free:Int)
 | pT (free:Int) (kid:aK) (l:af)
 | sQ (l:af) (kid:aK) (free:Int)
 | pU (free:Int) (kid:aK) (l:af)
noncomputable def bz:HN→Option af | .yC l n free=>(if (n.Kind==2)=true then (vf l ({Kind:=1,Set:=n.Set,To:=0,aH:=0,bP:=0,Slot:=0}:aT)>>=fun r_2=>(some r_2.2)) else (if (n.Kind==8)=true then (vf l ({Kind:=10,Set:=(an.rep 4 (0:Int)),To:=0,aH:=0,bP:=0,Slot:=0}:aT)>>=fun r_5=>(some r_5.2)) else (if (n.Kind==9)=true then (vf l ({Kind:=11,Set:=(an.rep 4 (0:Int)),To:=0,aH:=0,bP:=0,Slot:=0}:aT)>>=fun r_8=>(some r_8.2)) else (if (n.Kind==7)=true then (vf l ({Kind:=9,Set:=(an.rep 4 (0:Int)),To:=0,aH:=n.aH,bP:=0,Slot:=0}:aT)>>=fun r_11=>(some r_11.2)) else (if (n.Kind==3)=true then (bz (.tI free n 0 l)) else (if (n.Kind==6)=true then (vf l ({Kind:=4,Set:=(an.rep 4 (0:Int)),To:=0,aH:=n.aH,bP:=0,Slot:=0}:aT)>>=fun r_15=>(ix (ls n.Kids) 0>>=fun v_17=>(bz (.yC r_15.2 v_17 free)>>=fun r_19=>(vf r_19 ({Kind:=5,Set:=(an.rep 4 (0:Int)),To:=0,aH:=n.aH,bP:=0,Slot:=0}:aT)>>=fun r_21=>(some r_21.2))))) else (if (n.Kind==4)=true then (bz (.tJ free n (IntKind.wrap .i64 (((ls n.Kids).length:Int)-1)) 0 l none)) else (if (n.Kind==5)=true then (bz (.Qj l n free)>>=fun r_26=>(some r_26)) else (some l))))))))) | .tI free n i l=>(if (decide (i<((ls n.Kids).length:Int)))=true then (ix (ls n.Kids) i>>=fun v_29=>(bz (.yC l v_29 free)>>=fun r_31=>(bz (.tI free n (IntKind.wrap .i64 (i+1)) r_31)))) else (some l)) | .tJ free n last i l jumps=>(if (decide (i<last))=true then (vf l ({Kind:=2,Set:=(an.rep 4 (0:Int)),To:=0,aH:=0,bP:=0,Slot:=0}:aT)>>=fun r_34=>(ix (ls n.Kids) i>>=fun v_36=>(bz (.yC r_34.2 v_36 free)>>=fun r_38=>(vf r_38 ({Kind:=3,Set:=(an.rep 4 (0:Int)),To:=0,aH:=0,bP:=0,Slot:=0}:aT)>>=fun r_40=>(if ((ls jumps).length+(ls (some ([r_40.1]:List Int))).length)*8≤140737488355328 then (Gn r_40.2>>=fun r_46=>(ix (ls r_40.2.Code) r_34.1>>=fun v_48=>(bz (.tJ free n last (IntKind.wrap .i64 (i+1)) ({r_40.2 with Code:=(dF r_40.2.Code r_34.1 ({v_48 with To:=r_46.1}:aT))}:af) (bW jumps (ls (some ([r_40.1]:List Int)))))))) else none))))) else (ix (ls n.Kids) last>>=fun v_50=>(bz (.yC l v_50 free)>>=fun r_52=>(bz (.qP 0 r_52 jumps))))) | .qP i l jumps=>(if (decide (i<((ls jumps).length:Int)))=true then (ix (ls jumps) i>>=fun v_56=>(Gn l>>=fun r_58=>(ix (ls l.Code) v_56>>=fun v_60=>(bz (.qP (IntKind.wrap .i64 (i+1)) ({l with Code:=(dF l.Code v_56 ({v_60 with To:=r_58.1}:aT))}:af) jumps))))) else (some l)) | .Qj l n free=>(bz (.tP free n 0 l)) | .tP free n i l=>(if (decide (i<n.Min))=true then (Gn l>>=fun r_2=>(ix (ls n.Kids) 0>>=fun v_4=>(bz (.sP r_2.2 v_4 free)>>=fun r_6=>(Gn r_6>>=fun r_8=>(if (r_8.1==r_2.1)=true then (bz (.tQ free n r_8.2)) else (bz (.tP free n (IntKind.wrap .i64 (i+1)) r_8.2))))))) else (bz (.tQ free n l))) | .tQ free n l=>(if (decide (n.Max<0))=true then (vf l ({Kind:=2,Set:=(an.rep 4 (0:Int)),To:=0,aH:=0,bP:=0,Slot:=0}:aT)>>=fun r_12=>(if ((ls (none:Sl Int)).length+(ls (some ([r_12.1]:List Int))).length)*8≤140737488355328 then (ix (ls n.Kids) 0>>=fun v_18=>(bz (.sQ r_12.2 v_18 free)>>=fun r_20=>(vf r_20 ({Kind:=3,Set:=(an.rep 4 (0:Int)),To:=r_12.1,aH:=0,bP:=0,Slot:=0}:aT)>>=fun r_22=>(bz (.yg free n r_22.2 (bW (none:Sl Int) (ls (some ([r_12.1]:List Int))))))))) else none)) else (bz (.yg free n l none))) | .yg free n l splits=>(bz (.tR free n n.Min l splits)) | .tR free n i l splits=>(if (decide (i<n.Max))=true then (vf l ({Kind:=2,Set:=(an.rep 4 (0:Int)),To:=0,aH:=0,bP:=0,Slot:=0}:aT)>>=fun r_26=>(if ((ls splits).length+(ls (some ([r_26.1]:List Int))).length)*8≤140737488355328 then (ix (ls n.Kids) 0>>=fun v_31=>(bz (.sQ r_26.2 v_31 free)>>=fun r_33=>(bz (.tR free n (IntKind.wrap .i64 (i+1)) r_33 (bW splits (ls (some ([r_26.1]:List Int)))))))) else none)) else (bz (.oS 0 l splits))) | .oS i l splits=>(if (decide (i<((ls splits).length:Int)))=true then (ix (ls splits) i>>=fun v_37=>(Gn l>>=fun r_39=>(ix (ls l.Code) v_37>>=fun v_41=>(bz (.oS (IntKind.wrap .i64 (i+1)) ({l with Code:=(dF l.Code v_37 ({v_41 with To:=r_39.1}:aT))}:af) splits))))) else (some l)) | .sP l kid free=>(Rg kid>>=fun r_1=>(if (decide (r_1.1>0))=true then (vf l ({Kind:=6,Set:=(an.rep 4 (0:Int)),To:=0,aH:=r_1.1,bP:=r_1.2,Slot:=0}:aT)>>=fun r_4=>(bz (.pT free kid r_4.2))) else (bz (.pT free kid l)))) | .pT free kid l=>(bz (.yC l kid free)>>=fun r_6=>(some r_6)) | .sQ l kid free=>(if (decide (l.bX<(IntKind.wrap .i64 (free+1))))=true then (bz (.pU free kid ({l with bX:=IntKind.wrap .i64 (free+1)}:af))) else (bz (.pU free kid l))) | .pU free kid l=>(vf l ({Kind:=7,Set:=(an.rep 4 (0:Int)),To:=0,aH:=0,bP:=0,Slot:=free}:aT)>>=fun r_3=>(bz (.sP r_3.2 kid (IntKind.wrap .i64 (free+1)))>>=fun r_5=>(vf r_5 ({Kind:=8,Set:=(an.rep 4 (0:Int)),To:=0,aH:=0,bP:=0,Slot:=free}:aT)>>=fun r_7=>(some r_7.2)))) partial_fixpoint
def Ts (x:HN) (r:af):Prop:=match x with | .yC l n free=> ∀(K:AV→aA→Prop) (Ls:List bU) (iP0:Nat),(∀st,SH st (aq iP0 r::Ls)→K (AV.bt []) st)→ ∀(st:aA),SH st (aq iP0 l::Ls)→XCall Tryd.prog gE 66 [.ptr iP0 0,dL n,AV.int .i64 free] st K | .tI free n i l=> ∀(K:AV→aA→Prop) (Ls:List bU) (iP0:Nat),(∀st,SH st (aq iP0 r::Ls)→K (AV.bt []) st)→ ∀(tm:Fr) (st:aA),dH tm [(0,.ptr iP0 0),(2,AV.int .i64 free),(4,.aQ (bn n)),(6,AV.int .i64 i)]→SH st (aq iP0 l::Ls)→W (XX K) [.lp Fu,.blk 1,.blk 0] tm st | .tJ free n last i l jumps=> ∀(K:AV→aA→Prop) (Ls:List bU) (iP0:Nat),(∀st,SH st (aq iP0 r::Ls)→K (AV.bt []) st)→ ∀(tm:Fr) (st:aA) (io1:Nat),dH tm [(0,.ptr iP0 0),(2,AV.int .i64 free),(4,.aQ (bn n)),(7,br 1 (AV.int .i64) jumps io1),(8,AV.int .i64 last),(9,AV.int .i64 i)]→SH st (aq iP0 l::dK io1 jumps::Ls)→W (XX K) [.lp Fv,.blk 3,.code Fw,.blk 0] tm st | .qP i l jumps=> ∀(K:AV→aA→Prop) (Ls:List bU) (iP0:Nat),(∀st,SH st (aq iP0 r::Ls)→K (AV.bt []) st)→ ∀(tm:Fr) (st:aA) (io1:Nat),dH tm [(0,.ptr iP0 0),(7,br 1 (AV.int .i64) jumps io1),(11,AV.int .i64 i)]→SH st (aq iP0 l::dK io1 jumps::Ls)→W (XX K) [.lp Fx,.blk 5,.blk 0] tm st | .Qj l n free=> ∀(K:AV→aA→Prop) (Ls:List bU) (iP0:Nat),(∀st,SH st (aq iP0 r::Ls)→K (AV.bt []) st)→ ∀(st:aA),SH st (aq iP0 l::Ls)→XCall Tryd.prog gE 92 [.ptr iP0 0,dL n,AV.int .i64 free] st K | .tP free n i l=> ∀(K:AV→aA→Prop) (Ls:List bU) (iP0:Nat),(∀st,SH st (aq iP0 r::Ls)→K (AV.bt []) st)→ ∀(tm:Fr) (st:aA),dH tm [(0,.ptr iP0 0),(2,AV.int .i64 free),(4,.aQ (bn n)),(6,AV.int .i64 i)]→SH st (aq iP0 l::Ls)→W (UB K) [.lp MK,.blk 0,.code zw] tm st | .tQ free n l=> ∀(K:AV→aA→Prop) (Ls:List bU) (iP0:Nat),(∀st,SH st (aq iP0 r::Ls)→K (AV.bt []) st)→ ∀(tm:Fr) (st:aA),dH tm [(0,.ptr iP0 0),(2,AV.int .i64 free),(4,.aQ (bn n))]→SH st (aq iP0 l::Ls)→W (UB K) [.code zw] tm st | .yg free n l splits=> ∀(K:AV→aA→Prop) (Ls:List bU) (iP0:Nat),(∀st,SH st (aq iP0 r::Ls)→K (AV.bt []) st)→ ∀(tm:Fr) (st:aA) (io1:Nat),dH tm [(0,.ptr iP0 0),(2,AV.int .i64 free),(4,.aQ (bn n)),(8,br 1 (AV.int .i64) splits io1)]→SH st (aq iP0 l::dK io1 splits::Ls)→W (UB K) [.code GV] tm st | .tR free n i l splits=> ∀(K:AV→aA→Prop) (Ls:List bU) (iP0:Nat),(∀st,SH st (aq iP0 r::Ls)→K (AV.bt []) st)→ ∀(tm:Fr) (st:aA) (io1:Nat),dH tm [(0,.ptr iP0 0),(2,AV.int .i64 free),(4,.aQ (bn n)),(8,br 1 (AV.int .i64) splits io1),(10,AV.int .i64 i)]→SH st (aq iP0 l::dK io1 splits::Ls)→W (UB K) [.lp GW,.blk 2,.code GX] tm st | .oS i l splits=> ∀(K:AV→aA→Prop) (Ls:List bU) (iP0:Nat),(∀st,SH st (aq iP0 r::Ls)→K (AV.bt []) st)→ ∀(tm:Fr) (st:aA) (io1:Nat),dH tm [(0,.ptr iP0 0),(8,br 1 (AV.int .i64) splits io1),(11,AV.int .i64 i)]→SH st (aq iP0 l::dK io1 splits::Ls)→W (UB K) [.lp GY,.blk 4] tm st | .sP l kid free=> ∀(K:AV→aA→Prop) (Ls:List bU) (iP0:Nat),(∀st,SH st (aq iP0 r::Ls)→K (AV.bt []) st)→ ∀(st:aA),SH st (aq iP0 l::Ls)→XCall Tryd.prog gE 100 [.ptr iP0 0,dL kid,AV.int .i64 free] st K | .pT free kid l=> ∀(K:AV→aA→Prop) (Ls:List bU) (iP0:Nat),(∀st,SH st (aq iP0 r::Ls)→K (AV.bt []) st)→ ∀(tm:Fr) (st:aA),dH tm [(0,.ptr iP0 0),(2,AV.int .i64 free),(4,.aQ (bn kid))]→SH st (aq iP0 l::Ls)→W (XP K) [.code Bj] tm st | .sQ l kid free=> ∀(K:AV→aA→Prop) (Ls:List bU) (iP0:Nat),(∀st,SH st (aq iP0 r::Ls)→K (AV.bt []) st)→ ∀(st:aA),SH st (aq iP0 l::Ls)→XCall Tryd.prog gE 101 [.ptr iP0 0,dL kid,AV.int .i64 free] st K | .pU free kid l=> ∀(K:AV→aA→Prop) (Ls:List bU) (iP0:Nat),(∀st,SH st (aq iP0 r::Ls)→K (AV.bt []) st)→ ∀(tm:Fr) (st:aA),dH tm [(0,.ptr iP0 0),(2,AV.int .i64 free),(4,.aQ (bn kid))]→SH st (aq iP0 l::Ls)→W (XQ K) [.code EW] tm st
theorem Lu: ∀(x:HN) (r:af),bz x=some r→Ts x r:=by
 refine bz.partial_correctness Ts ?_;intro g ih x r hF;cases x with
 | yC l n free=>
  dsimp only at hF;intro K Ls iP0 hK  st hs;refine bS k66 z (rn 0 z (W.o (aY (cs:=bn n) z (by rw [aF];rfl) (aX _)) (rn 0 z (W.o (aB z) (W.o (aI z (DP.cN (DP.refl _) (bI n))) (rn 2 z (ci hF z (fun c_1 hF=>?_) (fun c_1 hF=>?_))))))))
  ·refine rn 1 z (W.o (aB z) (W.o (aL z (DP.cN (DP.refl _) (mR n)) (eB _)) (W.o (bR (cs:=dx ({Kind:=1,Set:=n.Set,To:=0,aH:=0,bP:=0,Slot:=0}:aT)) z z) (bj hF fun r_2 g_3 hF=>?_))));refine cl (dw z) (d67 _ _ _ g_3 _ _ iP0 (fun st hs=>?_) _ hs);refine rn 0 z ?_;cases hF;exact eS bG (hK _ hs) z
  refine rn 2 z (ci hF z (fun c_4 hF=>?_) (fun c_4 hF=>?_))
  ·refine rn 1 z (W.o (bR (cs:=dx ({Kind:=10,Set:=(an.rep 4 (0:Int)),To:=0,aH:=0,bP:=0,Slot:=0}:aT)) z z) (bj hF fun r_5 g_6 hF=>?_));refine cl (dw z) (d67 _ _ _ g_6 _ _ iP0 (fun st hs=>?_) _ hs);refine rn 0 z ?_;cases hF;exact eS bG (hK _ hs) z
  refine rn 2 z (ci hF z (fun c_7 hF=>?_) (fun c_7 hF=>?_))
  ·refine rn 1 z (W.o (bR (cs:=dx ({Kind:=11,Set:=(an.rep 4 (0:Int)),To:=0,aH:=0,bP:=0,Slot:=0}:aT)) z z) (bj hF fun r_8 g_9 hF=>?_));refine cl (dw z) (d67 _ _ _ g_9 _ _ iP0 (fun st hs=>?_) _ hs);refine rn 0 z ?_;cases hF;exact eS bG (hK _ hs) z
  refine rn 2 z (ci hF z (fun c_10 hF=>?_) (fun c_10 hF=>?_))
  ·refine rn 1 z (W.o (aB z) (W.o (aI z (DP.cN (DP.refl _) (bF n))) (W.o (bR (cs:=dx ({Kind:=9,Set:=(an.rep 4 (0:Int)),To:=0,aH:=n.aH,bP:=0,Slot:=0}:aT)) z z) (bj hF fun r_11 g_12 hF=>?_))));refine cl (dw z) (d67 _ _ _ g_12 _ _ iP0 (fun st hs=>?_) _ hs);refine rn 0 z ?_;cases hF;exact eS bG (hK _ hs) z
  refine rn 2 z (ci hF z (fun c_13 hF=>?_) (fun c_13 hF=>?_))
  ·exact rn 1 z (ih _ _ hF K Ls iP0 hK _ _ iG hs)
  refine rn 2 z (ci hF z (fun c_14 hF=>?_) (fun c_14 hF=>?_))
  ·refine rn 1 z (W.o (aB z) (W.o (aI z (DP.cN (DP.refl _) (bF n))) (W.o (bR (cs:=dx ({Kind:=4,Set:=(an.rep 4 (0:Int)),To:=0,aH:=n.aH,bP:=0,Slot:=0}:aT)) z z) (bj hF fun r_15 g_16 hF=>?_))));refine cl (dw z) (d67 _ _ _ g_16 _ _ iP0 (fun st hs=>?_) _ hs);refine rn 1 z (W.o (aB z) (W.o (aI z (DP.cN (DP.refl _) (aV n))) (bj hF fun v_17 g_18 hF=>W.o (aM (bJ z) z g_18) (W.o (aL z (DP.refl _) (aF _)) (bj hF fun r_19 g_20 hF=>rn 1 z ?_)))));refine cl (dw z) (ih (.yC r_15.2 v_17 free) _ g_20 _ _ iP0 (fun st hs=>?_) _ hs);refine rn 1 z (W.o (aB z) (W.o (aI z (DP.cN (DP.refl _) (bF n))) (W.o (bR (cs:=dx ({Kind:=5,Set:=(an.rep 4 (0:Int)),To:=0,aH:=n.aH,bP:=0,Slot:=0}:aT)) z z) (bj hF fun r_21 g_22 hF=>?_))));refine cl (dw z) (d67 _ _ _ g_22 _ _ iP0 (fun st hs=>?_) _ hs);refine rn 0 z ?_;cases hF;exact eS bG (hK _ hs) z
  refine rn 2 z (ci hF z (fun c_23 hF=>?_) (fun c_23 hF=>?_))
  ·refine rn 1 z (W.o (aB z) (W.o (aI z (DP.cN (DP.refl _) (aV n))) (W.o (e_len (bJ z)) (rn 3 z ?_))));have hs:=hs.fX Int;exact ih _ _ hF K Ls iP0 hK _ _ 0 lD (hs.p 2 [1,0] z)
  refine rn 2 z (ci hF z (fun c_25 hF=>?_) (fun c_25 hF=>?_))
  ·refine rn 1 z (W.o (aL z (DP.refl _) (aF _)) (bj hF fun r_26 g_27 hF=>rn 1 z ?_));refine cl (dw z) (ih (.Qj l n free) _ g_27 _ _ iP0 (fun st hs=>?_) _ hs);refine rn 0 z ?_;cases hF;exact eS bG (hK _ hs) z
  refine rn 0 z ?_;cases hF;exact eS bG (hK _ hs) z
 | tI free n i l=>
  dsimp only at hF;intro K Ls iP0 hK tm st hf hs;refine en hf (lp (rn 1 z (W.o (aB z) (W.o (aI z (DP.cN (DP.refl _) (aV n))) (W.o (e_len (bJ z)) (rn 1 z (ci hF z (fun c_28 hF=>?_) (fun c_28 hF=>?_))))))))
  ·refine rn 1 z (W.o (aB z) (W.o (aI z (DP.cN (DP.refl _) (aV n))) (bj hF fun v_29 g_30 hF=>rn 1 z (W.o (aM (bJ z) z g_30) (W.o (aL z (DP.refl _) (aF _)) (bj hF fun r_31 g_32 hF=>rn 1 z ?_))))));refine cl (dw z) (ih (.yC l v_29 free) _ g_32 _ _ iP0 (fun st hs=>?_) _ hs);exact rn 3 z (ih _ _ hF K Ls iP0 hK _ _ iG hs)
  refine rn 0 z ?_;cases hF;exact eS bG (hK _ hs) z
 | tJ free n last i l jumps=>
  dsimp only at hF;intro K Ls iP0 hK tm st io1 hf hs;refine en hf (lp (rn 3 z (ci hF z (fun c_33 hF=>?_) (fun c_33 hF=>?_))))
  ·refine rn 1 z (W.o (bR (cs:=dx ({Kind:=2,Set:=(an.rep 4 (0:Int)),To:=0,aH:=0,bP:=0,Slot:=0}:aT)) z z) (bj hF fun r_34 g_35 hF=>?_));refine cl (dw z) (d67 _ _ _ g_35 _ _ iP0 (fun st hs=>?_) _ hs);refine rn 2 z (W.o (aB z) (W.o (aI z (DP.cN (DP.refl _) (aV n))) (bj hF fun v_36 g_37 hF=>rn 1 z (W.o (aM (bJ z) z g_37) (W.o (aL z (DP.refl _) (aF _)) (bj hF fun r_38 g_39 hF=>rn 1 z ?_))))));refine cl (dw z) (ih (.yC r_34.2 v_36 free) _ g_39 _ _ iP0 (fun st hs=>?_) _ hs);refine rn 2 z (W.o (bR (cs:=dx ({Kind:=3,Set:=(an.rep 4 (0:Int)),To:=0,aH:=0,bP:=0,Slot:=0}:aT)) z z) (bj hF fun r_40 g_41 hF=>?_));refine cl (dw z) (d67 _ _ _ g_41 _ _ iP0 (fun st hs=>?_) _ hs);refine bs (f:=AV.int .i64) ([r_40.1]:List Int) hs z z z z fun st b_42 hs=>gj hF fun g_43 hF=>ap (ys:=ls (some ([r_40.1]:List Int))) hs 2 z z (eR (cO (o:=(some ([r_40.1]:List Int))) (id:=b_42) z)) g_43 (fun _=>z) fun st b_44 hs=>?_;have hs:=(hs.p 3 [1,0,0] z);obtain ⟨j_45,hs⟩:=SH.fm hs;refine rn 1 z ?_;have h0:=hs;refine qq (dn 1 z (de z (bT z (h0.g 0 z)) (de z (aJ z (h0.g 0 z)) (de z (aJ z (h0.g 0 z)) (de z (l1 z (h0.g 0 z) z) (bj hF fun r_46 g_47 hF=>dn 2 z (Xk (fun s hA=>YB r_40.2 _ g_47 _ [] iP0 s (SH.eE j_45 (SH.Iz (h0.p 4 [0,0] z) wX BC hA)) ⟨z,z⟩) z (bj hF fun v_48 g_49 hF=>de z (dJ h0 1 z z z g_49) (de z (aJ z (SH.gv h0 1 z g_49)) (dz (EU hs 1 z z g_49 z (LR.cast (LR.comp (LR.comp (LR.whole _ _) (fl gI g_49 ({v_48 with To:=r_46.1}:aT))) (mY 5 1 (cI .i64 r_46.1) z z)) (by omega)) ((aS .i64) _) z ((aS .i64) _) ((fL .i64) _) z fun st hs=>?_)))))))))));have hs:=hs.sK 0 z (cs':=(cI .i64) (r_40.2.bH)++((cI .i64) (r_40.2.bX)++([fC 9 (dF r_40.2.Code r_34.1 ({v_48 with To:=r_46.1}:aT)) j_45]))) (by simp only [eA]) z;refine rn 3 z ?_;have hs:SH st (aq iP0 ({r_40.2 with Code:=(dF r_40.2.Code r_34.1 ({v_48 with To:=r_46.1}:aT))}:af)::_):=SH.eE j_45 (hs.p 4 [0,0,0,0] z);exact ih _ _ hF K Ls iP0 hK _ _ b_44 lD (hs.p 3 [0,1] z)
  refine rn 1 z (W.o (aB z) (W.o (aI z (DP.cN (DP.refl _) (aV n))) (bj hF fun v_50 g_51 hF=>rn 1 z (W.o (aM (bJ z) z g_51) (W.o (aL z (DP.refl _) (aF _)) (bj hF fun r_52 g_53 hF=>rn 1 z ?_))))));refine cl (dw z) (ih (.yC l v_50 free) _ g_53 _ _ iP0 (fun st hs=>?_) _ hs);exact rn 1 z (ih _ _ hF K Ls iP0 hK _ _ io1 hG hs)
 | qP i l jumps=>
  dsimp only at hF;intro K Ls iP0 hK tm st io1 hf hs;refine en hf (lp (rn 2 z (W.o (e_len (cO (o:=jumps) (id:=io1) z)) (rn 1 z (ci hF z (fun c_54 hF=>?_) (fun c_54 hF=>?_))))))
  ·obtain ⟨j_55,hs⟩:=SH.fm hs
   refine rn 0 z ?_;have h0:=hs;refine qq (dn 1 z (de z (bT z (h0.g 0 z)) (de z (aJ z (h0.g 0 z)) (de z (aJ z (h0.g 0 z)) (de z (l1 z (h0.g 0 z) z) (bj hF fun v_56 g_57 hF=>dn 2 z (de z (aM (cO (o:=jumps) (id:=io1) z) z g_57) (de z (dW z z) (bj hF fun r_58 g_59 hF=>dn 1 z (Xk (fun s hA=>YB l _ g_59 _ [] iP0 s (SH.eE j_55 (SH.Iz (h0.p 3 [0,0] z) wX BC hA)) ⟨z,z⟩) z (bj hF fun v_60 g_61 hF=>?_)))))))))));refine de z (dJ h0 1 z z z g_61) (de z (aJ z (SH.gv h0 1 z g_61)) (dz (EU hs 1 z z g_61 z (LR.cast (LR.comp (LR.comp (LR.whole _ _) (fl gI g_61 ({v_60 with To:=r_58.1}:aT))) (mY 5 1 (cI .i64 r_58.1) z z)) (by omega)) ((aS .i64) _) z ((aS .i64) _) ((fL .i64) _) z fun st hs=>?_)));have hs:=hs.sK 0 z (cs':=(cI .i64) (l.bH)++((cI .i64) (l.bX)++([fC 9 (dF l.Code v_56 ({v_60 with To:=r_58.1}:aT)) j_55]))) (by simp only [eA]) z;refine rn 3 z ?_;have hs:SH st (aq iP0 ({l with Code:=(dF l.Code v_56 ({v_60 with To:=r_58.1}:aT))}:af)::_):=SH.eE j_55 (hs.p 3 [0,0,0] z);exact ih _ _ hF K Ls iP0 hK _ _ io1 hG hs
  refine rn 0 z ?_;cases hF;exact eS bG (hK _ (hs.p 2 [0] z)) z
 | Qj l n free=>
  dsimp only at hF;intro K Ls iP0 hK  st hs;exact bS k92 z (rn 0 z (W.o (aY (cs:=bn n) z (by rw [aF];rfl) (aX _)) (rn 1 z (ih _ _ hF K Ls iP0 hK _ _ iG hs))))
 | tP free n i l=>
  dsimp only at hF;intro K Ls iP0 hK tm st hf hs;refine en hf (lp (rn 1 z (W.o (aB z) (W.o (aI z (DP.cN (DP.refl _) (cm n))) (rn 1 z (ci hF z (fun c_1 hF=>?_) (fun c_1 hF=>?_)))))))
  ·refine bj hF fun r_2 g_3 hF=>rn 1 z ?_;refine cl (dw z) (d91 l _ g_3 _ _ iP0 (fun st hs=>?_) _ hs);refine rn 2 z (W.o (aB z) (W.o (aI z (DP.cN (DP.refl _) (aV n))) (bj hF fun v_4 g_5 hF=>W.o (aM (bJ z) z g_5) (W.o (aL z (DP.refl _) (aF _)) (bj hF fun r_6 g_7 hF=>rn 1 z ?_)))));refine cl (dw z) (ih (.sP r_2.2 v_4 free) _ g_7 _ _ iP0 (fun st hs=>?_) _ hs);refine bj hF fun r_8 g_9 hF=>rn 1 z ?_;refine cl (dw z) (d91 _ _ g_9 _ _ iP0 (fun st hs=>?_) _ hs);refine rn 2 z (ci hF z (fun c_10 hF=>?_) (fun c_10 hF=>?_))
   ·exact rj 0 1 z (ih _ _ hF K Ls iP0 hK _ _ hG hs)
   exact rn 3 z (ih _ _ hF K Ls iP0 hK _ _ iG hs)
  exact rj 0 1 z (ih _ _ hF K Ls iP0 hK _ _ hG hs)
 | tQ free n l=>
  dsimp only at hF;intro K Ls iP0 hK tm st hf hs;refine en hf (rn 1 z (W.o (aB z) (W.o (aI z (DP.cN (DP.refl _) (cw n))) (rn 1 z (ci hF z (fun c_11 hF=>?_) (fun c_11 hF=>?_))))))
  ·refine rn 1 z (W.o (bR (cs:=dx ({Kind:=2,Set:=(an.rep 4 (0:Int)),To:=0,aH:=0,bP:=0,Slot:=0}:aT)) z z) (bj hF fun r_12 g_13 hF=>?_));refine cl (dw z) (d67 _ _ _ g_13 _ _ iP0 (fun st hs=>?_) _ hs);refine rn 3 z (bs (f:=AV.int .i64) ([r_12.1]:List Int) hs z z z z fun st b_14 hs=>gj hF fun g_16 hF=>?_);have hs:=hs.fX Int;refine ap (o:=(none:Sl Int)) (f:=AV.int .i64) (id:=0) (ys:=ls (some ([r_12.1]:List Int))) hs 0 z z (eR (cO (o:=(some ([r_12.1]:List Int))) (id:=b_14) z)) g_16 (fun _=>z) fun st b_17 hs=>rn 2 z (W.o (aB z) (W.o (aI z (DP.cN (DP.refl _) (aV n))) (bj hF fun v_18 g_19 hF=>W.o (aM (bJ z) z g_19) (W.o (aL z (DP.refl _) (aF _)) (bj hF fun r_20 g_21 hF=>rn 1 z ?_)))));refine cl (dw z) (ih (.sQ r_12.2 v_18 free) _ g_21 _ _ iP0 (fun st hs=>?_) _ (hs.p 3 [2,0,0] z));refine rn 2 z (W.o (bR (cs:=dx ({Kind:=3,Set:=(an.rep 4 (0:Int)),To:=r_12.1,aH:=0,bP:=0,Slot:=0}:aT)) z z) (bj hF fun r_22 g_23 hF=>?_));refine cl (dw z) (d67 _ _ _ g_23 _ _ iP0 (fun st hs=>?_) _ hs);exact rj 0 1 z (ih _ _ hF K Ls iP0 hK _ _ b_17 iG (hs.p 3 [0,0] z))
  refine rj 0 1 z ?_;have hs:=hs.fX Int;exact ih _ _ hF K Ls iP0 hK _ _ 0 iG (hs.p 2 [1,0] z)
 | yg free n l splits=>
  dsimp only at hF;intro K Ls iP0 hK tm st io1 hf hs;exact en hf (rn 0 z (W.o (aB z) (W.o (aI z (DP.cN (DP.refl _) (cm n))) (rn 1 z (ih _ _ hF K Ls iP0 hK _ _ io1 kj hs)))))
 | tR free n i l splits=>
  dsimp only at hF;intro K Ls iP0 hK tm st io1 hf hs;refine en hf (lp (rn 1 z (W.o (aB z) (W.o (aI z (DP.cN (DP.refl _) (cw n))) (rn 1 z (ci hF z (fun c_25 hF=>?_) (fun c_25 hF=>?_)))))))
  ·refine rn 2 z (W.o (bR (cs:=dx ({Kind:=2,Set:=(an.rep 4 (0:Int)),To:=0,aH:=0,bP:=0,Slot:=0}:aT)) z z) (bj hF fun r_26 g_27 hF=>?_));refine cl (dw z) (d67 _ _ _ g_27 _ _ iP0 (fun st hs=>?_) _ hs);refine bs (f:=AV.int .i64) ([r_26.1]:List Int) hs z z z z fun st b_28 hs=>gj hF fun g_29 hF=>ap (ys:=ls (some ([r_26.1]:List Int))) hs 2 z z (eR (cO (o:=(some ([r_26.1]:List Int))) (id:=b_28) z)) g_29 (fun _=>z) fun st b_30 hs=>rn 2 z (W.o (aB z) (W.o (aI z (DP.cN (DP.refl _) (aV n))) (bj hF fun v_31 g_32 hF=>W.o (aM (bJ z) z g_32) (W.o (aL z (DP.refl _) (aF _)) (bj hF fun r_33 g_34 hF=>rn 1 z ?_)))));refine cl (dw z) (ih (.sQ r_26.2 v_31 free) _ g_34 _ _ iP0 (fun st hs=>?_) _ (hs.p 3 [1,0,0] z));exact rn 3 z (ih _ _ hF K Ls iP0 hK _ _ b_30 kj (hs.p 3 [0,1] z))
  exact rn 1 z (ih _ _ hF K Ls iP0 hK _ _ io1 hG hs)
 | oS i l splits=>
  dsimp only at hF;intro K Ls iP0 hK tm st io1 hf hs;refine en hf (lp (rn 2 z (W.o (e_len (cO (o:=splits) (id:=io1) z)) (rn 1 z (ci hF z (fun c_35 hF=>?_) (fun c_35 hF=>?_))))))
  ·obtain ⟨j_36,hs⟩:=SH.fm hs
   refine rn 0 z ?_;have h0:=hs;refine qq (dn 1 z (de z (bT z (h0.g 0 z)) (de z (aJ z (h0.g 0 z)) (de z (aJ z (h0.g 0 z)) (de z (l1 z (h0.g 0 z) z) (bj hF fun v_37 g_38 hF=>dn 2 z (de z (aM (cO (o:=splits) (id:=io1) z) z g_38) (de z (dW z z) (bj hF fun r_39 g_40 hF=>dn 1 z (Xk (fun s hA=>YB l _ g_40 _ [] iP0 s (SH.eE j_36 (SH.Iz (h0.p 3 [0,0] z) wX BC hA)) ⟨z,z⟩) z (bj hF fun v_41 g_42 hF=>?_)))))))))));refine de z (dJ h0 1 z z z g_42) (de z (aJ z (SH.gv h0 1 z g_42)) (dz (EU hs 1 z z g_42 z (LR.cast (LR.comp (LR.comp (LR.whole _ _) (fl gI g_42 ({v_41 with To:=r_39.1}:aT))) (mY 5 1 (cI .i64 r_39.1) z z)) (by omega)) ((aS .i64) _) z ((aS .i64) _) ((fL .i64) _) z fun st hs=>?_)));have hs:=hs.sK 0 z (cs':=(cI .i64) (l.bH)++((cI .i64) (l.bX)++([fC 9 (dF l.Code v_37 ({v_41 with To:=r_39.1}:aT)) j_36]))) (by simp only [eA]) z;refine rn 3 z ?_;have hs:SH st (aq iP0 ({l with Code:=(dF l.Code v_37 ({v_41 with To:=r_39.1}:aT))}:af)::_):=SH.eE j_36 (hs.p 3 [0,0,0] z);exact ih _ _ hF K Ls iP0 hK _ _ io1 hG hs
  refine rn 0 z ?_;cases hF;exact eS bG (hK _ (hs.p 2 [0] z)) z
 | sP l kid free=>
  dsimp only at hF;intro K Ls iP0 hK  st hs;refine bS Xt z (rn 0 z (W.o (aY (cs:=bn kid) z (by rw [aF];rfl) (aX _)) (rn 0 z (W.o (aL z (DP.refl _) (aF _)) (bj hF fun r_1 g_2 hF=>df (d65 _ _ g_2) z (rn 7 z (ci hF z (fun c_3 hF=>?_) (fun c_3 hF=>?_))))))))
  ·refine rn 3 z (W.o (bR (cs:=dx ({Kind:=6,Set:=(an.rep 4 (0:Int)),To:=0,aH:=r_1.1,bP:=r_1.2,Slot:=0}:aT)) z z) (bj hF fun r_4 g_5 hF=>?_));refine cl (dw z) (d67 _ _ _ g_5 _ _ iP0 (fun st hs=>?_) _ hs);exact rj 0 1 z (ih _ _ hF K Ls iP0 hK _ _ hG hs)
  exact rj 0 1 z (ih _ _ hF K Ls iP0 hK _ _ hG hs)
 | pT free kid l=>
  dsimp only at hF;intro K Ls iP0 hK tm st hf hs;refine en hf (rn 1 z (W.o (aL z (DP.refl _) (aF _)) (bj hF fun r_6 g_7 hF=>rn 1 z ?_)));refine cl (dw z) (ih (.yC l kid free) _ g_7 _ _ iP0 (fun st hs=>?_) _ hs);refine rn 0 z ?_;cases hF;exact eS bG (hK _ hs) z
 | sQ l kid free=>
  dsimp only at hF;intro K Ls iP0 hK  st hs;refine bS Xu z (rn 0 z (W.o (aY (cs:=bn kid) z (by rw [aF];rfl) (aX _)) ?_));obtain ⟨j_1,hs⟩:=SH.fm hs;refine rn 1 z (W.o (bT z (hs.g 0 z)) (W.o (aJ z (hs.g 0 z)) (W.o (aJ z (hs.g 0 z)) (W.o (l1 z (hs.g 0 z) z) (rn 3 z (ci hF z (fun c_2 hF=>?_) (fun c_2 hF=>?_)))))))
  ·refine rn 3 z (W.o (bT z (hs.g 0 z)) (W.o (aJ z (hs.g 0 z)) (W.o (aJ z (hs.g 0 z)) (sr hs 0 z z z (cs':=(cI .i64) (({l with bX:=IntKind.wrap .i64 (free+1)}:af).bH)++((cI .i64) (({l with bX:=IntKind.wrap .i64 (free+1)}:af).bX)++([fC 9 l.Code j_1]))) z z fun st hs=>rj 0 1 z ?_))));have hs:SH st (aq iP0 ({l with bX:=IntKind.wrap .i64 (free+1)}:af)::_):=SH.eE j_1 (hs.p 2 [0,0] z);exact ih _ _ hF K Ls iP0 hK _ _ hG hs
  refine rj 0 1 z ?_;have hs:SH st (aq iP0 l::_):=SH.eE j_1 (hs.p 2 [0,0] z);exact ih _ _ hF K Ls iP0 hK _ _ hG hs
 | pU free kid l=>
  dsimp only at hF;intro K Ls iP0 hK tm st hf hs;refine en hf (rn 2 z (W.o (bR (cs:=dx ({Kind:=7,Set:=(an.rep 4 (0:Int)),To:=0,aH:=0,bP:=0,Slot:=free}:aT)) z z) (bj hF fun r_3 g_4 hF=>?_)));refine cl (dw z) (d67 _ _ _ g_4 _ _ iP0 (fun st hs=>?_) _ hs);refine rn 1 z (W.o (aL z (DP.refl _) (aF _)) (bj hF fun r_5 g_6 hF=>rn 2 z ?_));refine cl (dw z) (ih (.sP r_3.2 kid (IntKind.wrap .i64 (free+1))) _ g_6 _ _ iP0 (fun st hs=>?_) _ hs);refine rn 2 z (W.o (bR (cs:=dx ({Kind:=8,Set:=(an.rep 4 (0:Int)),To:=0,aH:=0,bP:=0,Slot:=free}:aT)) z z) (bj hF fun r_7 g_8 hF=>?_));refine cl (dw z) (d67 _ _ _ g_8 _ _ iP0 (fun st hs=>?_) _ hs);refine rn 0 z ?_;cases hF;exact eS bG (hK _ hs) z
noncomputable def Wz (l:af) (n:aK) (free:Int):Option af:=bz (.yC l n free)
theorem d66 (l:af) (n:aK) (free:Int) (r:af) (hF:Wz l n free=some r): ∀(K:AV→aA→Prop) (Ls:List bU) (iP0:Nat),(∀st,SH st (aq iP0 r::Ls)→K (AV.bt []) st)→ ∀(st:aA),SH st (aq iP0 l::Ls)→XCall Tryd.prog gE 66 [.ptr iP0 0,dL n,AV.int .i64 free] st K:=by
 exact Lu (.yC l n free) r hF
noncomputable def F92 (l:af) (n:aK) (free:Int):Option af:=bz (.Qj l n free)
theorem d92 (l:af) (n:aK) (free:Int) (r:af) (hF:F92 l n free=some r): ∀(K:AV→aA→Prop) (Ls:List bU) (iP0:Nat),(∀st,SH st (aq iP0 r::Ls)→K (AV.bt []) st)→ ∀(st:aA),SH st (aq iP0 l::Ls)→XCall Tryd.prog gE 92 [.ptr iP0 0,dL n,AV.int .i64 free] st K:=by
 exact Lu (.Qj l n free) r hF
noncomputable def Wo (l:af) (kid:aK) (free:Int):Option af:=bz (.sP l kid free)
theorem d100 (l:af) (kid:aK) (free:Int) (r:af) (hF:Wo l kid free=some r): ∀(K:AV→aA→Prop) (Ls:List bU) (iP0:Nat),(∀st,SH st (aq iP0 r::Ls)→K (AV.bt []) st)→ ∀(st:aA),SH st (aq iP0 l::Ls)→XCall Tryd.prog gE 100 [.ptr iP0 0,dL kid,AV.int .i64 free] st K:=by
 exact Lu (.sP l kid free) r hF
noncomputable def Wp (l:af) (kid:aK) (free:Int):Option af:=bz (.sQ l kid free)
theorem d101 (l:af) (kid:aK) (free:Int) (r:af) (hF:Wp l kid free=some r): ∀(K:AV→aA→Prop) (Ls:List bU) (iP0:Nat),(∀st,SH st (aq iP0 r::Ls)→K (AV.bt []) st)→ ∀(st:aA),SH st (aq iP0 l::Ls)→XCall Tryd.prog gE 101 [.ptr iP0 0,dL kid,AV.int .i64 free] st K:=by
 exact Lu (.sQ l kid free) r hF
def Sd:aC:=.o [qx 1 9 0,q 2 (.alloc [zi,zi,.aP]),qm 3 (ki 0)] (.o [qn 8 9 1,qc 9 64 [8],qm 7 9,qe 10 7 0,qe 11 7 1,qm 4 10,qm 5 11] (.s (.o [qm 12 5,qb 13 .neq 12 (ki 0)] (.cond 13 (.o [q 14 (.build [zi,zi,.aP] []),qm 15 5,qs 3 2 14,qm 3 15] .ret) .skip)) (.o [q 16 (.build [zi,zi,.aP] []),q 17 (.box 3 16),qm 6 17] (.o [qm 19 6,qn 20 9 1,qc 21 65 [20],qm 18 21,qe 22 18 0,qe 23 18 1,qk 24 19,qa 25 0 24,qa 26 0 25,qs 1 26 23] (.o [qm 27 6,qn 28 9 1,qc 29 66 [27,28,(ki 0)]] (.o [qm 30 6,q 31 (.build [zb,zu,zu,zu,zu,zi,zi,zi,zi] [(0,(1,(ku 12)))]),qc 32 67 [30,31]] (.o [qm 33 6,qk 34 33,qa 35 0 34,qn 36 3 35,qs 3 2 36,qm 3 (ki 0)] .ret)))))))
def R45:List RA:=[(.mg 2 3),(.tmp 3)]
theorem k45:au Tryd.prog (dQ [1]) 45=some ⟨37,Sd,R45⟩:=by kernel_rfl
noncomputable def Tg (n:aK):Option (af × Int):=(Ti n>>=fun r_2=>(if (r_2.2 != 0)=true then (some (({bH:=0,bX:=0,Code:=none}:af),r_2.2)) else (Rg n>>=fun r_7=>(Wz ({bH:=r_7.2,bX:=0,Code:=(none:Sl aT)}:af) n 0>>=fun r_9=>(vf r_9 ({Kind:=12,Set:=(an.rep 4 (0:Int)),To:=0,aH:=0,bP:=0,Slot:=0}:aT)>>=fun r_11=>(some (r_11.2,0)))))))
theorem d45 (n:aK) (r:af × Int) (hF:Tg n=some r):DFun Tryd.prog gE 45 [dL n] (AV.bt [nN r.1,AV.int .i64 r.2]):=by
 unfold Tg at hF;refine bD k45 z ?_;have hs:SH [] []:=SH.nil;generalize ([]:aA)=st at hs ⊢;refine rn 0 z (W.o (aY (cs:=bn n) z (by rw [aF];rfl) (aX _)) (al hs (cs:=cE ({bH:=0,bX:=0,Code:=none}:af)) z fun st b_1 hs=>rn 1 z (W.o (aL z (DP.refl _) (aF _)) (bj hF fun r_2 g_3 hF=>df (d64 n _ g_3) z (rn 7 z (ci hF z (fun c_4 hF=>?_) (fun c_4 hF=>?_)))))))
 ·refine rn 0 z (W.o (bR (cs:=cE ({bH:=0,bX:=0,Code:=none}:af)) z z) (rn 1 z (sl hs 0 z z (LR.whole _ _) (bC _) z (bC _) (bg _) z fun st hs=>rn 1 z ?_)));cases hF;exact rD (eJ z (hs.g 0 z) (LR.whole _ _) (bC _) (ah bG)) z
 refine rn 0 z (W.o (bR (cs:=cE ({bH:=0,bX:=0,Code:=none}:af)) z z) ?_);have hs:=hs.zA (α :=aT) dx;refine bx hs (cs:=(cI .i64) (({bH:=0,bX:=0,Code:=none}:af).bH)++((cI .i64) (({bH:=0,bX:=0,Code:=none}:af).bX)++([fC 9 (none:Sl aT) 0]))) z z fun st b_5 hs=>rn 2 z (W.o (aL z (DP.refl _) (aF _)) (bj hF fun r_7 g_8 hF=>df (d65 n _ g_8) z (rn 3 z (W.o (bT z (hs.g 0 z)) (W.o (aJ z (hs.g 0 z)) (W.o (aJ z (hs.g 0 z)) (sr hs 0 z z z (cs':=(cI .i64) (({bH:=r_7.2,bX:=0,Code:=none}:af).bH)++((cI .i64) (({bH:=r_7.2,bX:=0,Code:=none}:af).bX)++([fC 9 (none:Sl aT) 0]))) z z fun st hs=>rn 1 z (W.o (aL z (DP.refl _) (aF _)) ?_))))))));have hs:SH st (aq b_5 ({bH:=r_7.2,bX:=0,Code:=(none:Sl aT)}:af)::_):=SH.eE 0 (hs.p 3 [0,0,0] z);obtain ⟨r_9,g_10,hF⟩:=bind_some hF;refine cl (dw z) (d66 _ _ _ _ g_10 _ _ b_5 (fun st hs=>?_) _ hs);refine rn 1 z (W.o (bR (cs:=dx ({Kind:=12,Set:=(an.rep 4 (0:Int)),To:=0,aH:=0,bP:=0,Slot:=0}:aT)) z z) (bj hF fun r_11 g_12 hF=>?_));refine cl (dw z) (d67 _ _ _ g_12 _ _ b_5 (fun st hs=>?_) _ hs);refine rj 0 2 z ?_;obtain ⟨j_13,hs⟩:=SH.fm hs;refine Xo (off:=2) (es:=9) (c:=dx) (g:=v76) hs z (cs':=cE r_11.2) z z gI CD (fun _=>z) fun st hs=>rn 1 z (W.o (bT z (hs.g 0 z)) (W.o (aJ z (hs.g 0 z)) (W.o (lN (s:=cE r_11.2) z (hs.g 0 z) z z) (sl hs 1 z z (LR.whole _ _) (bC _) z (bC _) (bg _) z fun st hs=>rn 1 z ?_))));cases hF;exact rD (eJ z (hs.g 1 z) (LR.whole _ _) (bC _) (ah bG)) z
def ON:aC:=.o [qn 15 9 4,qc 16 46 [15]] (.cond 16 (.o [qm 2 kt] .ret) .skip)
def FW:aC:=.o [qb 12 .lss 11 10] (.s (.cond 12 .skip (.exit 0)) (.s (.block 1 (.o [qi 13 9 9 11,qn 14 9 13,q 4 (.alloc [zb,zu,zu,zu,zu,zi,zi,zi,.aP]),qs 9 4 14] ON)) (.ops [qb 17 .add 11 (ki 1),qm 11 17])))
def FX:aC:=.o [qm 2 kf] .ret
def Se:aC:=.o [qx 1 9 0,qm 2 kf] (.s (.o [qa 5 0 1,ql 6 5,qb 7 .eql 6 (ku 7)] (.cond 7 (.o [qm 2 kt] .ret) .skip)) (.s (.o [qa 8 8 1,ql 9 8,qh 10 9,qm 11 (ki 0)] (.block 0 (.loop FW))) FX))
def ZA:List RA:=[(.tmp 2)]
theorem k46:au Tryd.prog (dQ [1]) 46=some ⟨18,Se,ZA⟩:=by kernel_rfl
noncomputable abbrev X46 (r:Bool):Cx:=cD Tryd.prog gE 18 ZA (AV.bool r) [1]
inductive Pc where
 | e (n:aK)
 | p1 (t9_:Sl aK) (t10_:Int) (t11_:Int)
noncomputable def DB:Pc→Option Bool | .e n=>(if (n.Kind==7)=true then (some true) else (DB (.p1 n.Kids ((ls n.Kids).length:Int) 0))) | .p1 t9_ t10_ t11_=>(if (decide (t11_<t10_))=true then (ix (ls t9_) t11_>>=fun v_3=>(DB (.e v_3)>>=fun r_6=>(if r_6=true then (some true) else (DB (.p1 t9_ t10_ (IntKind.wrap .i64 (t11_+1))))))) else (some false)) partial_fixpoint
def YZ (x:Pc) (r:Bool):Prop:=match x with | .e n=>DFun Tryd.prog gE 46 [dL n] (AV.bool r) | .p1 t9_ t10_ t11_=> ∀(tm:Fr) (st:aA),dH tm [(9,cg 9 dL t9_),(10,AV.int .i64 t10_),(11,AV.int .i64 t11_)]→SH st []→W (X46 r) [.lp FW,.blk 0,.code FX] tm st
theorem w46: ∀(x:Pc) (r:Bool),DB x=some r→YZ x r:=by
 refine DB.partial_correctness (YZ) ?_;intro g ih x r hF;cases x with
 | e n=>
  dsimp only at hF;refine bD k46 z ?_;have hs:SH [] []:=SH.nil;generalize ([]:aA)=st at hs ⊢;refine rn 0 z (W.o (aY (cs:=bn n) z (by rw [aF];rfl) (aX _)) (rn 1 z (W.o (aB z) (W.o (aI z (DP.cN (DP.refl _) (bI n))) (rn 1 z (ci hF z (fun c_1 hF=>?_) (fun c_1 hF=>?_)))))))
  ·refine rn 1 z ?_;cases hF;exact rD (ah bG) z
  exact rn 0 z (W.o (aB z) (W.o (aI z (DP.cN (DP.refl _) (aV n))) (W.o (e_len (bJ z)) (rn 1 z (ih _ _ hF _ _ hG hs)))))
 | p1 t9_ t10_ t11_=>
  dsimp only at hF;intro tm st hf hs;refine en hf (lp (rn 1 z (ci hF z (fun c_2 hF=>?_) (fun c_2 hF=>?_))))
  ·refine bj hF fun v_3 g_4 hF=>rn 0 z (W.o (aM (bJ z) z g_4) (W.o (aL z (DP.refl _) (aF _)) (al hs (cs:=bn ({Kind:=0,Set:=(an.rep 4 (0:Int)),Min:=0,Max:=0,aH:=0,Kids:=none}:aK)) z fun st b_5 hs=>sl hs 0 z z (LR.whole _ _) (aF _) z (aF _) (aX _) z fun st hs=>rn 0 z (W.o (eN z (hs.g 0 z) (LR.whole _ _) (aF _)) (bj hF fun r_6 g_7 hF=>df (ih (.e v_3) _ g_7) z (rn 0 z (ci hF z (fun c_8 hF=>?_) (fun c_8 hF=>?_))))))))
   ·refine rn 1 z ?_;cases hF;exact rD (ah bG) z
   exact rn 2 z (ih _ _ hF _ _ hG (hs.p 1 [] z))
  refine rn 1 z ?_;cases hF;exact rD (ah bG) z
noncomputable def Wt (n:aK):Option Bool:=DB (.e n)
theorem d46 (n:aK) (r:Bool) (hF:Wt n=some r):DFun Tryd.prog gE 46 [dL n] (AV.bool r):=by
 exact w46 (.e n) r hF
def OO:aC:=.o [qm 2 kt] .ret
def FY:aC:=.s (.o [qm 12 3,qa 13 8 1,ql 14 13,qh 15 14,qb 16 .lss 12 15] (.cond 16 .skip (.exit 0))) (.s (.block 1 (.o [qa 19 8 1,ql 20 19,qm 21 3,qi 22 9 20 21,qn 23 9 22,qc 24 47 [23]] (.cond 24 OO .skip))) (.ops [qm 17 3,qb 18 .add 17 (ki 1),qm 3 18]))
def FZ:aC:=.o [qm 2 kf] .ret
def Sf:aC:=.o [qx 1 9 0,qm 2 kf] (.s (.o [qa 4 0 1,ql 5 4,qb 6 .eql 5 (ku 8),qm 7 6,(qa 8 0 1).n 7,(ql 9 8).n 7,(qb 10 .eql 9 (ku 9)).n 7,qp 11 7 kt 10] (.cond 11 (.o [qm 2 kt] .ret) .skip)) (.s (.o [qm 3 (ki 0)] (.block 0 (.loop FY))) FZ))
def ZB:List RA:=[(.tmp 2)]
theorem k47:au Tryd.prog (dQ [1]) 47=some ⟨25,Sf,ZB⟩:=by kernel_rfl
noncomputable abbrev X47 (r:Bool):Cx:=cD Tryd.prog gE 25 ZB (AV.bool r) [1]
inductive Pd where
 | e (n:aK)
 | p1 (n:aK) (i:Int)
noncomputable def DC:Pd→Option Bool | .e n=>(if (n.Kind==8)=true then (some true) else (if (n.Kind==9)=true then (some true) else (DC (.p1 n 0)))) | .p1 n i=>(if (decide (i<((ls n.Kids).length:Int)))=true then (ix (ls n.Kids) i>>=fun v_4=>(DC (.e v_4)>>=fun r_6=>(if r_6=true then (some true) else (DC (.p1 n (IntKind.wrap .i64 (i+1))))))) else (some false)) partial_fixpoint
def Ya (x:Pd) (r:Bool):Prop:=match x with | .e n=>DFun Tryd.prog gE 47 [dL n] (AV.bool r) | .p1 n i=> ∀(tm:Fr) (st:aA),dH tm [(1,.aQ (bn n)),(3,AV.int .i64 i)]→SH st []→W (X47 r) [.lp FY,.blk 0,.code FZ] tm st
theorem w47: ∀(x:Pd) (r:Bool),DC x=some r→Ya x r:=by
 refine DC.partial_correctness (Ya) ?_;intro g ih x r hF;cases x with
 | e n=>
  dsimp only at hF;refine bD k47 z ?_;have hs:SH [] []:=SH.nil;generalize ([]:aA)=st at hs ⊢;refine rn 0 z (W.o (aY (cs:=bn n) z (by rw [aF];rfl) (aX _)) (rn 1 z (W.o (aB z) (W.o (aI z (DP.cN (DP.refl _) (bI n))) (rn 2 z (bi hF (fun c_1 hF=>?_) (fun c_1 hF=>?_)))))))
  ·refine bL 7 z c_1 (rn 4 z (ct z z (rn 1 z ?_)));cases hF;exact rD (ah bG) z
  refine bL 7 z c_1 (W.on z z (W.o (aB z) (W.on z z (W.o (aI z (DP.cN (DP.refl _) (bI n))) (rn 2 z (ci hF z (fun c_2 hF=>?_) (fun c_2 hF=>?_)))))))
  ·refine rn 1 z ?_;cases hF;exact rD (ah bG) z
  exact rn 1 z (ih _ _ hF _ _ Ra hs)
 | p1 n i=>
  dsimp only at hF;intro tm st hf hs;refine en hf (lp (rn 1 z (W.o (aB z) (W.o (aI z (DP.cN (DP.refl _) (aV n))) (W.o (e_len (bJ z)) (rn 1 z (ci hF z (fun c_3 hF=>?_) (fun c_3 hF=>?_))))))))
  ·refine rn 0 z (W.o (aB z) (W.o (aI z (DP.cN (DP.refl _) (aV n))) (bj hF fun v_4 g_5 hF=>rn 1 z (W.o (aM (bJ z) z g_5) (W.o (aL z (DP.refl _) (aF _)) (bj hF fun r_6 g_7 hF=>df (ih (.e v_4) _ g_7) z (rn 0 z (ci hF z (fun c_8 hF=>?_) (fun c_8 hF=>?_)))))))))
   ·refine rn 1 z ?_;cases hF;exact rD (ah bG) z
   exact rn 3 z (ih _ _ hF _ _ Ra hs)
  refine rn 1 z ?_;cases hF;exact rD (ah bG) z
noncomputable def Wu (n:aK):Option Bool:=DC (.e n)
theorem d47 (n:aK) (r:Bool) (hF:Wu n=some r):DFun Tryd.prog gE 47 [dL n] (AV.bool r):=by
 exact w47 (.e n) r hF
def SG:aC:=.o [qx 1 9 0,q 2 (.alloc [zi,zi,.aP]),qm 3 (ki 0)] (.o [qn 7 9 1,qc 8 45 [7],qm 6 8,qe 9 6 0,qe 10 6 1,q 4 (.alloc [zi,zi,.aP]),qs 3 4 9,qm 5 10] (.s (.block 0 (.o [qm 12 5,qb 13 .neq 12 (ki 0),qm 11 13] (.cond 11 (.o [q 14 (.build [zi,zi,.aP] []),qm 15 5,qs 3 2 14,qm 3 15] .ret) (.o [qn 17 9 1,qc 18 46 [17],qm 16 18] (.cond 16 (.o [q 19 (.build [zi,zi,.aP] []),qs 3 2 19,qm 3 (ki 101)] .ret) (.o [qn 21 9 1,qc 22 47 [21],qm 20 22] (.cond 20 (.o [q 23 (.build [zi,zi,.aP] []),qs 3 2 23,qm 3 (ki 120)] .ret) .skip))))))) (.o [qn 24 3 4,qs 3 2 24,qm 3 (ki 0)] .ret)))
def R24:List RA:=[(.mg 2 3),(.tmp 3)]
theorem k24:au Tryd.prog (dQ [1]) 24=some ⟨25,SG,R24⟩:=by kernel_rfl
noncomputable def Re (n:aK):Option (af × Int):=(Tg n>>=fun r_2=>(if (r_2.2 != 0)=true then (some (({bH:=0,bX:=0,Code:=none}:af),r_2.2)) else (Wt n>>=fun r_6=>(if r_6=true then (some (({bH:=0,bX:=0,Code:=none}:af),101)) else (Wu n>>=fun r_9=>(if r_9=true then (some (({bH:=0,bX:=0,Code:=none}:af),120)) else (some (r_2.1,0))))))))
theorem d24 (n:aK) (r:af × Int) (hF:Re n=some r):DFun Tryd.prog gE 24 [dL n] (AV.bt [nN r.1,AV.int .i64 r.2]):=by
 unfold Re at hF;refine bD k24 z ?_;have hs:SH [] []:=SH.nil;generalize ([]:aA)=st at hs ⊢;refine rn 0 z (W.o (aY (cs:=bn n) z (by rw [aF];rfl) (aX _)) (al hs (cs:=cE ({bH:=0,bX:=0,Code:=none}:af)) z fun st b_1 hs=>rn 1 z (W.o (aL z (DP.refl _) (aF _)) (bj hF fun r_2 g_3 hF=>df (d45 n _ g_3) z (rn 3 z (al hs (cs:=cE ({bH:=0,bX:=0,Code:=none}:af)) z fun st b_4 hs=>sl hs 0 z z (LR.whole _ _) (bC _) z (bC _) (bg _) z fun st hs=>rn 4 z (ci hF z (fun c_5 hF=>?_) (fun c_5 hF=>?_))))))))
 ·refine rn 0 z (W.o (bR (cs:=cE ({bH:=0,bX:=0,Code:=none}:af)) z z) (rn 1 z (sl hs 1 z z (LR.whole _ _) (bC _) z (bC _) (bg _) z fun st hs=>rn 1 z ?_)));cases hF;exact rD (eJ z (hs.g 1 z) (LR.whole _ _) (bC _) (ah bG)) z
 refine rn 0 z (W.o (aL z (DP.refl _) (aF _)) (bj hF fun r_6 g_7 hF=>df (d46 n _ g_7) z (rn 1 z (ci hF z (fun c_8 hF=>?_) (fun c_8 hF=>?_)))))
 ·refine rn 0 z (W.o (bR (cs:=cE ({bH:=0,bX:=0,Code:=none}:af)) z z) (sl hs 1 z z (LR.whole _ _) (bC _) z (bC _) (bg _) z fun st hs=>rn 1 z ?_));cases hF;exact rD (eJ z (hs.g 1 z) (LR.whole _ _) (bC _) (ah bG)) z
 refine rn 0 z (W.o (aL z (DP.refl _) (aF _)) (bj hF fun r_9 g_10 hF=>df (d47 n _ g_10) z (rn 1 z (ci hF z (fun c_11 hF=>?_) (fun c_11 hF=>?_)))))
 ·refine rn 0 z (W.o (bR (cs:=cE ({bH:=0,bX:=0,Code:=none}:af)) z z) (sl hs 1 z z (LR.whole _ _) (bC _) z (bC _) (bg _) z fun st hs=>rn 1 z ?_));cases hF;exact rD (eJ z (hs.g 1 z) (LR.whole _ _) (bC _) (ah bG)) z
 refine rn 0 z (W.o (lN (s:=cE r_2.1) z (hs.g 0 z) z z) (sl hs 1 z z (LR.whole _ _) (bC _) z (bC _) (bg _) z fun st hs=>rn 1 z ?_));cases hF;exact rD (eJ z (hs.g 1 z) (LR.whole _ _) (bC _) (ah bG)) z
def OC:aC:=.cond 30 (.exit 1) .skip
def OD:aC:=.o [qa 34 2 2,ql 35 34,qm 36 6,qi 37 9 35 36,qa 38 0 37,ql 39 38] (.block 2 (.s (.o [qb 46 .eql 39 (ku 1),qm 45 46] (.cond 45 .skip (.ops [qb 47 .eql 39 (ku 12),qm 45 47]))) (.cond 45 .skip (.o [qb 49 .eql 39 (ku 2),qm 48 49] (.cond 48 (.ops [qm 50 1,qm 51 6,qb 52 .add 51 (ki 1),qa 53 2 2,ql 54 53,qm 55 6,qi 56 9 54 55,qa 57 5 56,ql 58 57,q 59 (.bE 1 2 false [zi] [(0,(1,52)),(1,(1,58))] false),q 60 (.ng 1 8 50 59),qm 1 60]) (.o [qb 62 .eql 39 (ku 3),qm 61 62] (.cond 61 (.ops [qm 63 1,qa 64 2 2,ql 65 64,qm 66 6,qi 67 9 65 66,qa 68 5 67,ql 69 68,q 70 (.bE 1 1 false [zi] [(0,(1,69))] false),q 71 (.ng 1 8 63 70),qm 1 71]) (.ops [qm 40 1,qm 41 6,qb 42 .add 41 (ki 1),q 43 (.bE 1 1 false [zi] [(0,(1,42))] false),q 44 (.ng 1 8 40 43),qm 1 44]))))))))
def Lw:aC:=.s (.o [qm 13 1,qh 14 13,qb 15 .gtr 14 (ki 0)] (.cond 15 .skip (.exit 0))) (.block 1 (.o [qm 16 1,qm 17 1,qh 18 17,qb 19 .sub 18 (ki 1),qi 20 1 16 19,ql 21 20,qm 6 21] (.o [qm 22 1,qm 23 1,qh 24 23,qb 25 .sub 24 (ki 1),q 26 (.RR 1 22 .none (.some 25)),qm 1 26] (.s (.o [qm 27 5,qm 28 6,qi 29 1 27 28,ql 30 29] OC) (.o [qm 31 5,qm 32 6,qi 33 1 31 32,qs 1 33 kt] OD)))))
def Es:aC:=.ops [qm 100 7,qm 101 8,q 102 (.bE 1 1 false [zi] [(0,(1,101))] false),q 103 (.app 1 8 100 102),qm 7 103]
def OE:aC:=.o [qm 78 5,qm 79 8,qi 80 1 78 79,ql 81 80,qm 82 81,(qa 83 2 2).y 82,(ql 84 83).y 82,(qm 85 8).y 82,(qi 86 9 84 85).y 82,(qa 87 0 86).y 82,(ql 88 87).y 82,(qb 89 .eql 88 (ku 1)).y 82,(qm 90 89).y 82,(qa 91 2 2).n 90,(ql 92 91).n 90,(qm 93 8).n 90,(qi 94 9 92 93).n 90,(qa 95 0 94).n 90,(ql 96 95).n 90,(qb 97 .eql 96 (ku 12)).n 90,(qp 98 90 kt 97).y 82,qp 99 82 98 kf] (.cond 99 Es .skip)
def Et:aC:=.ops [qm 76 8,qb 77 .add 76 (ki 1),qm 8 77]
def zZ:aC:=.s (.o [qm 72 8,qm 73 5,qh 74 73,qb 75 .lss 72 74] (.cond 75 .skip (.exit 3))) (.s (.block 4 OE) Et)
def za:aC:=.o [qm 104 7,qm 4 104] .ret
def Er:aC:=.o [qm 7 (.c .aP)] (.s (.o [qm 8 (ki 0)] (.block 3 (.loop zZ))) za)
def SJ:aC:=.o [qx 2 3 0,qm 4 (.c .aP)] (.o [qa 9 2 2,ql 10 9,qh 11 10,q 12 (.jM 1 1 [(.bool false)] 11 11 true),qm 5 12] (.s (.block 0 (.loop Lw)) Er))
def Yr:List RA:=[(.tmp 4)]
theorem k26:au Tryd.prog (dQ [2,12,26,44,60,71]) 26=some ⟨105,SJ,Yr⟩:=by kernel_rfl
noncomputable abbrev XU (K:AV→aA→Prop):Cx:=cK Tryd.prog gE 105 Yr (uL K) [2,12,26,44,60,71]
inductive PX where
 | p1 (p:af) (todo:Sl Int) (seen:Sl Bool)
 | p2 (p:af) (k:Int) (seen:Sl Bool) (out:Sl Int)
 | p3 (p:af) (k:Int) (seen:Sl Bool) (out:Sl Int)
noncomputable def ox:PX→Option (Sl Int) | .p1 p todo seen=>(if (decide (((ls todo).length:Int)>0))=true then (ix (ls todo) (IntKind.wrap .i64 (((ls todo).length:Int)-1))>>=fun v_4=>(mG todo 0 (IntKind.wrap .i64 (((ls todo).length:Int)-1))>>=fun w_6=>(ix (ls seen) v_4>>=fun v_8=>(if v_8=true then (ox (.p1 p w_6 seen)) else (ix (ls seen) v_4>>=fun v_11=>(ix (ls p.Code) v_4>>=fun v_13=>(if (v_13.Kind==1)=true then (ox (.p1 p w_6 (dF seen v_4 true))) else (if (v_13.Kind==12)=true then (ox (.p1 p w_6 (dF seen v_4 true))) else (if (v_13.Kind==2)=true then (ix (ls p.Code) v_4>>=fun v_18=>(if ((ls w_6).length+(ls (some ([IntKind.wrap .i64 (v_4+1),v_18.To]:List Int))).length)*8≤140737488355328 then (ox (.p1 p (bW w_6 (ls (some ([IntKind.wrap .i64 (v_4+1),v_18.To]:List Int)))) (dF seen v_4 true))) else none)) else (if (v_13.Kind==3)=true then (ix (ls p.Code) v_4>>=fun v_24=>(if ((ls w_6).length+(ls (some ([v_24.To]:List Int))).length)*8≤140737488355328 then (ox (.p1 p (bW w_6 (ls (some ([v_24.To]:List Int)))) (dF seen v_4 true))) else none)) else (if ((ls w_6).length+(ls (some ([IntKind.wrap .i64 (v_4+1)]:List Int))).length)*8≤140737488355328 then (ox (.p1 p (bW w_6 (ls (some ([IntKind.wrap .i64 (v_4+1)]:List Int)))) (dF seen v_4 true))) else none))))))))))) else (ox (.p2 p 0 seen none))) | .p2 p k seen out=>(if (decide (k<((ls seen).length:Int)))=true then (ix (ls seen) k>>=fun v_34=>(if v_34=true then (ix (ls p.Code) k>>=fun v_37=>(if (v_37.Kind==1)=true then (ox (.p3 p k seen out)) else (ix (ls p.Code) k>>=fun v_40=>(if (v_40.Kind==12)=true then (ox (.p3 p k seen out)) else (ox (.p2 p (IntKind.wrap .i64 (k+1)) seen out)))))) else (ox (.p2 p (IntKind.wrap .i64 (k+1)) seen out)))) else (some out)) | .p3 p k seen out=>(if ((ls out).length+(ls (some ([k]:List Int))).length)*8≤140737488355328 then (ox (.p2 p (IntKind.wrap .i64 (k+1)) seen (bW out (ls (some ([k]:List Int)))))) else none) partial_fixpoint
def YR (x:PX) (r:Sl Int):Prop:=match x with | .p1 p todo seen=> ∀(K:AV→aA→Prop) (Ls:List bU) (iP0:Nat),(∀st,SH st (Ls)→K (cg 1 (AV.int .i64) r) st)→ ∀(tm:Fr) (st:aA) (io0:Nat) (io1:Nat),dH tm [(1,fC 1 todo io0),(2,.aQ (cE p)),(5,fC 1 seen io1)]→SH st (lC (cI .i64) io0 todo::lC cB io1 seen::Ls)→W (XU K) [.lp Lw,.blk 0,.code Er] tm st | .p2 p k seen out=> ∀(K:AV→aA→Prop) (Ls:List bU) (iP0:Nat),(∀st,SH st (Ls)→K (cg 1 (AV.int .i64) r) st)→ ∀(tm:Fr) (st:aA) (io0:Nat) (io1:Nat),dH tm [(2,.aQ (cE p)),(5,fC 1 seen io0),(7,br 1 (AV.int .i64) out io1),(8,AV.int .i64 k)]→SH st (lC cB io0 seen::dK io1 out::Ls)→W (XU K) [.lp zZ,.blk 3,.code za] tm st | .p3 p k seen out=> ∀(K:AV→aA→Prop) (Ls:List bU) (iP0:Nat),(∀st,SH st (Ls)→K (cg 1 (AV.int .i64) r) st)→ ∀(tm:Fr) (st:aA) (io0:Nat) (io1:Nat),dH tm [(2,.aQ (cE p)),(5,fC 1 seen io0),(7,br 1 (AV.int .i64) out io1),(8,AV.int .i64 k)]→SH st (lC cB io0 seen::dK io1 out::Ls)→W (XU K) [.code Es,.blk 4,.code Et,.lp zZ,.blk 3,.code za] tm st
theorem w26: ∀(x:PX) (r:Sl Int),ox x=some r→YR x r:=by
 refine ox.partial_correctness (YR) ?_;intro g ih x r hF;cases x with
 | p1 p todo seen=>
  dsimp only at hF;intro K Ls iP0 hK tm st io0 io1 hf hs;refine en hf (lp (rn 1 z (W.o (gL hs 0 z z) (rn 1 z (ci hF z (fun c_3 hF=>?_) (fun c_3 hF=>?_))))))
  ·refine rn 2 z (W.o (gL hs 0 z z) (bj hF fun v_4 g_5 hF=>rn 1 z (W.o (dJ hs 0 z z z g_5) (W.o (fS z (SH.gv hs 0 z g_5) (LR.cast (LR.comp (LR.whole _ _) (mQ (aS .i64) g_5)) (by omega))) (rn 3 z (W.o (gL hs 0 z z) (bj hF fun w_6 g_7 hF=>rn 1 z (Xg (c:=cI .i64) (o:=todo) hs 0 z z z g_7 (aS .i64) z fun st hs=>bj hF fun v_8 g_9 hF=>rn 3 z (W.o (dJ hs 1 z z z g_9) ?_)))))))));refine W.o (fS z (SH.gv hs 1 z g_9) (LR.cast (LR.comp (LR.whole _ _) (mQ eT g_9)) (by omega))) (rn 0 z (ci hF z (fun c_10 hF=>?_) (fun c_10 hF=>?_)))
   ·exact rn 0 z (ih _ _ hF K Ls iP0 hK _ _ io0 io1 hG hs)
   refine bj hF fun v_11 g_12 hF=>rn 2 z (W.o (dJ hs 1 z z z g_12) (EU hs 1 z z g_12 z (LR.cast (LR.comp (LR.whole _ _) (fl eT g_12 true)) (by omega)) (eT _) z (eT _) (pJ _) z fun st hs=>rn 0 z (W.o (aB z) (W.o (dW z (by first | rfl | (rw [aN];rfl))) (bj hF fun v_13 g_14 hF=>rn 1 z (W.o (aM (bJ z) z g_14) (W.o (aB z) (W.o (dW z z) (rn 2 z (ci hF z (fun c_15 hF=>?_) (fun c_15 hF=>?_)))))))))))
   ·exact rn 0 z (ct z c_15 (rn 0 z (ih _ _ hF K Ls iP0 hK _ _ io0 io1 ⟨z,z,(show fC 1 seen io1=fC 1 (dF seen v_4 true) io1 by simp only [eA]),trivial⟩ hs)))
   refine rn 2 z (ci hF z (fun c_16 hF=>?_) (fun c_16 hF=>?_))
   ·exact rn 0 z (ih _ _ hF K Ls iP0 hK _ _ io0 io1 ⟨z,z,(show fC 1 seen io1=fC 1 (dF seen v_4 true) io1 by simp only [eA]),trivial⟩ hs)
   refine rn 2 z (ci hF z (fun c_17 hF=>?_) (fun c_17 hF=>?_))
   ·exact rn 3 z (W.o (aB z) (W.o (dW z (by first | rfl | (rw [aN];rfl))) (bj hF fun v_18 g_19 hF=>rn 1 z (W.o (aM (bJ z) z g_19) (W.o (aB z) (W.o (dW z z) (bs (f:=AV.int .i64) ([IntKind.wrap .i64 (v_4+1),v_18.To]:List Int) hs z z z z fun st b_20 hs=>gj hF fun g_21 hF=>QJ (f:=AV.int .i64) (c:=cI .i64) (ys:=ls (some ([IntKind.wrap .i64 (v_4+1),v_18.To]:List Int))) hs 1 z z (eR (cO (o:=(some ([IntKind.wrap .i64 (v_4+1),v_18.To]:List Int))) (id:=b_20) z)) g_21 (aS .i64) (fun _=>z) (fun _=>z) fun st b_22 hs=>rn 1 z (ih _ _ hF K Ls iP0 hK _ _ b_22 io1 ⟨z,z,(show fC 1 seen io1=fC 1 (dF seen v_4 true) io1 by simp only [eA]),trivial⟩ (hs.p 3 [1,1] z)))))))))
   refine rn 2 z (ci hF z (fun c_23 hF=>?_) (fun c_23 hF=>?_))
   ·exact rn 1 z (W.o (aB z) (W.o (dW z (by first | rfl | (rw [aN];rfl))) (bj hF fun v_24 g_25 hF=>rn 1 z (W.o (aM (bJ z) z g_25) (W.o (aB z) (W.o (dW z z) (bs (f:=AV.int .i64) ([v_24.To]:List Int) hs z z z z fun st b_26 hs=>gj hF fun g_27 hF=>QJ (f:=AV.int .i64) (c:=cI .i64) (ys:=ls (some ([v_24.To]:List Int))) hs 1 z z (eR (cO (o:=(some ([v_24.To]:List Int))) (id:=b_26) z)) g_27 (aS .i64) (fun _=>z) (fun _=>z) fun st b_28 hs=>rn 1 z (ih _ _ hF K Ls iP0 hK _ _ b_28 io1 ⟨z,z,(show fC 1 seen io1=fC 1 (dF seen v_4 true) io1 by simp only [eA]),trivial⟩ (hs.p 3 [1,1] z)))))))))
   exact rn 3 z (bs (f:=AV.int .i64) ([IntKind.wrap .i64 (v_4+1)]:List Int) hs z z z z fun st b_29 hs=>gj hF fun g_30 hF=>QJ (f:=AV.int .i64) (c:=cI .i64) (ys:=ls (some ([IntKind.wrap .i64 (v_4+1)]:List Int))) hs 1 z z (eR (cO (o:=(some ([IntKind.wrap .i64 (v_4+1)]:List Int))) (id:=b_29) z)) g_30 (aS .i64) (fun _=>z) (fun _=>z) fun st b_31 hs=>rn 1 z (ih _ _ hF K Ls iP0 hK _ _ b_31 io1 ⟨z,z,(show fC 1 seen io1=fC 1 (dF seen v_4 true) io1 by simp only [eA]),trivial⟩ (hs.p 3 [1,1] z)))
  refine rn 2 z ?_;have hs:=hs.fX Int;exact ih _ _ hF K Ls iP0 hK _ _ io1 0 iG (hs.p 3 [2,0] z)
 | p2 p k seen out=>
  dsimp only at hF;intro K Ls iP0 hK tm st io0 io1 hf hs;refine en hf (lp (rn 2 z (W.o (gL hs 0 z z) (rn 1 z (ci hF z (fun c_33 hF=>?_) (fun c_33 hF=>?_))))))
  ·refine bj hF fun v_34 g_35 hF=>rn 2 z (W.o (dJ hs 0 z z z g_35) (W.o (fS z (SH.gv hs 0 z g_35) (LR.cast (LR.comp (LR.whole _ _) (mQ eT g_35)) (by omega))) (rn 1 z (bi hF (fun c_36 hF=>?_) (fun c_36 hF=>?_)))))
   ·refine bL 82 z c_36 (W.on z z (W.o (aB z) (W.on z z (W.o (dW z (by first | rfl | (rw [aN];rfl))) (bj hF fun v_37 g_38 hF=>rn 1 z (W.on z z (W.o (aM (bJ z) z g_38) (W.on z z (W.o (aB z) (W.on z z (W.o (dW z z) (rn 2 z ?_))))))))))));refine bi hF (fun c_39 hF=>?_) (fun c_39 hF=>?_)
    ·exact bL 90 z c_39 (rn 9 z (ct z z (ih _ _ hF K Ls iP0 hK _ _ io0 io1 iG hs)))
    refine bL 90 z c_39 (W.on z z (W.o (aB z) (W.on z z (W.o (dW z (by first | rfl | (rw [aN];rfl))) (bj hF fun v_40 g_41 hF=>rn 1 z (W.on z z (W.o (aM (bJ z) z g_41) (W.on z z (W.o (aB z) (W.on z z (W.o (dW z z) (rn 3 z ?_))))))))))));refine ci hF z (fun c_42 hF=>?_) (fun c_42 hF=>?_)
    ·exact ih _ _ hF K Ls iP0 hK _ _ io0 io1 iG hs
    exact rn 3 z (ih _ _ hF K Ls iP0 hK _ _ io0 io1 iG hs)
   exact bL 82 z c_36 (rn 17 z (cf z z (rn 3 z (ih _ _ hF K Ls iP0 hK _ _ io0 io1 iG hs))))
  refine rn 2 z ?_;cases hF;exact Zw (ah bG) (hK _ (hs.p 2 [] z)) xL
 | p3 p k seen out=>
  dsimp only at hF;intro K Ls iP0 hK tm st io0 io1 hf hs;exact en hf (rn 2 z (bs (f:=AV.int .i64) ([k]:List Int) hs z z z z fun st b_43 hs=>gj hF fun g_44 hF=>ap (ys:=ls (some ([k]:List Int))) hs 2 z z (eR (cO (o:=(some ([k]:List Int))) (id:=b_43) z)) g_44 (fun _=>z) fun st b_45 hs=>rn 4 z (ih _ _ hF K Ls iP0 hK _ _ io0 b_45 iG (hs.p 3 [1,1] z))))
noncomputable def Ju (p:af) (todo:Sl Int):Option (Sl Int):=(if 0≤((ls p.Code).length:Int)∧((ls p.Code).length:Int)=((ls p.Code).length:Int)∧(1:Int)*((ls p.Code).length:Int)≤281474976710656 then (ox (.p1 p todo (some (List.replicate (Int.toNat ((ls p.Code).length:Int)) (false:Bool))))) else none)
theorem d26 (p:af) (todo:Sl Int) (r:Sl Int) (hF:Ju p todo=some r): ∀(K:AV→aA→Prop) (Ls:List bU) (iP0:Nat),(∀st,SH st (Ls)→K (cg 1 (AV.int .i64) r) st)→ ∀(st:aA),SH st (lC (cI .i64) iP0 todo::Ls)→XCall Tryd.prog gE 26 [nN p,fC 1 todo iP0] st K:=by
 unfold Ju at hF;intro K Ls iP0 hK  st hs;exact bS k26 z (rn 0 z (W.o (aY (cs:=cE p) z z (bg _)) (rn 1 z (W.o (aB z) (W.o (dW z (by first | rfl | (rw [aN];rfl))) (W.o (e_len (bJ z)) (gj hF fun g_2 hF=>Xz (c:=cB) (false:Bool) hs z z z g_2 fun st b_1 hs=>rn 1 z (w26 (.p1 p todo (some (List.replicate (Int.toNat ((ls p.Code).length:Int)) (false:Bool)))) _ hF K Ls iP0 hK _ _ iP0 b_1 hG (hs.p 2 [1,0] z)))))))))
end Go.Proofs.YtcidnoghoifmmaaDoor
end
section
set_option maxRecDepth 4000
set_option maxHeartbeats 4000000
namespace Go.Proofs.YtcidnoghoifmmaaDoor
open Go AW
attribute [local irreducible] W WD SH XS XLoop DFun XCall XYield
def OG:aC:=.cond 38 (.ops [qm 39 7,qm 40 1,qm 41 8,qi 42 1 40 41,ql 43 42,qb 44 .add 43 (ki 1),q 45 (.bE 1 1 false [zi] [(0,(1,44))] false),q 46 (.ng 1 8 39 45),qm 7 46]) .skip
def Ex:aC:=.s (.o [qm 10 8,qm 11 1,qh 12 11,qb 13 .lss 10 12] (.cond 13 .skip (.exit 0))) (.s (.block 1 (.s (.draw [] 0 1 [qa 16 2 3,ql 17 16,qm 18 1,qm 19 8,qi 20 1 18 19,ql 21 20,qi 22 9 17 21,qn 23 9 22,q 9 (.alloc [zb,zu,zu,zu,zu,zi,zi,zi,zi])] [qs 9 9 23]) (.o [qa 24 0 9,ql 25 24,qb 26 .eql 25 (ku 1),qm 27 26,(qm 28 2).y 27,(qb 29 .quo 28 (ku 64)).y 27,(qa 30 1 9).y 27,(q 31 (.ek 4 1 30 29)).y 27,(ql 32 31).y 27,(qm 33 2).y 27,(qb 34 .rem 33 (ku 64)).y 27,(qb 35 .shr 32 34).y 27,(qb 36 .and 35 (.c (.int .u64 1))).y 27,(qb 37 .eql 36 (.c (.int .u64 1))).y 27,qp 38 27 37 kf] OG))) (.ops [qm 14 8,qb 15 .add 14 (ki 1),qm 8 15]))
def Ey:aC:=.o [qn 47 3 3,qm 48 7,qc 49 26 [47,48],qm 6 49] .ret
def SM:aC:=.o [qx 3 3 0,qm 6 (.c .aP)] (.o [qm 7 (.c .aP)] (.s (.o [qm 8 (ki 0)] (.block 0 (.loop Ex))) Ey))
def Yt:List RA:=[(.tmp 6)]
theorem k29:au Tryd.prog (dQ [3,46]) 29=some ⟨50,SM,Yt⟩:=by kernel_rfl
noncomputable abbrev X29 (r:Sl Int):Cx:=cD Tryd.prog gE 50 Yt (cg 1 (AV.int .i64) r) [3,46]
inductive PZ where
 | p1 (l:Sl Int) (c:Int) (p:af) (i:Int) (todo:Sl Int)
noncomputable def KV:PZ→Option (Sl Int) | .p1 l c p i todo=>(if (decide (i<((ls l).length:Int)))=true then (ix (ls l) i>>=fun v_5=>(ix (ls p.Code) v_5>>=fun v_7=>(if (v_7.Kind==1)=true then (if (0:Int)≤(IntKind.wrap .u8 (Int.tdiv c 64))∧(IntKind.wrap .u8 (Int.tdiv c 64))<(4:Int) then (ix v_7.Set.l (IntKind.wrap .u8 (Int.tdiv c 64))>>=fun v_12=>(if 0≤(Int.tmod c 64) then (if ((kz .u64 (jC .u64 v_12 (Int.tmod c 64)) 1)==1)=true then (ix (ls l) i>>=fun v_16=>(if ((ls todo).length+(ls (some ([IntKind.wrap .i64 (v_16+1)]:List Int))).length)*8≤140737488355328 then (KV (.p1 l c p (IntKind.wrap .i64 (i+1)) (bW todo (ls (some ([IntKind.wrap .i64 (v_16+1)]:List Int)))))) else none)) else (KV (.p1 l c p (IntKind.wrap .i64 (i+1)) todo))) else none)) else none) else (KV (.p1 l c p (IntKind.wrap .i64 (i+1)) todo))))) else (Ju p todo>>=fun r_21=>(some r_21))) partial_fixpoint
def YT (x:PZ) (r:Sl Int):Prop:=match x with | .p1 l c p i todo=> ∀(tm:Fr) (st:aA) (io0:Nat),dH tm [(1,cg 1 (AV.int .i64) l),(2,AV.int .u8 c),(3,.aQ (cE p)),(7,fC 1 todo io0),(8,AV.int .i64 i)]→SH st [lC (cI .i64) io0 todo]→W (X29 r) [.lp Ex,.blk 0,.code Ey] tm st
theorem w29: ∀(x:PZ) (r:Sl Int),KV x=some r→YT x r:=by
 refine KV.partial_correctness (YT) ?_;intro g ih x r hF;cases x with
 | p1 l c p i todo=>
  dsimp only at hF;intro tm st io0 hf hs;refine en hf (lp (rn 2 z (W.o (e_len (bJ z)) (rn 1 z (ci hF z (fun c_2 hF=>?_) (fun c_2 hF=>?_))))))
  ·refine rn 0 z (Ai hs fun s_3 st h0 hs=>de z (aB z) (de z (dW z (by first | rfl | (rw [aN];rfl))) (bj hF fun v_5 g_6 hF=>dn 2 z (de z (aM (bJ z) z g_6) (de z (dW z z) (bj hF fun v_7 g_8 hF=>de z (aM (bJ z) z g_8) (de z (uD (s:=dx v_7) z z z) (IC hs 0 (cs:=dx ({Kind:=0,Set:=(an.rep 4 (0:Int)),To:=0,aH:=0,bP:=0,Slot:=0}:aT)) z z z fun st hs=>dz (sr hs 0 z z z (cs':=dx v_7) z z fun st hs=>?_)))))))));refine rn 0 z (W.o (aJ z (hs.g 0 z)) (W.o (l1 z (hs.g 0 z) z) (rn 2 z (bi hF (fun c_10 hF=>?_) (fun c_10 hF=>?_)))))
   ·refine bL 27 z c_10 (rn 1 z (W.on z z (W.o (hJ z z (tE _ _ _ (by decide))) (W.on z z (W.o (aJ z (hs.g 0 z)) (gj hF fun g_11 hF=>W.on z z (W.o (fZ z (hs.g 0 z) z g_11) (bj hF fun v_12 g_13 hF=>W.on z z (W.o (fS z (hs.g 0 z) (LR.comp (LR.comp (LR.whole _ _) (mY 1 4 (jE v_7.Set) z z)) (kI (aS .u64) g_13))) (rn 1 z (W.on z z ?_)))))))))));refine W.o (hJ z z (tF _ _ _ (by decide))) (gj hF fun g_14 hF=>W.on z z (W.o (hJ z z (tG _ _ _ _ g_14)) (rn 3 z (ci hF z (fun c_15 hF=>?_) (fun c_15 hF=>?_)))))
    ·exact bj hF fun v_16 g_17 hF=>rn 3 z (W.o (aM (bJ z) z g_17) (W.o (dW z z) (rn 1 z (bs (f:=AV.int .i64) ([IntKind.wrap .i64 (v_16+1)]:List Int) hs z z z z fun st b_18 hs=>gj hF fun g_19 hF=>QJ (f:=AV.int .i64) (c:=cI .i64) (ys:=ls (some ([IntKind.wrap .i64 (v_16+1)]:List Int))) hs 2 z z (eR (cO (o:=(some ([IntKind.wrap .i64 (v_16+1)]:List Int))) (id:=b_18) z)) g_19 (aS .i64) (fun _=>z) (fun _=>z) fun st b_20 hs=>rn 4 z (ih _ _ hF _ _ b_20 kj (hs.p 3 [2] z))))))
    exact rn 3 z (ih _ _ hF _ _ io0 kj (hs.p 2 [1] z))
   exact bL 27 z c_10 (rn 11 z (cf z z (rn 3 z (ih _ _ hF _ _ io0 kj (hs.p 2 [1] z)))))
  refine rn 0 z (W.o (uD (s:=cE p) z z z) (bj hF fun r_21 g_22 hF=>rn 1 z ?_));refine cl (dw z) (d26 _ _ _ g_22 _ _ io0 (fun st hs=>?_) _ hs);refine rn 1 z ?_;cases hF;exact rD (ah bG) z
noncomputable def MP (p:af) (l:Sl Int) (c:Int):Option (Sl Int):=(KV (.p1 l c p 0 none))
theorem d29 (p:af) (l:Sl Int) (c:Int) (r:Sl Int) (hF:MP p l c=some r):DFun Tryd.prog gE 29 [nN p,cg 1 (AV.int .i64) l,AV.int .u8 c] (cg 1 (AV.int .i64) r):=by
 unfold MP at hF;refine bD k29 z ?_;have hs:SH [] []:=SH.nil;generalize ([]:aA)=st at hs ⊢;refine rn 0 z (W.o (aY (cs:=cE p) z z (bg _)) (rn 3 z ?_));have hs:=hs.zA (α :=Int) (cI .i64);exact w29 (.p1 l c p 0 none) _ hF _ _ 0 kj hs
def SL:aC:=.o [qx 2 3 0,qm 4 kf] (.s (.draw [] 0 0 [qm 5 1,qh 6 5,qb 7 .gtr 6 (ki 0),qm 8 7,(qm 9 1).y 8,(qm 10 1).y 8,(qh 11 10).y 8,(qb 12 .sub 11 (ki 1)).y 8,(qi 13 1 9 12).y 8,(ql 14 13).y 8,(qa 15 2 2).y 8,(ql 16 15).y 8,(qh 17 16).y 8,(qb 18 .sub 17 (ki 1)).y 8,(qb 19 .eql 14 18).y 8,qp 20 8 19 kf,qm 4 20] []) .ret)
def R28:List RA:=[(.tmp 4)]
theorem k28:au Tryd.prog (dQ [2]) 28=some ⟨21,SL,R28⟩:=by kernel_rfl
noncomputable def MO (p:af) (l:Sl Int):Option Bool:=(if (decide (((ls l).length:Int)>0))=true then (ix (ls l) (IntKind.wrap .i64 (((ls l).length:Int)-1))>>=fun v_2=>(some (v_2==(IntKind.wrap .i64 (((ls p.Code).length:Int)-1))))) else (some false))
theorem d28 (p:af) (l:Sl Int) (r:Bool) (hF:MO p l=some r):DFun Tryd.prog gE 28 [nN p,cg 1 (AV.int .i64) l] (AV.bool r):=by
 unfold MO at hF;refine bD k28 z ?_;have hs:SH [] []:=SH.nil;generalize ([]:aA)=st at hs ⊢;refine rn 0 z (W.o (aY (cs:=cE p) z z (bg _)) (rn 1 z ?_));have h0:=hs;refine qq (dn 1 z (de z (e_len (bJ z)) (dn 2 z (bi hF (fun c_1 hF=>?_) (fun c_1 hF=>?_)))))
 ·refine qL 8 z c_1 (dn 2 z (gu z z (de z (e_len (bJ z)) (bj hF fun v_2 g_3 hF=>dn 1 z (gu z z (de z (aM (bJ z) z g_3) (gu z z (de z (dW z z) (gu z z (de z (aB z) (gu z z (de z (dW z (by first | rfl | (rw [aN];rfl))) ?_))))))))))));refine gu z z (de z (e_len (bJ z)) (dn 4 z (dz (rn 0 z ?_))));cases hF;exact rD (ah bG) z
 refine qL 8 z c_1 (dn 13 z (dz (rn 0 z ?_)));cases hF;exact rD (ah bG) z
def Eu:aC:=.s (.o [qm 16 6,qm 17 5,q 18 (.ek 2 1 4 17),ql 19 18,qh 20 19,qb 21 .lss 16 20] (.cond 21 .skip (.exit 2))) (.s (.block 3 (.draw [] 0 1 [qm 24 3,qm 25 5,q 26 (.ek 2 1 4 25),ql 27 26,qm 28 6,qi 29 1 27 28,ql 30 29,qb 31 .shr 30 (.c (.int .u64 8)),q 32 (.Ah .u8 31),qm 33 5,q 34 (.ek 2 1 4 33),ql 35 34,qm 36 6,qi 37 1 35 36,ql 38 37,q 39 (.Ah .u8 38),q 40 (.bE 1 3 false [zb] [(0,(1,(ku 1))),(1,(1,32)),(2,(1,39))] false)] [q 41 (.app 1 1 24 40),qm 3 41])) (.ops [qm 22 6,qb 23 .add 22 (ki 1),qm 6 23]))
def OF:aC:=.o [qm 6 (ki 0)] (.block 2 (.loop Eu))
def Ev:aC:=.ops [qm 42 3,q 43 (.bE 1 1 false [zb] [(0,(1,(ku 0)))] false),q 44 (.app 1 1 42 43),qm 3 44]
def Ew:aC:=.ops [qm 14 5,qb 15 .add 14 (ki 1),qm 5 15]
def zc:aC:=.s (.o [qm 12 5,qb 13 .lss 12 (ki 2)] (.cond 13 .skip (.exit 0))) (.s (.block 1 (.s OF Ev)) Ew)
def zd:aC:=.o [qm 45 3,q 46 (.KA 45),qm 2 46] .ret
def SK:aC:=.o [qx 1 3 0,qm 2 (.c (.str []))] (.o [qm 3 (.c .aP)] (.o [qa 7 0 1,ql 8 7,qa 9 1 1,ql 10 9,q 11 (.build [.aP,.aP] [(0,(1,8)),(1,(1,10))]),q 4 (.alloc [.aP,.aP]),qs 2 4 11] (.s (.o [qm 5 (ki 0)] (.block 0 (.loop zc))) zd)))
def Ys:List RA:=[(.tmp 2)]
theorem k27:au Tryd.prog (dQ [1]) 27=some ⟨47,SK,Ys⟩:=by kernel_rfl
noncomputable abbrev ZX (r:aZ):Cx:=cD Tryd.prog gE 47 Ys (AV.str r) [1]
inductive PY where
 | p1 (i:Int) (b:Sl Int) (l:an 2 (Sl Int))
 | p2 (i:Int) (k:Int) (b:Sl Int) (l:an 2 (Sl Int))
noncomputable def Bm:PY→Option aZ | .p1 i b l=>(if (decide (i<2))=true then (Bm (.p2 i 0 b l)) else (some (cL (ls b)))) | .p2 i k b l=>(if (0:Int)≤i∧i<(2:Int) then (ix l.l i>>=fun v_5=>(if (decide (k<((ls v_5).length:Int)))=true then (if (0:Int)≤i∧i<(2:Int) then (ix l.l i>>=fun v_11=>(ix (ls v_11) k>>=fun v_13=>(if (0:Int)≤i∧i<(2:Int) then (ix l.l i>>=fun v_16=>(ix (ls v_16) k>>=fun v_18=>(if ((ls b).length+(ls (some ([1,IntKind.wrap .u8 (jC .i64 v_13 8),IntKind.wrap .u8 v_18]:List Int))).length)*1≤140737488355328 then (Bm (.p2 i (IntKind.wrap .i64 (k+1)) (bW b (ls (some ([1,IntKind.wrap .u8 (jC .i64 v_13 8),IntKind.wrap .u8 v_18]:List Int)))) l)) else none))) else none))) else none) else (if ((ls b).length+(ls (some ([0]:List Int))).length)*1≤140737488355328 then (Bm (.p1 (IntKind.wrap .i64 (i+1)) (bW b (ls (some ([0]:List Int)))) l)) else none))) else none) partial_fixpoint
def YS (x:PY) (r:aZ):Prop:=match x with | .p1 i b l=> ∀(tm:Fr) (st:aA) (io0:Nat) (io1:Nat),dH tm [(3,br 1 (AV.int .u8) b io0),(4,.ptr io1 0),(5,AV.int .i64 i)]→SH st [dK io0 b,pt io1 (.cells (Hp l))]→W (ZX r) [.lp zc,.blk 0,.code zd] tm st | .p2 i k b l=> ∀(tm:Fr) (st:aA) (io0:Nat) (io1:Nat),dH tm [(3,br 1 (AV.int .u8) b io0),(4,.ptr io1 0),(5,AV.int .i64 i),(6,AV.int .i64 k)]→SH st [dK io0 b,pt io1 (.cells (Hp l))]→W (ZX r) [.lp Eu,.blk 2,.code Ev,.blk 1,.code Ew,.lp zc,.blk 0,.code zd] tm st
theorem w27: ∀(x:PY) (r:aZ),Bm x=some r→YS x r:=by
 refine Bm.partial_correctness (YS) ?_;intro g ih x r hF;cases x with
 | p1 i b l=>
  dsimp only at hF;intro tm st io0 io1 hf hs;refine en hf (lp (rn 2 z (ci hF z (fun c_3 hF=>?_) (fun c_3 hF=>?_))))
  ·exact rn 1 z (ih _ _ hF _ _ io0 io1 iG hs)
  refine rn 1 z (W.o (yD (cO (o:=b) (id:=io0) z)) (rn 1 z ?_));cases hF;exact rD (ah bG) z
 | p2 i k b l=>
  dsimp only at hF;intro tm st io0 io1 hf hs;refine en hf (lp (gj hF fun g_4 hF=>rn 2 z (W.o (fZ z (hs.g 1 z) z g_4) (bj hF fun v_5 g_6 hF=>W.o (fS z (hs.g 1 z) (LR.comp (LR.whole _ _) (kI aO g_6))) (W.o (e_len (bJ z)) (rn 1 z (ci hF z (fun c_7 hF=>?_) (fun c_7 hF=>?_))))))))
  ·refine rn 0 z (Ai hs fun s_8 st h0 hs=>gj hF fun g_10 hF=>dn 2 z (de z (fZ z (h0.g 1 z) z g_10) (bj hF fun v_11 g_12 hF=>de z (fS z (h0.g 1 z) (LR.comp (LR.whole _ _) (kI aO g_12))) (bj hF fun v_13 g_14 hF=>dn 1 z (de z (aM (bJ z) z g_14) (de z (dW z z) (de z (hJ z z (tG _ _ _ _ (by decide))) (gj hF fun g_15 hF=>dn 2 z ?_))))))));exact de z (fZ z (h0.g 1 z) z g_15) (bj hF fun v_16 g_17 hF=>de z (fS z (h0.g 1 z) (LR.comp (LR.whole _ _) (kI aO g_17))) (bj hF fun v_18 g_19 hF=>dn 1 z (de z (aM (bJ z) z g_19) (de z (dW z z) (dn 1 z (CJ (f:=AV.int .u8) ([1,IntKind.wrap .u8 (jC .i64 v_13 8),IntKind.wrap .u8 v_18]:List Int) hs 0 z z z z z z fun st hs=>dz (gj hF fun g_21 hF=>ap (ys:=ls (some ([1,IntKind.wrap .u8 (jC .i64 v_13 8),IntKind.wrap .u8 v_18]:List Int))) hs 1 z z (eR (cO (o:=(some ([1,IntKind.wrap .u8 (jC .i64 v_13 8),IntKind.wrap .u8 v_18]:List Int))) (id:=(List.length s_8+0)) z)) g_21 (fun _=>z) fun st b_22 hs=>rn 4 z (ih _ _ hF _ _ b_22 io1 iG (hs.p 3 [1,1] z)))))))))
  exact rn 1 z (bs (f:=AV.int .u8) ([0]:List Int) hs z z z z fun st b_23 hs=>gj hF fun g_24 hF=>ap (ys:=ls (some ([0]:List Int))) hs 1 z z (eR (cO (o:=(some ([0]:List Int))) (id:=b_23) z)) g_24 (fun _=>z) fun st b_25 hs=>rn 4 z (ih _ _ hF _ _ b_25 io1 hG (hs.p 3 [1,1] z)))
noncomputable def Ox (x_:gY):Option aZ:=(Bm (.p1 0 none (iz (iz (an.rep 2 (none:Sl Int)) 0 x_.a) 1 x_.b)))
theorem d27 (x_:gY) (r:aZ) (hF:Ox x_=some r):DFun Tryd.prog gE 27 [KB x_] (AV.str r):=by
 unfold Ox at hF;refine bD k27 z ?_;have hs:SH [] []:=SH.nil;generalize ([]:aA)=st at hs ⊢;refine rn 0 z (W.o (aY (cs:=sI x_) z z (jw _)) (rn 2 z (W.o (aB z) (W.o (dW z (by first | rfl | (rw [aN];rfl))) (W.o (aB z) (W.o (dW z (by first | rfl | (rw [aN];rfl))) (W.o (dY (z:=[.aP,.aP]) (cs:=Hp (iz (iz (an.rep 2 (none:Sl Int)) 0 x_.a) 1 x_.b)) (bO (cs:=fF 1 (AV.int .i64) x_.a) (v:=cg 1 (AV.int .i64) x_.a) z aN (aO _) (by decide) (bO (cs:=fF 1 (AV.int .i64) x_.b) (v:=cg 1 (AV.int .i64) x_.b) z aN (aO _) (by decide) eV)) (show av (Hp (an.rep 2 (none:Sl Int))) _=_ from (bf (wU (i:=0) (x:=none) aO z x_.a) ((aO _).trans (aO _).symm) (bf (wU (i:=1) (x:=none) aO z x_.b) ((aO _).trans (aO _).symm) (fJ _))))) (al hs (cs:=Hp (an.rep 2 (none:Sl Int))) z fun st b_1 hs=>sl hs 0 z z (LR.whole _ _) (CE _) z (CE _) (Kx _) z fun st hs=>rn 1 z ?_))))))));have hs:=hs.fX Int;exact w27 (.p1 0 none (iz (iz (an.rep 2 (none:Sl Int)) 0 x_.a) 1 x_.b)) _ hF _ _ 0 b_1 hG hs
def En:aC:=.s (.o [qm 49 10,qm 50 6,qh 51 50,qb 52 .lss 49 51] (.cond 52 .skip (.exit 2))) (.s (.block 3 (.draw [] 0 0 [qm 55 9,qm 56 55,(qm 57 6).n 56,(qm 58 10).n 56,(qi 59 4 57 58).n 56,(qn 60 4 59).n 56,(qa 61 1 8).n 56,(qn 62 4 61).n 56,(q 63 (.Aj false [.i,.i,.i,.i] 60 62)).n 56,qp 64 56 kt 63,qm 9 64] [])) (.ops [qm 53 10,qb 54 .add 53 (ki 1),qm 10 54]))
def Eo:aC:=.o [qm 65 9,q 66 (.un .not 65)] (.cond 66 (.ops [qm 67 6,qa 68 1 8,qn 69 4 68,q 70 (.bE 4 1 true [zu,zu,zu,zu] [(0,(4,69))] false),q 71 (.app 4 32 67 70),qm 6 71]) .skip)
def Em:aC:=.s (.o [qa 46 0 8,ql 47 46,qb 48 .neq 47 (ku 1)] (.cond 48 (.exit 1) .skip)) (.o [qm 9 kf] (.s (.o [qm 10 (ki 0)] (.block 2 (.loop En))) Eo))
def OA:aC:=.s (.o [qm 27 7,qa 28 2 2,ql 29 28,qh 30 29,qb 31 .lss 27 30] (.cond 31 (.ops [qa 32 2 2,ql 33 32,qm 34 7,qi 35 9 33 34,qn 36 9 35,qs 9 8 36]) (.ops [qa 37 2 3,ql 38 37,qm 39 7,qa 40 2 2,ql 41 40,qh 42 41,qb 43 .sub 39 42,qi 44 9 38 43,qn 45 9 44,qs 9 8 45]))) Em
def zY:aC:=.ops [qm 24 7,qb 25 .add 24 (ki 1),qm 7 25]
def vY:aC:=.s (.o [qm 15 7,qa 16 2 2,ql 17 16,qh 18 17,qa 19 2 3,ql 20 19,qh 21 20,qb 22 .add 18 21,qb 23 .lss 15 22] (.cond 23 .skip (.exit 0))) (.s (.block 1 (.o [q 26 (.build [zb,zu,zu,zu,zu,zi,zi,zi,zi] []),q 8 (.alloc [zb,zu,zu,zu,zu,zi,zi,zi,zi]),qs 9 8 26] OA)) zY)
def Ep:aC:=.s (.o [qm 96 14,qm 97 6,qh 98 97,qb 99 .lss 96 98,qm 100 99,(qm 101 13).y 100,qp 102 100 101 kf] (.cond 102 .skip (.exit 8))) (.s (.block 9 (.draw [] 0 0 [qm 105 6,qm 106 14,qm 107 11,qb 108 .quo 107 (ki 64),qi 109 4 105 106,q 110 (.ek 4 1 109 108),ql 111 110,qm 112 11,qb 113 .rem 112 (ki 64),qb 114 .shr 111 113,qb 115 .and 114 (.c (.int .u64 1)),qm 116 6,qm 117 14,qm 118 12,qb 119 .quo 118 (ki 64),qi 120 4 116 117,q 121 (.ek 4 1 120 119),ql 122 121,qm 123 12,qb 124 .rem 123 (ki 64),qb 125 .shr 122 124,qb 126 .and 125 (.c (.int .u64 1)),qb 127 .eql 115 126,qm 13 127] [])) (.ops [qm 103 14,qb 104 .add 103 (ki 1),qm 14 104]))
def vW:aC:=.o [qm 128 13] (.cond 128 (.ops [qm 129 11,qm 130 12,q 131 (.ek 256 1 5 129),qs 1 131 130]) .skip)
def vX:aC:=.ops [qm 89 12,qb 90 .add 89 (ki 1),qm 12 90]
def va:aC:=.s (.o [qm 79 12,qm 80 11,qb 81 .lss 79 80,qm 82 81,(qm 83 11).y 82,(q 84 (.ek 256 1 5 83)).y 82,(ql 85 84).y 82,(qm 86 11).y 82,(qb 87 .eql 85 86).y 82,qp 88 82 87 kf] (.cond 88 .skip (.exit 6))) (.s (.block 7 (.o [qm 91 12,q 92 (.ek 256 1 5 91),ql 93 92,qm 94 12,qb 95 .eql 93 94,qm 13 95] (.s (.o [qm 14 (ki 0)] (.block 8 (.loop Ep))) vW))) vX)
def OB:aC:=.o [qm 76 11,qm 77 11,q 78 (.ek 256 1 5 76),qs 1 78 77] (.o [qm 12 (ki 0)] (.block 6 (.loop va)))
def qy:aC:=.ops [qm 74 11,qb 75 .add 74 (ki 1),qm 11 75]
def rU:aC:=.s (.o [qm 72 11,qb 73 .lss 72 (ki 256)] (.cond 73 .skip (.exit 4))) (.s (.block 5 OB) qy)
def nW:aC:=.o [qn 132 256 5,qs 256 4 132] .ret
def vZ:aC:=.s (.o [qm 11 (ki 0)] (.block 4 (.loop rU))) nW
def SI:aC:=.o [qx 2 3 0,qx 3 3 1,q 4 (.alloc [zi,zi,zi,zi,zi,zi,zi,zi,zi,zi,zi,zi,zi,zi,zi,zi,zi,zi,zi,zi,zi,zi,zi,zi,zi,zi,zi,zi,zi,zi,zi,zi,zi,zi,zi,zi,zi,zi,zi,zi,zi,zi,zi,zi,zi,zi,zi,zi,zi,zi,zi,zi,zi,zi,zi,zi,zi,zi,zi,zi,zi,zi,zi,zi,zi,zi,zi,zi,zi,zi,zi,zi,zi,zi,zi,zi,zi,zi,zi,zi,zi,zi,zi,zi,zi,zi,zi,zi,zi,zi,zi,zi,zi,zi,zi,zi,zi,zi,zi,zi,zi,zi,zi,zi,zi,zi,zi,zi,zi,zi,zi,zi,zi,zi,zi,zi,zi,zi,zi,zi,zi,zi,zi,zi,zi,zi,zi,zi,zi,zi,zi,zi,zi,zi,zi,zi,zi,zi,zi,zi,zi,zi,zi,zi,zi,zi,zi,zi,zi,zi,zi,zi,zi,zi,zi,zi,zi,zi,zi,zi,zi,zi,zi,zi,zi,zi,zi,zi,zi,zi,zi,zi,zi,zi,zi,zi,zi,zi,zi,zi,zi,zi,zi,zi,zi,zi,zi,zi,zi,zi,zi,zi,zi,zi,zi,zi,zi,zi,zi,zi,zi,zi,zi,zi,zi,zi,zi,zi,zi,zi,zi,zi,zi,zi,zi,zi,zi,zi,zi,zi,zi,zi,zi,zi,zi,zi,zi,zi,zi,zi,zi,zi,zi,zi,zi,zi,zi,zi,zi,zi,zi,zi,zi,zi,zi,zi,zi,zi,zi,zi,zi,zi,zi,zi,zi,zi])] (.o [q 5 (.alloc [zi,zi,zi,zi,zi,zi,zi,zi,zi,zi,zi,zi,zi,zi,zi,zi,zi,zi,zi,zi,zi,zi,zi,zi,zi,zi,zi,zi,zi,zi,zi,zi,zi,zi,zi,zi,zi,zi,zi,zi,zi,zi,zi,zi,zi,zi,zi,zi,zi,zi,zi,zi,zi,zi,zi,zi,zi,zi,zi,zi,zi,zi,zi,zi,zi,zi,zi,zi,zi,zi,zi,zi,zi,zi,zi,zi,zi,zi,zi,zi,zi,zi,zi,zi,zi,zi,zi,zi,zi,zi,zi,zi,zi,zi,zi,zi,zi,zi,zi,zi,zi,zi,zi,zi,zi,zi,zi,zi,zi,zi,zi,zi,zi,zi,zi,zi,zi,zi,zi,zi,zi,zi,zi,zi,zi,zi,zi,zi,zi,zi,zi,zi,zi,zi,zi,zi,zi,zi,zi,zi,zi,zi,zi,zi,zi,zi,zi,zi,zi,zi,zi,zi,zi,zi,zi,zi,zi,zi,zi,zi,zi,zi,zi,zi,zi,zi,zi,zi,zi,zi,zi,zi,zi,zi,zi,zi,zi,zi,zi,zi,zi,zi,zi,zi,zi,zi,zi,zi,zi,zi,zi,zi,zi,zi,zi,zi,zi,zi,zi,zi,zi,zi,zi,zi,zi,zi,zi,zi,zi,zi,zi,zi,zi,zi,zi,zi,zi,zi,zi,zi,zi,zi,zi,zi,zi,zi,zi,zi,zi,zi,zi,zi,zi,zi,zi,zi,zi,zi,zi,zi,zi,zi,zi,zi,zi,zi,zi,zi,zi,zi,zi,zi,zi,zi,zi,zi])] (.o [qm 6 (.c .aP)] (.s (.o [qm 7 (ki 0)] (.block 0 (.loop vY))) vZ)))
def Yq:List RA:=[(.mg 4 256)]
theorem k25:au Tryd.prog (dQ [2,3]) 25=some ⟨133,SI,Yq⟩:=by kernel_rfl
noncomputable abbrev QB (r:an 256 Int):Cx:=cD Tryd.prog gE 133 Yq (Vs r) [2,3]
inductive PW where
 | p1 (p:af) (q_:af) (i:Int) (t4_:an 256 Int) (out:an 256 Int) (sets:Sl (an 4 Int))
 | p2 (p:af) (q_:af) (i:Int) (t4_:an 256 Int) (out:an 256 Int) (sets:Sl (an 4 Int)) (x_:aT)
 | p3 (c:Int) (t4_:an 256 Int) (out:an 256 Int) (sets:Sl (an 4 Int))
 | p4 (p:af) (q_:af) (i:Int) (known:Bool) (k:Int) (t4_:an 256 Int) (out:an 256 Int) (sets:Sl (an 4 Int)) (x_:aT)
 | p5 (c:Int) (d:Int) (t4_:an 256 Int) (out:an 256 Int) (sets:Sl (an 4 Int))
 | p6 (c:Int) (d:Int) (same:Bool) (k:Int) (t4_:an 256 Int) (out:an 256 Int) (sets:Sl (an 4 Int))
 | p7 (c:Int) (d:Int) (same:Bool) (t4_:an 256 Int) (out:an 256 Int) (sets:Sl (an 4 Int))
noncomputable def iR:PW→Option (an 256 Int) | .p1 p q_ i t4_ out sets=>(if (decide (i<(IntKind.wrap .i64 (((ls p.Code).length:Int)+((ls q_.Code).length:Int)))))=true then (if (decide (i<((ls p.Code).length:Int)))=true then (ix (ls p.Code) i>>=fun v_7=>(iR (.p2 p q_ i t4_ out sets v_7))) else (ix (ls q_.Code) (IntKind.wrap .i64 (i-((ls p.Code).length:Int)))>>=fun v_9=>(iR (.p2 p q_ i t4_ out sets v_9)))) else (iR (.p3 0 t4_ out sets))) | .p2 p q_ i t4_ out sets x_=>(if (x_.Kind != 1)=true then (iR (.p1 p q_ (IntKind.wrap .i64 (i+1)) t4_ out sets)) else (iR (.p4 p q_ i false 0 t4_ out sets x_))) | .p3 c t4_ out sets=>(if (decide (c<256))=true then (if (0:Int)≤c∧c<(256:Int) then (iR (.p5 c 0 t4_ (iz out c c) sets)) else none) else (some out)) | .p4 p q_ i known k t4_ out sets x_=>(if (decide (k<((ls sets).length:Int)))=true then (if known=true then (iR (.p4 p q_ i true (IntKind.wrap .i64 (k+1)) t4_ out sets x_)) else (ix (ls sets) k>>=fun v_18=>(iR (.p4 p q_ i (decide (v_18=x_.Set)) (IntKind.wrap .i64 (k+1)) t4_ out sets x_)))) else (if (!known)=true then (if ((ls sets).length+(ls (some ([x_.Set]:List (an 4 Int)))).length)*32≤140737488355328 then (iR (.p1 p q_ (IntKind.wrap .i64 (i+1)) t4_ out (bW sets (ls (some ([x_.Set]:List (an 4 Int))))))) else none) else (iR (.p1 p q_ (IntKind.wrap .i64 (i+1)) t4_ out sets)))) | .p5 c d t4_ out sets=>(if (decide (d<c))=true then (if (0:Int)≤c∧c<(256:Int) then (ix out.l c>>=fun v_26=>(if (v_26==c)=true then (if (0:Int)≤d∧d<(256:Int) then (ix out.l d>>=fun v_30=>(iR (.p6 c d (v_30==d) 0 t4_ out sets))) else none) else (iR (.p3 (IntKind.wrap .i64 (c+1)) t4_ out sets)))) else none) else (iR (.p3 (IntKind.wrap .i64 (c+1)) t4_ out sets))) | .p6 c d same k t4_ out sets=>(if (decide (k<((ls sets).length:Int)))=true then (if same=true then (ix (ls sets) k>>=fun v_34=>(if (0:Int)≤(IntKind.wrap .i64 (Int.tdiv c 64))∧(IntKind.wrap .i64 (Int.tdiv c 64))<(4:Int) then (ix v_34.l (IntKind.wrap .i64 (Int.tdiv c 64))>>=fun v_37=>(if 0≤(Int.tmod c 64) then (ix (ls sets) k>>=fun v_40=>(if (0:Int)≤(IntKind.wrap .i64 (Int.tdiv d 64))∧(IntKind.wrap .i64 (Int.tdiv d 64))<(4:Int) then (ix v_40.l (IntKind.wrap .i64 (Int.tdiv d 64))>>=fun v_43=>(if 0≤(Int.tmod d 64) then (iR (.p6 c d ((kz .u64 (jC .u64 v_37 (Int.tmod c 64)) 1)==(kz .u64 (jC .u64 v_43 (Int.tmod d 64)) 1)) (IntKind.wrap .i64 (k+1)) t4_ out sets)) else none)) else none)) else none)) else none)) else (iR (.p7 c d same t4_ out sets))) else (iR (.p7 c d same t4_ out sets))) | .p7 c d same t4_ out sets=>(if same=true then (if (0:Int)≤c∧c<(256:Int) then (iR (.p5 c (IntKind.wrap .i64 (d+1)) t4_ (iz out c d) sets)) else none) else (iR (.p5 c (IntKind.wrap .i64 (d+1)) t4_ out sets))) partial_fixpoint
def YQ (x:PW) (r:an 256 Int):Prop:=match x with | .p1 p q_ i t4_ out sets=> ∀(tm:Fr) (st:aA) (io0:Nat) (io1:Nat) (io2:Nat),dH tm [(2,.aQ (cE p)),(3,.aQ (cE q_)),(4,.ptr io0 0),(5,.ptr io1 0),(6,br 4 v24 sets io2),(7,AV.int .i64 i)]→SH st [pt io0 (.cells (qI t4_)),pt io1 (.cells (qI out)),dK io2 sets]→W (QB r) [.lp vY,.blk 0,.code vZ] tm st | .p2 p q_ i t4_ out sets x_=> ∀(tm:Fr) (st:aA) (io0:Nat) (io1:Nat) (io2:Nat) (io3:Nat),dH tm [(2,.aQ (cE p)),(3,.aQ (cE q_)),(4,.ptr io0 0),(5,.ptr io1 0),(6,br 4 v24 sets io2),(7,AV.int .i64 i),(8,.ptr io3 0)]→SH st [pt io0 (.cells (qI t4_)),pt io1 (.cells (qI out)),dK io2 sets,pt io3 (.cells (dx x_))]→W (QB r) [.code Em,.blk 1,.code zY,.lp vY,.blk 0,.code vZ] tm st | .p3 c t4_ out sets=> ∀(tm:Fr) (st:aA) (io0:Nat) (io1:Nat) (io2:Nat),dH tm [(4,.ptr io0 0),(5,.ptr io1 0),(6,br 4 v24 sets io2),(11,AV.int .i64 c)]→SH st [pt io0 (.cells (qI t4_)),pt io1 (.cells (qI out)),dK io2 sets]→W (QB r) [.lp rU,.blk 4,.code nW] tm st | .p4 p q_ i known k t4_ out sets x_=> ∀(tm:Fr) (st:aA) (io0:Nat) (io1:Nat) (io2:Nat) (io3:Nat),dH tm [(2,.aQ (cE p)),(3,.aQ (cE q_)),(4,.ptr io0 0),(5,.ptr io1 0),(6,br 4 v24 sets io2),(7,AV.int .i64 i),(8,.ptr io3 0),(9,AV.bool known),(10,AV.int .i64 k)]→SH st [pt io0 (.cells (qI t4_)),pt io1 (.cells (qI out)),dK io2 sets,pt io3 (.cells (dx x_))]→W (QB r) [.lp En,.blk 2,.code Eo,.blk 1,.code zY,.lp vY,.blk 0,.code vZ] tm st | .p5 c d t4_ out sets=> ∀(tm:Fr) (st:aA) (io0:Nat) (io1:Nat) (io2:Nat),dH tm [(4,.ptr io0 0),(5,.ptr io1 0),(6,br 4 v24 sets io2),(11,AV.int .i64 c),(12,AV.int .i64 d)]→SH st [pt io0 (.cells (qI t4_)),pt io1 (.cells (qI out)),dK io2 sets]→W (QB r) [.lp va,.blk 6,.blk 5,.code qy,.lp rU,.blk 4,.code nW] tm st | .p6 c d same k t4_ out sets=> ∀(tm:Fr) (st:aA) (io0:Nat) (io1:Nat) (io2:Nat),dH tm [(4,.ptr io0 0),(5,.ptr io1 0),(6,br 4 v24 sets io2),(11,AV.int .i64 c),(12,AV.int .i64 d),(13,AV.bool same),(14,AV.int .i64 k)]→SH st [pt io0 (.cells (qI t4_)),pt io1 (.cells (qI out)),dK io2 sets]→W (QB r) [.lp Ep,.blk 8,.code vW,.blk 7,.code vX,.lp va,.blk 6,.blk 5,.code qy,.lp rU,.blk 4,.code nW] tm st | .p7 c d same t4_ out sets=> ∀(tm:Fr) (st:aA) (io0:Nat) (io1:Nat) (io2:Nat),dH tm [(4,.ptr io0 0),(5,.ptr io1 0),(6,br 4 v24 sets io2),(11,AV.int .i64 c),(12,AV.int .i64 d),(13,AV.bool same)]→SH st [pt io0 (.cells (qI t4_)),pt io1 (.cells (qI out)),dK io2 sets]→W (QB r) [.code vW,.blk 7,.code vX,.lp va,.blk 6,.blk 5,.code qy,.lp rU,.blk 4,.code nW] tm st
theorem w25: ∀(x:PW) (r:an 256 Int),iR x=some r→YQ x r:=by
 refine iR.partial_correctness (YQ) ?_;intro g ih x r hF;cases x with
 | p1 p q_ i t4_ out sets=>
  dsimp only at hF;intro tm st io0 io1 io2 hf hs;refine en hf (lp (rn 1 z (W.o (aB z) (W.o (dW z (by first | rfl | (rw [aN];rfl))) (W.o (e_len (bJ z)) (W.o (aB z) (W.o (dW z (by first | rfl | (rw [aN];rfl))) (W.o (e_len (bJ z)) (rn 2 z (ci hF z (fun c_4 hF=>?_) (fun c_4 hF=>?_)))))))))))
  ·refine rn 0 z (W.o (bR (cs:=dx ({Kind:=0,Set:=(an.rep 4 (0:Int)),To:=0,aH:=0,bP:=0,Slot:=0}:aT)) z z) (al hs (cs:=dx ({Kind:=0,Set:=(an.rep 4 (0:Int)),To:=0,aH:=0,bP:=0,Slot:=0}:aT)) z fun st b_5 hs=>sr hs 0 z z z (cs':=dx ({Kind:=0,Set:=(an.rep 4 (0:Int)),To:=0,aH:=0,bP:=0,Slot:=0}:aT)) z z fun st hs=>rn 1 z (W.o (aB z) (W.o (dW z (by first | rfl | (rw [aN];rfl))) (W.o (e_len (bJ z)) (rn 1 z (ci hF z (fun c_6 hF=>?_) (fun c_6 hF=>?_))))))))
   ·exact rn 0 z (W.o (aB z) (W.o (dW z (by first | rfl | (rw [aN];rfl))) (bj hF fun v_7 g_8 hF=>rn 1 z (W.o (aM (bJ z) z g_8) (W.o (uD (s:=dx v_7) z z z) (sr hs 0 z z z (cs':=dx v_7) z z fun st hs=>rj 0 1 z (ih _ _ hF _ _ io0 io1 io2 b_5 Cw (hs.p 4 [1,1,1,0] z))))))))
   exact rn 0 z (W.o (aB z) (W.o (dW z (by first | rfl | (rw [aN];rfl))) (rn 1 z (W.o (aB z) (W.o (dW z (by first | rfl | (rw [aN];rfl))) (W.o (e_len (bJ z)) (bj hF fun v_9 g_10 hF=>rn 1 z (W.o (aM (bJ z) z g_10) (W.o (uD (s:=dx v_9) z z z) (sr hs 0 z z z (cs':=dx v_9) z z fun st hs=>rj 0 1 z (ih _ _ hF _ _ io0 io1 io2 b_5 Cw (hs.p 4 [1,1,1,0] z))))))))))))
  exact rn 1 z (ih _ _ hF _ _ io0 io1 io2 iG hs)
 | p2 p q_ i t4_ out sets x_=>
  dsimp only at hF;intro tm st io0 io1 io2 io3 hf hs;refine en hf (rn 0 z (W.o (aJ z (hs.g 3 z)) (W.o (l1 z (hs.g 3 z) z) (rn 1 z (ci hF z (fun c_11 hF=>?_) (fun c_11 hF=>?_))))))
  ·exact rn 3 z (ih _ _ hF _ _ io0 io1 io2 lD (hs.p 4 [0,0,0] z))
  exact rn 2 z (ih _ _ hF _ _ io0 io1 io2 io3 qZ hs)
 | p3 c t4_ out sets=>
  dsimp only at hF;intro tm st io0 io1 io2 hf hs;refine en hf (lp (rn 2 z (ci hF z (fun c_12 hF=>?_) (fun c_12 hF=>?_))))
  ·refine gj hF fun g_13 hF=>rn 2 z (W.o (fZ z (hs.g 1 z) z g_13) ?_);obtain ⟨y_14,g_15⟩:=Ir out g_13 z;exact sl hs 1 z z (LR.comp (LR.whole _ _) (BB (aS .i64) g_15 c)) ((aS .i64) _) z ((aS .i64) _) ((fL .i64) _) z fun st hs=>rn 1 z (ih _ _ hF _ _ io0 io1 io2 kj hs)
  refine rn 0 z (W.o (eN z (hs.g 1 z) (LR.whole _ _) (mL _)) (sl hs 0 z z (LR.whole _ _) (mL _) z (mL _) (CC _) z fun st hs=>rn 0 z ?_));cases hF;exact rD (eJ z (hs.g 0 z) (LR.whole _ _) (mL _) bG) z
 | p4 p q_ i known k t4_ out sets x_=>
  dsimp only at hF;intro tm st io0 io1 io2 io3 hf hs;refine en hf (lp (rn 2 z (W.o (e_len (cO (o:=sets) (id:=io2) z)) (rn 1 z (ci hF z (fun c_16 hF=>?_) (fun c_16 hF=>?_))))))
  ·refine rn 0 z ?_;have h0:=hs;refine qq (dn 2 z (bi hF (fun c_17 hF=>?_) (fun c_17 hF=>?_)))
   ·exact qL 56 z c_17 (dn 9 z (dz (rn 3 z (ih _ _ hF _ _ io0 io1 io2 io3 qZ hs))))
   refine qL 56 z c_17 (bj hF fun v_18 g_19 hF=>dn 2 z (gu z z (de z (aM (cO (o:=sets) (id:=io2) z) z g_19) (gu z z (de z (uD (s:=jE v_18) z z z) (gu z z (de z (aJ z (h0.g 3 z)) (gu z z (de z (lN (s:=jE x_.Set) z (h0.g 3 z) z z) (gu z z (de z (II z z (wB v_18 x_.Set)) (dn 2 z ?_))))))))))));exact dz (rn 3 z (ih _ _ hF _ _ io0 io1 io2 io3 qZ hs))
  refine rn 2 z (ci hF z (fun c_20 hF=>?_) (fun c_20 hF=>?_))
  ·exact rn 1 z (W.o (aJ z (hs.g 3 z)) (W.o (lN (s:=jE x_.Set) z (hs.g 3 z) z z) (bs (f:=v24) ([x_.Set]:List (an 4 Int)) hs z z z z fun st b_21 hs=>gj hF fun g_22 hF=>ap (ys:=ls (some ([x_.Set]:List (an 4 Int)))) hs 3 z z (eR (cO (o:=(some ([x_.Set]:List (an 4 Int)))) (id:=b_21) z)) g_22 (fun _=>z) fun st b_23 hs=>rn 4 z (ih _ _ hF _ _ io0 io1 b_23 lD (hs.p 5 [1,1,1] z)))))
  exact rn 3 z (ih _ _ hF _ _ io0 io1 io2 lD (hs.p 4 [0,0,0] z))
 | p5 c d t4_ out sets=>
  dsimp only at hF;intro tm st io0 io1 io2 hf hs;refine en hf (lp (rn 4 z (bi hF (fun c_24 hF=>?_) (fun c_24 hF=>?_))))
  ·refine bL 82 z c_24 (gj hF fun g_25 hF=>rn 1 z (W.on z z (W.o (fZ z (hs.g 1 z) z g_25) (bj hF fun v_26 g_27 hF=>W.on z z (W.o (fS z (hs.g 1 z) (LR.comp (LR.whole _ _) (wV (aS .i64) g_27))) (rn 3 z (ci hF z (fun c_28 hF=>?_) (fun c_28 hF=>?_))))))))
   ·exact gj hF fun g_29 hF=>rn 1 z (W.o (fZ z (hs.g 1 z) z g_29) (bj hF fun v_30 g_31 hF=>W.o (fS z (hs.g 1 z) (LR.comp (LR.whole _ _) (wV (aS .i64) g_31))) (rn 4 z (ih _ _ hF _ _ io0 io1 io2 Cw hs))))
   exact rn 3 z (ih _ _ hF _ _ io0 io1 io2 iG hs)
  exact bL 82 z c_24 (rn 6 z (cf z z (rn 3 z (ih _ _ hF _ _ io0 io1 io2 iG hs))))
 | p6 c d same k t4_ out sets=>
  dsimp only at hF;intro tm st io0 io1 io2 hf hs;refine en hf (lp (rn 2 z (W.o (e_len (cO (o:=sets) (id:=io2) z)) (rn 2 z (bi hF (fun c_32 hF=>?_) (fun c_32 hF=>?_))))))
  ·refine bL 100 z c_32 (rn 2 z (ci hF z (fun c_33 hF=>?_) (fun c_33 hF=>?_)))
   ·refine rn 0 z ?_;have h0:=hs;refine qq (dn 3 z (de z (hJ z z (tE _ _ _ (by decide))) (bj hF fun v_34 g_35 hF=>de z (aM (cO (o:=sets) (id:=io2) z) z g_35) (gj hF fun g_36 hF=>bj hF fun v_37 g_38 hF=>de z (pP z z g_36) (de z (aI z (DP.cN (DP.refl _) (kI (aS .u64) g_38))) (dn 1 z (de z (hJ z z (tF _ _ _ (by decide))) (gj hF fun g_39 hF=>de z (hJ z z (tG _ _ _ _ g_39)) (dn 4 z ?_)))))))));refine de z (hJ z z (tE _ _ _ (by decide))) (bj hF fun v_40 g_41 hF=>de z (aM (cO (o:=sets) (id:=io2) z) z g_41) (gj hF fun g_42 hF=>bj hF fun v_43 g_44 hF=>de z (pP z z g_42) (de z (aI z (DP.cN (DP.refl _) (kI (aS .u64) g_44))) (dn 1 z (de z (hJ z z (tF _ _ _ (by decide))) (gj hF fun g_45 hF=>de z (hJ z z (tG _ _ _ _ g_45)) (dn 3 z (dz (rn 3 z ?_)))))))));exact ih _ _ hF _ _ io0 io1 io2 Cw hs
   exact rj 0 1 z (ih _ _ hF _ _ io0 io1 io2 lD hs)
  exact bL 100 z c_32 (rn 2 z (cf z z (rj 0 1 z (ih _ _ hF _ _ io0 io1 io2 lD hs))))
 | p7 c d same t4_ out sets=>
  dsimp only at hF;intro tm st io0 io1 io2 hf hs;refine en hf (rn 1 z (ci hF z (fun c_46 hF=>?_) (fun c_46 hF=>?_)))
  ·refine gj hF fun g_47 hF=>rn 2 z (W.o (fZ z (hs.g 1 z) z g_47) ?_);obtain ⟨y_48,g_49⟩:=Ir out g_47 z;exact sl hs 1 z z (LR.comp (LR.whole _ _) (BB (aS .i64) g_49 d)) ((aS .i64) _) z ((aS .i64) _) ((fL .i64) _) z fun st hs=>rn 3 z (ih _ _ hF _ _ io0 io1 io2 kj hs)
  exact rn 3 z (ih _ _ hF _ _ io0 io1 io2 kj hs)
noncomputable def Vz (p:af) (q_:af):Option (an 256 Int):=(iR (.p1 p q_ 0 (an.rep 256 (0:Int)) (an.rep 256 (0:Int)) none))
theorem d25 (p:af) (q_:af) (r:an 256 Int) (hF:Vz p q_=some r):DFun Tryd.prog gE 25 [nN p,nN q_] (Vs r):=by
 unfold Vz at hF;refine bD k25 z ?_;have hs:SH [] []:=SH.nil;generalize ([]:aA)=st at hs ⊢;refine rn 0 z (W.o (aY (cs:=cE p) z z (bg _)) (W.o (aY (cs:=cE q_) z z (bg _)) (al hs (cs:=qI (an.rep 256 (0:Int))) z fun st b_1 hs=>rn 0 z (al hs (cs:=qI (an.rep 256 (0:Int))) z fun st b_2 hs=>rn 2 z ?_))));have hs:=hs.fX (an 4 Int);exact w25 (.p1 p q_ 0 (an.rep 256 (0:Int)) (an.rep 256 (0:Int)) none) _ hF _ _ b_1 b_2 0 lD (hs.p 3 [2,1,0] z)
def Gx:List bZ:=(qm 99 98).n 93::(qm 100 18).y 99::(qp 101 99 100 kf).n 93::qp 102 93 kt 101::[]
def Gw:List bZ:=qm 75 2::qb 76 .eql 75 (ki 1)::qm 77 76::(qm 78 17).y 77::(qm 79 18).y 77::(q 80 (.xM true 78 79)).y 77::qp 81 77 80 kf::qm 82 81::(qm 83 2).n 82::(qb 84 .eql 83 (ki 2)).n 82::(qm 85 84).n 82::(qm 86 17).y 85::(qp 87 85 86 kf).n 82::(qm 88 87).n 82::(qm 89 18).y 88::(q 90 (.un .not 89)).y 88::(qp 91 88 90 kf).n 82::qp 92 82 kt 91::qm 93 92::(qm 94 2).n 93::(qb 95 .eql 94 (ki 3)).n 93::(qm 96 95).n 93::(qm 97 17).y 96::(qp 98 96 97 kf).n 93::Gx
def EZ:aC:=.o [qa 103 2 16,ql 104 103,qm 6 104,qm 7 kt,qm 8 (ki 0)] .ret
def EY:aC:=.cond 102 EZ .skip
def Ea:aC:=.s (.o [qm 105 19,qb 106 .lss 105 (ki 256)] (.cond 106 .skip (.exit 2))) (.s (.block 3 (.s (.o [qm 109 19,q 110 (.ek 256 1 12 109),ql 111 110,qm 112 19,qb 113 .neq 111 112] (.cond 113 (.exit 3) .skip)) (.s (.draw [] 0 2 [qn 114 3 9,qa 115 0 16,ql 116 115,qm 117 19,q 118 (.Ah .u8 117),qn 120 3 11,qa 121 1 16,ql 122 121,qm 123 19,q 124 (.Ah .u8 123),qa 126 2 16,ql 127 126,qm 128 19,q 129 (.Ah .u8 128),q 130 (.bE 1 1 false [zb] [(0,(1,129))] false),q 131 (.KA 130),q 132 (.jt .add 127 131),q 20 (.alloc [.aP,.aP,(.str [])]),qc 119 29 [114,116,118],qc 125 29 [120,122,124],q 133 (.build [.aP,.aP,(.str [])] [(0,(1,119)),(1,(1,125)),(2,(1,132))])] [qs 3 20 133]) (.o [qn 134 3 20,qc 135 27 [134],qm 21 135] (.o [qa 136 0 20,ql 137 136,qh 138 137,qa 139 1 20,ql 140 139,qh 141 140,qb 142 .add 138 141,qb 143 .gtr 142 (ki 0),qm 144 143,(qm 145 14).y 144,(qm 146 21).y 144,(q 147 (.lookup .none (.bool false) false 145 146)).y 144,(q 148 (.un .not 147)).y 144,qp 149 144 148 kf] (.cond 149 (.o [qm 150 14,qm 151 21,q0 (.cu .none 150 151 kt)] (.ops [qm 152 13,qn 153 3 20,q 154 (.bE 3 1 true [.aP,.aP,(.str [])] [(0,(3,153))] false),q 155 (.app 3 64 152 154),qm 13 155])) .skip)))))) (.ops [qm 107 19,qb 108 .add 107 (ki 1),qm 19 108]))
def vT:aC:=.o [qm 19 (ki 0)] (.block 2 (.loop Ea))
def rO:aC:=.ops [qm 59 15,qb 60 .add 59 (ki 1),qm 15 60]
def oz:aC:=.s (.o [qm 55 15,qm 56 13,qh 57 56,qb 58 .lss 55 57] (.cond 58 .skip (.exit 0))) (.s (.block 1 (.s (.o [qm 61 15,qb 62 .geq 61 (ki 4096)] (.cond 62 (.o [qm 6 (.c (.str [])),qm 7 kf,qm 8 (ki 3)] .ret) .skip)) (.o [qm 63 13,qm 64 15,qi 65 3 63 64,qn 66 3 65,q 16 (.alloc [.aP,.aP,(.str [])]),qs 3 16 66] (.o [qn 67 3 9,qa 68 0 16,ql 69 68,qc 70 28 [67,69],qm 17 70] (.o [qn 71 3 11,qa 72 1 16,ql 73 72,qc 74 28 [71,73],qm 18 74] (.s (.o Gw EY) vT)))))) rO)
def pE:aC:=.o [qm 6 (.c (.str [])),qm 7 kf,qm 8 (ki 0)] .ret
def Rx:aC:=.o [qx 3 9 0,qx 4 9 1,qm 6 (.c (.str [])),qm 7 kf,qm 8 (ki 0)] (.o [qn 23 9 3,qc 24 24 [23],qm 22 24,qe 25 22 0,qe 26 22 1,q 9 (.alloc [zi,zi,.aP]),qs 3 9 25,qm 10 26] (.s (.o [qm 27 10,qb 28 .neq 27 (ki 0)] (.cond 28 (.o [qm 29 10,qm 6 (.c (.str [])),qm 7 kf,qm 8 29] .ret) .skip)) (.o [qn 31 9 4,qc 32 24 [31],qm 30 32,qe 33 30 0,qe 34 30 1,q 11 (.alloc [zi,zi,.aP]),qs 3 11 33,qm 10 34] (.s (.o [qm 35 10,qb 36 .neq 35 (ki 0)] (.cond 36 (.o [qm 37 10,qm 6 (.c (.str [])),qm 7 kf,qm 8 37] .ret) .skip)) (.o [qn 38 3 9,qn 39 3 11,qc 40 25 [38,39],q 12 (.alloc [zi,zi,zi,zi,zi,zi,zi,zi,zi,zi,zi,zi,zi,zi,zi,zi,zi,zi,zi,zi,zi,zi,zi,zi,zi,zi,zi,zi,zi,zi,zi,zi,zi,zi,zi,zi,zi,zi,zi,zi,zi,zi,zi,zi,zi,zi,zi,zi,zi,zi,zi,zi,zi,zi,zi,zi,zi,zi,zi,zi,zi,zi,zi,zi,zi,zi,zi,zi,zi,zi,zi,zi,zi,zi,zi,zi,zi,zi,zi,zi,zi,zi,zi,zi,zi,zi,zi,zi,zi,zi,zi,zi,zi,zi,zi,zi,zi,zi,zi,zi,zi,zi,zi,zi,zi,zi,zi,zi,zi,zi,zi,zi,zi,zi,zi,zi,zi,zi,zi,zi,zi,zi,zi,zi,zi,zi,zi,zi,zi,zi,zi,zi,zi,zi,zi,zi,zi,zi,zi,zi,zi,zi,zi,zi,zi,zi,zi,zi,zi,zi,zi,zi,zi,zi,zi,zi,zi,zi,zi,zi,zi,zi,zi,zi,zi,zi,zi,zi,zi,zi,zi,zi,zi,zi,zi,zi,zi,zi,zi,zi,zi,zi,zi,zi,zi,zi,zi,zi,zi,zi,zi,zi,zi,zi,zi,zi,zi,zi,zi,zi,zi,zi,zi,zi,zi,zi,zi,zi,zi,zi,zi,zi,zi,zi,zi,zi,zi,zi,zi,zi,zi,zi,zi,zi,zi,zi,zi,zi,zi,zi,zi,zi,zi,zi,zi,zi,zi,zi,zi,zi,zi,zi,zi,zi,zi,zi,zi,zi,zi,zi,zi,zi,zi,zi,zi,zi]),qs 256 12 40] (.s (.draw [] 0 3 [qn 41 3 9,q 42 (.bE 1 1 false [zi] [(0,(1,(ki 0)))] true),qn 44 3 11,q 45 (.bE 1 1 false [zi] [(0,(1,(ki 0)))] true),qf 43 (.c (.fn 26 [])) [41,42],qf 46 (.c (.fn 26 [])) [44,45],q 47 (.build [.aP,.aP,(.str [])] [(0,(1,43)),(1,(1,46)),(2,(1,(.c (.str []))))]),q 48 (.bE 3 1 true [.aP,.aP,(.str [])] [(0,(3,47))] false),qm 13 48] []) (.o [q 49 (.fI .none),qm 50 13,qi 51 3 50 (ki 0),qn 52 3 51,qc 53 27 [52],q0 (.cu .none 49 53 kt),qm 54 49,qm 14 54] (.s (.o [qm 15 (ki 0)] (.block 0 (.loop oz))) pE))))))))
def Yn:List RA:=[(.tmp 6),(.tmp 7),(.tmp 8)]
theorem k14:au Tryd.prog (dQ [3,4,43,46,2000042,2000045]) 14=some ⟨156,Rx,Yn⟩:=by kernel_rfl
noncomputable abbrev Tz (r:aZ × Bool × Int):Cx:=cD Tryd.prog gE 156 Yn (AV.bt [AV.str r.1,AV.bool r.2.1,AV.int .i64 r.2.2]) [3,4,43,46,2000042,2000045]
inductive PU where
 | p1 (kind:Int) (i:Int) (p:af) (q_:af) (like:an 256 Int) (found:Sl gY) (seen:Mp aZ Bool)
 | p2 (x_:gY)
 | p3 (kind:Int) (i:Int) (t102_:Bool) (p:af) (q_:af) (like:an 256 Int) (found:Sl gY) (seen:Mp aZ Bool) (x_:gY)
 | p4 (kind:Int) (i:Int) (p:af) (q_:af) (like:an 256 Int) (found:Sl gY) (seen:Mp aZ Bool) (x_:gY)
 | p5 (kind:Int) (i:Int) (c:Int) (p:af) (q_:af) (like:an 256 Int) (found:Sl gY) (seen:Mp aZ Bool) (x_:gY)
noncomputable def gU:PU→Option (aZ × Bool × Int) | .p1 kind i p q_ like found seen=>(if (decide (i<((ls found).length:Int)))=true then (if (decide (i≥4096))=true then (some (([]:aZ),false,3)) else (ix (ls found) i>>=fun v_33=>(MO p v_33.a>>=fun r_36=>(MO q_ v_33.b>>=fun r_38=>(if (kind==1)=true then (if (!(r_36==r_38))=true then (gU (.p2 v_33)) else (if (kind==2)=true then (if r_36=true then (if (!r_38)=true then (gU (.p2 v_33)) else (if (kind==3)=true then (gU (.p3 kind i r_38 p q_ like found seen v_33)) else (gU (.p4 kind i p q_ like found seen v_33)))) else (if (kind==3)=true then (gU (.p4 kind i p q_ like found seen v_33)) else (gU (.p4 kind i p q_ like found seen v_33)))) else (if (kind==3)=true then (if r_36=true then (gU (.p3 kind i r_38 p q_ like found seen v_33)) else (gU (.p4 kind i p q_ like found seen v_33))) else (gU (.p4 kind i p q_ like found seen v_33))))) else (if (kind==2)=true then (if r_36=true then (if (!r_38)=true then (gU (.p2 v_33)) else (if (kind==3)=true then (gU (.p3 kind i r_38 p q_ like found seen v_33)) else (gU (.p4 kind i p q_ like found seen v_33)))) else (if (kind==3)=true then (gU (.p4 kind i p q_ like found seen v_33)) else (gU (.p4 kind i p q_ like found seen v_33)))) else (if (kind==3)=true then (if r_36=true then (gU (.p3 kind i r_38 p q_ like found seen v_33)) else (gU (.p4 kind i p q_ like found seen v_33))) else (gU (.p4 kind i p q_ like found seen v_33))))))))) else (some (([]:aZ),false,0))) | .p2 x_=>(some (x_.s,true,0)) | .p3 kind i t102_ p q_ like found seen x_=>(if t102_=true then (gU (.p2 x_)) else (gU (.p4 kind i p q_ like found seen x_))) | .p4 kind i p q_ like found seen x_=>(gU (.p5 kind i 0 p q_ like found seen x_)) | .p5 kind i c p q_ like found seen x_=>(if (decide (c<256))=true then (if (0:Int)≤c∧c<(256:Int) then (ix like.l c>>=fun v_59=>(if (v_59 != c)=true then (gU (.p5 kind i (IntKind.wrap .i64 (c+1)) p q_ like found seen x_)) else (if (x_.s).length+(cL (ls (some ([IntKind.wrap .u8 c]:List Int)))).length≤9223372036854775807 then (MP p x_.a (IntKind.wrap .u8 c)>>=fun r_68=>(MP q_ x_.b (IntKind.wrap .u8 c)>>=fun r_70=>(Ox ({a:=r_68,b:=r_70,s:=x_.s++(cL (ls (some ([IntKind.wrap .u8 c]:List Int))))}:gY)>>=fun r_72=>(if (decide ((IntKind.wrap .i64 (((ls r_68).length:Int)+((ls r_70).length:Int)))>0))=true then (if (!(Option.getD (Mp.get seen r_72) false))=true then (some (Mp.put seen r_72 true)>>=fun m_77=>(if ((ls found).length+(ls (some ([({a:=r_68,b:=r_70,s:=x_.s++(cL (ls (some ([IntKind.wrap .u8 c]:List Int))))}:gY)]:List gY))).length)*64≤140737488355328 then (gU (.p5 kind i (IntKind.wrap .i64 (c+1)) p q_ like (bW found (ls (some ([({a:=r_68,b:=r_70,s:=x_.s++(cL (ls (some ([IntKind.wrap .u8 c]:List Int))))}:gY)]:List gY)))) m_77 x_)) else none)) else (gU (.p5 kind i (IntKind.wrap .i64 (c+1)) p q_ like found seen x_))) else (gU (.p5 kind i (IntKind.wrap .i64 (c+1)) p q_ like found seen x_)))))) else none))) else none) else (gU (.p1 kind (IntKind.wrap .i64 (i+1)) p q_ like found seen))) partial_fixpoint
def YN (x:PU) (r:aZ × Bool × Int):Prop:=match x with | .p1 kind i p q_ like found seen=> ∀(tm:Fr) (st:aA) (io0:Nat) (io1:Nat) (io2:Nat) (io3:Nat) (io4:Nat),dH tm [(2,AV.int .i64 kind),(9,.ptr io0 0),(11,.ptr io1 0),(12,.ptr io2 0),(13,br 3 KB found io3),(14,.mp io4),(15,AV.int .i64 i)]→SH st [pt io0 (.cells (cE p)),pt io1 (.cells (cE q_)),pt io2 (.cells (qI like)),dK io3 found,pt io4 (.map none (mS AV.bool seen) seen.n)]→W (Tz r) [.lp oz,.blk 0,.code pE] tm st | .p2 x_=> ∀(tm:Fr) (st:aA) (io0:Nat),dH tm [(16,.ptr io0 0)]→SH st [pt io0 (.cells (sI x_))]→W (Tz r) [.code EZ,.code vT,.blk 1,.code rO,.lp oz,.blk 0,.code pE] tm st | .p3 kind i t102_ p q_ like found seen x_=> ∀(tm:Fr) (st:aA) (io0:Nat) (io1:Nat) (io2:Nat) (io3:Nat) (io4:Nat) (io5:Nat),dH tm [(2,AV.int .i64 kind),(9,.ptr io0 0),(11,.ptr io1 0),(12,.ptr io2 0),(13,br 3 KB found io3),(14,.mp io4),(15,AV.int .i64 i),(16,.ptr io5 0),(102,AV.bool t102_)]→SH st [pt io0 (.cells (cE p)),pt io1 (.cells (cE q_)),pt io2 (.cells (qI like)),dK io3 found,pt io4 (.map none (mS AV.bool seen) seen.n),pt io5 (.cells (sI x_))]→W (Tz r) [.code EY,.code vT,.blk 1,.code rO,.lp oz,.blk 0,.code pE] tm st | .p4 kind i p q_ like found seen x_=> ∀(tm:Fr) (st:aA) (io0:Nat) (io1:Nat) (io2:Nat) (io3:Nat) (io4:Nat) (io5:Nat),dH tm [(2,AV.int .i64 kind),(9,.ptr io0 0),(11,.ptr io1 0),(12,.ptr io2 0),(13,br 3 KB found io3),(14,.mp io4),(15,AV.int .i64 i),(16,.ptr io5 0)]→SH st [pt io0 (.cells (cE p)),pt io1 (.cells (cE q_)),pt io2 (.cells (qI like)),dK io3 found,pt io4 (.map none (mS AV.bool seen) seen.n),pt io5 (.cells (sI x_))]→W (Tz r) [.code vT,.blk 1,.code rO,.lp oz,.blk 0,.code pE] tm st | .p5 kind i c p q_ like found seen x_=> ∀(tm:Fr) (st:aA) (io0:Nat) (io1:Nat) (io2:Nat) (io3:Nat) (io4:Nat) (io5:Nat),dH tm [(2,AV.int .i64 kind),(9,.ptr io0 0),(11,.ptr io1 0),(12,.ptr io2 0),(13,br 3 KB found io3),(14,.mp io4),(15,AV.int .i64 i),(16,.ptr io5 0),(19,AV.int .i64 c)]→SH st [pt io0 (.cells (cE p)),pt io1 (.cells (cE q_)),pt io2 (.cells (qI like)),dK io3 found,pt io4 (.map none (mS AV.bool seen) seen.n),pt io5 (.cells (sI x_))]→W (Tz r) [.lp Ea,.blk 2,.blk 1,.code rO,.lp oz,.blk 0,.code pE] tm st
theorem w14: ∀(x:PU) (r:aZ × Bool × Int),gU x=some r→YN x r:=by
 refine gU.partial_correctness (YN) ?_;intro g ih x r hF;cases x with
 | p1 kind i p q_ like found seen=>
  dsimp only at hF;intro tm st io0 io1 io2 io3 io4 hf hs;refine en hf (lp (rn 2 z (W.o (e_len (cO (o:=found) (id:=io3) z)) (rn 1 z (ci hF z (fun c_31 hF=>?_) (fun c_31 hF=>?_))))))
  ·refine rn 2 z (ci hF z (fun c_32 hF=>?_) (fun c_32 hF=>?_))
   ·refine rn 3 z ?_;cases hF;exact rD (ah (ah (ah bG))) z
   refine bj hF fun v_33 g_34 hF=>rn 2 z (W.o (aM (cO (o:=found) (id:=io3) z) z g_34) (W.o (uD (s:=sI v_33) z z z) (al hs (cs:=sI ({a:=none,b:=none,s:=[]}:gY)) z fun st b_35 hs=>sl hs 0 z z (LR.whole _ _) (mM _) z (mM _) (jw _) z fun st hs=>rn 0 z (W.o (lN (s:=cE p) z (hs.g 1 z) z z) (W.o (aJ z (hs.g 0 z)) (W.o (l1 z (hs.g 0 z) z) (bj hF fun r_36 g_37 hF=>df (d28 _ _ _ g_37) z (rn 1 z (W.o (lN (s:=cE q_) z (hs.g 2 z) z z) ?_)))))))));refine W.o (aJ z (hs.g 0 z)) (W.o (l1 z (hs.g 0 z) z) (bj hF fun r_38 g_39 hF=>df (d28 _ _ _ g_39) z (rn 4 z (bi hF (fun c_40 hF=>?_) (fun c_40 hF=>?_)))))
   ·refine bL 77 z c_40 (rn 5 z (bi hF (fun c_41 hF=>?_) (fun c_41 hF=>?_)))
    ·exact bL 82 z c_41 (rn 20 z (ct z z (ih _ _ hF _ _ b_35 Wj (hs.p 6 [0] z))))
    refine bL 82 z c_41 (rn 3 z (bi hF (fun c_42 hF=>?_) (fun c_42 hF=>?_)))
    ·refine bL 85 z c_42 (rn 3 z (bi hF (fun c_43 hF=>?_) (fun c_43 hF=>?_)))
     ·refine bL 88 z c_43 (rn 5 z (bi hF (fun c_44 hF=>?_) (fun c_44 hF=>?_)))
      ·exact bL 93 z c_44 (rn 9 z (ct z z (ih _ _ hF _ _ b_35 Wj (hs.p 6 [0] z))))
      refine bL 93 z c_44 (rn 3 z (bi hF (fun c_45 hF=>?_) (fun c_45 hF=>?_)))
      ·exact bL 96 z c_45 (rn 3 z (bL 99 z c_43 (rj 3 1 z (ih _ _ hF _ _ io0 io1 io2 io3 io4 b_35 qZ (hs.p 6 [1,1,1,1,1,0] z)))))
      exact bL 96 z c_45 (rn 6 z (cf z z (rj 0 1 z (ih _ _ hF _ _ io0 io1 io2 io3 io4 b_35 uV (hs.p 6 [1,1,1,1,1,0] z)))))
     refine bL 88 z c_43 (rn 8 z (bi hF (fun c_46 hF=>?_) (fun c_46 hF=>?_)))
     ·exact bL 96 z c_46 (rn 3 z (bL 99 z c_43 (rn 3 z (cf z z (rj 0 1 z (ih _ _ hF _ _ io0 io1 io2 io3 io4 b_35 uV (hs.p 6 [1,1,1,1,1,0] z)))))))
     exact bL 96 z c_46 (rn 6 z (cf z z (rj 0 1 z (ih _ _ hF _ _ io0 io1 io2 io3 io4 b_35 uV (hs.p 6 [1,1,1,1,1,0] z)))))
    refine bL 85 z c_42 (rn 11 z (bi hF (fun c_47 hF=>?_) (fun c_47 hF=>?_)))
    ·refine bL 96 z c_47 (rn 3 z (bi hF (fun c_48 hF=>?_) (fun c_48 hF=>?_)))
     ·exact bL 99 z c_48 (rj 3 1 z (ih _ _ hF _ _ io0 io1 io2 io3 io4 b_35 qZ (hs.p 6 [1,1,1,1,1,0] z)))
     exact bL 99 z c_48 (rn 3 z (cf z z (rj 0 1 z (ih _ _ hF _ _ io0 io1 io2 io3 io4 b_35 uV (hs.p 6 [1,1,1,1,1,0] z)))))
    exact bL 96 z c_47 (rn 6 z (cf z z (rj 0 1 z (ih _ _ hF _ _ io0 io1 io2 io3 io4 b_35 uV (hs.p 6 [1,1,1,1,1,0] z)))))
   refine bL 77 z c_40 (rn 8 z (bi hF (fun c_49 hF=>?_) (fun c_49 hF=>?_)))
   ·refine bL 85 z c_49 (rn 3 z (bi hF (fun c_50 hF=>?_) (fun c_50 hF=>?_)))
    ·refine bL 88 z c_50 (rn 5 z (bi hF (fun c_51 hF=>?_) (fun c_51 hF=>?_)))
     ·exact bL 93 z c_51 (rn 9 z (ct z z (ih _ _ hF _ _ b_35 Wj (hs.p 6 [0] z))))
     refine bL 93 z c_51 (rn 3 z (bi hF (fun c_52 hF=>?_) (fun c_52 hF=>?_)))
     ·exact bL 96 z c_52 (rn 3 z (bL 99 z c_50 (rj 3 1 z (ih _ _ hF _ _ io0 io1 io2 io3 io4 b_35 qZ (hs.p 6 [1,1,1,1,1,0] z)))))
     exact bL 96 z c_52 (rn 6 z (cf z z (rj 0 1 z (ih _ _ hF _ _ io0 io1 io2 io3 io4 b_35 uV (hs.p 6 [1,1,1,1,1,0] z)))))
    refine bL 88 z c_50 (rn 8 z (bi hF (fun c_53 hF=>?_) (fun c_53 hF=>?_)))
    ·exact bL 96 z c_53 (rn 3 z (bL 99 z c_50 (rn 3 z (cf z z (rj 0 1 z (ih _ _ hF _ _ io0 io1 io2 io3 io4 b_35 uV (hs.p 6 [1,1,1,1,1,0] z)))))))
    exact bL 96 z c_53 (rn 6 z (cf z z (rj 0 1 z (ih _ _ hF _ _ io0 io1 io2 io3 io4 b_35 uV (hs.p 6 [1,1,1,1,1,0] z)))))
   refine bL 85 z c_49 (rn 11 z (bi hF (fun c_54 hF=>?_) (fun c_54 hF=>?_)))
   ·refine bL 96 z c_54 (rn 3 z (bi hF (fun c_55 hF=>?_) (fun c_55 hF=>?_)))
    ·exact bL 99 z c_55 (rj 3 1 z (ih _ _ hF _ _ io0 io1 io2 io3 io4 b_35 qZ (hs.p 6 [1,1,1,1,1,0] z)))
    exact bL 99 z c_55 (rn 3 z (cf z z (rj 0 1 z (ih _ _ hF _ _ io0 io1 io2 io3 io4 b_35 uV (hs.p 6 [1,1,1,1,1,0] z)))))
   exact bL 96 z c_54 (rn 6 z (cf z z (rj 0 1 z (ih _ _ hF _ _ io0 io1 io2 io3 io4 b_35 uV (hs.p 6 [1,1,1,1,1,0] z)))))
  refine rn 3 z ?_;cases hF;exact rD (ah (ah (ah bG))) z
 | p2 x_=>
  dsimp only at hF;intro tm st io0 hf hs;refine en hf (rn 0 z (W.o (aJ z (hs.g 0 z)) (W.o (l1 z (hs.g 0 z) z) (rn 3 z ?_))));cases hF;exact rD (ah (ah (ah bG))) z
 | p3 kind i t102_ p q_ like found seen x_=>
  dsimp only at hF;intro tm st io0 io1 io2 io3 io4 io5 hf hs;refine en hf (ci hF z (fun c_56 hF=>?_) (fun c_56 hF=>?_))
  ·exact ih _ _ hF _ _ io5 Wj (hs.p 6 [5] z)
  exact rj 0 1 z (ih _ _ hF _ _ io0 io1 io2 io3 io4 io5 uV hs)
 | p4 kind i p q_ like found seen x_=>
  dsimp only at hF;intro tm st io0 io1 io2 io3 io4 io5 hf hs;exact en hf (rn 1 z (ih _ _ hF _ _ io0 io1 io2 io3 io4 io5 qZ hs))
 | p5 kind i c p q_ like found seen x_=>
  dsimp only at hF;intro tm st io0 io1 io2 io3 io4 io5 hf hs;refine en hf (lp (rn 2 z (ci hF z (fun c_57 hF=>?_) (fun c_57 hF=>?_))))
  ·refine gj hF fun g_58 hF=>rn 1 z (W.o (fZ z (hs.g 2 z) z g_58) (bj hF fun v_59 g_60 hF=>W.o (fS z (hs.g 2 z) (LR.comp (LR.whole _ _) (wV (aS .i64) g_60))) (rn 2 z (ci hF z (fun c_61 hF=>?_) (fun c_61 hF=>?_)))))
   ·exact rn 3 z (ih _ _ hF _ _ io0 io1 io2 io3 io4 io5 qZ hs)
   refine rn 0 z (Ai hs fun s_62 st h0 hs=>de z (lN (s:=cE p) z (h0.g 0 z) z z) (de z (aJ z (h0.g 5 z)) (de z (l1 z (h0.g 5 z) z) (dn 2 z (de z (lN (s:=cE q_) z (h0.g 1 z) z z) (de z (aJ z (h0.g 5 z)) (de z (l1 z (h0.g 5 z) z) (dn 2 z (de z (aJ z (h0.g 5 z)) (de z (l1 z (h0.g 5 z) z) (dn 2 z (CJ (f:=AV.int .u8) ([IntKind.wrap .u8 c]:List Int) hs 0 z z z z z z fun st hs=>?_))))))))))));refine de z (yD (cO (o:=(some ([IntKind.wrap .u8 c]:List Int))) (id:=(List.length s_62+0)) z)) (gj hF fun g_66 hF=>de z (yF z z (wg _ _ g_66)) (IC hs 1 (cs:=sI ({a:=none,b:=none,s:=[]}:gY)) z z z fun st hs=>bj hF fun r_68 g_69 hF=>xK (d29 _ _ _ _ g_69) z (bj hF fun r_70 g_71 hF=>xK (d29 _ _ _ _ g_71) z (de z (dY (z:=[.aP,.aP,(.str [])]) (cs:=sI ({a:=r_68,b:=r_70,s:=x_.s++(cL (ls (some ([IntKind.wrap .u8 c]:List Int))))}:gY)) (bO (cs:=fF 1 (AV.int .i64) r_68) (v:=cg 1 (AV.int .i64) r_68) z aN (aO _) (by decide) (bO (cs:=fF 1 (AV.int .i64) r_70) (v:=cg 1 (AV.int .i64) r_70) z aN (aO _) (by decide) (bO (cs:=cS (x_.s++(cL (ls (some ([IntKind.wrap .u8 c]:List Int)))))) z z (fo _) (by decide) eV))) (show av (sI ({a:=none,b:=none,s:=[]}:gY)) _=_ from (bf (mY 0 1 (fF 1 (AV.int .i64) r_68) z z) ((aO _).trans (aO _).symm) (bf (mY 1 1 (fF 1 (AV.int .i64) r_70) z z) ((aO _).trans (aO _).symm) (bf (mY 2 1 (cS (x_.s++(cL (ls (some ([IntKind.wrap .u8 c]:List Int)))))) z z) ((fo _).trans (fo _).symm) (fJ _)))))) (dz (sl hs 1 z z (LR.whole _ _) (mM _) z (mM _) (jw _) z fun st hs=>rn 0 z (W.o (lN (s:=sI ({a:=r_68,b:=r_70,s:=x_.s++(cL (ls (some ([IntKind.wrap .u8 c]:List Int))))}:gY)) z (hs.g 1 z) z z) ?_)))))));refine bj hF fun r_72 g_73 hF=>df (d27 _ _ g_73) z (rn 1 z (W.o (aJ z (hs.g 1 z)) (W.o (l1 z (hs.g 1 z) z) (W.o (e_len (bJ z)) (W.o (aJ z (hs.g 1 z)) (W.o (l1 z (hs.g 1 z) z) (W.o (e_len (bJ z)) (rn 3 z (bi hF (fun c_74 hF=>?_) (fun c_74 hF=>?_))))))))))
   ·refine bL 144 z c_74 (rn 2 z (W.on z z (W.o (fN (f:=AV.bool) (z:=false) z (hs.g 6 z) z z) (rn 2 z (ci hF z (fun c_75 hF=>?_) (fun c_75 hF=>?_))))))
    ·obtain ⟨m_77,e_78,hF⟩:=gM hF
     refine rn 2 z (Lf (f:=AV.bool) true hs 6 z z z z z fun st hs=>?_);rw [e_78] at hs;exact rn 1 z (W.o (lN (s:=sI ({a:=r_68,b:=r_70,s:=x_.s++(cL (ls (some ([IntKind.wrap .u8 c]:List Int))))}:gY)) z (hs.g 1 z) z z) (bs (f:=KB) ([({a:=r_68,b:=r_70,s:=x_.s++(cL (ls (some ([IntKind.wrap .u8 c]:List Int))))}:gY)]:List gY) hs z z (by first | (simp [av,cJ,mI,jw];done) | (show List.all (av (cJ _ _) [(0,sI ({a:=r_68,b:=r_70,s:=x_.s++(cL (ls (some ([IntKind.wrap .u8 c]:List Int))))}:gY))]) AV.one=true;simp [av,cJ,jw,mM])) z fun st b_79 hs=>gj hF fun g_80 hF=>ap (ys:=ls (some ([({a:=r_68,b:=r_70,s:=x_.s++(cL (ls (some ([IntKind.wrap .u8 c]:List Int))))}:gY)]:List gY))) hs 6 z z (eR (cO (o:=(some ([({a:=r_68,b:=r_70,s:=x_.s++(cL (ls (some ([IntKind.wrap .u8 c]:List Int))))}:gY)]:List gY))) (id:=b_79) z)) g_80 (fun _=>z) fun st b_81 hs=>rn 4 z (ih _ _ hF _ _ io0 io1 io2 b_81 io4 io5 qZ (hs.p 9 [3,3,3,3,3,3] z))))
    exact rn 3 z (ih _ _ hF _ _ io0 io1 io2 io3 io4 io5 qZ (hs.p 8 [2,2,2,2,2,2] z))
   exact bL 144 z c_74 (rn 5 z (cf z z (rn 3 z (ih _ _ hF _ _ io0 io1 io2 io3 io4 io5 qZ (hs.p 8 [2,2,2,2,2,2] z)))))
  exact rn 3 z (ih _ _ hF _ _ io0 io1 io2 io3 io4 Cw (hs.p 6 [0,0,0,0,0] z))
noncomputable def Gl (a:aK) (b:aK) (kind:Int):Option (aZ × Bool × Int):=(Re a>>=fun r_1=>(if (r_1.2 != 0)=true then (some (([]:aZ),false,r_1.2)) else (Re b>>=fun r_5=>(if (r_5.2 != 0)=true then (some (([]:aZ),false,r_5.2)) else (Vz r_1.1 r_5.1>>=fun r_9=>(Ju r_1.1 (some ([0]:List Int))>>=fun r_18=>(Ju r_5.1 (some ([0]:List Int))>>=fun r_20=>(ix (ls (some ([({a:=r_18,b:=r_20,s:=([]:aZ)}:gY)]:List gY))) 0>>=fun v_24=>(Ox v_24>>=fun r_26=>(some (Mp.put (Mp.empty:Mp aZ Bool) r_26 true)>>=fun m_29=>(gU (.p1 kind 0 r_1.1 r_5.1 r_9 (some ([({a:=r_18,b:=r_20,s:=([]:aZ)}:gY)]:List gY)) m_29))))))))))))
theorem d14 (a:aK) (b:aK) (kind:Int) (r:aZ × Bool × Int) (hF:Gl a b kind=some r):DFun Tryd.prog gE 14 [dL a,dL b,AV.int .i64 kind] (AV.bt [AV.str r.1,AV.bool r.2.1,AV.int .i64 r.2.2]):=by
 unfold Gl at hF;refine bD k14 z ?_;have hs:SH [] []:=SH.nil;generalize ([]:aA)=st at hs ⊢;refine rn 0 z (W.o (aY (cs:=bn a) z (by rw [aF];rfl) (aX _)) (W.o (aY (cs:=bn b) z (by rw [aF];rfl) (aX _)) (rn 3 z (W.o (aL z (DP.refl _) (aF _)) (bj hF fun r_1 g_2 hF=>df (d24 a _ g_2) z (rn 3 z (al hs (cs:=cE ({bH:=0,bX:=0,Code:=none}:af)) z fun st b_3 hs=>sl hs 0 z z (LR.whole _ _) (bC _) z (bC _) (bg _) z fun st hs=>rn 3 z (ci hF z (fun c_4 hF=>?_) (fun c_4 hF=>?_)))))))))
 ·refine rn 4 z ?_;cases hF;exact rD (ah (ah (ah bG))) z
 refine rn 0 z (W.o (aL z (DP.refl _) (aF _)) (bj hF fun r_5 g_6 hF=>df (d24 b _ g_6) z (rn 3 z (al hs (cs:=cE ({bH:=0,bX:=0,Code:=none}:af)) z fun st b_7 hs=>sl hs 0 z z (LR.whole _ _) (bC _) z (bC _) (bg _) z fun st hs=>rn 3 z (ci hF z (fun c_8 hF=>?_) (fun c_8 hF=>?_))))))
 ·refine rn 4 z ?_;cases hF;exact rD (ah (ah (ah bG))) z
 refine rn 0 z (W.o (lN (s:=cE r_1.1) z (hs.g 1 z) z z) (W.o (lN (s:=cE r_5.1) z (hs.g 0 z) z z) (bj hF fun r_9 g_10 hF=>df (d25 _ _ _ g_10) z (al hs (cs:=qI (an.rep 256 (0:Int))) z fun st b_11 hs=>sl hs 0 z z (LR.whole _ _) (mL _) z (mL _) (CC _) z fun st hs=>rn 0 z (Ai hs fun s_12 st h0 hs=>de z (lN (s:=cE r_1.1) z (h0.g 2 z) z z) (Zj (c:=cI .i64) ([0]:List Int) hs 0 z z z z z fun st hs=>de z (lN (s:=cE r_5.1) z (h0.g 1 z) z z) (Zj (c:=cI .i64) ([0]:List Int) hs 1 z z z z z fun st hs=>bj hF fun r_18 g_19 hF=>?_)))))));refine Ud 42 (A:=[nN r_1.1]) (B:=[]) (es:=1) (c:=cI .i64) (m:=([0]:List Int)) (Hr .i64) hs 0 (by kernel_rfl) (d26 _ _ _ g_19) (.tail _ (.head _)) z z (Nat.le_add_right _ _) z fun st hs=>bj hF fun r_20 g_21 hF=>Ud 45 (A:=[nN r_5.1]) (B:=[]) (es:=1) (c:=cI .i64) (m:=([0]:List Int)) (Hr .i64) hs 0 (by kernel_rfl) (d26 _ _ _ g_21) (.tail _ (.head _)) z z (Nat.le_add_right _ _) z fun st hs=>de z (dY (z:=[.aP,.aP,(.str [])]) (cs:=sI ({a:=r_18,b:=r_20,s:=([]:aZ)}:gY)) (bO (cs:=fF 1 (AV.int .i64) r_18) (v:=cg 1 (AV.int .i64) r_18) z aN (aO _) (by decide) (bO (cs:=fF 1 (AV.int .i64) r_20) (v:=cg 1 (AV.int .i64) r_20) z aN (aO _) (by decide) (bO (cs:=cS ([]:aZ)) z z (fo _) (by decide) eV))) (show av (sI ({a:=none,b:=none,s:=[]}:gY)) _=_ from (bf (mY 0 1 (fF 1 (AV.int .i64) r_18) z z) ((aO _).trans (aO _).symm) (bf (mY 1 1 (fF 1 (AV.int .i64) r_20) z z) ((aO _).trans (aO _).symm) (bf (mY 2 1 (cS ([]:aZ)) z z) ((fo _).trans (fo _).symm) (fJ _)))))) (CJ (f:=KB) ([({a:=r_18,b:=r_20,s:=([]:aZ)}:gY)]:List gY) hs 0 z z (by first | (simp [av,cJ,mI,jw];done) | (show List.all (av (cJ _ _) [(0,sI ({a:=r_18,b:=r_20,s:=([]:aZ)}:gY))]) AV.one=true;simp [av,cJ,jw,mM])) z z z fun st hs=>?_);refine dn 1 z (dz (rn 0 z (Vb AV.bool hs fun st b_23 hs=>bj hF fun v_24 g_25 hF=>rn 1 z (W.o (aM (cO (o:=(some ([({a:=r_18,b:=r_20,s:=([]:aZ)}:gY)]:List gY))) (id:=(List.length s_12+2)) z) z g_25) (W.o (uD (s:=sI v_24) z z z) (bj hF fun r_26 g_27 hF=>df (d27 _ _ g_27) z ?_))))));obtain ⟨m_29,e_30,hF⟩:=gM hF;refine Lf (f:=AV.bool) true hs 0 z z z z z fun st hs=>?_;rw [e_30] at hs;exact rn 3 z (w14 (.p1 kind 0 r_1.1 r_5.1 r_9 (some ([({a:=r_18,b:=r_20,s:=([]:aZ)}:gY)]:List gY)) m_29) _ hF _ _ b_3 b_7 b_11 (List.length s_12+2) b_23 Cw (hs.p 5 [4,3,2,1,0] z))
def MB:aC:=.cond 42 (.o [qm 4 kf] .ret) .skip
def MD:aC:=.cond 74 (.o [qm 4 kf] .ret) .skip
def Si:aC:=.cond 101 (.o [qm 4 kf] .ret) .skip
def Sj:aC:=.o [qn 109 9 2,qn 110 9 2,qc 111 14 [109,110,(ki 3)],qm 108 111,qe 112 108 0,qe 113 108 1,qe 114 108 2,qm 8 112,qm 9 113,qm 10 114] (.o [qm 115 5,qm 116 9,q 117 (.xM false 115 116),qm 118 117,(qm 119 6).y 118,(qm 120 8).y 118,(q 121 (.jt .eql 119 120)).y 118,qp 122 118 121 kf,qm 123 122,(qm 124 7).y 123,(qm 125 10).y 123,(qb 126 .eql 124 125).y 123,qp 127 123 126 kf,qm 128 127,(qc 129 7 []).y 128,qp 130 128 129 kf,qm 4 130] .ret)
def ME:aC:=.o [qn 76 9 2,qn 77 9 3,qc 78 16 [76,77],qm 75 78,qe 79 75 0,qe 80 75 1,qe 81 75 2,qm 6 79,qm 5 80,qm 7 81] (.o [qn 83 9 2,qn 84 9 3,qc 85 14 [83,84,(ki 3)],qm 82 85,qe 86 82 0,qe 87 82 1,qe 88 82 2,qm 8 86,qm 9 87,qm 10 88] (.s (.o [qm 89 5,qm 90 9,q 91 (.xM true 89 90),qm 92 91,(qm 93 6).n 92,(qm 94 8).n 92,(q 95 (.jt .neq 93 94)).n 92,qp 96 92 kt 95,qm 97 96,(qm 98 7).n 97,(qm 99 10).n 97,(qb 100 .neq 98 99).n 97,qp 101 97 kt 100] Si) (.o [qn 103 9 2,qc 104 17 [103],qm 102 104,qe 105 102 0,qe 106 102 1,qe 107 102 2,qm 6 105,qm 5 106,qm 7 107] Sj)))
def MC:aC:=.o [qn 44 9 2,qn 45 9 3,qc 46 15 [44,45],qm 43 46,qe 47 43 0,qe 48 43 1,qe 49 43 2,qm 5 47,qm 6 48,qm 7 49] (.o [qn 51 9 2,qn 52 9 3,qc 53 14 [51,52,(ki 2)],qm 50 53,qe 54 50 0,qe 55 50 1,qe 56 50 2,qm 8 54,qm 9 55,qm 10 56] (.s (.o [qm 57 5,qm 58 10,qb 59 .eql 58 (ki 0),qm 60 59,(qm 61 9).y 60,(q 62 (.un .not 61)).y 60,qp 63 60 62 kf,q 64 (.xM true 57 63),qm 65 64,(qm 66 6).n 65,(qm 67 8).n 65,(q 68 (.jt .neq 66 67)).n 65,qp 69 65 kt 68,qm 70 69,(qm 71 7).n 70,(qm 72 10).n 70,(qb 73 .neq 71 72).n 70,qp 74 70 kt 73] MD) ME))
def Wl:aC:=.o [qx 2 9 0,qx 3 9 1,qm 4 kf] (.o [qn 12 9 2,qn 13 9 3,qc 14 13 [12,13],qm 11 14,qe 15 11 0,qe 16 11 1,qe 17 11 2,qm 5 15,qm 6 16,qm 7 17] (.o [qn 19 9 2,qn 20 9 3,qc 21 14 [19,20,(ki 1)],qm 18 21,qe 22 18 0,qe 23 18 1,qe 24 18 2,qm 8 22,qm 9 23,qm 10 24] (.s (.o [qm 25 5,qm 26 10,qb 27 .eql 26 (ki 0),qm 28 27,(qm 29 9).y 28,(q 30 (.un .not 29)).y 28,qp 31 28 30 kf,q 32 (.xM true 25 31),qm 33 32,(qm 34 6).n 33,(qm 35 8).n 33,(q 36 (.jt .neq 34 35)).n 33,qp 37 33 kt 36,qm 38 37,(qm 39 7).n 38,(qm 40 10).n 38,(qb 41 .neq 39 40).n 38,qp 42 38 kt 41] MB) MC)))
def R4:List RA:=[(.tmp 4)]
theorem k4:au Tryd.prog (dQ [2,3]) 4=some ⟨131,Wl,R4⟩:=by kernel_rfl
noncomputable abbrev X4 (r:Bool):Cx:=cD Tryd.prog gE 131 R4 (AV.bool r) [2,3]
inductive XN where
 | p1 (a:aK) (b:aK) (t42_:Bool)
 | p2 (a:aK) (b:aK) (t74_:Bool)
noncomputable def G4:XN→Option Bool | .p1 a b t42_=>(if t42_=true then (some false) else (Te a b>>=fun r_11=>(Gl a b 2>>=fun r_13=>(if (r_13.2.2==0)=true then (if (!(r_11.1==(!r_13.2.1)))=true then (some false) else (if (!(r_11.2.1==r_13.1))=true then (some false) else (G4 (.p2 a b (r_11.2.2 != r_13.2.2))))) else (if (!(r_11.1==false))=true then (some false) else (if (!(r_11.2.1==r_13.1))=true then (some false) else (G4 (.p2 a b (r_11.2.2 != r_13.2.2))))))))) | .p2 a b t74_=>(if t74_=true then (some false) else (KN a b>>=fun r_21=>(Gl a b 3>>=fun r_23=>(if (!(r_21.2.1==r_23.2.1))=true then (some false) else (if (!(r_21.1==r_23.1))=true then (some false) else (if (r_21.2.2 != r_23.2.2)=true then (some false) else (MN a>>=fun r_28=>(Gl a a 3>>=fun r_30=>(if (r_28.2.1==r_30.2.1)=true then (if (r_28.1==r_30.1)=true then (if (r_28.2.2==r_30.2.2)=true then (F7>>=fun r_35=>(some r_35)) else (some false)) else (some false)) else (some false)))))))))) partial_fixpoint
def M4 (x:XN) (r:Bool):Prop:=match x with | .p1 a b t42_=> ∀(tm:Fr) (st:aA),dH tm [(2,.aQ (bn a)),(3,.aQ (bn b)),(42,AV.bool t42_)]→SH st []→W (X4 r) [.code MB,.code MC] tm st | .p2 a b t74_=> ∀(tm:Fr) (st:aA),dH tm [(2,.aQ (bn a)),(3,.aQ (bn b)),(74,AV.bool t74_)]→SH st []→W (X4 r) [.code MD,.code ME] tm st
theorem w4: ∀(x:XN) (r:Bool),G4 x=some r→M4 x r:=by
 refine G4.partial_correctness (M4) ?_;intro g ih x r hF;cases x with
 | p1 a b t42_=>
  dsimp only at hF;intro tm st hf hs;refine en hf (ci hF z (fun c_10 hF=>?_) (fun c_10 hF=>?_))
  ·refine rn 1 z ?_;cases hF;exact rD (ah bG) z
  refine rn 0 z (W.o (aL z (DP.refl _) (aF _)) (W.o (aL z (DP.refl _) (aF _)) (bj hF fun r_11 g_12 hF=>df (d15 a b _ g_12) z (rn 7 z (W.o (aL z (DP.refl _) (aF _)) (W.o (aL z (DP.refl _) (aF _)) (bj hF fun r_13 g_14 hF=>df (d14 a b 2 _ g_14) z (rn 11 z (bi hF (fun c_15 hF=>?_) (fun c_15 hF=>?_))))))))))
  ·refine bL 60 z c_15 (rn 5 z (bi hF (fun c_16 hF=>?_) (fun c_16 hF=>?_)))
   ·refine bL 65 z c_16 (rn 9 z (ct z z (rn 1 z ?_)));cases hF;exact rD (ah bG) z
   refine bL 65 z c_16 (rn 5 z (bi hF (fun c_17 hF=>?_) (fun c_17 hF=>?_)))
   ·refine bL 70 z c_17 (rn 4 z (ct z z (rn 1 z ?_)));cases hF;exact rD (ah bG) z
   exact bL 70 z c_17 (rj 4 1 z (ih _ _ hF _ _ hG hs))
  refine bL 60 z c_15 (rn 5 z (bi hF (fun c_18 hF=>?_) (fun c_18 hF=>?_)))
  ·refine bL 65 z c_18 (rn 9 z (ct z z (rn 1 z ?_)));cases hF;exact rD (ah bG) z
  refine bL 65 z c_18 (rn 5 z (bi hF (fun c_19 hF=>?_) (fun c_19 hF=>?_)))
  ·refine bL 70 z c_19 (rn 4 z (ct z z (rn 1 z ?_)));cases hF;exact rD (ah bG) z
  exact bL 70 z c_19 (rj 4 1 z (ih _ _ hF _ _ hG hs))
 | p2 a b t74_=>
  dsimp only at hF;intro tm st hf hs;refine en hf (ci hF z (fun c_20 hF=>?_) (fun c_20 hF=>?_))
  ·refine rn 1 z ?_;cases hF;exact rD (ah bG) z
  refine rn 0 z (W.o (aL z (DP.refl _) (aF _)) (W.o (aL z (DP.refl _) (aF _)) (bj hF fun r_21 g_22 hF=>df (d16 a b _ g_22) z (rn 7 z (W.o (aL z (DP.refl _) (aF _)) (W.o (aL z (DP.refl _) (aF _)) (bj hF fun r_23 g_24 hF=>df (d14 a b 3 _ g_24) z (rn 11 z (bi hF (fun c_25 hF=>?_) (fun c_25 hF=>?_))))))))))
  ·refine bL 92 z c_25 (rn 9 z (ct z z (rn 1 z ?_)));cases hF;exact rD (ah bG) z
  refine bL 92 z c_25 (rn 5 z (bi hF (fun c_26 hF=>?_) (fun c_26 hF=>?_)))
  ·refine bL 97 z c_26 (rn 4 z (ct z z (rn 1 z ?_)));cases hF;exact rD (ah bG) z
  refine bL 97 z c_26 (rn 4 z (ci hF z (fun c_27 hF=>?_) (fun c_27 hF=>?_)))
  ·refine rn 1 z ?_;cases hF;exact rD (ah bG) z
  refine rn 0 z (W.o (aL z (DP.refl _) (aF _)) (bj hF fun r_28 g_29 hF=>df (d17 a _ g_29) z (rn 7 z (W.o (aL z (DP.refl _) (aF _)) (W.o (aL z (DP.refl _) (aF _)) (bj hF fun r_30 g_31 hF=>df (d14 a a 3 _ g_31) z (rn 11 z (bi hF (fun c_32 hF=>?_) (fun c_32 hF=>?_)))))))))
  ·refine bL 118 z c_32 (rn 5 z (bi hF (fun c_33 hF=>?_) (fun c_33 hF=>?_)))
   ·refine bL 123 z c_33 (rn 5 z (bi hF (fun c_34 hF=>?_) (fun c_34 hF=>?_)))
    ·refine bL 128 z c_34 (bj hF fun r_35 g_36 hF=>W.on z z (df (d7 _ g_36) z (rn 2 z ?_)));cases hF;exact rD (ah bG) z
    refine bL 128 z c_34 (rn 3 z ?_);cases hF;exact rD (ah bG) z
   refine bL 123 z c_33 (rn 8 z ?_);cases hF;exact rD (ah bG) z
  refine bL 118 z c_32 (rn 13 z ?_);cases hF;exact rD (ah bG) z
noncomputable def F4 (a:aK) (b:aK):Option Bool:=(KM a b>>=fun r_1=>(Gl a b 1>>=fun r_3=>(if (r_3.2.2==0)=true then (if (!(r_1.1==(!r_3.2.1)))=true then (some false) else (if (!(r_1.2.1==r_3.1))=true then (some false) else (G4 (.p1 a b (r_1.2.2 != r_3.2.2))))) else (if (!(r_1.1==false))=true then (some false) else (if (!(r_1.2.1==r_3.1))=true then (some false) else (G4 (.p1 a b (r_1.2.2 != r_3.2.2))))))))
theorem d4 (a:aK) (b:aK) (r:Bool) (hF:F4 a b=some r):DFun Tryd.prog gE 4 [dL a,dL b] (AV.bool r):=by
 unfold F4 at hF;refine bD k4 z ?_;have hs:SH [] []:=SH.nil;generalize ([]:aA)=st at hs ⊢;refine rn 0 z (W.o (aY (cs:=bn a) z (by rw [aF];rfl) (aX _)) (W.o (aY (cs:=bn b) z (by rw [aF];rfl) (aX _)) (rn 1 z (W.o (aL z (DP.refl _) (aF _)) (W.o (aL z (DP.refl _) (aF _)) (bj hF fun r_1 g_2 hF=>df (d13 a b _ g_2) z (rn 7 z (W.o (aL z (DP.refl _) (aF _)) (W.o (aL z (DP.refl _) (aF _)) (bj hF fun r_3 g_4 hF=>df (d14 a b 1 _ g_4) z (rn 11 z ?_)))))))))));refine bi hF (fun c_5 hF=>?_) (fun c_5 hF=>?_)
 ·refine bL 28 z c_5 (rn 5 z (bi hF (fun c_6 hF=>?_) (fun c_6 hF=>?_)))
  ·refine bL 33 z c_6 (rn 9 z (ct z z (rn 1 z ?_)));cases hF;exact rD (ah bG) z
  refine bL 33 z c_6 (rn 5 z (bi hF (fun c_7 hF=>?_) (fun c_7 hF=>?_)))
  ·refine bL 38 z c_7 (rn 4 z (ct z z (rn 1 z ?_)));cases hF;exact rD (ah bG) z
  exact bL 38 z c_7 (rj 4 1 z (w4 (.p1 a b (r_1.2.2 != r_3.2.2)) _ hF _ _ hG hs))
 refine bL 28 z c_5 (rn 5 z (bi hF (fun c_8 hF=>?_) (fun c_8 hF=>?_)))
 ·refine bL 33 z c_8 (rn 9 z (ct z z (rn 1 z ?_)));cases hF;exact rD (ah bG) z
 refine bL 33 z c_8 (rn 5 z (bi hF (fun c_9 hF=>?_) (fun c_9 hF=>?_)))
 ·refine bL 38 z c_9 (rn 4 z (ct z z (rn 1 z ?_)));cases hF;exact rD (ah bG) z
 exact bL 38 z c_9 (rj 4 1 z (w4 (.p1 a b (r_1.2.2 != r_3.2.2)) _ hF _ _ hG hs))
end Go.Proofs.YtcidnoghoifmmaaDoor
end
section
namespace Go.Proofs.YtcidnoghoifmmaaDoor
open Go AW
theorem sm {α β :Type} (a: α) (f: α →Option β):(some a>>=f)=f a:=rfl
theorem WZ {α :Type} {b:Bool} {x y: α} (h:b=false):(if b=true then x else y)=y:=by rw [h];rfl
theorem dti {p:Prop} [Decidable p] {α :Type} {x y: α} (h:p):(if decide p=true then x else y)=x:=by simp [h]
theorem eU {p:Prop} [Decidable p] {α :Type} {x y: α} (h: ¬p):(if decide p=true then x else y)=y:=by simp [h]
theorem gf {a b:Int} {α :Type} {x y: α} (h:a=b):(if (a==b)=true then x else y)=x:=by simp [h]
theorem gR {a b:Int} {α :Type} {x y: α} (h:a≠b):(if (a==b)=true then x else y)=y:=by simp [h]
theorem BI {a b:Int} {α :Type} {x y: α} (h:a≠b):(if (a != b)=true then x else y)=x:=by simp [h]
theorem zU {a b:Int} {α :Type} {x y: α} (h:a=b):(if (a != b)=true then x else y)=y:=by simp [h]
theorem wi (x:Int) (h: -9223372036854775808≤x) (h':x≤9223372036854775807):IntKind.wrap .i64 x=x:=by
 simp only [IntKind.wrap,IntKind.bits,IntKind.signed,Bool.true_and,decide_eq_true_eq,ge_iff_le]
 have e:(2:Int) ^ 64=18446744073709551616:=by decide
 have e':(2:Int) ^ (64-1)=9223372036854775808:=by decide
 first
  | (split<;>omega)
  | (simp only [e,e'];split<;>omega)
theorem eo (n:Nat) (h:n<9223372036854775807):IntKind.wrap .i64 ((n:Int)+1)=((n+1:Nat):Int):=by rw [wi _ (by omega) (by omega)];omega
theorem Cu (n:Nat) (h:1≤n) (h':n<9223372036854775807):IntKind.wrap .i64 ((n:Int)-1)=((n-1:Nat):Int):=by rw [wi _ (by omega) (by omega)];omega
theorem ixs {α :Type} {l:List α} {i:Nat} {c: α} (h:l[i]? =some c):ix l (i:Int)=some c:=by rw [RB];exact h
theorem bQ {α :Type} (l:List α) {i:Nat} (h:i<l.length): ∃c,l[i]? =some c:=⟨l[i],by simp [h]⟩
theorem drop_cons {α :Type} {l:List α} {i:Nat} {c: α} (h:l[i]? =some c):l.drop i=c::l.drop (i+1):=by
 have hi:i<l.length:=by rw [List.getElem?_eq_some_iff] at h;exact h.1
 rw [List.drop_eq_getElem_cons hi]
 congr 1
 rw [List.getElem?_eq_some_iff] at h
 exact h.2
theorem EK {α :Type} {l:List α} {i:Nat} {c: α} (h:l[i]? =some c):l.take (i+1)=l.take i++[c]:=by
 rw [List.take_add_one,h];rfl
theorem mj {α :Type} {l:List α} {i:Nat} {c: α} (h:l[i]? =some c):i<l.length:=by rw [List.getElem?_eq_some_iff] at h;exact h.1
def so {α :Type}:List α →Sl α
 | []=>none
 | x::l=>some (x::l)
theorem bq {α :Type} (l:List α):ls (so l)=l:=by cases l<;>rfl
theorem eC {α :Type} (l m:List α):bW (so l) m=so (l++m):=by
 cases l with
 | nil=>cases m<;>rfl
 | cons x l=>rfl
end Go.Proofs.YtcidnoghoifmmaaDoor
end
section
namespace Go.Proofs.YtcidnoghoifmmaaDoor
open Go AW
set_option maxHeartbeats 4000000
mutual
def cnt:aK→Nat
 | ⟨_,_,_,_,_,o⟩=>Xf o+1
def Xf:Option (List aK)→Nat
 | none=>0
 | some l=>fM l
def fM:List aK→Nat
 | []=>0
 | x::l=>cnt x+fM l
end
theorem eI (n:aK):cnt n=fM (ls n.Kids)+1:=by
 obtain ⟨_,_,_,_,_,o⟩:=n
 rw [cnt]
 cases o with
 | none=>rfl
 | some l=>rfl
theorem CH: ∀ {l:List aK} {k:aK},k∈l→cnt k≤fM l
  | [],k,h=>by simp at h
  | x::l,k,h=>by
    rw [fM]
    rcases List.mem_cons.1 h with rfl | h
    · omega
    have:=CH h;omega
theorem eW {n k:aK} (h:k∈ls n.Kids):cnt k<cnt n:=by
 have:=CH h
 rw [eI n];omega
theorem jz (n:aK):1≤cnt n:=by rw [eI];omega
theorem dV: ∀l:List aK,l.length≤fM l
 | []=>by simp
 | x::l=>by have:=dV l;have:=jz x;rw [fM,List.length_cons];omega
theorem cW {P:aK→Prop} (h: ∀n,(∀k∈ls n.Kids,P k)→P n): ∀n,P n:=by
 have key: ∀(m:Nat) (n:aK),cnt n≤m→P n:=by
  intro m
  induction m with
  | zero=>intro n hn;have:=jz n;omega
  | succ m ih=>exact fun n hn=>h n fun k hk=>ih k (by have:=eW hk;omega)
 exact fun n=>key _ n (Nat.le_refl _)
theorem gd {l:List aK} {i:Nat} {k:aK} (h:l[i]? =some k):fM (l.drop i)=cnt k+fM (l.drop (i+1)):=by rw [drop_cons h,fM]
abbrev Cz:=Int × Int × Nat
def sL (t:Int) (c m:Nat):Bool × Cz:=if c+m≤8192 then (true,(t,((c+m:Nat):Int),0)) else (false,(3,8193,1))
theorem b12 (a b x:aK) (t:Int) (c:Nat) (hc:c≤8192):kY a b x (t,(c:Int),0)=some (sL t c 1):=by
 unfold kY sL
 simp only
 rw [if_pos trivial,eo c (by omega)]
 by_cases h:c+1≤8192
 ·rw [eU (by omega),if_pos h]
 have:c=8192:=by omega
 subst this
 rw [dti (by omega),if_neg (by omega)];rfl
theorem Mt (a b:aK) (n:aK) (hn: ∀k∈ls n.Kids,∀(t:Int) (c:Nat),c≤8192→mc (kY a b) (.e k (t,(c:Int),0))=some (sL t c (cnt k))) (t:Int):
    ∀(m i c:Nat),m+i=(ls n.Kids).length→i≤c→c≤8192→mc (kY a b) (.p1 n ((ls n.Kids).length:Int) (i:Int) (t,(c:Int),0))=some (sL t c (fM ((ls n.Kids).drop i)))
  | 0,i,c,h,hi,hc=>by
    rw [mc.eq_2,eU (by omega),List.drop_of_length_le (by omega),sL,fM,if_pos (by omega),Nat.add_zero]
  | m+1,i,c,h,hi,hc=>by
    obtain ⟨k,hk⟩:=bQ (ls n.Kids) (i:=i) (by omega)
    have hp:=jz k
    rw [mc.eq_2,dti (by omega),ixs hk,sm,hn k (List.mem_of_getElem? hk) t c hc,sm,gd hk]
    unfold sL
    by_cases h1:c+cnt k≤8192
    · rw [if_pos h1]
      simp only [Bool.not_true,Bool.false_eq_true,if_false]
      rw [eo i (by omega),Mt a b n hn t m (i+1) (c+cnt k) (by omega) (by omega) h1]
      unfold sL
      rw [Nat.add_assoc]
    rw [if_neg h1,if_neg (show ¬c+(cnt k+fM ((ls n.Kids).drop (i+1)))≤8192 by omega)];rfl
theorem g41 (a b:aK): ∀(n:aK) (t:Int) (c:Nat),c≤8192→mc (kY a b) (.e n (t,(c:Int),0))=some (sL t c (cnt n)):=by
  intro n
  induction n using cW with
  | h n ih=>
    intro t c hc
    rw [mc.eq_1,b12 a b n t c hc,sm,eI]
    unfold sL
    by_cases h1:c+1≤8192
    · rw [if_pos h1]
      simp only [Bool.not_true,Bool.false_eq_true,if_false]
      have:=Mt a b n ih t (ls n.Kids).length 0 (c+1) (by omega) (by omega) h1
      have this':mc (kY a b) (.p1 n ((ls n.Kids).length:Int) 0 (t,((c+1:Nat):Int),0))=_:=this
      rw [this',List.drop_zero]
      unfold sL
      rw [Nat.add_assoc,Nat.add_comm 1]
    rw [if_neg h1,if_neg (show ¬c+(fM (ls n.Kids)+1)≤8192 by omega)];rfl
theorem f40 (a b n:aK) (t:Int):KS (kY a b) n (t,0,0)=some (if cnt n≤8192 then (t,(cnt n:Int),0) else (3,8193,1)):=by
 unfold KS Tk
 have:=g41 a b n t 0 (by omega)
 have this':mc (kY a b) (.e n (t,0,0))=_:=this
 rw [this',sm]
 unfold sL
 rw [Nat.zero_add]
 split<;>rfl
def pl (n:aK):Bool:=
  (if n.Kind=3∨n.Kind=4 then decide (2≤(ls n.Kids).length)
   else if n.Kind=5 then decide (0≤n.Min∧n.Min≤255∧(n.Max= -1∨n.Min≤n.Max∧n.Max≤255))&&decide ((ls n.Kids).length=1)
   else if n.Kind=6 then decide ((ls n.Kids).length=1)
   else if n.Kind=1∨n.Kind=2∨n.Kind=7∨n.Kind=8∨n.Kind=9 then decide ((ls n.Kids).length=0) else false)&&
  (decide (n.Kind=2)||decide (n.Set=an.rep 4 0))&&(decide (n.Kind=5)||decide (n.Min=0∧n.Max=0))&&(decide (n.Kind=6)||decide (n.Kind=7)||decide (n.aH=0))
theorem g31 (n:aK) (k w:Int):Bn (.p1 n k w)=some (decide (k=w)&&(decide (n.Kind=2)||decide (n.Set=an.rep 4 0))&&(decide (n.Kind=5)||decide (n.Min=0∧n.Max=0))&&(decide (n.Kind=6)||decide (n.Kind=7)||decide (n.aH=0))):=by
 have e: ∀a b:Int,(a==b)=decide (a=b):=fun a b=>by rw [Bool.eq_iff_iff];simp
 rw [Bn.eq_1]
 simp only [e]
 by_cases h1:k=w<;>by_cases h2:n.Kind=2<;>by_cases h3:n.Set=an.rep 4 0<;>by_cases h4:n.Kind=5<;>by_cases h5:n.Min=0<;>by_cases h6:n.Max=0<;>by_cases h7:n.Kind=6<;>by_cases h8:n.Kind=7<;>simp [h1,h2,h3,h4,h5,h6,h7,h8]<;>omega
theorem JK (k:Int):k=1∨k=2∨k=3∨k=4∨k=5∨k=6∨k=7∨k=8∨k=9∨(k≠1∧k≠2∧k≠3∧k≠4∧k≠5∧k≠6∧k≠7∧k≠8∧k≠9):=by omega
theorem f31 (n:aK):Tj n=some (pl n):=by
 unfold Tj pl
 simp only [g31]
 have e2:decide (((ls n.Kids).length:Int)=if 2>((ls n.Kids).length:Int) then 2 else ((ls n.Kids).length:Int))=decide (2≤(ls n.Kids).length):=by
  rw [Bool.eq_iff_iff,decide_eq_true_eq,decide_eq_true_eq];split<;>omega
 have e1:decide (((ls n.Kids).length:Int)=1)=decide ((ls n.Kids).length=1):=by
  rw [Bool.eq_iff_iff,decide_eq_true_eq,decide_eq_true_eq];omega
 have e0:decide (((ls n.Kids).length:Int)=0)=decide ((ls n.Kids).length=0):=by
  rw [Bool.eq_iff_iff,decide_eq_true_eq,decide_eq_true_eq];omega
 simp only [e2,e1,e0]
 rcases JK n.Kind with h | h | h | h | h | h | h | h | h | h
 case inr.inr.inr.inr.inl=>
  simp (config:={decide:=true}) only [h,if_true,if_false]
  by_cases h1:n.Min<0
  ·rw [dti h1,decide_eq_false (p:=0≤n.Min∧_) (by omega)];simp
  rw [eU h1]
  by_cases h2:n.Min>255
  ·rw [dti h2,decide_eq_false (p:=0≤n.Min∧_) (by omega)];simp
  rw [eU h2]
  by_cases h3:n.Max= -1
  ·rw [zU h3,decide_eq_true (p:=0≤n.Min∧_) (by omega)];simp
  rw [BI h3]
  by_cases h4:n.Max<n.Min
  ·rw [dti h4,decide_eq_false (p:=0≤n.Min∧_) (by omega)];simp
  rw [eU h4]
  by_cases h5:n.Max>255
  ·rw [dti h5,decide_eq_false (p:=0≤n.Min∧_) (by omega)];simp
  rw [eU h5,decide_eq_true (p:=0≤n.Min∧_) (by omega)];simp
 case inr.inr.inr.inr.inr.inr.inr.inr.inr=>
  obtain ⟨a1,a2,a3,a4,a5,a6,a7,a8,a9⟩:=h
  have e1: ∀k:Int,n.Kind≠k→(n.Kind==k)=false:=fun k h=>by simpa using h
  simp (config:={decide:=true}) only [e1 _ a1,e1 _ a2,e1 _ a3,e1 _ a4,e1 _ a5,e1 _ a6,e1 _ a7,e1 _ a8,e1 _ a9,a1,a2,a3,a4,a5,a6,a7,a8,a9,if_false,or_self,Bool.false_and,Bool.false_eq_true]
 all_goals simp (config:={decide:=true}) only [h,if_true,if_false,true_or,or_true,or_false,false_or]
end Go.Proofs.YtcidnoghoifmmaaDoor
end
section
namespace Go.Proofs.YtcidnoghoifmmaaDoor
open Go AW
set_option maxHeartbeats 4000000
mutual
def ck:aK→Nat
 | ⟨k,_,_,_,_,o⟩=>(if k=6 then 1 else 0)+CS o
def CS:Option (List aK)→Nat
 | none=>0
 | some l=>cH l
def cH:List aK→Nat
 | []=>0
 | x::l=>ck x+cH l
end
theorem kE (n:aK):ck n=(if n.Kind=6 then 1 else 0)+cH (ls n.Kids):=by
 obtain ⟨_,_,_,_,_,o⟩:=n
 rw [ck]
 cases o with
 | none=>rfl
 | some l=>rfl
def Ii (n:aK) (b:Nat):Prop:=pl n=true∧(n.Kind=6→n.aH=(b:Int)+1∧b+1≤99)∧(n.Kind=7→1≤n.aH∧n.aH≤9∧n.aH≤(b:Int))
mutual
def good:aK→Nat→Prop
 | ⟨k,st,mn,mx,g,o⟩,b=>Ii ⟨k,st,mn,mx,g,o⟩ b∧Ih o (b+if k=6 then 1 else 0)
def Ih:Option (List aK)→Nat→Prop
 | none,_=>True
 | some l,b=>eu l b
def eu:List aK→Nat→Prop
 | [],_=>True
 | x::l,b=>good x b∧eu l (b+ck x)
end
theorem gw (n:aK) (b:Nat):good n b↔Ii n b∧eu (ls n.Kids) (b+if n.Kind=6 then 1 else 0):=by
 obtain ⟨k,st,mn,mx,g,o⟩:=n
 rw [good]
 cases o with
 | none=>simp [Ih,ls,eu]
 | some l=>rw [Ih];rfl
theorem sj {α :Type} (o:Sl α) (x: α):ls (bW o (ls (some [x])))=ls o++[x]:=by rw [Cb];rfl
theorem vC (n:aK) (hl:(ls n.Kids).length≤100000) (b:Int) (E:Sl Bool): ∀(m i:Nat),m+i=(ls n.Kids).length→gX (.p4 n ((ls n.Kids).length:Int) (i:Int) false b E)=some (false,b,E)
 | 0,i,h=>by rw [gX.eq_5,eU (by omega),if_neg (by simp)]
 | m+1,i,h=>by rw [gX.eq_5,dti (by omega),if_neg (by simp),eo i (by omega),vC n hl b E m (i+1) (by omega)]
def Td (b m:Nat) (g:Prop) (gc:Nat) (r:Option (Bool × Int × Sl Bool)):Prop:=
 ∃(ok:Bool) (b':Nat) (E':Sl Bool),r=some (ok,(b':Int),E')∧(ls E').length=b'∧b≤b'∧b'≤b+m∧(ok=true→g)∧(ok=true→b'=b+gc)
theorem Ms (n:aK) (hl:(ls n.Kids).length≤100000) (ih: ∀k∈ls n.Kids,∀(b:Nat) (E:Sl Bool),(ls E).length=b→b+cnt k≤100000→Td b (cnt k) (good k b) (ck k) (gX (.e k true (b:Int) E))):
    ∀(m i b:Nat) (E:Sl Bool),m+i=(ls n.Kids).length→(ls E).length=b→b+fM ((ls n.Kids).drop i)≤100000→(n.Kind=6→1≤n.aH∧n.aH≤(b:Int))→
    Td b (fM ((ls n.Kids).drop i)) (eu ((ls n.Kids).drop i) b) (cH ((ls n.Kids).drop i)) (gX (.p4 n ((ls n.Kids).length:Int) (i:Int) true (b:Int) E))
  | 0,i,b,E,h,hE,hb,hg=>by
    rw [gX.eq_5,eU (by omega),if_pos rfl,List.drop_of_length_le (by omega)]
    by_cases h6:n.Kind=6
    · have:=hg h6
      obtain ⟨g,hgn⟩: ∃g:Nat,n.aH-1=g:=⟨(n.aH-1).toNat,by omega⟩
      obtain ⟨v,hv⟩:=bQ (ls E) (i:=g) (by omega)
      rw [gf h6,wi _ (by omega) (by omega),hgn,ixs hv,sm]
      exact ⟨true,b,_,rfl,by rw [rG,List.length_set,hE],by omega,by omega,fun _=>by rw [eu];trivial,fun _=>rfl⟩
    rw [gR h6]
    exact ⟨true,b,E,rfl,hE,by omega,by omega,fun _=>by rw [eu];trivial,fun _=>rfl⟩
  | m+1,i,b,E,h,hE,hb,hg=>by
    obtain ⟨k,hk⟩:=bQ (ls n.Kids) (i:=i) (by omega)
    have hd:=gd hk
    have hgd:cH ((ls n.Kids).drop i)=ck k+cH ((ls n.Kids).drop (i+1)):=by rw [drop_cons hk,cH]
    have hgo:eu ((ls n.Kids).drop i) b↔good k b∧eu ((ls n.Kids).drop (i+1)) (b+ck k):=by rw [drop_cons hk,eu]
    rw [gX.eq_5,dti (by omega),if_pos rfl,ixs hk,sm,hd,hgd,hgo]
    obtain ⟨ok,b',E',e,h1,h2,h3,h4,h5⟩:=ih k (List.mem_of_getElem? hk) b E hE (by omega)
    rw [e,sm,eo i (by omega)]
    cases ok with
    | false=>
      rw [vC n hl _ _ m (i+1) (by omega)]
      exact ⟨false,b',E',rfl,h1,h2,by omega,fun h=>(by cases h),fun h=>by cases h⟩
    | true=>
      have h4':=h4 rfl
      have h5':=h5 rfl
      subst h5'
      obtain ⟨ok2,b2,E2,e2,j1,j2,j3,j4,j5⟩:=Ms n hl ih m (i+1) (b+ck k) E' (by omega) h1 (by omega) (fun h=>by have:=hg h;omega)
      refine ⟨ok2,b2,E2,e2,j1,by omega,by omega,fun h=>⟨h4',j4 h⟩,fun h=>by have:=j5 h;omega⟩
theorem g30: ∀(n:aK) (b:Nat) (E:Sl Bool),(ls E).length=b→b+cnt n≤100000→Td b (cnt n) (good n b) (ck n) (gX (.e n true (b:Int) E)):=by
  intro n
  induction n using cW with
  | h n ih=>
    intro b E hE hb
    have hc:=eI n
    have hkl:=dV (ls n.Kids)
    rw [gX.eq_1,if_pos rfl,f31,sm,gX.eq_2,gw,kE]
    unfold Ii
    cases hp:pl n with
    | false=>
      rw [if_pos (show (!false)=true from rfl)]
      exact ⟨false,b,E,rfl,hE,by omega,by omega,fun h=>(by cases h),fun h=>by cases h⟩
    | true=>
      have h4:=fun (b:Nat) (E:Sl Bool) (h1:(ls E).length=b) (h2:b+fM ((ls n.Kids).drop 0)≤100000) (h3:n.Kind=6→1≤n.aH∧n.aH≤(b:Int))=>Ms n (by omega) ih (ls n.Kids).length 0 b E (by omega) h1 h2 h3
      rw [List.drop_zero] at h4
      have h3f: ∀(b':Int) (E:Sl Bool),gX (.p3 n false b' E)=some (false,b',E):=fun b' E=>by
        rw [gX.eq_4]
        exact vC n (by omega) b' E (ls n.Kids).length 0 (by omega)
      rw [if_neg (show ¬(!true)=true by simp)]
      by_cases h6:n.Kind=6
      · rw [gf h6,eo b (by omega),if_pos h6]
        have hgrow: ∀ok:Bool,gX (.p2 n ok ((b+1:Nat):Int) E)=gX (.p3 n ok ((b+1:Nat):Int) (bW E (ls (some [false])))):=fun ok=>by
          rw [gX.eq_3,if_pos (by simp [ls] at hE ⊢;omega)]
        have hE1:(ls (bW E (ls (some [false])))).length=b+1:=by rw [sj];simp [hE]
        by_cases hg:n.aH=((b+1:Nat):Int)
        · rw [gf hg,hgrow]
          by_cases h99:b+1≤99
          · rw [decide_eq_true (by omega),gX.eq_4]
            obtain ⟨ok,b',E',e,j1,j2,j3,j4,j5⟩:=h4 (b+1) _ hE1 (by omega) (fun _=>by omega)
            exact ⟨ok,b',E',e,j1,by omega,by omega,fun h=>⟨⟨rfl,fun _=>⟨by omega,h99⟩,fun h7=>by omega⟩,j4 h⟩,fun h=>by have:=j5 h;omega⟩
          rw [decide_eq_false (by omega),h3f]
          exact ⟨false,b+1,_,rfl,hE1,by omega,by omega,fun h=>(by cases h),fun h=>by cases h⟩
        rw [gR hg,hgrow,h3f]
        exact ⟨false,b+1,_,rfl,hE1,by omega,by omega,fun h=>(by cases h),fun h=>by cases h⟩
      rw [gR h6,if_neg h6,Nat.zero_add,Nat.add_zero]
      have no: ∀P gc,Td b (cnt n) P gc (gX (.p3 n false (b:Int) E)):=fun P gc=>by
        rw [h3f];exact ⟨false,b,E,rfl,hE,by omega,by omega,fun h=>(by cases h),fun h=>by cases h⟩
      have yes:(n.Kind=7→1≤n.aH∧n.aH≤9∧n.aH≤(b:Int))→Td b (cnt n) ((true=true∧(n.Kind=6→n.aH=(b:Int)+1∧b+1≤99)∧(n.Kind=7→1≤n.aH∧n.aH≤9∧n.aH≤(b:Int)))∧eu (ls n.Kids) b) (cH (ls n.Kids)) (gX (.p3 n true (b:Int) E)):=by
        intro hok
        rw [gX.eq_4]
        obtain ⟨ok,b',E',e,j1,j2,j3,j4,j5⟩:=h4 b E hE (by omega) (fun h=>absurd h h6)
        exact ⟨ok,b',E',e,j1,by omega,by omega,fun h=>⟨⟨rfl,fun h=>absurd h h6,hok⟩,j4 h⟩,fun h=>by have:=j5 h;omega⟩
      by_cases h7:n.Kind=7
      · rw [gf h7]
        by_cases k1:n.aH≥1
        · rw [dti k1]
          by_cases k2:n.aH≤9
          · rw [dti k2]
            by_cases k3:n.aH≤(b:Int)
            · rw [dti k3]
              obtain ⟨g,hgn⟩: ∃g:Nat,n.aH-1=g:=⟨(n.aH-1).toNat,by omega⟩
              obtain ⟨v,hv⟩:=bQ (ls E) (i:=g) (by omega)
              rw [wi _ (by omega) (by omega),hgn,ixs hv,sm]
              cases v with
              | false=>exact no _ _
              | true=>exact yes fun _=>⟨k1,k2,k3⟩
            rw [eU k3];exact no _ _
          rw [eU k2];exact no _ _
        rw [eU k1];exact no _ _
      rw [gR h7];exact yes fun h=>absurd h h7
theorem f12 (n:aK): ∃r:Int,KP n=some r∧(r=0→good n 0∧cnt n≤8192):=by
 unfold KP KQ
 rw [sm,Tp.eq_1,f40,sm]
 by_cases h:cnt n≤8192
 ·rw [if_pos h,if_pos rfl]
  obtain ⟨ok,b',E',e,h1,h2,h3,h4,h5⟩:=g30 n 0 none (by simp [ls]) (by omega)
  have e':WE n true 0 none=some (ok,(b':Int),E'):=e
  rw [e',sm]
  cases ok with
  | false=>exact ⟨90,rfl,fun h=>by cases h⟩
  | true=>exact ⟨0,rfl,fun _=>⟨h4 rfl,h⟩⟩
 rw [if_neg h]
 exact ⟨3,rfl,fun h=>by cases h⟩
end Go.Proofs.YtcidnoghoifmmaaDoor
end
section
namespace Go.Proofs.YtcidnoghoifmmaaDoor
open Go AW
set_option maxHeartbeats 4000000
def fit (p:af) (x:aT):Bool:=
 if x.Kind=1 then decide (({Kind:=x.Kind,Set:=x.Set,To:=0,aH:=0,bP:=0,Slot:=0}:aT)=x)
 else if x.Kind=2∨x.Kind=3 then decide (({Kind:=x.Kind,Set:=an.rep 4 0,To:=x.To,aH:=0,bP:=0,Slot:=0}:aT)=x)&&decide (0≤x.To∧x.To<((ls p.Code).length:Int))
 else if x.Kind=4∨x.Kind=5∨x.Kind=9 then decide (({Kind:=x.Kind,Set:=an.rep 4 0,To:=0,aH:=x.aH,bP:=0,Slot:=0}:aT)=x)&&decide (1≤x.aH∧x.aH≤p.bH)
 else if x.Kind=6 then decide (({Kind:=x.Kind,Set:=an.rep 4 0,To:=0,aH:=x.aH,bP:=x.bP,Slot:=0}:aT)=x)&&decide (1≤x.aH∧x.aH≤p.bH∧x.aH≤x.bP∧x.bP≤p.bH)
 else if x.Kind=7∨x.Kind=8 then decide (({Kind:=x.Kind,Set:=an.rep 4 0,To:=0,aH:=0,bP:=0,Slot:=x.Slot}:aT)=x)&&decide (0≤x.Slot∧x.Slot<p.bX)
 else if x.Kind=10∨x.Kind=11∨x.Kind=12 then decide (({Kind:=x.Kind,Set:=an.rep 4 0,To:=0,aH:=0,bP:=0,Slot:=0}:aT)=x)
 else false
def fits (p:af):Nat→List aT→Bool
 | _,[]=>true
 | i,x::l=>(fit p x&&((x.Kind==12)==decide (i+1=(ls p.Code).length)))&&fits p (i+1) l
def rp (p:af):Bool:=decide (0≤p.bH∧p.bH≤99∧0≤p.bX∧p.bX≤16384∧1≤(ls p.Code).length∧(ls p.Code).length≤16384)&&fits p 0 (ls p.Code)
theorem kinds (k:Int):k=1∨k=2∨k=3∨k=4∨k=5∨k=6∨k=7∨k=8∨k=9∨k=10∨k=11∨k=12∨(k≠1∧k≠2∧k≠3∧k≠4∧k≠5∧k≠6∧k≠7∧k≠8∧k≠9∧k≠10∧k≠11∧k≠12):=by omega
def hb (l:List aT):Bool:=l.any fun x=>x.Kind==9
theorem eK {p:af} (h:rp p=true):1≤(ls p.Code).length∧(ls p.Code).length≤16384:=by
 simp only [rp,Bool.and_eq_true,decide_eq_true_eq] at h
 exact ⟨h.1.2.2.2.2.1,h.1.2.2.2.2.2⟩
theorem CQ (p:af): ∀(l:List aT) (k i:Nat) (x:aT),fits p k l=true→l[i]? =some x→fit p x=true∧(x.Kind=12↔k+i+1=(ls p.Code).length)
  | [],k,i,x,_,h=>by simp at h
  | y::l,k,0,x,hf,h=>by
    simp at h
    subst h
    simp only [fits,Bool.and_eq_true,beq_iff_eq] at hf
    refine ⟨hf.1.1,?_⟩
    have:=hf.1.2
    rw [Bool.eq_iff_iff,decide_eq_true_eq,beq_iff_eq] at this
    simpa using this
  | y::l,k,i+1,x,hf,h=>by
    simp only [fits,Bool.and_eq_true] at hf
    have:=CQ p l (k+1) i x hf.2 (by simpa using h)
    rw [show k+(i+1)+1=k+1+i+1 by omega]
    exact this
theorem Cm {p:af} (h:rp p=true) {i:Nat} {x:aT} (hx:(ls p.Code)[i]? =some x):fit p x=true∧(x.Kind=12↔i+1=(ls p.Code).length):=by
 simp only [rp,Bool.and_eq_true] at h
 have:=CQ p _ 0 i x h.2 hx
 simpa using this
end Go.Proofs.YtcidnoghoifmmaaDoor
end
section
namespace Go.Proofs.YtcidnoghoifmmaaDoor
open Go AW
set_option maxHeartbeats 4000000
theorem sw {z:Int} (h:0≤z): ∃n:Nat,z=n:=⟨z.toNat,by omega⟩
theorem eF: ∀(N:Nat) (L:List Nat),L.Nodup→(∀x∈L,x<N)→L.length≤N
  | 0,L,_,h=>by
    cases L with
    | nil=>simp
    | cons a l=>exact absurd (h a (by simp)) (by omega)
  | N+1,L,hn,h=>by
    by_cases hm:N∈L
    · have h1:=eF N (L.erase N) (hn.erase N) (fun x hx=>by
        have:=(List.Nodup.mem_erase_iff hn).1 hx
        have:=h x this.2
        omega)
      have:=List.length_erase_of_mem hm
      omega
    have:=eF N L hn (fun x hx=>by
      have:=h x hx
      have:x≠N:=fun e=>hm (e▸hx)
      omega)
    omega
def jq (L:List Nat) (i:Nat):List Nat:=if i∈L then L else L++[i]
theorem yd (L:List Nat) (i j:Nat):j∈jq L i↔j∈L∨j=i:=by
 unfold jq
 split
 ·constructor
  ·exact .inl
  rintro (h | rfl)<;>assumption
 simp
theorem HR (L:List Nat) (i:Nat):L <+: jq L i:=by
 unfold jq
 split
 ·exact List.prefix_refl _
 exact List.prefix_append _ _
theorem DK (l:List Nat): ∀L:List Nat,L <+: l.foldl jq L:=by
 induction l with
 | nil=>exact fun L=>List.prefix_refl _
 | cons a l ih=>exact fun L=>(HR L a).trans (ih _)
theorem mT (l:List Nat): ∀(L:List Nat) (j:Nat),j∈l.foldl jq L↔j∈L∨j∈l:=by
 induction l with
 | nil=>simp
 | cons a l ih=>intro L j;simp only [List.foldl_cons,ih,yd,List.mem_cons,or_assoc]
def ints (L:List Nat):List Int:=L.map fun (n:Nat)=>(n:Int)
structure Mk (N:Nat) (s:kq) (L:List Nat):Prop where
 len: ∃b,s.iE=some b∧b.length=N∧ ∀j,j<N→b[j]? =some (decide (j∈L))
 lst:s.list=so (ints L)
 nd:L.Nodup
 lt: ∀j∈L,j<N
def Xl (C:List aT) (len q i:Nat):List Nat:=
  match C[i]? with
  | none=>[]
  | some x=>
    if x.Kind=1 then [] else if x.Kind=12 then [] else if x.Kind=2 then [i+1,x.To.toNat] else if x.Kind=3 then [x.To.toNat]
    else if x.Kind=10 then (if q=0 then [i+1] else []) else if x.Kind=11 then (if q=len then [i+1] else []) else [i+1]
theorem pQ {p:af} {x:aT} (h:fit p x=true) (hk:x.Kind=2∨x.Kind=3):0≤x.To∧x.To<((ls p.Code).length:Int):=by
 unfold fit at h
 have h1:x.Kind≠1:=by omega
 simp only [h1,if_false,hk,if_true,Bool.and_eq_true,decide_eq_true_eq] at h
 exact h.2
variable {σ :Type}
inductive XL (C:List aT) (len q:Nat) (B:Nat→Prop):Nat→Prop
 | base {j:Nat}:B j→XL C len q B j
 | step {i j:Nat}:XL C len q B i→j∈Xl C len q i→XL C len q B j
end Go.Proofs.YtcidnoghoifmmaaDoor
end
section
namespace Go.Proofs.YtcidnoghoifmmaaDoor
open Go AW
set_option maxHeartbeats 4000000
mutual
def iD:aK→Nat→List Nat→Option Nat
  | ⟨k,st,mn,mx,g,o⟩,b,O=>
    if pl ⟨k,st,mn,mx,g,o⟩=false then none
    else if k=6 then (if g=(b:Int)+1∧b+1≤99 then LA o (b+1) (O++[b+1]) else none)
    else if k=7 then (if 1≤g∧g≤9∧g≤(b:Int)∧g.toNat∉O then LA o b O else none)
    else LA o b O
def LA:Option (List aK)→Nat→List Nat→Option Nat
 | none,b,_=>some b
 | some l,b,O=>iV l b O
def iV:List aK→Nat→List Nat→Option Nat
  | [],b,_=>some b
  | x::l,b,O=>match iD x b O with
    | none=>none
    | some b'=>iV l b' O
end
theorem wD (n:aK) (b:Nat) (O:List Nat):iD n b O=if pl n=false then none else if n.Kind=6 then (if n.aH=(b:Int)+1∧b+1≤99 then iV (ls n.Kids) (b+1) (O++[b+1]) else none) else if n.Kind=7 then (if 1≤n.aH∧n.aH≤9∧n.aH≤(b:Int)∧n.aH.toNat∉O then iV (ls n.Kids) b O else none) else iV (ls n.Kids) b O:=by
 obtain ⟨k,st,mn,mx,g,o⟩:=n
 have e: ∀b O,LA o b O=iV (ls o) b O:=fun b O=>by cases o<;>rfl
 rw [iD]
 simp only [e]
theorem pM {l:List aK} {i:Nat} {k:aK} (h:l[i]? =some k) (b:Nat) (O:List Nat):iV (l.drop i) b O=match iD k b O with | none=>none | some b'=>iV (l.drop (i+1)) b' O:=by
 rw [drop_cons h,iV]
def rX (E:Sl Bool) (b:Nat) (O:List Nat):Prop:=(ls E).length=b∧ ∀g,g<b→(ls E)[g]? =some (decide (g+1∉O))
def Pk (b m:Nat) (O:List Nat) (c:Option Nat) (r:Option (Bool × Int × Sl Bool)):Prop:=
 ∃(ok:Bool) (b':Int) (E':Sl Bool),r=some (ok,b',E')∧ok=c.isSome∧ ∀b2,c=some b2→b'=b2∧rX E' b2 O∧b≤b2∧b2≤b+m
theorem Vf (n:aK) (hl:(ls n.Kids).length≤100000) (O:List Nat) (ih: ∀k∈ls n.Kids,∀(b:Nat) (E:Sl Bool),rX E b O→(∀x∈O,x≤b)→b+cnt k≤100000→Pk b (cnt k) O (iD k b O) (gX (.e k true (b:Int) E))):
    ∀(m i b:Nat) (E:Sl Bool),m+i=(ls n.Kids).length→rX E b O→(∀x∈O,x≤b)→b+fM ((ls n.Kids).drop i)≤100000→n.Kind≠6→
    Pk b (fM ((ls n.Kids).drop i)) O (iV ((ls n.Kids).drop i) b O) (gX (.p4 n ((ls n.Kids).length:Int) (i:Int) true (b:Int) E))
  | 0,i,b,E,h,hE,hO,hb,h6=>by
    rw [gX.eq_5,eU (by omega),if_pos rfl,List.drop_of_length_le (by omega),gR h6,iV]
    exact ⟨true,b,E,rfl,rfl,fun b2 e=>by cases e;exact ⟨rfl,hE,by omega,by omega⟩⟩
  | m+1,i,b,E,h,hE,hO,hb,h6=>by
    obtain ⟨k,hk⟩:=bQ (ls n.Kids) (i:=i) (by omega)
    have hd:=gd hk
    rw [gX.eq_5,dti (by omega),if_pos rfl,ixs hk,sm,hd,pM hk]
    obtain ⟨ok,b',E',e,h1,h2⟩:=ih k (List.mem_of_getElem? hk) b E hE hO (by omega)
    rw [e,sm,eo i (by omega)]
    simp only []
    cases hc:iD k b O with
    | none=>
      rw [hc] at h1
      cases h1
      rw [show (Option.isSome (none:Option Nat))=false from rfl,vC n hl _ _ m (i+1) (by omega)]
      exact ⟨false,b',E',rfl,rfl,fun b2 e=>by cases e⟩
    | some b2=>
      rw [hc] at h1
      cases h1
      obtain ⟨rfl,h3,h4,h5⟩:=h2 b2 hc
      obtain ⟨ok2,b3,E2,e2,j1,j2⟩:=Vf n hl O ih m (i+1) b2 E' (by omega) h3 (fun x hx=>by have:=hO x hx;omega) (by omega) h6
      refine ⟨ok2,b3,E2,e2,j1,fun b4 e4=>?_⟩
      obtain ⟨k1,k2,k3,k4⟩:=j2 b4 e4
      exact ⟨k1,k2,by omega,by omega⟩
theorem Vg (n:aK) (hl:(ls n.Kids).length≤100000) (b0:Nat) (O:List Nat) (h6:n.Kind=6) (hg:n.aH=((b0+1:Nat):Int)) (hO: ∀x∈O,x≤b0) (ih: ∀k∈ls n.Kids,∀(b:Nat) (E:Sl Bool),rX E b (O++[b0+1])→(∀x∈O++[b0+1],x≤b)→b+cnt k≤100000→Pk b (cnt k) (O++[b0+1]) (iD k b (O++[b0+1])) (gX (.e k true (b:Int) E))):
    ∀(m i b:Nat) (E:Sl Bool),m+i=(ls n.Kids).length→rX E b (O++[b0+1])→b0+1≤b→b+fM ((ls n.Kids).drop i)≤100000→
    Pk b (fM ((ls n.Kids).drop i)) O (iV ((ls n.Kids).drop i) b (O++[b0+1])) (gX (.p4 n ((ls n.Kids).length:Int) (i:Int) true (b:Int) E))
  | 0,i,b,E,h,hE,hb0,hb=>by
    obtain ⟨hE1,hE2⟩:=hE
    have hv:=hE2 b0 (by omega)
    rw [gX.eq_5,eU (by omega),if_pos rfl,List.drop_of_length_le (by omega),gf h6,hg,Cu _ (by omega) (by omega),iV]
    have e0:(b0+1-1:Nat)=b0:=by omega
    rw [e0,ixs hv,sm]
    refine ⟨true,b,_,rfl,rfl,fun b2 e=>?_⟩
    cases e
    refine ⟨rfl,⟨by rw [rG,List.length_set,hE1],fun g hg'=>?_⟩,by omega,by omega⟩
    rw [rG,List.getElem?_set]
    by_cases e:b0=g
    · subst e
      rw [if_pos (by simp)]
      have:b0+1∉O:=fun h=>by have:=hO _ h;omega
      simp [this,hE1,hg']
    rw [if_neg (by simp;omega),hE2 g hg']
    have:(g+1∉O++[b0+1])↔g+1∉O:=by simp;omega
    simp only [this]
  | m+1,i,b,E,h,hE,hb0,hb=>by
    obtain ⟨k,hk⟩:=bQ (ls n.Kids) (i:=i) (by omega)
    have hd:=gd hk
    rw [gX.eq_5,dti (by omega),if_pos rfl,ixs hk,sm,hd,pM hk]
    obtain ⟨ok,b',E',e,h1,h2⟩:=ih k (List.mem_of_getElem? hk) b E hE (fun x hx=>by
      rcases List.mem_append.1 hx with hx | hx
      · have:=hO x hx;omega
      simp at hx;omega) (by omega)
    rw [e,sm,eo i (by omega)]
    simp only []
    cases hc:iD k b (O++[b0+1]) with
    | none=>
      rw [hc] at h1
      cases h1
      rw [show (Option.isSome (none:Option Nat))=false from rfl,vC n hl _ _ m (i+1) (by omega)]
      exact ⟨false,b',E',rfl,rfl,fun b2 e=>by cases e⟩
    | some b2=>
      rw [hc] at h1
      cases h1
      obtain ⟨rfl,h3,h4,h5⟩:=h2 b2 hc
      obtain ⟨ok2,b3,E2,e2,j1,j2⟩:=Vg n hl b0 O h6 hg hO ih m (i+1) b2 E' (by omega) h3 (by omega) (by omega)
      refine ⟨ok2,b3,E2,e2,j1,fun b4 e4=>?_⟩
      obtain ⟨k1,k2,k3,k4⟩:=j2 b4 e4
      exact ⟨k1,k2,by omega,by omega⟩
theorem pk: ∀(n:aK) (b:Nat) (O:List Nat) (E:Sl Bool),rX E b O→(∀x∈O,x≤b)→b+cnt n≤100000→Pk b (cnt n) O (iD n b O) (gX (.e n true (b:Int) E)):=by
  intro n
  induction n using cW with
  | h n ih=>
    intro b O E hE hO hb
    have hc:=eI n
    have hkl:=dV (ls n.Kids)
    rw [gX.eq_1,if_pos rfl,f31,sm,gX.eq_2,wD]
    have no3: ∀(b':Int) (E:Sl Bool) (m:Nat),Pk b m O none (gX (.p3 n false b' E)):=fun b' E m=>by
      rw [gX.eq_4]
      have:=vC n (by omega) b' E (ls n.Kids).length 0 (by omega)
      exact ⟨false,b',E,this,rfl,fun b2 e=>by cases e⟩
    cases hp:pl n with
    | false=>
      rw [if_pos (show (!false)=true from rfl),if_pos rfl]
      exact ⟨false,b,E,rfl,rfl,fun b2 e=>by cases e⟩
    | true=>
      rw [if_neg (show ¬(!true)=true by simp),if_neg (by simp)]
      by_cases h6:n.Kind=6
      · rw [gf h6,eo b (by omega),if_pos h6]
        obtain ⟨hE1,hE2⟩:=hE
        have hgrow: ∀ok:Bool,gX (.p2 n ok ((b+1:Nat):Int) E)=gX (.p3 n ok ((b+1:Nat):Int) (bW E (ls (some [false])))):=fun ok=>by
          rw [gX.eq_3,if_pos (by simp [ls] at hE1 ⊢;omega)]
        by_cases hg:n.aH=((b+1:Nat):Int)
        · rw [gf hg,hgrow]
          by_cases h99:b+1≤99
          · rw [decide_eq_true (by omega),gX.eq_4,if_pos ⟨by omega,h99⟩]
            have hE':rX (bW E (ls (some [false]))) (b+1) (O++[b+1]):=by
              refine ⟨by rw [sj];simp [hE1],fun g hg'=>?_⟩
              rw [sj]
              by_cases e:g=b
              · subst e
                rw [List.getElem?_append_right (by omega),hE1]
                simp
              rw [List.getElem?_append_left (by omega),hE2 g (by omega)]
              have:(g+1∉O++[b+1])↔g+1∉O:=by simp;omega
              simp only [this]
            have h4:=Vg n (by omega) b O h6 hg hO (fun k hk b' E'=>ih k hk b' _ E') (ls n.Kids).length 0 (b+1) _ (by omega) hE' (by omega) (by rw [List.drop_zero];omega)
            rw [List.drop_zero] at h4
            obtain ⟨ok,b',E',e,j1,j2⟩:=h4
            refine ⟨ok,b',E',e,j1,fun b2 e2=>?_⟩
            obtain ⟨k1,k2,k3,k4⟩:=j2 b2 e2
            exact ⟨k1,k2,by omega,by omega⟩
          rw [decide_eq_false (by omega),if_neg (by omega)]
          exact no3 _ _ _
        rw [gR hg,hgrow,if_neg (by omega)]
        exact no3 _ _ _
      rw [gR h6,if_neg h6]
      have yes:Pk b (cnt n) O (iV (ls n.Kids) b O) (gX (.p3 n true (b:Int) E)):=by
        rw [gX.eq_4]
        have h4:=Vf n (by omega) O (fun k hk b' E'=>ih k hk b' O E') (ls n.Kids).length 0 b E (by omega) hE hO (by rw [List.drop_zero];omega) h6
        rw [List.drop_zero] at h4
        obtain ⟨ok,b',E',e,j1,j2⟩:=h4
        refine ⟨ok,b',E',e,j1,fun b2 e2=>?_⟩
        obtain ⟨k1,k2,k3,k4⟩:=j2 b2 e2
        exact ⟨k1,k2,by omega,by omega⟩
      by_cases h7:n.Kind=7
      · rw [gf h7,if_pos h7]
        by_cases k1:n.aH≥1
        · rw [dti k1]
          by_cases k2:n.aH≤9
          · rw [dti k2]
            by_cases k3:n.aH≤(b:Int)
            · rw [dti k3]
              obtain ⟨g,hgn⟩: ∃g:Nat,n.aH-1=g:=⟨(n.aH-1).toNat,by omega⟩
              have hv:=hE.2 g (by omega)
              have hgt:n.aH.toNat=g+1:=by omega
              rw [wi _ (by omega) (by omega),hgn,ixs hv,sm,hgt]
              by_cases hm:g+1∈O
              · rw [decide_eq_false (by simpa using hm),if_neg (by simp [hm])];exact no3 _ _ _
              rw [decide_eq_true hm,if_pos ⟨k1,k2,k3,hm⟩];exact yes
            rw [eU k3,if_neg (by omega)];exact no3 _ _ _
          rw [eU k2,if_neg (by omega)];exact no3 _ _ _
        rw [eU k1,if_neg (by omega)];exact no3 _ _ _
      rw [gR h7,if_neg h7];exact yes
theorem Uw (n:aK):KP n=some (if cnt n≤8192 then (if (iD n 0 []).isSome then 0 else 90) else 3):=by
 unfold KP KQ
 rw [sm,Tp.eq_1,f40,sm]
 by_cases h:cnt n≤8192
 ·rw [if_pos h,if_pos h,if_pos rfl]
  obtain ⟨ok,b',E',e,h1,h2⟩:=pk n 0 [] none ⟨by simp [ls],fun g hg=>by omega⟩ (fun x hx=>by simp at hx) (by omega)
  have e':WE n true 0 none=some (ok,b',E'):=e
  rw [e',sm,h1]
  cases (iD n 0 []).isSome<;>rfl
 rw [if_neg h,if_neg h]
 rfl
theorem f106 (n:aK):Gk n=some (pl n&&(decide (n.Kind≠7)||decide (1≤n.aH∧n.aH≤9))):=by
 have e: ∀a b:Int,(a==b)=decide (a=b):=fun a b=>by rw [Bool.eq_iff_iff];simp
 have e1:decide (((ls n.Kids).length:Int)=1)=decide ((ls n.Kids).length=1):=by
  rw [Bool.eq_iff_iff,decide_eq_true_eq,decide_eq_true_eq];omega
 have e0:decide (((ls n.Kids).length:Int)=0)=decide ((ls n.Kids).length=0):=by
  rw [Bool.eq_iff_iff,decide_eq_true_eq,decide_eq_true_eq];omega
 have e2:decide (((ls n.Kids).length:Int)≥2)=decide (2≤(ls n.Kids).length):=by
  rw [Bool.eq_iff_iff,decide_eq_true_eq,decide_eq_true_eq];omega
 unfold Gk pl
 simp only [qd.eq_1,qd.eq_2,qd.eq_3,e,e0,e1,e2]
 rcases JK n.Kind with h | h | h | h | h | h | h | h | h | h
 case inr.inr.inr.inr.inr.inr.inr.inr.inr=>
  obtain ⟨a1,a2,a3,a4,a5,a6,a7,a8,a9⟩:=h
  by_cases m1:n.Min=0<;>simp [m1,a1,a2,a3,a4,a5,a6,a7,a8,a9]
 case inr.inr.inr.inr.inl=>
  by_cases m3:n.Set=an.rep 4 0<;>by_cases m4:n.aH=0<;>by_cases k1:(ls n.Kids).length=1<;>by_cases k2:n.Max= -1<;>by_cases k3:n.Min≥0<;>by_cases k4:n.Min≤255<;>by_cases k5:n.Max≥n.Min<;>by_cases k6:n.Max≤255<;>by_cases k7:(0:Int)≤n.Max<;>by_cases m1:n.Min=0<;>
   simp (config:={decide:=true}) [h,m3,m4,k1,k2,k3,k4,k5,k6,k7,m1]<;>omega
 case inr.inr.inr.inr.inr.inr.inl=>
  by_cases m1:n.Min=0<;>by_cases m2:n.Max=0<;>by_cases m3:n.Set=an.rep 4 0<;>by_cases k1:ls n.Kids=[]<;>by_cases k2:1≤n.aH<;>simp [h,m1,m2,m3,k1,k2]
 all_goals
  by_cases m1:n.Min=0<;>by_cases m2:n.Max=0<;>by_cases m3:n.Set=an.rep 4 0<;>by_cases m4:n.aH=0<;>simp [h,m1,m2,m3,m4]<;>try omega
end Go.Proofs.YtcidnoghoifmmaaDoor
end
section
namespace Go.Proofs.YtcidnoghoifmmaaDoor
open Go AW
set_option maxHeartbeats 4000000
theorem CT (O:List Nat):(ls (so (ints O))).length=O.length:=by rw [bq];simp [ints]
theorem ND (next:Int) (n:aK) (O:List Nat) (hO:O.length≤100000): ∀(m i:Nat),m+i=O.length→
    oy (.p2 next (so (ints O)) n (so (ints O)) (O.length:Int) (i:Int))=if n.aH∈ints (O.drop i) then some (next,false) else oy (.p3 next (so (ints O)) n)
  | 0,i,h=>by
    rw [oy.eq_3,eU (by omega),List.drop_of_length_le (by omega),if_neg (by simp [ints])]
  | m+1,i,h=>by
    obtain ⟨g,hg⟩:=bQ O (i:=i) (by omega)
    have hki:(ints O)[i]? =some (g:Int):=by simp [ints,hg]
    have e:ints (O.drop i)=(g:Int)::ints (O.drop (i+1)):=by rw [drop_cons hg];rfl
    rw [oy.eq_3,dti (by omega),bq,ixs hki,sm,e]
    by_cases k:(g:Int)=n.aH
    · rw [gf k,if_pos (by simp [k])]
    have k':n.aH≠(g:Int):=fun h=>k h.symm
    rw [gR k,eo i (by omega),ND next n O hO m (i+1) (by omega)]
    simp only [List.mem_cons,k',false_or]
def Rk (c:Option Nat) (r:Option (Int × Bool)):Prop:= ∃z:Int × Bool,r=some z∧z.2=c.isSome∧ ∀b,c=some b→z.1=((b+1:Nat):Int)
theorem QZ: ∀(n:aK) (b b':Nat) (O:List Nat),iD n b O=some b'→b'≤b+cnt n:=by
  intro n
  induction n using cW with
  | h n ih=>
    have key: ∀(l:List aK),(∀k∈l,∀(b b':Nat) (O:List Nat),iD k b O=some b'→b'≤b+cnt k)→ ∀(b b':Nat) (O:List Nat),iV l b O=some b'→b'≤b+fM l:=by
      intro l
      induction l with
      | nil=>intro _ b b' O h;rw [iV] at h;cases h;omega
      | cons x l ihl=>
        intro hl b b' O h
        rw [iV] at h
        split at h
        · cases h
        rename_i b2 hb
        have h1:=hl x (by simp) b b2 O hb
        have h2:=ihl (fun k hk=>hl k (by simp [hk])) b2 b' O h
        rw [fM];omega
    intro b b' O h
    have hk:=key (ls n.Kids) (fun k hk=>ih k hk)
    rw [wD] at h
    rw [eI]
    split at h
    · cases h
    split at h
    · split at h
      · have:=hk _ _ _ h;omega
      cases h
    split at h
    · split at h
      · have:=hk _ _ _ h;omega
      cases h
    have:=hk _ _ _ h;omega
theorem NF (O:List Nat) (n:aK) (hl:(ls n.Kids).length≤100000) (ih: ∀k∈ls n.Kids,∀b:Nat,b+cnt k≤100000→O.length≤b→Rk (iD k b O) (oy (.e k ((b+1:Nat):Int) (so (ints O))))):
    ∀(m i b:Nat),m+i=(ls n.Kids).length→b+fM ((ls n.Kids).drop i)≤100000→O.length≤b→Rk (iV ((ls n.Kids).drop i) b O) (oy (.p4 ((b+1:Nat):Int) (so (ints O)) n.Kids ((ls n.Kids).length:Int) (i:Int)))
  | 0,i,b,h,hb,hO=>by
    rw [oy.eq_5,eU (by omega),List.drop_of_length_le (by omega),iV]
    exact ⟨_,rfl,rfl,fun b2 e=>by cases e;rfl⟩
  | m+1,i,b,h,hb,hO=>by
    obtain ⟨k,hk⟩:=bQ (ls n.Kids) (i:=i) (by omega)
    have hd:=gd hk
    rw [oy.eq_5,dti (by omega),ixs hk,sm,pM hk]
    obtain ⟨z,e,h1,h2⟩:=ih k (List.mem_of_getElem? hk) b (by omega) hO
    rw [e,sm]
    cases hc:iD k b O with
    | none=>
      rw [hc] at h1
      rw [if_pos (by rw [h1];rfl)]
      exact ⟨_,rfl,rfl,fun b2 e=>by cases e⟩
    | some b2=>
      rw [hc] at h1
      have hle:=QZ _ _ _ _ hc
      have hge:b≤b2∨True:=.inr trivial
      rw [if_neg (by rw [h1];simp),h2 b2 hc,eo i (by omega)]
      by_cases hob:O.length≤b2
      · exact NF O n hl ih m (i+1) b2 (by omega) (by omega) hob
      exact absurd (chk_ge _ _ _ _ hc) (by omega)
where
  chk_ge: ∀(n:aK) (b b':Nat) (O:List Nat),iD n b O=some b'→b≤b':=by
    intro n
    induction n using cW with
    | h n ih=>
      have key: ∀(l:List aK),(∀k∈l,∀(b b':Nat) (O:List Nat),iD k b O=some b'→b≤b')→ ∀(b b':Nat) (O:List Nat),iV l b O=some b'→b≤b':=by
        intro l
        induction l with
        | nil=>intro _ b b' O h;rw [iV] at h;cases h;omega
        | cons x l ihl=>
          intro hl b b' O h
          rw [iV] at h
          split at h
          · cases h
          · rename_i b2 hb
            have h1:=hl x (by simp) b b2 O hb
            have h2:=ihl (fun k hk=>hl k (by simp [hk])) b2 b' O h
            omega
      intro b b' O h
      have hk:=key (ls n.Kids) (fun k hk=>ih k hk)
      rw [wD] at h
      split at h
      · cases h
      split at h
      · split at h
        · have:=hk _ _ _ h;omega
        · cases h
      split at h
      · split at h
        · have:=hk _ _ _ h;omega
        · cases h
      · have:=hk _ _ _ h;omega
theorem rk: ∀(n:aK) (b:Nat) (O:List Nat),b+cnt n≤100000→O.length≤b→Rk (iD n b O) (oy (.e n ((b+1:Nat):Int) (so (ints O)))):=by
  intro n
  induction n using cW with
  | h n ih=>
    intro b O hb hO
    have hc:=eI n
    have hkl:=dV (ls n.Kids)
    have no: ∀z:Int,Rk none (some (z,false)):=fun z=>⟨_,rfl,rfl,fun b2 e=>by cases e⟩
    have go: ∀(b:Nat) (O:List Nat),b+fM (ls n.Kids)≤100000→O.length≤b→Rk (iV (ls n.Kids) b O) (oy (.p3 ((b+1:Nat):Int) (so (ints O)) n)):=fun b O h1 h2=>by
      have:=NF O n (by omega) (fun k hk b' hb' hO'=>ih k hk b' O hb' hO') (ls n.Kids).length 0 b (by omega) (by rw [List.drop_zero];exact h1) h2
      rw [List.drop_zero] at this
      rw [oy.eq_4]
      exact this
    have ceq:=wD n b O
    rw [oy.eq_1,f106,sm]
    cases hp:pl n with
    | false=>
      rw [hp,if_pos rfl] at ceq
      rw [if_pos (by simp),ceq];exact no _
    | true=>
      rw [hp,if_neg (show ¬(true=false) by simp)] at ceq
      by_cases h6:n.Kind=6
      · rw [if_pos h6] at ceq
        have h7:n.Kind≠7:=by omega
        rw [if_neg (by simp [h7]),gf h6]
        by_cases hg:n.aH=((b+1:Nat):Int)
        · rw [zU hg]
          by_cases h99:b+1≤99
          · have e1:bW (none:Sl Int) (ls (so (ints O)))=so (ints O):=by rw [bq];exact (eC [] _).trans (by rw [List.nil_append])
            have e2:bW (so (ints O)) (ls (some [n.aH]))=so (ints (O++[b+1])):=by rw [eC,hg];simp [ints,ls]
            have hl1:(ls (so (ints O))).length=O.length:=CT O
            rw [eU (by omega),if_pos (by simp [ls] at hl1 ⊢;omega),e1,if_pos (by simp [ls] at hl1 ⊢;omega),e2,eo (b+1) (by omega),oy.eq_2,gR (by omega),ceq,if_pos ⟨by omega,h99⟩]
            exact go (b+1) (O++[b+1]) (by omega) (by simp;omega)
          rw [dti (by omega),ceq,if_neg (by omega)];exact no _
        rw [BI hg,ceq,if_neg (by omega)];exact no _
      rw [if_neg h6] at ceq
      by_cases h7:n.Kind=7
      · rw [if_pos h7] at ceq
        by_cases k1:1≤n.aH∧n.aH≤9
        · rw [if_neg (by simp [h7,k1]),gR h6,oy.eq_2,gf h7]
          by_cases k3:n.aH≤(b:Int)
          · obtain ⟨g,hgn⟩:=sw (z:=n.aH) (by omega)
            have hgt:n.aH.toNat=g:=by omega
            have h2:=ND ((b+1:Nat):Int) n O (by omega) O.length 0 (by omega)
            have h2':oy (.p2 ((b+1:Nat):Int) (so (ints O)) n (so (ints O)) (O.length:Int) 0)=_:=h2
            rw [eU (by omega),CT,h2',List.drop_zero]
            have hmem:n.aH∈ints O↔g∈O:=by
              rw [hgn]
              unfold ints
              rw [List.mem_map]
              exact ⟨fun ⟨a, h1, h2⟩ => (by have : a = g := by omega
                                            subst this;exact h1),fun h=>⟨g,h,rfl⟩⟩
            by_cases hm:g∈O
            · rw [if_pos (hmem.2 hm),ceq,if_neg (by rw [hgt];exact fun h=>h.2.2.2 hm)];exact no _
            rw [if_neg (fun h=>hm (hmem.1 h)),ceq,if_pos ⟨k1.1,k1.2,k3,by rw [hgt];exact hm⟩]
            exact go b O (by omega) hO
          rw [dti (by omega),ceq,if_neg (by omega)];exact no _
        rw [if_pos (by simp [h7];omega),ceq,if_neg (by omega)];exact no _
      rw [if_neg h7] at ceq
      rw [if_neg (by simp [h7]),gR h6,oy.eq_2,gR h7,ceq]
      exact go b O (by omega) hO
def Ck (t:Nat) (r:Option Int):Prop:= ∃q:Nat,r=some (q:Int)∧q≤t∧(t≤8192→q=t)∧(8192<t→8192<q)
theorem NC (n:aK) (hl:(ls n.Kids).length≤10000000) (ih: ∀k∈ls n.Kids,cnt k≤10000000→Ck (cnt k) (ER (.e k))): ∀(m i s:Nat),m+i=(ls n.Kids).length→1≤s→s+fM ((ls n.Kids).drop i)≤10000001→
    Ck (s+fM ((ls n.Kids).drop i)) (ER (.p1 (s:Int) n.Kids ((ls n.Kids).length:Int) (i:Int)))
  | 0,i,s,h,hs1,hb=>by
    rw [ER.eq_2,eU (by omega),List.drop_of_length_le (by omega),fM]
    exact ⟨s,rfl,by omega,fun _=>by omega,fun h=>by omega⟩
  | m+1,i,s,h,hs1,hb=>by
    obtain ⟨k,hk⟩:=bQ (ls n.Kids) (i:=i) (by omega)
    have hd:=gd hk
    have hp:=jz k
    rw [hd] at hb ⊢
    rw [ER.eq_2,dti (by omega),ixs hk,sm]
    by_cases h8:s>8192
    · rw [dti (by omega)]
      exact ⟨s,rfl,by omega,fun h=>by omega,fun h=>by omega⟩
    rw [eU (by omega)]
    obtain ⟨q,e,h1,h2,h3⟩:=ih k (List.mem_of_getElem? hk) (by omega)
    rw [e,sm,eo i (by omega),wi _ (by omega) (by omega)]
    obtain ⟨q2,e2,j1,j2,j3⟩:=NC n hl ih m (i+1) (s+q) (by omega) (by omega) (by omega)
    refine ⟨q2,e2,by omega,fun h=>?_,fun h=>?_⟩
    · have:=h2 (by omega);have:=j2 (by omega);omega
    by_cases hk8:cnt k≤8192
    · have:=h2 hk8;exact j3 (by omega)
    have:=h3 (by omega);exact j3 (by omega)
theorem g97: ∀n:aK,cnt n≤10000000→Ck (cnt n) (ER (.e n)):=by
  intro n
  induction n using cW with
  | h n ih=>
    intro hc
    have h1:=eI n
    have h2:=dV (ls n.Kids)
    have h:=NC n (by omega) ih (ls n.Kids).length 0 1 (by omega) (by omega) (by rw [List.drop_zero];omega)
    rw [List.drop_zero] at h
    rw [ER.eq_1,h1,Nat.add_comm]
    exact h
theorem f89 (n:aK) (hc:cnt n≤10000000):Tl n=KP n:=by
 rw [Uw]
 unfold Tl XI
 obtain ⟨q,e,h1,h2,h3⟩:=g97 n hc
 rw [e,sm]
 by_cases h:cnt n≤8192
 ·have:=h2 h
  rw [eU (by omega),if_pos h]
  obtain ⟨z,e2,j1,j2⟩:=rk n 0 [] (by omega) (by simp)
  have e2':XJ n 1 none=some z:=e2
  rw [e2',sm,j1]
  cases (iD n 0 []).isSome<;>rfl
 have:=h3 (by omega)
 rw [dti (by omega),if_neg h]
end Go.Proofs.YtcidnoghoifmmaaDoor
end
section
namespace Go.Proofs.YtcidnoghoifmmaaDoor
open Go AW
set_option maxHeartbeats 4000000
theorem rI {z:Int} (h:0≤z): ∃n:Nat,z=n:=⟨z.toNat,by omega⟩
theorem b28 (a:Int) (t x:aK) (c:Nat) (hc:c≤100000):lE a t x ((c:Int),0)=some (true,(((c+if x.Kind=6 then 1 else 0:Nat):Int),0)):=by
 unfold lE
 simp only
 rw [if_pos trivial]
 by_cases h:x.Kind=6
 ·rw [gf h,eo c (by omega),if_pos h]
 rw [gR h,if_neg h];rfl
theorem LL: ∀n:aK,ck n≤cnt n:=by
  intro n
  induction n using cW with
  | h n ih=>
    rw [kE,eI]
    have: ∀l:List aK,(∀k∈l,ck k≤cnt k)→cH l≤fM l:=by
      intro l
      induction l with
      | nil=>intro _;rw [cH,fM];omega
      | cons x l ihl=>intro h;have:=h x (by simp);have:=ihl fun k hk=>h k (by simp [hk]);rw [cH,fM];omega
    have:=this _ ih
    split<;>omega
theorem Ic (a:Int) (t:aK) (n:aK) (hl:(ls n.Kids).length≤100000) (hn: ∀k∈ls n.Kids,∀(c:Nat),c+cnt k≤100000→mc (lE a t) (.e k ((c:Int),0))=some (true,(((c+ck k:Nat):Int),0))):
    ∀(m i c:Nat),m+i=(ls n.Kids).length→c+fM ((ls n.Kids).drop i)≤100000→mc (lE a t) (.p1 n ((ls n.Kids).length:Int) (i:Int) ((c:Int),0))=some (true,(((c+cH ((ls n.Kids).drop i):Nat):Int),0))
  | 0,i,c,h,hc=>by
    rw [mc.eq_2,eU (by omega),List.drop_of_length_le (by omega),cH,Nat.add_zero]
  | m+1,i,c,h,hc=>by
    obtain ⟨k,hk⟩:=bQ (ls n.Kids) (i:=i) (by omega)
    have hd:=gd hk
    have hg:=LL k
    rw [mc.eq_2,dti (by omega),ixs hk,sm,hn k (List.mem_of_getElem? hk) c (by omega),sm]
    simp only [Bool.not_true,Bool.false_eq_true,if_false]
    rw [eo i (by omega),Ic a t n hl hn m (i+1) (c+ck k) (by omega) (by omega),drop_cons hk,cH,Nat.add_assoc]
theorem Xq (a:Int) (t:aK): ∀(n:aK) (c:Nat),c+cnt n≤100000→mc (lE a t) (.e n ((c:Int),0))=some (true,(((c+ck n:Nat):Int),0)):=by
  intro n
  induction n using cW with
  | h n ih=>
    intro c hc
    have he:=eI n
    have hl:=dV (ls n.Kids)
    rw [mc.eq_1,b28 a t n c (by omega),sm]
    simp only [Bool.not_true,Bool.false_eq_true,if_false]
    have:=Ic a t n (by omega) ih (ls n.Kids).length 0 (c+if n.Kind=6 then 1 else 0) (by omega) (by rw [List.drop_zero];split<;>omega)
    have this':mc (lE a t) (.p1 n ((ls n.Kids).length:Int) 0 (((c+if n.Kind=6 then 1 else 0:Nat):Int),0))=_:=this
    rw [this',List.drop_zero,kE,Nat.add_assoc]
theorem f28 (n:aK) (h:cnt n≤8192):Tf n=some (ck n:Int):=by
 unfold Tf KQ
 rw [sm,WM.eq_1]
 unfold KS Tk
 have:=Xq 0 n n 0 (by omega)
 have this':mc (lE 0 n) (.e n (0,0))=_:=this
 rw [this',sm,sm,if_pos rfl,Nat.zero_add]
def pR (b m:Nat):Int:=if m=0 then 0 else (b:Int)+1
def oG (b m:Nat):Int:=if m=0 then 0 else (b:Int)+m
theorem Ib (n:aK) (ih: ∀k∈ls n.Kids,∀b:Nat,good k b→ko (.e k)=some (pR b (ck k),oG b (ck k))) (b:Nat) (hl:(ls n.Kids).length≤100000):
    ∀(q i m:Nat),q+i=(ls n.Kids).length→eu ((ls n.Kids).drop i) (b+m)→ko (.p2 (pR b m) (oG b m) n.Kids ((ls n.Kids).length:Int) (i:Int))=some (pR b (m+cH ((ls n.Kids).drop i)),oG b (m+cH ((ls n.Kids).drop i)))
  | 0,i,m,h,hg=>by
    rw [ko.eq_3,eU (by omega),List.drop_of_length_le (by omega),cH];rfl
  | q+1,i,m,h,hg=>by
    obtain ⟨k,hk⟩:=bQ (ls n.Kids) (i:=i) (by omega)
    rw [drop_cons hk,eu] at hg
    have step:=Ib n ih b hl q (i+1) (m+ck k) (by omega) (by rw [←Nat.add_assoc];exact hg.2)
    have fin:ko (.p2 (pR b (m+ck k)) (oG b (m+ck k)) n.Kids ((ls n.Kids).length:Int) (IntKind.wrap .i64 ((i:Int)+1)))=some (pR b (m+cH ((ls n.Kids).drop i)),oG b (m+cH ((ls n.Kids).drop i))):=by
      rw [eo i (by omega),step,drop_cons hk,cH,Nat.add_assoc]
    rw [ko.eq_3,dti (by omega),ixs hk,sm,ih k (List.mem_of_getElem? hk) _ hg.1,sm]
    simp only [ko.eq_4]
    generalize ck k=g at *
    by_cases h0:g=0
    · subst h0
      rw [eU (by simp [pR])]
      have:oG (b+m) 0=0:=rfl
      rw [this,if_neg (by unfold oG;split<;>omega)]
      exact fin
    rw [dti (by simp only [pR,if_neg h0];omega)]
    by_cases hm:m=0
    · subst hm
      rw [gf (by rfl)]
      have e1:pR (b+0) g=pR b (0+g):=by simp [pR]
      have e2:(if oG (b+0) g>oG b 0 then oG (b+0) g else oG b 0)=oG b (0+g):=by
        have:oG b 0=0:=rfl
        rw [this,Nat.zero_add,Nat.add_zero];unfold oG;rw [if_neg h0,if_pos (by omega)]
      rw [e1,e2]
      exact fin
    rw [gR (by simp only [pR,if_neg hm];omega),eU (by simp only [pR,if_neg hm,if_neg h0];omega)]
    have e1:pR b m=pR b (m+g):=by simp [pR,hm]
    have e2:(if oG (b+m) g>oG b m then oG (b+m) g else oG b m)=oG b (m+g):=by
      unfold oG;rw [if_neg h0,if_neg hm,if_neg (by omega: ¬m+g=0),if_pos (by omega)];omega
    rw [e2,e1]
    exact fin
theorem Zk: ∀(n:aK) (b:Nat),cnt n≤100000→good n b→ko (.e n)=some (pR b (ck n),oG b (ck n)):=by
  intro n
  induction n using cW with
  | h n ih=>
    intro b hc hg
    have he:=eI n
    have hl:=dV (ls n.Kids)
    rw [gw] at hg
    have ih': ∀k∈ls n.Kids,∀b:Nat,good k b→ko (.e k)=some (pR b (ck k),oG b (ck k)):=fun k hk b h=>ih k hk b (by have:=eW hk;omega) h
    rw [ko.eq_1,kE]
    by_cases h6:n.Kind=6
    · obtain ⟨e,_⟩:=hg.1.2.1 h6
      rw [gf h6,if_pos h6,ko.eq_2]
      have:=Ib n ih' b (by omega) (ls n.Kids).length 0 1 (by omega) (by rw [List.drop_zero];simpa [h6] using hg.2)
      have e1:pR b 1=n.aH:=by rw [e];rfl
      have e2:oG b 1=n.aH:=by rw [e];rfl
      rw [e1,e2,List.drop_zero] at this
      exact this
    rw [gR h6,if_neg h6,ko.eq_2]
    have:=Ib n ih' b (by omega) (ls n.Kids).length 0 0 (by omega) (by rw [List.drop_zero];simpa [h6] using hg.2)
    rw [List.drop_zero] at this
    exact this
mutual
def sz:aK→Nat
  | ⟨k,_,mn,mx,_,o⟩=>
    if k=1 then 0 else if k=3 then RU o else if k=4 then RU o+2*((ls o).length-1) else if k=6 then RU o+2
    else if k=5 then mn.toNat*(RU o+if CS o=0 then 0 else 1)+(if mx= -1 then (RU o+if CS o=0 then 0 else 1)+4 else (mx-mn).toNat*((RU o+if CS o=0 then 0 else 1)+3)) else 1
def RU:Option (List aK)→Nat
 | none=>0
 | some l=>szl l
def szl:List aK→Nat
 | []=>0
 | x::l=>sz x+szl l
end
def cT (k:aK):Nat:=sz k+if ck k=0 then 0 else 1
theorem tu (n:aK):sz n=if n.Kind=1 then 0 else if n.Kind=3 then szl (ls n.Kids) else if n.Kind=4 then szl (ls n.Kids)+2*((ls n.Kids).length-1) else if n.Kind=6 then szl (ls n.Kids)+2
  else if n.Kind=5 then n.Min.toNat*(szl (ls n.Kids)+if cH (ls n.Kids)=0 then 0 else 1)+(if n.Max= -1 then (szl (ls n.Kids)+if cH (ls n.Kids)=0 then 0 else 1)+4 else (n.Max-n.Min).toNat*((szl (ls n.Kids)+if cH (ls n.Kids)=0 then 0 else 1)+3)) else 1:=by
 obtain ⟨_,_,_,_,_,o⟩:=n
 rw [sz]
 cases o with
 | none=>rfl
 | some l=>rfl
def cap (x:Nat):Nat:=min x 16385
theorem pK (x:Nat):cap x≤16385:=by unfold cap;omega
theorem Ky (x y:Nat):cap (cap x+cap y)=cap (x+y):=by unfold cap;omega
theorem iU (x y:Nat):cap (cap x+y)=cap (x+y):=by unfold cap;omega
theorem xo (x y:Nat):cap (x+cap y)=cap (x+y):=by unfold cap;omega
theorem wC (m r:Nat):cap (m*cap r)=cap (m*r):=by
  by_cases h:r≤16385
  · have:cap r=r:=by unfold cap;omega
    rw [this]
  have h1:cap r=16385:=by unfold cap;omega
  rw [h1]
  cases m with
  | zero=>simp
  | succ m=>
    have h2:16385≤(m+1)*16385:=Nat.le_mul_of_pos_left _ (by omega)
    have h3:r≤(m+1)*r:=Nat.le_mul_of_pos_left _ (by omega)
    unfold cap
    omega
theorem Hv (m r:Nat):cap (m*(cap r+3))=cap (m*(r+3)):=by
 have h1:=wC m (r+3)
 have h2:=wC m (cap r+3)
 rw [←h2,iU,h1]
theorem f37 (x q:Nat) (hx:x≤100000000) (hq:q≤100000000):DA (x:Int) (q:Int)=some (cap (q+x):Int):=by
 unfold DA cap
 rw [wi _ (by omega) (by omega)]
 split<;>exact congrArg some (by omega)
theorem Xr (x:Nat) (h:x≤100000000):(if 16385<IntKind.wrap .i64 ((x:Int)+1) then 16385 else IntKind.wrap .i64 ((x:Int)+1))=((cap (x+1):Nat):Int):=by
 rw [eo x (by omega)]
 unfold cap
 split<;>omega
theorem IU {x q:Int} (m k:Nat) (hx:x=m) (hq:q=k) (h1:m≤100000000) (h2:k≤100000000):DA x q=some (cap (k+m):Int):=by subst hx;subst hq;exact f37 m k h1 h2
theorem fT: ∀ {l:List aK} {b:Nat} {k:aK},eu l b→k∈l→ ∃b',good k b'
  | [],b,k,_,h=>by simp at h
  | x::l,b,k,hg,h=>by
    rw [eu] at hg
    rcases List.mem_cons.1 h with rfl | h
    · exact ⟨_,hg.1⟩
    exact fT hg.2 h
theorem Mr (n:aK) (hl:(ls n.Kids).length≤100000) (ih: ∀k∈ls n.Kids,nc (.e k)=some (cap (sz k):Int)):
    ∀(m i a:Nat),m+i=(ls n.Kids).length→nc (.p3 n n.Kids ((ls n.Kids).length:Int) (i:Int) (cap a:Int))=(if n.Kind=4 then DA (IntKind.wrap .i64 (2*(IntKind.wrap .i64 (((ls n.Kids).length:Int)-1)))) (cap (a+szl ((ls n.Kids).drop i)):Int)>>=fun r=>nc (.p4 n r) else nc (.p4 n (cap (a+szl ((ls n.Kids).drop i)):Int)))
  | 0,i,a,h=>by
    rw [nc.eq_4,eU (by omega),List.drop_of_length_le (by omega),szl,Nat.add_zero]
    by_cases h4:n.Kind=4
    · rw [gf h4,if_pos h4]
    rw [gR h4,if_neg h4]
  | m+1,i,a,h=>by
    obtain ⟨k,hk⟩:=bQ (ls n.Kids) (i:=i) (by omega)
    have c1:=pK (sz k)
    have c2:=pK a
    rw [nc.eq_4,dti (by omega),ixs hk,sm,ih k (List.mem_of_getElem? hk),sm,f37 _ _ (by omega) (by omega),sm,eo i (by omega),Ky,Mr n hl ih m (i+1) (a+sz k) (by omega),drop_cons hk,szl,Nat.add_assoc]
theorem g25: ∀(n:aK) (b:Nat),cnt n≤100000→good n b→nc (.e n)=some (cap (sz n):Int):=by
  intro n
  induction n using cW with
  | h n ih=>
    intro b hc hg
    have he:=eI n
    have hl:=dV (ls n.Kids)
    rw [gw] at hg
    have ih': ∀k∈ls n.Kids,nc (.e k)=some (cap (sz k):Int):=fun k hk=>by
      obtain ⟨b',hb'⟩:=fT hg.2 hk
      exact ih k hk b' (by have:=eW hk;omega) hb'
    have hp:=hg.1.1
    have h3:=Mr n (by omega) ih' (ls n.Kids).length 0 0 (by omega)
    rw [List.drop_zero,Nat.zero_add] at h3
    have h3':=(nc.eq_2 n 0).trans h3
    have c1:=pK (szl (ls n.Kids))
    rw [nc.eq_1,tu]
    by_cases k1:n.Kind=1
    · rw [gf k1,if_pos k1];rfl
    rw [gR k1,if_neg k1]
    by_cases k3:n.Kind=3
    · rw [gf k3,if_pos k3,h3',if_neg (by omega),nc.eq_5,gR (by omega)]
    rw [gR k3,if_neg k3]
    by_cases k4:n.Kind=4
    · rw [gf k4,if_pos k4,h3',if_pos k4]
      have hk2:2≤(ls n.Kids).length:=by
        unfold pl at hp
        simp only [k4,or_true,if_true,Bool.and_eq_true,decide_eq_true_eq] at hp
        exact hp.1.1.1
      rw [Cu _ (by omega) (by omega),wi _ (by omega) (by omega),IU (2*((ls n.Kids).length-1)) (cap (szl (ls n.Kids))) (by omega) rfl (by omega) (by omega),sm,iU,nc.eq_5,gR (by omega)]
    rw [gR k4,if_neg k4]
    by_cases k6:n.Kind=6
    · rw [gf k6,if_pos k6,h3',if_neg (by omega),nc.eq_5,gf k6,IU 2 (cap (szl (ls n.Kids))) (show (2:Int)=((2:Nat):Int) from rfl) rfl (by omega) (by omega),sm,iU]
    rw [gR k6,if_neg k6]
    by_cases k5:n.Kind=5
    · rw [gf k5,if_pos k5]
      unfold pl at hp
      simp (config:={decide:=true}) only [k5,or_self,if_false,if_true,Bool.and_eq_true,decide_eq_true_eq] at hp
      obtain ⟨⟨⟨⟨hmm,hk1⟩,_⟩,_⟩,_⟩:=hp
      obtain ⟨k,hk⟩: ∃k,ls n.Kids=[k]:=List.length_eq_one_iff.1 hk1
      have hkm:k∈ls n.Kids:=by simp [hk]
      obtain ⟨b',hb'⟩:=fT hg.2 hkm
      have hck:=eW hkm
      have hix:ix (ls n.Kids) 0=some k:=by rw [hk];rfl
      have e1:szl (ls n.Kids)=sz k:=by rw [hk,szl,szl];rfl
      have e2:cH (ls n.Kids)=ck k:=by rw [hk,cH,cH];rfl
      rw [hix,sm,ih' k hkm,sm,sm]
      unfold Jw
      rw [Zk k b' (by omega) hb',sm,e1,e2]
      have fin: ∀r:Nat,nc (.p2 n (cap r:Int) 0)=some (cap (n.Min.toNat*r+if n.Max= -1 then r+4 else (n.Max-n.Min).toNat*(r+3)):Int):=by
        intro r
        have c2:=pK r
        obtain ⟨mn,hmn⟩:=rI hmm.1
        rw [nc.eq_3,hmn,Int.toNat_natCast]
        have hb1:mn*cap r≤255*16385:=Nat.mul_le_mul (by omega) c2
        rw [←Int.natCast_mul,wi _ (by omega) (by omega),IU (mn*cap r) 0 rfl (show (0:Int)=((0:Nat):Int) from rfl) (by omega) (by omega),sm,Nat.zero_add,wC]
        have c3:=pK (mn*r)
        by_cases hx:n.Max= -1
        · rw [gf hx,if_pos hx,wi _ (by omega) (by omega),IU (cap r+4) (cap (mn*r)) (by omega) rfl (by omega) (by omega),sm,iU,←Nat.add_assoc,Nat.add_comm _ (cap r),Nat.add_assoc,iU]
          exact congrArg (fun x:Nat=>some ((cap x:Nat):Int)) (by omega)
        obtain ⟨d,hd⟩: ∃d:Nat,n.Max-(mn:Int)=d:=⟨(n.Max-(mn:Int)).toNat,by omega⟩
        have hb2:d*(cap r+3)≤255*16388:=Nat.mul_le_mul (by omega) (by omega)
        have e5:(d:Int)*((cap r:Int)+3)=((d*(cap r+3):Nat):Int):=by rw [Int.natCast_mul,Int.natCast_add];rfl
        rw [gR hx,if_neg hx,hd,Int.toNat_natCast,wi (d:Int) (by omega) (by omega),wi ((cap r:Int)+3) (by omega) (by omega),e5,wi _ (by omega) (by omega),IU (d*(cap r+3)) (cap (mn*r)) rfl rfl (by omega) (by omega),sm,iU,←xo,Hv,xo]
      by_cases hg0:ck k=0
      · rw [eU (by simp [pR,hg0]),fin,if_pos hg0];simp only [Nat.add_zero]
      rw [dti (by simp only [pR,if_neg hg0];omega),Xr _ (by have:=pK (sz k);omega),iU,fin,if_neg hg0]
    rw [gR k5,if_neg k5];rfl
theorem f9 (n:aK): ∃r:Int × Int,Oy n=some r∧(∃w:Int,KP n=some w∧(w≠0→r=(0,w))∧(w=0→good n 0∧cnt n≤8192∧r=if sz n<16384 then (((sz n+1:Nat):Int),0) else (0,3))):=by
 obtain ⟨w,hw,h⟩:=f12 n
 unfold Oy
 rw [hw,sm]
 by_cases h0:w=0
 ·obtain ⟨hg,hc⟩:=h h0
  subst h0
  rw [zU rfl]
  unfold Wv
  rw [g25 n 0 (by omega) hg,sm]
  by_cases hs:sz n<16384
  ·have:cap (sz n)=sz n:=by unfold cap;omega
   rw [this,dti (by omega),eo _ (by omega)]
   exact ⟨_,rfl,0,rfl,fun h=>absurd rfl h,fun _=>⟨hg,hc,by rw [if_pos hs]⟩⟩
  have:16384≤cap (sz n):=by unfold cap;omega
  rw [eU (by omega)]
  exact ⟨_,rfl,0,rfl,fun h=>absurd rfl h,fun _=>⟨hg,hc,by rw [if_neg hs]⟩⟩
 rw [BI h0]
 exact ⟨_,rfl,w,rfl,fun _=>rfl,fun h=>absurd h h0⟩
end Go.Proofs.YtcidnoghoifmmaaDoor
end
section
namespace Go.Proofs.YtcidnoghoifmmaaDoor
open Go AW
set_option maxHeartbeats 4000000
abbrev ik (k:Int):aT:={Kind:=k,Set:=an.rep 4 0,To:=0,aH:=0,bP:=0,Slot:=0}
abbrev fq (k t:Int):aT:={Kind:=k,Set:=an.rep 4 0,To:=t,aH:=0,bP:=0,Slot:=0}
abbrev Im (k g:Int):aT:={Kind:=k,Set:=an.rep 4 0,To:=0,aH:=g,bP:=0,Slot:=0}
abbrev Zn (g l:Int):aT:={Kind:=6,Set:=an.rep 4 0,To:=0,aH:=g,bP:=l,Slot:=0}
abbrev Io (k s:Int):aT:={Kind:=k,Set:=an.rep 4 0,To:=0,aH:=0,bP:=0,Slot:=s}
abbrev Qz (s:an 4 Int):aT:={Kind:=1,Set:=s,To:=0,aH:=0,bP:=0,Slot:=0}
noncomputable def lh (k:aK):Int × Int:=(Jw k).getD (0,0)
def nG (l:Int × Int):List aT:=if l.1>0 then [Zn l.1 l.2] else []
def mW (f:Nat→Nat→List aT) (l:Int × Int) (a fr:Nat):List aT:=nG l++f (a+(nG l).length) fr
def jA (f:Nat→Nat→List aT) (l:Int × Int) (a fr:Nat):List aT:=Io 7 fr::(mW f l (a+1) (fr+1)++[Io 8 fr])
def jB (f:Nat→Nat→List aT) (l:Int × Int) (r fr:Nat):Nat→Nat→List aT
 | 0,_=>[]
 | m+1,a=>mW f l a fr++jB f l r fr m (a+r)
def opts (f:Nat→Nat→List aT) (l:Int × Int) (r fr:Nat) (e:Nat):Nat→Nat→List aT
 | 0,_=>[]
 | m+1,a=>fq 2 e::(jA f l (a+1) fr++opts f l r fr e m (a+r+3))
def yx (f:Nat→Nat→List aT) (l:Int × Int) (r:Nat) (mn mx:Int) (a fr:Nat):List aT:=
 jB f l r fr mn.toNat a++
 if mx= -1 then fq 2 ((a+mn.toNat*r+r+4:Nat):Int)::(jA f l (a+mn.toNat*r+1) fr++[fq 3 ((a+mn.toNat*r:Nat):Int)])
 else opts f l r fr (a+mn.toNat*r+(mx-mn).toNat*(r+3)) (mx-mn).toNat (a+mn.toNat*r)
mutual
noncomputable def cd:aK→Nat→Nat→List aT
  | ⟨k,st,mn,mx,g,o⟩,a,fr=>
    if k=1 then [] else if k=2 then [Qz st] else if k=3 then cdo o a fr else if k=4 then alo o (a+RU o+2*((ls o).length-1)) a fr else if k=5 then rpo o mn mx a fr
    else if k=6 then Im 4 g::(cho o (a+1) fr++[Im 5 g]) else if k=7 then [Im 9 g] else if k=8 then [ik 10] else if k=9 then [ik 11] else []
noncomputable def cdo:Option (List aK)→Nat→Nat→List aT
 | none,_,_=>[]
 | some l,a,fr=>Ab l a fr
noncomputable def Ab:List aK→Nat→Nat→List aT
 | [],_,_=>[]
 | x::l,a,fr=>cd x a fr++Ab l (a+sz x) fr
noncomputable def alo:Option (List aK)→Nat→Nat→Nat→List aT
 | none,_,_,_=>[]
 | some l,e,a,fr=>all l e a fr
noncomputable def all:List aK→Nat→Nat→Nat→List aT
 | [],_,_,_=>[]
 | x::l,e,a,fr=>if l.isEmpty then cd x a fr else fq 2 ((a+sz x+2:Nat):Int)::(cd x (a+1) fr++fq 3 e::all l e (a+sz x+2) fr)
noncomputable def rpo:Option (List aK)→Int→Int→Nat→Nat→List aT
 | none,_,_,_,_=>[]
 | some l,mn,mx,a,fr=>RO l mn mx a fr
noncomputable def RO:List aK→Int→Int→Nat→Nat→List aT
 | [],_,_,_,_=>[]
 | x::_,mn,mx,a,fr=>yx (cd x) (lh x) (cT x) mn mx a fr
noncomputable def cho:Option (List aK)→Nat→Nat→List aT
 | none,_,_=>[]
 | some l,a,fr=>Rp l a fr
noncomputable def Rp:List aK→Nat→Nat→List aT
 | [],_,_=>[]
 | x::_,a,fr=>cd x a fr
end
theorem xp (n:aK) (a fr:Nat):cd n a fr=if n.Kind=1 then [] else if n.Kind=2 then [Qz n.Set] else if n.Kind=3 then Ab (ls n.Kids) a fr else if n.Kind=4 then all (ls n.Kids) (a+szl (ls n.Kids)+2*((ls n.Kids).length-1)) a fr else if n.Kind=5 then RO (ls n.Kids) n.Min n.Max a fr
  else if n.Kind=6 then Im 4 n.aH::(Rp (ls n.Kids) (a+1) fr++[Im 5 n.aH]) else if n.Kind=7 then [Im 9 n.aH] else if n.Kind=8 then [ik 10] else if n.Kind=9 then [ik 11] else []:=by
 obtain ⟨k,st,mn,mx,g,o⟩:=n
 rw [cd]
 cases o with
 | none=>rfl
 | some l=>rfl
mutual
def dep:aK→Nat
 | ⟨k,_,mn,mx,_,o⟩=>if k=5 then (if mx= -1∨mn<mx then Qc o+1 else if 0<mn then Qc o else 0) else Qc o
def Qc:Option (List aK)→Nat
 | none=>0
 | some l=>cP l
def cP:List aK→Nat
 | []=>0
 | x::l=>max (dep x) (cP l)
end
theorem wF (n:aK):dep n=if n.Kind=5 then (if n.Max= -1∨n.Min<n.Max then cP (ls n.Kids)+1 else if 0<n.Min then cP (ls n.Kids) else 0) else cP (ls n.Kids):=by
 obtain ⟨_,_,_,_,_,o⟩:=n
 rw [dep]
 cases o with
 | none=>rfl
 | some l=>rfl
theorem oU {n:aK} (h:pl n=true):(n.Kind=3∨n.Kind=4)∧2≤(ls n.Kids).length∨n.Kind=5∧(0≤n.Min∧n.Min≤255∧(n.Max= -1∨n.Min≤n.Max∧n.Max≤255))∧(ls n.Kids).length=1∨n.Kind=6∧(ls n.Kids).length=1∨(n.Kind=1∨n.Kind=2∨n.Kind=7∨n.Kind=8∨n.Kind=9)∧(ls n.Kids).length=0:=by
 unfold pl at h
 simp only [Bool.and_eq_true] at h
 have h1:=h.1.1.1
 split at h1
 ·exact .inl ⟨by assumption,by simpa using h1⟩
 split at h1
 ·simp only [Bool.and_eq_true,decide_eq_true_eq] at h1
  exact .inr (.inl ⟨by assumption,h1⟩)
 split at h1
 ·exact .inr (.inr (.inl ⟨by assumption,by simpa using h1⟩))
 split at h1
 ·exact .inr (.inr (.inr ⟨by assumption,by simpa using h1⟩))
 cases h1
theorem f38 {k:aK} {b:Nat} (hc:cnt k≤100000) (h:good k b):Jw k=some (lh k)∧lh k=(pR b (ck k),oG b (ck k)):=by
 have:Jw k=some (pR b (ck k),oG b (ck k)):=Zk k b hc h
 unfold lh
 rw [this]
 exact ⟨rfl,rfl⟩
theorem rC {k:aK} {b:Nat} (hc:cnt k≤100000) (h:good k b):(nG (lh k)).length=if ck k=0 then 0 else 1:=by
 rw [(f38 hc h).2]
 unfold nG pR
 by_cases h0:ck k=0
 ·simp [h0]
 rw [if_neg h0,if_neg h0,if_pos (show (b:Int)+1>0 by omega)];rfl
theorem oa {f:Nat→Nat→List aT} {l:Int × Int} {s:Nat} (hf: ∀a fr,(f a fr).length=s) (a fr:Nat):(mW f l a fr).length=s+(nG l).length:=by
 unfold mW;rw [List.length_append,hf];omega
theorem jL {f:Nat→Nat→List aT} {l:Int × Int} {s:Nat} (hf: ∀a fr,(f a fr).length=s) (a fr:Nat):(jA f l a fr).length=s+(nG l).length+2:=by
 unfold jA;rw [List.length_cons,List.length_append,oa hf];simp
theorem lY {f:Nat→Nat→List aT} {l:Int × Int} {s:Nat} (hf: ∀a fr,(f a fr).length=s) (r fr:Nat) (hr:r=s+(nG l).length): ∀m a,(jB f l r fr m a).length=m*r
 | 0,a=>by simp [jB]
 | m+1,a=>by rw [jB,List.length_append,oa hf,lY hf r fr hr m,Nat.add_mul,←hr];omega
theorem oQ {f:Nat→Nat→List aT} {l:Int × Int} {s:Nat} (hf: ∀a fr,(f a fr).length=s) (r fr e:Nat) (hr:r=s+(nG l).length): ∀m a,(opts f l r fr e m a).length=m*(r+3)
 | 0,a=>by simp [opts]
 | m+1,a=>by rw [opts,List.length_cons,List.length_append,jL hf,oQ hf r fr e hr m,Nat.add_mul,←hr];omega
theorem JZ {f:Nat→Nat→List aT} {l:Int × Int} {s:Nat} (hf: ∀a fr,(f a fr).length=s) (r:Nat) (hr:r=s+(nG l).length) (mn mx:Int) (a fr:Nat):(yx f l r mn mx a fr).length=mn.toNat*r+if mx= -1 then r+4 else (mx-mn).toNat*(r+3):=by
 unfold yx
 rw [List.length_append,lY hf r fr hr]
 split
 ·rw [List.length_cons,List.length_append,jL hf,←hr];simp
 rw [oQ hf r fr _ hr]
theorem CG: ∀(l:List aK),(∀k∈l,∀a fr,(cd k a fr).length=sz k)→ ∀a fr,(Ab l a fr).length=szl l
 | [],_,a,fr=>by rw [Ab,szl];rfl
 | x::l,h,a,fr=>by rw [Ab,szl,List.length_append,h x (by simp),CG l fun k hk=>h k (by simp [hk])]
theorem Bv: ∀(l:List aK),(∀k∈l,∀a fr,(cd k a fr).length=sz k)→ ∀e a fr,(all l e a fr).length=szl l+2*(l.length-1)
  | [],_,e,a,fr=>by rw [all,szl];rfl
  | [x],h,e,a,fr=>by rw [all,if_pos (show ([]:List aK).isEmpty=true from rfl),szl,szl,h x (by simp)];simp
  | x::y::l,h,e,a,fr=>by
    have e1:szl (x::y::l)=sz x+szl (y::l):=by rw [szl]
    rw [all,if_neg (by simp),List.length_cons,List.length_append,List.length_cons,h x (by simp),Bv (y::l) (fun k hk=>h k (by simp at hk ⊢;right;exact hk)),e1]
    simp;omega
theorem lH: ∀(n:aK) (b:Nat),cnt n≤100000→good n b→ ∀a fr,(cd n a fr).length=sz n:=by
  intro n
  induction n using cW with
  | h n ih=>
    intro b hc hg a fr
    rw [gw] at hg
    have ih': ∀k∈ls n.Kids,∀a fr,(cd k a fr).length=sz k:=fun k hk=>by
      obtain ⟨b',hb'⟩:=fT hg.2 hk
      exact ih k hk b' (by have:=eW hk;omega) hb'
    rw [xp,tu]
    rcases oU hg.1.1 with ⟨h,hk⟩ | ⟨h,hm,hk⟩ | ⟨h,hk⟩ | ⟨h,hk⟩
    · rcases h with h | h
      · simp (config:={decide:=true}) only [h,if_true,if_false];exact CG _ ih' _ _
      simp (config:={decide:=true}) only [h,if_true,if_false];exact Bv _ ih' _ _ _
    · obtain ⟨k,hk⟩: ∃k,ls n.Kids=[k]:=List.length_eq_one_iff.1 hk
      have hkm:k∈ls n.Kids:=by simp [hk]
      obtain ⟨b',hb'⟩:=fT hg.2 hkm
      have hcl:=rC (by have:=eW hkm;omega) hb'
      simp (config:={decide:=true}) only [h,if_true,if_false]
      rw [hk,RO,JZ (s:=sz k) (ih' k hkm) _ (by rw [hcl];rfl)]
      have e1:szl [k]=sz k:=by rw [szl,szl];rfl
      have e2:cH [k]=ck k:=by rw [cH,cH];rfl
      rw [e1,e2];rfl
    · obtain ⟨k,hk⟩: ∃k,ls n.Kids=[k]:=List.length_eq_one_iff.1 hk
      have hkm:k∈ls n.Kids:=by simp [hk]
      simp (config:={decide:=true}) only [h,if_true,if_false]
      have e1:szl [k]=sz k:=by rw [szl,szl];rfl
      rw [hk,Rp,List.length_cons,List.length_append,ih' k hkm,e1];simp
    rcases h with h | h | h | h | h<;>simp (config:={decide:=true}) only [h,if_true,if_false,List.length_cons,List.length_nil]
end Go.Proofs.YtcidnoghoifmmaaDoor
end
section
namespace Go.Proofs.YtcidnoghoifmmaaDoor
open Go AW
set_option maxHeartbeats 4000000
theorem Ig (n:aK) (hl:(ls n.Kids).length≤100000) (ih: ∀k∈ls n.Kids,rA (.e k)=ko (.e k)): ∀(m i:Nat) (low high:Int),m+i=(ls n.Kids).length→rA (.p2 n low high (i:Int))=ko (.p2 low high n.Kids ((ls n.Kids).length:Int) (i:Int))
  | 0,i,low,high,h=>by rw [rA.eq_3,ko.eq_3,eU (by omega),eU (by omega)]
  | m+1,i,low,high,h=>by
    obtain ⟨k,hk⟩:=bQ (ls n.Kids) (i:=i) (by omega)
    have st: ∀(low high b:Int),rA (.p3 n low high (i:Int) b)=ko (.p3 low high b n.Kids ((ls n.Kids).length:Int) (i:Int)):=fun low high b=>by
      rw [rA.eq_4,ko.eq_4,eo i (by omega),Ig n hl ih m (i+1) low b (by omega),Ig n hl ih m (i+1) low high (by omega)]
      by_cases hb:b>high
      · rw [dti hb,if_pos hb]
      rw [eU hb,if_neg hb]
    rw [rA.eq_3,ko.eq_3,dti (by omega),dti (by omega),ixs hk,sm,sm,ih k (List.mem_of_getElem? hk)]
    simp only [st]
theorem g65: ∀n:aK,cnt n≤100000→rA (.e n)=ko (.e n):=by
  intro n
  induction n using cW with
  | h n ih=>
    intro hc
    have h1:=eI n
    have h2:=dV (ls n.Kids)
    have h:=fun low high=>Ig n (by omega) (fun k hk=>ih k hk (by have:=eW hk;omega)) (ls n.Kids).length 0 low high (by omega)
    have h': ∀low high,rA (.p2 n low high 0)=ko (.p2 low high n.Kids ((ls n.Kids).length:Int) 0):=h
    rw [rA.eq_1,ko.eq_1,rA.eq_2,rA.eq_2,ko.eq_2,ko.eq_2,h',h']
theorem f65 {n:aK} (hc:cnt n≤100000):Rg n=Jw n:=g65 n hc
def dD (x:Nat):Nat:=min x 1073741824
theorem nk (x:Nat):dD x≤1073741824:=by unfold dD;omega
theorem Hw (x y:Nat):dD (dD x+dD y)=dD (x+y):=by unfold dD;omega
theorem mN (x y:Nat):dD (dD x+y)=dD (x+y):=by unfold dD;omega
theorem Hu (M m d r:Nat):min (m*min r M+d*(min r M+3)) M=min (m*r+d*(r+3)) M:=by
 by_cases h:r≤M
 ·rw [Nat.min_eq_left h]
 rw [Nat.min_eq_right (by omega:M≤r)]
 by_cases hm:m=0
 ·subst hm
  by_cases hd:d=0
  ·subst hd;simp
  have a1:M+3≤d*(M+3):=Nat.le_mul_of_pos_left _ (by omega)
  have a2:r+3≤d*(r+3):=Nat.le_mul_of_pos_left _ (by omega)
  omega
 have a1:M≤m*M:=Nat.le_mul_of_pos_left _ (by omega)
 have a2:r≤m*r:=Nat.le_mul_of_pos_left _ (by omega)
 omega
theorem sJ (m d r:Nat):dD (m*dD r+d*(dD r+3))=dD (m*r+d*(r+3)):=Hu 1073741824 m d r
theorem DZ (M m r:Nat):min (m*min r M+min r M+4) M=min (m*r+r+4) M:=by
 by_cases h:r≤M
 ·rw [Nat.min_eq_left h]
 rw [Nat.min_eq_right (by omega:M≤r)]
 omega
theorem pL (m r:Nat):dD (m*dD r+dD r+4)=dD (m*r+r+4):=DZ 1073741824 m r
theorem f99 {z:Int} (x:Nat) (h:z=(x:Int)):Jx z=some (dD x:Int):=by
 subst h
 unfold Jx
 by_cases e:(x:Int)>1073741824
 ·rw [dti e]
  have:dD x=1073741824:=by unfold dD;omega
  rw [this];rfl
 rw [eU e]
 have:dD x=x:=by unfold dD;omega
 rw [this]
theorem NB (n:aK) (hl:(ls n.Kids).length≤100000) (ih: ∀k∈ls n.Kids,vg (.e k)=some (dD (sz k):Int)):
    ∀(m i a:Nat),m+i=(ls n.Kids).length→vg (.p1 n (dD a:Int) (i:Int))=vg (.p1 n (dD (a+szl ((ls n.Kids).drop i)):Int) ((ls n.Kids).length:Int))
  | 0,i,a,h=>by
    have:i=(ls n.Kids).length:=by omega
    subst this
    rw [List.drop_length,szl,Nat.add_zero]
  | m+1,i,a,h=>by
    obtain ⟨k,hk⟩:=bQ (ls n.Kids) (i:=i) (by omega)
    have c1:=nk (sz k)
    have c2:=nk a
    rw [vg.eq_2 n _ (i:Int),dti (by omega),ixs hk,sm,ih k (List.mem_of_getElem? hk),sm,wi _ (by omega) (by omega),f99 (dD a+dD (sz k)) (by omega),sm,eo i (by omega),Hw,NB n hl ih m (i+1) (a+sz k) (by omega),drop_cons hk,szl,Nat.add_assoc]
theorem g90: ∀(n:aK) (b:Nat),cnt n≤100000→good n b→vg (.e n)=some (dD (sz n):Int):=by
  intro n
  induction n using cW with
  | h n ih=>
    intro b hc hg
    have he:=eI n
    have hl:=dV (ls n.Kids)
    have hgn:=hg
    rw [gw] at hg
    have ih': ∀k∈ls n.Kids,vg (.e k)=some (dD (sz k):Int):=fun k hk=>by
      obtain ⟨b',hb'⟩:=fT hg.2 hk
      exact ih k hk b' (by have:=eW hk;omega) hb'
    have hp:=hg.1.1
    have h3:=NB n (by omega) ih' (ls n.Kids).length 0 0 (by omega)
    rw [List.drop_zero,Nat.zero_add] at h3
    have h3':vg (.p1 n 0 0)=_:=h3
    have c1:=nk (szl (ls n.Kids))
    rw [vg.eq_1,h3',vg.eq_2,eU (by omega),tu]
    by_cases k1:n.Kind=1
    · rw [gf k1,if_pos k1];rfl
    rw [gR k1,if_neg k1]
    by_cases k3:n.Kind=3
    · rw [gf k3,if_pos k3]
    rw [gR k3,if_neg k3]
    by_cases k6:n.Kind=6
    · rw [gf k6,if_neg (by omega),if_pos k6,wi _ (by omega) (by omega),f99 (dD (szl (ls n.Kids))+2) (by omega),sm,mN]
    rw [gR k6]
    by_cases k4:n.Kind=4
    · have hk2:2≤(ls n.Kids).length:=by
        unfold pl at hp
        simp only [k4,or_true,if_true,Bool.and_eq_true,decide_eq_true_eq] at hp
        exact hp.1.1.1
      rw [gf k4,if_pos k4,Cu _ (by omega) (by omega),wi (2*_) (by omega) (by omega),wi _ (by omega) (by omega),f99 (dD (szl (ls n.Kids))+2*((ls n.Kids).length-1)) (by omega),sm,mN]
    rw [gR k4,if_neg k4,if_neg k6]
    by_cases k5:n.Kind=5
    · rw [gf k5,if_pos k5,f65 hc,(f38 hc hgn).1,sm,(f38 hc hgn).2]
      unfold pl at hp
      simp (config:={decide:=true}) only [k5,or_self,if_false,if_true,Bool.and_eq_true,decide_eq_true_eq] at hp
      obtain ⟨⟨⟨⟨hmm,hk1⟩,_⟩,_⟩,_⟩:=hp
      have hgk:ck n=cH (ls n.Kids):=by rw [kE,if_neg k6,Nat.zero_add]
      have fin: ∀r:Nat,r≤2000000000→vg (.p2 n (r:Int))=some (dD (n.Min.toNat*r+if n.Max= -1 then r+4 else (n.Max-n.Min).toNat*(r+3)):Int):=by
        intro r hr
        have c2:=nk r
        obtain ⟨mn,hmn⟩:=rI hmm.1
        have hb1:mn*dD r≤255*1073741824:=Nat.mul_le_mul (by omega) c2
        rw [vg.eq_3,f99 r rfl,sm,hmn,Int.toNat_natCast,←Int.natCast_mul,wi ((mn*dD r:Nat):Int) (by omega) (by omega)]
        by_cases hx:n.Max= -1
        · rw [dti (by omega),if_pos hx,wi (((mn*dD r:Nat):Int)+(dD r:Int)) (by omega) (by omega),wi _ (by omega) (by omega),f99 (mn*dD r+dD r+4) (by omega),sm,pL,Nat.add_assoc]
        obtain ⟨d,hd⟩: ∃d:Nat,n.Max-(mn:Int)=d:=⟨(n.Max-(mn:Int)).toNat,by omega⟩
        have hb2:d*(dD r+3)≤255*1073741827:=Nat.mul_le_mul (by omega) (by omega)
        have e5:(d:Int)*((dD r:Int)+3)=((d*(dD r+3):Nat):Int):=by rw [Int.natCast_mul,Int.natCast_add];rfl
        rw [eU (by omega),if_neg hx,hd,Int.toNat_natCast,wi (d:Int) (by omega) (by omega),wi ((dD r:Int)+3) (by omega) (by omega),e5,wi (((d*(dD r+3):Nat):Int)) (by omega) (by omega),wi _ (by omega) (by omega),f99 (mn*dD r+d*(dD r+3)) (by omega),sm,sJ]
      have hcap: ∀t:Nat,dD (n.Min.toNat*(dD (szl (ls n.Kids))+t)+if n.Max= -1 then dD (szl (ls n.Kids))+t+4 else (n.Max-n.Min).toNat*(dD (szl (ls n.Kids))+t+3))=dD (n.Min.toNat*(szl (ls n.Kids)+t)+if n.Max= -1 then szl (ls n.Kids)+t+4 else (n.Max-n.Min).toNat*(szl (ls n.Kids)+t+3)):=by
        intro t
        by_cases hx:n.Max= -1
        · have e1:=pL n.Min.toNat (dD (szl (ls n.Kids))+t)
          rw [mN] at e1
          have e3:=e1.symm.trans (pL n.Min.toNat (szl (ls n.Kids)+t))
          rw [if_pos hx,if_pos hx]
          simpa only [Nat.add_assoc] using e3
        rw [if_neg hx,if_neg hx,←sJ _ _ (dD (szl (ls n.Kids))+t),←sJ _ _ (szl (ls n.Kids)+t),mN]
      by_cases hg0:cH (ls n.Kids)=0
      · rw [eU (by simp [pR,hgk,hg0]),fin _ (by omega),if_pos hg0]
        have:=hcap 0
        simp only [Nat.add_zero] at this ⊢
        rw [this]
      rw [dti (by simp only [pR,hgk,if_neg hg0];omega),eo _ (by omega),fin _ (by omega),if_neg hg0,hcap 1]
    rw [gR k5,if_neg k5];rfl
theorem f64 (n:aK) (hc:cnt n≤10000000):Ti n=Oy n:=by
 obtain ⟨r,hr,w,hw,h1,h2⟩:=f9 n
 unfold Ti
 rw [f89 n hc,hw,sm,hr]
 by_cases h0:w=0
 ·obtain ⟨hg,hc8,he⟩:=h2 h0
  unfold XF
  have cl:=nk (sz n)
  rw [zU h0,g90 n 0 (by omega) hg,sm,eo _ (by omega),he]
  by_cases hs:sz n<16384
  ·have:dD (sz n)=sz n:=by unfold dD;omega
   rw [this,eU (by omega),if_pos hs]
  have:16384≤dD (sz n):=by unfold dD;omega
  rw [dti (by omega),if_neg hs]
 rw [BI h0,h1 h0]
end Go.Proofs.YtcidnoghoifmmaaDoor
end
section
namespace Go.Proofs.YtcidnoghoifmmaaDoor
open Go AW
set_option maxHeartbeats 4000000
def di (L:List Nat):List Int:=L.map fun (n:Nat)=>(n:Int)
theorem sW (L:List Nat):(di L).length=L.length:=by simp [di]
def Co (L:List aT) (s fr:Nat):dr:={code:=so L,slots:=(s:Int),free:=(fr:Int)}
theorem kA (L:List aT) (s fr:Nat):ls (Co L s fr).code=L:=bq L
theorem Ct {α :Type} (L:List α) (i:Nat) (v: α):dF (so L) (i:Int) v=so (L.set i v):=by cases L<;>simp [so,dF]<;>cases i<;>rfl
theorem f27 (L:List aT) (s fr:Nat) (x:aT) (h:L.length≤100000):ve (Co L s fr) x=some ((L.length:Int),Co (L++[x]) s fr):=by
 have e:ls (some [x])=[x]:=rfl
 unfold ve
 rw [kA,if_pos (by rw [e];simp;omega),e]
 have e2:bW (Co L s fr).code [x]=so (L++[x]):=eC L [x]
 rw [e2,bq,List.length_append,List.length_singleton,Cu _ (by omega) (by omega)]
 rfl
theorem Lp {α :Type} (A B:List α) (x y: α):(A++x::B).set A.length y=A++y::B:=by simp
theorem kF {α :Type} (A B:List α) (x: α):(A++x::B)[A.length]? =some x:=by simp
def Pn (n:aK):Prop:= ∀(L:List aT) (s fr:Nat),L.length+sz n≤16384→fr≤L.length→fr≤s→bu (.yB (Co L s fr) n)=some (Co (L++cd n L.length fr) (max s (fr+dep n)) fr)
def Ln (n:aK):Prop:= ∀a fr,(cd n a fr).length=sz n
theorem Zs (n:aK) (hl:(ls n.Kids).length≤100000) (ih: ∀k∈ls n.Kids,Pn k∧Ln k): ∀(m i:Nat) (L:List aT) (s fr:Nat),m+i=(ls n.Kids).length→L.length+szl ((ls n.Kids).drop i)≤16384→fr≤L.length→fr≤s→
    bu (.tK n.Kids ((ls n.Kids).length:Int) (i:Int) (Co L s fr))=some (Co (L++Ab ((ls n.Kids).drop i) L.length fr) (max s (fr+cP ((ls n.Kids).drop i))) fr)
  | 0,i,L,s,fr,h,hs,hf,hfs=>by
    rw [bu.eq_3,eU (by omega),List.drop_of_length_le (by omega),Ab,cP,List.append_nil,Nat.add_zero,Nat.max_eq_left hfs]
  | m+1,i,L,s,fr,h,hs,hf,hfs=>by
    obtain ⟨k,hk⟩:=bQ (ls n.Kids) (i:=i) (by omega)
    obtain ⟨pk,lk⟩:=ih k (List.mem_of_getElem? hk)
    rw [drop_cons hk,szl] at hs
    have hlk:=lk L.length fr
    have hll:(L++cd k L.length fr).length=L.length+sz k:=by rw [List.length_append,hlk]
    rw [bu.eq_3,dti (by omega),ixs hk,sm,pk L s fr (by omega) hf hfs,sm,eo i (by omega),Zs n hl ih m (i+1) _ _ fr (by omega) (by omega) (by omega) (by omega),drop_cons hk,Ab,cP,hll,List.append_assoc]
    have e:max (max s (fr+dep k)) (fr+cP ((ls n.Kids).drop (i+1)))=max s (fr+max (dep k) (cP ((ls n.Kids).drop (i+1)))):=by omega
    rw [e]
def pat (e:Nat) (C:List aT) (p:Nat):List aT:=match C[p]? with
 | some x=>C.set p {x with To:=(e:Int)}
 | none=>C
theorem jN (e:Nat) (C:List aT) (p:Nat):(pat e C p).length=C.length:=by unfold pat;split<;>simp
theorem kK (e:Nat) (A B:List aT) (x:aT):pat e (A++x::B) A.length=A++{x with To:=(e:Int)}::B:=by
 unfold pat;rw [kF];simp only;rw [Lp]
theorem wk {C:List aT} {p:Nat} {x:aT} (s fr:Nat) (h:C[p]? =some x):({Co C s fr with code:=(dF (Co C s fr).code (p:Int) ({x with To:=(C.length:Int)}:aT))}:dr)=Co (pat C.length C p) s fr:=by
 unfold pat;rw [h];simp only [Co];rw [Ct]
theorem Nb (O:List Nat) (hO:O.length≤1000000): ∀(m i:Nat) (C:List aT) (s fr:Nat),m+i=O.length→(∀p∈O,p<C.length)→
    bu (.qQ (so (di O)) (O.length:Int) (i:Int) (Co C s fr))=some (Co ((O.drop i).foldl (pat C.length) C) s fr)
  | 0,i,C,s,fr,h,hp=>by
    rw [bu.eq_7,eU (by omega),List.drop_of_length_le (by omega)];rfl
  | m+1,i,C,s,fr,h,hp=>by
    obtain ⟨p,hpi⟩:=bQ O (i:=i) (by omega)
    obtain ⟨x,hx⟩:=bQ C (hp p (List.mem_of_getElem? hpi))
    rw [bu.eq_7,dti (by omega),bq,ixs (c:=(p:Int)) (by simp [di,hpi]),sm,kA,ixs hx,sm,wk s fr hx,eo i (by omega),Nb O hO m (i+1) _ s fr (by omega) (by simpa [jN] using hp),jN,drop_cons hpi];rfl
theorem Nf (O:List Nat) (hO:O.length≤1000000): ∀(m i:Nat) (C:List aT) (s fr:Nat),m+i=O.length→(∀p∈O,p<C.length)→
    bu (.qR (so (di O)) (O.length:Int) (i:Int) (Co C s fr))=some (Co ((O.drop i).foldl (pat C.length) C) s fr)
  | 0,i,C,s,fr,h,hp=>by
    rw [bu.eq_12,eU (by omega),List.drop_of_length_le (by omega)];rfl
  | m+1,i,C,s,fr,h,hp=>by
    obtain ⟨p,hpi⟩:=bQ O (i:=i) (by omega)
    obtain ⟨x,hx⟩:=bQ C (hp p (List.mem_of_getElem? hpi))
    rw [bu.eq_12,dti (by omega),bq,ixs (c:=(p:Int)) (by simp [di,hpi]),sm,kA,ixs hx,sm,wk s fr hx,eo i (by omega),Nf O hO m (i+1) _ s fr (by omega) (by simpa [jN] using hp),jN,drop_cons hpi];rfl
noncomputable def lF:List aK→Nat→Nat→Nat→List aT
 | [],_,_,_=>[]
 | x::l,e,a,fr=>fq 2 ((a+sz x+2:Nat):Int)::(cd x (a+1) fr++fq 3 e::lF l e (a+sz x+2) fr)
def jps:List aK→Nat→List Nat
 | [],_=>[]
 | x::l,a=>(a+sz x+1)::jps l (a+sz x+2)
theorem wN: ∀(l:List aK) a,(jps l a).length=l.length
 | [],_=>rfl
 | x::l,a=>by rw [jps,List.length_cons,wN l,List.length_cons]
theorem vp: ∀(l:List aK),(∀k∈l,Ln k)→ ∀e a fr,(lF l e a fr).length=szl l+2*l.length
  | [],_,e,a,fr=>by rw [lF,szl];rfl
  | x::l,h,e,a,fr=>by
    rw [lF,List.length_cons,List.length_append,List.length_cons,h x (by simp),vp l (fun k hk=>h k (by simp [hk])),szl]
    simp;omega
theorem pG: ∀(l:List aK) (k:aK) (e a fr:Nat),all (l++[k]) e a fr=lF l e a fr++cd k (a+szl l+2*l.length) fr
  | [],k,e,a,fr=>by
    rw [List.nil_append,all,if_pos (show ([]:List aK).isEmpty=true from rfl),lF,szl];rfl
  | x::l,k,e,a,fr=>by
    rw [List.cons_append,all,if_neg (by simp),pG l k,lF,szl]
    have e1:a+sz x+2+szl l+2*l.length=a+(sz x+szl l)+2*(x::l).length:=by simp;omega
    rw [e1];simp
theorem Ar: ∀(l:List aK) (a:Nat),∀p∈jps l a,p<a+szl l+2*l.length
  | [],a,p,h=>by simp [jps] at h
  | x::l,a,p,h=>by
    rw [jps] at h
    rw [szl,List.length_cons]
    rcases List.mem_cons.1 h with rfl | h
    · omega
    have:=Ar l _ p h;omega
theorem vq (e e0 fr:Nat): ∀(l:List aK),(∀k∈l,Ln k)→ ∀(A B:List aT),(jps l A.length).foldl (pat e) (A++(lF l e0 A.length fr++B))=A++(lF l e A.length fr++B)
  | [],_,A,B=>by rw [jps,lF,lF];rfl
  | x::l,h,A,B=>by
    have hx:=h x (by simp) (A.length+1) fr
    rw [jps,lF,lF,List.foldl_cons]
    have e1:A++(fq 2 ((A.length+sz x+2:Nat):Int)::(cd x (A.length+1) fr++fq 3 e0::lF l e0 (A.length+sz x+2) fr)++B)=(A++fq 2 ((A.length+sz x+2:Nat):Int)::cd x (A.length+1) fr)++fq 3 e0::(lF l e0 (A.length+sz x+2) fr++B):=by simp
    have e2:A.length+sz x+1=(A++fq 2 ((A.length+sz x+2:Nat):Int)::cd x (A.length+1) fr).length:=by simp [hx];omega
    rw [e1,e2,kK]
    have e3:(A++fq 2 ((A.length+sz x+2:Nat):Int)::cd x (A.length+1) fr)++fq 3 e::(lF l e0 (A.length+sz x+2) fr++B)=(A++fq 2 ((A.length+sz x+2:Nat):Int)::(cd x (A.length+1) fr++[fq 3 e]))++(lF l e0 (A.length+sz x+2) fr++B):=by simp
    have e4:A.length+sz x+2=(A++fq 2 ((A.length+sz x+2:Nat):Int)::(cd x (A.length+1) fr++[fq 3 e])).length:=by simp [hx];omega
    have ihh:=vq e e0 fr l (fun k hk=>h k (by simp [hk])) (A++fq 2 ((A.length+sz x+2:Nat):Int)::(cd x (A.length+1) fr++[fq 3 e])) B
    rw [←e4] at ihh
    have e5:(({fq 3 e0 with To:=(e:Int)}:aT))=fq 3 e:=rfl
    rw [e5,e3,ihh]
    simp
theorem sN: ∀(l:List aK) (k:aK),cP (l++[k])=max (cP l) (dep k)
 | [],k=>by simp [cP]
 | x::l,k=>by rw [List.cons_append,cP,sN l,cP];omega
theorem ou: ∀(l:List aK) (k:aK),szl (l++[k])=szl l+sz k
 | [],k=>by simp [szl]
 | x::l,k=>by rw [List.cons_append,szl,ou l,szl];omega
theorem Na (n:aK) (last:Int) (W:Sl aK) (F:List aK) (hW:ls W=F) (hl:F.length≤100000) (ih: ∀k∈F,Pn k∧Ln k): ∀(m i:Nat) (L:List aT) (s fr:Nat) (O:List Nat),m+i=F.length→L.length+szl (F.drop i)+2*(F.drop i).length≤16384→fr≤L.length→fr≤s→O.length≤i→
    bu (.tL n last W (F.length:Int) (i:Int) (Co L s fr) (so (di O)))=(ix (ls n.Kids) last>>=fun v=>bu (.yB (Co (L++lF (F.drop i) 0 L.length fr) (max s (fr+cP (F.drop i))) fr) v)>>=fun r=>bu (.qQ (so (di (O++jps (F.drop i) L.length))) ((O++jps (F.drop i) L.length).length:Int) 0 r))
  | 0,i,L,s,fr,O,h,hs,hf,hfs,hO=>by
    rw [bu.eq_6,eU (by omega),List.drop_of_length_le (by omega),lF,cP,jps,List.append_nil,List.append_nil,Nat.add_zero,Nat.max_eq_left hfs,bq,sW]
  | m+1,i,L,s,fr,O,h,hs,hf,hfs,hO=>by
    obtain ⟨k,hk⟩:=bQ F (i:=i) (by omega)
    obtain ⟨pk,lk⟩:=ih k (List.mem_of_getElem? hk)
    have hdl:(F.drop i).length=(F.drop (i+1)).length+1:=by rw [drop_cons hk,List.length_cons]
    rw [hdl,drop_cons hk,szl] at hs
    have h1:(L++[ik 2]).length=L.length+1:=by simp
    have h2:(L++[ik 2]++cd k (L.length+1) fr).length=L.length+1+sz k:=by rw [List.length_append,h1,lk]
    have e0:ls (some [((L.length+1+sz k:Nat):Int)])=di [L.length+1+sz k]:=rfl
    have e1:(so (di O):Sl Int)=so (di O):=rfl
    rw [bu.eq_6,dti (by omega),hW,ixs hk,sm,f27 L s fr _ (by omega),sm,pk (L++[ik 2]) s fr (by rw [h1];omega) (by rw [h1];omega) hfs,sm,h1,f27 (L++[ik 2]++cd k (L.length+1) fr) _ _ _ (by rw [h2];omega),sm,h2]
    rw [if_pos (by rw [bq];simp [di,ls];omega),kA]
    have e2:L++[ik 2]++cd k (L.length+1) fr++[ik 3]=L++ik 2::(cd k (L.length+1) fr++[ik 3]):=by simp
    have e3:(L++ik 2::(cd k (L.length+1) fr++[ik 3])).length=L.length+sz k+2:=by rw [List.length_append,List.length_cons,List.length_append,lk];simp;omega
    simp only [e2]
    rw [ixs (kF L _ (ik 2)),sm,wk _ _ (kF L _ (ik 2)),e3,kK,e0,eC,eo i (by omega)]
    have e4:di O++di [L.length+1+sz k]=di (O++[L.length+1+sz k]):=by simp [di]
    have e5:(({ik 2 with To:=((L.length+sz k+2:Nat):Int)}:aT))=fq 2 ((L.length+sz k+2:Nat):Int):=rfl
    have e6:(L++fq 2 ((L.length+sz k+2:Nat):Int)::(cd k (L.length+1) fr++[ik 3])).length=L.length+sz k+2:=by rw [List.length_append,List.length_cons,List.length_append,lk];simp;omega
    rw [e4,e5,Na n last W F hW hl ih m (i+1) _ _ fr _ (by omega) (by omega) (by omega) (by omega) (by simp;omega),drop_cons hk,lF,cP,jps,e6]
    have e7:L++fq 2 ((L.length+sz k+2:Nat):Int)::(cd k (L.length+1) fr++[ik 3])++lF (F.drop (i+1)) 0 (L.length+sz k+2) fr=L++fq 2 ((L.length+sz k+2:Nat):Int)::(cd k (L.length+1) fr++fq 3 ((0:Nat):Int)::lF (F.drop (i+1)) 0 (L.length+sz k+2) fr):=by simp
    have e8:O++[L.length+1+sz k]++jps (F.drop (i+1)) (L.length+sz k+2)=O++(L.length+sz k+1)::jps (F.drop (i+1)) (L.length+sz k+2):=by simp;omega
    have e9:max (max s (fr+dep k)) (fr+cP (F.drop (i+1)))=max s (fr+max (dep k) (cP (F.drop (i+1)))):=by omega
    rw [e7,e8,e9]
end Go.Proofs.YtcidnoghoifmmaaDoor
end
section
namespace Go.Proofs.YtcidnoghoifmmaaDoor
open Go AW
set_option maxHeartbeats 4000000
theorem Ua (L:List aT) (s fr:Nat) (h:fr<100000):({Co L s fr with free:=IntKind.wrap .i64 ((Co L s fr).free+1),slots:=(if (IntKind.wrap .i64 ((Co L s fr).free+1))>(Co L s fr).slots then (IntKind.wrap .i64 ((Co L s fr).free+1)) else (Co L s fr).slots)}:dr)=Co L (max s (fr+1)) (fr+1):=by
 show ({code:=so L,slots:=(if (IntKind.wrap .i64 ((fr:Int)+1))>(s:Int) then (IntKind.wrap .i64 ((fr:Int)+1)) else (s:Int)),free:=IntKind.wrap .i64 ((fr:Int)+1)}:dr)=_
 rw [eo fr (by omega)]
 have:(if ((fr+1:Nat):Int)>(s:Int) then ((fr+1:Nat):Int) else (s:Int))=((max s (fr+1):Nat):Int):=by split<;>omega
 rw [this]
 rfl
theorem LB (L:List aT) (s fr:Nat) (h:fr<100000):({Co L s (fr+1) with free:=IntKind.wrap .i64 ((Co L s (fr+1)).free-1)}:dr)=Co L s fr:=by
 simp only [Co]
 rw [Cu (fr+1) (by omega) (by omega)]
 rfl
structure Kd (k:aK):Prop where
 p:Pn k
 l:Ln k
 g:Jw k=some (lh k)
 c:(nG (lh k)).length=if ck k=0 then 0 else 1
theorem jy {k:aK} (hk:Kd k):sz k+(nG (lh k)).length=cT k:=by rw [hk.c];rfl
theorem Ng {k:aK} (hk:Kd k) (free:Bool) (slot:Int) (L:List aT) (s fr:Nat) (h:L.length+cT k≤16384):
  bu (.tS free k slot (Co L s fr))=bu (.vD free k slot (Co (L++nG (lh k)) s fr)):=by
 rw [bu.eq_14,hk.g,sm]
 unfold nG
 by_cases h0:(lh k).1>0
 ·rw [dti h0,f27 _ _ _ _ (by omega),sm,if_pos h0]
 rw [eU h0,if_neg h0,List.append_nil]
theorem Ve {k:aK} (hk:Kd k) (L:List aT) (s fr:Nat) (h:L.length+cT k≤16384) (hf:fr≤L.length) (hfs:fr≤s):
  bu (.Db (Co L s fr) k false)=some (Co (L++mW (cd k) (lh k) L.length fr) (max s (fr+dep k)) fr):=by
 have hr:=jy hk
 have hl:(L++nG (lh k)).length=L.length+(nG (lh k)).length:=List.length_append
 rw [bu.eq_13,if_neg (by simp),Ng hk _ _ _ _ _ h,bu.eq_15,hk.p (L++nG (lh k)) s fr (by rw [hl];omega) (by rw [hl];omega) hfs,sm,if_neg (by simp),hl]
 unfold mW
 rw [List.append_assoc]
theorem Nh {k:aK} (hk:Kd k) (L:List aT) (s fr:Nat) (h:L.length+cT k+2≤16384) (hf:fr≤L.length) (hfs:fr≤s):
  bu (.Db (Co L s fr) k true)=some (Co (L++jA (cd k) (lh k) L.length fr) (max s (fr+(dep k+1))) fr):=by
 have hr:=jy hk
 have h1:(L++[Io 7 fr]).length=L.length+1:=by simp
 have hl:(L++[Io 7 fr]++nG (lh k)).length=L.length+1+(nG (lh k)).length:=by rw [List.length_append,h1]
 rw [bu.eq_13,if_pos rfl,f27 _ _ _ _ (by omega),sm]
 have e1:=Ua (L++[Io 7 fr]) s fr (by omega)
 refine Eq.trans (congrArg (fun c=>bu (.tS true k (fr:Int) c)) e1) ?_
 rw [Ng hk _ _ _ _ _ (by rw [h1];omega),bu.eq_15,hk.p (L++[Io 7 fr]++nG (lh k)) _ (fr+1) (by rw [hl];omega) (by rw [hl];omega) (by omega),sm,if_pos rfl]
 have e2:=LB (L++[Io 7 fr]++nG (lh k)++cd k (L++[Io 7 fr]++nG (lh k)).length (fr+1)) (max (max s (fr+1)) (fr+1+dep k)) fr (by omega)
 rw [e2,f27 _ _ _ _ (by rw [List.length_append,hk.l,hl];omega),sm,hl]
 have e3:max (max s (fr+1)) (fr+1+dep k)=max s (fr+(dep k+1)):=by omega
 rw [e3]
 unfold jA mW
 simp
theorem VZ {f:Nat→Nat→List aT} {l:Int × Int} {s:Nat} (hf: ∀a fr,(f a fr).length=s) (r fr:Nat) (hr:r=s+(nG l).length) (h0:r=0) (m a:Nat):jB f l r fr m a=[]:=
 List.eq_nil_of_length_eq_zero (by rw [lY hf r fr hr,h0,Nat.mul_zero])
theorem Nc (n:aK) {k:aK} (hk:Kd k) (hks:ix (ls n.Kids) 0=some k) (mn:Nat) (hmn:mn≤255): ∀(m i:Nat) (L:List aT) (s fr:Nat),m+i=mn→L.length+m*cT k≤16384→fr≤L.length→fr≤s→
    bu (.tM n (mn:Int) (i:Int) (Co L s fr))=bu (.tN n (Co (L++jB (cd k) (lh k) (cT k) fr m L.length) (if m=0 then s else max s (fr+dep k)) fr))
  | 0,i,L,s,fr,h,hs,hf,hfs=>by
    rw [bu.eq_9,eU (by omega),jB,List.append_nil,if_pos rfl]
  | m+1,i,L,s,fr,h,hs,hf,hfs=>by
    have hr:=jy hk
    have hrl:(mW (cd k) (lh k) L.length fr).length=cT k:=by rw [oa hk.l];exact hr
    rw [Nat.add_mul,Nat.one_mul] at hs
    rw [bu.eq_9,dti (by omega),hks,sm,Ve hk L s fr (by omega) hf hfs,sm,kA,kA,List.length_append,hrl]
    by_cases h0:cT k=0
    · rw [gf (by omega),if_neg (by omega),jB,VZ hk.l (cT k) fr hr.symm h0,List.append_nil]
    rw [gR (by omega),eo i (by omega),Nc n hk hks mn hmn m (i+1) _ _ fr (by omega) (by rw [List.length_append,hrl];omega) (by rw [List.length_append];omega) (by omega),jB,List.length_append,hrl,if_neg (by omega: ¬m+1=0),List.append_assoc]
    have e:(if m=0 then max s (fr+dep k) else max (max s (fr+dep k)) (fr+dep k))=max s (fr+dep k):=by split<;>omega
    rw [e]
def nQ (r:Nat):Nat→Nat→List Nat
 | 0,_=>[]
 | m+1,a=>a::nQ r m (a+r+3)
theorem BK (r:Nat): ∀(m a:Nat),∀p∈nQ r m a,p<a+m*(r+3)
  | 0,a,p,h=>by simp [nQ] at h
  | m+1,a,p,h=>by
    rw [nQ] at h
    rw [Nat.add_mul,Nat.one_mul]
    rcases List.mem_cons.1 h with rfl | h
    · omega
    have:=BK r m _ p h;omega
theorem wh (r:Nat): ∀(m a:Nat),(nQ r m a).length=m
 | 0,_=>rfl
 | m+1,a=>by rw [nQ,List.length_cons,wh r m]
theorem Cg (k:aK) (hk:Kd k) (e e0 fr:Nat): ∀(m:Nat) (A B:List aT),(nQ (cT k) m A.length).foldl (pat e) (A++(opts (cd k) (lh k) (cT k) fr e0 m A.length++B))=A++(opts (cd k) (lh k) (cT k) fr e m A.length++B)
  | 0,A,B=>by rw [nQ,opts,opts];rfl
  | m+1,A,B=>by
    have hfl: ∀a,(jA (cd k) (lh k) a fr).length=cT k+2:=fun a=>by rw [jL hk.l];have:=jy hk;omega
    rw [nQ,opts,opts,List.foldl_cons]
    have e1:A++(fq 2 e0::(jA (cd k) (lh k) (A.length+1) fr++opts (cd k) (lh k) (cT k) fr e0 m (A.length+cT k+3))++B)=A++fq 2 e0::(jA (cd k) (lh k) (A.length+1) fr++(opts (cd k) (lh k) (cT k) fr e0 m (A.length+cT k+3)++B)):=by simp
    rw [e1,kK]
    have e5:(({fq 2 e0 with To:=(e:Int)}:aT))=fq 2 e:=rfl
    have e3:A++fq 2 e::(jA (cd k) (lh k) (A.length+1) fr++(opts (cd k) (lh k) (cT k) fr e0 m (A.length+cT k+3)++B))=(A++fq 2 e::jA (cd k) (lh k) (A.length+1) fr)++(opts (cd k) (lh k) (cT k) fr e0 m (A.length+cT k+3)++B):=by simp
    have e4:A.length+cT k+3=(A++fq 2 e::jA (cd k) (lh k) (A.length+1) fr).length:=by simp [hfl];omega
    have ihh:=Cg k hk e e0 fr m (A++fq 2 e::jA (cd k) (lh k) (A.length+1) fr) B
    rw [←e4] at ihh
    rw [e5,e3,ihh]
    simp
theorem Nd (n:aK) {k:aK} (hk:Kd k) (hks:ix (ls n.Kids) 0=some k) (d:Nat) (hd:d≤255): ∀(m i:Nat) (L:List aT) (s fr:Nat) (O:List Nat),m+i=d→L.length+m*(cT k+3)≤16384→fr≤L.length→fr≤s→O.length≤i→
    bu (.tO n (d:Int) (i:Int) (Co L s fr) (so (di O)))=bu (.qR (so (di (O++nQ (cT k) m L.length))) ((O++nQ (cT k) m L.length).length:Int) 0 (Co (L++opts (cd k) (lh k) (cT k) fr 0 m L.length) (if m=0 then s else max s (fr+(dep k+1))) fr))
  | 0,i,L,s,fr,O,h,hs,hf,hfs,hO=>by
    rw [bu.eq_11,eU (by omega),opts,List.append_nil,if_pos rfl,nQ,List.append_nil,bq,sW]
  | m+1,i,L,s,fr,O,h,hs,hf,hfs,hO=>by
    have hfl: ∀a,(jA (cd k) (lh k) a fr).length=cT k+2:=fun a=>by rw [jL hk.l];have:=jy hk;omega
    rw [Nat.add_mul,Nat.one_mul] at hs
    have h1:(L++[ik 2]).length=L.length+1:=by simp
    have h2:(L++[ik 2]++jA (cd k) (lh k) (L.length+1) fr).length=L.length+cT k+3:=by rw [List.length_append,h1,hfl];omega
    have e0:ls (some [(L.length:Int)])=di [L.length]:=rfl
    rw [bu.eq_11,dti (by omega),f27 L s fr _ (by omega),sm,if_pos (by rw [bq];simp [di,ls];omega),hks,sm,Nh hk (L++[ik 2]) s fr (by rw [h1];omega) (by rw [h1];omega) hfs,sm,h1,e0,eC,eo i (by omega)]
    have e4:di O++di [L.length]=di (O++[L.length]):=by simp [di]
    rw [e4,Nd n hk hks d hd m (i+1) _ _ fr _ (by omega) (by rw [h2];omega) (by rw [h2];omega) (by omega) (by simp;omega),h2,nQ,opts,if_neg (by omega: ¬m+1=0)]
    have e:(if m=0 then max s (fr+(dep k+1)) else max (max s (fr+(dep k+1))) (fr+(dep k+1)))=max s (fr+(dep k+1)):=by split<;>omega
    rw [e]
    have e7:L++[ik 2]++jA (cd k) (lh k) (L.length+1) fr++opts (cd k) (lh k) (cT k) fr 0 m (L.length+cT k+3)=L++fq 2 ((0:Nat):Int)::(jA (cd k) (lh k) (L.length+1) fr++opts (cd k) (lh k) (cT k) fr 0 m (L.length+cT k+3)):=by simp
    have e8:O++[L.length]++nQ (cT k) m (L.length+cT k+3)=O++L.length::nQ (cT k) m (L.length+cT k+3):=by simp
    rw [e7,e8]
theorem Vd (n:aK) {k:aK} (hk:Kd k) (hks:ix (ls n.Kids) 0=some k) (mn:Nat) (hmn:n.Min=mn) (hmm:mn≤255∧(n.Max= -1∨(mn:Int)≤n.Max∧n.Max≤255)) (L:List aT) (s fr:Nat) (h:L.length+(if n.Max= -1 then cT k+4 else (n.Max-n.Min).toNat*(cT k+3))≤16384) (hf:fr≤L.length) (hfs:fr≤s):
  bu (.tN n (Co L s fr))=some (Co (L++if n.Max= -1 then fq 2 ((L.length+cT k+4:Nat):Int)::(jA (cd k) (lh k) (L.length+1) fr++[fq 3 (L.length:Int)]) else opts (cd k) (lh k) (cT k) fr (L.length+(n.Max-n.Min).toNat*(cT k+3)) (n.Max-n.Min).toNat L.length) (if n.Max= -1∨n.Min<n.Max then max s (fr+(dep k+1)) else s) fr):=by
 have hfl: ∀a,(jA (cd k) (lh k) a fr).length=cT k+2:=fun a=>by rw [jL hk.l];have:=jy hk;omega
 rw [bu.eq_10]
 by_cases hx:n.Max= -1
 ·rw [if_pos hx] at h
  have h1:(L++[ik 2]).length=L.length+1:=by simp
  have h2:(L++[ik 2]++jA (cd k) (lh k) (L.length+1) fr).length=L.length+cT k+3:=by rw [List.length_append,h1,hfl];omega
  rw [gf hx,if_pos hx,if_pos (.inl hx),f27 L s fr _ (by omega),sm,hks,sm,Nh hk (L++[ik 2]) s fr (by rw [h1];omega) (by rw [h1];omega) hfs,sm,h1,f27 _ _ _ _ (by rw [h2];omega),sm,kA]
  have e2:L++[ik 2]++jA (cd k) (lh k) (L.length+1) fr++[fq 3 (L.length:Int)]=L++ik 2::(jA (cd k) (lh k) (L.length+1) fr++[fq 3 (L.length:Int)]):=by simp
  have e3:(L++ik 2::(jA (cd k) (lh k) (L.length+1) fr++[fq 3 (L.length:Int)])).length=L.length+cT k+4:=by rw [List.length_append,List.length_cons,List.length_append,hfl];simp;omega
  simp only [e2]
  rw [ixs (kF L _ (ik 2)),sm,wk _ _ (kF L _ (ik 2)),e3,kK]
 obtain ⟨d,hd⟩: ∃d:Nat,n.Max-n.Min=d:=⟨(n.Max-n.Min).toNat,by omega⟩
 rw [if_neg hx,hd,Int.toNat_natCast] at h
 rw [gR hx,if_neg hx,hd,wi _ (by omega) (by omega),Int.toNat_natCast]
 have h3:=Nd n hk hks d (by omega) d 0 L s fr [] (by omega) h hf hfs (by simp)
 have h3':bu (.tO n (d:Int) 0 (Co L s fr) none)=_:=h3
 have hol:(opts (cd k) (lh k) (cT k) fr 0 d L.length).length=d*(cT k+3):=oQ hk.l _ _ _ (jy hk).symm d _
 have hlen:(L++opts (cd k) (lh k) (cT k) fr 0 d L.length).length=L.length+d*(cT k+3):=by rw [List.length_append,hol]
 have hpl:=wh (cT k) d L.length
 have h4:=Nf (nQ (cT k) d L.length) (by omega) (nQ (cT k) d L.length).length 0 (L++opts (cd k) (lh k) (cT k) fr 0 d L.length) (if d=0 then s else max s (fr+(dep k+1))) fr (by omega) (fun p hp=>by rw [hlen];exact BK _ _ _ p hp)
 have h5:=Cg k hk (L.length+d*(cT k+3)) 0 fr d L []
 rw [List.append_nil,List.append_nil] at h5
 rw [h3',List.nil_append]
 have h4':bu (.qR (so (di (nQ (cT k) d L.length))) ((nQ (cT k) d L.length).length:Int) 0 (Co (L++opts (cd k) (lh k) (cT k) fr 0 d L.length) (if d=0 then s else max s (fr+(dep k+1))) fr))=_:=h4
 rw [h4',List.drop_zero,hlen,h5]
 have e:(if d=0 then s else max s (fr+(dep k+1)))=if n.Max= -1∨n.Min<n.Max then max s (fr+(dep k+1)) else s:=by
  by_cases h0:d=0
  ·rw [if_pos h0,if_neg (by omega)]
  rw [if_neg h0,if_pos (by omega)]
 rw [e]
theorem compile: ∀(n:aK) (b:Nat),cnt n≤100000→good n b→Pn n:=by
  intro n
  induction n using cW with
  | h n ih=>
    intro b hc hg L s fr hs hf hfs
    have hcl:=eI n
    have hlen:=dV (ls n.Kids)
    have hln:=lH n b hc hg
    rw [gw] at hg
    have ih': ∀k∈ls n.Kids,Kd k:=fun k hk=>by
      obtain ⟨b',hb'⟩:=fT hg.2 hk
      have:=eW hk
      exact ⟨ih k hk b' (by omega) hb',lH k b' (by omega) hb',(f38 (by omega) hb').1,rC (by omega) hb'⟩
    have ihp: ∀k∈ls n.Kids,Pn k∧Ln k:=fun k hk=>⟨(ih' k hk).p,(ih' k hk).l⟩
    rw [bu.eq_1]
    unfold WC
    rw [sm,xp,wF]
    rw [tu] at hs
    have nok: ∀(h:(ls n.Kids).length=0),cP (ls n.Kids)=0:=fun h=>by rw [List.eq_nil_of_length_eq_zero h,cP]
    rcases oU hg.1.1 with ⟨h,hk⟩ | ⟨h,hm,hk⟩ | ⟨h,hk⟩ | ⟨h,hk⟩
    · rcases h with h | h
      · simp (config:={decide:=true}) only [h,if_true,if_false] at hs ⊢
        have:=Zs n (by omega) ihp (ls n.Kids).length 0 L s fr (by omega) (by rw [List.drop_zero];exact hs) hf hfs
        have this':bu (.tK n.Kids ((ls n.Kids).length:Int) 0 (Co L s fr))=_:=this
        rw [bu.eq_2,this',sm,List.drop_zero]
      simp (config:={decide:=true}) only [h,if_true,if_false] at hs ⊢
      obtain ⟨F,k,hFk⟩: ∃F k,ls n.Kids=F++[k]:=⟨_,_,(List.dropLast_concat_getLast (by intro e;rw [e] at hk;simp at hk)).symm⟩
      obtain ⟨K,hK⟩: ∃K,n.Kids=some K:=by
        cases e:n.Kids with
        | none=>rw [e] at hk;simp [ls] at hk
        | some K=>exact ⟨K,rfl⟩
      have hKl:K=F++[k]:=by rw [hK] at hFk;exact hFk
      have hFl:(ls n.Kids).length=F.length+1:=by rw [hFk];simp
      have hcut:mG n.Kids 0 (IntKind.wrap .i64 (((ls n.Kids).length:Int)-1))=some (some F):=by
        rw [Cu _ (by omega) (by omega),hFl,hK]
        simp only [mG]
        rw [if_pos (by rw [hKl];simp;omega),hKl]
        simp
      have hixk:ix (ls n.Kids) (IntKind.wrap .i64 (((ls n.Kids).length:Int)-1))=some k:=by
        rw [Cu _ (by omega) (by omega),hFl,hFk]
        exact ixs (by simp)
      have hkm:k∈ls n.Kids:=by rw [hFk];simp
      have hFm: ∀x∈F,Pn x∧Ln x:=fun x hx=>ihp x (by rw [hFk];simp [hx])
      rw [hFl,hFk,ou] at hs
      have hal:=vp F (fun x hx=>(hFm x hx).2) 0 L.length fr
      have hL2:(L++lF F 0 L.length fr).length=L.length+szl F+2*F.length:=by rw [List.length_append,hal];omega
      have h1:=Na n (IntKind.wrap .i64 (((ls n.Kids).length:Int)-1)) (some F) F rfl (by omega) hFm F.length 0 L s fr [] (by omega) (by rw [List.drop_zero];omega) hf hfs (by simp)
      rw [List.drop_zero,List.nil_append] at h1
      have h1':bu (.tL n (IntKind.wrap .i64 (((ls n.Kids).length:Int)-1)) (some F) ((ls (some F)).length:Int) 0 (Co L s fr) none)=_:=h1
      rw [bu.eq_5,hcut,sm,h1',hixk,sm,(ihp k hkm).1 (L++lF F 0 L.length fr) _ fr (by rw [hL2];omega) (by rw [hL2];omega) (by omega),sm,hL2]
      have hlk:=(ihp k hkm).2 (L.length+szl F+2*F.length) fr
      have hC:(L++lF F 0 L.length fr++cd k (L.length+szl F+2*F.length) fr).length=L.length+szl F+2*F.length+sz k:=by rw [List.length_append,hL2,hlk]
      have h2:=Nb (jps F L.length) (by rw [wN];omega) (jps F L.length).length 0 _ (max (max s (fr+cP F)) (fr+dep k)) fr (by omega) (fun p hp=>by rw [hC];have:=Ar F L.length p hp;omega)
      have h2':bu (.qQ (so (di (jps F L.length))) ((jps F L.length).length:Int) 0 (Co (L++lF F 0 L.length fr++cd k (L.length+szl F+2*F.length) fr) (max (max s (fr+cP F)) (fr+dep k)) fr))=_:=h2
      rw [h2',sm,List.drop_zero,hC,List.append_assoc,vq _ _ _ F (fun x hx=>(hFm x hx).2),hFk,pG,sN,ou]
      have e1:max (max s (fr+cP F)) (fr+dep k)=max s (fr+max (cP F) (dep k)):=by omega
      have e2:L.length+(szl F+sz k)+2*((F++[k]).length-1)=L.length+szl F+2*F.length+sz k:=by simp;omega
      rw [e1,e2]
    · simp (config:={decide:=true}) only [h,if_true,if_false] at hs ⊢
      obtain ⟨k,hk⟩: ∃k,ls n.Kids=[k]:=List.length_eq_one_iff.1 hk
      have hkd:=ih' k (by simp [hk])
      have hks:ix (ls n.Kids) 0=some k:=by rw [hk];rfl
      have e1:szl [k]=sz k:=by rw [szl,szl];rfl
      have e2:cH [k]=ck k:=by rw [cH,cH];rfl
      have e3:cP [k]=dep k:=by rw [cP,cP];omega
      rw [hk,e1,e2] at hs
      have hs':L.length+(n.Min.toNat*cT k+if n.Max= -1 then cT k+4 else (n.Max-n.Min).toNat*(cT k+3))≤16384:=hs
      obtain ⟨mn,hmn⟩:=rI hm.1
      have hmt:n.Min.toNat=mn:=by omega
      rw [hmt] at hs'
      have hml:=lY hkd.l (cT k) fr (jy hkd).symm mn L.length
      have h1:=Nc n hkd hks mn (by omega) mn 0 L s fr (by omega) (by omega) hf hfs
      have h1':bu (.tM n (mn:Int) 0 (Co L s fr))=_:=h1
      have hL2:(L++jB (cd k) (lh k) (cT k) fr mn L.length).length=L.length+mn*cT k:=by rw [List.length_append,hml]
      have h2:=Vd n hkd hks mn hmn (by omega) (L++jB (cd k) (lh k) (cT k) fr mn L.length) (if mn=0 then s else max s (fr+dep k)) fr (by rw [hL2];omega) (by rw [hL2];omega) (by split<;>omega)
      rw [bu.eq_8,hmn,h1',h2,sm,hL2,hk,RO,←hmn]
      unfold yx
      rw [hmt,e3,List.append_assoc]
      have e4:(if n.Max= -1∨n.Min<n.Max then max (if mn=0 then s else max s (fr+dep k)) (fr+(dep k+1)) else if mn=0 then s else max s (fr+dep k))=max s (fr+if n.Max= -1∨n.Min<n.Max then dep k+1 else if 0<n.Min then dep k else 0):=by
        by_cases c1:n.Max= -1∨n.Min<n.Max
        · rw [if_pos c1,if_pos c1];split<;>omega
        rw [if_neg c1,if_neg c1]
        by_cases c2:mn=0
        · rw [if_pos c2,if_neg (by omega)];omega
        rw [if_neg c2,if_pos (by omega)]
      rw [e4]
    · simp (config:={decide:=true}) only [h,if_true,if_false] at hs ⊢
      obtain ⟨k,hk⟩: ∃k,ls n.Kids=[k]:=List.length_eq_one_iff.1 hk
      have hkd:=ih' k (by simp [hk])
      have hks:ix (ls n.Kids) 0=some k:=by rw [hk];rfl
      have e1:szl [k]=sz k:=by rw [szl,szl];rfl
      have e3:cP [k]=dep k:=by rw [cP,cP];omega
      rw [hk,e1] at hs
      have h1:(L++[Im 4 n.aH]).length=L.length+1:=by simp
      rw [bu.eq_4,f27 L s fr _ (by omega),sm,hks,sm,hkd.p (L++[Im 4 n.aH]) s fr (by rw [h1];omega) (by rw [h1];omega) hfs,sm,f27 _ _ _ _ (by rw [List.length_append,hkd.l,h1];omega),sm,sm,h1,hk,Rp,e3]
      simp
    have hd:=nok hk
    have e0:max s (fr+cP (ls n.Kids))=s:=by rw [hd];omega
    rcases h with h | h | h | h | h<;>simp (config:={decide:=true}) only [h,if_true,if_false,e0] at hs ⊢
    · unfold WG;rw [sm,List.append_nil]
    · unfold WH;rw [f27 L s fr _ (by omega),sm,sm]
    · unfold WK;rw [f27 L s fr _ (by omega),sm,sm]
    · unfold WI;rw [f27 L s fr _ (by omega),sm,sm]
    unfold WJ;rw [f27 L s fr _ (by omega),sm,sm]
noncomputable def JR (n:aK):af:={bH:=(ck n:Int),bX:=(dep n:Int),Code:=some (cd n 0 0++[ik 12])}
theorem f10 (n:aK): ∃r:af × Int,Rb n=some r∧ ∃w:Int × Int,Oy n=some w∧r.2=w.2∧(w.2≠0→r.1={bH:=0,bX:=0,Code:=none})∧(w.2=0→good n 0∧cnt n≤8192∧sz n<16384∧w.1=((sz n+1:Nat):Int)∧r.1=JR n):=by
 obtain ⟨w,hw,u,hu,h1,h2⟩:=f9 n
 unfold Rb
 rw [hw,sm]
 by_cases h0:w.2=0
 ·have hu0:u=0:=by
   by_cases e:u=0
   ·exact e
   have:=h1 e;rw [this] at h0;exact h0
  obtain ⟨hg,hc,hwe⟩:=h2 hu0
  have hsz:sz n<16384:=by
   by_cases e:sz n<16384
   ·exact e
   rw [if_neg e] at hwe;rw [hwe] at h0;cases h0
  rw [if_pos hsz] at hwe
  have hcp:=compile n 0 (by omega) hg [] 0 0 (by simp;omega) (by simp) (by omega)
  have hcp':Wq ({code:=(none:Sl aT),slots:=0,free:=0}:dr) n=_:=hcp
  have hl:=lH n 0 (by omega) hg 0 0
  rw [zU h0,hcp',sm,List.nil_append,f27 _ _ _ _ (by rw [List.length_nil,hl];omega),sm,f28 n hc,sm]
  refine ⟨_,rfl,w,rfl,h0.symm,fun h=>absurd h0 h,fun _=>⟨hg,hc,hsz,by rw [hwe],?_⟩⟩
  unfold JR Co
  simp only [List.length_nil,Nat.zero_add,Nat.zero_max]
  congr 1
  cases cd n 0 0<;>rfl
 rw [BI h0]
 exact ⟨_,rfl,w,rfl,rfl,fun _=>rfl,fun h=>absurd h h0⟩
end Go.Proofs.YtcidnoghoifmmaaDoor
end
section
namespace Go.Proofs.YtcidnoghoifmmaaDoor
open Go AW
set_option maxHeartbeats 4000000
def Lo (L:List aT) (G:Int) (s:Nat):af:={bH:=G,bX:=(s:Int),Code:=so L}
theorem oM (L:List aT) (G:Int) (s:Nat):ls (Lo L G s).Code=L:=bq L
theorem f67 (L:List aT) (G:Int) (s:Nat) (x:aT) (h:L.length≤100000):vf (Lo L G s) x=some ((L.length:Int),Lo (L++[x]) G s):=by
 unfold vf
 have e:bW (Lo L G s).Code (ls (some [x]))=so (L++[x]):=by show bW (so L) _=_;rw [eC];rfl
 rw [oM,if_pos (by simp [ls];omega),e,bq]
 have e2:IntKind.wrap .i64 (((L++[x]).length:Int)-1)=(L.length:Int):=by
  rw [Cu _ (by simp) (by simp;omega)];simp
 rw [e2]
 rfl
theorem f91 (L:List aT) (G:Int) (s:Nat):Gn (Lo L G s)=some ((L.length:Int),Lo L G s):=by
 unfold Gn;rw [oM]
def Qn (n:aK):Prop:= ∀(L:List aT) (G:Int) (s fr:Nat),L.length+sz n≤16384→fr≤L.length→fr≤s→bz (.yC (Lo L G s) n (fr:Int))=some (Lo (L++cd n L.length fr) G (max s (fr+dep n)))
theorem Zt (n:aK) (G:Int) (hl:(ls n.Kids).length≤100000) (ih: ∀k∈ls n.Kids,Qn k∧Ln k): ∀(m i:Nat) (L:List aT) (s fr:Nat),m+i=(ls n.Kids).length→L.length+szl ((ls n.Kids).drop i)≤16384→fr≤L.length→fr≤s→
    bz (.tI (fr:Int) n (i:Int) (Lo L G s))=some (Lo (L++Ab ((ls n.Kids).drop i) L.length fr) G (max s (fr+cP ((ls n.Kids).drop i))))
  | 0,i,L,s,fr,h,hs,hf,hfs=>by
    rw [bz.eq_2,eU (by omega),List.drop_of_length_le (by omega),Ab,cP,List.append_nil,Nat.add_zero,Nat.max_eq_left hfs]
  | m+1,i,L,s,fr,h,hs,hf,hfs=>by
    obtain ⟨k,hk⟩:=bQ (ls n.Kids) (i:=i) (by omega)
    obtain ⟨pk,lk⟩:=ih k (List.mem_of_getElem? hk)
    rw [drop_cons hk,szl] at hs
    have hlk:=lk L.length fr
    have hll:(L++cd k L.length fr).length=L.length+sz k:=by rw [List.length_append,hlk]
    rw [bz.eq_2,dti (by omega),ixs hk,sm,pk L G s fr (by omega) hf hfs,sm,eo i (by omega),Zt n G hl ih m (i+1) _ _ fr (by omega) (by omega) (by omega) (by omega),drop_cons hk,Ab,cP,hll,List.append_assoc]
    have e:max (max s (fr+dep k)) (fr+cP ((ls n.Kids).drop (i+1)))=max s (fr+max (dep k) (cP ((ls n.Kids).drop (i+1)))):=by omega
    rw [e]
theorem BN {C:List aT} {p:Nat} {x:aT} (G:Int) (s:Nat) (h:C[p]? =some x):({Lo C G s with Code:=(dF (Lo C G s).Code (p:Int) ({x with To:=(C.length:Int)}:aT))}:af)=Lo (pat C.length C p) G s:=by
 unfold pat;rw [h];simp only [Lo];rw [Ct]
theorem rE (O:List Nat):(ls (so (di O))).length=O.length:=by rw [bq,sW]
theorem Nj (O:List Nat) (hO:O.length≤1000000) (G:Int): ∀(m i:Nat) (C:List aT) (s:Nat),m+i=O.length→(∀p∈O,p<C.length)→
    bz (.qP (i:Int) (Lo C G s) (so (di O)))=some (Lo ((O.drop i).foldl (pat C.length) C) G s)
  | 0,i,C,s,h,hp=>by
    rw [bz.eq_4,rE,eU (by omega),List.drop_of_length_le (by omega)];rfl
  | m+1,i,C,s,h,hp=>by
    obtain ⟨p,hpi⟩:=bQ O (i:=i) (by omega)
    obtain ⟨x,hx⟩:=bQ C (hp p (List.mem_of_getElem? hpi))
    rw [bz.eq_4,rE,dti (by omega),bq,ixs (c:=(p:Int)) (by simp [di,hpi]),sm,f91,sm,oM,ixs hx,sm,BN G s hx,eo i (by omega),Nj O hO G m (i+1) _ s (by omega) (by simpa [jN] using hp),jN,drop_cons hpi];rfl
theorem JU (O:List Nat) (hO:O.length≤1000000) (G:Int): ∀(m i:Nat) (C:List aT) (s:Nat),m+i=O.length→(∀p∈O,p<C.length)→
    bz (.oS (i:Int) (Lo C G s) (so (di O)))=some (Lo ((O.drop i).foldl (pat C.length) C) G s)
  | 0,i,C,s,h,hp=>by
    rw [bz.eq_10,rE,eU (by omega),List.drop_of_length_le (by omega)];rfl
  | m+1,i,C,s,h,hp=>by
    obtain ⟨p,hpi⟩:=bQ O (i:=i) (by omega)
    obtain ⟨x,hx⟩:=bQ C (hp p (List.mem_of_getElem? hpi))
    rw [bz.eq_10,rE,dti (by omega),bq,ixs (c:=(p:Int)) (by simp [di,hpi]),sm,f91,sm,oM,ixs hx,sm,BN G s hx,eo i (by omega),JU O hO G m (i+1) _ s (by omega) (by simpa [jN] using hp),jN,drop_cons hpi];rfl
theorem Ni (n:aK) (G:Int) (F:List aK) (k0:aK) (hW:ls n.Kids=F++[k0]) (hl:F.length≤100000) (ih: ∀k∈F,Qn k∧Ln k): ∀(m i:Nat) (L:List aT) (s fr:Nat) (O:List Nat),m+i=F.length→L.length+szl (F.drop i)+2*(F.drop i).length≤16384→fr≤L.length→fr≤s→O.length≤i→
    bz (.tJ (fr:Int) n (F.length:Int) (i:Int) (Lo L G s) (so (di O)))=(bz (.yC (Lo (L++lF (F.drop i) 0 L.length fr) G (max s (fr+cP (F.drop i)))) k0 (fr:Int))>>=fun r=>bz (.qP 0 r (so (di (O++jps (F.drop i) L.length)))))
  | 0,i,L,s,fr,O,h,hs,hf,hfs,hO=>by
    have hix:ix (ls n.Kids) (F.length:Int)=some k0:=by rw [hW];exact ixs (by simp)
    rw [bz.eq_3,eU (by omega),List.drop_of_length_le (by omega),lF,cP,jps,List.append_nil,List.append_nil,Nat.add_zero,Nat.max_eq_left hfs,hix,sm]
  | m+1,i,L,s,fr,O,h,hs,hf,hfs,hO=>by
    obtain ⟨k,hk⟩:=bQ F (i:=i) (by omega)
    obtain ⟨pk,lk⟩:=ih k (List.mem_of_getElem? hk)
    have hkn:(ls n.Kids)[i]? =some k:=by rw [hW,List.getElem?_append_left (by omega)];exact hk
    have hdl:(F.drop i).length=(F.drop (i+1)).length+1:=by rw [drop_cons hk,List.length_cons]
    rw [hdl,drop_cons hk,szl] at hs
    have h1:(L++[ik 2]).length=L.length+1:=by simp
    have h2:(L++[ik 2]++cd k (L.length+1) fr).length=L.length+1+sz k:=by rw [List.length_append,h1,lk]
    have e0:ls (some [((L.length+1+sz k:Nat):Int)])=di [L.length+1+sz k]:=rfl
    rw [bz.eq_3,dti (by omega),f67 L G s _ (by omega),sm,ixs hkn,sm,pk (L++[ik 2]) G s fr (by rw [h1];omega) (by rw [h1];omega) hfs,sm,h1,f67 (L++[ik 2]++cd k (L.length+1) fr) _ _ _ (by rw [h2];omega),sm,h2]
    rw [if_pos (by rw [bq];simp [di,ls];omega),f91,sm,oM]
    have e2:L++[ik 2]++cd k (L.length+1) fr++[ik 3]=L++ik 2::(cd k (L.length+1) fr++[ik 3]):=by simp
    have e3:(L++ik 2::(cd k (L.length+1) fr++[ik 3])).length=L.length+sz k+2:=by rw [List.length_append,List.length_cons,List.length_append,lk];simp;omega
    simp only [e2]
    rw [ixs (kF L _ (ik 2)),sm,BN _ _ (kF L _ (ik 2)),e3,kK,e0,eC,eo i (by omega)]
    have e4:di O++di [L.length+1+sz k]=di (O++[L.length+1+sz k]):=by simp [di]
    have e5:(({ik 2 with To:=((L.length+sz k+2:Nat):Int)}:aT))=fq 2 ((L.length+sz k+2:Nat):Int):=rfl
    have e6:(L++fq 2 ((L.length+sz k+2:Nat):Int)::(cd k (L.length+1) fr++[ik 3])).length=L.length+sz k+2:=by rw [List.length_append,List.length_cons,List.length_append,lk];simp;omega
    rw [e4,e5,Ni n G F k0 hW hl ih m (i+1) _ _ fr _ (by omega) (by omega) (by omega) (by omega) (by simp;omega),drop_cons hk,lF,cP,jps,e6]
    have e7:L++fq 2 ((L.length+sz k+2:Nat):Int)::(cd k (L.length+1) fr++[ik 3])++lF (F.drop (i+1)) 0 (L.length+sz k+2) fr=L++fq 2 ((L.length+sz k+2:Nat):Int)::(cd k (L.length+1) fr++fq 3 ((0:Nat):Int)::lF (F.drop (i+1)) 0 (L.length+sz k+2) fr):=by simp
    have e8:O++[L.length+1+sz k]++jps (F.drop (i+1)) (L.length+sz k+2)=O++(L.length+sz k+1)::jps (F.drop (i+1)) (L.length+sz k+2):=by simp;omega
    have e9:max (max s (fr+dep k)) (fr+cP (F.drop (i+1)))=max s (fr+max (dep k) (cP (F.drop (i+1)))):=by omega
    rw [e7,e8,e9]
structure Kq (k:aK):Prop where
 p:Qn k
 l:Ln k
 g:Rg k=some (lh k)
 c:(nG (lh k)).length=if ck k=0 then 0 else 1
theorem jG {k:aK} (hk:Kq k):sz k+(nG (lh k)).length=cT k:=by rw [hk.c];rfl
theorem No {k:aK} (hk:Kq k) (L:List aT) (G:Int) (s fr:Nat) (h:L.length+cT k≤16384) (hf:fr≤L.length) (hfs:fr≤s):
  bz (.sP (Lo L G s) k (fr:Int))=some (Lo (L++mW (cd k) (lh k) L.length fr) G (max s (fr+dep k))):=by
 have hr:=jG hk
 have hl:(L++nG (lh k)).length=L.length+(nG (lh k)).length:=List.length_append
 have e:bz (.sP (Lo L G s) k (fr:Int))=bz (.pT (fr:Int) k (Lo (L++nG (lh k)) G s)):=by
  rw [bz.eq_11,hk.g,sm]
  unfold nG
  by_cases h0:(lh k).1>0
  ·rw [dti h0,f67 _ _ _ _ (by omega),sm,if_pos h0]
  rw [eU h0,if_neg h0,List.append_nil]
 rw [e,bz.eq_12,hk.p (L++nG (lh k)) G s fr (by rw [hl];omega) (by rw [hl];omega) hfs,sm,hl]
 unfold mW
 rw [List.append_assoc]
theorem Nn {k:aK} (hk:Kq k) (L:List aT) (G:Int) (s fr:Nat) (h:L.length+cT k+2≤16384) (hf:fr≤L.length) (hfs:fr≤s):
  bz (.sQ (Lo L G s) k (fr:Int))=some (Lo (L++jA (cd k) (lh k) L.length fr) G (max s (fr+(dep k+1)))):=by
 have hr:=jG hk
 have h1:(L++[Io 7 fr]).length=L.length+1:=by simp
 have hrl:(mW (cd k) (lh k) (L.length+1) (fr+1)).length=cT k:=by rw [oa hk.l];exact hr
 have e:bz (.sQ (Lo L G s) k (fr:Int))=bz (.pU (fr:Int) k (Lo L G (max s (fr+1)))):=by
  rw [bz.eq_13,eo fr (by omega)]
  by_cases hs:s<fr+1
  ·have:max s (fr+1)=fr+1:=by omega
   rw [dti (by show (s:Int)<_;omega),this];rfl
  have:max s (fr+1)=s:=by omega
  rw [eU (by show ¬(s:Int)<_;omega),this]
 rw [e,bz.eq_14,f67 _ _ _ _ (by omega),sm,eo fr (by omega),No hk (L++[Io 7 fr]) G (max s (fr+1)) (fr+1) (by rw [h1];omega) (by rw [h1];omega) (by omega),sm,h1,f67 _ _ _ _ (by rw [List.length_append,h1,hrl];omega),sm]
 have e3:max (max s (fr+1)) (fr+1+dep k)=max s (fr+(dep k+1)):=by omega
 rw [e3]
 unfold jA
 simp
theorem Nk (n:aK) {k:aK} (hk:Kq k) (G:Int) (hks:ix (ls n.Kids) 0=some k) (mn:Nat) (hmn:mn≤255) (hm:n.Min=mn): ∀(m i:Nat) (L:List aT) (s fr:Nat),m+i=mn→L.length+m*cT k≤16384→fr≤L.length→fr≤s→
    bz (.tP (fr:Int) n (i:Int) (Lo L G s))=bz (.tQ (fr:Int) n (Lo (L++jB (cd k) (lh k) (cT k) fr m L.length) G (if m=0 then s else max s (fr+dep k))))
  | 0,i,L,s,fr,h,hs,hf,hfs=>by
    rw [bz.eq_6,eU (by omega),jB,List.append_nil,if_pos rfl]
  | m+1,i,L,s,fr,h,hs,hf,hfs=>by
    have hr:=jG hk
    have hrl:(mW (cd k) (lh k) L.length fr).length=cT k:=by rw [oa hk.l];exact hr
    rw [Nat.add_mul,Nat.one_mul] at hs
    rw [bz.eq_6,dti (by omega),f91,sm,hks,sm,No hk L G s fr (by omega) hf hfs,sm,f91,sm,List.length_append,hrl]
    by_cases h0:cT k=0
    · rw [gf (by omega),if_neg (by omega),jB,VZ hk.l (cT k) fr hr.symm h0,List.append_nil]
    rw [gR (by omega),eo i (by omega),Nk n hk G hks mn hmn hm m (i+1) _ _ fr (by omega) (by rw [List.length_append,hrl];omega) (by rw [List.length_append];omega) (by omega),jB,List.length_append,hrl,if_neg (by omega: ¬m+1=0),List.append_assoc]
    have e:(if m=0 then max s (fr+dep k) else max (max s (fr+dep k)) (fr+dep k))=max s (fr+dep k):=by split<;>omega
    rw [e]
theorem Nl (n:aK) {k:aK} (hk:Kq k) (G:Int) (hks:ix (ls n.Kids) 0=some k) (mn d:Nat) (hmn:mn≤255) (hd:d≤255) (hx:n.Max=((mn+d:Nat):Int)): ∀(m i:Nat) (L:List aT) (s fr:Nat) (O:List Nat),m+i=mn+d→mn≤i→L.length+m*(cT k+3)≤16384→fr≤L.length→fr≤s→O.length≤i→
    bz (.tR (fr:Int) n (i:Int) (Lo L G s) (so (di O)))=bz (.oS 0 (Lo (L++opts (cd k) (lh k) (cT k) fr 0 m L.length) G (if m=0 then s else max s (fr+(dep k+1)))) (so (di (O++nQ (cT k) m L.length))))
  | 0,i,L,s,fr,O,h,hi,hs,hf,hfs,hO=>by
    rw [bz.eq_9,eU (by omega),opts,List.append_nil,if_pos rfl,nQ,List.append_nil]
  | m+1,i,L,s,fr,O,h,hi,hs,hf,hfs,hO=>by
    have hfl: ∀a,(jA (cd k) (lh k) a fr).length=cT k+2:=fun a=>by rw [jL hk.l];have:=jG hk;omega
    rw [Nat.add_mul,Nat.one_mul] at hs
    have h1:(L++[ik 2]).length=L.length+1:=by simp
    have h2:(L++[ik 2]++jA (cd k) (lh k) (L.length+1) fr).length=L.length+cT k+3:=by rw [List.length_append,h1,hfl];omega
    have e0:ls (some [(L.length:Int)])=di [L.length]:=rfl
    rw [bz.eq_9,dti (by omega),f67 L G s _ (by omega),sm,if_pos (by rw [bq];simp [di,ls];omega),hks,sm,Nn hk (L++[ik 2]) G s fr (by rw [h1];omega) (by rw [h1];omega) hfs,sm,h1,e0,eC,eo i (by omega)]
    have e4:di O++di [L.length]=di (O++[L.length]):=by simp [di]
    rw [e4,Nl n hk G hks mn d hmn hd hx m (i+1) _ _ fr _ (by omega) (by omega) (by rw [h2];omega) (by rw [h2];omega) (by omega) (by simp;omega),h2,nQ,opts,if_neg (by omega: ¬m+1=0)]
    have e:(if m=0 then max s (fr+(dep k+1)) else max (max s (fr+(dep k+1))) (fr+(dep k+1)))=max s (fr+(dep k+1)):=by split<;>omega
    rw [e]
    have e7:L++[ik 2]++jA (cd k) (lh k) (L.length+1) fr++opts (cd k) (lh k) (cT k) fr 0 m (L.length+cT k+3)=L++fq 2 ((0:Nat):Int)::(jA (cd k) (lh k) (L.length+1) fr++opts (cd k) (lh k) (cT k) fr 0 m (L.length+cT k+3)):=by simp
    have e8:O++[L.length]++nQ (cT k) m (L.length+cT k+3)=O++L.length::nQ (cT k) m (L.length+cT k+3):=by simp
    rw [e7,e8]
theorem JN (k:aK) (hk:Kq k) (e e0 fr:Nat) (m:Nat) (A B:List aT):(nQ (cT k) m A.length).foldl (pat e) (A++(opts (cd k) (lh k) (cT k) fr e0 m A.length++B))=A++(opts (cd k) (lh k) (cT k) fr e m A.length++B):=by
  induction m generalizing A with
  | zero=>rw [nQ,opts,opts];rfl
  | succ m ih=>
    have hfl: ∀a,(jA (cd k) (lh k) a fr).length=cT k+2:=fun a=>by rw [jL hk.l];have:=jG hk;omega
    rw [nQ,opts,opts,List.foldl_cons]
    have e1:A++(fq 2 e0::(jA (cd k) (lh k) (A.length+1) fr++opts (cd k) (lh k) (cT k) fr e0 m (A.length+cT k+3))++B)=A++fq 2 e0::(jA (cd k) (lh k) (A.length+1) fr++(opts (cd k) (lh k) (cT k) fr e0 m (A.length+cT k+3)++B)):=by simp
    rw [e1,kK]
    have e5:(({fq 2 e0 with To:=(e:Int)}:aT))=fq 2 e:=rfl
    have e3:A++fq 2 e::(jA (cd k) (lh k) (A.length+1) fr++(opts (cd k) (lh k) (cT k) fr e0 m (A.length+cT k+3)++B))=(A++fq 2 e::jA (cd k) (lh k) (A.length+1) fr)++(opts (cd k) (lh k) (cT k) fr e0 m (A.length+cT k+3)++B):=by simp
    have e4:A.length+cT k+3=(A++fq 2 e::jA (cd k) (lh k) (A.length+1) fr).length:=by simp [hfl];omega
    have ihh:=ih (A++fq 2 e::jA (cd k) (lh k) (A.length+1) fr)
    rw [←e4] at ihh
    rw [e5,e3,ihh]
    simp
theorem Vk (n:aK) {k:aK} (hk:Kq k) (G:Int) (hks:ix (ls n.Kids) 0=some k) (mn:Nat) (hmn:n.Min=mn) (hmm:mn≤255∧(n.Max= -1∨(mn:Int)≤n.Max∧n.Max≤255)) (L:List aT) (s fr:Nat) (h:L.length+(if n.Max= -1 then cT k+4 else (n.Max-n.Min).toNat*(cT k+3))≤16384) (hf:fr≤L.length) (hfs:fr≤s):
  bz (.tQ (fr:Int) n (Lo L G s))=some (Lo (L++if n.Max= -1 then fq 2 ((L.length+cT k+4:Nat):Int)::(jA (cd k) (lh k) (L.length+1) fr++[fq 3 (L.length:Int)]) else opts (cd k) (lh k) (cT k) fr (L.length+(n.Max-n.Min).toNat*(cT k+3)) (n.Max-n.Min).toNat L.length) G (if n.Max= -1∨n.Min<n.Max then max s (fr+(dep k+1)) else s)):=by
 have hfl: ∀a,(jA (cd k) (lh k) a fr).length=cT k+2:=fun a=>by rw [jL hk.l];have:=jG hk;omega
 rw [bz.eq_7]
 by_cases hx:n.Max= -1
 ·rw [if_pos hx] at h
  have h1:(L++[ik 2]).length=L.length+1:=by simp
  have h2:(L++[ik 2]++jA (cd k) (lh k) (L.length+1) fr).length=L.length+cT k+3:=by rw [List.length_append,h1,hfl];omega
  have e0:bW (none:Sl Int) (ls (some [(L.length:Int)]))=so (di [L.length]):=rfl
  rw [dti (by omega),if_pos hx,if_pos (.inl hx),f67 L G s _ (by omega),sm,if_pos (by simp [ls]),hks,sm,Nn hk (L++[ik 2]) G s fr (by rw [h1];omega) (by rw [h1];omega) hfs,sm,h1,f67 _ _ _ _ (by rw [h2];omega),sm,e0,bz.eq_8,bz.eq_9,eU (by omega)]
  have e2:L++[ik 2]++jA (cd k) (lh k) (L.length+1) fr++[fq 3 (L.length:Int)]=L++ik 2::(jA (cd k) (lh k) (L.length+1) fr++[fq 3 (L.length:Int)]):=by simp
  have e3:(L++ik 2::(jA (cd k) (lh k) (L.length+1) fr++[fq 3 (L.length:Int)])).length=L.length+cT k+4:=by rw [List.length_append,List.length_cons,List.length_append,hfl];simp;omega
  simp only [e2]
  have h4:=JU [L.length] (by simp) G 1 0 (L++ik 2::(jA (cd k) (lh k) (L.length+1) fr++[fq 3 (L.length:Int)])) (max s (fr+(dep k+1))) (by simp) (fun p hp=>by rw [e3];simp at hp;omega)
  have h4':bz (.oS 0 (Lo (L++ik 2::(jA (cd k) (lh k) (L.length+1) fr++[fq 3 (L.length:Int)])) G (max s (fr+(dep k+1)))) (so (di [L.length])))=_:=h4
  rw [h4',List.drop_zero,List.foldl_cons,List.foldl_nil,e3,kK]
 obtain ⟨d,hd⟩: ∃d:Nat,n.Max-n.Min=d:=⟨(n.Max-n.Min).toNat,by omega⟩
 rw [if_neg hx,hd,Int.toNat_natCast] at h
 rw [eU (by omega),if_neg hx,hd,Int.toNat_natCast,bz.eq_8,hmn]
 have h3:=Nl n hk G hks mn d (by omega) (by omega) (by omega) d mn L s fr [] (by omega) (by omega) h hf hfs (by simp)
 have h3':bz (.tR (fr:Int) n (mn:Int) (Lo L G s) none)=_:=h3
 have hol:(opts (cd k) (lh k) (cT k) fr 0 d L.length).length=d*(cT k+3):=oQ hk.l _ _ _ (jG hk).symm d _
 have hlen:(L++opts (cd k) (lh k) (cT k) fr 0 d L.length).length=L.length+d*(cT k+3):=by rw [List.length_append,hol]
 have hpl:=wh (cT k) d L.length
 have h4:=JU (nQ (cT k) d L.length) (by omega) G (nQ (cT k) d L.length).length 0 (L++opts (cd k) (lh k) (cT k) fr 0 d L.length) (if d=0 then s else max s (fr+(dep k+1))) (by omega) (fun p hp=>by rw [hlen];exact BK _ _ _ p hp)
 have h5:=JN k hk (L.length+d*(cT k+3)) 0 fr d L []
 rw [List.append_nil,List.append_nil] at h5
 rw [h3',List.nil_append]
 have h4':bz (.oS 0 (Lo (L++opts (cd k) (lh k) (cT k) fr 0 d L.length) G (if d=0 then s else max s (fr+(dep k+1)))) (so (di (nQ (cT k) d L.length))))=_:=h4
 rw [h4',List.drop_zero,hlen,h5]
 have e:(if d=0 then s else max s (fr+(dep k+1)))=if n.Max= -1∨(mn:Int)<n.Max then max s (fr+(dep k+1)) else s:=by
  by_cases h0:d=0
  ·rw [if_pos h0,if_neg (by omega)]
  rw [if_neg h0,if_pos (by omega)]
 rw [e]
theorem JV: ∀(n:aK) (b:Nat),cnt n≤100000→good n b→Qn n:=by
  intro n
  induction n using cW with
  | h n ih=>
    intro b hc hg L G s fr hs hf hfs
    have hcl:=eI n
    have hlen:=dV (ls n.Kids)
    have hln:=lH n b hc hg
    rw [gw] at hg
    have ih': ∀k∈ls n.Kids,Kq k:=fun k hk=>by
      obtain ⟨b',hb'⟩:=fT hg.2 hk
      have:=eW hk
      exact ⟨ih k hk b' (by omega) hb',lH k b' (by omega) hb',(f65 (by omega)).trans (f38 (by omega) hb').1,rC (by omega) hb'⟩
    have ihp: ∀k∈ls n.Kids,Qn k∧Ln k:=fun k hk=>⟨(ih' k hk).p,(ih' k hk).l⟩
    rw [bz.eq_1,xp,wF]
    rw [tu] at hs
    have nok: ∀(h:(ls n.Kids).length=0),cP (ls n.Kids)=0:=fun h=>by rw [List.eq_nil_of_length_eq_zero h,cP]
    rcases oU hg.1.1 with ⟨h,hk⟩ | ⟨h,hm,hk⟩ | ⟨h,hk⟩ | ⟨h,hk⟩
    · rcases h with h | h
      · simp (config:={decide:=true}) only [h,if_true,if_false] at hs ⊢
        have:=Zt n G (by omega) ihp (ls n.Kids).length 0 L s fr (by omega) (by rw [List.drop_zero];exact hs) hf hfs
        have this':bz (.tI (fr:Int) n 0 (Lo L G s))=_:=this
        rw [this',List.drop_zero]
      simp (config:={decide:=true}) only [h,if_true,if_false] at hs ⊢
      obtain ⟨F,k,hFk⟩: ∃F k,ls n.Kids=F++[k]:=⟨_,_,(List.dropLast_concat_getLast (by intro e;rw [e] at hk;simp at hk)).symm⟩
      have hFl:(ls n.Kids).length=F.length+1:=by rw [hFk];simp
      have hkm:k∈ls n.Kids:=by rw [hFk];simp
      have hFm: ∀x∈F,Qn x∧Ln x:=fun x hx=>ihp x (by rw [hFk];simp [hx])
      have hlast:IntKind.wrap .i64 (((ls n.Kids).length:Int)-1)=(F.length:Int):=by rw [Cu _ (by omega) (by omega),hFl];rfl
      rw [hlast]
      rw [hFl,hFk,ou] at hs
      have hal:=vp F (fun x hx=>(hFm x hx).2) 0 L.length fr
      have hL2:(L++lF F 0 L.length fr).length=L.length+szl F+2*F.length:=by rw [List.length_append,hal];omega
      have h1:=Ni n G F k hFk (by omega) hFm F.length 0 L s fr [] (by omega) (by rw [List.drop_zero];omega) hf hfs (by simp)
      rw [List.drop_zero,List.nil_append] at h1
      have h1':bz (.tJ (fr:Int) n (F.length:Int) 0 (Lo L G s) none)=_:=h1
      rw [h1',(ihp k hkm).1 (L++lF F 0 L.length fr) G _ fr (by rw [hL2];omega) (by rw [hL2];omega) (by omega),sm,hL2]
      have hlk:=(ihp k hkm).2 (L.length+szl F+2*F.length) fr
      have hC:(L++lF F 0 L.length fr++cd k (L.length+szl F+2*F.length) fr).length=L.length+szl F+2*F.length+sz k:=by rw [List.length_append,hL2,hlk]
      have h2:=Nj (jps F L.length) (by rw [wN];omega) G (jps F L.length).length 0 _ (max (max s (fr+cP F)) (fr+dep k)) (by omega) (fun p hp=>by rw [hC];have:=Ar F L.length p hp;omega)
      have h2':bz (.qP 0 (Lo (L++lF F 0 L.length fr++cd k (L.length+szl F+2*F.length) fr) G (max (max s (fr+cP F)) (fr+dep k))) (so (di (jps F L.length))))=_:=h2
      rw [h2',List.drop_zero,hC,List.append_assoc,vq _ _ _ F (fun x hx=>(hFm x hx).2),hFk,pG,sN,ou]
      have e1:max (max s (fr+cP F)) (fr+dep k)=max s (fr+max (cP F) (dep k)):=by omega
      have e2:L.length+(szl F+sz k)+2*((F++[k]).length-1)=L.length+szl F+2*F.length+sz k:=by simp;omega
      rw [e1,e2]
    · simp (config:={decide:=true}) only [h,if_true,if_false] at hs ⊢
      obtain ⟨k,hk⟩: ∃k,ls n.Kids=[k]:=List.length_eq_one_iff.1 hk
      have hkd:=ih' k (by simp [hk])
      have hks:ix (ls n.Kids) 0=some k:=by rw [hk];rfl
      have e1:szl [k]=sz k:=by rw [szl,szl];rfl
      have e2:cH [k]=ck k:=by rw [cH,cH];rfl
      have e3:cP [k]=dep k:=by rw [cP,cP];omega
      rw [hk,e1,e2] at hs
      have hs':L.length+(n.Min.toNat*cT k+if n.Max= -1 then cT k+4 else (n.Max-n.Min).toNat*(cT k+3))≤16384:=hs
      obtain ⟨mn,hmn⟩:=rI hm.1
      have hmt:n.Min.toNat=mn:=by omega
      rw [hmt] at hs'
      have hml:=lY hkd.l (cT k) fr (jG hkd).symm mn L.length
      have h1:=Nk n hkd G hks mn (by omega) hmn mn 0 L s fr (by omega) (by omega) hf hfs
      have h1':bz (.tP (fr:Int) n 0 (Lo L G s))=_:=h1
      have hL2:(L++jB (cd k) (lh k) (cT k) fr mn L.length).length=L.length+mn*cT k:=by rw [List.length_append,hml]
      have h2:=Vk n hkd G hks mn hmn (by omega) (L++jB (cd k) (lh k) (cT k) fr mn L.length) (if mn=0 then s else max s (fr+dep k)) fr (by rw [hL2];omega) (by rw [hL2];omega) (by split<;>omega)
      rw [bz.eq_5,h1',h2,sm,hL2,hk,RO]
      unfold yx
      rw [hmt,e3,List.append_assoc]
      have e4:(if n.Max= -1∨n.Min<n.Max then max (if mn=0 then s else max s (fr+dep k)) (fr+(dep k+1)) else if mn=0 then s else max s (fr+dep k))=max s (fr+if n.Max= -1∨n.Min<n.Max then dep k+1 else if 0<n.Min then dep k else 0):=by
        by_cases c1:n.Max= -1∨n.Min<n.Max
        · rw [if_pos c1,if_pos c1];split<;>omega
        rw [if_neg c1,if_neg c1]
        by_cases c2:mn=0
        · rw [if_pos c2,if_neg (by omega)];omega
        rw [if_neg c2,if_pos (by omega)]
      rw [e4]
    · simp (config:={decide:=true}) only [h,if_true,if_false] at hs ⊢
      obtain ⟨k,hk⟩: ∃k,ls n.Kids=[k]:=List.length_eq_one_iff.1 hk
      have hkd:=ih' k (by simp [hk])
      have hks:ix (ls n.Kids) 0=some k:=by rw [hk];rfl
      have e1:szl [k]=sz k:=by rw [szl,szl];rfl
      have e3:cP [k]=dep k:=by rw [cP,cP];omega
      rw [hk,e1] at hs
      have h1:(L++[Im 4 n.aH]).length=L.length+1:=by simp
      rw [f67 L G s _ (by omega),sm,hks,sm,hkd.p (L++[Im 4 n.aH]) G s fr (by rw [h1];omega) (by rw [h1];omega) hfs,sm,f67 _ _ _ _ (by rw [List.length_append,hkd.l,h1];omega),sm,h1,hk,Rp,e3]
      simp
    have hd:=nok hk
    have e0:max s (fr+cP (ls n.Kids))=s:=by rw [hd];omega
    rcases h with h | h | h | h | h<;>simp (config:={decide:=true}) only [h,if_true,if_false,e0] at hs ⊢
    · rw [List.append_nil]
    · rw [f67 L G s _ (by omega),sm]
    · rw [f67 L G s _ (by omega),sm]
    · rw [f67 L G s _ (by omega),sm]
    rw [f67 L G s _ (by omega),sm]
theorem f45 (n:aK) (hc:cnt n≤10000000):Tg n=Rb n:=by
 obtain ⟨r,hr,w,hw,h1,h2,h3⟩:=f10 n
 unfold Tg
 rw [f64 n hc,hw,sm,hr]
 by_cases h0:w.2=0
 ·obtain ⟨hg,hc8,hsz,hw1,hp⟩:=h3 h0
  have hl:=lH n 0 (by omega) hg 0 0
  have hq:=JV n 0 (by omega) hg [] (lh n).2 0 0 (by simp;omega) (by simp) (by omega)
  have hq':Wz ({bH:=(lh n).2,bX:=0,Code:=(none:Sl aT)}:af) n 0=_:=hq
  rw [zU h0,f65 (by omega),(f38 (by omega) hg).1,sm,hq',sm,List.nil_append,f67 _ _ _ _ (by rw [List.length_nil,hl];omega),sm]
  have e:r=(JR n,0):=by
   have:r.2=0:=by rw [h1];exact h0
   exact Prod.ext hp this
  rw [e]
  unfold JR Lo
  rw [(f38 (by omega) hg).2]
  have hgi:oG 0 (ck n)=(ck n:Int):=by unfold oG;split<;>omega
  simp only [hgi,List.length_nil,Nat.zero_add,Nat.zero_max]
  congr 2
  cases cd n 0 0<;>rfl
 have e:r=({bH:=0,bX:=0,Code:=none},w.2):=Prod.ext (h2 h0) h1
 rw [BI h0,e]
end Go.Proofs.YtcidnoghoifmmaaDoor
end
section
namespace Go.Proofs.YtcidnoghoifmmaaDoor
open Go AW
set_option maxHeartbeats 4000000
inductive ES (hi G S:Nat):aT→Prop
 | set (s:an 4 Int):ES hi G S (Qz s)
 | to (k:Int) (t:Nat):k=2∨k=3→t≤hi→ES hi G S (fq k (t:Int))
 | gr (k g:Int):k=4∨k=5∨k=9→1≤g→g≤(G:Int)→ES hi G S (Im k g)
 | cl (g l:Int):1≤g→g≤l→l≤(G:Int)→ES hi G S (Zn g l)
 | sl (k:Int) (s:Nat):k=7∨k=8→s<S→ES hi G S (Io k (s:Int))
 | be (k:Int):k=10∨k=11→ES hi G S (ik k)
theorem ES.mono {hi G S hi' G' S':Nat} {x:aT} (h:ES hi G S x) (h1:hi≤hi') (h2:G≤G') (h3:S≤S'):ES hi' G' S' x:=by
 cases h with
 | set s=>exact .set s
 | to k t a b=>exact .to k t a (by omega)
 | gr k g a b c=>exact .gr k g a b (by omega)
 | cl g l a b c=>exact .cl g l a b (by omega)
 | sl k s a b=>exact .sl k s a (by omega)
 | be k a=>exact .be k a
def fy (hi G S:Nat) (l:List aT):Prop:= ∀x∈l,ES hi G S x
theorem fy.nil {hi G S:Nat}:fy hi G S []:=fun x h=>by simp at h
theorem fy.cons {hi G S:Nat} {x:aT} {l:List aT} (h:ES hi G S x) (h':fy hi G S l):fy hi G S (x::l):=fun y hy=>by
 rcases List.mem_cons.1 hy with rfl | hy
 ·exact h
 exact h' y hy
theorem fy.app {hi G S:Nat} {l m:List aT} (h:fy hi G S l) (h':fy hi G S m):fy hi G S (l++m):=fun y hy=>by
 rcases List.mem_append.1 hy with hy | hy
 ·exact h y hy
 exact h' y hy
theorem fy.mono {hi G S hi' G' S':Nat} {l:List aT} (h:fy hi G S l) (h1:hi≤hi') (h2:G≤G') (h3:S≤S'):fy hi' G' S' l:=fun x hx=>(h x hx).mono h1 h2 h3
def Ak (b:Nat) (k:aK):Prop:= ∀a fr,fy (a+sz k) (b+ck k) (fr+dep k) (cd k a fr)
theorem Hy (P: ∀k b,Ak b k∨True): ∀(l:List aK) (b:Nat),(∀k∈l,∀b,good k b→Ak b k)→eu l b→ ∀a fr,fy (a+szl l) (b+cH l) (fr+cP l) (Ab l a fr)
  | [],b,_,_,a,fr=>by rw [Ab];exact .nil
  | x::l,b,h,hg,a,fr=>by
    rw [eu] at hg
    rw [Ab,szl,cH,cP]
    exact (h x (by simp) b hg.1 a fr |>.mono (by omega) (by omega) (by omega)).app ((Hy P l (b+ck x) (fun k hk=>h k (by simp [hk])) hg.2 (a+sz x) fr).mono (by omega) (by omega) (by omega))
theorem HV: ∀(l:List aK) (b:Nat),(∀k∈l,∀b,good k b→Ak b k)→eu l b→ ∀(e a fr:Nat),a+szl l+2*(l.length-1)≤e→fy e (b+cH l) (fr+cP l) (all l e a fr)
  | [],b,_,_,e,a,fr,he=>by rw [all];exact .nil
  | [x],b,h,hg,e,a,fr,he=>by
    rw [eu] at hg
    have e1:szl [x]=sz x:=by simp [szl]
    rw [e1] at he
    rw [all,if_pos (show ([]:List aK).isEmpty=true from rfl),cH,cP]
    exact (h x (by simp) b hg.1 a fr).mono (by omega) (by omega) (by omega)
  | x::y::l,b,h,hg,e,a,fr,he=>by
    rw [eu] at hg
    have e1:szl (x::y::l)=sz x+szl (y::l):=by rw [szl]
    have e2:cH (x::y::l)=ck x+cH (y::l):=by rw [cH]
    have e3:cP (x::y::l)=max (dep x) (cP (y::l)):=by rw [cP]
    simp only [List.length_cons] at he
    rw [all,if_neg (by simp),e2,e3]
    refine .cons (.to 2 _ (.inl rfl) (by omega)) (.app ((h x (by simp) b hg.1 (a+1) fr).mono (by omega) (by omega) (by omega)) (.cons (.to 3 _ (.inr rfl) (by omega)) ?_))
    exact (HV (y::l) (b+ck x) (fun k hk=>h k (by simp at hk ⊢;exact .inr hk)) hg.2 e (a+sz x+2) fr (by simp only [List.length_cons];omega)).mono (by omega) (by omega) (by omega)
section
variable {k:aK} {b:Nat} (hA:Ak b k) (hk:Kd k) (hl:lh k=(pR b (ck k),oG b (ck k)))
include hA hk hl
theorem Jc (a fr:Nat):fy (a+cT k) (b+ck k) (fr+dep k) (mW (cd k) (lh k) a fr):=by
 have hr:=jy hk
 refine .app ?_ ((hA (a+(nG (lh k)).length) fr).mono (by omega) (by omega) (by omega))
 rw [hl]
 unfold nG pR oG
 by_cases h0:ck k=0
 ·rw [if_pos h0,if_neg (by simp)];exact .nil
 rw [if_neg h0,if_neg h0,if_pos (show (b:Int)+1>0 by omega)]
 exact .cons (.cl _ _ (by simp only;omega) (by simp only;omega) (by simp only;omega)) .nil
theorem IW (a fr:Nat):fy (a+cT k+2) (b+ck k) (fr+(dep k+1)) (jA (cd k) (lh k) a fr):=by
 refine .cons (.sl 7 fr (.inl rfl) (by omega)) (.app ((Jc hA hk hl (a+1) (fr+1)).mono (by omega) (by omega) (by omega)) (.cons (.sl 8 fr (.inr rfl) (by omega)) .nil))
theorem Cc (fr:Nat): ∀(m a:Nat),fy (a+m*cT k) (b+ck k) (fr+dep k) (jB (cd k) (lh k) (cT k) fr m a)
  | 0,a=>by rw [jB];exact .nil
  | m+1,a=>by
    rw [jB,Nat.add_mul,Nat.one_mul]
    exact .app ((Jc hA hk hl a fr).mono (by omega) (by omega) (by omega)) ((Cc fr m (a+cT k)).mono (by omega) (by omega) (by omega))
theorem Ch (fr e:Nat): ∀(m a:Nat),a+m*(cT k+3)≤e→fy e (b+ck k) (fr+(dep k+1)) (opts (cd k) (lh k) (cT k) fr e m a)
  | 0,a,h=>by rw [opts];exact .nil
  | m+1,a,h=>by
    rw [Nat.add_mul,Nat.one_mul] at h
    rw [opts]
    exact .cons (.to 2 e (.inl rfl) (by omega)) (.app ((IW hA hk hl (a+1) fr).mono (by omega) (by omega) (by omega)) (Ch fr e m (a+cT k+3) (by omega)))
theorem Li (mn mx:Int) (h0:0≤mn) (hm:mx= -1∨mn≤mx) (a fr:Nat):fy (a+(mn.toNat*cT k+if mx= -1 then cT k+4 else (mx-mn).toNat*(cT k+3))) (b+ck k) (fr+(if mx= -1∨mn<mx then dep k+1 else if 0<mn then dep k else 0)) (yx (cd k) (lh k) (cT k) mn mx a fr):=by
 unfold yx
 refine .app ?_ ?_
 ·by_cases hz:mn.toNat=0
  ·rw [hz,jB];exact .nil
  refine (Cc hA hk hl fr mn.toNat a).mono (by omega) (by omega) ?_
  split
  ·omega
  rw [if_pos (by omega)];omega
 by_cases hx:mx= -1
 ·rw [if_pos hx,if_pos hx,if_pos (.inl hx)]
  refine .cons (.to 2 _ (.inl rfl) (by omega)) (.app ((IW hA hk hl (a+mn.toNat*cT k+1) fr).mono (by omega) (by omega) (by omega)) (.cons (.to 3 _ (.inr rfl) (by omega)) .nil))
 rw [if_neg hx,if_neg hx]
 by_cases hz:(mx-mn).toNat=0
 ·rw [hz,opts];exact .nil
 rw [if_pos (by omega)]
 exact (Ch hA hk hl fr _ (mx-mn).toNat (a+mn.toNat*cT k) (Nat.le_refl _)).mono (by omega) (by omega) (by omega)
end
theorem UZ: ∀(n:aK) (b:Nat),cnt n≤100000→good n b→Ak b n:=by
  intro n
  induction n using cW with
  | h n ih=>
    intro b hc hg a fr
    have hcl:=eI n
    have hgc:=kE n
    rw [gw] at hg
    have ih': ∀k∈ls n.Kids,∀b,good k b→Ak b k:=fun k hk b hb=>ih k hk b (by have:=eW hk;omega) hb
    rw [xp,wF,tu]
    rcases oU hg.1.1 with ⟨h,hk⟩ | ⟨h,hm,hk⟩ | ⟨h,hk⟩ | ⟨h,hk⟩
    · rcases h with h | h
      · simp (config:={decide:=true}) only [h,if_true,if_false,Nat.add_zero,Nat.zero_add] at hg hgc ⊢
        rw [hgc]
        exact Hy (fun _ _=>.inr trivial) _ b ih' hg.2 a fr
      simp (config:={decide:=true}) only [h,if_true,if_false,Nat.add_zero,Nat.zero_add] at hg hgc ⊢
      rw [hgc,←Nat.add_assoc]
      exact HV _ b ih' hg.2 _ a fr (Nat.le_refl _)
    · obtain ⟨k,hk⟩: ∃k,ls n.Kids=[k]:=List.length_eq_one_iff.1 hk
      have hkm:k∈ls n.Kids:=by simp [hk]
      have hck:=eW hkm
      simp (config:={decide:=true}) only [h,if_true,if_false,Nat.add_zero,Nat.zero_add] at hg hgc ⊢
      rw [hk,eu,eu] at hg
      have hgk:=hg.2.1
      have hkd:Kd k:=⟨compile k b (by omega) hgk,lH k b (by omega) hgk,(f38 (by omega) hgk).1,rC (by omega) hgk⟩
      have:=Li (ih' k hkm b hgk) hkd (f38 (by omega) hgk).2 n.Min n.Max (by omega) (by omega) a fr
      have e1:szl [k]=sz k:=by simp [szl]
      have e2:cH [k]=ck k:=by simp [cH]
      have e3:cP [k]=dep k:=by simp [cP]
      rw [hgc,hk,RO,e1,e2,e3]
      exact this
    · obtain ⟨k,hk⟩: ∃k,ls n.Kids=[k]:=List.length_eq_one_iff.1 hk
      have hkm:k∈ls n.Kids:=by simp [hk]
      simp (config:={decide:=true}) only [h,if_true,if_false,Nat.add_zero,Nat.zero_add] at hg hgc ⊢
      rw [hk,eu,eu] at hg
      have hgr:=(hg.1.2.1 h).1
      have e1:szl [k]=sz k:=by simp [szl]
      have e2:cH [k]=ck k:=by simp [cH]
      have e3:cP [k]=dep k:=by simp [cP]
      rw [hgc,hk,Rp,e1,e2,e3]
      exact .cons (.gr 4 _ (.inl rfl) (by omega) (by omega)) (.app ((ih' k hkm _ hg.2.1 (a+1) fr).mono (by omega) (by omega) (by omega)) (.cons (.gr 5 _ (.inr (.inl rfl)) (by omega) (by omega)) .nil))
    rcases h with h | h | h | h | h<;>simp (config:={decide:=true}) only [h,if_true,if_false]
    · exact .nil
    · exact .cons (.set _) .nil
    · have:=hg.1.2.2 h
      exact .cons (.gr 9 _ (.inr (.inr rfl)) (by omega) (by omega)) .nil
    · exact .cons (.be 10 (.inl rfl)) .nil
    exact .cons (.be 11 (.inr rfl)) .nil
theorem LJ: ∀(n:aK) (b:Nat),good n b→ck n=0∨b+ck n≤99:=by
  intro n
  induction n using cW with
  | h n ih=>
    intro b hg
    rw [gw] at hg
    rw [kE]
    have key: ∀(l:List aK) (b:Nat),(∀k∈l,∀b,good k b→ck k=0∨b+ck k≤99)→eu l b→cH l=0∨b+cH l≤99:=by
      intro l
      induction l with
      | nil=>intro b _ _;left;rw [cH]
      | cons x l ihl=>
        intro b h hg
        rw [eu] at hg
        have h1:=h x (by simp) b hg.1
        have h2:=ihl (b+ck x) (fun k hk=>h k (by simp [hk])) hg.2
        rw [cH];omega
    have:=key _ _ ih hg.2
    by_cases h6:n.Kind=6
    · have h99:=(hg.1.2.1 h6).2
      rw [if_pos h6] at this ⊢;omega
    rw [if_neg h6] at this ⊢;omega
theorem Qb: ∀(n:aK) (b:Nat),good n b→dep n≤sz n:=by
  intro n
  induction n using cW with
  | h n ih=>
    intro b hg
    rw [gw] at hg
    have ih': ∀k∈ls n.Kids,dep k≤sz k:=fun k hk=>by
      obtain ⟨b',hb'⟩:=fT hg.2 hk
      exact ih k hk b' hb'
    have key: ∀(l:List aK),(∀k∈l,dep k≤sz k)→cP l≤szl l:=by
      intro l
      induction l with
      | nil=>intro _;rw [cP,szl];omega
      | cons x l ihl=>intro h;have:=h x (by simp);have:=ihl fun k hk=>h k (by simp [hk]);rw [cP,szl];omega
    have hd:=key _ ih'
    rw [wF,tu]
    rcases oU hg.1.1 with ⟨h,hk⟩ | ⟨h,hm,hk⟩ | ⟨h,hk⟩ | ⟨h,hk⟩
    · rcases h with h | h<;>simp (config:={decide:=true}) only [h,if_true,if_false]<;>omega
    · simp (config:={decide:=true}) only [h,if_true,if_false]
      generalize (if cH (ls n.Kids)=0 then 0 else 1)=c
      by_cases hx:n.Max= -1
      · rw [if_pos (.inl hx),if_pos hx];omega
      rw [if_neg hx]
      by_cases h1:n.Min<n.Max
      · rw [if_pos (.inr h1)]
        have:szl (ls n.Kids)+c+3≤(n.Max-n.Min).toNat*(szl (ls n.Kids)+c+3):=Nat.le_mul_of_pos_left _ (by omega)
        omega
      rw [if_neg (by omega)]
      by_cases h2:0<n.Min
      · rw [if_pos h2]
        have:szl (ls n.Kids)+c≤n.Min.toNat*(szl (ls n.Kids)+c):=Nat.le_mul_of_pos_left _ (by omega)
        omega
      rw [if_neg h2];omega
    · simp (config:={decide:=true}) only [h,if_true,if_false];omega
    have:cP (ls n.Kids)=0:=by rw [List.eq_nil_of_length_eq_zero hk,cP]
    rcases h with h | h | h | h | h<;>simp (config:={decide:=true}) only [h,if_true,if_false]<;>omega
theorem Lg {p:af} {hi G S:Nat} {x:aT} (h:ES hi G S x) (h1:hi<(ls p.Code).length) (h2:p.bH=(G:Int)) (h3:p.bX=(S:Int)):fit p x=true∧x.Kind≠12:=by
 unfold fit
 cases h with
 | set s=>exact ⟨by simp,by show (1:Int)≠12;decide⟩
 | to k t a b=>rcases a with rfl | rfl<;>refine ⟨by simp;omega,by simp⟩
 | gr k g a b c=>rcases a with rfl | rfl | rfl<;>refine ⟨by simp;omega,by simp⟩
 | cl g l a b c=>exact ⟨by simp;omega,by show (6:Int)≠12;decide⟩
 | sl k s a b=>rcases a with rfl | rfl<;>refine ⟨by simp;omega,by simp⟩
 | be k a=>rcases a with rfl | rfl<;>refine ⟨by simp,by simp⟩
theorem yO {p:af}: ∀(l:List aT) (i:Nat),(∀x∈l,fit p x=true∧x.Kind≠12)→i+l.length+1=(ls p.Code).length→fits p i (l++[ik 12])=true
  | [],i,_,h=>by
    have:fit p (ik 12)=true:=by unfold fit;simp
    rw [List.nil_append,fits,fits,this]
    simp at h
    simp [h]
  | x::l,i,hx,h=>by
    obtain ⟨h1,h2⟩:=hx x (by simp)
    simp only [List.length_cons] at h
    rw [List.cons_append,fits,h1,yO l (i+1) (fun y hy=>hx y (by simp [hy])) (by omega),decide_eq_false (by omega)]
    simp [h2]
theorem RN {n:aK} (hg:good n 0) (hc:cnt n≤8192) (hs:sz n<16384):rp (JR n)=true:=by
 have hl:=lH n 0 (by omega) hg 0 0
 have hok:=UZ n 0 (by omega) hg 0 0
 have h99:=LJ n 0 hg
 have hd:=Qb n 0 hg
 have hcode:ls (JR n).Code=cd n 0 0++[ik 12]:=rfl
 have hlen:(ls (JR n).Code).length=sz n+1:=by rw [hcode,List.length_append,hl];rfl
 unfold rp
 rw [hlen,decide_eq_true (by show 0≤((ck n:Nat):Int)∧((ck n:Nat):Int)≤99∧0≤((dep n:Nat):Int)∧((dep n:Nat):Int)≤16384∧_;omega),hcode,Bool.true_and]
 apply yO
 ·intro x hx
  exact Lg (hok x hx) (by rw [hlen];omega) (by show ((ck n:Nat):Int)=_;omega) (by show ((dep n:Nat):Int)=_;omega)
 rw [hl,hlen];omega
end Go.Proofs.YtcidnoghoifmmaaDoor
end
section
namespace Go.Proofs.YtcidnoghoifmmaaDoor
open Go AW
set_option maxHeartbeats 4000000
theorem Mj: ∀n:Fin 256,IntKind.wrap .u8 (Int.tdiv (n.val:Int) 64)=((n.val/64:Nat):Int)∧Int.tmod (n.val:Int) 64=((n.val%64:Nat):Int):=by decide+kernel
def hasB (s:an 4 Int) (b:UInt8):Bool:=kz .u64 (jC .u64 (s.l.getD (b.toNat/64) 0) ((b.toNat%64:Nat):Int)) 1==1
theorem f44 (s:an 4 Int) (b:UInt8):KR s (b.toNat:Int)=some (hasB s b):=by
 have hb:b.toNat<256:=b.toNat_lt
 obtain ⟨h1,h2⟩:=Mj ⟨b.toNat,hb⟩
 simp only at h1 h2
 have hl:=s.h
 obtain ⟨v,hv⟩:=bQ s.l (i:=b.toNat/64) (by omega)
 unfold KR hasB
 rw [h1,h2,if_pos (by omega),ixs hv,sm,if_pos (by omega)]
 simp [List.getD,hv]
inductive Cf (C:List aT) (s:aZ) (fr:Nat):Nat→Nat→Prop
 | start:Cf C s fr fr 0
 | Xl {q i j:Nat}:Cf C s fr q i→j∈Xl C s.length q i→Cf C s fr q j
 | chr {q i:Nat} {x:aT} {b:UInt8}:Cf C s fr q i→C[i]? =some x→x.Kind=1→s[q]? =some b→hasB x.Set b=true→Cf C s fr (q+1) (i+1)
open Classical in
noncomputable def acc (C:List aT) (s:aZ) (fr q:Nat):Bool:=decide (Cf C s fr q (C.length-1))
abbrev Zz:=(Sl Int) × Int × (Sl Int) × Nat
structure Pz (q base k:Nat) (z:Zz):Prop where
 f:z.2.2.2=0
 p:z.2.1=(q:Int)
 o:(ls z.1).length≤base+k
 n:(ls z.2.2.1).length≤k
end Go.Proofs.YtcidnoghoifmmaaDoor
end
section
namespace Go.Proofs.YtcidnoghoifmmaaDoor
open Go AW
set_option maxHeartbeats 4000000
end Go.Proofs.YtcidnoghoifmmaaDoor
end
section
namespace Go.Proofs.YtcidnoghoifmmaaDoor
open Go AW
set_option maxHeartbeats 4000000
theorem Mz (n:aK) (hl:(ls n.Kids).length≤100000) (hn: ∀k∈ls n.Kids,∃b,uZ (.e k)=some b): ∀(m i:Nat),m+i=(ls n.Kids).length→ ∃b,uZ (.p1 n.Kids ((ls n.Kids).length:Int) (i:Int))=some b
  | 0,i,h=>by rw [uZ.eq_2,eU (by omega)];exact ⟨_,rfl⟩
  | m+1,i,h=>by
    obtain ⟨c,hc⟩:=bQ (ls n.Kids) (i:=i) (by omega)
    obtain ⟨b,hb⟩:=hn c (List.mem_of_getElem? hc)
    rw [uZ.eq_2,dti (by omega),ixs hc,sm,hb,sm]
    cases b with
    | true=>exact ⟨_,rfl⟩
    | false=>
      rw [WZ rfl,eo i (by omega)]
      exact Mz n hl hn m (i+1) (by omega)
theorem Zm: ∀(c:Nat) (n:aK),cnt n≤c→c≤100000→ ∃b,uZ (.e n)=some b
  | 0,n,h,_=>by have:=jz n;omega
  | c+1,n,h,hc=>by
    have h1:=dV (ls n.Kids)
    have h2:=eI n
    have h3:=Mz n (by omega) (fun k hk=>Zm c k (by have:=eW hk;omega) (by omega)) (ls n.Kids).length 0 (by omega)
    have h3': ∃b,uZ (.p1 n.Kids ((ls n.Kids).length:Int) 0)=some b:=h3
    rw [uZ.eq_1]
    split
    · exact ⟨_,rfl⟩
    split
    · exact ⟨_,rfl⟩
    exact h3'
theorem f49 {n:aK} (h:cnt n≤100000): ∃b,WB n=some b:=Zm 100000 n h (Nat.le_refl _)
end Go.Proofs.YtcidnoghoifmmaaDoor
end
section
namespace Go.Proofs.YtcidnoghoifmmaaDoor
open Go AW
set_option maxHeartbeats 4000000
mutual
def bk:aK→Bool
 | ⟨k,_,_,_,_,o⟩=>(k==7)||bko o
def bko:Option (List aK)→Bool
 | none=>false
 | some l=>Kt l
def Kt:List aK→Bool
 | []=>false
 | x::l=>bk x||Kt l
end
theorem Ma (n:aK):bk n=((n.Kind==7)||Kt (ls n.Kids)):=by
 obtain ⟨_,_,_,_,_,o⟩:=n
 rw [bk]
 cases o with
 | none=>rfl
 | some l=>rfl
theorem xj {l:List aK} {i:Nat} {k:aK} (h:l[i]? =some k):Kt (l.drop i)=(bk k||Kt (l.drop (i+1))):=by
 rw [List.drop_eq_getElem_cons (aD h),Kt]
 have:l[i]'(aD h)=k:=by
  have:=List.getElem?_eq_getElem (aD h)
  rw [h] at this
  exact (Option.some.inj this).symm
 rw [this]
def Ku (b:Bool):Bool × (Bool × Nat):=match b with
 | true=>(false,(true,1))
 | false=>(true,(false,0))
theorem b48 (a x:aK):jX a x (false,0)=some (Ku (x.Kind==7)):=by
 unfold jX
 rw [if_pos rfl]
 cases h:(x.Kind==7)<;>rfl
theorem My (a n:aK) (hl:(ls n.Kids).length≤100000) (hn: ∀k∈ls n.Kids,mc (jX a) (.e k (false,0))=some (Ku (bk k))): ∀(m i:Nat),m+i=(ls n.Kids).length→mc (jX a) (.p1 n ((ls n.Kids).length:Int) (i:Int) (false,0))=some (Ku (Kt ((ls n.Kids).drop i)))
  | 0,i,h=>by rw [mc.eq_2,eU (by omega),List.drop_of_length_le (by omega)];rfl
  | m+1,i,h=>by
    obtain ⟨k,hk⟩:=bQ (ls n.Kids) (i:=i) (by omega)
    rw [mc.eq_2,dti (by omega),ixs hk,sm,hn k (List.mem_of_getElem? hk),sm,xj hk]
    cases hb:bk k with
    | true=>rfl
    | false=>
      show (if (!true)=true then _ else mc (jX a) (.p1 n ((ls n.Kids).length:Int) (IntKind.wrap .i64 ((i:Int)+1)) (false,0)))=_
      rw [if_neg (by decide),eo i (by omega),My a n hl hn m (i+1) (by omega)]
      rfl
theorem Zl (a:aK): ∀(c:Nat) (n:aK),cnt n≤c→c≤100000→mc (jX a) (.e n (false,0))=some (Ku (bk n))
  | 0,n,h,_=>by have:=jz n;omega
  | c+1,n,h,hc=>by
    have h1:=dV (ls n.Kids)
    have h2:=eI n
    have h3:=My a n (by omega) (fun k hk=>Zl a c k (by have:=eW hk;omega) (by omega)) (ls n.Kids).length 0 (by omega)
    have h3':mc (jX a) (.p1 n ((ls n.Kids).length:Int) 0 (false,0))=_:=h3
    rw [mc.eq_1,b48,sm,Ma]
    cases hb:(n.Kind==7) with
    | true=>rfl
    | false=>
      show (if (!true)=true then _ else mc (jX a) (.p1 n ((ls n.Kids).length:Int) 0 (false,0)))=_
      rw [if_neg (by decide),h3',List.drop_zero]
      rfl
theorem f48 {n:aK} (h:cnt n≤100000):Th n=some (bk n):=by
 unfold Th KQ
 rw [sm]
 show Tn (.p1 n false)=_
 unfold Tn KS Tk
 have:=Zl n 100000 n h (Nat.le_refl _)
 have this':mc (jX n) (.e n (false,0))=_:=this
 simp only [this']
 cases bk n<;>rfl
end Go.Proofs.YtcidnoghoifmmaaDoor
end
section
namespace Go.Proofs.YtcidnoghoifmmaaDoor
open Go AW
set_option maxHeartbeats 4000000
mutual
def ak:aK→Bool
 | ⟨k,_,_,_,_,o⟩=>(k==8||k==9)||ako o
def ako:Option (List aK)→Bool
 | none=>false
 | some l=>Kn l
def Kn:List aK→Bool
 | []=>false
 | x::l=>ak x||Kn l
end
theorem MW (n:aK):ak n=((n.Kind==8||n.Kind==9)||Kn (ls n.Kids)):=by
 obtain ⟨_,_,_,_,_,o⟩:=n
 rw [ak]
 cases o with
 | none=>rfl
 | some l=>rfl
theorem HU (n:aK) (hl:(ls n.Kids).length≤100000) (hn: ∀k∈ls n.Kids,uZ (.e k)=some (ak k)): ∀(m i:Nat),m+i=(ls n.Kids).length→uZ (.p1 n.Kids ((ls n.Kids).length:Int) (i:Int))=some (Kn ((ls n.Kids).drop i))
  | 0,i,h=>by rw [uZ.eq_2,eU (by omega),List.drop_of_length_le (by omega)];rfl
  | m+1,i,h=>by
    obtain ⟨c,hc⟩:=bQ (ls n.Kids) (i:=i) (by omega)
    rw [uZ.eq_2,dti (by omega),ixs hc,sm,hn c (List.mem_of_getElem? hc),sm,drop_cons hc,Kn]
    cases ak c with
    | true=>rfl
    | false=>
      rw [WZ rfl,eo i (by omega),Bool.false_or]
      exact HU n hl hn m (i+1) (by omega)
theorem UI: ∀(c:Nat) (n:aK),cnt n≤c→c≤100000→uZ (.e n)=some (ak n)
  | 0,n,h,_=>by have:=jz n;omega
  | c+1,n,h,hc=>by
    have h1:=dV (ls n.Kids)
    have h2:=eI n
    have h3:=HU n (by omega) (fun k hk=>UI c k (by have:=eW hk;omega) (by omega)) (ls n.Kids).length 0 (by omega)
    have h3':uZ (.p1 n.Kids ((ls n.Kids).length:Int) 0)=some (Kn (ls n.Kids)):=by rw [List.drop_zero] at h3;exact h3
    rw [uZ.eq_1,MW]
    by_cases e8:n.Kind=8
    · rw [gf e8];simp [e8]
    rw [gR e8]
    by_cases e9:n.Kind=9
    · rw [gf e9];simp [e9]
    rw [gR e9,h3'];simp [e8,e9]
theorem UH {n:aK} (h:cnt n≤100000):WB n=some (ak n):=UI 100000 n h (Nat.le_refl _)
def NA (l:List aT):Prop:= ∀x∈l,x.Kind≠10∧x.Kind≠11
theorem NA.nil:NA []:=fun x h=>by simp at h
theorem NA.cons {x:aT} {l:List aT} (h:x.Kind≠10∧x.Kind≠11) (hl:NA l):NA (x::l):=fun y hy=>by
 rcases List.mem_cons.1 hy with rfl | hy
 ·exact h
 exact hl y hy
theorem NA.app {l m:List aT} (h:NA l) (h':NA m):NA (l++m):=fun y hy=>by
 rcases List.mem_append.1 hy with hy | hy
 ·exact h y hy
 exact h' y hy
section
variable {f:Nat→Nat→List aT} (hf: ∀a fr,NA (f a fr)) (l:Int × Int) (r:Nat)
include hf
end
end Go.Proofs.YtcidnoghoifmmaaDoor
end
