/-
  Texts of this proof, put together: D2, D3, D4, D5, D6, D7.
-/
import Derived.Test.YtcidnoghoifmmaaDoorPk33
set_option linter.unusedSimpArgs false
set_option linter.unusedVariables false
section
set_option maxRecDepth 4000
set_option maxHeartbeats 4000000
namespace Go.Proofs.YtcidnoghoifmmaaDoor
open Go AW
attribute [local irreducible] W WD SH XS XLoop DFun XCall XYield
def TJ:aC:=.o [qx 3 9 1] (.ops [qm 4 0,qa 5 7 3,ql 6 5,q 7 (.build [zb,zu,zu,zu,zu,zi,zi,zi,zi] [(0,(1,(ku 9))),(6,(1,6))]),qc 8 35 [4,7]])
def R76:List RA:=[]
theorem k76:au Tryd.prog (dQ [3]) 76=some ⟨9,TJ,R76⟩:=by kernel_rfl
noncomputable def WK (c:dr) (n:aK):Option dr:=(ve c ({Kind:=9,Set:=(an.rep 4 (0:Int)),To:=0,aH:=n.aH,bP:=0,Slot:=0}:aT)>>=fun r_1=>(some r_1.2))
theorem d76 (c:dr) (n:aK) (r:dr) (hF:WK c n=some r): ∀(K:AV→aA→Prop) (Ls:List bU) (iP0:Nat),(∀st,SH st (aa iP0 r::Ls)→K (AV.bt []) st)→ ∀(st:aA),SH st (aa iP0 c::Ls)→XCall Tryd.prog gE 76 [.ptr iP0 0,dL n] st K:=by
 unfold WK at hF;intro K Ls iP0 hK  st hs;refine bS k76 z (rn 0 z (W.o (aY (cs:=bn n) z (by rw [aF];rfl) (aX _)) (rn 1 z (W.o (aB z) (W.o (aI z (DP.cN (DP.refl _) (bF n))) (W.o (bR (cs:=dx ({Kind:=9,Set:=(an.rep 4 (0:Int)),To:=0,aH:=n.aH,bP:=0,Slot:=0}:aT)) z z) (bj hF fun r_1 g_2 hF=>?_)))))));refine cl (dw z) (d35 _ _ _ g_2 _ _ iP0 (fun st hs=>?_) _ hs);refine rn 0 z ?_;cases hF;exact eS bG (hK _ hs) z
def SR:aC:=.o [qx 3 9 1] (.draw [] 0 0 [qa 5 0 3,ql 6 5,qm 8 0,qn 9 9 3,qc 4 52 [],q 7 (.Aq 10 1 4 6)] [qf 10 7 [8,9]])
def R34:List RA:=[]
theorem k34:au Tryd.prog (dQ [3]) 34=some ⟨11,SR,R34⟩:=by kernel_rfl
def MH:aC:=.o [qb 10 .lss 9 8] (.s (.cond 10 .skip (.exit 0)) (.s (.block 1 (.o [qi 11 9 7 9,qn 12 9 11,q 5 (.alloc [zb,zu,zu,zu,zu,zi,zi,zi,.aP]),qs 9 5 12] (.ops [qm 13 0,qn 14 9 5,qc 15 34 [13,14]]))) (.ops [qb 16 .add 9 (ki 1),qm 9 16])))
def TK:aC:=.o [qx 3 9 1] (.o [qa 6 8 3,ql 7 6,qh 8 7,qm 9 (ki 0)] (.block 0 (.loop MH)))
def ZM:List RA:=[]
theorem k77:au Tryd.prog (dQ [3]) 77=some ⟨17,TK,ZM⟩:=by kernel_rfl
noncomputable abbrev X77 (K:AV→aA→Prop):Cx:=cK Tryd.prog gE 17 ZM (uL K) [3]
def TL:aC:=.o [qx 3 9 1] (.o [qm 4 0,qa 5 7 3,ql 6 5,q 7 (.build [zb,zu,zu,zu,zu,zi,zi,zi,zi] [(0,(1,(ku 4))),(6,(1,6))]),qc 8 35 [4,7]] (.o [qm 9 0,qa 10 8 3,ql 11 10,qi 12 9 11 (ki 0),qn 13 9 12,qc 14 34 [9,13]] (.ops [qm 15 0,qa 16 7 3,ql 17 16,q 18 (.build [zb,zu,zu,zu,zu,zi,zi,zi,zi] [(0,(1,(ku 5))),(6,(1,17))]),qc 19 35 [15,18]])))
def R78:List RA:=[]
theorem k78:au Tryd.prog (dQ [3]) 78=some ⟨20,TL,R78⟩:=by kernel_rfl
def Od:aC:=.o [qi 22 9 18 20,qn 23 9 22,q 7 (.alloc [zb,zu,zu,zu,zu,zi,zi,zi,.aP]),qs 9 7 23] (.o [qm 24 0,q 25 (.build [zb,zu,zu,zu,zu,zi,zi,zi,zi] [(0,(1,(ku 2)))]),qc 26 35 [24,25],qm 8 26] (.o [qm 27 0,qn 28 9 7,qc 29 34 [27,28]] (.o [qm 30 4,qm 31 0,q 32 (.build [zb,zu,zu,zu,zu,zi,zi,zi,zi] [(0,(1,(ku 3)))]),qc 33 35 [31,32],q 34 (.bE 1 1 false [zi] [(0,(1,33))] false),q 35 (.app 1 8 30 34),qm 4 35] (.draw [] 0 0 [qm 36 0,qk 37 36,qa 38 0 37,ql 39 38,qm 40 8,qm 41 0,qk 42 41,qa 43 0 42,ql 44 43,qh 45 44,qi 46 9 39 40,qa 47 5 46] [qs 1 47 45]))))
def GG:aC:=.o [qb 21 .lss 20 19] (.s (.cond 21 .skip (.exit 0)) (.s (.block 1 Od) (.ops [qb 48 .add 20 (ki 1),qm 20 48])))
def GI:aC:=.o [qb 59 .lss 58 57] (.s (.cond 59 .skip (.exit 2)) (.s (.block 3 (.o [qi 60 1 56 58,ql 61 60,qm 10 61] (.draw [] 0 0 [qm 62 0,qk 63 62,qa 64 0 63,ql 65 64,qm 66 10,qm 67 0,qk 68 67,qa 69 0 68,ql 70 69,qh 71 70,qi 72 9 65 66,qa 73 5 72] [qs 1 73 71]))) (.ops [qb 74 .add 58 (ki 1),qm 58 74])))
def GH:aC:=.o [qm 49 0,qa 50 8 3,ql 51 50,qm 52 5,qi 53 9 51 52,qn 54 9 53,qc 55 34 [49,54]] (.o [qm 56 4,qh 57 56,qm 58 (ki 0)] (.block 2 (.loop GI)))
def TM:aC:=.o [qx 3 9 1] (.o [qm 4 (.c .aP)] (.o [qa 11 8 3,ql 12 11,qh 13 12,qb 14 .sub 13 (ki 1),qm 5 14] (.s (.o [qa 15 8 3,ql 16 15,qm 17 5,q 18 (.Nq 9 16 .none (.some 17)),qh 19 18,qm 20 (ki 0)] (.block 0 (.loop GG))) GH)))
def ZN:List RA:=[]
theorem k79:au Tryd.prog (dQ [3]) 79=some ⟨75,TM,ZN⟩:=by kernel_rfl
noncomputable abbrev Za (K:AV→aA→Prop):Cx:=cK Tryd.prog gE 75 ZN (uL K) [3]
def Oe:aC:=.o [qm 24 0,qk 25 24,qa 26 0 25,ql 27 26,qh 28 27,qm 29 4,qb 30 .eql 28 29] (.cond 30 (.exit 0) .skip)
def MI:aC:=.o [qb 12 .lss 11 10] (.s (.cond 12 .skip (.exit 0)) (.s (.block 1 (.o [qm 13 0,qk 14 13,qa 15 0 14,ql 16 15,qh 17 16,qm 4 17] (.o [qm 18 0,qa 19 8 3,ql 20 19,qi 21 9 20 (ki 0),qn 22 9 21,qc 23 93 [18,22,kf]] Oe))) (.ops [qb 31 .add 11 (ki 1),qm 11 31])))
def GJ:aC:=.o [qb 66 .lss 65 64] (.s (.cond 66 .skip (.exit 2)) (.s (.block 3 (.o [qm 67 6,qm 68 0,q 69 (.build [zb,zu,zu,zu,zu,zi,zi,zi,zi] [(0,(1,(ku 2)))]),qc 70 35 [68,69],q 71 (.bE 1 1 false [zi] [(0,(1,70))] false),q 72 (.app 1 8 67 71),qm 6 72] (.ops [qm 73 0,qa 74 8 3,ql 75 74,qi 76 9 75 (ki 0),qn 77 9 76,qc 78 93 [73,77,kt]]))) (.ops [qb 79 .add 65 (ki 1),qm 65 79])))
def GL:aC:=.o [qb 83 .lss 82 81] (.s (.cond 83 .skip (.exit 4)) (.s (.block 5 (.o [qi 84 1 80 82,ql 85 84,qm 8 85] (.draw [] 0 0 [qm 86 0,qk 87 86,qa 88 0 87,ql 89 88,qm 90 8,qm 91 0,qk 92 91,qa 93 0 92,ql 94 93,qh 95 94,qi 96 9 89 90,qa 97 5 96] [qs 1 97 95]))) (.ops [qb 98 .add 82 (ki 1),qm 82 98])))
def GK:aC:=.o [qm 80 6,qh 81 80,qm 82 (ki 0)] (.block 4 (.loop GL))
def zv:aC:=.s (.o [qa 32 6 3,ql 33 32,qb 34 .eql 33 (ki (-1))] (.cond 34 (.o [qm 35 0,q 36 (.build [zb,zu,zu,zu,zu,zi,zi,zi,zi] [(0,(1,(ku 2)))]),qc 37 35 [35,36],qm 5 37] (.o [qm 38 0,qa 39 8 3,ql 40 39,qi 41 9 40 (ki 0),qn 42 9 41,qc 43 93 [38,42,kt]] (.o [qm 44 0,qm 45 5,q 46 (.build [zb,zu,zu,zu,zu,zi,zi,zi,zi] [(0,(1,(ku 3))),(5,(1,45))]),qc 47 35 [44,46]] (.s (.draw [] 0 0 [qm 48 0,qk 49 48,qa 50 0 49,ql 51 50,qm 52 5,qm 53 0,qk 54 53,qa 55 0 54,ql 56 55,qh 57 56,qi 58 9 51 52,qa 59 5 58] [qs 1 59 57]) .ret)))) .skip)) (.o [qm 6 (.c .aP)] (.s (.o [qa 60 6 3,ql 61 60,qa 62 5 3,ql 63 62,qb 64 .sub 61 63,qm 65 (ki 0)] (.block 2 (.loop GJ))) GK))
def TN:aC:=.o [qx 3 9 1] (.s (.o [qa 9 5 3,ql 10 9,qm 11 (ki 0)] (.block 0 (.loop MI))) zv)
def ZO:List RA:=[]
theorem k80:au Tryd.prog (dQ [3]) 80=some ⟨99,TN,ZO⟩:=by kernel_rfl
noncomputable abbrev WT (K:AV→aA→Prop):Cx:=cK Tryd.prog gE 99 ZO (uL K) [3]
def Ga:aC:=.o [qm 49 0,qn 50 9 4,qc 51 34 [49,50]] (.o [qm 52 2] (.cond 52 (.o [qm 53 0,qk 54 53,qa 55 2 54,ql 56 55,qb 57 .sub 56 (ki 1),qk 58 53,qa 59 2 58,qs 1 59 57] (.ops [qm 60 0,qm 61 6,q 62 (.build [zb,zu,zu,zu,zu,zi,zi,zi,zi] [(0,(1,(ku 8))),(8,(1,61))]),qc 63 35 [60,62]])) .skip))
def GZ:aC:=.s (.o [qn 38 9 4,qc 39 71 [38],qm 37 39,qe 40 37 0,qe 41 37 1,qm 7 40,qm 8 41] (.o [qm 42 7,qb 43 .gtr 42 (ki 0)] (.cond 43 (.ops [qm 44 0,qm 45 7,qm 46 8,q 47 (.build [zb,zu,zu,zu,zu,zi,zi,zi,zi] [(0,(1,(ku 6))),(6,(1,45)),(7,(1,46))]),qc 48 35 [44,47]]) .skip))) Ga
def TY:aC:=.o [qx 4 9 1] (.o [qm 9 0,qk 10 9,qa 11 2 10,ql 12 11,qm 6 12] (.s (.o [qm 13 2] (.cond 13 (.o [qm 14 0,qm 15 6,q 16 (.build [zb,zu,zu,zu,zu,zi,zi,zi,zi] [(0,(1,(ku 7))),(8,(1,15))]),qc 17 35 [14,16]] (.o [qm 18 0,qk 19 18,qa 20 2 19,ql 21 20,qb 22 .add 21 (ki 1),qk 23 18,qa 24 2 23,qs 1 24 22] (.draw [] 0 0 [qm 25 0,qm 26 0,qk 27 26,qa 28 1 27,ql 29 28,qm 30 0,qk 31 30,qa 32 2 31,ql 33 32,q 34 (.max [29,33]),qk 35 25,qa 36 1 35] [qs 1 36 34]))) .skip)) GZ))
def ZT:List RA:=[]
theorem k93:au Tryd.prog (dQ [4]) 93=some ⟨64,TY,ZT⟩:=by kernel_rfl
noncomputable abbrev Zd (K:AV→aA→Prop):Cx:=cK Tryd.prog gE 64 ZT (uL K) [4]
inductive HM where
 | yB (c:dr) (n:aK)
 | Qf (c:dr) (n:aK)
 | tK (t7_:Sl aK) (t8_:Int) (t9_:Int) (c:dr)
 | Qg (c:dr) (n:aK)
 | Qh (c:dr) (n:aK)
 | tL (n:aK) (last:Int) (t18_:Sl aK) (t19_:Int) (t20_:Int) (c:dr) (out:Sl Int)
 | qQ (t56_:Sl Int) (t57_:Int) (t58_:Int) (c:dr)
 | Qi (c:dr) (n:aK)
 | tM (n:aK) (t10_:Int) (t11_:Int) (c:dr)
 | tN (n:aK) (c:dr)
 | tO (n:aK) (t64_:Int) (t65_:Int) (c:dr) (out:Sl Int)
 | qR (t80_:Sl Int) (t81_:Int) (t82_:Int) (c:dr)
 | Db (c:dr) (n:aK) (free:Bool)
 | tS (free:Bool) (n:aK) (slot:Int) (c:dr)
 | vD (free:Bool) (n:aK) (slot:Int) (c:dr)
noncomputable def bu:HM→Option dr | .yB c n=>(WC>>=fun r_1=>(if n.Kind=1 then (WG c n>>=fun r_28=>(some r_28)) else (if n.Kind=2 then (WH c n>>=fun r_25=>(some r_25)) else (if n.Kind=3 then (bu (.Qf c n)>>=fun r_22=>(some r_22)) else (if n.Kind=4 then (bu (.Qh c n)>>=fun r_19=>(some r_19)) else (if n.Kind=5 then (bu (.Qi c n)>>=fun r_16=>(some r_16)) else (if n.Kind=6 then (bu (.Qg c n)>>=fun r_13=>(some r_13)) else (if n.Kind=7 then (WK c n>>=fun r_10=>(some r_10)) else (if n.Kind=8 then (WI c n>>=fun r_7=>(some r_7)) else (if n.Kind=9 then (WJ c n>>=fun r_4=>(some r_4)) else none)))))))))) | .Qf c n=>(bu (.tK n.Kids ((ls n.Kids).length:Int) 0 c)) | .tK t7_ t8_ t9_ c=>(if (decide (t9_<t8_))=true then (ix (ls t7_) t9_>>=fun v_2=>(bu (.yB c v_2)>>=fun r_5=>(bu (.tK t7_ t8_ (IntKind.wrap .i64 (t9_+1)) r_5)))) else (some c)) | .Qg c n=>(ve c ({Kind:=4,Set:=(an.rep 4 (0:Int)),To:=0,aH:=n.aH,bP:=0,Slot:=0}:aT)>>=fun r_1=>(ix (ls n.Kids) 0>>=fun v_3=>(bu (.yB r_1.2 v_3)>>=fun r_5=>(ve r_5 ({Kind:=5,Set:=(an.rep 4 (0:Int)),To:=0,aH:=n.aH,bP:=0,Slot:=0}:aT)>>=fun r_7=>(some r_7.2))))) | .Qh c n=>(mG n.Kids 0 (IntKind.wrap .i64 (((ls n.Kids).length:Int)-1))>>=fun w_1=>(bu (.tL n (IntKind.wrap .i64 (((ls n.Kids).length:Int)-1)) w_1 ((ls w_1).length:Int) 0 c none))) | .tL n last t18_ t19_ t20_ c out=>(if (decide (t20_<t19_))=true then (ix (ls t18_) t20_>>=fun v_5=>(ve c ({Kind:=2,Set:=(an.rep 4 (0:Int)),To:=0,aH:=0,bP:=0,Slot:=0}:aT)>>=fun r_8=>(bu (.yB r_8.2 v_5)>>=fun r_10=>(ve r_10 ({Kind:=3,Set:=(an.rep 4 (0:Int)),To:=0,aH:=0,bP:=0,Slot:=0}:aT)>>=fun r_12=>(if ((ls out).length+(ls (some ([r_12.1]:List Int))).length)*8≤140737488355328 then (ix (ls r_12.2.code) r_8.1>>=fun v_18=>(bu (.tL n last t18_ t19_ (IntKind.wrap .i64 (t20_+1)) ({r_12.2 with code:=(dF r_12.2.code r_8.1 ({v_18 with To:=((ls r_12.2.code).length:Int)}:aT))}:dr) (bW out (ls (some ([r_12.1]:List Int))))))) else none))))) else (ix (ls n.Kids) last>>=fun v_20=>(bu (.yB c v_20)>>=fun r_22=>(bu (.qQ out ((ls out).length:Int) 0 r_22))))) | .qQ t56_ t57_ t58_ c=>(if (decide (t58_<t57_))=true then (ix (ls t56_) t58_>>=fun v_25=>(ix (ls c.code) v_25>>=fun v_28=>(bu (.qQ t56_ t57_ (IntKind.wrap .i64 (t58_+1)) ({c with code:=(dF c.code v_25 ({v_28 with To:=((ls c.code).length:Int)}:aT))}:dr))))) else (some c)) | .Qi c n=>(bu (.tM n n.Min 0 c)) | .tM n t10_ t11_ c=>(if (decide (t11_<t10_))=true then (ix (ls n.Kids) 0>>=fun v_3=>(bu (.Db c v_3 false)>>=fun r_5=>(if (((ls r_5.code).length:Int)==((ls c.code).length:Int))=true then (bu (.tN n r_5)) else (bu (.tM n t10_ (IntKind.wrap .i64 (t11_+1)) r_5))))) else (bu (.tN n c))) | .tN n c=>(if (n.Max==(-1))=true then (ve c ({Kind:=2,Set:=(an.rep 4 (0:Int)),To:=0,aH:=0,bP:=0,Slot:=0}:aT)>>=fun r_10=>(ix (ls n.Kids) 0>>=fun v_12=>(bu (.Db r_10.2 v_12 true)>>=fun r_14=>(ve r_14 ({Kind:=3,Set:=(an.rep 4 (0:Int)),To:=r_10.1,aH:=0,bP:=0,Slot:=0}:aT)>>=fun r_16=>(ix (ls r_16.2.code) r_10.1>>=fun v_19=>(some ({r_16.2 with code:=(dF r_16.2.code r_10.1 ({v_19 with To:=((ls r_16.2.code).length:Int)}:aT))}:dr))))))) else (bu (.tO n (IntKind.wrap .i64 (n.Max-n.Min)) 0 c none))) | .tO n t64_ t65_ c out=>(if (decide (t65_<t64_))=true then (ve c ({Kind:=2,Set:=(an.rep 4 (0:Int)),To:=0,aH:=0,bP:=0,Slot:=0}:aT)>>=fun r_23=>(if ((ls out).length+(ls (some ([r_23.1]:List Int))).length)*8≤140737488355328 then (ix (ls n.Kids) 0>>=fun v_28=>(bu (.Db r_23.2 v_28 true)>>=fun r_30=>(bu (.tO n t64_ (IntKind.wrap .i64 (t65_+1)) r_30 (bW out (ls (some ([r_23.1]:List Int)))))))) else none)) else (bu (.qR out ((ls out).length:Int) 0 c))) | .qR t80_ t81_ t82_ c=>(if (decide (t82_<t81_))=true then (ix (ls t80_) t82_>>=fun v_33=>(ix (ls c.code) v_33>>=fun v_36=>(bu (.qR t80_ t81_ (IntKind.wrap .i64 (t82_+1)) ({c with code:=(dF c.code v_33 ({v_36 with To:=((ls c.code).length:Int)}:aT))}:dr))))) else (some c)) | .Db c n free=>(if free=true then (ve c ({Kind:=7,Set:=(an.rep 4 (0:Int)),To:=0,aH:=0,bP:=0,Slot:=c.free}:aT)>>=fun r_3=>(bu (.tS free n c.free ({r_3.2 with free:=IntKind.wrap .i64 (r_3.2.free+1),slots:=(if (IntKind.wrap .i64 (r_3.2.free+1))>r_3.2.slots then (IntKind.wrap .i64 (r_3.2.free+1)) else r_3.2.slots)}:dr)))) else (bu (.tS free n c.free c))) | .tS free n slot c=>(Jw n>>=fun r_6=>(if (decide (r_6.1>0))=true then (ve c ({Kind:=6,Set:=(an.rep 4 (0:Int)),To:=0,aH:=r_6.1,bP:=r_6.2,Slot:=0}:aT)>>=fun r_9=>(bu (.vD free n slot r_9.2))) else (bu (.vD free n slot c)))) | .vD free n slot c=>(bu (.yB c n)>>=fun r_11=>(if free=true then (ve ({r_11 with free:=IntKind.wrap .i64 (r_11.free-1)}:dr) ({Kind:=8,Set:=(an.rep 4 (0:Int)),To:=0,aH:=0,bP:=0,Slot:=slot}:aT)>>=fun r_15=>(some r_15.2)) else (some r_11))) partial_fixpoint
def Tr (x:HM) (r:dr):Prop:=match x with | .yB c n=> ∀(K:AV→aA→Prop) (Ls:List bU) (iP0:Nat),(∀st,SH st (aa iP0 r::Ls)→K (AV.bt []) st)→ ∀(st:aA),SH st (aa iP0 c::Ls)→XCall Tryd.prog gE 34 [.ptr iP0 0,dL n] st K | .Qf c n=> ∀(K:AV→aA→Prop) (Ls:List bU) (iP0:Nat),(∀st,SH st (aa iP0 r::Ls)→K (AV.bt []) st)→ ∀(st:aA),SH st (aa iP0 c::Ls)→XCall Tryd.prog gE 77 [.ptr iP0 0,dL n] st K | .tK t7_ t8_ t9_ c=> ∀(K:AV→aA→Prop) (Ls:List bU) (iP0:Nat),(∀st,SH st (aa iP0 r::Ls)→K (AV.bt []) st)→ ∀(tm:Fr) (st:aA),dH tm [(0,.ptr iP0 0),(7,cg 9 dL t7_),(8,AV.int .i64 t8_),(9,AV.int .i64 t9_)]→SH st (aa iP0 c::Ls)→W (X77 K) [.lp MH,.blk 0] tm st | .Qg c n=> ∀(K:AV→aA→Prop) (Ls:List bU) (iP0:Nat),(∀st,SH st (aa iP0 r::Ls)→K (AV.bt []) st)→ ∀(st:aA),SH st (aa iP0 c::Ls)→XCall Tryd.prog gE 78 [.ptr iP0 0,dL n] st K | .Qh c n=> ∀(K:AV→aA→Prop) (Ls:List bU) (iP0:Nat),(∀st,SH st (aa iP0 r::Ls)→K (AV.bt []) st)→ ∀(st:aA),SH st (aa iP0 c::Ls)→XCall Tryd.prog gE 79 [.ptr iP0 0,dL n] st K | .tL n last t18_ t19_ t20_ c out=> ∀(K:AV→aA→Prop) (Ls:List bU) (iP0:Nat),(∀st,SH st (aa iP0 r::Ls)→K (AV.bt []) st)→ ∀(tm:Fr) (st:aA) (io1:Nat),dH tm [(0,.ptr iP0 0),(3,.aQ (bn n)),(4,br 1 (AV.int .i64) out io1),(5,AV.int .i64 last),(18,cg 9 dL t18_),(19,AV.int .i64 t19_),(20,AV.int .i64 t20_)]→SH st (aa iP0 c::dK io1 out::Ls)→W (Za K) [.lp GG,.blk 0,.code GH] tm st | .qQ t56_ t57_ t58_ c=> ∀(K:AV→aA→Prop) (Ls:List bU) (iP0:Nat),(∀st,SH st (aa iP0 r::Ls)→K (AV.bt []) st)→ ∀(tm:Fr) (st:aA),dH tm [(0,.ptr iP0 0),(56,cg 1 (AV.int .i64) t56_),(57,AV.int .i64 t57_),(58,AV.int .i64 t58_)]→SH st (aa iP0 c::Ls)→W (Za K) [.lp GI,.blk 2] tm st | .Qi c n=> ∀(K:AV→aA→Prop) (Ls:List bU) (iP0:Nat),(∀st,SH st (aa iP0 r::Ls)→K (AV.bt []) st)→ ∀(st:aA),SH st (aa iP0 c::Ls)→XCall Tryd.prog gE 80 [.ptr iP0 0,dL n] st K | .tM n t10_ t11_ c=> ∀(K:AV→aA→Prop) (Ls:List bU) (iP0:Nat),(∀st,SH st (aa iP0 r::Ls)→K (AV.bt []) st)→ ∀(tm:Fr) (st:aA),dH tm [(0,.ptr iP0 0),(3,.aQ (bn n)),(10,AV.int .i64 t10_),(11,AV.int .i64 t11_)]→SH st (aa iP0 c::Ls)→W (WT K) [.lp MI,.blk 0,.code zv] tm st | .tN n c=> ∀(K:AV→aA→Prop) (Ls:List bU) (iP0:Nat),(∀st,SH st (aa iP0 r::Ls)→K (AV.bt []) st)→ ∀(tm:Fr) (st:aA),dH tm [(0,.ptr iP0 0),(3,.aQ (bn n))]→SH st (aa iP0 c::Ls)→W (WT K) [.code zv] tm st | .tO n t64_ t65_ c out=> ∀(K:AV→aA→Prop) (Ls:List bU) (iP0:Nat),(∀st,SH st (aa iP0 r::Ls)→K (AV.bt []) st)→ ∀(tm:Fr) (st:aA) (io1:Nat),dH tm [(0,.ptr iP0 0),(3,.aQ (bn n)),(6,br 1 (AV.int .i64) out io1),(64,AV.int .i64 t64_),(65,AV.int .i64 t65_)]→SH st (aa iP0 c::dK io1 out::Ls)→W (WT K) [.lp GJ,.blk 2,.code GK] tm st | .qR t80_ t81_ t82_ c=> ∀(K:AV→aA→Prop) (Ls:List bU) (iP0:Nat),(∀st,SH st (aa iP0 r::Ls)→K (AV.bt []) st)→ ∀(tm:Fr) (st:aA),dH tm [(0,.ptr iP0 0),(80,cg 1 (AV.int .i64) t80_),(81,AV.int .i64 t81_),(82,AV.int .i64 t82_)]→SH st (aa iP0 c::Ls)→W (WT K) [.lp GL,.blk 4] tm st | .Db c n free=> ∀(K:AV→aA→Prop) (Ls:List bU) (iP0:Nat),(∀st,SH st (aa iP0 r::Ls)→K (AV.bt []) st)→ ∀(st:aA),SH st (aa iP0 c::Ls)→XCall Tryd.prog gE 93 [.ptr iP0 0,dL n,AV.bool free] st K | .tS free n slot c=> ∀(K:AV→aA→Prop) (Ls:List bU) (iP0:Nat),(∀st,SH st (aa iP0 r::Ls)→K (AV.bt []) st)→ ∀(tm:Fr) (st:aA),dH tm [(0,.ptr iP0 0),(2,AV.bool free),(4,.aQ (bn n)),(6,AV.int .i64 slot)]→SH st (aa iP0 c::Ls)→W (Zd K) [.code GZ] tm st | .vD free n slot c=> ∀(K:AV→aA→Prop) (Ls:List bU) (iP0:Nat),(∀st,SH st (aa iP0 r::Ls)→K (AV.bt []) st)→ ∀(tm:Fr) (st:aA),dH tm [(0,.ptr iP0 0),(2,AV.bool free),(4,.aQ (bn n)),(6,AV.int .i64 slot)]→SH st (aa iP0 c::Ls)→W (Zd K) [.code Ga] tm st
theorem EL: ∀(x:HM) (r:dr),bu x=some r→Tr x r:=by
 refine bu.partial_correctness Tr ?_;intro g ih x r hF;cases x with
 | yB c n=>
  dsimp only at hF;intro K Ls iP0 hK  st hs;refine bS k34 z (rn 0 z (W.o (aY (cs:=bn n) z (by rw [aF];rfl) (aX _)) (rn 0 z ?_)));have h0:=hs;refine qq (de z (aB z) (de z (aI z (DP.cN (DP.refl _) (bI n))) (dn 1 z (de z (aL z (DP.refl _) (aF _)) (bj hF fun r_1 g_2 hF=>xK (d52 _ g_2) z (ni hF (fun c_27 hF=>?_) (fun c_27 hF=>?_)))))))
  ·refine de z (oA (m:=1) z z c_27 z z) (dz (bj hF fun r_28 g_29 hF=>?_));refine cv z (by kernel_rfl) (dw z) (d72 c n _ g_29 _ _ iP0 (fun st hs=>?_) _ hs);refine rn 0 z ?_;cases hF;exact eS bG (hK _ hs) z
  refine ni hF (fun c_24 hF=>?_) (fun c_24 hF=>?_)
  ·refine de z (oA (m:=2) z z c_24 z z) (dz (bj hF fun r_25 g_26 hF=>?_));refine cv z (by kernel_rfl) (dw z) (d73 c n _ g_26 _ _ iP0 (fun st hs=>?_) _ hs);refine rn 0 z ?_;cases hF;exact eS bG (hK _ hs) z
  refine ni hF (fun c_21 hF=>?_) (fun c_21 hF=>?_)
  ·refine de z (oA (m:=3) z z c_21 z z) (dz (bj hF fun r_22 g_23 hF=>?_));refine cv z (by kernel_rfl) (dw z) (ih (.Qf c n) _ g_23 _ _ iP0 (fun st hs=>?_) _ hs);refine rn 0 z ?_;cases hF;exact eS bG (hK _ hs) z
  refine ni hF (fun c_18 hF=>?_) (fun c_18 hF=>?_)
  ·refine de z (oA (m:=4) z z c_18 z z) (dz (bj hF fun r_19 g_20 hF=>?_));refine cv z (by kernel_rfl) (dw z) (ih (.Qh c n) _ g_20 _ _ iP0 (fun st hs=>?_) _ hs);refine rn 0 z ?_;cases hF;exact eS bG (hK _ hs) z
  refine ni hF (fun c_15 hF=>?_) (fun c_15 hF=>?_)
  ·refine de z (oA (m:=5) z z c_15 z z) (dz (bj hF fun r_16 g_17 hF=>?_));refine cv z (by kernel_rfl) (dw z) (ih (.Qi c n) _ g_17 _ _ iP0 (fun st hs=>?_) _ hs);refine rn 0 z ?_;cases hF;exact eS bG (hK _ hs) z
  refine ni hF (fun c_12 hF=>?_) (fun c_12 hF=>?_)
  ·refine de z (oA (m:=6) z z c_12 z z) (dz (bj hF fun r_13 g_14 hF=>?_));refine cv z (by kernel_rfl) (dw z) (ih (.Qg c n) _ g_14 _ _ iP0 (fun st hs=>?_) _ hs);refine rn 0 z ?_;cases hF;exact eS bG (hK _ hs) z
  refine ni hF (fun c_9 hF=>?_) (fun c_9 hF=>?_)
  ·refine de z (oA (m:=7) z z c_9 z z) (dz (bj hF fun r_10 g_11 hF=>?_));refine cv z (by kernel_rfl) (dw z) (d76 c n _ g_11 _ _ iP0 (fun st hs=>?_) _ hs);refine rn 0 z ?_;cases hF;exact eS bG (hK _ hs) z
  refine ni hF (fun c_6 hF=>?_) (fun c_6 hF=>?_)
  ·refine de z (oA (m:=8) z z c_6 z z) (dz (bj hF fun r_7 g_8 hF=>?_));refine cv z (by kernel_rfl) (dw z) (d74 c n _ g_8 _ _ iP0 (fun st hs=>?_) _ hs);refine rn 0 z ?_;cases hF;exact eS bG (hK _ hs) z
  refine ni hF (fun c_3 hF=>?_) (fun c_3 hF=>?_)
  ·refine de z (oA (m:=9) z z c_3 z z) (dz (bj hF fun r_4 g_5 hF=>?_));refine cv z (by kernel_rfl) (dw z) (d75 c n _ g_5 _ _ iP0 (fun st hs=>?_) _ hs);refine rn 0 z ?_;cases hF;exact eS bG (hK _ hs) z
  cases hF
 | Qf c n=>
  dsimp only at hF;intro K Ls iP0 hK  st hs;exact bS k77 z (rn 0 z (W.o (aY (cs:=bn n) z (by rw [aF];rfl) (aX _)) (rn 0 z (W.o (aB z) (W.o (aI z (DP.cN (DP.refl _) (aV n))) (W.o (e_len (bJ z)) (rn 1 z (ih _ _ hF K Ls iP0 hK _ _ iG hs))))))))
 | tK t7_ t8_ t9_ c=>
  dsimp only at hF;intro K Ls iP0 hK tm st hf hs;refine en hf (lp (rn 1 z (ci hF z (fun c_1 hF=>?_) (fun c_1 hF=>?_))))
  ·refine bj hF fun v_2 g_3 hF=>rn 0 z (W.o (aM (bJ z) z g_3) (W.o (aL z (DP.refl _) (aF _)) (al hs (cs:=bn ({Kind:=0,Set:=(an.rep 4 (0:Int)),Min:=0,Max:=0,aH:=0,Kids:=none}:aK)) z fun st b_4 hs=>sl hs 0 z z (LR.whole _ _) (aF _) z (aF _) (aX _) z fun st hs=>rn 1 z (W.o (eN z (hs.g 0 z) (LR.whole _ _) (aF _)) (bj hF fun r_5 g_6 hF=>?_)))));refine cl (dw z) (ih (.yB c v_2) _ g_6 _ _ iP0 (fun st hs=>?_) _ (hs.p 2 [1,0] z));exact rn 2 z (ih _ _ hF K Ls iP0 hK _ _ iG (hs.p 2 [0] z))
  refine rn 0 z ?_;cases hF;exact eS bG (hK _ hs) z
 | Qg c n=>
  dsimp only at hF;intro K Ls iP0 hK  st hs;refine bS k78 z (rn 0 z (W.o (aY (cs:=bn n) z (by rw [aF];rfl) (aX _)) (rn 1 z (W.o (aB z) (W.o (aI z (DP.cN (DP.refl _) (bF n))) (W.o (bR (cs:=dx ({Kind:=4,Set:=(an.rep 4 (0:Int)),To:=0,aH:=n.aH,bP:=0,Slot:=0}:aT)) z z) (bj hF fun r_1 g_2 hF=>?_)))))));refine cl (dw z) (d35 _ _ _ g_2 _ _ iP0 (fun st hs=>?_) _ hs);refine rn 1 z (W.o (aB z) (W.o (aI z (DP.cN (DP.refl _) (aV n))) (bj hF fun v_3 g_4 hF=>W.o (aM (bJ z) z g_4) (W.o (aL z (DP.refl _) (aF _)) (bj hF fun r_5 g_6 hF=>?_)))));refine cl (dw z) (ih (.yB r_1.2 v_3) _ g_6 _ _ iP0 (fun st hs=>?_) _ hs);refine rn 1 z (W.o (aB z) (W.o (aI z (DP.cN (DP.refl _) (bF n))) (W.o (bR (cs:=dx ({Kind:=5,Set:=(an.rep 4 (0:Int)),To:=0,aH:=n.aH,bP:=0,Slot:=0}:aT)) z z) (bj hF fun r_7 g_8 hF=>?_))));refine cl (dw z) (d35 _ _ _ g_8 _ _ iP0 (fun st hs=>?_) _ hs);refine rn 0 z ?_;cases hF;exact eS bG (hK _ hs) z
 | Qh c n=>
  dsimp only at hF;intro K Ls iP0 hK  st hs;refine bS k79 z (rn 0 z (W.o (aY (cs:=bn n) z (by rw [aF];rfl) (aX _)) (rn 1 z (W.o (aB z) (W.o (aI z (DP.cN (DP.refl _) (aV n))) (W.o (e_len (bJ z)) (rn 2 z (W.o (aB z) (W.o (aI z (DP.cN (DP.refl _) (aV n))) (bj hF fun w_1 g_2 hF=>rn 1 z (W.o (Qo (bJ z) z g_2) (W.o (e_len (bJ z)) ?_))))))))))));refine rn 1 z ?_;have hs:=hs.fX Int;exact ih _ _ hF K Ls iP0 hK _ _ 0 Cw (hs.p 2 [1,0] z)
 | tL n last t18_ t19_ t20_ c out=>
  dsimp only at hF;intro K Ls iP0 hK tm st io1 hf hs;refine en hf (lp (rn 1 z (ci hF z (fun c_4 hF=>?_) (fun c_4 hF=>?_))))
  ·refine bj hF fun v_5 g_6 hF=>rn 0 z (W.o (aM (bJ z) z g_6) (W.o (aL z (DP.refl _) (aF _)) (al hs (cs:=bn ({Kind:=0,Set:=(an.rep 4 (0:Int)),Min:=0,Max:=0,aH:=0,Kids:=none}:aK)) z fun st b_7 hs=>sl hs 0 z z (LR.whole _ _) (aF _) z (aF _) (aX _) z fun st hs=>rn 1 z (W.o (bR (cs:=dx ({Kind:=2,Set:=(an.rep 4 (0:Int)),To:=0,aH:=0,bP:=0,Slot:=0}:aT)) z z) (bj hF fun r_8 g_9 hF=>?_)))));refine cl (dw z) (d35 _ _ _ g_9 _ _ iP0 (fun st hs=>?_) _ (hs.p 3 [1,0,0] z));refine rn 2 z (W.o (eN z (hs.g 1 z) (LR.whole _ _) (aF _)) (bj hF fun r_10 g_11 hF=>?_));refine cl (dw z) (ih (.yB r_8.2 v_5) _ g_11 _ _ iP0 (fun st hs=>?_) _ hs);refine rn 2 z (W.o (bR (cs:=dx ({Kind:=3,Set:=(an.rep 4 (0:Int)),To:=0,aH:=0,bP:=0,Slot:=0}:aT)) z z) (bj hF fun r_12 g_13 hF=>?_));refine cl (dw z) (d35 _ _ _ g_13 _ _ iP0 (fun st hs=>?_) _ hs);refine bs (f:=AV.int .i64) ([r_12.1]:List Int) hs z z z z fun st b_14 hs=>gj hF fun g_15 hF=>ap (ys:=ls (some ([r_12.1]:List Int))) hs 3 z z (eR (cO (o:=(some ([r_12.1]:List Int))) (id:=b_14) z)) g_15 (fun _=>z) fun st b_16 hs=>?_;have hs:=(hs.p 4 [1,0,0,0] z);obtain ⟨j_17,hs⟩:=SH.fm hs;refine rn 1 z ?_;have h0:=hs;refine qq (dn 1 z (de z (bT z (h0.g 0 z)) (de z (aJ z (h0.g 0 z)) (de z (l1 z (h0.g 0 z) z) (dn 2 z (de z (bT z (h0.g 0 z)) (de z (aJ z (h0.g 0 z)) (de z (l1 z (h0.g 0 z) z) (de z (gL h0 1 z z) (bj hF fun v_18 g_19 hF=>de z (dJ h0 1 z z z g_19) (de z (aJ z (SH.gv h0 1 z g_19)) (dz ?_))))))))))));refine EU hs 1 z z g_19 z (LR.cast (LR.comp (LR.comp (LR.whole _ _) (fl gI g_19 ({v_18 with To:=((ls r_12.2.code).length:Int)}:aT))) (mY 5 1 (cI .i64 ((ls r_12.2.code).length:Int)) z z)) (by omega)) ((aS .i64) _) z ((aS .i64) _) ((fL .i64) _) z fun st hs=>?_;have hs:=hs.sK 0 z (cs':=[fC 9 (dF r_12.2.code r_8.1 ({v_18 with To:=((ls r_12.2.code).length:Int)}:aT)) j_17]++((cI .i64) (r_12.2.slots)++((cI .i64) (r_12.2.free)))) (by simp only [eA]) z;refine rn 2 z ?_;have hs:SH st (aa iP0 ({r_12.2 with code:=(dF r_12.2.code r_8.1 ({v_18 with To:=((ls r_12.2.code).length:Int)}:aT))}:dr)::_):=SH.eE j_17 (hs.p 5 [0,0,0,0,0] z);exact ih _ _ hF K Ls iP0 hK _ _ b_16 Cw (hs.p 4 [0,2] z)
  refine rn 1 z (W.o (aB z) (W.o (aI z (DP.cN (DP.refl _) (aV n))) (bj hF fun v_20 g_21 hF=>rn 1 z (W.o (aM (bJ z) z g_21) (W.o (aL z (DP.refl _) (aF _)) (bj hF fun r_22 g_23 hF=>?_))))));refine cl (dw z) (ih (.yB c v_20) _ g_23 _ _ iP0 (fun st hs=>?_) _ hs);exact rn 1 z (W.o (e_len (cO (o:=out) (id:=io1) z)) (rn 1 z (Ru (gm (S:=[56]) ⟨(xL (es:=1) (f:=AV.int .i64) (o:=out) (id:=io1)).1,trivial⟩) (ih _ _ hF K Ls iP0 hK _ _ ⟨z,(xL (es:=1) (f:=AV.int .i64) (o:=out) (id:=io1)).2,z,z,trivial⟩ (hs.p 2 [0] z)))))
 | qQ t56_ t57_ t58_ c=>
  dsimp only at hF;intro K Ls iP0 hK tm st hf hs;refine en hf (lp (rn 1 z (ci hF z (fun c_24 hF=>?_) (fun c_24 hF=>?_))))
  ·refine bj hF fun v_25 g_26 hF=>rn 0 z (W.o (aM (bJ z) z g_26) (W.o (dW z z) ?_));obtain ⟨j_27,hs⟩:=SH.fm hs;refine rn 1 z ?_;have h0:=hs;refine qq (dn 1 z (de z (bT z (h0.g 0 z)) (de z (aJ z (h0.g 0 z)) (de z (l1 z (h0.g 0 z) z) (dn 2 z (de z (bT z (h0.g 0 z)) (de z (aJ z (h0.g 0 z)) (de z (l1 z (h0.g 0 z) z) (de z (gL h0 1 z z) (bj hF fun v_28 g_29 hF=>de z (dJ h0 1 z z z g_29) (de z (aJ z (SH.gv h0 1 z g_29)) (dz ?_))))))))))));refine EU hs 1 z z g_29 z (LR.cast (LR.comp (LR.comp (LR.whole _ _) (fl gI g_29 ({v_28 with To:=((ls c.code).length:Int)}:aT))) (mY 5 1 (cI .i64 ((ls c.code).length:Int)) z z)) (by omega)) ((aS .i64) _) z ((aS .i64) _) ((fL .i64) _) z fun st hs=>?_;have hs:=hs.sK 0 z (cs':=[fC 9 (dF c.code v_25 ({v_28 with To:=((ls c.code).length:Int)}:aT)) j_27]++((cI .i64) (c.slots)++((cI .i64) (c.free)))) (by simp only [eA]) z;refine rn 2 z ?_;have hs:SH st (aa iP0 ({c with code:=(dF c.code v_25 ({v_28 with To:=((ls c.code).length:Int)}:aT))}:dr)::_):=SH.eE j_27 (hs.p 2 [0,0] z);exact ih _ _ hF K Ls iP0 hK _ _ iG hs
  refine rn 0 z ?_;cases hF;exact eS bG (hK _ hs) z
 | Qi c n=>
  dsimp only at hF;intro K Ls iP0 hK  st hs;exact bS k80 z (rn 0 z (W.o (aY (cs:=bn n) z (by rw [aF];rfl) (aX _)) (rn 0 z (W.o (aB z) (W.o (aI z (DP.cN (DP.refl _) (cm n))) (rn 1 z (ih _ _ hF K Ls iP0 hK _ _ iG hs)))))))
 | tM n t10_ t11_ c=>
  dsimp only at hF;intro K Ls iP0 hK tm st hf hs;refine en hf (lp (rn 1 z (ci hF z (fun c_1 hF=>?_) (fun c_1 hF=>?_))))
  ·obtain ⟨j_2,hs⟩:=SH.fm hs
   refine rn 1 z (W.o (bT z (hs.g 0 z)) (W.o (aJ z (hs.g 0 z)) (W.o (l1 z (hs.g 0 z) z) (W.o (gL hs 1 z z) (rn 2 z (W.o (aB z) (W.o (aI z (DP.cN (DP.refl _) (aV n))) (bj hF fun v_3 g_4 hF=>W.o (aM (bJ z) z g_4) (W.o (aL z (DP.refl _) (aF _)) ?_)))))))));have hs:SH st (aa iP0 c::_):=SH.eE j_2 (hs.p 2 [0,0] z);obtain ⟨r_5,g_6,hF⟩:=bind_some hF;refine cl (dw z) (ih (.Db c v_3 false) _ g_6 _ _ iP0 (fun st hs=>?_) _ hs);obtain ⟨j_7,hs⟩:=SH.fm hs;refine rn 1 z (W.o (bT z (hs.g 0 z)) (W.o (aJ z (hs.g 0 z)) (W.o (l1 z (hs.g 0 z) z) (W.o (gL hs 1 z z) (rn 2 z (ci hF z (fun c_8 hF=>?_) (fun c_8 hF=>?_)))))))
   ·refine rj 0 1 z ?_;have hs:SH st (aa iP0 r_5::_):=SH.eE j_7 (hs.p 2 [0,0] z);exact ih _ _ hF K Ls iP0 hK _ _ Ra hs
   refine rn 2 z ?_;have hs:SH st (aa iP0 r_5::_):=SH.eE j_7 (hs.p 2 [0,0] z);exact ih _ _ hF K Ls iP0 hK _ _ iG hs
  exact rj 0 1 z (ih _ _ hF K Ls iP0 hK _ _ Ra hs)
 | tN n c=>
  dsimp only at hF;intro K Ls iP0 hK tm st hf hs;refine en hf (rn 0 z (W.o (aB z) (W.o (aI z (DP.cN (DP.refl _) (cw n))) (rn 1 z (ci hF z (fun c_9 hF=>?_) (fun c_9 hF=>?_))))))
  ·refine rn 1 z (W.o (bR (cs:=dx ({Kind:=2,Set:=(an.rep 4 (0:Int)),To:=0,aH:=0,bP:=0,Slot:=0}:aT)) z z) (bj hF fun r_10 g_11 hF=>?_));refine cl (dw z) (d35 _ _ _ g_11 _ _ iP0 (fun st hs=>?_) _ hs);refine rn 2 z (W.o (aB z) (W.o (aI z (DP.cN (DP.refl _) (aV n))) (bj hF fun v_12 g_13 hF=>W.o (aM (bJ z) z g_13) (W.o (aL z (DP.refl _) (aF _)) (bj hF fun r_14 g_15 hF=>?_)))));refine cl (dw z) (ih (.Db r_10.2 v_12 true) _ g_15 _ _ iP0 (fun st hs=>?_) _ hs);refine rn 2 z (W.o (bR (cs:=dx ({Kind:=3,Set:=(an.rep 4 (0:Int)),To:=r_10.1,aH:=0,bP:=0,Slot:=0}:aT)) z z) (bj hF fun r_16 g_17 hF=>?_));refine cl (dw z) (d35 _ _ _ g_17 _ _ iP0 (fun st hs=>?_) _ hs);obtain ⟨j_18,hs⟩:=SH.fm hs;refine rn 0 z ?_;have h0:=hs;refine qq (dn 1 z (de z (bT z (h0.g 0 z)) (de z (aJ z (h0.g 0 z)) (de z (l1 z (h0.g 0 z) z) (dn 2 z (de z (bT z (h0.g 0 z)) (de z (aJ z (h0.g 0 z)) (de z (l1 z (h0.g 0 z) z) (de z (gL h0 1 z z) (bj hF fun v_19 g_20 hF=>de z (dJ h0 1 z z z g_20) (de z (aJ z (SH.gv h0 1 z g_20)) (dz ?_))))))))))));refine EU hs 1 z z g_20 z (LR.cast (LR.comp (LR.comp (LR.whole _ _) (fl gI g_20 ({v_19 with To:=((ls r_16.2.code).length:Int)}:aT))) (mY 5 1 (cI .i64 ((ls r_16.2.code).length:Int)) z z)) (by omega)) ((aS .i64) _) z ((aS .i64) _) ((fL .i64) _) z fun st hs=>?_;have hs:=hs.sK 0 z (cs':=[fC 9 (dF r_16.2.code r_10.1 ({v_19 with To:=((ls r_16.2.code).length:Int)}:aT)) j_18]++((cI .i64) (r_16.2.slots)++((cI .i64) (r_16.2.free)))) (by simp only [eA]) z;refine rn 0 z ?_;have hs:SH st (aa iP0 ({r_16.2 with code:=(dF r_16.2.code r_10.1 ({v_19 with To:=((ls r_16.2.code).length:Int)}:aT))}:dr)::_):=SH.eE j_18 (hs.p 2 [0,0] z);cases hF;exact rS bG (hK _ hs) z
  refine rn 1 z (W.o (aB z) (W.o (aI z (DP.cN (DP.refl _) (cw n))) (W.o (aB z) (W.o (aI z (DP.cN (DP.refl _) (cm n))) (rn 2 z ?_)))));have hs:=hs.fX Int;exact ih _ _ hF K Ls iP0 hK _ _ 0 kj (hs.p 2 [1,0] z)
 | tO n t64_ t65_ c out=>
  dsimp only at hF;intro K Ls iP0 hK tm st io1 hf hs;refine en hf (lp (rn 1 z (ci hF z (fun c_22 hF=>?_) (fun c_22 hF=>?_))))
  ·refine rn 2 z (W.o (bR (cs:=dx ({Kind:=2,Set:=(an.rep 4 (0:Int)),To:=0,aH:=0,bP:=0,Slot:=0}:aT)) z z) (bj hF fun r_23 g_24 hF=>?_));refine cl (dw z) (d35 _ _ _ g_24 _ _ iP0 (fun st hs=>?_) _ hs);refine bs (f:=AV.int .i64) ([r_23.1]:List Int) hs z z z z fun st b_25 hs=>gj hF fun g_26 hF=>ap (ys:=ls (some ([r_23.1]:List Int))) hs 2 z z (eR (cO (o:=(some ([r_23.1]:List Int))) (id:=b_25) z)) g_26 (fun _=>z) fun st b_27 hs=>rn 2 z (W.o (aB z) (W.o (aI z (DP.cN (DP.refl _) (aV n))) (bj hF fun v_28 g_29 hF=>W.o (aM (bJ z) z g_29) (W.o (aL z (DP.refl _) (aF _)) (bj hF fun r_30 g_31 hF=>?_)))));refine cl (dw z) (ih (.Db r_23.2 v_28 true) _ g_31 _ _ iP0 (fun st hs=>?_) _ (hs.p 3 [1,0,0] z));exact rn 2 z (ih _ _ hF K Ls iP0 hK _ _ b_27 kj (hs.p 3 [0,1] z))
  exact rn 1 z (W.o (e_len (cO (o:=out) (id:=io1) z)) (rn 1 z (Ru (gm (S:=[80]) ⟨(xL (es:=1) (f:=AV.int .i64) (o:=out) (id:=io1)).1,trivial⟩) (ih _ _ hF K Ls iP0 hK _ _ ⟨z,(xL (es:=1) (f:=AV.int .i64) (o:=out) (id:=io1)).2,z,z,trivial⟩ (hs.p 2 [0] z)))))
 | qR t80_ t81_ t82_ c=>
  dsimp only at hF;intro K Ls iP0 hK tm st hf hs;refine en hf (lp (rn 1 z (ci hF z (fun c_32 hF=>?_) (fun c_32 hF=>?_))))
  ·refine bj hF fun v_33 g_34 hF=>rn 0 z (W.o (aM (bJ z) z g_34) (W.o (dW z z) ?_));obtain ⟨j_35,hs⟩:=SH.fm hs;refine rn 1 z ?_;have h0:=hs;refine qq (dn 1 z (de z (bT z (h0.g 0 z)) (de z (aJ z (h0.g 0 z)) (de z (l1 z (h0.g 0 z) z) (dn 2 z (de z (bT z (h0.g 0 z)) (de z (aJ z (h0.g 0 z)) (de z (l1 z (h0.g 0 z) z) (de z (gL h0 1 z z) (bj hF fun v_36 g_37 hF=>de z (dJ h0 1 z z z g_37) (de z (aJ z (SH.gv h0 1 z g_37)) (dz ?_))))))))))));refine EU hs 1 z z g_37 z (LR.cast (LR.comp (LR.comp (LR.whole _ _) (fl gI g_37 ({v_36 with To:=((ls c.code).length:Int)}:aT))) (mY 5 1 (cI .i64 ((ls c.code).length:Int)) z z)) (by omega)) ((aS .i64) _) z ((aS .i64) _) ((fL .i64) _) z fun st hs=>?_;have hs:=hs.sK 0 z (cs':=[fC 9 (dF c.code v_33 ({v_36 with To:=((ls c.code).length:Int)}:aT)) j_35]++((cI .i64) (c.slots)++((cI .i64) (c.free)))) (by simp only [eA]) z;refine rn 2 z ?_;have hs:SH st (aa iP0 ({c with code:=(dF c.code v_33 ({v_36 with To:=((ls c.code).length:Int)}:aT))}:dr)::_):=SH.eE j_35 (hs.p 2 [0,0] z);exact ih _ _ hF K Ls iP0 hK _ _ iG hs
  refine rn 0 z ?_;cases hF;exact eS bG (hK _ hs) z
 | Db c n free=>
  dsimp only at hF;intro K Ls iP0 hK  st hs;refine bS k93 z (rn 0 z (W.o (aY (cs:=bn n) z (by rw [aF];rfl) (aX _)) ?_));obtain ⟨j_1,hs⟩:=SH.fm hs;refine rn 1 z (W.o (bT z (hs.g 0 z)) (W.o (aJ z (hs.g 0 z)) (W.o (l1 z (hs.g 0 z) z) (rn 2 z (ci hF z (fun c_2 hF=>?_) (fun c_2 hF=>?_))))))
  ·refine rn 2 z (W.o (bR (cs:=dx ({Kind:=7,Set:=(an.rep 4 (0:Int)),To:=0,aH:=0,bP:=0,Slot:=c.free}:aT)) z z) ?_);have hs:SH st (aa iP0 c::_):=SH.eE j_1 (hs.p 2 [0,0] z);obtain ⟨r_3,g_4,hF⟩:=bind_some hF;refine cl (dw z) (d35 _ _ _ g_4 _ _ iP0 (fun st hs=>?_) _ hs);obtain ⟨j_5,hs⟩:=SH.fm hs;refine rn 1 z (W.o (bT z (hs.g 0 z)) (W.o (aJ z (hs.g 0 z)) (W.o (l1 z (hs.g 0 z) z) (rn 1 z (W.o (bT z (hs.g 0 z)) (W.o (aJ z (hs.g 0 z)) (sr hs 0 z z z (cs':=[fC 9 r_3.2.code j_5]++((cI .i64) (({r_3.2 with free:=IntKind.wrap .i64 (r_3.2.free+1)}:dr).slots)++((cI .i64) (({r_3.2 with free:=IntKind.wrap .i64 (r_3.2.free+1)}:dr).free)))) z z fun st hs=>rn 0 z ?_)))))));have h0:=hs;refine qq (dn 2 z (de z (bT z (h0.g 0 z)) (de z (aJ z (h0.g 0 z)) (de z (l1 z (h0.g 0 z) z) (dn 1 z (de z (bT z (h0.g 0 z)) (de z (aJ z (h0.g 0 z)) (de z (l1 z (h0.g 0 z) z) (dn 1 z (de z (bT z (h0.g 0 z)) (de z (aJ z (h0.g 0 z)) (dz (sr hs 0 z z z (cs':=[fC 9 r_3.2.code j_5]++((cI .i64) (({r_3.2 with free:=IntKind.wrap .i64 (r_3.2.free+1),slots:=(if (IntKind.wrap .i64 (r_3.2.free+1))>r_3.2.slots then (IntKind.wrap .i64 (r_3.2.free+1)) else r_3.2.slots)}:dr).slots)++((cI .i64) (({r_3.2 with free:=IntKind.wrap .i64 (r_3.2.free+1),slots:=(if (IntKind.wrap .i64 (r_3.2.free+1))>r_3.2.slots then (IntKind.wrap .i64 (r_3.2.free+1)) else r_3.2.slots)}:dr).free)))) z z fun st hs=>?_)))))))))))));refine rj 0 1 z ?_;have hs:SH st (aa iP0 ({r_3.2 with free:=IntKind.wrap .i64 (r_3.2.free+1),slots:=(if (IntKind.wrap .i64 (r_3.2.free+1))>r_3.2.slots then (IntKind.wrap .i64 (r_3.2.free+1)) else r_3.2.slots)}:dr)::_):=SH.eE j_5 (hs.p 2 [0,0] z);exact ih _ _ hF K Ls iP0 hK _ _ iG hs
  refine rj 0 1 z ?_;have hs:SH st (aa iP0 c::_):=SH.eE j_1 (hs.p 2 [0,0] z);exact ih _ _ hF K Ls iP0 hK _ _ iG hs
 | tS free n slot c=>
  dsimp only at hF;intro K Ls iP0 hK tm st hf hs;refine en hf (rn 0 z (W.o (aL z (DP.refl _) (aF _)) (bj hF fun r_6 g_7 hF=>df (d71 n _ g_7) z (rn 7 z (ci hF z (fun c_8 hF=>?_) (fun c_8 hF=>?_))))))
  ·refine rn 3 z (W.o (bR (cs:=dx ({Kind:=6,Set:=(an.rep 4 (0:Int)),To:=0,aH:=r_6.1,bP:=r_6.2,Slot:=0}:aT)) z z) (bj hF fun r_9 g_10 hF=>?_));refine cl (dw z) (d35 _ _ _ g_10 _ _ iP0 (fun st hs=>?_) _ hs);exact rj 0 1 z (ih _ _ hF K Ls iP0 hK _ _ iG hs)
  exact rj 0 1 z (ih _ _ hF K Ls iP0 hK _ _ iG hs)
 | vD free n slot c=>
  dsimp only at hF;intro K Ls iP0 hK tm st hf hs;refine en hf (rn 1 z (W.o (aL z (DP.refl _) (aF _)) (bj hF fun r_11 g_12 hF=>?_)));refine cl (dw z) (ih (.yB c n) _ g_12 _ _ iP0 (fun st hs=>?_) _ hs);refine rn 1 z (ci hF z (fun c_13 hF=>?_) (fun c_13 hF=>?_))
  ·obtain ⟨j_14,hs⟩:=SH.fm hs
   refine rn 1 z (W.o (bT z (hs.g 0 z)) (W.o (aJ z (hs.g 0 z)) (W.o (l1 z (hs.g 0 z) z) (rn 1 z (W.o (bT z (hs.g 0 z)) (W.o (aJ z (hs.g 0 z)) (sr hs 0 z z z (cs':=[fC 9 r_11.code j_14]++((cI .i64) (({r_11 with free:=IntKind.wrap .i64 (r_11.free-1)}:dr).slots)++((cI .i64) (({r_11 with free:=IntKind.wrap .i64 (r_11.free-1)}:dr).free)))) z z fun st hs=>rn 2 z (W.o (bR (cs:=dx ({Kind:=8,Set:=(an.rep 4 (0:Int)),To:=0,aH:=0,bP:=0,Slot:=slot}:aT)) z z) ?_))))))));have hs:SH st (aa iP0 ({r_11 with free:=IntKind.wrap .i64 (r_11.free-1)}:dr)::_):=SH.eE j_14 (hs.p 2 [0,0] z);obtain ⟨r_15,g_16,hF⟩:=bind_some hF;refine cl (dw z) (d35 _ _ _ g_16 _ _ iP0 (fun st hs=>?_) _ hs);refine rn 0 z ?_;cases hF;exact eS bG (hK _ hs) z
  refine rn 0 z ?_;cases hF;exact eS bG (hK _ hs) z
noncomputable def Wq (c:dr) (n:aK):Option dr:=bu (.yB c n)
theorem d34 (c:dr) (n:aK) (r:dr) (hF:Wq c n=some r): ∀(K:AV→aA→Prop) (Ls:List bU) (iP0:Nat),(∀st,SH st (aa iP0 r::Ls)→K (AV.bt []) st)→ ∀(st:aA),SH st (aa iP0 c::Ls)→XCall Tryd.prog gE 34 [.ptr iP0 0,dL n] st K:=by
 exact EL (.yB c n) r hF
noncomputable def F77 (c:dr) (n:aK):Option dr:=bu (.Qf c n)
theorem d77 (c:dr) (n:aK) (r:dr) (hF:F77 c n=some r): ∀(K:AV→aA→Prop) (Ls:List bU) (iP0:Nat),(∀st,SH st (aa iP0 r::Ls)→K (AV.bt []) st)→ ∀(st:aA),SH st (aa iP0 c::Ls)→XCall Tryd.prog gE 77 [.ptr iP0 0,dL n] st K:=by
 exact EL (.Qf c n) r hF
noncomputable def F78 (c:dr) (n:aK):Option dr:=bu (.Qg c n)
theorem d78 (c:dr) (n:aK) (r:dr) (hF:F78 c n=some r): ∀(K:AV→aA→Prop) (Ls:List bU) (iP0:Nat),(∀st,SH st (aa iP0 r::Ls)→K (AV.bt []) st)→ ∀(st:aA),SH st (aa iP0 c::Ls)→XCall Tryd.prog gE 78 [.ptr iP0 0,dL n] st K:=by
 exact EL (.Qg c n) r hF
noncomputable def F79 (c:dr) (n:aK):Option dr:=bu (.Qh c n)
theorem d79 (c:dr) (n:aK) (r:dr) (hF:F79 c n=some r): ∀(K:AV→aA→Prop) (Ls:List bU) (iP0:Nat),(∀st,SH st (aa iP0 r::Ls)→K (AV.bt []) st)→ ∀(st:aA),SH st (aa iP0 c::Ls)→XCall Tryd.prog gE 79 [.ptr iP0 0,dL n] st K:=by
 exact EL (.Qh c n) r hF
noncomputable def F80 (c:dr) (n:aK):Option dr:=bu (.Qi c n)
theorem d80 (c:dr) (n:aK) (r:dr) (hF:F80 c n=some r): ∀(K:AV→aA→Prop) (Ls:List bU) (iP0:Nat),(∀st,SH st (aa iP0 r::Ls)→K (AV.bt []) st)→ ∀(st:aA),SH st (aa iP0 c::Ls)→XCall Tryd.prog gE 80 [.ptr iP0 0,dL n] st K:=by
 exact EL (.Qi c n) r hF
noncomputable def F93 (c:dr) (n:aK) (free:Bool):Option dr:=bu (.Db c n free)
theorem d93 (c:dr) (n:aK) (free:Bool) (r:dr) (hF:F93 c n free=some r): ∀(K:AV→aA→Prop) (Ls:List bU) (iP0:Nat),(∀st,SH st (aa iP0 r::Ls)→K (AV.bt []) st)→ ∀(st:aA),SH st (aa iP0 c::Ls)→XCall Tryd.prog gE 93 [.ptr iP0 0,dL n,AV.bool free] st K:=by
 exact EL (.Db c n free) r hF
def SB:aC:=.o [qx 1 9 0,q 2 (.alloc [zi,zi,.aP]),qm 3 (ki 0)] (.s (.o [qn 8 9 1,qc 9 33 [8],qm 7 9,qe 10 7 0,qe 11 7 1,qm 4 10,qm 5 11] (.o [qm 12 5,qb 13 .neq 12 (ki 0)] (.cond 13 (.o [q 14 (.build [zi,zi,.aP] []),qm 15 5,qs 3 2 14,qm 3 15] .ret) .skip))) (.o [q 16 (.build [.aP,zi,zi] []),q 17 (.box 3 16),qm 6 17] (.o [qm 18 6,qn 19 9 1,qc 20 34 [18,19]] (.o [qm 21 6,q 22 (.build [zb,zu,zu,zu,zu,zi,zi,zi,zi] [(0,(1,(ku 12)))]),qc 23 35 [21,22]] (.s (.draw [] 0 0 [qn 24 9 1,qm 26 6,qk 27 26,qa 28 1 27,ql 29 28,qm 30 6,qk 31 30,qa 32 0 31,ql 33 32,qc 25 36 [24],q 34 (.build [zi,zi,.aP] [(0,(1,25)),(1,(1,29)),(2,(1,33))])] [qs 3 2 34,qm 3 (ki 0)]) .ret)))))
def R19:List RA:=[(.mg 2 3),(.tmp 3)]
theorem k19:au Tryd.prog (dQ [1]) 19=some ⟨35,SB,R19⟩:=by kernel_rfl
noncomputable def Rb (n:aK):Option (af × Int):=(Oy n>>=fun r_2=>(if (r_2.2 != 0)=true then (some (({bH:=0,bX:=0,Code:=none}:af),r_2.2)) else (Wq ({code:=(none:Sl aT),slots:=0,free:=0}:dr) n>>=fun r_7=>(ve r_7 ({Kind:=12,Set:=(an.rep 4 (0:Int)),To:=0,aH:=0,bP:=0,Slot:=0}:aT)>>=fun r_9=>(Tf n>>=fun r_12=>(some (({bH:=r_12,bX:=r_9.2.slots,Code:=r_9.2.code}:af),0)))))))
theorem d19 (n:aK) (r:af × Int) (hF:Rb n=some r):DFun Tryd.prog gE 19 [dL n] (AV.bt [nN r.1,AV.int .i64 r.2]):=by
 unfold Rb at hF;refine bD k19 z ?_;have hs:SH [] []:=SH.nil;generalize ([]:aA)=st at hs ⊢;refine rn 0 z (W.o (aY (cs:=bn n) z (by rw [aF];rfl) (aX _)) (al hs (cs:=cE ({bH:=0,bX:=0,Code:=none}:af)) z fun st b_1 hs=>rn 1 z (W.o (aL z (DP.refl _) (aF _)) (bj hF fun r_2 g_3 hF=>df (d33 n _ g_3) z (rn 7 z (ci hF z (fun c_4 hF=>?_) (fun c_4 hF=>?_)))))))
 ·refine rn 0 z (W.o (bR (cs:=cE ({bH:=0,bX:=0,Code:=none}:af)) z z) (rn 1 z (sl hs 0 z z (LR.whole _ _) (bC _) z (bC _) (bg _) z fun st hs=>rn 1 z ?_)));cases hF;exact rD (eJ z (hs.g 0 z) (LR.whole _ _) (bC _) (ah bG)) z
 refine rn 0 z (W.o (bR (cs:=Ro ({code:=none,slots:=0,free:=0}:dr)) z z) ?_);have hs:=hs.zA (α :=aT) dx;refine bx hs (cs:=[fC 9 (none:Sl aT) 0]++((cI .i64) (({code:=none,slots:=0,free:=0}:dr).slots)++((cI .i64) (({code:=none,slots:=0,free:=0}:dr).free)))) z z fun st b_5 hs=>rn 2 z (W.o (aL z (DP.refl _) (aF _)) ?_);have hs:SH st (aa b_5 ({code:=(none:Sl aT),slots:=0,free:=0}:dr)::_):=SH.eE 0 (hs.p 3 [0,0,0] z);obtain ⟨r_7,g_8,hF⟩:=bind_some hF;refine cl (dw z) (d34 _ _ _ g_8 _ _ b_5 (fun st hs=>?_) _ hs);refine rn 1 z (W.o (bR (cs:=dx ({Kind:=12,Set:=(an.rep 4 (0:Int)),To:=0,aH:=0,bP:=0,Slot:=0}:aT)) z z) (bj hF fun r_9 g_10 hF=>?_));refine cl (dw z) (d35 _ _ _ g_10 _ _ b_5 (fun st hs=>?_) _ hs);refine rj 0 2 z ?_;obtain ⟨j_11,hs⟩:=SH.fm hs;refine Xo (off:=0) (es:=9) (c:=dx) (g:=v76) hs z (cs':=Ro r_9.2) z z gI CD (fun _=>z) fun st hs=>?_;have h0:=hs;refine qq (de z (aL z (DP.refl _) (aF _)) (dn 1 z (de z (bT z (h0.g 0 z)) (de z (aJ z (h0.g 0 z)) (de z (l1 z (h0.g 0 z) z) (dn 1 z (de z (bT z (h0.g 0 z)) (de z (aJ z (h0.g 0 z)) (de z (l1 z (h0.g 0 z) z) (bj hF fun r_12 g_13 hF=>xK (d36 n _ g_13) z (de z (dY (z:=[(.int .i64 0),(.int .i64 0),.aP]) (cs:=cE ({bH:=r_12,bX:=r_9.2.slots,Code:=r_9.2.code}:af)) (bO (cs:=cI .i64 r_12) z z ((aS .i64) _) (by decide) (bO (cs:=cI .i64 r_9.2.slots) z z ((aS .i64) _) (by decide) (bO (cs:=fF 9 v76 r_9.2.code) (v:=cg 9 v76 r_9.2.code) z aN (aO _) (by decide) eV))) (show av (cE ({bH:=0,bX:=0,Code:=none}:af)) _=_ from (bf (mY 0 1 (cI .i64 r_12) z z) (((aS .i64) _).trans ((aS .i64) _).symm) (bf (mY 1 1 (cI .i64 r_9.2.slots) z z) (((aS .i64) _).trans ((aS .i64) _).symm) (bf (mY 2 1 (fF 9 v76 r_9.2.code) z z) ((aO _).trans (aO _).symm) (fJ _)))))) (dz ?_))))))))))));refine sl hs 1 z z (LR.whole _ _) (bC _) z (bC _) (bg _) z fun st hs=>rn 1 z ?_;cases hF;exact rD (eJ z (hs.g 1 z) (LR.whole _ _) (bC _) (ah bG)) z
def St:aC:=.o [qx 2 4 0,qm 4 kf] (.o [qm 5 1,qb 6 .quo 5 (ku 64),q 7 (.ek 4 1 2 6),ql 8 7,qm 9 1,qb 10 .rem 9 (ku 64),qb 11 .shr 8 10,qb 12 .and 11 (.c (.int .u64 1)),qb 13 .eql 12 (.c (.int .u64 1)),qm 4 13] .ret)
def R57:List RA:=[(.tmp 4)]
theorem k57:au Tryd.prog (dQ [2]) 57=some ⟨14,St,R57⟩:=by kernel_rfl
noncomputable def KR (s:an 4 Int) (c:Int):Option Bool:=(if (0:Int)≤(IntKind.wrap .u8 (Int.tdiv c 64))∧(IntKind.wrap .u8 (Int.tdiv c 64))<(4:Int) then (ix s.l (IntKind.wrap .u8 (Int.tdiv c 64))>>=fun v_2=>(if 0≤(Int.tmod c 64) then (some ((kz .u64 (jC .u64 v_2 (Int.tmod c 64)) 1)==1)) else none)) else none)
theorem d57 (s:an 4 Int) (c:Int) (r:Bool) (hF:KR s c=some r):DFun Tryd.prog gE 57 [v24 s,AV.int .u8 c] (AV.bool r):=by
 unfold KR at hF;refine bD k57 z ?_;have hs:SH [] []:=SH.nil;generalize ([]:aA)=st at hs ⊢;refine rn 0 z (W.o (aY (cs:=jE s) z z z) (rn 2 z (W.o (hJ z z (tE _ _ _ (by decide))) (gj hF fun g_1 hF=>bj hF fun v_2 g_3 hF=>W.o (pP z z g_1) (W.o (aI z (DP.cN (DP.refl _) (kI (aS .u64) g_3))) (rn 1 z (W.o (hJ z z (tF _ _ _ (by decide))) (gj hF fun g_4 hF=>W.o (hJ z z (tG _ _ _ _ g_4)) (rn 3 z ?_)))))))));cases hF;exact rD (ah bG) z
def Ss:aC:=.o [qx 4 3 0,qx 5 1 1,qx 6 1 2,qx 7 1 3,qm 8 (.c .cQ)] (.o [q 9 (.mZ 85 [4,7,6,5]),qm 8 9] .ret)
def R56:List RA:=[(.tmp 8)]
theorem k56:au Tryd.prog (dQ [4,5,6,7]) 56=some ⟨10,Ss,R56⟩:=by kernel_rfl
noncomputable def Wy (p:af) (text:aZ) (place:Int) (from_:Sl Int):Option (af × Sl Int × Int × aZ):=(some (p,from_,place,text))
theorem d56 (p:af) (text:aZ) (place:Int) (from_:Sl Int) (r:af × Sl Int × Int × aZ) (hF:Wy p text place from_=some r):DFun Tryd.prog gE 56 [nN p,AV.str text,AV.int .i64 place,cg 1 (AV.int .i64) from_] (.fn 85 [.aQ (cE r.1),.aQ (fF 1 (AV.int .i64) r.2.1),.aQ (cI .i64 r.2.2.1),.aQ (cS r.2.2.2)]):=by
 unfold Wy at hF;refine bD k56 z ?_;have hs:SH [] []:=SH.nil;generalize ([]:aA)=st at hs ⊢;refine rn 0 z (W.o (aY (cs:=cE p) z z (bg _)) (W.o (aY (cs:=cS text) z z z) (W.o (aY (cs:=cI .i64 place) z z z) (W.o (aY (cs:=fF 1 (AV.int .i64) from_) aN z (jF _)) (rn 3 z ?_)))));cases hF;exact rD (ah bG) z
def MJ:aC:=.o [qb 21 .lss 20 19] (.s (.cond 21 .skip (.exit 0)) (.s (.block 1 (.o [qi 22 1 18 20,ql 23 22,qm 8 23] (.ops [qm 24 6,qm 25 8,qc 26 86 [24,25]]))) (.ops [qb 27 .add 20 (ki 1),qm 20 27])))
def Og:aC:=.cond 47 .ret .skip
def Oi:aC:=.o [ql 88 3,ql 89 4,q 90 (.qt 89),qb 91 .eql 88 90] (.cond 91 (.ops [qm 92 6,qm 93 10,qb 94 .add 93 (ki 1),qc 95 86 [92,94]]) .skip)
def Oh:aC:=.o [qa 53 0 11,ql 54 53] (.block 4 (.s (.o [qb 60 .eql 54 (ku 1),qm 59 60] (.cond 59 .skip (.ops [qb 61 .eql 54 (ku 12),qm 59 61]))) (.cond 59 .skip (.o [qb 63 .eql 54 (ku 2),qm 62 63] (.cond 62 (.o [qm 64 6,qm 65 10,qb 66 .add 65 (ki 1),qc 67 86 [64,66]] (.ops [qm 68 6,qa 69 5 11,ql 70 69,qc 71 86 [68,70]])) (.o [qb 73 .eql 54 (ku 3),qm 72 73] (.cond 72 (.ops [qm 74 6,qa 75 5 11,ql 76 75,qc 77 86 [74,76]]) (.o [qb 79 .eql 54 (ku 10),qm 78 79] (.cond 78 (.o [ql 80 3,qb 81 .eql 80 (ki 0)] (.cond 81 (.ops [qm 82 6,qm 83 10,qb 84 .add 83 (ki 1),qc 85 86 [82,84]]) .skip)) (.o [qb 87 .eql 54 (ku 11),qm 86 87] (.cond 86 Oi (.ops [qm 55 6,qm 56 10,qb 57 .add 56 (ki 1),qc 58 86 [55,57]]))))))))))))
def GP:aC:=.s (.o [qm 28 9,qm 29 6,qk 30 29,qa 31 1 30,ql 32 31,qh 33 32,qb 34 .lss 28 33] (.cond 34 .skip (.exit 2))) (.s (.block 3 (.o [qm 37 6,qk 38 37,qa 39 1 38,ql 40 39,qm 41 9,qi 42 1 40 41,ql 43 42,qm 10 43] (.s (.o [qm 44 0,qm 45 10,qf 46 44 [45],q 47 (.un .not 46)] Og) (.o [qa 48 2 1,ql 49 48,qm 50 10,qi 51 9 49 50,qn 52 9 51,q 11 (.alloc [zb,zu,zu,zu,zu,zi,zi,zi,zi]),qs 9 11 52] Oh)))) (.ops [qm 35 9,qb 36 .add 35 (ki 1),qm 9 36]))
def GO:aC:=.o [qm 9 (ki 0)] (.block 2 (.loop GP))
def TS:aC:=.o [qa 12 2 1,ql 13 12,qh 14 13,q 15 (.jM 1 1 [(.bool false)] 14 14 true),q 16 (.build [.aP,.aP] [(0,(1,15))]),q 17 (.box 2 16),qm 6 17] (.s (.o [ql 18 2,qh 19 18,qm 20 (ki 0)] (.block 0 (.loop MJ))) GO)
def ZQ:List RA:=[]
theorem k85:au Tryd.prog (dQ [15]) 85=some ⟨96,TS,ZQ⟩:=by kernel_rfl
noncomputable abbrev Zb (K:AV→aA→Prop):Cx:=cK Tryd.prog gE 96 ZQ (uL K) [15]
inductive Pt (σ :Type) where
 | p1 (t1_:af) (t3_:Int) (t4_:aZ) (t18_:Sl Int) (t19_:Int) (t20_:Int) (s_: σ) (s:kq)
 | p2 (t1_:af) (t3_:Int) (t4_:aZ) (k:Int) (s_: σ) (s:kq)
noncomputable def Bo {σ :Type} (Y:Int→ σ →Option (Bool × σ)):Pt σ →Option σ | .p1 t1_ t3_ t4_ t18_ t19_ t20_ s_ s=>(if (decide (t20_<t19_))=true then (ix (ls t18_) t20_>>=fun v_6=>(KT s v_6>>=fun r_8=>(Bo Y (.p1 t1_ t3_ t4_ t18_ t19_ (IntKind.wrap .i64 (t20_+1)) s_ r_8.2)))) else (Bo Y (.p2 t1_ t3_ t4_ 0 s_ s))) | .p2 t1_ t3_ t4_ k s_ s=>(if (decide (k<((ls s.list).length:Int)))=true then (ix (ls s.list) k>>=fun v_13=>(Y v_13 s_>>=fun r_15=>(if (!r_15.1)=true then (some r_15.2) else (ix (ls t1_.Code) v_13>>=fun v_18=>(if (v_18.Kind==1)=true then (Bo Y (.p2 t1_ t3_ t4_ (IntKind.wrap .i64 (k+1)) r_15.2 s)) else (if (v_18.Kind==12)=true then (Bo Y (.p2 t1_ t3_ t4_ (IntKind.wrap .i64 (k+1)) r_15.2 s)) else (if (v_18.Kind==2)=true then (KT s (IntKind.wrap .i64 (v_13+1))>>=fun r_24=>(KT r_24.2 v_18.To>>=fun r_26=>(Bo Y (.p2 t1_ t3_ t4_ (IntKind.wrap .i64 (k+1)) r_15.2 r_26.2)))) else (if (v_18.Kind==3)=true then (KT s v_18.To>>=fun r_29=>(Bo Y (.p2 t1_ t3_ t4_ (IntKind.wrap .i64 (k+1)) r_15.2 r_29.2))) else (if (v_18.Kind==10)=true then (if (t3_==0)=true then (KT s (IntKind.wrap .i64 (v_13+1))>>=fun r_33=>(Bo Y (.p2 t1_ t3_ t4_ (IntKind.wrap .i64 (k+1)) r_15.2 r_33.2))) else (Bo Y (.p2 t1_ t3_ t4_ (IntKind.wrap .i64 (k+1)) r_15.2 s))) else (if (v_18.Kind==11)=true then (if (t3_==((t4_).length:Int))=true then (KT s (IntKind.wrap .i64 (v_13+1))>>=fun r_37=>(Bo Y (.p2 t1_ t3_ t4_ (IntKind.wrap .i64 (k+1)) r_15.2 r_37.2))) else (Bo Y (.p2 t1_ t3_ t4_ (IntKind.wrap .i64 (k+1)) r_15.2 s))) else (KT s (IntKind.wrap .i64 (v_13+1))>>=fun r_39=>(Bo Y (.p2 t1_ t3_ t4_ (IntKind.wrap .i64 (k+1)) r_15.2 r_39.2))))))))))))) else (some s_)) partial_fixpoint
def Yi {σ :Type} (H: σ →bU) (iY0:Nat) (x:Pt σ) (r: σ):Prop:=match x with | .p1 t1_ t3_ t4_ t18_ t19_ t20_ s_ s=> ∀(K:AV→aA→Prop) (Ls:List bU),(∀st,SH st (H r::Ls)→K (AV.bt []) st)→ ∀(tm:Fr) (st:aA) (io1:Nat),dH tm [(0,.nR iY0),(1,.aQ (cE t1_)),(3,.aQ (cI .i64 t3_)),(4,.aQ (cS t4_)),(6,.ptr io1 0),(18,cg 1 (AV.int .i64) t18_),(19,AV.int .i64 t19_),(20,AV.int .i64 t20_)]→SH st (H s_::cZ io1 s::Ls)→W (Zb K) [.lp MJ,.blk 0,.code GO] tm st | .p2 t1_ t3_ t4_ k s_ s=> ∀(K:AV→aA→Prop) (Ls:List bU),(∀st,SH st (H r::Ls)→K (AV.bt []) st)→ ∀(tm:Fr) (st:aA) (io1:Nat),dH tm [(0,.nR iY0),(1,.aQ (cE t1_)),(3,.aQ (cI .i64 t3_)),(4,.aQ (cS t4_)),(6,.ptr io1 0),(9,AV.int .i64 k)]→SH st (H s_::cZ io1 s::Ls)→W (Zb K) [.lp GP,.blk 2] tm st
theorem w85 {σ :Type} {H: σ →bU} {Y:Int→ σ →Option (Bool × σ)} (iY0:Nat) (hY: ∀(x:Int) (s: σ) (r:Bool × σ),Y x s=some r→ ∀(K:AV→aA→Prop) (L:List bU) (st:aA),SH st (H s::L)→(∀st,SH st (H r.2::L)→K (.bool r.1) st)→XYield Tryd.prog gE iY0 [AV.int .i64 x] st K): ∀(x:Pt σ) (r: σ),Bo Y x=some r→Yi H iY0 x r:=by
 refine Bo.partial_correctness Y (Yi H iY0) ?_;intro g ih x r hF;cases x with
 | p1 t1_ t3_ t4_ t18_ t19_ t20_ s_ s=>
  dsimp only at hF;intro K Ls hK tm st io1 hf hs;refine en hf (lp (rn 1 z (ci hF z (fun c_5 hF=>?_) (fun c_5 hF=>?_))))
  ·refine bj hF fun v_6 g_7 hF=>rn 0 z (W.o (aM (bJ z) z g_7) (W.o (dW z z) (bj hF fun r_8 g_9 hF=>rn 3 z ?_)));refine cl (dw z) (d86 _ _ _ g_9 _ _ io1 (fun st hs=>?_) _ (hs.p 2 [1,0] z));exact rn 2 z (ih _ _ hF K Ls hK _ _ io1 uV (hs.p 2 [1,0] z))
  exact rn 1 z (ih _ _ hF K Ls hK _ _ io1 lD hs)
 | p2 t1_ t3_ t4_ k s_ s=>
  dsimp only at hF;intro K Ls hK tm st io1 hf hs;refine en hf (lp ?_);have hs:=(hs.p 2 [1,0] z);obtain ⟨j_10,j_11,hs⟩:=SH.UW hs;refine rn 2 z (W.o (bT z (hs.g 0 z)) (W.o (aJ z (hs.g 0 z)) (W.o (l1 z (hs.g 0 z) z) (W.o (e_len (cO (o:=s.list) (id:=j_11) z)) (rn 1 z (ci hF z (fun c_12 hF=>?_) (fun c_12 hF=>?_)))))))
  ·refine rn 1 z (W.o (bT z (hs.g 0 z)) (W.o (aJ z (hs.g 0 z)) (W.o (l1 z (hs.g 0 z) z) (bj hF fun v_13 g_14 hF=>rn 1 z (W.o (aM (cO (o:=s.list) (id:=j_11) z) z g_14) (W.o (dW z z) (bj hF fun r_15 g_16 hF=>rn 3 z ?_)))))));refine cy z z (hY _ _ _ g_16 _ _ _ (hs.p 4 [3,0,0,0] z) fun st hs=>?_);refine rn 1 z (ci hF z (fun c_17 hF=>?_) (fun c_17 hF=>?_))
   ·cases hF;exact rS bG (hK _ (hs.p 4 [0] z)) z
   refine rn 0 z (W.o (aB z) (W.o (dW z (by first | rfl | (rw [aN];rfl))) (bj hF fun v_18 g_19 hF=>rn 1 z (W.o (aM (bJ z) z g_19) (W.o (uD (s:=dx v_18) z z z) (al hs (cs:=dx ({Kind:=0,Set:=(an.rep 4 (0:Int)),To:=0,aH:=0,bP:=0,Slot:=0}:aT)) z fun st b_20 hs=>sr hs 0 z z z (cs':=dx v_18) z z fun st hs=>rn 0 z (W.o (aJ z (hs.g 0 z)) (W.o (l1 z (hs.g 0 z) z) (rn 2 z (ci hF z (fun c_21 hF=>?_) (fun c_21 hF=>?_)))))))))))
   ·refine rn 0 z (ct z c_21 (rn 3 z ?_));have hs:SH st (cZ io1 s::_):=SH.qo j_10 j_11 (hs.p 5 [2,2,2,0,0] z);exact ih _ _ hF K Ls hK _ _ io1 lD (hs.p 3 [2,0] z)
   refine rn 2 z (ci hF z (fun c_22 hF=>?_) (fun c_22 hF=>?_))
   ·refine rn 3 z ?_;have hs:SH st (cZ io1 s::_):=SH.qo j_10 j_11 (hs.p 5 [2,2,2,0,0] z);exact ih _ _ hF K Ls hK _ _ io1 lD (hs.p 3 [2,0] z)
   refine rn 2 z (ci hF z (fun c_23 hF=>?_) (fun c_23 hF=>?_))
   ·refine rn 3 z ?_;have hs:SH st (cZ io1 s::_):=SH.qo j_10 j_11 (hs.p 5 [2,2,2,0,0] z);obtain ⟨r_24,g_25,hF⟩:=bind_some hF;refine cl (dw z) (d86 _ _ _ g_25 _ _ io1 (fun st hs=>?_) _ hs);refine rn 1 z (W.o (aJ z (hs.g 1 z)) (W.o (l1 z (hs.g 1 z) z) (bj hF fun r_26 g_27 hF=>?_)));refine cl (dw z) (d86 _ _ _ g_27 _ _ io1 (fun st hs=>?_) _ hs);exact rn 3 z (ih _ _ hF K Ls hK _ _ io1 lD (hs.p 3 [2,0] z))
   refine rn 2 z (ci hF z (fun c_28 hF=>?_) (fun c_28 hF=>?_))
   ·refine rn 1 z (W.o (aJ z (hs.g 0 z)) (W.o (l1 z (hs.g 0 z) z) ?_));have hs:SH st (cZ io1 s::_):=SH.qo j_10 j_11 (hs.p 5 [2,2,2,0,0] z);obtain ⟨r_29,g_30,hF⟩:=bind_some hF;refine cl (dw z) (d86 _ _ _ g_30 _ _ io1 (fun st hs=>?_) _ hs);exact rn 3 z (ih _ _ hF K Ls hK _ _ io1 lD (hs.p 3 [2,0] z))
   refine rn 2 z (ci hF z (fun c_31 hF=>?_) (fun c_31 hF=>?_))
   ·refine rn 0 z (W.o (dW z z) (rn 1 z (ci hF z (fun c_32 hF=>?_) (fun c_32 hF=>?_))))
    ·refine rn 3 z ?_;have hs:SH st (cZ io1 s::_):=SH.qo j_10 j_11 (hs.p 5 [2,2,2,0,0] z);obtain ⟨r_33,g_34,hF⟩:=bind_some hF;refine cl (dw z) (d86 _ _ _ g_34 _ _ io1 (fun st hs=>?_) _ hs);exact rn 3 z (ih _ _ hF K Ls hK _ _ io1 lD (hs.p 3 [2,0] z))
    refine rn 3 z ?_;have hs:SH st (cZ io1 s::_):=SH.qo j_10 j_11 (hs.p 5 [2,2,2,0,0] z);exact ih _ _ hF K Ls hK _ _ io1 lD (hs.p 3 [2,0] z)
   refine rn 2 z (ci hF z (fun c_35 hF=>?_) (fun c_35 hF=>?_))
   ·refine rn 0 z (W.o (dW z z) (W.o (dW z z) (rn 2 z (ci hF z (fun c_36 hF=>?_) (fun c_36 hF=>?_)))))
    ·refine rn 3 z ?_;have hs:SH st (cZ io1 s::_):=SH.qo j_10 j_11 (hs.p 5 [2,2,2,0,0] z);obtain ⟨r_37,g_38,hF⟩:=bind_some hF;refine cl (dw z) (d86 _ _ _ g_38 _ _ io1 (fun st hs=>?_) _ hs);exact rn 3 z (ih _ _ hF K Ls hK _ _ io1 lD (hs.p 3 [2,0] z))
    refine rn 3 z ?_;have hs:SH st (cZ io1 s::_):=SH.qo j_10 j_11 (hs.p 5 [2,2,2,0,0] z);exact ih _ _ hF K Ls hK _ _ io1 lD (hs.p 3 [2,0] z)
   refine rn 3 z ?_;have hs:SH st (cZ io1 s::_):=SH.qo j_10 j_11 (hs.p 5 [2,2,2,0,0] z);obtain ⟨r_39,g_40,hF⟩:=bind_some hF;refine cl (dw z) (d86 _ _ _ g_40 _ _ io1 (fun st hs=>?_) _ hs);exact rn 3 z (ih _ _ hF K Ls hK _ _ io1 lD (hs.p 3 [2,0] z))
  refine rn 0 z ?_;cases hF;exact eS bG (hK _ (hs.p 4 [3] z)) z
noncomputable def XE {σ :Type} (Y:Int→ σ →Option (Bool × σ)) (d0_:af) (d1_:Sl Int) (d2_:Int) (d3_:aZ) (s_: σ):Option σ :=(if 0≤((ls d0_.Code).length:Int)∧((ls d0_.Code).length:Int)=((ls d0_.Code).length:Int)∧(1:Int)*((ls d0_.Code).length:Int)≤281474976710656 then (Bo Y (.p1 d0_ d2_ d3_ d1_ ((ls d1_).length:Int) 0 s_ ({iE:=(some (List.replicate (Int.toNat ((ls d0_.Code).length:Int)) (false:Bool))),list:=(none:Sl Int)}:kq))) else none)
theorem d85 {σ :Type} {H: σ →bU} {Y:Int→ σ →Option (Bool × σ)} (iY0:Nat) (hY: ∀(x:Int) (s: σ) (r:Bool × σ),Y x s=some r→ ∀(K:AV→aA→Prop) (L:List bU) (st:aA),SH st (H s::L)→(∀st,SH st (H r.2::L)→K (.bool r.1) st)→XYield Tryd.prog gE iY0 [AV.int .i64 x] st K) (d0_:af) (d1_:Sl Int) (d2_:Int) (d3_:aZ) (s_: σ) (r: σ) (hF:XE Y d0_ d1_ d2_ d3_ s_=some r): ∀(K:AV→aA→Prop) (Ls:List bU),(∀st,SH st (H r::Ls)→K (AV.bt []) st)→ ∀(st:aA),SH st (H s_::Ls)→XCall Tryd.prog gE 85 [.nR iY0,.aQ (cE d0_),.aQ (fF 1 (AV.int .i64) d1_),.aQ (cI .i64 d2_),.aQ (cS d3_)] st K:=by
 unfold XE at hF;intro K Ls hK  st hs;refine bS k85 z (rn 0 z (W.o (aB z) (W.o (dW z (by first | rfl | (rw [aN];rfl))) (W.o (e_len (bJ z)) (gj hF fun g_2 hF=>Xz (c:=cB) (false:Bool) hs z z z g_2 fun st b_1 hs=>W.o (bR (cs:=[fC 1 (some (List.replicate (Int.toNat ((ls d0_.Code).length:Int)) (false:Bool))) b_1]++((fF 1 (AV.int .i64)) (({iE:=(some (List.replicate (Int.toNat ((ls d0_.Code).length:Int)) (false:Bool))),list:=none}:kq).list))) z z) ?_)))));have hs:=hs.fX Int;refine bx hs (cs:=[fC 1 (some (List.replicate (Int.toNat ((ls d0_.Code).length:Int)) (false:Bool))) b_1]++([br 1 (AV.int .i64) (none:Sl Int) 0])) z z fun st b_3 hs=>rn 1 z (W.o (dW z (by first | rfl | (rw [aN];rfl))) (W.o (e_len (bJ z)) (rn 1 z ?_)));have hs:SH st (cZ b_3 ({iE:=(some (List.replicate (Int.toNat ((ls d0_.Code).length:Int)) (false:Bool))),list:=(none:Sl Int)}:kq)::_):=SH.qo b_1 0 (hs.p 4 [0,1,0,0] z);exact (w85 iY0 hY) (.p1 d0_ d2_ d3_ d1_ ((ls d1_).length:Int) 0 s_ ({iE:=(some (List.replicate (Int.toNat ((ls d0_.Code).length:Int)) (false:Bool))),list:=(none:Sl Int)}:kq)) _ hF K Ls hK _ _ b_3 uV (hs.p 2 [1,0] z)
def FD:aC:=.ops [qm 11 25]
def FE:aC:=.block 3 (.o [qa 26 2 3,ql 27 26,qm 28 11,qi 29 9 27 28,qn 30 9 29,q 12 (.alloc [zb,zu,zu,zu,zu,zi,zi,zi,zi]),qs 9 12 30] (.block 4 (.o [qa 32 0 12,ql 33 32,qb 34 .eql 33 (ku 12),qm 31 34] (.cond 31 (.ops [ql 35 7,ql 36 9,q 37 (.bE 1 1 false [zi] [(0,(1,36))] false),q 38 (.app 1 8 35 37),qs 1 7 38]) (.s (.draw [] 0 0 [qa 40 0 12,ql 41 40,qb 42 .eql 41 (ku 1),qm 43 42,(ql 44 9).y 43,(ql 45 4).y 43,(q 46 (.qt 45)).y 43,(qb 47 .lss 44 46).y 43,qp 48 43 47 kf,qm 49 48,(qa 50 1 12).y 49,(qn 51 4 50).y 49,(ql 52 4).y 49,(ql 53 9).y 49,(q 54 (.NO 52 53)).y 49] [(qc 55 57 [51,54]).y 49,qp 56 49 55 kf,qm 39 56]) (.cond 39 (.ops [ql 57 10,qm 58 11,qb 59 .add 58 (ki 1),q 60 (.bE 1 1 false [zi] [(0,(1,59))] false),q 61 (.app 1 8 57 60),qs 1 10 61]) .skip))))))
def FC:aC:=.range 24 [25] FD FE
def FF:aC:=.ops [ql 62 10,qm 8 62]
def OH:aC:=.s (.o [qn 20 3 3,ql 21 4,ql 22 9,qm 23 8,qc 24 56 [20,21,22,23]] (.block 2 FC)) FF
def FG:aC:=.s (.o [ql 63 9] (.ops [q 9 (.alloc [zi]),qs 1 9 63])) (.ops [ql 18 9,qb 19 .add 18 (ki 1),qs 1 9 19])
def ze:aC:=.s (.o [qm 15 8,qh 16 15,qb 17 .gtr 16 (ki 0)] (.cond 17 .skip (.exit 0))) (.s (.block 1 (.o [q 10 (.alloc [.aP])] OH)) FG)
def zf:aC:=.o [ql 64 7,qm 6 64] .ret
def SW:aC:=.o [qx 3 3 0,qx 4 1 1,qm 6 (.c .aP)] (.o [q 7 (.alloc [.aP])] (.o [q 13 (.bE 1 1 false [zi] [(0,(1,(ki 0)))] false),qm 8 13] (.s (.o [qm 14 2,q 9 (.alloc [zi]),qs 1 9 14] (.block 0 (.loop ze))) zf)))
def Yv:List RA:=[(.tmp 6)]
theorem k38:au Tryd.prog (dQ [3,4]) 38=some ⟨65,SW,Yv⟩:=by kernel_rfl
noncomputable abbrev ZY (r:Sl Int):Cx:=cD Tryd.prog gE 65 Yv (cg 1 (AV.int .i64) r) [3,4]
noncomputable def Bi (p:af) (s:aZ) (t6_:Sl Int) (now:Sl Int) (t24_:af) (t24_2:Sl Int) (t24_3:Int) (t24_4:aZ) (x:Int) (zz:(Sl Int) × Int × (Sl Int) × Nat):Option (Bool × ((Sl Int) × Int × (Sl Int) × Nat)):=if zz.2.2.2=0 then (ix (ls p.Code) x>>=fun v_1=>(if (v_1.Kind==12)=true then (if ((ls zz.1).length+(ls (some ([zz.2.1]:List Int))).length)*8≤140737488355328 then (some (true,(bW zz.1 (ls (some ([zz.2.1]:List Int))),zz.2.1,zz.2.2.1,0))) else none) else (if (v_1.Kind==1)=true then (if (decide (zz.2.1<((s).length:Int)))=true then (ix s zz.2.1>>=fun b_11=>(KR v_1.Set (b_11.toNat:Int)>>=fun r_13=>(if r_13=true then (if ((ls zz.2.2.1).length+(ls (some ([IntKind.wrap .i64 (x+1)]:List Int))).length)*8≤140737488355328 then (some (true,(zz.1,zz.2.1,bW zz.2.2.1 (ls (some ([IntKind.wrap .i64 (x+1)]:List Int))),0))) else none) else (some (true,(zz.1,zz.2.1,zz.2.2.1,0)))))) else (some (true,(zz.1,zz.2.1,zz.2.2.1,0)))) else (some (true,(zz.1,zz.2.1,zz.2.2.1,0))))))
else none
theorem UO (p:af) (s:aZ) (t6_:Sl Int) (now:Sl Int) (t24_:af) (t24_2:Sl Int) (t24_3:Int) (t24_4:aZ) (x:Int) (zz:(Sl Int) × Int × (Sl Int) × Nat) (r:Bool × ((Sl Int) × Int × (Sl Int) × Nat)) (hF:Bi p s t6_ now t24_ t24_2 t24_3 t24_4 x zz=some r) (K:AV→aA→Prop) (Ls:List bU) (iL:Nat) (ca cb:Code) (tm0:Fr) (io0:Nat) (io1:Nat) (io2:Nat) (q1:bp Tryd.prog 65 (mW (dQ [3,4])) ca=some FD) (q2:bp Tryd.prog 65 (mW (dQ [3,4])) cb=some FE) (hf:dH tm0 [(3,.aQ (cE p)),(4,.aQ (cS s)),(6,cg 1 (AV.int .i64) t6_),(7,.ptr io0 0),(8,cg 1 (AV.int .i64) now),(9,.ptr io1 0),(10,.ptr io2 0),(24,.fn 85 [.aQ (cE t24_),.aQ (fF 1 (AV.int .i64) t24_2),.aQ (cI .i64 t24_3),.aQ (cS t24_4)])]) (hK: ∀st,SH st (sG [pt iL (.loop 65 [25] ca cb tm0 (rF r.2.2.2.2) (qu [] r.2.2.2.2)),cU io0 r.2.1,pt io1 (.cells (cI .i64 r.2.2.1)),cU io2 r.2.2.2.1]::Ls)→K (.bool r.1) st) (st:aA) (hs:SH st (sG [pt iL (.loop 65 [25] ca cb tm0 (rF zz.2.2.2) (qu [] zz.2.2.2)),cU io0 zz.1,pt io1 (.cells (cI .i64 zz.2.1)),cU io2 zz.2.2.1]::Ls)):XYield Tryd.prog gE iL [AV.int .i64 x] st K:=by
 unfold Bi at hF;obtain ⟨c_,hF⟩:=jc hF;replace hs:SH st ([pt iL (.loop 65 [25] ca cb tm0 (rF zz.2.2.2) (qu [] zz.2.2.2)),cU io0 zz.1,pt io1 (.cells (cI .i64 zz.2.1)),cU io2 zz.2.2.1]++Ls):=SH.qX hs;rw [c_] at hs;replace hs:SH st (pt iL (.loop 65 [25] ca cb tm0 .ready none)::cU io0 zz.1::pt io1 (.cells (cI .i64 zz.2.1))::cU io2 zz.2.2.1::Ls):=hs;replace hK:(∀st,SH st (pt iL (.loop 65 [25] ca cb tm0 (rF r.2.2.2.2) (qu [] r.2.2.2.2))::cU io0 r.2.1::pt io1 (.cells (cI .i64 r.2.2.1))::cU io2 r.2.2.2.1::Ls)→K (.bool r.1) st):=fun st hs=>hK st (SH.sG hs);refine WV (mu:=[3,4]) q1 q2 hs z z (fun _ _=>trivial) ?_;rw [Cj hf];refine rn 1 z (We hs fun st hs=>rn 0 z (W.o (aB z) (W.o (dW z (by first | rfl | (rw [aN];rfl))) (bj hF fun v_1 g_2 hF=>rn 1 z (W.o (aM (bJ z) z g_2) (W.o (uD (s:=dx v_1) z z z) (al hs (cs:=dx ({Kind:=0,Set:=(an.rep 4 (0:Int)),To:=0,aH:=0,bP:=0,Slot:=0}:aT)) z fun st b_3 hs=>sr hs 0 z z z (cs':=dx v_1) z z fun st hs=>rn 0 z (W.o (aJ z (hs.g 0 z)) (W.o (l1 z (hs.g 0 z) z) ?_)))))))));refine rn 2 z (ci hF z (fun c_4 hF=>?_) (fun c_4 hF=>?_))
 ·have hs:=(hs.p 5 [2,0,0,0,0] z);obtain ⟨j_5,hs⟩:=SH.fm hs;refine rn 0 z (W.o (l1 z (hs.g 0 z) z) (W.o (l1 z (hs.g 4 z) z) (bs (f:=AV.int .i64) ([zz.2.1]:List Int) hs z z z z fun st b_6 hs=>gj hF fun g_7 hF=>ap (ys:=ls (some ([zz.2.1]:List Int))) hs 2 z z (eR (cO (o:=(some ([zz.2.1]:List Int))) (id:=b_6) z)) g_7 (fun _=>z) fun st b_8 hs=>so hs 1 z z z tH z (cs':=[br 1 (AV.int .i64) (bW zz.1 (ls (some ([zz.2.1]:List Int)))) b_8]) z z fun st hs=>rn 0 z ?_)));have hs:SH st (cU io0 (bW zz.1 (ls (some ([zz.2.1]:List Int))))::_):=SH.eE b_8 (hs.p 7 [1,1,0,0,0,0,0] z);cases hF;exact Lh (hs.p 6 [3,0,2,2] z) (fun st hs=>hK st hs)
 refine rn 0 z ?_;have h0:=hs;refine qq (de z (aJ z (h0.g 0 z)) (de z (l1 z (h0.g 0 z) z) (dn 2 z (bi hF (fun c_9 hF=>?_) (fun c_9 hF=>?_)))))
 ·refine qL 43 z c_9 (gu z z (de z (l1 z (h0.g 3 z) z) (gu z z (de z (dW z z) (dn 4 z (bi hF (fun c_10 hF=>?_) (fun c_10 hF=>?_)))))))
  ·refine qL 49 z c_10 (gu z z (de z (aJ z (h0.g 0 z)) (gu z z (de z (lN (s:=jE v_1.Set) z (h0.g 0 z) z z) (gu z z (de z (dW z z) (gu z z (de z (l1 z (h0.g 3 z) z) (bj hF fun b_11 g_12 hF=>gu z z (de z (Mm z z g_12) (dz (bj hF fun r_13 g_14 hF=>?_))))))))))));refine W.on z z (df (d57 _ _ _ g_14) z (rn 2 z (ci hF z (fun c_15 hF=>?_) (fun c_15 hF=>?_))))
   ·have hs:=(hs.p 5 [4,0,0,0,0] z);obtain ⟨j_16,hs⟩:=SH.fm hs;refine rn 0 z (W.o (l1 z (hs.g 0 z) z) (rn 2 z (bs (f:=AV.int .i64) ([IntKind.wrap .i64 (x+1)]:List Int) hs z z z z fun st b_17 hs=>gj hF fun g_18 hF=>ap (ys:=ls (some ([IntKind.wrap .i64 (x+1)]:List Int))) hs 2 z z (eR (cO (o:=(some ([IntKind.wrap .i64 (x+1)]:List Int))) (id:=b_17) z)) g_18 (fun _=>z) fun st b_19 hs=>so hs 1 z z z tH z (cs':=[br 1 (AV.int .i64) (bW zz.2.2.1 (ls (some ([IntKind.wrap .i64 (x+1)]:List Int)))) b_19]) z z fun st hs=>rn 0 z ?_)));have hs:SH st (cU io2 (bW zz.2.2.1 (ls (some ([IntKind.wrap .i64 (x+1)]:List Int))))::_):=SH.eE b_19 (hs.p 7 [1,1,0,0,0,0,0] z);cases hF;exact Lh (hs.p 6 [3,3,3,0] z) (fun st hs=>hK st hs)
   refine rn 0 z ?_;cases hF;exact Lh (hs.p 5 [1,1,1,1] z) (fun st hs=>hK st hs)
  refine qL 49 z c_10 (dn 5 z (dz (rn 3 z (cf z z (rn 0 z ?_)))));cases hF;exact Lh (hs.p 5 [1,1,1,1] z) (fun st hs=>hK st hs)
 refine qL 43 z c_9 (dn 11 z (dz (rn 3 z (cf z z (rn 0 z ?_)))));cases hF;exact Lh (hs.p 5 [1,1,1,1] z) (fun st hs=>hK st hs)
inductive Pb where
 | p1 (p:af) (s:aZ) (t6_:Sl Int) (now:Sl Int) (out:Sl Int) (place:Int)
 | p2 (p:af) (s:aZ) (t6_:Sl Int) (now:Sl Int) (t24_:af) (t24_2:Sl Int) (t24_3:Int) (t24_4:aZ) (out:Sl Int) (place:Int) (next:Sl Int)
noncomputable def Tm:Pb→Option (Sl Int) | .p1 p s t6_ now out place=>(if (decide (((ls now).length:Int)>0))=true then (Wy p s place now>>=fun r_8=>(Tm (.p2 p s t6_ now r_8.1 r_8.2.1 r_8.2.2.1 r_8.2.2.2 out place (none:Sl Int)))) else (some out)) | .p2 p s t6_ now t24_ t24_2 t24_3 t24_4 out place next=>(XE (Bi p s t6_ now t24_ t24_2 t24_3 t24_4) t24_ t24_2 t24_3 t24_4 (out,place,next,0)>>=fun r_11=>(if r_11.2.2.2=0 then (Tm (.p1 p s t6_ r_11.2.2.1 r_11.1 (IntKind.wrap .i64 (r_11.2.1+1)))) else none)) partial_fixpoint
def YU (x:Pb) (r:Sl Int):Prop:=match x with | .p1 p s t6_ now out place=> ∀(tm:Fr) (st:aA) (io0:Nat) (io1:Nat),dH tm [(3,.aQ (cE p)),(4,.aQ (cS s)),(6,cg 1 (AV.int .i64) t6_),(7,.ptr io0 0),(8,cg 1 (AV.int .i64) now),(9,.ptr io1 0)]→SH st [cU io0 out,pt io1 (.cells (cI .i64 place))]→W (ZY r) [.lp ze,.blk 0,.code zf] tm st | .p2 p s t6_ now t24_ t24_2 t24_3 t24_4 out place next=> ∀(tm:Fr) (st:aA) (io0:Nat) (io1:Nat) (io2:Nat),dH tm [(3,.aQ (cE p)),(4,.aQ (cS s)),(6,cg 1 (AV.int .i64) t6_),(7,.ptr io0 0),(8,cg 1 (AV.int .i64) now),(9,.ptr io1 0),(10,.ptr io2 0),(24,.fn 85 [.aQ (cE t24_),.aQ (fF 1 (AV.int .i64) t24_2),.aQ (cI .i64 t24_3),.aQ (cS t24_4)])]→SH st [cU io0 out,pt io1 (.cells (cI .i64 place)),cU io2 next]→W (ZY r) [.code FC,.blk 2,.code FF,.blk 1,.code FG,.lp ze,.blk 0,.code zf] tm st
theorem w38: ∀(x:Pb) (r:Sl Int),Tm x=some r→YU x r:=by
 refine Tm.partial_correctness (YU) ?_;intro g ih x r hF;cases x with
 | p1 p s t6_ now out place=>
  dsimp only at hF;intro tm st io0 io1 hf hs;refine en hf (lp (rn 1 z (W.o (e_len (bJ z)) (rn 1 z (ci hF z (fun c_5 hF=>?_) (fun c_5 hF=>?_))))))
  ·have hs:=hs.fX Int;refine rn 0 z (al hs (cs:=[br 1 (AV.int .i64) (none:Sl Int) 0]) z fun st b_6 hs=>rn 0 z (W.o (uD (s:=cE p) z z z) (W.o (dW z z) (W.o (l1 z (hs.g 3 z) z) (bj hF fun r_8 g_9 hF=>rn 1 z (df (d56 _ _ _ _ _ g_9) z (rj 0 2 z ?_)))))));have hs:SH st (cU b_6 (none:Sl Int)::_):=SH.eE 0 (hs.p 4 [0,0,0,0] z);exact ih _ _ hF _ _ io0 io1 b_6 uV (hs.p 3 [1,1,0] z)
  obtain ⟨j_10,hs⟩:=SH.fm hs
  refine rn 0 z (W.o (l1 z (hs.g 0 z) z) (rn 1 z ?_));cases hF;exact Zv (ah bG) xL
 | p2 p s t6_ now t24_ t24_2 t24_3 t24_4 out place next=>
  dsimp only at hF;intro tm st io0 io1 io2 hf hs;refine bj hF fun r_11 g_12 hF=>rg (N:=65) (fr:=[]) z hs hf.2.2.2.2.2.2.2.1 (by kernel_rfl) fun ca cb st iL q1 q2 hs=>?_;refine d85 (σ :=(Sl Int) × Int × (Sl Int) × Nat) (H:=fun zz=>sG [pt iL (.loop 65 [25] ca cb tm (rF zz.2.2.2) (qu [] zz.2.2.2)),cU io0 zz.1,pt io1 (.cells (cI .i64 zz.2.1)),cU io2 zz.2.2.1]) (Y:=Bi p s t6_ now t24_ t24_2 t24_3 t24_4) iL (fun x zz r hB K L st hs hK=>UO p s t6_ now t24_ t24_2 t24_3 t24_4 x zz r hB K L iL ca cb tm io0 io1 io2 q1 q2 hf hK st hs) t24_ t24_2 t24_3 t24_4 (out,place,next,0) _ g_12 _ _ (fun st hs=>?_) _ (SH.sG hs);replace hs:SH st ([pt iL (.loop 65 [25] ca cb tm (rF r_11.2.2.2) (qu [] r_11.2.2.2)),cU io0 r_11.1,pt io1 (.cells (cI .i64 r_11.2.1)),cU io2 r_11.2.2.1]++_):=SH.qX hs;refine ni hF (fun c_ hF=>?_) (fun c_ hF=>?_)
  ·rw [c_] at hs;refine Wg hs (by decide) fun st hs=>en hf ?_;have hs:=(hs.p 3 [2,0,0] z);obtain ⟨j_13,hs⟩:=SH.fm hs;refine rn 0 z (W.o (l1 z (hs.g 0 z) z) (rn 1 z (W.o (l1 z (hs.g 3 z) z) (rn 0 z (al hs (cs:=cI .i64 0) z fun st b_14 hs=>sr hs 0 z z z (cs':=cI .i64 r_11.2.1) z z fun st hs=>rn 0 z (W.o (l1 z (hs.g 0 z) z) (rn 1 z (sr hs 0 z z z (cs':=cI .i64 (IntKind.wrap .i64 (r_11.2.1+1))) z z fun st hs=>rn 0 z ?_))))))));have hs:SH st (cU io2 r_11.2.2.1::_):=SH.eE j_13 (hs.p 5 [1,1,0,0,0] z);exact Ru (gm (S:=[8]) ⟨(xL (es:=1) (f:=AV.int .i64) (o:=r_11.2.2.1) (id:=j_13)).1,trivial⟩) (ih _ _ hF _ _ io0 b_14 ⟨z,z,z,z,(xL (es:=1) (f:=AV.int .i64) (o:=r_11.2.2.1) (id:=j_13)).2,z,trivial⟩ (hs.p 4 [2,1] z))
  cases hF
noncomputable def Ws (p:af) (s:aZ) (from_:Int):Option (Sl Int):=(Tm (.p1 p s none (some ([0]:List Int)) (none:Sl Int) from_))
theorem d38 (p:af) (s:aZ) (from_:Int) (r:Sl Int) (hF:Ws p s from_=some r):DFun Tryd.prog gE 38 [nN p,AV.str s,AV.int .i64 from_] (cg 1 (AV.int .i64) r):=by
 unfold Ws at hF;refine bD k38 z ?_;have hs:SH [] []:=SH.nil;generalize ([]:aA)=st at hs ⊢;refine rn 0 z (W.o (aY (cs:=cE p) z z (bg _)) (W.o (aY (cs:=cS s) z z z) ?_));have hs:=hs.fX Int;refine rn 1 z (al hs (cs:=[br 1 (AV.int .i64) (none:Sl Int) 0]) z fun st b_1 hs=>rn 0 z (bs (f:=AV.int .i64) ([0]:List Int) hs z z z z fun st b_3 hs=>rn 2 z (al hs (cs:=cI .i64 0) z fun st b_4 hs=>sr hs 0 z z z (cs':=cI .i64 from_) z z fun st hs=>rn 0 z ?_)));have hs:SH st (cU b_1 (none:Sl Int)::_):=SH.eE 0 (hs.p 4 [2,2,0,0] z);exact Ru (gm (S:=[8]) ⟨(xL (es:=1) (f:=AV.int .i64) (o:=(some ([0]:List Int))) (id:=b_3)).1,trivial⟩) (w38 (.p1 p s none (some ([0]:List Int)) (none:Sl Int) from_) _ hF _ _ b_1 b_4 ⟨z,z,z,z,(xL (es:=1) (f:=AV.int .i64) (o:=(some ([0]:List Int))) (id:=b_3)).2,z,trivial⟩ (hs.p 3 [0,0] z))
def TR:aC:=.o [qx 1 9 0,qm 2 kf] (.o [qa 3 0 1,ql 4 3,qb 5 .eql 4 (ku 9),qm 2 5] .ret)
def R84:List RA:=[(.tmp 2)]
theorem k84:au Tryd.prog (dQ [1]) 84=some ⟨6,TR,R84⟩:=by kernel_rfl
noncomputable def XB (x_:aT):Option Bool:=(some (x_.Kind==9))
theorem d84 (x_:aT) (r:Bool) (hF:XB x_=some r):DFun Tryd.prog gE 84 [v76 x_] (AV.bool r):=by
 unfold XB at hF;refine bD k84 z ?_;have hs:SH [] []:=SH.nil;generalize ([]:aA)=st at hs ⊢;refine rn 0 z (W.o (aY (cs:=dx x_) z z z) (rn 1 z (W.o (aB z) (W.o (dW z z) (rn 2 z ?_)))));cases hF;exact rD (ah bG) z
def On:aC:=.cond 16 (.o [qm 17 5,qm 4 17] .ret) .skip
def ML:aC:=.o [qb 9 .lss 8 7] (.s (.cond 9 .skip (.exit 0)) (.s (.block 1 (.o [qm 10 8,qm 5 10] (.o [qm 11 1,qm 12 0,qm 13 5,qi 14 9 12 13,qn 15 9 14,qf 16 11 [15]] On))) (.ops [qb 18 .add 8 (ki 1),qm 8 18])))
def Gb:aC:=.o [qm 4 (ki (-1))] .ret
def TZ:aC:=.o [qm 4 (ki 0)] (.s (.o [qm 6 0,qh 7 6,qm 8 (ki 0)] (.block 0 (.loop ML))) Gb)
def ZU:List RA:=[(.tmp 4)]
theorem k94:au Tryd.prog (dQ []) 94=some ⟨19,TZ,ZU⟩:=by kernel_rfl
noncomputable abbrev X94 (r:Int):Cx:=cD Tryd.prog gE 19 ZU (AV.int .i64 r)
inductive Pv where
 | p1 (s:Sl aT) (t7_:Int) (t8_:Int)
noncomputable def WN:Pv→Option Int | .p1 s t7_ t8_=>(if (decide (t8_<t7_))=true then (ix (ls s) t8_>>=fun v_2=>(XB v_2>>=fun r_4=>(if r_4=true then (some t8_) else (WN (.p1 s t7_ (IntKind.wrap .i64 (t8_+1))))))) else (some (-1))) partial_fixpoint
def Yk (x:Pv) (r:Int):Prop:=match x with | .p1 s t7_ t8_=> ∀(tm:Fr) (st:aA),dH tm [(0,cg 9 v76 s),(1,.fn 84 []),(7,AV.int .i64 t7_),(8,AV.int .i64 t8_)]→SH st []→W (X94 r) [.lp ML,.blk 0,.code Gb] tm st
theorem w94: ∀(x:Pv) (r:Int),WN x=some r→Yk x r:=by
 refine WN.partial_correctness (Yk) ?_;intro g ih x r hF;cases x with
 | p1 s t7_ t8_=>
  dsimp only at hF;intro tm st hf hs;refine en hf (lp (rn 1 z (ci hF z (fun c_1 hF=>?_) (fun c_1 hF=>?_))))
  ·refine bj hF fun v_2 g_3 hF=>rn 5 z (W.o (aM (bJ z) z g_3) (W.o (uD (s:=dx v_2) z z z) (bj hF fun r_4 g_5 hF=>WX z (by kernel_rfl) (d84 _ _ g_5) z (rn 0 z (ci hF z (fun c_6 hF=>?_) (fun c_6 hF=>?_))))))
   ·refine rn 2 z ?_;cases hF;exact rD (ah bG) z
   exact rn 2 z (ih _ _ hF _ _ iG hs)
  refine rn 1 z ?_;cases hF;exact rD (ah bG) z
noncomputable def XH (s:Sl aT):Option Int:=(WN (.p1 s ((ls s).length:Int) 0))
theorem d94 (s:Sl aT) (r:Int) (hF:XH s=some r):DFun Tryd.prog gE 94 [cg 9 v76 s,.fn 84 []] (AV.int .i64 r):=by
 unfold XH at hF;refine bD k94 z ?_;have hs:SH [] []:=SH.nil;generalize ([]:aA)=st at hs ⊢;exact rn 2 z (W.o (e_len (bJ z)) (rn 1 z (w94 (.p1 s ((ls s).length:Int) 0) _ hF _ _ iG hs)))
end Go.Proofs.YtcidnoghoifmmaaDoor
end
section
set_option maxRecDepth 4000
set_option maxHeartbeats 4000000
namespace Go.Proofs.YtcidnoghoifmmaaDoor
open Go AW
attribute [local irreducible] W WD SH XS XLoop DFun XCall XYield
def TQ:aC:=.o [qm 4 kf] (.o [qm 5 0,qm 6 1,qc 7 94 [5,6],qb 8 .geq 7 (ki 0),qm 4 8] .ret)
def R83:List RA:=[(.tmp 4)]
theorem k83:au Tryd.prog (dQ []) 83=some ⟨9,TQ,R83⟩:=by kernel_rfl
noncomputable def XA (s:Sl aT):Option Bool:=(XH s>>=fun r_1=>(some (decide (r_1≥0))))
theorem d83 (s:Sl aT) (r:Bool) (hF:XA s=some r):DFun Tryd.prog gE 83 [cg 9 v76 s,.fn 84 []] (AV.bool r):=by
 unfold XA at hF;refine bD k83 z ?_;have hs:SH [] []:=SH.nil;generalize ([]:aA)=st at hs ⊢;refine bj hF fun r_1 g_2 hF=>rn 3 z (df (d94 s _ g_2) z (rn 2 z ?_));cases hF;exact rD (ah bG) z
def Sr:aC:=.o [qx 1 3 0,qm 2 kf] (.o [qa 3 2 1,ql 4 3,qc 5 83 [4,(.c (.fn 84 []))],qm 2 5] .ret)
def R55:List RA:=[(.tmp 2)]
theorem k55:au Tryd.prog (dQ [1]) 55=some ⟨6,Sr,R55⟩:=by kernel_rfl
noncomputable def Wx (p:af):Option Bool:=(XA p.Code>>=fun r_1=>(some r_1))
theorem d55 (p:af) (r:Bool) (hF:Wx p=some r):DFun Tryd.prog gE 55 [nN p] (AV.bool r):=by
 unfold Wx at hF;refine bD k55 z ?_;have hs:SH [] []:=SH.nil;generalize ([]:aA)=st at hs ⊢;refine rn 0 z (W.o (aY (cs:=cE p) z z (bg _)) (rn 1 z (W.o (aB z) (W.o (dW z (by first | rfl | (rw [aN];rfl))) (bj hF fun r_1 g_2 hF=>df (d83 _ _ g_2) z (rn 1 z ?_))))));cases hF;exact rD (ah bG) z
def Kb:List bZ:=(qb 35 .gtr 34 (ki 16384)).n 33::qp 36 33 kt 35::[]
def Ka:List bZ:=qa 11 0 1::ql 12 11::qb 13 .lss 12 (ki 0)::qm 14 13::(qa 15 0 1).n 14::(ql 16 15).n 14::(qb 17 .gtr 16 (ki 99)).n 14::qp 18 14 kt 17::qm 19 18::(qa 20 1 1).n 19::(ql 21 20).n 19::(qb 22 .lss 21 (ki 0)).n 19::qp 23 19 kt 22::qm 24 23::(qa 25 1 1).n 24::(ql 26 25).n 24::(qb 27 .gtr 26 (ki 16384)).n 24::qp 28 24 kt 27::qm 29 28::(qm 30 3).n 29::(qb 31 .lss 30 (ki 1)).n 29::qp 32 29 kt 31::qm 33 32::(qm 34 3).n 33::Kb
def Fm:aC:=.o [qa 58 5 5,ql 59 58,qa 60 5 6,qs 1 60 59] (.ops [qa 61 5 5,ql 62 61,qb 63 .geq 62 (ki 0),qm 64 63,(qa 65 5 5).y 64,(ql 66 65).y 64,(qm 67 3).y 64,(qb 68 .lss 66 67).y 64,qp 69 64 68 kf,qm 7 69])
def OV:aC:=.cond 70 .skip (.o [qb 72 .eql 49 (ku 5),qm 70 72] (.cond 70 .skip (.ops [qb 73 .eql 49 (ku 9),qm 70 73])))
def Fo:aC:=.o [qa 74 6 5,ql 75 74,qa 76 6 6,qs 1 76 75] (.ops [qa 77 6 5,ql 78 77,qb 79 .geq 78 (ki 1),qm 80 79,(qa 81 6 5).y 80,(ql 82 81).y 80,(qa 83 0 1).y 80,(ql 84 83).y 80,(qb 85 .leq 82 84).y 80,qp 86 80 85 kf,qm 7 86])
def HB:List bZ:=qm 7 118::[]
def HA:List bZ:=qa 95 6 5::ql 96 95::qb 97 .geq 96 (ki 1)::qm 98 97::(qa 99 6 5).y 98::(ql 100 99).y 98::(qa 101 0 1).y 98::(ql 102 101).y 98::(qb 103 .leq 100 102).y 98::qp 104 98 103 kf::qm 105 104::(qa 106 7 5).y 105::(ql 107 106).y 105::(qa 108 6 5).y 105::(ql 109 108).y 105::(qb 110 .geq 107 109).y 105::qp 111 105 110 kf::qm 112 111::(qa 113 7 5).y 112::(ql 114 113).y 112::(qa 115 0 1).y 112::(ql 116 115).y 112::(qb 117 .leq 114 116).y 112::qp 118 112 117 kf::HB
def Fp:aC:=.o [qa 122 8 5,ql 123 122,qa 124 8 6,qs 1 124 123] (.ops [qa 125 8 5,ql 126 125,qb 127 .geq 126 (ki 0),qm 128 127,(qa 129 8 5).y 128,(ql 130 129).y 128,(qa 131 1 1).y 128,(ql 132 131).y 128,(qb 133 .lss 130 132).y 128,qp 134 128 133 kf,qm 7 134])
def OW:aC:=.o [qb 88 .eql 49 (ku 6),qm 87 88] (.cond 87 (.s (.draw [6] 0 0 [qa 89 6 5,ql 90 89,qa 91 7 5,ql 92 91,qa 93 6 6,qs 1 93 90,qa 94 7 6,qs 1 94 92] []) (.ops HA)) (.s (.o [qb 120 .eql 49 (ku 7),qm 119 120] (.cond 119 .skip (.ops [qb 121 .eql 49 (ku 8),qm 119 121]))) (.cond 119 Fp (.s (.o [qb 136 .eql 49 (ku 10),qm 135 136] (.cond 135 .skip (.o [qb 137 .eql 49 (ku 11),qm 135 137] (.cond 135 .skip (.ops [qb 138 .eql 49 (ku 12),qm 135 138]))))) (.cond 135 .skip (.o [qm 2 kf] .ret))))))
def rW:aC:=.o [qm 139 7,q 140 (.un .not 139),qm 141 140,(qn 142 9 6).n 141,(qn 143 9 5).n 141,(q 144 (.Aj true [.i,.i,.i,.i,.i,.i,.i,.i,.i] 142 143)).n 141,qp 145 141 kt 144,qm 146 145,(qa 147 0 5).n 146,(ql 148 147).n 146,(qb 149 .eql 148 (ku 12)).n 146,(qm 150 4).n 146,(qm 151 3).n 146,(qb 152 .sub 151 (ki 1)).n 146,(qb 153 .eql 150 152).n 146,(q 154 (.xM true 149 153)).n 146,qp 155 146 kt 154] (.cond 155 (.o [qm 2 kf] .ret) .skip)
def OU:aC:=.o [qm 42 40,qi 43 9 38 40,qn 44 9 43,q 5 (.alloc [zb,zu,zu,zu,zu,zi,zi,zi,zi]),qm 4 42,qs 9 5 44] (.o [qa 45 0 5,ql 46 45,q 47 (.build [zb,zu,zu,zu,zu,zi,zi,zi,zi] [(0,(1,46))]),q 6 (.alloc [zb,zu,zu,zu,zu,zi,zi,zi,zi]),qs 9 6 47] (.o [qm 7 kt] (.s (.o [qa 48 0 5,ql 49 48] (.block 2 (.o [qb 51 .eql 49 (ku 1),qm 50 51] (.cond 50 (.ops [qa 52 1 5,qn 53 4 52,qa 54 1 6,qs 4 54 53]) (.s (.o [qb 56 .eql 49 (ku 2),qm 55 56] (.cond 55 .skip (.ops [qb 57 .eql 49 (ku 3),qm 55 57]))) (.cond 55 Fm (.s (.o [qb 71 .eql 49 (ku 4),qm 70 71] OV) (.cond 70 Fo OW)))))))) rW)))
def nX:aC:=.ops [qb 156 .add 40 (ki 1),qm 40 156]
def pF:aC:=.o [qb 41 .lss 40 39] (.s (.cond 41 .skip (.exit 0)) (.s (.block 1 OU) nX))
def mJ:aC:=.o [qm 2 kt] .ret
def Sq:aC:=.o [qx 1 3 0,qm 2 kf] (.o [qa 8 2 1,ql 9 8,qh 10 9,qm 3 10] (.s (.o Ka (.cond 36 (.o [qm 2 kf] .ret) .skip)) (.s (.o [qa 37 2 1,ql 38 37,qh 39 38,qm 40 (ki 0)] (.block 0 (.loop pF))) mJ)))
def ZG:List RA:=[(.tmp 2)]
theorem k54:au Tryd.prog (dQ [1]) 54=some ⟨157,Sq,ZG⟩:=by kernel_rfl
noncomputable abbrev UA (r:Bool):Cx:=cD Tryd.prog gE 157 ZG (AV.bool r) [1]
inductive Pj where
 | p1 (p:af) (n:Int) (t38_:Sl aT) (t39_:Int) (t40_:Int)
 | p2 (p:af) (n:Int) (i:Int) (ok:Bool) (t38_:Sl aT) (t39_:Int) (t40_:Int) (x_:aT) (plain:aT)
 | p3 (p:af) (n:Int) (i:Int) (t38_:Sl aT) (t39_:Int) (t40_:Int) (x_:aT) (plain:aT)
 | p4 (p:af) (n:Int) (i:Int) (t38_:Sl aT) (t39_:Int) (t40_:Int) (x_:aT) (plain:aT)
 | p5 (p:af) (n:Int) (i:Int) (t38_:Sl aT) (t39_:Int) (t40_:Int) (x_:aT) (plain:aT)
noncomputable def qg:Pj→Option Bool | .p1 p n t38_ t39_ t40_=>(if (decide (t40_<t39_))=true then (ix (ls t38_) t40_>>=fun v_8=>(if (v_8.Kind==1)=true then (qg (.p2 p n t40_ true t38_ t39_ t40_ v_8 ({Kind:=v_8.Kind,Set:=v_8.Set,To:=0,aH:=0,bP:=0,Slot:=0}:aT))) else (if (v_8.Kind==2)=true then (qg (.p3 p n t40_ t38_ t39_ t40_ v_8 ({Kind:=v_8.Kind,Set:=(an.rep 4 (0:Int)),To:=0,aH:=0,bP:=0,Slot:=0}:aT))) else (if (v_8.Kind==3)=true then (qg (.p3 p n t40_ t38_ t39_ t40_ v_8 ({Kind:=v_8.Kind,Set:=(an.rep 4 (0:Int)),To:=0,aH:=0,bP:=0,Slot:=0}:aT))) else (if (v_8.Kind==4)=true then (qg (.p4 p n t40_ t38_ t39_ t40_ v_8 ({Kind:=v_8.Kind,Set:=(an.rep 4 (0:Int)),To:=0,aH:=0,bP:=0,Slot:=0}:aT))) else (if (v_8.Kind==5)=true then (qg (.p4 p n t40_ t38_ t39_ t40_ v_8 ({Kind:=v_8.Kind,Set:=(an.rep 4 (0:Int)),To:=0,aH:=0,bP:=0,Slot:=0}:aT))) else (if (v_8.Kind==9)=true then (qg (.p4 p n t40_ t38_ t39_ t40_ v_8 ({Kind:=v_8.Kind,Set:=(an.rep 4 (0:Int)),To:=0,aH:=0,bP:=0,Slot:=0}:aT))) else (if (v_8.Kind==6)=true then (if (decide (v_8.aH≥1))=true then (if (decide (v_8.aH≤p.bH))=true then (if (decide (v_8.bP≥v_8.aH))=true then (qg (.p2 p n t40_ (decide (v_8.bP≤p.bH)) t38_ t39_ t40_ v_8 ({Kind:=v_8.Kind,Set:=(an.rep 4 (0:Int)),To:=0,aH:=v_8.aH,bP:=v_8.bP,Slot:=0}:aT))) else (qg (.p2 p n t40_ false t38_ t39_ t40_ v_8 ({Kind:=v_8.Kind,Set:=(an.rep 4 (0:Int)),To:=0,aH:=v_8.aH,bP:=v_8.bP,Slot:=0}:aT)))) else (qg (.p2 p n t40_ false t38_ t39_ t40_ v_8 ({Kind:=v_8.Kind,Set:=(an.rep 4 (0:Int)),To:=0,aH:=v_8.aH,bP:=v_8.bP,Slot:=0}:aT)))) else (qg (.p2 p n t40_ false t38_ t39_ t40_ v_8 ({Kind:=v_8.Kind,Set:=(an.rep 4 (0:Int)),To:=0,aH:=v_8.aH,bP:=v_8.bP,Slot:=0}:aT)))) else (if (v_8.Kind==7)=true then (qg (.p5 p n t40_ t38_ t39_ t40_ v_8 ({Kind:=v_8.Kind,Set:=(an.rep 4 (0:Int)),To:=0,aH:=0,bP:=0,Slot:=0}:aT))) else (if (v_8.Kind==8)=true then (qg (.p5 p n t40_ t38_ t39_ t40_ v_8 ({Kind:=v_8.Kind,Set:=(an.rep 4 (0:Int)),To:=0,aH:=0,bP:=0,Slot:=0}:aT))) else (if (v_8.Kind==10)=true then (qg (.p2 p n t40_ true t38_ t39_ t40_ v_8 ({Kind:=v_8.Kind,Set:=(an.rep 4 (0:Int)),To:=0,aH:=0,bP:=0,Slot:=0}:aT))) else (if (v_8.Kind==11)=true then (qg (.p2 p n t40_ true t38_ t39_ t40_ v_8 ({Kind:=v_8.Kind,Set:=(an.rep 4 (0:Int)),To:=0,aH:=0,bP:=0,Slot:=0}:aT))) else (if (v_8.Kind==12)=true then (qg (.p2 p n t40_ true t38_ t39_ t40_ v_8 ({Kind:=v_8.Kind,Set:=(an.rep 4 (0:Int)),To:=0,aH:=0,bP:=0,Slot:=0}:aT))) else (some false)))))))))))))) else (some true)) | .p2 p n i ok t38_ t39_ t40_ x_ plain=>(if (!ok)=true then (some false) else (if (!decide (plain=x_))=true then (some false) else (if (!((x_.Kind==12)==(i==(IntKind.wrap .i64 (n-1)))))=true then (some false) else (qg (.p1 p n t38_ t39_ (IntKind.wrap .i64 (t40_+1))))))) | .p3 p n i t38_ t39_ t40_ x_ plain=>(if (decide (x_.To≥0))=true then (qg (.p2 p n i (decide (x_.To<n)) t38_ t39_ t40_ x_ ({plain with To:=x_.To}:aT))) else (qg (.p2 p n i false t38_ t39_ t40_ x_ ({plain with To:=x_.To}:aT)))) | .p4 p n i t38_ t39_ t40_ x_ plain=>(if (decide (x_.aH≥1))=true then (qg (.p2 p n i (decide (x_.aH≤p.bH)) t38_ t39_ t40_ x_ ({plain with aH:=x_.aH}:aT))) else (qg (.p2 p n i false t38_ t39_ t40_ x_ ({plain with aH:=x_.aH}:aT)))) | .p5 p n i t38_ t39_ t40_ x_ plain=>(if (decide (x_.Slot≥0))=true then (qg (.p2 p n i (decide (x_.Slot<p.bX)) t38_ t39_ t40_ x_ ({plain with Slot:=x_.Slot}:aT))) else (qg (.p2 p n i false t38_ t39_ t40_ x_ ({plain with Slot:=x_.Slot}:aT)))) partial_fixpoint
def Yd (x:Pj) (r:Bool):Prop:=match x with | .p1 p n t38_ t39_ t40_=> ∀(tm:Fr) (st:aA),dH tm [(1,.aQ (cE p)),(3,AV.int .i64 n),(38,cg 9 v76 t38_),(39,AV.int .i64 t39_),(40,AV.int .i64 t40_)]→SH st []→W (UA r) [.lp pF,.blk 0,.code mJ] tm st | .p2 p n i ok t38_ t39_ t40_ x_ plain=> ∀(tm:Fr) (st:aA) (io0:Nat) (io1:Nat),dH tm [(1,.aQ (cE p)),(3,AV.int .i64 n),(4,AV.int .i64 i),(5,.ptr io0 0),(6,.ptr io1 0),(7,AV.bool ok),(38,cg 9 v76 t38_),(39,AV.int .i64 t39_),(40,AV.int .i64 t40_)]→SH st [pt io0 (.cells (dx x_)),pt io1 (.cells (dx plain))]→W (UA r) [.code rW,.blk 1,.code nX,.lp pF,.blk 0,.code mJ] tm st | .p3 p n i t38_ t39_ t40_ x_ plain=> ∀(tm:Fr) (st:aA) (io0:Nat) (io1:Nat),dH tm [(1,.aQ (cE p)),(3,AV.int .i64 n),(4,AV.int .i64 i),(5,.ptr io0 0),(6,.ptr io1 0),(38,cg 9 v76 t38_),(39,AV.int .i64 t39_),(40,AV.int .i64 t40_)]→SH st [pt io0 (.cells (dx x_)),pt io1 (.cells (dx plain))]→W (UA r) [.code Fm,.blk 2,.code rW,.blk 1,.code nX,.lp pF,.blk 0,.code mJ] tm st | .p4 p n i t38_ t39_ t40_ x_ plain=> ∀(tm:Fr) (st:aA) (io0:Nat) (io1:Nat),dH tm [(1,.aQ (cE p)),(3,AV.int .i64 n),(4,AV.int .i64 i),(5,.ptr io0 0),(6,.ptr io1 0),(38,cg 9 v76 t38_),(39,AV.int .i64 t39_),(40,AV.int .i64 t40_)]→SH st [pt io0 (.cells (dx x_)),pt io1 (.cells (dx plain))]→W (UA r) [.code Fo,.blk 2,.code rW,.blk 1,.code nX,.lp pF,.blk 0,.code mJ] tm st | .p5 p n i t38_ t39_ t40_ x_ plain=> ∀(tm:Fr) (st:aA) (io0:Nat) (io1:Nat),dH tm [(1,.aQ (cE p)),(3,AV.int .i64 n),(4,AV.int .i64 i),(5,.ptr io0 0),(6,.ptr io1 0),(38,cg 9 v76 t38_),(39,AV.int .i64 t39_),(40,AV.int .i64 t40_)]→SH st [pt io0 (.cells (dx x_)),pt io1 (.cells (dx plain))]→W (UA r) [.code Fp,.blk 2,.code rW,.blk 1,.code nX,.lp pF,.blk 0,.code mJ] tm st
theorem w54: ∀(x:Pj) (r:Bool),qg x=some r→Yd x r:=by
 refine qg.partial_correctness (Yd) ?_;intro g ih x r hF;cases x with
 | p1 p n t38_ t39_ t40_=>
  dsimp only at hF;intro tm st hf hs;refine en hf (lp (rn 1 z (ci hF z (fun c_7 hF=>?_) (fun c_7 hF=>?_))))
  ·refine bj hF fun v_8 g_9 hF=>rn 1 z (W.o (aM (bJ z) z g_9) (W.o (uD (s:=dx v_8) z z z) (al hs (cs:=dx ({Kind:=0,Set:=(an.rep 4 (0:Int)),To:=0,aH:=0,bP:=0,Slot:=0}:aT)) z fun st b_10 hs=>rn 1 z (sr hs 0 z z z (cs':=dx v_8) z z fun st hs=>rn 0 z (W.o (aJ z (hs.g 0 z)) (W.o (l1 z (hs.g 0 z) z) (W.o (bR (cs:=dx ({Kind:=v_8.Kind,Set:=(an.rep 4 (0:Int)),To:=0,aH:=0,bP:=0,Slot:=0}:aT)) z z) (al hs (cs:=dx ({Kind:=0,Set:=(an.rep 4 (0:Int)),To:=0,aH:=0,bP:=0,Slot:=0}:aT)) z fun st b_11 hs=>sr hs 0 z z z (cs':=dx ({Kind:=v_8.Kind,Set:=(an.rep 4 (0:Int)),To:=0,aH:=0,bP:=0,Slot:=0}:aT)) z z fun st hs=>rn 1 z ?_))))))));refine W.o (aJ z (hs.g 1 z)) (W.o (l1 z (hs.g 1 z) z) (rn 2 z (ci hF z (fun c_12 hF=>?_) (fun c_12 hF=>?_))))
   ·exact rn 0 z (W.o (aJ z (hs.g 1 z)) (W.o (lN (s:=jE v_8.Set) z (hs.g 1 z) z z) (W.o (aJ z (hs.g 0 z)) (sr hs 0 z z z (cs':=dx ({Kind:=v_8.Kind,Set:=v_8.Set,To:=0,aH:=0,bP:=0,Slot:=0}:aT)) z z fun st hs=>rj 0 2 z (ih _ _ hF _ _ b_10 b_11 qZ (hs.p 2 [1,0] z))))))
   refine rn 2 z (ci hF z (fun c_13 hF=>?_) (fun c_13 hF=>?_))
   ·exact rn 0 z (ct z c_13 (ih _ _ hF _ _ b_10 b_11 uV (hs.p 2 [1,0] z)))
   refine rn 2 z (ci hF z (fun c_14 hF=>?_) (fun c_14 hF=>?_))
   ·exact ih _ _ hF _ _ b_10 b_11 uV (hs.p 2 [1,0] z)
   refine rn 2 z (ci hF z (fun c_15 hF=>?_) (fun c_15 hF=>?_))
   ·exact rn 0 z (ct z c_15 (ih _ _ hF _ _ b_10 b_11 uV (hs.p 2 [1,0] z)))
   refine rn 2 z (ci hF z (fun c_16 hF=>?_) (fun c_16 hF=>?_))
   ·exact rn 0 z (ct z c_16 (ih _ _ hF _ _ b_10 b_11 uV (hs.p 2 [1,0] z)))
   refine rn 2 z (ci hF z (fun c_17 hF=>?_) (fun c_17 hF=>?_))
   ·exact ih _ _ hF _ _ b_10 b_11 uV (hs.p 2 [1,0] z)
   refine rn 2 z (ci hF z (fun c_18 hF=>?_) (fun c_18 hF=>?_))
   ·refine rn 0 z (dr1 hs 0 z z z fun s_19 st h0 hs=>de z (aJ z (h0.g 1 z)) (de z (l1 z (h0.g 1 z) z) (de z (aJ z (h0.g 1 z)) (de z (l1 z (h0.g 1 z) z) (de z (yE z (h0.g 0 z)) (Ui h0 0 hs 0 z z z z (cs':=dx ({Kind:=v_8.Kind,Set:=(an.rep 4 (0:Int)),To:=0,aH:=v_8.aH,bP:=0,Slot:=0}:aT)) z z fun st hs=>de z (yE z (h0.g 0 z)) (Ui h0 0 hs 0 z z z z (cs':=dx ({Kind:=v_8.Kind,Set:=(an.rep 4 (0:Int)),To:=0,aH:=v_8.aH,bP:=v_8.bP,Slot:=0}:aT)) z z fun st hs=>dz (rn 0 z (W.o (aJ z (hs.g 1 z)) (W.o (l1 z (hs.g 1 z) z) ?_))))))))));refine rn 2 z (bi hF (fun c_20 hF=>?_) (fun c_20 hF=>?_))
    ·refine bL 98 z c_20 (W.on z z (W.o (aJ z (hs.g 1 z)) (W.on z z (W.o (l1 z (hs.g 1 z) z) (W.on z z (W.o (aB z) (W.on z z (W.o (dW z z) (rn 3 z (bi hF (fun c_21 hF=>?_) (fun c_21 hF=>?_)))))))))))
     ·refine bL 105 z c_21 (W.on z z (W.o (aJ z (hs.g 1 z)) (W.on z z (W.o (l1 z (hs.g 1 z) z) (W.on z z (W.o (aJ z (hs.g 1 z)) (W.on z z (W.o (l1 z (hs.g 1 z) z) (rn 3 z (bi hF (fun c_22 hF=>?_) (fun c_22 hF=>?_)))))))))))
      ·exact bL 112 z c_22 (W.on z z (W.o (aJ z (hs.g 1 z)) (W.on z z (W.o (l1 z (hs.g 1 z) z) (W.on z z (W.o (aB z) (W.on z z (W.o (dW z z) (rj 3 2 z (ih _ _ hF _ _ b_10 b_11 qZ (hs.p 2 [1,0] z)))))))))))
      exact bL 112 z c_22 (rj 7 2 z (ih _ _ hF _ _ b_10 b_11 qZ (hs.p 2 [1,0] z)))
     exact bL 105 z c_21 (rj 14 2 z (ih _ _ hF _ _ b_10 b_11 qZ (hs.p 2 [1,0] z)))
    exact bL 98 z c_20 (rj 21 2 z (ih _ _ hF _ _ b_10 b_11 qZ (hs.p 2 [1,0] z)))
   refine rn 2 z (ci hF z (fun c_23 hF=>?_) (fun c_23 hF=>?_))
   ·exact rn 0 z (ct z c_23 (ih _ _ hF _ _ b_10 b_11 uV (hs.p 2 [1,0] z)))
   refine rn 2 z (ci hF z (fun c_24 hF=>?_) (fun c_24 hF=>?_))
   ·exact ih _ _ hF _ _ b_10 b_11 uV (hs.p 2 [1,0] z)
   refine rn 2 z (ci hF z (fun c_25 hF=>?_) (fun c_25 hF=>?_))
   ·exact rn 0 z (ct z c_25 (rj 0 2 z (ih _ _ hF _ _ b_10 b_11 qZ (hs.p 2 [1,0] z))))
   refine rn 2 z (ci hF z (fun c_26 hF=>?_) (fun c_26 hF=>?_))
   ·exact rn 0 z (ct z c_26 (rj 0 2 z (ih _ _ hF _ _ b_10 b_11 qZ (hs.p 2 [1,0] z))))
   refine rn 2 z (ci hF z (fun c_27 hF=>?_) (fun c_27 hF=>?_))
   ·exact rj 0 2 z (ih _ _ hF _ _ b_10 b_11 qZ (hs.p 2 [1,0] z))
   refine rn 1 z ?_;cases hF;exact rD (ah bG) z
  refine rn 1 z ?_;cases hF;exact rD (ah bG) z
 | p2 p n i ok t38_ t39_ t40_ x_ plain=>
  dsimp only at hF;intro tm st io0 io1 hf hs;refine en hf (rn 3 z (bi hF (fun c_28 hF=>?_) (fun c_28 hF=>?_)))
  ·refine bL 141 z c_28 (rn 14 z (ct z z (rn 1 z ?_)));cases hF;exact rD (ah bG) z
  refine bL 141 z c_28 (W.on z z (W.o (lN (s:=dx plain) z (hs.g 1 z) z z) (W.on z z (W.o (lN (s:=dx x_) z (hs.g 0 z) z z) (W.on z z (W.o (Uo z z (QX plain x_)) (rn 2 z (bi hF (fun c_29 hF=>?_) (fun c_29 hF=>?_)))))))))
  ·refine bL 146 z c_29 (rn 9 z (ct z z (rn 1 z ?_)));cases hF;exact rD (ah bG) z
  refine bL 146 z c_29 (W.on z z (W.o (aJ z (hs.g 0 z)) (W.on z z (W.o (l1 z (hs.g 0 z) z) (rn 7 z (ci hF z (fun c_30 hF=>?_) (fun c_30 hF=>?_)))))))
  ·refine rn 1 z ?_;cases hF;exact rD (ah bG) z
  exact rn 2 z (ih _ _ hF _ _ kj (hs.p 2 [] z))
 | p3 p n i t38_ t39_ t40_ x_ plain=>
  dsimp only at hF;intro tm st io0 io1 hf hs;refine en hf (rn 0 z (W.o (aJ z (hs.g 0 z)) (W.o (l1 z (hs.g 0 z) z) (W.o (aJ z (hs.g 1 z)) (sr hs 1 z z z (cs':=dx ({plain with To:=x_.To}:aT)) z z fun st hs=>rn 0 z (W.o (aJ z (hs.g 0 z)) (W.o (l1 z (hs.g 0 z) z) (rn 2 z (bi hF (fun c_31 hF=>?_) (fun c_31 hF=>?_))))))))))
  ·exact bL 64 z c_31 (W.on z z (W.o (aJ z (hs.g 0 z)) (W.on z z (W.o (l1 z (hs.g 0 z) z) (rj 4 2 z (ih _ _ hF _ _ io0 io1 qZ hs))))))
  exact bL 64 z c_31 (rj 6 2 z (ih _ _ hF _ _ io0 io1 qZ hs))
 | p4 p n i t38_ t39_ t40_ x_ plain=>
  dsimp only at hF;intro tm st io0 io1 hf hs;refine en hf (rn 0 z (W.o (aJ z (hs.g 0 z)) (W.o (l1 z (hs.g 0 z) z) (W.o (aJ z (hs.g 1 z)) (sr hs 1 z z z (cs':=dx ({plain with aH:=x_.aH}:aT)) z z fun st hs=>rn 0 z (W.o (aJ z (hs.g 0 z)) (W.o (l1 z (hs.g 0 z) z) (rn 2 z (bi hF (fun c_32 hF=>?_) (fun c_32 hF=>?_))))))))))
  ·exact bL 80 z c_32 (W.on z z (W.o (aJ z (hs.g 0 z)) (W.on z z (W.o (l1 z (hs.g 0 z) z) (W.on z z (W.o (aB z) (W.on z z (W.o (dW z z) (rj 3 2 z (ih _ _ hF _ _ io0 io1 qZ hs))))))))))
  exact bL 80 z c_32 (rj 7 2 z (ih _ _ hF _ _ io0 io1 qZ hs))
 | p5 p n i t38_ t39_ t40_ x_ plain=>
  dsimp only at hF;intro tm st io0 io1 hf hs;refine en hf (rn 0 z (W.o (aJ z (hs.g 0 z)) (W.o (l1 z (hs.g 0 z) z) (W.o (aJ z (hs.g 1 z)) (sr hs 1 z z z (cs':=dx ({plain with Slot:=x_.Slot}:aT)) z z fun st hs=>rn 0 z (W.o (aJ z (hs.g 0 z)) (W.o (l1 z (hs.g 0 z) z) (rn 2 z (bi hF (fun c_33 hF=>?_) (fun c_33 hF=>?_))))))))))
  ·exact bL 128 z c_33 (W.on z z (W.o (aJ z (hs.g 0 z)) (W.on z z (W.o (l1 z (hs.g 0 z) z) (W.on z z (W.o (aB z) (W.on z z (W.o (dW z z) (rj 3 2 z (ih _ _ hF _ _ io0 io1 qZ hs))))))))))
  exact bL 128 z c_33 (rj 7 2 z (ih _ _ hF _ _ io0 io1 qZ hs))
noncomputable def Ww (p:af):Option Bool:=(if (decide (p.bH<0))=true then (some false) else (if (decide (p.bH>99))=true then (some false) else (if (decide (p.bX<0))=true then (some false) else (if (decide (p.bX>16384))=true then (some false) else (if (decide (((ls p.Code).length:Int)<1))=true then (some false) else (if (decide (((ls p.Code).length:Int)>16384))=true then (some false) else (qg (.p1 p ((ls p.Code).length:Int) p.Code ((ls p.Code).length:Int) 0))))))))
theorem d54 (p:af) (r:Bool) (hF:Ww p=some r):DFun Tryd.prog gE 54 [nN p] (AV.bool r):=by
 unfold Ww at hF;refine bD k54 z ?_;have hs:SH [] []:=SH.nil;generalize ([]:aA)=st at hs ⊢;refine rn 0 z (W.o (aY (cs:=cE p) z z (bg _)) (rn 1 z (W.o (aB z) (W.o (dW z (by first | rfl | (rw [aN];rfl))) (W.o (e_len (bJ z)) (rn 1 z (W.o (aB z) (W.o (dW z z) (rn 2 z (bi hF (fun c_1 hF=>?_) (fun c_1 hF=>?_)))))))))))
 ·refine bL 14 z c_1 (rn 22 z (ct z z (rn 1 z ?_)));cases hF;exact rD (ah bG) z
 refine bL 14 z c_1 (W.on z z (W.o (aB z) (W.on z z (W.o (dW z z) (rn 3 z (bi hF (fun c_2 hF=>?_) (fun c_2 hF=>?_)))))))
 ·refine bL 19 z c_2 (rn 17 z (ct z z (rn 1 z ?_)));cases hF;exact rD (ah bG) z
 refine bL 19 z c_2 (W.on z z (W.o (aB z) (W.on z z (W.o (dW z z) (rn 3 z (bi hF (fun c_3 hF=>?_) (fun c_3 hF=>?_)))))))
 ·refine bL 24 z c_3 (rn 12 z (ct z z (rn 1 z ?_)));cases hF;exact rD (ah bG) z
 refine bL 24 z c_3 (W.on z z (W.o (aB z) (W.on z z (W.o (dW z z) (rn 3 z (bi hF (fun c_4 hF=>?_) (fun c_4 hF=>?_)))))))
 ·refine bL 29 z c_4 (rn 7 z (ct z z (rn 1 z ?_)));cases hF;exact rD (ah bG) z
 refine bL 29 z c_4 (rn 4 z (bi hF (fun c_5 hF=>?_) (fun c_5 hF=>?_)))
 ·refine bL 33 z c_5 (rn 3 z (ct z z (rn 1 z ?_)));cases hF;exact rD (ah bG) z
 refine bL 33 z c_5 (rn 3 z (ci hF z (fun c_6 hF=>?_) (fun c_6 hF=>?_)))
 ·refine rn 1 z ?_;cases hF;exact rD (ah bG) z
 exact rn 0 z (W.o (aB z) (W.o (dW z (by first | rfl | (rw [aN];rfl))) (W.o (e_len (bJ z)) (rn 1 z (w54 (.p1 p ((ls p.Code).length:Int) p.Code ((ls p.Code).length:Int) 0) _ hF _ _ kj hs)))))
def SV:aC:=.o [qx 1 3 0,qm 2 (ki 0)] (.s (.o [qn 3 3 1,qc 4 54 [3],q 5 (.un .not 4)] (.cond 5 (.o [qm 2 (ki 100)] .ret) .skip)) (.s (.o [qn 6 3 1,qc 7 55 [6]] (.cond 7 (.o [qm 2 (ki 101)] .ret) .skip)) (.o [qm 2 (ki 0)] .ret)))
def R37:List RA:=[(.tmp 2)]
theorem k37:au Tryd.prog (dQ [1]) 37=some ⟨8,SV,R37⟩:=by kernel_rfl
noncomputable def Wr (p:af):Option Int:=(Ww p>>=fun r_1=>(if (!r_1)=true then (some 100) else (Wx p>>=fun r_4=>(if r_4=true then (some 101) else (some 0)))))
theorem d37 (p:af) (r:Int) (hF:Wr p=some r):DFun Tryd.prog gE 37 [nN p] (AV.int .i64 r):=by
 unfold Wr at hF;refine bD k37 z ?_;have hs:SH [] []:=SH.nil;generalize ([]:aA)=st at hs ⊢;refine rn 0 z (W.o (aY (cs:=cE p) z z (bg _)) (rn 1 z (W.o (uD (s:=cE p) z z z) (bj hF fun r_1 g_2 hF=>df (d54 p _ g_2) z (rn 1 z (ci hF z (fun c_3 hF=>?_) (fun c_3 hF=>?_)))))))
 ·refine rn 1 z ?_;cases hF;exact rD (ah bG) z
 refine rn 0 z (W.o (uD (s:=cE p) z z z) (bj hF fun r_4 g_5 hF=>df (d55 p _ g_5) z (rn 0 z (ci hF z (fun c_6 hF=>?_) (fun c_6 hF=>?_)))))
 ·refine rn 1 z ?_;cases hF;exact rD (ah bG) z
 refine rn 1 z ?_;cases hF;exact rD (ah bG) z
def Nw:aC:=.o [qi 41 1 37 39,ql 42 41,qm 10 42] (.o [qm 43 10,qa 44 1 5,ql 45 44,qb 46 .eql 43 45] (.cond 46 (.o [qm 6 kt,qm 7 (ki 0)] .ret) .skip))
def Eb:aC:=.o [qb 40 .lss 39 38] (.s (.cond 40 .skip (.exit 0)) (.s (.block 1 Nw) (.ops [qb 47 .add 39 (ki 1),qm 39 47])))
def Ec:aC:=.o [qm 6 kf,qm 7 (ki 0)] .ret
def SC:aC:=.o [qx 3 3 0,qx 5 2 2,qm 6 kf,qm 7 (ki 0)] (.s (.o [qn 11 3 3,qc 12 37 [11],qm 8 12] (.o [qm 13 8,qb 14 .neq 13 (ki 0)] (.cond 14 (.o [qm 15 8,qm 6 kf,qm 7 15] .ret) .skip))) (.s (.o [qa 16 0 5,ql 17 16,qb 18 .lss 17 (ki 0),qm 19 18,(qa 20 1 5).n 19,(ql 21 20).n 19,(qa 22 0 5).n 19,(ql 23 22).n 19,(qb 24 .lss 21 23).n 19,qp 25 19 kt 24,qm 26 25,(qa 27 1 5).n 26,(ql 28 27).n 26,(qm 29 1).n 26,(q 30 (.qt 29)).n 26,(qb 31 .gtr 28 30).n 26,qp 32 26 kt 31] (.cond 32 (.o [qm 6 kf,qm 7 (ki 2)] .ret) .skip)) (.s (.o [qn 33 3 3,qm 34 1,qa 35 0 5,ql 36 35,qc 37 38 [33,34,36],qh 38 37,qm 39 (ki 0)] (.block 0 (.loop Eb))) Ec)))
def Yo:List RA:=[(.tmp 6),(.tmp 7)]
theorem k20:au Tryd.prog (dQ [3,5]) 20=some ⟨48,SC,Yo⟩:=by kernel_rfl
noncomputable abbrev X20 (r:Bool × Int):Cx:=cD Tryd.prog gE 48 Yo (AV.bt [AV.bool r.1,AV.int .i64 r.2]) [3,5]
inductive PV where
 | p1 (at_:Py) (t37_:Sl Int) (t38_:Int) (t39_:Int)
noncomputable def WL:PV→Option (Bool × Int) | .p1 at_ t37_ t38_ t39_=>(if (decide (t39_<t38_))=true then (ix (ls t37_) t39_>>=fun v_10=>(if (v_10==at_.To)=true then (some (true,0)) else (WL (.p1 at_ t37_ t38_ (IntKind.wrap .i64 (t39_+1)))))) else (some (false,0))) partial_fixpoint
def YO (x:PV) (r:Bool × Int):Prop:=match x with | .p1 at_ t37_ t38_ t39_=> ∀(tm:Fr) (st:aA),dH tm [(5,.aQ (Rn at_)),(37,cg 1 (AV.int .i64) t37_),(38,AV.int .i64 t38_),(39,AV.int .i64 t39_)]→SH st []→W (X20 r) [.lp Eb,.blk 0,.code Ec] tm st
theorem w20: ∀(x:PV) (r:Bool × Int),WL x=some r→YO x r:=by
 refine WL.partial_correctness (YO) ?_;intro g ih x r hF;cases x with
 | p1 at_ t37_ t38_ t39_=>
  dsimp only at hF;intro tm st hf hs;refine en hf (lp (rn 1 z (ci hF z (fun c_9 hF=>?_) (fun c_9 hF=>?_))))
  ·refine bj hF fun v_10 g_11 hF=>rn 0 z (W.o (aM (bJ z) z g_11) (W.o (dW z z) (rn 2 z (W.o (aB z) (W.o (dW z z) (rn 1 z (ci hF z (fun c_12 hF=>?_) (fun c_12 hF=>?_))))))))
   ·refine rn 2 z ?_;cases hF;exact rD (ah (ah bG)) z
   exact rn 2 z (ih _ _ hF _ _ iG hs)
  refine rn 2 z ?_;cases hF;exact rD (ah (ah bG)) z
noncomputable def YL (p:af) (s:aZ) (at_:Py):Option (Bool × Int):=(Wr p>>=fun r_1=>(if (r_1 != 0)=true then (some (false,r_1)) else (if (decide (at_.KU<0))=true then (some (false,2)) else (if (decide (at_.To<at_.KU))=true then (some (false,2)) else (if (decide (at_.To>((s).length:Int)))=true then (some (false,2)) else (Ws p s at_.KU>>=fun r_7=>(WL (.p1 at_ r_7 ((ls r_7).length:Int) 0))))))))
theorem d20 (p:af) (s:aZ) (at_:Py) (r:Bool × Int) (hF:YL p s at_=some r):DFun Tryd.prog gE 20 [nN p,AV.str s,Wi at_] (AV.bt [AV.bool r.1,AV.int .i64 r.2]):=by
 unfold YL at hF;refine bD k20 z ?_;have hs:SH [] []:=SH.nil;generalize ([]:aA)=st at hs ⊢;refine rn 0 z (W.o (aY (cs:=cE p) z z (bg _)) (W.o (aY (cs:=Rn at_) z z z) (rn 2 z (W.o (uD (s:=cE p) z z z) (bj hF fun r_1 g_2 hF=>df (d37 p _ g_2) z (rn 3 z (ci hF z (fun c_3 hF=>?_) (fun c_3 hF=>?_))))))))
 ·refine rn 3 z ?_;cases hF;exact rD (ah (ah bG)) z
 refine rn 0 z (W.o (aB z) (W.o (dW z z) (rn 2 z (bi hF (fun c_4 hF=>?_) (fun c_4 hF=>?_)))))
 ·refine bL 19 z c_4 (rn 13 z (ct z z (rn 2 z ?_)));cases hF;exact rD (ah (ah bG)) z
 refine bL 19 z c_4 (W.on z z (W.o (aB z) (W.on z z (W.o (dW z z) (W.on z z (W.o (aB z) (W.on z z (W.o (dW z z) (rn 3 z (bi hF (fun c_5 hF=>?_) (fun c_5 hF=>?_)))))))))))
 ·refine bL 26 z c_5 (rn 6 z (ct z z (rn 2 z ?_)));cases hF;exact rD (ah (ah bG)) z
 refine bL 26 z c_5 (W.on z z (W.o (aB z) (W.on z z (W.o (dW z z) (rn 4 z (ci hF z (fun c_6 hF=>?_) (fun c_6 hF=>?_)))))))
 ·refine rn 2 z ?_;cases hF;exact rD (ah (ah bG)) z
 exact rn 0 z (W.o (uD (s:=cE p) z z z) (rn 1 z (W.o (aB z) (W.o (dW z z) (bj hF fun r_7 g_8 hF=>df (d38 _ _ _ _ g_8) z (W.o (e_len (bJ z)) (rn 1 z (w20 (.p1 at_ r_7 ((ls r_7).length:Int) 0) _ hF _ _ iG hs))))))))
def Lz:aC:=.ops [qm 3 5]
def MA:aC:=.block 1 (.o [qm 6 3,qk 7 6,qa 8 0 7,ql 9 8,qb 10 .eql 9 (ku 7)] (.cond 10 (.o [qs 1 2 kt] .ret) .skip))
def Ly:aC:=.range 4 [5] Lz MA
def Fa:aC:=.o [qs 1 2 kf] .ret
def Sg:aC:=.o [qx 1 9 0,q 2 (.alloc [(.bool false)])] (.s (.o [qc 4 53 [1]] (.block 0 Ly)) Fa)
def ZC:List RA:=[(.xq 2)]
theorem k48:au Tryd.prog (dQ [1]) 48=some ⟨11,Sg,ZC⟩:=by kernel_rfl
noncomputable abbrev X48 (r:Bool):Cx:=cD Tryd.prog gE 11 ZC (AV.bool r) [1]
noncomputable def jX (t4_:aK) (x:aK) (zz:Bool × Nat):Option (Bool × (Bool × Nat)):=if zz.2=0 then (if (x.Kind==7)=true then (some (false,(true,1))) else (some (true,(zz.1,0))))
else none
theorem UP (t4_:aK) (x:aK) (zz:Bool × Nat) (r:Bool × (Bool × Nat)) (hF:jX t4_ x zz=some r) (K:AV→aA→Prop) (Ls:List bU) (iL:Nat) (ca cb:Code) (tm0:Fr) (io0:Nat) (q1:bp Tryd.prog 11 (mW (dQ [1])) ca=some Lz) (q2:bp Tryd.prog 11 (mW (dQ [1])) cb=some MA) (hf:dH tm0 [(2,.ptr io0 0),(4,.fn 81 [.aQ [.aQ (bn t4_)]])]) (hK: ∀st,SH st (sG [pt iL (.loop 11 [5] ca cb tm0 (rF r.2.2) (qu [.ret] r.2.2)),pt io0 (.cells (cB r.2.1))]::Ls)→K (.bool r.1) st) (st:aA) (hs:SH st (sG [pt iL (.loop 11 [5] ca cb tm0 (rF zz.2) (qu [.ret] zz.2)),pt io0 (.cells (cB zz.1))]::Ls)):XYield Tryd.prog gE iL [.aQ (bn x)] st K:=by
 unfold jX at hF;obtain ⟨c_,hF⟩:=jc hF;replace hs:SH st ([pt iL (.loop 11 [5] ca cb tm0 (rF zz.2) (qu [.ret] zz.2)),pt io0 (.cells (cB zz.1))]++Ls):=SH.qX hs;rw [c_] at hs;replace hs:SH st (pt iL (.loop 11 [5] ca cb tm0 .ready none)::pt io0 (.cells (cB zz.1))::Ls):=hs;replace hK:(∀st,SH st (pt iL (.loop 11 [5] ca cb tm0 (rF r.2.2) (qu [.ret] r.2.2))::pt io0 (.cells (cB r.2.1))::Ls)→K (.bool r.1) st):=fun st hs=>hK st (SH.sG hs);refine WV (mu:=[1]) q1 q2 hs z z (fun _ _=>trivial) ?_;rw [Cj hf];refine rn 1 z (We hs fun st hs=>rn 1 z (W.o (bK z) (W.o (aB z) (W.o (aI z (DP.cN (DP.refl _) (bI x))) (rn 1 z (ci hF z (fun c_1 hF=>?_) (fun c_1 hF=>?_)))))))
 ·refine rn 0 z (sr hs 1 z z z (cs':=cB true) z z fun st hs=>rj 0 1 z ?_);cases hF;exact Zx hs (fun st hs=>hK st hs)
 refine rn 0 z ?_;cases hF;exact Lh hs (fun st hs=>hK st hs)
inductive Pe where
 | p1 (t4_:aK) (t2_:Bool)
noncomputable def Tn:Pe→Option Bool | .p1 t4_ t2_=>(KS (jX t4_) t4_ (t2_,0)>>=fun r_4=>(if r_4.2=0 then (some false) else (if r_4.2=1 then (some r_4.1) else none)))
def M48 (x:Pe) (r:Bool):Prop:=match x with | .p1 t4_ t2_=> ∀(tm:Fr) (st:aA) (io0:Nat),dH tm [(2,.ptr io0 0),(4,.fn 81 [.aQ [.aQ (bn t4_)]])]→SH st [pt io0 (.cells (cB t2_))]→W (X48 r) [.code Ly,.blk 0,.code Fa] tm st
theorem w48: ∀(x:Pe) (r:Bool),Tn x=some r→M48 x r:=by
 intro x r hF;cases x with
 | p1 t4_ t2_=>
  dsimp only [Tn] at hF;intro tm st io0 hf hs;refine bj hF fun r_4 g_5 hF=>rg (N:=11) (fr:=[]) z hs hf.2.1 (by kernel_rfl) fun ca cb st iL q1 q2 hs=>?_;refine d81 (σ :=Bool × Nat) (H:=fun zz=>sG [pt iL (.loop 11 [5] ca cb tm (rF zz.2) (qu [.ret] zz.2)),pt io0 (.cells (cB zz.1))]) (Y:=jX t4_) iL (fun x zz r hB K L st hs hK=>UP t4_ x zz r hB K L iL ca cb tm io0 q1 q2 hf hK st hs) t4_ (t2_,0) _ g_5 _ _ (fun st hs=>?_) _ (SH.sG hs);replace hs:SH st ([pt iL (.loop 11 [5] ca cb tm (rF r_4.2) (qu [.ret] r_4.2)),pt io0 (.cells (cB r_4.1))]++_):=SH.qX hs;refine ni hF (fun c_ hF=>?_) (fun c_ hF=>?_)
  ·rw [c_] at hs;refine Wg hs (by decide) fun st hs=>en hf (rn 0 z (sr hs 0 z z z (cs':=cB false) z z fun st hs=>rn 0 z ?_));cases hF;exact rD (mF z (hs.g 0 z) (LR.whole _ _) bG) z
  refine ni hF (fun c_ hF=>?_) (fun c_ hF=>?_)
  ·rw [c_] at hs;refine rgR (fun _ _=>z) hs (by decide) fun st hs=>en hf ?_;cases hF;exact eD (mF z (hs.g 0 z) (LR.whole _ _) bG) z
  cases hF
noncomputable def Th (n:aK):Option Bool:=(KQ n>>=fun r_2=>(Tn (.p1 r_2 false)))
theorem d48 (n:aK) (r:Bool) (hF:Th n=some r):DFun Tryd.prog gE 48 [dL n] (AV.bool r):=by
 unfold Th at hF;refine bD k48 z ?_;have hs:SH [] []:=SH.nil;generalize ([]:aA)=st at hs ⊢;exact rn 0 z (W.o (aY (cs:=bn n) z (by rw [aF];rfl) (aX _)) (al hs (cs:=cB false) z fun st b_1 hs=>bj hF fun r_2 g_3 hF=>rn 0 z (df (d53 n _ g_3) z (rj 0 2 z (w48 (.p1 r_2 false) _ hF _ _ b_1 Ra hs)))))
def OP:aC:=.o [qn 20 9 4,qc 21 49 [20]] (.cond 21 (.o [qm 2 kt] .ret) .skip)
def Fb:aC:=.o [qb 17 .lss 16 15] (.s (.cond 17 .skip (.exit 0)) (.s (.block 1 (.o [qi 18 9 14 16,qn 19 9 18,q 4 (.alloc [zb,zu,zu,zu,zu,zi,zi,zi,.aP]),qs 9 4 19] OP)) (.ops [qb 22 .add 16 (ki 1),qm 16 22])))
def Fc:aC:=.o [qm 2 kf] .ret
def Sh:aC:=.o [qx 1 9 0,qm 2 kf] (.s (.o [qa 5 0 1,ql 6 5,qb 7 .eql 6 (ku 8),qm 8 7,(qa 9 0 1).n 8,(ql 10 9).n 8,(qb 11 .eql 10 (ku 9)).n 8,qp 12 8 kt 11] (.cond 12 (.o [qm 2 kt] .ret) .skip)) (.s (.o [qa 13 8 1,ql 14 13,qh 15 14,qm 16 (ki 0)] (.block 0 (.loop Fb))) Fc))
def ZD:List RA:=[(.tmp 2)]
theorem k49:au Tryd.prog (dQ [1]) 49=some ⟨23,Sh,ZD⟩:=by kernel_rfl
noncomputable abbrev X49 (r:Bool):Cx:=cD Tryd.prog gE 23 ZD (AV.bool r) [1]
inductive Pf where
 | e (n:aK)
 | p1 (t14_:Sl aK) (t15_:Int) (t16_:Int)
noncomputable def uZ:Pf→Option Bool | .e n=>(if (n.Kind==8)=true then (some true) else (if (n.Kind==9)=true then (some true) else (uZ (.p1 n.Kids ((ls n.Kids).length:Int) 0)))) | .p1 t14_ t15_ t16_=>(if (decide (t16_<t15_))=true then (ix (ls t14_) t16_>>=fun v_4=>(uZ (.e v_4)>>=fun r_7=>(if r_7=true then (some true) else (uZ (.p1 t14_ t15_ (IntKind.wrap .i64 (t16_+1))))))) else (some false)) partial_fixpoint
def Yb (x:Pf) (r:Bool):Prop:=match x with | .e n=>DFun Tryd.prog gE 49 [dL n] (AV.bool r) | .p1 t14_ t15_ t16_=> ∀(tm:Fr) (st:aA),dH tm [(14,cg 9 dL t14_),(15,AV.int .i64 t15_),(16,AV.int .i64 t16_)]→SH st []→W (X49 r) [.lp Fb,.blk 0,.code Fc] tm st
theorem w49: ∀(x:Pf) (r:Bool),uZ x=some r→Yb x r:=by
 refine uZ.partial_correctness (Yb) ?_;intro g ih x r hF;cases x with
 | e n=>
  dsimp only at hF;refine bD k49 z ?_;have hs:SH [] []:=SH.nil;generalize ([]:aA)=st at hs ⊢;refine rn 0 z (W.o (aY (cs:=bn n) z (by rw [aF];rfl) (aX _)) (rn 1 z (W.o (aB z) (W.o (aI z (DP.cN (DP.refl _) (bI n))) (rn 2 z (bi hF (fun c_1 hF=>?_) (fun c_1 hF=>?_)))))))
  ·refine bL 8 z c_1 (rn 4 z (ct z z (rn 1 z ?_)));cases hF;exact rD (ah bG) z
  refine bL 8 z c_1 (W.on z z (W.o (aB z) (W.on z z (W.o (aI z (DP.cN (DP.refl _) (bI n))) (rn 2 z (ci hF z (fun c_2 hF=>?_) (fun c_2 hF=>?_)))))))
  ·refine rn 1 z ?_;cases hF;exact rD (ah bG) z
  exact rn 0 z (W.o (aB z) (W.o (aI z (DP.cN (DP.refl _) (aV n))) (W.o (e_len (bJ z)) (rn 1 z (ih _ _ hF _ _ hG hs)))))
 | p1 t14_ t15_ t16_=>
  dsimp only at hF;intro tm st hf hs;refine en hf (lp (rn 1 z (ci hF z (fun c_3 hF=>?_) (fun c_3 hF=>?_))))
  ·refine bj hF fun v_4 g_5 hF=>rn 0 z (W.o (aM (bJ z) z g_5) (W.o (aL z (DP.refl _) (aF _)) (al hs (cs:=bn ({Kind:=0,Set:=(an.rep 4 (0:Int)),Min:=0,Max:=0,aH:=0,Kids:=none}:aK)) z fun st b_6 hs=>sl hs 0 z z (LR.whole _ _) (aF _) z (aF _) (aX _) z fun st hs=>rn 0 z (W.o (eN z (hs.g 0 z) (LR.whole _ _) (aF _)) (bj hF fun r_7 g_8 hF=>df (ih (.e v_4) _ g_8) z (rn 0 z (ci hF z (fun c_9 hF=>?_) (fun c_9 hF=>?_))))))))
   ·refine rn 1 z ?_;cases hF;exact rD (ah bG) z
   exact rn 2 z (ih _ _ hF _ _ hG (hs.p 1 [] z))
  refine rn 1 z ?_;cases hF;exact rD (ah bG) z
noncomputable def WB (n:aK):Option Bool:=uZ (.e n)
theorem d49 (n:aK) (r:Bool) (hF:WB n=some r):DFun Tryd.prog gE 49 [dL n] (AV.bool r):=by
 exact w49 (.e n) r hF
def SP:aC:=.o [qx 1 9 0,q 2 (.alloc [zi,zi,.aP]),qm 3 (ki 0)] (.o [qn 7 9 1,qc 8 19 [7],qm 6 8,qe 9 6 0,qe 10 6 1,q 4 (.alloc [zi,zi,.aP]),qs 3 4 9,qm 5 10] (.s (.block 0 (.o [qm 12 5,qb 13 .neq 12 (ki 0),qm 11 13] (.cond 11 (.o [q 14 (.build [zi,zi,.aP] []),qm 15 5,qs 3 2 14,qm 3 15] .ret) (.o [qn 17 9 1,qc 18 48 [17],qm 16 18] (.cond 16 (.o [q 19 (.build [zi,zi,.aP] []),qs 3 2 19,qm 3 (ki 101)] .ret) (.o [qn 21 9 1,qc 22 49 [21],qm 20 22] (.cond 20 (.o [q 23 (.build [zi,zi,.aP] []),qs 3 2 23,qm 3 (ki 120)] .ret) .skip))))))) (.o [qn 24 3 4,qs 3 2 24,qm 3 (ki 0)] .ret)))
def R32:List RA:=[(.mg 2 3),(.tmp 3)]
theorem k32:au Tryd.prog (dQ [1]) 32=some ⟨25,SP,R32⟩:=by kernel_rfl
noncomputable def xV (n:aK):Option (af × Int):=(Rb n>>=fun r_2=>(if (r_2.2 != 0)=true then (some (({bH:=0,bX:=0,Code:=none}:af),r_2.2)) else (Th n>>=fun r_6=>(if r_6=true then (some (({bH:=0,bX:=0,Code:=none}:af),101)) else (WB n>>=fun r_9=>(if r_9=true then (some (({bH:=0,bX:=0,Code:=none}:af),120)) else (some (r_2.1,0))))))))
theorem d32 (n:aK) (r:af × Int) (hF:xV n=some r):DFun Tryd.prog gE 32 [dL n] (AV.bt [nN r.1,AV.int .i64 r.2]):=by
 unfold xV at hF;refine bD k32 z ?_;have hs:SH [] []:=SH.nil;generalize ([]:aA)=st at hs ⊢;refine rn 0 z (W.o (aY (cs:=bn n) z (by rw [aF];rfl) (aX _)) (al hs (cs:=cE ({bH:=0,bX:=0,Code:=none}:af)) z fun st b_1 hs=>rn 1 z (W.o (aL z (DP.refl _) (aF _)) (bj hF fun r_2 g_3 hF=>df (d19 n _ g_3) z (rn 3 z (al hs (cs:=cE ({bH:=0,bX:=0,Code:=none}:af)) z fun st b_4 hs=>sl hs 0 z z (LR.whole _ _) (bC _) z (bC _) (bg _) z fun st hs=>rn 4 z (ci hF z (fun c_5 hF=>?_) (fun c_5 hF=>?_))))))))
 ·refine rn 0 z (W.o (bR (cs:=cE ({bH:=0,bX:=0,Code:=none}:af)) z z) (rn 1 z (sl hs 1 z z (LR.whole _ _) (bC _) z (bC _) (bg _) z fun st hs=>rn 1 z ?_)));cases hF;exact rD (eJ z (hs.g 1 z) (LR.whole _ _) (bC _) (ah bG)) z
 refine rn 0 z (W.o (aL z (DP.refl _) (aF _)) (bj hF fun r_6 g_7 hF=>df (d48 n _ g_7) z (rn 1 z (ci hF z (fun c_8 hF=>?_) (fun c_8 hF=>?_)))))
 ·refine rn 0 z (W.o (bR (cs:=cE ({bH:=0,bX:=0,Code:=none}:af)) z z) (sl hs 1 z z (LR.whole _ _) (bC _) z (bC _) (bg _) z fun st hs=>rn 1 z ?_));cases hF;exact rD (eJ z (hs.g 1 z) (LR.whole _ _) (bC _) (ah bG)) z
 refine rn 0 z (W.o (aL z (DP.refl _) (aF _)) (bj hF fun r_9 g_10 hF=>df (d49 n _ g_10) z (rn 1 z (ci hF z (fun c_11 hF=>?_) (fun c_11 hF=>?_)))))
 ·refine rn 0 z (W.o (bR (cs:=cE ({bH:=0,bX:=0,Code:=none}:af)) z z) (sl hs 1 z z (LR.whole _ _) (bC _) z (bC _) (bg _) z fun st hs=>rn 1 z ?_));cases hF;exact rD (eJ z (hs.g 1 z) (LR.whole _ _) (bC _) (ah bG)) z
 refine rn 0 z (W.o (lN (s:=cE r_2.1) z (hs.g 0 z) z z) (sl hs 1 z z (LR.whole _ _) (bC _) z (bC _) (bg _) z fun st hs=>rn 1 z ?_));cases hF;exact rD (eJ z (hs.g 1 z) (LR.whole _ _) (bC _) (ah bG)) z
end Go.Proofs.YtcidnoghoifmmaaDoor
end
section
set_option maxRecDepth 4000
set_option maxHeartbeats 4000000
namespace Go.Proofs.YtcidnoghoifmmaaDoor
open Go AW
attribute [local irreducible] W WD SH XS XLoop DFun XCall XYield
def Sv:aC:=.o [qm 2 (ki 0)] (.s (.o [qm 3 0] (.cond 3 (.o [qm 2 (ki 1)] .ret) .skip)) (.o [qm 2 (ki 0)] .ret))
def R63:List RA:=[(.tmp 2)]
theorem k63:au Tryd.prog (dQ []) 63=some ⟨4,Sv,R63⟩:=by kernel_rfl
noncomputable def Oz (b:Bool):Option Int:=(if b=true then (some 1) else (some 0))
theorem d63 (b:Bool) (r:Int) (hF:Oz b=some r):DFun Tryd.prog gE 63 [AV.bool b] (AV.int .i64 r):=by
 unfold Oz at hF;refine bD k63 z ?_;have hs:SH [] []:=SH.nil;generalize ([]:aA)=st at hs ⊢;refine rn 2 z (ci hF z (fun c_1 hF=>?_) (fun c_1 hF=>?_))
 ·refine rn 1 z ?_;cases hF;exact rD (ah bG) z
 refine rn 1 z ?_;cases hF;exact rD (ah bG) z
def Su:aC:=.o [ql 4 1,qm 5 0,qi 6 1 4 5,ql 7 6,q 8 (.un .not 7)] (.cond 8 (.o [ql 9 1,qm 10 0,qi 11 1 9 10,qs 1 11 kt] (.ops [ql 12 2,qm 13 0,q 14 (.bE 1 1 false [zi] [(0,(1,13))] false),q 15 (.app 1 8 12 14),qs 1 2 15])) .skip)
def R58:List RA:=[]
theorem k58:au Tryd.prog (dQ []) 58=some ⟨16,Su,R58⟩:=by kernel_rfl
noncomputable def Gm (i:Int) (q0_:Sl Bool) (q1_:Sl Int):Option (Sl Bool × Sl Int):=(ix (ls q0_) i>>=fun v_2=>(if (!v_2)=true then (ix (ls q0_) i>>=fun v_5=>(if ((ls q1_).length+(ls (some ([i]:List Int))).length)*8≤140737488355328 then (some ((dF q0_ i true),bW q1_ (ls (some ([i]:List Int))))) else none)) else (some (q0_,q1_))))
theorem d58 (i:Int) (q0_:Sl Bool) (q1_:Sl Int) (r:Sl Bool × Sl Int) (hF:Gm i q0_ q1_=some r): ∀(K:AV→aA→Prop) (Ls:List bU) (iQ0:Nat) (iQ1:Nat),(∀st,SH st (dM iQ0 r.1::cU iQ1 r.2::Ls)→K (AV.bt []) st)→ ∀(st:aA),SH st (dM iQ0 q0_::cU iQ1 q1_::Ls)→XCall Tryd.prog gE 58 [AV.int .i64 i,.ptr iQ0 0,.ptr iQ1 0] st K:=by
 unfold Gm at hF;intro K Ls iQ0 iQ1 hK  st hs;refine bS k58 z ?_;obtain ⟨j_1,hs⟩:=SH.fm hs;refine rn 0 z (W.o (l1 z (hs.g 0 z) z) (bj hF fun v_2 g_3 hF=>rn 1 z (W.o (dJ hs 1 z z z g_3) (W.o (fS z (SH.gv hs 1 z g_3) (LR.cast (LR.comp (LR.whole _ _) (mQ eT g_3)) (by omega))) (rn 1 z (ci hF z (fun c_4 hF=>?_) (fun c_4 hF=>?_)))))))
 ·refine rn 0 z (W.o (l1 z (hs.g 0 z) z) (bj hF fun v_5 g_6 hF=>rn 1 z (W.o (dJ hs 1 z z z g_6) (EU hs 1 z z g_6 z (LR.cast (LR.comp (LR.whole _ _) (fl eT g_6 true)) (by omega)) (eT _) z (eT _) (pJ _) z fun st hs=>?_))));have hs:=hs.sK 0 z (cs':=[fC 1 (dF q0_ i true) j_1]) (by simp only [eA]) z;have hs:=(hs.p 3 [2,0,0] z);obtain ⟨j_7,hs⟩:=SH.fm hs;refine rn 0 z (W.o (l1 z (hs.g 0 z) z) (rn 1 z (bs (f:=AV.int .i64) ([i]:List Int) hs z z z z fun st b_8 hs=>gj hF fun g_9 hF=>ap (ys:=ls (some ([i]:List Int))) hs 2 z z (eR (cO (o:=(some ([i]:List Int))) (id:=b_8) z)) g_9 (fun _=>z) fun st b_10 hs=>so hs 1 z z z tH z (cs':=[br 1 (AV.int .i64) (bW q1_ (ls (some ([i]:List Int)))) b_10]) z z fun st hs=>rn 0 z ?_)));have hs:SH st (cU iQ1 (bW q1_ (ls (some ([i]:List Int))))::_):=SH.eE b_10 (hs.p 5 [1,1,0,0,0] z);have hs:SH st (dM iQ0 (dF q0_ i true)::_):=SH.eE j_1 (hs.p 4 [2,2,0,0] z);cases hF;exact eS bG (hK _ (hs.p 3 [0,0] z)) z
 refine rn 0 z ?_;have hs:SH st (dM iQ0 q0_::_):=SH.eE j_1 (hs.p 3 [0,0,0] z);cases hF;exact eS bG (hK _ hs) z
def OI:aC:=.o [qi 24 1 20 22,ql 25 24,qm 8 25] (.ops [ql 26 5,qm 27 8,qi 28 1 26 27,qs 1 28 kt])
def FH:aC:=.o [qb 23 .lss 22 21] (.s (.cond 23 .skip (.exit 0)) (.s (.block 1 OI) (.ops [qb 29 .add 22 (ki 1),qm 22 29])))
def OJ:aC:=.cond 34 .skip (.exit 2)
def FJ:aC:=.s (.o [qm 31 10,ql 32 6,qh 33 32,qb 34 .lss 31 33] OJ) (.s (.block 3 (.s (.draw [] 0 1 [qa 37 2 2,ql 38 37,ql 39 6,qm 40 10,qi 41 1 39 40,ql 42 41,qi 43 9 38 42,qn 44 9 43,q 11 (.alloc [zb,zu,zu,zu,zu,zi,zi,zi,zi])] [qs 9 11 44]) (.o [qa 45 0 11,ql 46 45] (.block 4 (.s (.o [qb 55 .eql 46 (ku 1),qm 54 55] (.cond 54 .skip (.ops [qb 56 .eql 46 (ku 12),qm 54 56]))) (.cond 54 .skip (.o [qb 58 .eql 46 (ku 2),qm 57 58] (.cond 57 (.o [qm 59 9,ql 60 6,qm 61 10,qi 62 1 60 61,ql 63 62,qb 64 .add 63 (ki 1),qf 65 59 [64]] (.ops [qm 66 9,qa 67 5 11,ql 68 67,qf 69 66 [68]])) (.o [qb 71 .eql 46 (ku 3),qm 70 71] (.cond 70 (.ops [qm 72 9,qa 73 5 11,ql 74 73,qf 75 72 [74]]) (.ops [qm 47 9,ql 48 6,qm 49 10,qi 50 1 48 49,ql 51 50,qb 52 .add 51 (ki 1),qf 53 47 [52]]))))))))))) (.ops [qm 35 10,qb 36 .add 35 (ki 1),qm 10 36]))
def FL:aC:=.ops [qm 102 12,qm 103 13,q 104 (.bE 1 1 false [zi] [(0,(1,103))] false),q 105 (.app 1 8 102 104),qm 12 105]
def FM:aC:=.ops [qb 106 .add 78 (ki 1),qm 78 106]
def zg:aC:=.o [qb 79 .lss 78 77] (.s (.cond 79 .skip (.exit 5)) (.s (.block 6 (.o [qm 80 78,qi 81 1 76 78,ql 82 81,qm 13 80,qm 14 82] (.o [qm 83 14,qm 84 83,(qa 85 2 2).y 84,(ql 86 85).y 84,(qm 87 13).y 84,(qi 88 9 86 87).y 84,(qa 89 0 88).y 84,(ql 90 89).y 84,(qb 91 .eql 90 (ku 1)).y 84,(qm 92 91).y 84,(qa 93 2 2).n 92,(ql 94 93).n 92,(qm 95 13).n 92,(qi 96 9 94 95).n 92,(qa 97 0 96).n 92,(ql 98 97).n 92,(qb 99 .eql 98 (ku 12)).n 92,(qp 100 92 kt 99).y 84,qp 101 84 100 kf] (.cond 101 FL .skip)))) FM))
def zh:aC:=.o [qm 107 12,qm 4 107] .ret
def FK:aC:=.o [qm 12 (.c .aP)] (.s (.o [ql 76 5,qh 77 76,qm 78 (ki 0)] (.block 5 (.loop zg))) zh)
def FI:aC:=.o [q 30 (.mZ 58 [5,6]),qm 9 30] (.s (.o [qm 10 (ki 0)] (.block 2 (.loop FJ))) FK)
def SZ:aC:=.o [qx 2 3 0,qm 4 (.c .aP)] (.o [qa 15 2 2,ql 16 15,qh 17 16,q 18 (.jM 1 1 [(.bool false)] 17 17 true),q 5 (.alloc [.aP]),qs 1 5 18] (.o [qm 19 1,q 6 (.alloc [.aP]),qs 1 6 19] (.s (.o [qm 20 1,qh 21 20,qm 22 (ki 0)] (.block 0 (.loop FH))) FI)))
def Yw:List RA:=[(.tmp 4)]
theorem k41:au Tryd.prog (dQ [2,18]) 41=some ⟨108,SZ,Yw⟩:=by kernel_rfl
noncomputable abbrev WQ (K:AV→aA→Prop):Cx:=cK Tryd.prog gE 108 Yw (uL K) [2,18]
inductive vl where
 | p1 (p:af) (t20_:Sl Int) (t21_:Int) (t22_:Int) (iE:Sl Bool) (todo:Sl Int)
 | p2 (p:af) (k:Int) (iE:Sl Bool) (todo:Sl Int)
 | p3 (p:af) (t76_:Sl Bool) (t77_:Int) (t78_:Int) (out:Sl Int)
 | p4 (p:af) (i:Int) (t76_:Sl Bool) (t77_:Int) (t78_:Int) (out:Sl Int)
noncomputable def jm:vl→Option (Sl Int) | .p1 p t20_ t21_ t22_ iE todo=>(if (decide (t22_<t21_))=true then (ix (ls t20_) t22_>>=fun v_8=>(ix (ls iE) v_8>>=fun v_11=>(jm (.p1 p t20_ t21_ (IntKind.wrap .i64 (t22_+1)) (dF iE v_8 true) todo)))) else (jm (.p2 p 0 iE todo))) | .p2 p k iE todo=>(if (decide (k<((ls todo).length:Int)))=true then (ix (ls todo) k>>=fun v_17=>(ix (ls p.Code) v_17>>=fun v_19=>(if (v_19.Kind==1)=true then (jm (.p2 p (IntKind.wrap .i64 (k+1)) iE todo)) else (if (v_19.Kind==12)=true then (jm (.p2 p (IntKind.wrap .i64 (k+1)) iE todo)) else (if (v_19.Kind==2)=true then (ix (ls todo) k>>=fun v_25=>(Gm (IntKind.wrap .i64 (v_25+1)) iE todo>>=fun r_27=>(Gm v_19.To r_27.1 r_27.2>>=fun r_29=>(jm (.p2 p (IntKind.wrap .i64 (k+1)) r_29.1 r_29.2))))) else (if (v_19.Kind==3)=true then (Gm v_19.To iE todo>>=fun r_32=>(jm (.p2 p (IntKind.wrap .i64 (k+1)) r_32.1 r_32.2))) else (ix (ls todo) k>>=fun v_34=>(Gm (IntKind.wrap .i64 (v_34+1)) iE todo>>=fun r_36=>(jm (.p2 p (IntKind.wrap .i64 (k+1)) r_36.1 r_36.2)))))))))) else (jm (.p3 p iE ((ls iE).length:Int) 0 none))) | .p3 p t76_ t77_ t78_ out=>(if (decide (t78_<t77_))=true then (ix (ls t76_) t78_>>=fun v_41=>(if v_41=true then (ix (ls p.Code) t78_>>=fun v_44=>(if (v_44.Kind==1)=true then (jm (.p4 p t78_ t76_ t77_ t78_ out)) else (ix (ls p.Code) t78_>>=fun v_47=>(if (v_47.Kind==12)=true then (jm (.p4 p t78_ t76_ t77_ t78_ out)) else (jm (.p3 p t76_ t77_ (IntKind.wrap .i64 (t78_+1)) out)))))) else (jm (.p3 p t76_ t77_ (IntKind.wrap .i64 (t78_+1)) out)))) else (some out)) | .p4 p i t76_ t77_ t78_ out=>(if ((ls out).length+(ls (some ([i]:List Int))).length)*8≤140737488355328 then (jm (.p3 p t76_ t77_ (IntKind.wrap .i64 (t78_+1)) (bW out (ls (some ([i]:List Int)))))) else none) partial_fixpoint
def YV (x:vl) (r:Sl Int):Prop:=match x with | .p1 p t20_ t21_ t22_ iE todo=> ∀(K:AV→aA→Prop) (Ls:List bU) (iP0:Nat),(∀st,SH st (Ls)→K (cg 1 (AV.int .i64) r) st)→ ∀(tm:Fr) (st:aA) (io0:Nat) (io1:Nat),dH tm [(2,.aQ (cE p)),(5,.ptr io0 0),(6,.ptr io1 0),(20,cg 1 (AV.int .i64) t20_),(21,AV.int .i64 t21_),(22,AV.int .i64 t22_)]→SH st (dM io0 iE::cU io1 todo::Ls)→W (WQ K) [.lp FH,.blk 0,.code FI] tm st | .p2 p k iE todo=> ∀(K:AV→aA→Prop) (Ls:List bU) (iP0:Nat),(∀st,SH st (Ls)→K (cg 1 (AV.int .i64) r) st)→ ∀(tm:Fr) (st:aA) (io0:Nat) (io1:Nat),dH tm [(2,.aQ (cE p)),(5,.ptr io0 0),(6,.ptr io1 0),(9,.fn 58 [.ptr io0 0,.ptr io1 0]),(10,AV.int .i64 k)]→SH st (dM io0 iE::cU io1 todo::Ls)→W (WQ K) [.lp FJ,.blk 2,.code FK] tm st | .p3 p t76_ t77_ t78_ out=> ∀(K:AV→aA→Prop) (Ls:List bU) (iP0:Nat),(∀st,SH st (Ls)→K (cg 1 (AV.int .i64) r) st)→ ∀(tm:Fr) (st:aA) (io0:Nat),dH tm [(2,.aQ (cE p)),(12,br 1 (AV.int .i64) out io0),(76,cg 1 AV.bool t76_),(77,AV.int .i64 t77_),(78,AV.int .i64 t78_)]→SH st (dK io0 out::Ls)→W (WQ K) [.lp zg,.blk 5,.code zh] tm st | .p4 p i t76_ t77_ t78_ out=> ∀(K:AV→aA→Prop) (Ls:List bU) (iP0:Nat),(∀st,SH st (Ls)→K (cg 1 (AV.int .i64) r) st)→ ∀(tm:Fr) (st:aA) (io0:Nat),dH tm [(2,.aQ (cE p)),(12,br 1 (AV.int .i64) out io0),(13,AV.int .i64 i),(76,cg 1 AV.bool t76_),(77,AV.int .i64 t77_),(78,AV.int .i64 t78_)]→SH st (dK io0 out::Ls)→W (WQ K) [.code FL,.blk 6,.code FM,.lp zg,.blk 5,.code zh] tm st
theorem w41: ∀(x:vl) (r:Sl Int),jm x=some r→YV x r:=by
 refine jm.partial_correctness (YV) ?_;intro g ih x r hF;cases x with
 | p1 p t20_ t21_ t22_ iE todo=>
  dsimp only at hF;intro K Ls iP0 hK tm st io0 io1 hf hs;refine en hf (lp (rn 1 z (ci hF z (fun c_7 hF=>?_) (fun c_7 hF=>?_))))
  ·refine bj hF fun v_8 g_9 hF=>rn 0 z (W.o (aM (bJ z) z g_9) (W.o (dW z z) ?_));obtain ⟨j_10,hs⟩:=SH.fm hs;refine rn 1 z (W.o (l1 z (hs.g 0 z) z) (bj hF fun v_11 g_12 hF=>rn 1 z (W.o (dJ hs 1 z z z g_12) (EU hs 1 z z g_12 z (LR.cast (LR.comp (LR.whole _ _) (fl eT g_12 true)) (by omega)) (eT _) z (eT _) (pJ _) z fun st hs=>?_))));have hs:=hs.sK 0 z (cs':=[fC 1 (dF iE v_8 true) j_10]) (by simp only [eA]) z;refine rn 2 z ?_;have hs:SH st (dM io0 (dF iE v_8 true)::_):=SH.eE j_10 (hs.p 3 [0,0,0] z);exact ih _ _ hF K Ls iP0 hK _ _ io0 io1 lD hs
  exact rn 3 z (ih _ _ hF K Ls iP0 hK _ _ io0 io1 kj hs)
 | p2 p k iE todo=>
  dsimp only at hF;intro K Ls iP0 hK tm st io0 io1 hf hs;refine en hf (lp ?_);have hs:=(hs.p 2 [1,0] z);obtain ⟨j_13,hs⟩:=SH.fm hs;refine rn 1 z (W.o (l1 z (hs.g 0 z) z) (W.o (e_len (cO (o:=todo) (id:=j_13) z)) (rn 1 z (ci hF z (fun c_14 hF=>?_) (fun c_14 hF=>?_)))))
  ·refine rn 0 z (Ai hs fun s_15 st h0 hs=>de z (aB z) (de z (dW z (by first | rfl | (rw [aN];rfl))) (de z (l1 z (h0.g 0 z) z) (bj hF fun v_17 g_18 hF=>dn 1 z (de z (aM (cO (o:=todo) (id:=j_13) z) z g_18) (de z (dW z z) (bj hF fun v_19 g_20 hF=>de z (aM (bJ z) z g_20) (de z (uD (s:=dx v_19) z z z) (IC hs 0 (cs:=dx ({Kind:=0,Set:=(an.rep 4 (0:Int)),To:=0,aH:=0,bP:=0,Slot:=0}:aT)) z z z fun st hs=>dz ?_)))))))));refine sr hs 0 z z z (cs':=dx v_19) z z fun st hs=>rn 0 z (W.o (aJ z (hs.g 0 z)) (W.o (l1 z (hs.g 0 z) z) (rn 2 z (ci hF z (fun c_22 hF=>?_) (fun c_22 hF=>?_)))))
   ·refine rn 0 z (ct z c_22 (rn 3 z ?_));have hs:SH st (cU io1 todo::_):=SH.eE j_13 (hs.p 4 [1,1,0,0] z);exact ih _ _ hF K Ls iP0 hK _ _ io0 io1 kj (hs.p 3 [2,0] z)
   refine rn 2 z (ci hF z (fun c_23 hF=>?_) (fun c_23 hF=>?_))
   ·refine rn 3 z ?_;have hs:SH st (cU io1 todo::_):=SH.eE j_13 (hs.p 4 [1,1,0,0] z);exact ih _ _ hF K Ls iP0 hK _ _ io0 io1 kj (hs.p 3 [2,0] z)
   refine rn 2 z (ci hF z (fun c_24 hF=>?_) (fun c_24 hF=>?_))
   ·refine rn 1 z (W.o (l1 z (hs.g 1 z) z) (bj hF fun v_25 g_26 hF=>rn 1 z (W.o (aM (cO (o:=todo) (id:=j_13) z) z g_26) (W.o (dW z z) (rn 1 z ?_)))));have hs:SH st (cU io1 todo::_):=SH.eE j_13 (hs.p 4 [1,1,0,0] z);obtain ⟨r_27,g_28,hF⟩:=bind_some hF;refine cv z (by kernel_rfl) (dw z) (d58 _ _ _ _ g_28 _ _ io0 io1 (fun st hs=>?_) _ (hs.p 3 [2,0,0] z));refine rn 1 z (W.o (aJ z (hs.g 2 z)) (W.o (l1 z (hs.g 2 z) z) (bj hF fun r_29 g_30 hF=>?_)));refine cv z (by kernel_rfl) (dw z) (d58 _ _ _ _ g_30 _ _ io0 io1 (fun st hs=>?_) _ hs);exact rn 3 z (ih _ _ hF K Ls iP0 hK _ _ io0 io1 kj (hs.p 3 [0,0] z))
   refine rn 2 z (ci hF z (fun c_31 hF=>?_) (fun c_31 hF=>?_))
   ·refine rn 1 z (W.o (aJ z (hs.g 0 z)) (W.o (l1 z (hs.g 0 z) z) ?_));have hs:SH st (cU io1 todo::_):=SH.eE j_13 (hs.p 4 [1,1,0,0] z);obtain ⟨r_32,g_33,hF⟩:=bind_some hF;refine cv z (by kernel_rfl) (dw z) (d58 _ _ _ _ g_33 _ _ io0 io1 (fun st hs=>?_) _ (hs.p 3 [2,0,0] z));exact rn 3 z (ih _ _ hF K Ls iP0 hK _ _ io0 io1 kj (hs.p 3 [0,0] z))
   refine rn 1 z (W.o (l1 z (hs.g 1 z) z) (bj hF fun v_34 g_35 hF=>rn 1 z (W.o (aM (cO (o:=todo) (id:=j_13) z) z g_35) (W.o (dW z z) (rn 1 z ?_)))));have hs:SH st (cU io1 todo::_):=SH.eE j_13 (hs.p 4 [1,1,0,0] z);obtain ⟨r_36,g_37,hF⟩:=bind_some hF;refine cv z (by kernel_rfl) (dw z) (d58 _ _ _ _ g_37 _ _ io0 io1 (fun st hs=>?_) _ (hs.p 3 [2,0,0] z));exact rn 3 z (ih _ _ hF K Ls iP0 hK _ _ io0 io1 kj (hs.p 3 [0,0] z))
  refine rj 1 3 z ?_;have hs:=(hs.p 3 [2,0,0] z);obtain ⟨j_38,hs⟩:=SH.fm hs;refine Xo (off:=0) (es:=1) (c:=cB) (g:=AV.bool) hs z (cs':=fF 1 AV.bool iE) z z eT pJ (fun _=>z) fun st hs=>rn 0 z (W.o (l1 z (hs.g 0 z) z) (W.o (e_len (bJ z)) (rn 1 z ?_)));have hs:SH st (cU io1 todo::_):=SH.eE j_13 (hs.p 3 [1,1,0] z);have hs:=hs.fX Int;exact ih _ _ hF K Ls iP0 hK _ _ 0 kj (hs.p 3 [0] z)
 | p3 p t76_ t77_ t78_ out=>
  dsimp only at hF;intro K Ls iP0 hK tm st io0 hf hs;refine en hf (lp (rn 1 z (ci hF z (fun c_40 hF=>?_) (fun c_40 hF=>?_))))
  ·refine bj hF fun v_41 g_42 hF=>rn 1 z (W.o (aM (bJ z) z g_42) (W.o (dW z z) (rn 4 z (bi hF (fun c_43 hF=>?_) (fun c_43 hF=>?_)))))
   ·refine bL 84 z c_43 (W.on z z (W.o (aB z) (W.on z z (W.o (dW z (by first | rfl | (rw [aN];rfl))) (bj hF fun v_44 g_45 hF=>rn 1 z (W.on z z (W.o (aM (bJ z) z g_45) (W.on z z (W.o (aB z) (W.on z z (W.o (dW z z) (rn 2 z ?_))))))))))));refine bi hF (fun c_46 hF=>?_) (fun c_46 hF=>?_)
    ·exact bL 92 z c_46 (rn 9 z (ct z z (ih _ _ hF K Ls iP0 hK _ _ io0 lD hs)))
    refine bL 92 z c_46 (W.on z z (W.o (aB z) (W.on z z (W.o (dW z (by first | rfl | (rw [aN];rfl))) (bj hF fun v_47 g_48 hF=>rn 1 z (W.on z z (W.o (aM (bJ z) z g_48) (W.on z z (W.o (aB z) (W.on z z (W.o (dW z z) (rn 3 z ?_))))))))))));refine ci hF z (fun c_49 hF=>?_) (fun c_49 hF=>?_)
    ·exact ih _ _ hF K Ls iP0 hK _ _ io0 lD hs
    exact rn 2 z (ih _ _ hF K Ls iP0 hK _ _ io0 kj hs)
   exact bL 84 z c_43 (rn 17 z (cf z z (rn 2 z (ih _ _ hF K Ls iP0 hK _ _ io0 kj hs))))
  refine rn 2 z ?_;cases hF;exact Zw (ah bG) (hK _ (hs.p 1 [] z)) xL
 | p4 p i t76_ t77_ t78_ out=>
  dsimp only at hF;intro K Ls iP0 hK tm st io0 hf hs;exact en hf (rn 2 z (bs (f:=AV.int .i64) ([i]:List Int) hs z z z z fun st b_50 hs=>gj hF fun g_51 hF=>ap (ys:=ls (some ([i]:List Int))) hs 1 z z (eR (cO (o:=(some ([i]:List Int))) (id:=b_50) z)) g_51 (fun _=>z) fun st b_52 hs=>rn 3 z (ih _ _ hF K Ls iP0 hK _ _ b_52 kj (hs.p 2 [1] z))))
noncomputable def xJ (p:af) (from_:Sl Int):Option (Sl Int):=(if 0≤((ls p.Code).length:Int)∧((ls p.Code).length:Int)=((ls p.Code).length:Int)∧(1:Int)*((ls p.Code).length:Int)≤281474976710656 then (jm (.p1 p from_ ((ls from_).length:Int) 0 (some (List.replicate (Int.toNat ((ls p.Code).length:Int)) (false:Bool))) from_)) else none)
theorem d41 (p:af) (from_:Sl Int) (r:Sl Int) (hF:xJ p from_=some r): ∀(K:AV→aA→Prop) (Ls:List bU) (iP0:Nat),(∀st,SH st (Ls)→K (cg 1 (AV.int .i64) r) st)→ ∀(st:aA),SH st (dK iP0 from_::Ls)→XCall Tryd.prog gE 41 [nN p,br 1 (AV.int .i64) from_ iP0] st K:=by
 unfold xJ at hF;intro K Ls iP0 hK  st hs;refine bS k41 z (rn 0 z (W.o (aY (cs:=cE p) z z (bg _)) (rn 1 z (W.o (aB z) (W.o (dW z (by first | rfl | (rw [aN];rfl))) (W.o (e_len (bJ z)) (gj hF fun g_2 hF=>Xz (c:=cB) (false:Bool) hs z z z g_2 fun st b_1 hs=>?_)))))));have hs:=hs.zA (α :=Bool) cB;refine al hs (cs:=[fC 1 (none:Sl Bool) 0]) z fun st b_3 hs=>so hs 0 z z z (Cn (es:=1) (o:=(some (List.replicate (Int.toNat ((ls p.Code).length:Int)) (false:Bool)))) (id:=b_1)) z (cs':=[fC 1 (some (List.replicate (Int.toNat ((ls p.Code).length:Int)) (false:Bool))) b_1]) z z fun st hs=>?_;have hs:=hs.fX Int;refine rn 1 z (al hs (cs:=[br 1 (AV.int .i64) (none:Sl Int) 0]) z fun st b_5 hs=>so hs 0 z z z tH z (cs':=[br 1 (AV.int .i64) from_ iP0]) z z fun st hs=>rn 1 z (W.o (e_len (cO (o:=from_) (id:=iP0) z)) (rn 1 z ?_)));have hs:SH st (cU b_5 from_::_):=SH.eE iP0 (hs.p 6 [0,4,0,0,0,0] z);have hs:SH st (dM b_3 (some (List.replicate (Int.toNat ((ls p.Code).length:Int)) (false:Bool)))::_):=SH.eE b_1 (hs.p 5 [2,3,0,0,0] z);exact Ru (gm (S:=[20]) ⟨(xL (es:=1) (f:=AV.int .i64) (o:=from_) (id:=iP0)).1,trivial⟩) (w41 (.p1 p from_ ((ls from_).length:Int) 0 (some (List.replicate (Int.toNat ((ls p.Code).length:Int)) (false:Bool))) from_) _ hF K Ls iP0 hK _ _ b_3 b_5 ⟨z,z,z,(xL (es:=1) (f:=AV.int .i64) (o:=from_) (id:=iP0)).2,z,z,trivial⟩ (hs.p 4 [0,0] z))
def OM:aC:=.o [qa 17 2 3,ql 18 17,qm 19 9,qi 20 9 18 19,qn 21 9 20,q 10 (.alloc [zb,zu,zu,zu,zu,zi,zi,zi,zi]),qs 9 10 21] (.o [qa 22 0 10,ql 23 22,qb 24 .eql 23 (ku 1),qm 25 24,(qa 26 1 10).y 25,(qn 27 4 26).y 25,(qm 28 2).y 25,(qc 29 57 [27,28]).y 25,qp 30 25 29 kf] (.cond 30 (.ops [qm 31 7,qm 32 9,qb 33 .add 32 (ki 1),q 34 (.bE 1 1 false [zi] [(0,(1,33))] false),q 35 (.app 1 8 31 34),qm 7 35]) .skip))
def FU:aC:=.o [qb 14 .lss 13 12] (.s (.cond 14 .skip (.exit 0)) (.s (.block 1 (.o [qi 15 1 11 13,ql 16 15,qm 9 16] OM)) (.ops [qb 36 .add 13 (ki 1),qm 13 36])))
def FV:aC:=.o [qn 37 3 3,qm 38 7,qc 39 41 [37,38],qm 6 39] .ret
def Sc:aC:=.o [qx 3 3 0,qm 6 (.c .aP)] (.o [qm 7 (.c .aP)] (.s (.o [qm 11 1,qh 12 11,qm 13 (ki 0)] (.block 0 (.loop FU))) FV))
def Yz:List RA:=[(.tmp 6)]
theorem k44:au Tryd.prog (dQ [3]) 44=some ⟨40,Sc,Yz⟩:=by kernel_rfl
noncomputable abbrev X44 (r:Sl Int):Cx:=cD Tryd.prog gE 40 Yz (cg 1 (AV.int .i64) r) [3]
inductive vo where
 | p1 (c:Int) (p:af) (t11_:Sl Int) (t12_:Int) (t13_:Int) (next:Sl Int)
noncomputable def EP:vo→Option (Sl Int) | .p1 c p t11_ t12_ t13_ next=>(if (decide (t13_<t12_))=true then (ix (ls t11_) t13_>>=fun v_3=>(ix (ls p.Code) v_3>>=fun v_5=>(if (v_5.Kind==1)=true then (KR v_5.Set c>>=fun r_9=>(if r_9=true then (if ((ls next).length+(ls (some ([IntKind.wrap .i64 (v_3+1)]:List Int))).length)*8≤140737488355328 then (EP (.p1 c p t11_ t12_ (IntKind.wrap .i64 (t13_+1)) (bW next (ls (some ([IntKind.wrap .i64 (v_3+1)]:List Int)))))) else none) else (EP (.p1 c p t11_ t12_ (IntKind.wrap .i64 (t13_+1)) next)))) else (EP (.p1 c p t11_ t12_ (IntKind.wrap .i64 (t13_+1)) next))))) else (xJ p next>>=fun r_15=>(some r_15))) partial_fixpoint
def YY (x:vo) (r:Sl Int):Prop:=match x with | .p1 c p t11_ t12_ t13_ next=> ∀(tm:Fr) (st:aA) (io0:Nat),dH tm [(2,AV.int .u8 c),(3,.aQ (cE p)),(7,br 1 (AV.int .i64) next io0),(11,cg 1 (AV.int .i64) t11_),(12,AV.int .i64 t12_),(13,AV.int .i64 t13_)]→SH st [dK io0 next]→W (X44 r) [.lp FU,.blk 0,.code FV] tm st
theorem w44: ∀(x:vo) (r:Sl Int),EP x=some r→YY x r:=by
 refine EP.partial_correctness (YY) ?_;intro g ih x r hF;cases x with
 | p1 c p t11_ t12_ t13_ next=>
  dsimp only at hF;intro tm st io0 hf hs;refine en hf (lp (rn 1 z (ci hF z (fun c_2 hF=>?_) (fun c_2 hF=>?_))))
  ·refine bj hF fun v_3 g_4 hF=>rn 0 z (W.o (aM (bJ z) z g_4) (W.o (dW z z) (rn 1 z (W.o (aB z) (W.o (dW z (by first | rfl | (rw [aN];rfl))) (bj hF fun v_5 g_6 hF=>rn 1 z (W.o (aM (bJ z) z g_6) (W.o (uD (s:=dx v_5) z z z) (al hs (cs:=dx ({Kind:=0,Set:=(an.rep 4 (0:Int)),To:=0,aH:=0,bP:=0,Slot:=0}:aT)) z fun st b_7 hs=>sr hs 0 z z z (cs':=dx v_5) z z fun st hs=>rn 0 z ?_)))))))));refine W.o (aJ z (hs.g 0 z)) (W.o (l1 z (hs.g 0 z) z) (rn 2 z (bi hF (fun c_8 hF=>?_) (fun c_8 hF=>?_))))
   ·refine bL 25 z c_8 (W.on z z (W.o (aJ z (hs.g 0 z)) (W.on z z (W.o (lN (s:=jE v_5.Set) z (hs.g 0 z) z z) (bj hF fun r_9 g_10 hF=>rn 1 z (W.on z z (df (d57 _ _ _ g_10) z (rn 1 z (ci hF z (fun c_11 hF=>?_) (fun c_11 hF=>?_))))))))))
    ·exact rn 3 z (bs (f:=AV.int .i64) ([IntKind.wrap .i64 (v_3+1)]:List Int) hs z z z z fun st b_12 hs=>gj hF fun g_13 hF=>ap (ys:=ls (some ([IntKind.wrap .i64 (v_3+1)]:List Int))) hs 2 z z (eR (cO (o:=(some ([IntKind.wrap .i64 (v_3+1)]:List Int))) (id:=b_12) z)) g_13 (fun _=>z) fun st b_14 hs=>rn 3 z (ih _ _ hF _ _ b_14 lD (hs.p 3 [2] z)))
    exact rn 2 z (ih _ _ hF _ _ io0 lD (hs.p 2 [1] z))
   exact bL 25 z c_8 (rn 5 z (cf z z (rn 2 z (ih _ _ hF _ _ io0 lD (hs.p 2 [1] z)))))
  refine rn 0 z (W.o (uD (s:=cE p) z z z) (bj hF fun r_15 g_16 hF=>rn 1 z ?_));refine cl (dw z) (d41 _ _ _ g_16 _ _ io0 (fun st hs=>?_) _ hs);refine rn 1 z ?_;cases hF;exact rD (ah bG) z
noncomputable def zT (p:af) (l:Sl Int) (c:Int):Option (Sl Int):=(EP (.p1 c p l ((ls l).length:Int) 0 none))
theorem d44 (p:af) (l:Sl Int) (c:Int) (r:Sl Int) (hF:zT p l c=some r):DFun Tryd.prog gE 44 [nN p,cg 1 (AV.int .i64) l,AV.int .u8 c] (cg 1 (AV.int .i64) r):=by
 unfold zT at hF;refine bD k44 z ?_;have hs:SH [] []:=SH.nil;generalize ([]:aA)=st at hs ⊢;refine rn 0 z (W.o (aY (cs:=cE p) z z (bg _)) (rn 3 z (W.o (e_len (bJ z)) (rn 1 z ?_))));have hs:=hs.fX Int;exact w44 (.p1 c p l ((ls l).length:Int) 0 none) _ hF _ _ 0 lD hs
def SY:aC:=.o [qx 2 3 0,qm 4 kf] (.s (.draw [] 0 0 [qm 5 1,qh 6 5,qb 7 .gtr 6 (ki 0),qm 8 7,(qm 9 1).y 8,(qm 10 1).y 8,(qh 11 10).y 8,(qb 12 .sub 11 (ki 1)).y 8,(qi 13 1 9 12).y 8,(ql 14 13).y 8,(qa 15 2 2).y 8,(ql 16 15).y 8,(qh 17 16).y 8,(qb 18 .sub 17 (ki 1)).y 8,(qb 19 .eql 14 18).y 8,qp 20 8 19 kf,qm 4 20] []) .ret)
def R40:List RA:=[(.tmp 4)]
theorem k40:au Tryd.prog (dQ [2]) 40=some ⟨21,SY,R40⟩:=by kernel_rfl
noncomputable def EO (p:af) (l:Sl Int):Option Bool:=(if (decide (((ls l).length:Int)>0))=true then (ix (ls l) (IntKind.wrap .i64 (((ls l).length:Int)-1))>>=fun v_2=>(some (v_2==(IntKind.wrap .i64 (((ls p.Code).length:Int)-1))))) else (some false))
theorem d40 (p:af) (l:Sl Int) (r:Bool) (hF:EO p l=some r):DFun Tryd.prog gE 40 [nN p,cg 1 (AV.int .i64) l] (AV.bool r):=by
 unfold EO at hF;refine bD k40 z ?_;have hs:SH [] []:=SH.nil;generalize ([]:aA)=st at hs ⊢;refine rn 0 z (W.o (aY (cs:=cE p) z z (bg _)) (rn 1 z ?_));have h0:=hs;refine qq (dn 1 z (de z (e_len (bJ z)) (dn 2 z (bi hF (fun c_1 hF=>?_) (fun c_1 hF=>?_)))))
 ·refine qL 8 z c_1 (dn 2 z (gu z z (de z (e_len (bJ z)) (bj hF fun v_2 g_3 hF=>dn 1 z (gu z z (de z (aM (bJ z) z g_3) (gu z z (de z (dW z z) (gu z z (de z (aB z) (gu z z (de z (dW z (by first | rfl | (rw [aN];rfl))) ?_))))))))))));refine gu z z (de z (e_len (bJ z)) (dn 4 z (dz (rn 0 z ?_))));cases hF;exact rD (ah bG) z
 refine qL 8 z c_1 (dn 13 z (dz (rn 0 z ?_)));cases hF;exact rD (ah bG) z
def OK:aC:=.o [qm 15 5,qc 16 60 [15],qc 17 59 [3,16]] (.ops [qc 18 61 [3,(ku 32)]])
def FN:aC:=.o [qb 12 .lss 11 10] (.s (.cond 12 .skip (.exit 0)) (.s (.block 1 (.o [qi 13 1 9 11,ql 14 13,qm 5 14] OK)) (.ops [qb 19 .add 11 (ki 1),qm 11 19])))
def FP:aC:=.o [qb 25 .lss 24 23] (.s (.cond 25 .skip (.exit 2)) (.s (.block 3 (.o [qi 26 1 22 24,ql 27 26,qm 7 27] (.o [qm 28 7,qc 29 60 [28],qc 30 59 [3,29]] (.ops [qc 31 61 [3,(ku 32)]])))) (.ops [qb 32 .add 24 (ki 1),qm 24 32])))
def FQ:aC:=.o [qc 33 62 [3],qm 2 33] .ret
def FO:aC:=.o [qc 20 61 [3,(ku 47)]] (.s (.o [qa 21 1 1,ql 22 21,qh 23 22,qm 24 (ki 0)] (.block 2 (.loop FP))) FQ)
def Sa:aC:=.o [qx 1 3 0,qm 2 (.c (.str []))] (.o [q 3 (.nD 106 2 [.iF,.aP])] (.s (.o [qa 8 0 1,ql 9 8,qh 10 9,qm 11 (ki 0)] (.block 0 (.loop FN))) FO))
def Yx:List RA:=[(.tmp 2)]
theorem k42:au Tryd.prog (dQ [1]) 42=some ⟨34,Sa,Yx⟩:=by kernel_rfl
noncomputable abbrev ZZ (r:aZ):Cx:=cD Tryd.prog gE 34 Yx (AV.str r) [1]
inductive vm where
 | p1 (x_:bw) (t9_:Sl Int) (t10_:Int) (t11_:Int) (s:aZ)
 | p2 (t22_:Sl Int) (t23_:Int) (t24_:Int) (s:aZ)
noncomputable def zy:vm→Option aZ | .p1 x_ t9_ t10_ t11_ s=>(if (decide (t11_<t10_))=true then (ix (ls t9_) t11_>>=fun v_3=>(oK v_3>>=fun r_5=>(MY s r_5>>=fun r_7=>(xg r_7.2.2 32>>=fun r_9=>(zy (.p1 x_ t9_ t10_ (IntKind.wrap .i64 (t11_+1)) r_9.2)))))) else (xg s 47>>=fun r_11=>(zy (.p2 x_.b ((ls x_.b).length:Int) 0 r_11.2)))) | .p2 t22_ t23_ t24_ s=>(if (decide (t24_<t23_))=true then (ix (ls t22_) t24_>>=fun v_14=>(oK v_14>>=fun r_16=>(MY s r_16>>=fun r_18=>(xg r_18.2.2 32>>=fun r_20=>(zy (.p2 t22_ t23_ (IntKind.wrap .i64 (t24_+1)) r_20.2)))))) else (By s>>=fun r_22=>(some r_22))) partial_fixpoint
def YW (x:vm) (r:aZ):Prop:=match x with | .p1 x_ t9_ t10_ t11_ s=> ∀(tm:Fr) (st:aA) (io0:Nat),dH tm [(1,.aQ (gC x_)),(3,.ptr io0 0),(9,cg 1 (AV.int .i64) t9_),(10,AV.int .i64 t10_),(11,AV.int .i64 t11_)]→SH st [iT 106 5 io0 s]→W (ZZ r) [.lp FN,.blk 0,.code FO] tm st | .p2 t22_ t23_ t24_ s=> ∀(tm:Fr) (st:aA) (io0:Nat),dH tm [(3,.ptr io0 0),(22,cg 1 (AV.int .i64) t22_),(23,AV.int .i64 t23_),(24,AV.int .i64 t24_)]→SH st [iT 106 5 io0 s]→W (ZZ r) [.lp FP,.blk 2,.code FQ] tm st
theorem w42: ∀(x:vm) (r:aZ),zy x=some r→YW x r:=by
 refine zy.partial_correctness (YW) ?_;intro g ih x r hF;cases x with
 | p1 x_ t9_ t10_ t11_ s=>
  dsimp only at hF;intro tm st io0 hf hs;refine en hf (lp (rn 1 z (ci hF z (fun c_2 hF=>?_) (fun c_2 hF=>?_))))
  ·refine bj hF fun v_3 g_4 hF=>rn 0 z (W.o (aM (bJ z) z g_4) (W.o (dW z z) (bj hF fun r_5 g_6 hF=>rn 2 z (df (Mh v_3 _ g_6) z (bj hF fun r_7 g_8 hF=>?_)))));refine cl (dw z) (Zi s r_5 _ g_8 _ _ io0 (fun st hs=>?_) _ hs);refine bj hF fun r_9 g_10 hF=>rn 0 z ?_;refine cl (dw z) (WY r_7.2.2 32 _ g_10 _ _ io0 (fun st hs=>?_) _ hs);exact rn 2 z (ih _ _ hF _ _ io0 kj hs)
  refine bj hF fun r_11 g_12 hF=>rn 0 z ?_;refine cl (dw z) (WY s 47 _ g_12 _ _ io0 (fun st hs=>?_) _ hs);exact rn 0 z (W.o (aB z) (W.o (dW z (by first | rfl | (rw [aN];rfl))) (W.o (e_len (bJ z)) (rn 1 z (ih _ _ hF _ _ io0 iG hs)))))
 | p2 t22_ t23_ t24_ s=>
  dsimp only at hF;intro tm st io0 hf hs;refine en hf (lp (rn 1 z (ci hF z (fun c_13 hF=>?_) (fun c_13 hF=>?_))))
  ·refine bj hF fun v_14 g_15 hF=>rn 0 z (W.o (aM (bJ z) z g_15) (W.o (dW z z) (bj hF fun r_16 g_17 hF=>rn 2 z (df (Mh v_14 _ g_17) z (bj hF fun r_18 g_19 hF=>?_)))));refine cl (dw z) (Zi s r_16 _ g_19 _ _ io0 (fun st hs=>?_) _ hs);refine bj hF fun r_20 g_21 hF=>rn 0 z ?_;refine cl (dw z) (WY r_18.2.2 32 _ g_21 _ _ io0 (fun st hs=>?_) _ hs);exact rn 2 z (ih _ _ hF _ _ io0 iG hs)
  refine bj hF fun r_22 g_23 hF=>rn 0 z ?_;refine cl (dw z) (dST s _ g_23 _ _ io0 (fun st hs=>?_) _ hs);refine rn 1 z ?_;cases hF;exact rD (ah bG) z
noncomputable def ri (x_:bw):Option aZ:=(zy (.p1 x_ x_.a ((ls x_.a).length:Int) 0 ([]:aZ)))
theorem d42 (x_:bw) (r:aZ) (hF:ri x_=some r):DFun Tryd.prog gE 42 [v80 x_] (AV.str r):=by
 unfold ri at hF;refine bD k42 z ?_;have hs:SH [] []:=SH.nil;generalize ([]:aA)=st at hs ⊢;exact rn 0 z (W.o (aY (cs:=gC x_) z z (dG _)) (rn 1 z (CB (T:=5) hs fun st b_1 hs=>rn 0 z (W.o (aB z) (W.o (dW z (by first | rfl | (rw [aN];rfl))) (W.o (e_len (bJ z)) (rn 1 z (w42 (.p1 x_ x_.a ((ls x_.a).length:Int) 0 ([]:aZ)) _ hF _ _ b_1 kj hs))))))))
def FR:aC:=.o [qb 30 .lss 29 28] (.s (.cond 30 .skip (.exit 4)) (.s (.block 5 (.o [qi 31 9 27 29,qn 32 9 31,q 12 (.alloc [zb,zu,zu,zu,zu,zi,zi,zi,zi]),qs 9 12 32] (.o [qa 33 0 12,ql 34 33,qb 35 .eql 34 (ku 1)] (.cond 35 (.ops [qa 36 1 12,qn 37 4 36,qm 38 7,q 39 (.Ah .u8 38),qc 40 57 [37,39],qc 41 63 [40],q 42 (.NO (.c (.str [48,49])) 41),qc 43 61 [8,42]]) .skip)))) (.ops [qb 44 .add 29 (ki 1),qm 29 44])))
def FT:aC:=.ops [qb 45 .add 23 (ki 1),qm 23 45]
def zj:aC:=.o [qb 24 .lss 23 22] (.s (.cond 24 .skip (.exit 2)) (.s (.block 3 (.o [qi 25 1 21 23,ql 26 25,qm 10 26] (.o [qm 27 10,qh 28 27,qm 29 (ki 0)] (.block 4 (.loop FR))))) FT))
def zk:aC:=.o [qm 46 5,qc 47 62 [8],q 48 (.lookup .none (.bool false) false 46 47),q 49 (.un .not 48)] (.cond 49 (.o [qm 50 5,qc 51 62 [8],q0 (.cu .none 50 51 kt)] (.ops [qm 52 6,qm 53 7,q 54 (.Ah .u8 53),q 55 (.bE 1 1 false [zb] [(0,(1,54))] false),q 56 (.app 1 1 52 55),qm 6 56])) .skip)
def OL:aC:=.o [qm 16 14,qm 7 16] (.o [q 8 (.nD 106 2 [.iF,.aP])] (.s (.o [qa 17 2 2,ql 18 17,qa 19 2 3,ql 20 19,q 21 (.bE 1 2 false [.aP] [(0,(1,18)),(1,(1,20))] false),qh 22 21,qm 23 (ki 0)] (.block 2 (.loop zj))) zk))
def zl:aC:=.ops [qb 57 .add 14 (ki 1),qm 14 57]
def vb:aC:=.o [qb 15 .lss 14 (ki 256)] (.s (.cond 15 .skip (.exit 0)) (.s (.block 1 OL) zl))
def vc:aC:=.o [qm 58 6,qm 4 58] .ret
def Sb:aC:=.o [qx 2 3 0,qx 3 3 1,qm 4 (.c .aP)] (.o [q 13 (.fI .none),qm 5 13] (.o [qm 6 (.c .aP)] (.s (.o [qm 14 (ki 0)] (.block 0 (.loop vb))) vc)))
def Yy:List RA:=[(.tmp 4)]
theorem k43:au Tryd.prog (dQ [2,3]) 43=some ⟨59,Sb,Yy⟩:=by kernel_rfl
noncomputable abbrev XV (r:Sl Int):Cx:=cD Tryd.prog gE 59 Yy (cg 1 (AV.int .u8) r) [2,3]
inductive vn where
 | p1 (p:af) (q_:af) (t14_:Int) (seen:Mp aZ Bool) (out:Sl Int)
 | p2 (p:af) (q_:af) (c:Int) (t14_:Int) (t21_:Sl (Sl aT)) (t22_:Int) (t23_:Int) (seen:Mp aZ Bool) (out:Sl Int) (s:aZ)
 | p3 (p:af) (q_:af) (c:Int) (t14_:Int) (t21_:Sl (Sl aT)) (t22_:Int) (t23_:Int) (t27_:Sl aT) (t28_:Int) (t29_:Int) (seen:Mp aZ Bool) (out:Sl Int) (s:aZ)
noncomputable def nZ:vn→Option (Sl Int) | .p1 p q_ t14_ seen out=>(if (decide (t14_<256))=true then (nZ (.p2 p q_ t14_ t14_ (some ([p.Code,q_.Code]:List (Sl aT))) ((ls (some ([p.Code,q_.Code]:List (Sl aT)))).length:Int) 0 seen out ([]:aZ))) else (some out)) | .p2 p q_ c t14_ t21_ t22_ t23_ seen out s=>(if (decide (t23_<t22_))=true then (ix (ls t21_) t23_>>=fun v_7=>(nZ (.p3 p q_ c t14_ t21_ t22_ t23_ v_7 ((ls v_7).length:Int) 0 seen out s))) else (By s>>=fun r_9=>(if (!(Option.getD (Mp.get seen r_9) false))=true then (By s>>=fun r_12=>(some (Mp.put seen r_12 true)>>=fun m_15=>(if ((ls out).length+(ls (some ([IntKind.wrap .u8 c]:List Int))).length)*1≤140737488355328 then (nZ (.p1 p q_ (IntKind.wrap .i64 (t14_+1)) m_15 (bW out (ls (some ([IntKind.wrap .u8 c]:List Int)))))) else none))) else (nZ (.p1 p q_ (IntKind.wrap .i64 (t14_+1)) seen out))))) | .p3 p q_ c t14_ t21_ t22_ t23_ t27_ t28_ t29_ seen out s=>(if (decide (t29_<t28_))=true then (ix (ls t27_) t29_>>=fun v_21=>(if (v_21.Kind==1)=true then (KR v_21.Set (IntKind.wrap .u8 c)>>=fun r_25=>(Oz r_25>>=fun r_27=>(ix ([48,49]:aZ) r_27>>=fun b_29=>(xg s (b_29.toNat:Int)>>=fun r_31=>(nZ (.p3 p q_ c t14_ t21_ t22_ t23_ t27_ t28_ (IntKind.wrap .i64 (t29_+1)) seen out r_31.2)))))) else (nZ (.p3 p q_ c t14_ t21_ t22_ t23_ t27_ t28_ (IntKind.wrap .i64 (t29_+1)) seen out s)))) else (nZ (.p2 p q_ c t14_ t21_ t22_ (IntKind.wrap .i64 (t23_+1)) seen out s))) partial_fixpoint
def YX (x:vn) (r:Sl Int):Prop:=match x with | .p1 p q_ t14_ seen out=> ∀(tm:Fr) (st:aA) (io0:Nat) (io1:Nat),dH tm [(2,.aQ (cE p)),(3,.aQ (cE q_)),(5,.mp io0),(6,br 1 (AV.int .u8) out io1),(14,AV.int .i64 t14_)]→SH st [pt io0 (.map none (mS AV.bool seen) seen.n),dK io1 out]→W (XV r) [.lp vb,.blk 0,.code vc] tm st | .p2 p q_ c t14_ t21_ t22_ t23_ seen out s=> ∀(tm:Fr) (st:aA) (io0:Nat) (io1:Nat) (io2:Nat),dH tm [(2,.aQ (cE p)),(3,.aQ (cE q_)),(5,.mp io0),(6,br 1 (AV.int .u8) out io1),(7,AV.int .i64 c),(8,.ptr io2 0),(14,AV.int .i64 t14_),(21,cg 1 (cg 9 v76) t21_),(22,AV.int .i64 t22_),(23,AV.int .i64 t23_)]→SH st [pt io0 (.map none (mS AV.bool seen) seen.n),dK io1 out,iT 106 5 io2 s]→W (XV r) [.lp zj,.blk 2,.code zk,.blk 1,.code zl,.lp vb,.blk 0,.code vc] tm st | .p3 p q_ c t14_ t21_ t22_ t23_ t27_ t28_ t29_ seen out s=> ∀(tm:Fr) (st:aA) (io0:Nat) (io1:Nat) (io2:Nat),dH tm [(2,.aQ (cE p)),(3,.aQ (cE q_)),(5,.mp io0),(6,br 1 (AV.int .u8) out io1),(7,AV.int .i64 c),(8,.ptr io2 0),(14,AV.int .i64 t14_),(21,cg 1 (cg 9 v76) t21_),(22,AV.int .i64 t22_),(23,AV.int .i64 t23_),(27,cg 9 v76 t27_),(28,AV.int .i64 t28_),(29,AV.int .i64 t29_)]→SH st [pt io0 (.map none (mS AV.bool seen) seen.n),dK io1 out,iT 106 5 io2 s]→W (XV r) [.lp FR,.blk 4,.blk 3,.code FT,.lp zj,.blk 2,.code zk,.blk 1,.code zl,.lp vb,.blk 0,.code vc] tm st
theorem w43: ∀(x:vn) (r:Sl Int),nZ x=some r→YX x r:=by
 refine nZ.partial_correctness (YX) ?_;intro g ih x r hF;cases x with
 | p1 p q_ t14_ seen out=>
  dsimp only at hF;intro tm st io0 io1 hf hs;refine en hf (lp (rn 1 z (ci hF z (fun c_3 hF=>?_) (fun c_3 hF=>?_))))
  ·exact rn 2 z (CB (T:=5) hs fun st b_4 hs=>rn 0 z (W.o (aB z) (W.o (dW z (by first | rfl | (rw [aN];rfl))) (W.o (aB z) (W.o (dW z (by first | rfl | (rw [aN];rfl))) (bs (f:=cg 9 v76) ([p.Code,q_.Code]:List (Sl aT)) hs (by try generalize p.Code=y0_;try generalize q_.Code=y1_;(try cases y0_)<;>(try cases y1_)<;>rfl) (by try generalize p.Code=y0_;try generalize q_.Code=y1_;(try cases y0_)<;>(try cases y1_)<;>rfl) (by try generalize p.Code=y0_;try generalize q_.Code=y1_;(try cases y0_)<;>(try cases y1_)<;>rfl) z fun st b_5 hs=>W.o (e_len (cO (o:=(some ([p.Code,q_.Code]:List (Sl aT)))) (id:=b_5) z)) (rn 1 z (Ru (gm (S:=[21]) ⟨(xL (es:=1) (f:=cg 9 v76) (o:=(some ([p.Code,q_.Code]:List (Sl aT)))) (id:=b_5)).1,trivial⟩) (ih _ _ hF _ _ io0 io1 b_4 ⟨z,z,z,z,z,z,z,(xL (es:=1) (f:=cg 9 v76) (o:=(some ([p.Code,q_.Code]:List (Sl aT)))) (id:=b_5)).2,z,z,trivial⟩ (hs.p 4 [2,2,1] z))))))))))
  refine rn 2 z ?_;cases hF;exact Zv (ah bG) xL
 | p2 p q_ c t14_ t21_ t22_ t23_ seen out s=>
  dsimp only at hF;intro tm st io0 io1 io2 hf hs;refine en hf (lp (rn 1 z (ci hF z (fun c_6 hF=>?_) (fun c_6 hF=>?_))))
  ·exact bj hF fun v_7 g_8 hF=>rn 0 z (W.o (aM (bJ z) z g_8) (W.o (dW z (by first | rfl | (rw [aN];rfl))) (rn 2 z (W.o (e_len (bJ z)) (rn 1 z (ih _ _ hF _ _ io0 io1 io2 RZ hs))))))
  refine bj hF fun r_9 g_10 hF=>rn 1 z ?_;refine cl (dw z) (Xh s _ g_10 _ _ io2 (fun st hs=>?_) _ (hs.p 3 [2,0,0] z));refine W.o (fN (f:=AV.bool) (z:=false) z (hs.g 1 z) z z) (rn 1 z (ci hF z (fun c_11 hF=>?_) (fun c_11 hF=>?_)))
  ·refine bj hF fun r_12 g_13 hF=>rn 1 z ?_;refine cl (dw z) (Xi s _ g_13 _ _ io2 (fun st hs=>?_) _ hs);obtain ⟨m_15,e_16,hF⟩:=gM hF;refine Lf (f:=AV.bool) true hs 1 z z z z z fun st hs=>?_;rw [e_16] at hs;exact rn 3 z (bs (f:=AV.int .u8) ([IntKind.wrap .u8 c]:List Int) hs z z z z fun st b_17 hs=>gj hF fun g_18 hF=>ap (ys:=ls (some ([IntKind.wrap .u8 c]:List Int))) hs 3 z z (eR (cO (o:=(some ([IntKind.wrap .u8 c]:List Int))) (id:=b_17) z)) g_18 (fun _=>z) fun st b_19 hs=>rn 3 z (ih _ _ hF _ _ io0 b_19 kj (hs.p 4 [2,2] z)))
  exact rn 2 z (ih _ _ hF _ _ io0 io1 kj (hs.p 3 [1,1] z))
 | p3 p q_ c t14_ t21_ t22_ t23_ t27_ t28_ t29_ seen out s=>
  dsimp only at hF;intro tm st io0 io1 io2 hf hs;refine en hf (lp (rn 1 z (ci hF z (fun c_20 hF=>?_) (fun c_20 hF=>?_))))
  ·refine bj hF fun v_21 g_22 hF=>rn 0 z (W.o (aM (bJ z) z g_22) (W.o (uD (s:=dx v_21) z z z) (al hs (cs:=dx ({Kind:=0,Set:=(an.rep 4 (0:Int)),To:=0,aH:=0,bP:=0,Slot:=0}:aT)) z fun st b_23 hs=>sr hs 0 z z z (cs':=dx v_21) z z fun st hs=>rn 0 z (W.o (aJ z (hs.g 0 z)) (W.o (l1 z (hs.g 0 z) z) (rn 1 z (ci hF z (fun c_24 hF=>?_) (fun c_24 hF=>?_))))))))
   ·refine rn 0 z (W.o (aJ z (hs.g 0 z)) (W.o (lN (s:=jE v_21.Set) z (hs.g 0 z) z z) (bj hF fun r_25 g_26 hF=>rn 2 z (df (d57 _ _ _ g_26) z (bj hF fun r_27 g_28 hF=>df (d63 _ _ g_28) z (bj hF fun b_29 g_30 hF=>W.o (Mm z z g_30) (bj hF fun r_31 g_32 hF=>?_)))))));refine cl (dw z) (WY s (b_29.toNat:Int) _ g_32 _ _ io2 (fun st hs=>?_) _ (hs.p 4 [3,0,0,0] z));exact rn 2 z (ih _ _ hF _ _ io0 io1 io2 RZ (hs.p 4 [2,2,0] z))
   exact rn 2 z (ih _ _ hF _ _ io0 io1 io2 RZ (hs.p 4 [1,1,1] z))
  exact rn 2 z (ih _ _ hF _ _ io0 io1 io2 qC hs)
noncomputable def Jv (p:af) (q_:af):Option (Sl Int):=(nZ (.p1 p q_ 0 (Mp.empty:Mp aZ Bool) none))
theorem d43 (p:af) (q_:af) (r:Sl Int) (hF:Jv p q_=some r):DFun Tryd.prog gE 43 [nN p,nN q_] (cg 1 (AV.int .u8) r):=by
 unfold Jv at hF;refine bD k43 z ?_;have hs:SH [] []:=SH.nil;generalize ([]:aA)=st at hs ⊢;refine rn 0 z (W.o (aY (cs:=cE p) z z (bg _)) (W.o (aY (cs:=cE q_) z z (bg _)) (rn 1 z (Vb AV.bool hs fun st b_1 hs=>rn 3 z ?_))));have hs:=hs.fX Int;exact w43 (.p1 p q_ 0 (Mp.empty:Mp aZ Bool) none) _ hF _ _ b_1 0 kj (hs.p 2 [1,0] z)
def SF:aC:=.o [qm 4 kf] (.o [qm 5 0,qm 6 1,q 7 (.xM true 5 6),qm 4 7] .ret)
def R23:List RA:=[(.tmp 4)]
theorem k23:au Tryd.prog (dQ []) 23=some ⟨8,SF,R23⟩:=by kernel_rfl
noncomputable def Rd (x_:Bool) (y:Bool):Option Bool:=(some (!(x_==y)))
theorem d23 (x_:Bool) (y:Bool) (r:Bool) (hF:Rd x_ y=some r):DFun Tryd.prog gE 23 [AV.bool x_,AV.bool y] (AV.bool r):=by
 unfold Rd at hF;refine bD k23 z ?_;have hs:SH [] []:=SH.nil;generalize ([]:aA)=st at hs ⊢;refine rn 5 z ?_;cases hF;exact rD (ah bG) z
def SN:aC:=.o [qm 4 kf] (.o [qm 5 0,qm 6 5,(qm 7 1).y 6,(q 8 (.un .not 7)).y 6,qp 9 6 8 kf,qm 4 9] .ret)
def R30:List RA:=[(.tmp 4)]
theorem k30:au Tryd.prog (dQ []) 30=some ⟨10,SN,R30⟩:=by kernel_rfl
noncomputable def WA (x_:Bool) (y:Bool):Option Bool:=(if x_=true then (some (!y)) else (some false))
theorem d30 (x_:Bool) (y:Bool) (r:Bool) (hF:WA x_ y=some r):DFun Tryd.prog gE 30 [AV.bool x_,AV.bool y] (AV.bool r):=by
 unfold WA at hF;refine bD k30 z ?_;have hs:SH [] []:=SH.nil;generalize ([]:aA)=st at hs ⊢;refine rn 3 z (bi hF (fun c_1 hF=>?_) (fun c_1 hF=>?_))
 ·refine bL 6 z c_1 (rn 4 z ?_);cases hF;exact rD (ah bG) z
 refine bL 6 z c_1 (rn 4 z ?_);cases hF;exact rD (ah bG) z
end Go.Proofs.YtcidnoghoifmmaaDoor
end
section
set_option maxRecDepth 4000
set_option maxHeartbeats 4000000
namespace Go.Proofs.YtcidnoghoifmmaaDoor
open Go AW
attribute [local irreducible] W WD SH XS XLoop DFun XCall XYield
def SO:aC:=.o [qm 4 kf] (.o [qm 5 0,qm 6 5,(qm 7 1).y 6,qp 8 6 7 kf,qm 4 8] .ret)
def R31:List RA:=[(.tmp 4)]
theorem k31:au Tryd.prog (dQ []) 31=some ⟨9,SO,R31⟩:=by kernel_rfl
noncomputable def Rf (x_:Bool) (y:Bool):Option Bool:=(if x_=true then (some y) else (some false))
theorem d31 (x_:Bool) (y:Bool) (r:Bool) (hF:Rf x_ y=some r):DFun Tryd.prog gE 31 [AV.bool x_,AV.bool y] (AV.bool r):=by
 unfold Rf at hF;refine bD k31 z ?_;have hs:SH [] []:=SH.nil;generalize ([]:aA)=st at hs ⊢;refine rn 3 z (bi hF (fun c_1 hF=>?_) (fun c_1 hF=>?_))
 ·refine bL 6 z c_1 (rn 3 z ?_);cases hF;exact rD (ah bG) z
 refine bL 6 z c_1 (rn 3 z ?_);cases hF;exact rD (ah bG) z
def SX:aC:=.o [qx 4 3 0,qm 5 kf] (.s (.draw [] 0 0 [ql 6 1,qn 7 3 2,qa 8 0 4,ql 9 8,qn 11 3 3,qa 12 1 4,ql 13 12,qc 10 40 [7,9],qc 14 40 [11,13]] [qf 15 6 [10,14],qm 5 15]) .ret)
def R39:List RA:=[(.tmp 5)]
theorem k39:au Tryd.prog (dQ [4]) 39=some ⟨16,SX,R39⟩:=by kernel_rfl
noncomputable def KO (x_:bw) (q0_:af) (q1_:af):Option (Bool × af × af):=(EO q0_ x_.a>>=fun r_1=>(EO q1_ x_.b>>=fun r_3=>(Rd r_1 r_3>>=fun r_5=>(some (r_5,q0_,q1_)))))
theorem d39 (x_:bw) (q0_:af) (q1_:af) (r:Bool × af × af) (hF:KO x_ q0_ q1_=some r): ∀(K:AV→aA→Prop) (Ls:List bU) (iQ0:Nat) (iQ1:Nat),(∀st,SH st (pt iQ0 (.cells (cE r.2.1))::pt iQ1 (.cells (cE r.2.2))::Ls)→K (AV.bool r.1) st)→ ∀(st:aA),SH st (pt iQ0 (.cells (cE q0_))::pt iQ1 (.cells (cE q1_))::Ls)→XCall Tryd.prog gE 39 [v80 x_,.aQ [.fn 23 []],.ptr iQ0 0,.ptr iQ1 0] st K:=by
 unfold KO at hF;intro K Ls iQ0 iQ1 hK  st hs;refine bS k39 z (rn 0 z (W.o (aY (cs:=gC x_) z z (dG _)) (rn 1 z ?_)));have h0:=hs;refine qq (de z (dW z z) (de z (lN (s:=cE q0_) z (h0.g 0 z) z z) (de z (aB z) (de z (dW z (by first | rfl | (rw [aN];rfl))) (de z (lN (s:=cE q1_) z (h0.g 1 z) z z) (de z (aB z) (de z (dW z (by first | rfl | (rw [aN];rfl))) (bj hF fun r_1 g_2 hF=>xK (d40 _ _ _ g_2) z (bj hF fun r_3 g_4 hF=>xK (d40 _ _ _ g_4) z (dz (bj hF fun r_5 g_6 hF=>?_)))))))))));refine WX z (by kernel_rfl) (d23 _ _ _ g_6) z (rn 1 z ?_);cases hF;exact rS (ah bG) (hK _ hs) z
def Ny:aC:=.cond 66 .skip (.exit 2)
def Gz:List bZ:=qc 76 44 [69,74,75]::qc 84 44 [77,82,83]::q 94 (.build [.aP,.aP,(.str [])] [(0,(1,76)),(1,(1,84)),(2,(1,93))])::[]
def Gy:List bZ:=qn 69 3 9::qm 70 15::qm 71 17::qi 72 3 70 71::qa 73 0 72::ql 74 73::qm 75 19::qn 77 3 11::qm 78 15::qm 79 17::qi 80 3 78 79::qa 81 1 80::ql 82 81::qm 83 19::qm 85 15::qm 86 17::qi 87 3 85 86::qa 88 2 87::ql 89 88::qm 90 19::q 91 (.bE 1 1 false [zb] [(0,(1,90))] false)::q 92 (.KA 91)::q 93 (.jt .add 89 92)::q 20 (.alloc [.aP,.aP,(.str [])])::Gz
def Ed:aC:=.cond 110 (.exit 3) .skip
def Ee:aC:=.s (.o [qm 111 15,qh 112 111,qb 113 .eql 112 (ki 4096)] (.cond 113 (.o [qm 6 (.c (.str [])),qm 7 kf,qm 8 (ki 3)] .ret) .skip)) (.s (.o [qm 114 12,qn 115 3 20,qf 116 114 [115]] (.cond 116 (.o [qa 117 2 20,ql 118 117,qm 6 118,qm 7 kt,qm 8 (ki 0)] .ret) .skip)) (.o [qm 119 14,qn 120 3 20,qc 121 42 [120],q0 (.cu .none 119 121 kt)] (.ops [qm 122 15,qn 123 3 20,q 124 (.bE 3 1 true [.aP,.aP,(.str [])] [(0,(3,123))] false),q 125 (.app 3 64 122 124),qm 15 125])))
def Ef:aC:=.ops [qb 126 .add 65 (ki 1),qm 65 126]
def Nz:aC:=.s (.block 3 (.o [qi 67 1 63 65,ql 68 67,qm 19 68] (.s (.draw [] 0 2 Gy [qs 3 20 94]) (.s (.o [qa 95 0 20,ql 96 95,qh 97 96,qb 98 .eql 97 (ki 0),qm 99 98,(qa 100 1 20).y 99,(ql 101 100).y 99,(qh 102 101).y 99,(qb 103 .eql 102 (ki 0)).y 99,qp 104 99 103 kf,qm 105 104,(qm 106 14).n 105,(qn 107 3 20).n 105,(qc 108 42 [107]).n 105,(q 109 (.lookup .none (.bool false) false 106 108)).n 105,qp 110 105 kt 109] Ed) Ee)))) Ef
def zW:aC:=.o [qb 66 .lss 65 64] (.s Ny Nz)
def zX:aC:=.ops [qm 61 17,qb 62 .add 61 (ki 1),qm 17 62]
def vU:aC:=.s (.o [qm 57 17,qm 58 15,qh 59 58,qb 60 .lss 57 59] (.cond 60 .skip (.exit 0))) (.s (.block 1 (.o [qm 63 16,qh 64 63,qm 65 (ki 0)] (.block 2 (.loop zW)))) zX)
def vV:aC:=.o [qm 6 (.c (.str [])),qm 7 kf,qm 8 (ki 0)] .ret
def Nx:aC:=.s (.o [qm 17 (ki 0)] (.block 0 (.loop vU))) vV
def SE:aC:=.o [qx 3 9 0,qx 4 9 1,qx 5 1 2,qm 6 (.c (.str [])),qm 7 kf,qm 8 (ki 0)] (.o [qn 22 9 3,qc 23 32 [22],qm 21 23,qe 24 21 0,qe 25 21 1,q 9 (.alloc [zi,zi,.aP]),qs 3 9 24,qm 10 25] (.s (.o [qm 26 10,qb 27 .neq 26 (ki 0)] (.cond 27 (.o [qm 28 10,qm 6 (.c (.str [])),qm 7 kf,qm 8 28] .ret) .skip)) (.o [qn 30 9 4,qc 31 32 [30],qm 29 31,qe 32 29 0,qe 33 29 1,q 11 (.alloc [zi,zi,.aP]),qs 3 11 32,qm 10 33] (.s (.o [qm 34 10,qb 35 .neq 34 (ki 0)] (.cond 35 (.o [qm 36 10,qm 6 (.c (.str [])),qm 7 kf,qm 8 36] .ret) .skip)) (.o [q 37 (.mZ 39 [5,9,11]),qm 12 37] (.s (.draw [] 0 3 [qn 38 3 9,q 39 (.bE 1 1 false [zi] [(0,(1,(ki 0)))] false),qn 41 3 11,q 42 (.bE 1 1 false [zi] [(0,(1,(ki 0)))] false),q 13 (.alloc [.aP,.aP,(.str [])]),qf 40 (.c (.fn 41 [])) [38,39],qf 43 (.c (.fn 41 [])) [41,42],q 44 (.build [.aP,.aP,(.str [])] [(0,(1,40)),(1,(1,43))])] [qs 3 13 44]) (.s (.o [qm 45 12,qn 46 3 13,qf 47 45 [46]] (.cond 47 (.o [qm 6 (.c (.str [])),qm 7 kt,qm 8 (ki 0)] .ret) .skip)) (.o [q 48 (.fI .none),qn 49 3 13,qc 50 42 [49],q0 (.cu .none 48 50 kt),qm 51 48,qm 14 51] (.o [qn 52 3 13,q 53 (.bE 3 1 true [.aP,.aP,(.str [])] [(0,(3,52))] false),qm 15 53] (.o [qn 54 3 9,qn 55 3 11,qc 56 43 [54,55],qm 16 56] Nx))))))))))
def Yp:List RA:=[(.tmp 6),(.tmp 7),(.tmp 8)]
theorem k22:au Tryd.prog (dQ [3,4,5,40,43]) 22=some ⟨127,SE,Yp⟩:=by kernel_rfl
noncomputable abbrev XT (r:aZ × Bool × Int):Cx:=cD Tryd.prog gE 127 Yp (AV.bt [AV.str r.1,AV.bool r.2.1,AV.int .i64 r.2.2]) [3,4,5,40,43]
inductive vk where
 | p1 (bytes:Sl Int) (k:Int) (p:af) (q_:af) (seen:Mp aZ Bool) (l:Sl bw)
 | p2 (bytes:Sl Int) (k:Int) (t63_:Sl Int) (t64_:Int) (t65_:Int) (p:af) (q_:af) (seen:Mp aZ Bool) (l:Sl bw)
 | p3 (bytes:Sl Int) (k:Int) (t63_:Sl Int) (t64_:Int) (t65_:Int) (t110_:Bool) (p:af) (q_:af) (seen:Mp aZ Bool) (l:Sl bw) (x_:bw)
noncomputable def uY:vk→Option (aZ × Bool × Int) | .p1 bytes k p q_ seen l=>(if (decide (k<((ls l).length:Int)))=true then (uY (.p2 bytes k bytes ((ls bytes).length:Int) 0 p q_ seen l)) else (some (([]:aZ),false,0))) | .p2 bytes k t63_ t64_ t65_ p q_ seen l=>(if (decide (t65_<t64_))=true then (ix (ls t63_) t65_>>=fun v_34=>(ix (ls l) k>>=fun v_39=>(ix (ls l) k>>=fun v_41=>(ix (ls l) k>>=fun v_43=>(if (v_43.text).length+(cL (ls (some ([v_34]:List Int)))).length≤9223372036854775807 then (zT p v_39.a v_34>>=fun r_48=>(zT q_ v_41.b v_34>>=fun r_50=>(if (((ls r_48).length:Int)==0)=true then (if (((ls r_50).length:Int)==0)=true then (uY (.p2 bytes k t63_ t64_ (IntKind.wrap .i64 (t65_+1)) p q_ seen l)) else (ri ({a:=r_48,b:=r_50,text:=v_43.text++(cL (ls (some ([v_34]:List Int))))}:bw)>>=fun r_54=>(uY (.p3 bytes k t63_ t64_ t65_ (Option.getD (Mp.get seen r_54) false) p q_ seen l ({a:=r_48,b:=r_50,text:=v_43.text++(cL (ls (some ([v_34]:List Int))))}:bw))))) else (ri ({a:=r_48,b:=r_50,text:=v_43.text++(cL (ls (some ([v_34]:List Int))))}:bw)>>=fun r_56=>(uY (.p3 bytes k t63_ t64_ t65_ (Option.getD (Mp.get seen r_56) false) p q_ seen l ({a:=r_48,b:=r_50,text:=v_43.text++(cL (ls (some ([v_34]:List Int))))}:bw))))))) else none))))) else (uY (.p1 bytes (IntKind.wrap .i64 (k+1)) p q_ seen l))) | .p3 bytes k t63_ t64_ t65_ t110_ p q_ seen l x_=>(if t110_=true then (uY (.p2 bytes k t63_ t64_ (IntKind.wrap .i64 (t65_+1)) p q_ seen l)) else (if (((ls l).length:Int)==4096)=true then (some (([]:aZ),false,3)) else (KO x_ p q_>>=fun r_60=>(if r_60.1=true then (some (x_.text,true,0)) else (ri x_>>=fun r_63=>(some (Mp.put seen r_63 true)>>=fun m_66=>(if ((ls l).length+(ls (some ([x_]:List bw))).length)*64≤140737488355328 then (uY (.p2 bytes k t63_ t64_ (IntKind.wrap .i64 (t65_+1)) r_60.2.1 r_60.2.2 m_66 (bW l (ls (some ([x_]:List bw)))))) else none))))))) partial_fixpoint
def YP (x:vk) (r:aZ × Bool × Int):Prop:=match x with | .p1 bytes k p q_ seen l=> ∀(tm:Fr) (st:aA) (io0:Nat) (io1:Nat) (io2:Nat) (io3:Nat),dH tm [(9,.ptr io0 0),(11,.ptr io1 0),(12,.fn 39 [.aQ [.fn 23 []],.ptr io0 0,.ptr io1 0]),(14,.mp io2),(15,br 3 v80 l io3),(16,cg 1 (AV.int .u8) bytes),(17,AV.int .i64 k)]→SH st [pt io0 (.cells (cE p)),pt io1 (.cells (cE q_)),pt io2 (.map none (mS AV.bool seen) seen.n),dK io3 l]→W (XT r) [.lp vU,.blk 0,.code vV] tm st | .p2 bytes k t63_ t64_ t65_ p q_ seen l=> ∀(tm:Fr) (st:aA) (io0:Nat) (io1:Nat) (io2:Nat) (io3:Nat),dH tm [(9,.ptr io0 0),(11,.ptr io1 0),(12,.fn 39 [.aQ [.fn 23 []],.ptr io0 0,.ptr io1 0]),(14,.mp io2),(15,br 3 v80 l io3),(16,cg 1 (AV.int .u8) bytes),(17,AV.int .i64 k),(63,cg 1 (AV.int .u8) t63_),(64,AV.int .i64 t64_),(65,AV.int .i64 t65_)]→SH st [pt io0 (.cells (cE p)),pt io1 (.cells (cE q_)),pt io2 (.map none (mS AV.bool seen) seen.n),dK io3 l]→W (XT r) [.lp zW,.blk 2,.blk 1,.code zX,.lp vU,.blk 0,.code vV] tm st | .p3 bytes k t63_ t64_ t65_ t110_ p q_ seen l x_=> ∀(tm:Fr) (st:aA) (io0:Nat) (io1:Nat) (io2:Nat) (io3:Nat) (io4:Nat),dH tm [(9,.ptr io0 0),(11,.ptr io1 0),(12,.fn 39 [.aQ [.fn 23 []],.ptr io0 0,.ptr io1 0]),(14,.mp io2),(15,br 3 v80 l io3),(16,cg 1 (AV.int .u8) bytes),(17,AV.int .i64 k),(20,.ptr io4 0),(63,cg 1 (AV.int .u8) t63_),(64,AV.int .i64 t64_),(65,AV.int .i64 t65_),(110,AV.bool t110_)]→SH st [pt io0 (.cells (cE p)),pt io1 (.cells (cE q_)),pt io2 (.map none (mS AV.bool seen) seen.n),dK io3 l,pt io4 (.cells (gC x_))]→W (XT r) [.code Ed,.code Ee,.blk 3,.code Ef,.lp zW,.blk 2,.blk 1,.code zX,.lp vU,.blk 0,.code vV] tm st
theorem w22: ∀(x:vk) (r:aZ × Bool × Int),uY x=some r→YP x r:=by
 refine uY.partial_correctness (YP) ?_;intro g ih x r hF;cases x with
 | p1 bytes k p q_ seen l=>
  dsimp only at hF;intro tm st io0 io1 io2 io3 hf hs;refine en hf (lp (rn 2 z (W.o (e_len (cO (o:=l) (id:=io3) z)) (rn 1 z (ci hF z (fun c_32 hF=>?_) (fun c_32 hF=>?_))))))
  ·exact rn 1 z (W.o (e_len (bJ z)) (rn 1 z (ih _ _ hF _ _ io0 io1 io2 io3 qC hs)))
  refine rn 3 z ?_;cases hF;exact rD (ah (ah (ah bG))) z
 | p2 bytes k t63_ t64_ t65_ p q_ seen l=>
  dsimp only at hF;intro tm st io0 io1 io2 io3 hf hs;refine en hf (lp (rn 1 z (ci hF z (fun c_33 hF=>?_) (fun c_33 hF=>?_))))
  ·refine bj hF fun v_34 g_35 hF=>rn 0 z (W.o (aM (bJ z) z g_35) (W.o (dW z z) (rn 1 z (Ai hs fun s_36 st h0 hs=>de z (lN (s:=cE p) z (h0.g 0 z) z z) (bj hF fun v_39 g_40 hF=>dn 2 z (de z (aM (cO (o:=l) (id:=io3) z) z g_40) (de z (aB z) (de z (dW z (by first | rfl | (rw [aN];rfl))) (dn 1 z (de z (lN (s:=cE q_) z (h0.g 1 z) z z) ?_))))))))));refine bj hF fun v_41 g_42 hF=>dn 2 z (de z (aM (cO (o:=l) (id:=io3) z) z g_42) (de z (aB z) (de z (dW z (by first | rfl | (rw [aN];rfl))) (bj hF fun v_43 g_44 hF=>dn 3 z (de z (aM (cO (o:=l) (id:=io3) z) z g_44) (de z (aB z) (de z (dW z z) (dn 1 z (CJ (f:=AV.int .u8) ([v_34]:List Int) hs 0 z z z z z z fun st hs=>de z (yD (cO (o:=(some ([v_34]:List Int))) (id:=(List.length s_36+0)) z)) (gj hF fun g_46 hF=>?_))))))))));refine de z (yF z z (wg _ _ g_46)) (IC hs 1 (cs:=gC ({a:=none,b:=none,text:=[]}:bw)) z z z fun st hs=>bj hF fun r_48 g_49 hF=>xK (d44 _ _ _ _ g_49) z (bj hF fun r_50 g_51 hF=>xK (d44 _ _ _ _ g_51) z (de z (dY (z:=[.aP,.aP,(.str [])]) (cs:=gC ({a:=r_48,b:=r_50,text:=v_43.text++(cL (ls (some ([v_34]:List Int))))}:bw)) (bO (cs:=fF 1 (AV.int .i64) r_48) (v:=cg 1 (AV.int .i64) r_48) z aN (aO _) (by decide) (bO (cs:=fF 1 (AV.int .i64) r_50) (v:=cg 1 (AV.int .i64) r_50) z aN (aO _) (by decide) (bO (cs:=cS (v_43.text++(cL (ls (some ([v_34]:List Int)))))) z z (fo _) (by decide) eV))) (show av (gC ({a:=none,b:=none,text:=[]}:bw)) _=_ from (bf (mY 0 1 (fF 1 (AV.int .i64) r_48) z z) ((aO _).trans (aO _).symm) (bf (mY 1 1 (fF 1 (AV.int .i64) r_50) z z) ((aO _).trans (aO _).symm) (bf (mY 2 1 (cS (v_43.text++(cL (ls (some ([v_34]:List Int)))))) z z) ((fo _).trans (fo _).symm) (fJ _)))))) (dz (sl hs 1 z z (LR.whole _ _) (eM _) z (eM _) (dG _) z fun st hs=>rn 0 z (W.o (aJ z (hs.g 1 z)) (W.o (l1 z (hs.g 1 z) z) (W.o (e_len (bJ z)) (rn 2 z ?_)))))))));refine bi hF (fun c_52 hF=>?_) (fun c_52 hF=>?_)
   ·refine bL 99 z c_52 (W.on z z (W.o (aJ z (hs.g 1 z)) (W.on z z (W.o (l1 z (hs.g 1 z) z) (W.on z z (W.o (e_len (bJ z)) (rn 3 z (bi hF (fun c_53 hF=>?_) (fun c_53 hF=>?_)))))))))
    ·exact bL 105 z c_53 (rn 5 z (ct z z (rn 2 z (ih _ _ hF _ _ io0 io1 io2 io3 qC (hs.p 6 [2,2,2,2] z)))))
    exact bL 105 z c_53 (rn 1 z (W.on z z (W.o (lN (s:=gC ({a:=r_48,b:=r_50,text:=v_43.text++(cL (ls (some ([v_34]:List Int))))}:bw)) z (hs.g 1 z) z z) (bj hF fun r_54 g_55 hF=>W.on z z (df (d42 _ _ g_55) z (W.on z z (W.o (fN (f:=AV.bool) (z:=false) z (hs.g 4 z) z z) (rj 1 1 z (ih _ _ hF _ _ io0 io1 io2 io3 (List.length s_36+1) EN (hs.p 6 [2,2,2,2,1] z))))))))))
   exact bL 99 z c_52 (rn 7 z (W.on z z (W.o (lN (s:=gC ({a:=r_48,b:=r_50,text:=v_43.text++(cL (ls (some ([v_34]:List Int))))}:bw)) z (hs.g 1 z) z z) (bj hF fun r_56 g_57 hF=>W.on z z (df (d42 _ _ g_57) z (W.on z z (W.o (fN (f:=AV.bool) (z:=false) z (hs.g 4 z) z z) (rj 1 1 z (ih _ _ hF _ _ io0 io1 io2 io3 (List.length s_36+1) EN (hs.p 6 [2,2,2,2,1] z))))))))))
  exact rn 3 z (ih _ _ hF _ _ io0 io1 io2 io3 Cw hs)
 | p3 bytes k t63_ t64_ t65_ t110_ p q_ seen l x_=>
  dsimp only at hF;intro tm st io0 io1 io2 io3 io4 hf hs;refine en hf (ci hF z (fun c_58 hF=>?_) (fun c_58 hF=>?_))
  ·exact rn 2 z (ih _ _ hF _ _ io0 io1 io2 io3 qC (hs.p 5 [0,0,0,0] z))
  refine rn 1 z (W.o (e_len (cO (o:=l) (id:=io3) z)) (rn 1 z (ci hF z (fun c_59 hF=>?_) (fun c_59 hF=>?_))))
  ·refine rn 3 z ?_;cases hF;exact rD (ah (ah (ah bG))) z
  refine rn 1 z (W.o (lN (s:=gC x_) z (hs.g 4 z) z z) (bj hF fun r_60 g_61 hF=>?_));refine cv z (by kernel_rfl) (dw z) (d39 _ _ _ _ g_61 _ _ io0 io1 (fun st hs=>?_) _ hs);refine rn 0 z (ci hF z (fun c_62 hF=>?_) (fun c_62 hF=>?_))
  ·refine rn 0 z (W.o (aJ z (hs.g 4 z)) (W.o (l1 z (hs.g 4 z) z) (rn 3 z ?_)));cases hF;exact rD (ah (ah (ah bG))) z
  refine rn 1 z (W.o (lN (s:=gC x_) z (hs.g 4 z) z z) (bj hF fun r_63 g_64 hF=>df (d42 _ _ g_64) z ?_));obtain ⟨m_66,e_67,hF⟩:=gM hF;refine Lf (f:=AV.bool) true hs 2 z z z z z fun st hs=>?_;rw [e_67] at hs;exact rn 1 z (W.o (lN (s:=gC x_) z (hs.g 4 z) z z) (bs (f:=v80) ([x_]:List bw) hs z z (by first | (simp [av,cJ,mI,dG];done) | (show List.all (av (cJ _ _) [(0,gC x_)]) AV.one=true;simp [av,cJ,dG,eM])) z fun st b_68 hs=>gj hF fun g_69 hF=>ap (ys:=ls (some ([x_]:List bw))) hs 4 z z (eR (cO (o:=(some ([x_]:List bw))) (id:=b_68) z)) g_69 (fun _=>z) fun st b_70 hs=>rn 3 z (ih _ _ hF _ _ io0 io1 io2 b_70 qC (hs.p 6 [1,1,1,1] z))))
noncomputable def Ow (m:aK) (n:aK):Option (aZ × Bool × Int):=(xV m>>=fun r_1=>(if (r_1.2 != 0)=true then (some (([]:aZ),false,r_1.2)) else (xV n>>=fun r_5=>(if (r_5.2 != 0)=true then (some (([]:aZ),false,r_5.2)) else (xJ r_1.1 (some ([0]:List Int))>>=fun r_16=>(xJ r_5.1 (some ([0]:List Int))>>=fun r_18=>(KO ({a:=r_16,b:=r_18,text:=[]}:bw) r_1.1 r_5.1>>=fun r_20=>(if r_20.1=true then (some (([]:aZ),true,0)) else (ri ({a:=r_16,b:=r_18,text:=[]}:bw)>>=fun r_24=>(some (Mp.put (Mp.empty:Mp aZ Bool) r_24 true)>>=fun m_27=>(Jv r_20.2.1 r_20.2.2>>=fun r_30=>(uY (.p1 r_30 0 r_20.2.1 r_20.2.2 m_27 (some ([({a:=r_16,b:=r_18,text:=[]}:bw)]:List bw)))))))))))))))
theorem d22 (m:aK) (n:aK) (r:aZ × Bool × Int) (hF:Ow m n=some r):DFun Tryd.prog gE 22 [dL m,dL n,.fn 23 []] (AV.bt [AV.str r.1,AV.bool r.2.1,AV.int .i64 r.2.2]):=by
 unfold Ow at hF;refine bD k22 z ?_;have hs:SH [] []:=SH.nil;generalize ([]:aA)=st at hs ⊢;refine rn 0 z (W.o (aY (cs:=bn m) z (by rw [aF];rfl) (aX _)) (W.o (aY (cs:=bn n) z (by rw [aF];rfl) (aX _)) (W.o (aY (cs:=[.fn 23 []]) z z z) (rn 3 z (W.o (aL z (DP.refl _) (aF _)) (bj hF fun r_1 g_2 hF=>df (d32 m _ g_2) z (rn 3 z (al hs (cs:=cE ({bH:=0,bX:=0,Code:=none}:af)) z fun st b_3 hs=>sl hs 0 z z (LR.whole _ _) (bC _) z (bC _) (bg _) z fun st hs=>rn 3 z (ci hF z (fun c_4 hF=>?_) (fun c_4 hF=>?_))))))))))
 ·refine rn 4 z ?_;cases hF;exact rD (ah (ah (ah bG))) z
 refine rn 0 z (W.o (aL z (DP.refl _) (aF _)) (bj hF fun r_5 g_6 hF=>df (d32 n _ g_6) z (rn 3 z (al hs (cs:=cE ({bH:=0,bX:=0,Code:=none}:af)) z fun st b_7 hs=>sl hs 0 z z (LR.whole _ _) (bC _) z (bC _) (bg _) z fun st hs=>rn 3 z (ci hF z (fun c_8 hF=>?_) (fun c_8 hF=>?_))))))
 ·refine rn 4 z ?_;cases hF;exact rD (ah (ah (ah bG))) z
 refine rn 2 z (Ai hs fun s_9 st h0 hs=>de z (lN (s:=cE r_1.1) z (h0.g 1 z) z z) (CJ (f:=AV.int .i64) ([0]:List Int) hs 0 z z z z z z fun st hs=>de z (lN (s:=cE r_5.1) z (h0.g 0 z) z z) (CJ (f:=AV.int .i64) ([0]:List Int) hs 1 z z z z z z fun st hs=>IC hs 2 (cs:=gC ({a:=none,b:=none,text:=[]}:bw)) z z z fun st hs=>bj hF fun r_16 g_17 hF=>Rq 39 (A:=[nN r_1.1]) (B:=[]) (es:=1) (g:=AV.int .i64) (m:=([0]:List Int)) hs 0 (by kernel_rfl) (d41 _ _ _ g_17) (.tail _ (.head _)) z z (Nat.le_add_right _ _) z fun st hs=>bj hF fun r_18 g_19 hF=>Rq 42 (A:=[nN r_5.1]) (B:=[]) (es:=1) (g:=AV.int .i64) (m:=([0]:List Int)) hs 0 (by kernel_rfl) (d41 _ _ _ g_19) (.tail _ (.head _)) z z (Nat.le_add_right _ _) z fun st hs=>de z (dY (z:=[.aP,.aP,(.str [])]) (cs:=gC ({a:=r_16,b:=r_18,text:=[]}:bw)) (bO (cs:=fF 1 (AV.int .i64) r_16) (v:=cg 1 (AV.int .i64) r_16) z aN (aO _) (by decide) (bO (cs:=fF 1 (AV.int .i64) r_18) (v:=cg 1 (AV.int .i64) r_18) z aN (aO _) (by decide) eV)) (show av (gC ({a:=none,b:=none,text:=[]}:bw)) _=_ from (bf (mY 0 1 (fF 1 (AV.int .i64) r_16) z z) ((aO _).trans (aO _).symm) (bf (mY 1 1 (fF 1 (AV.int .i64) r_18) z z) ((aO _).trans (aO _).symm) (fJ _))))) (dz (sl hs 0 z z (LR.whole _ _) (eM _) z (eM _) (dG _) z fun st hs=>?_)))));refine rn 1 z (W.o (lN (s:=gC ({a:=r_16,b:=r_18,text:=[]}:bw)) z (hs.g 0 z) z z) (bj hF fun r_20 g_21 hF=>?_));refine cv z (by kernel_rfl) (dw z) (d39 _ _ _ _ g_21 _ _ b_3 b_7 (fun st hs=>?_) _ (hs.p 3 [2,1,0] z));refine rn 0 z (ci hF z (fun c_22 hF=>?_) (fun c_22 hF=>?_))
 ·refine rn 3 z ?_;cases hF;exact rD (ah (ah (ah bG))) z
 refine rn 0 z (Vb AV.bool hs fun st b_23 hs=>W.o (lN (s:=gC ({a:=r_16,b:=r_18,text:=[]}:bw)) z (hs.g 3 z) z z) (bj hF fun r_24 g_25 hF=>df (d42 _ _ g_25) z ?_));obtain ⟨m_27,e_28,hF⟩:=gM hF;refine Lf (f:=AV.bool) true hs 0 z z z z z fun st hs=>?_;rw [e_28] at hs;exact rn 2 z (W.o (lN (s:=gC ({a:=r_16,b:=r_18,text:=[]}:bw)) z (hs.g 3 z) z z) (bs (f:=v80) ([({a:=r_16,b:=r_18,text:=[]}:bw)]:List bw) hs z z (by first | (simp [av,cJ,mI,dG];done) | (show List.all (av (cJ _ _) [(0,gC ({a:=r_16,b:=r_18,text:=[]}:bw))]) AV.one=true;simp [av,cJ,dG,eM])) z fun st b_29 hs=>rn 1 z (W.o (lN (s:=cE r_20.2.1) z (hs.g 2 z) z z) (W.o (lN (s:=cE r_20.2.2) z (hs.g 3 z) z z) (bj hF fun r_30 g_31 hF=>df (d43 _ _ _ g_31) z (rn 2 z (w22 (.p1 r_30 0 r_20.2.1 r_20.2.2 m_27 (some ([({a:=r_16,b:=r_18,text:=[]}:bw)]:List bw))) _ hF _ _ b_3 b_7 b_23 b_29 Cw (hs.p 5 [2,2,1,0] z))))))))
def Rv:aC:=.o [qx 2 9 0,qx 3 9 1,qm 4 kf,qm 5 (.c (.str [])),qm 6 (ki 0)] (.o [qn 11 9 2,qn 12 9 3,qc 13 22 [11,12,(.c (.fn 23 []))],qm 10 13,qe 14 10 0,qe 15 10 1,qe 16 10 2,qm 7 14,qm 8 15,qm 9 16] (.o [qm 17 8,q 18 (.un .not 17),qm 19 18,(qm 20 9).y 19,(qb 21 .eql 20 (ki 0)).y 19,qp 22 19 21 kf,qm 23 7,qm 24 9,qm 4 22,qm 5 23,qm 6 24] .ret))
def R13:List RA:=[(.tmp 4),(.tmp 5),(.tmp 6)]
theorem k13:au Tryd.prog (dQ [2,3]) 13=some ⟨25,Rv,R13⟩:=by kernel_rfl
noncomputable def KM (a:aK) (b:aK):Option (Bool × aZ × Int):=(Ow a b>>=fun r_1=>(if (!r_1.2.1)=true then (some ((r_1.2.2==0),r_1.1,r_1.2.2)) else (some (false,r_1.1,r_1.2.2))))
theorem d13 (a:aK) (b:aK) (r:Bool × aZ × Int) (hF:KM a b=some r):DFun Tryd.prog gE 13 [dL a,dL b] (AV.bt [AV.bool r.1,AV.str r.2.1,AV.int .i64 r.2.2]):=by
 unfold KM at hF;refine bD k13 z ?_;have hs:SH [] []:=SH.nil;generalize ([]:aA)=st at hs ⊢;refine rn 0 z (W.o (aY (cs:=bn a) z (by rw [aF];rfl) (aX _)) (W.o (aY (cs:=bn b) z (by rw [aF];rfl) (aX _)) (rn 3 z (W.o (aL z (DP.refl _) (aF _)) (W.o (aL z (DP.refl _) (aF _)) (bj hF fun r_1 g_2 hF=>df (d22 a b _ g_2) z (rn 10 z (bi hF (fun c_3 hF=>?_) (fun c_3 hF=>?_)))))))))
 ·refine bL 19 z c_3 (rn 8 z ?_);cases hF;exact rD (ah (ah (ah bG))) z
 refine bL 19 z c_3 (rn 8 z ?_);cases hF;exact rD (ah (ah (ah bG))) z
def KK:aC:=.o [qx 4 3 0,qm 5 kf] (.s (.draw [] 0 0 [ql 6 1,qn 7 3 2,qa 8 0 4,ql 9 8,qn 11 3 3,qa 12 1 4,ql 13 12,qc 10 40 [7,9],qc 14 40 [11,13]] [qf 15 6 [10,14],qm 5 15]) .ret)
def Tw:List RA:=[(.tmp 5)]
theorem VI:au Tryd.prog (dQ [4]) 39=some ⟨16,KK,Tw⟩:=by kernel_rfl
noncomputable def rZ (x_:bw) (q0_:af) (q1_:af):Option (Bool × af × af):=(EO q0_ x_.a>>=fun r_1=>(EO q1_ x_.b>>=fun r_3=>(WA r_1 r_3>>=fun r_5=>(some (r_5,q0_,q1_)))))
theorem Mf (x_:bw) (q0_:af) (q1_:af) (r:Bool × af × af) (hF:rZ x_ q0_ q1_=some r): ∀(K:AV→aA→Prop) (Ls:List bU) (iQ0:Nat) (iQ1:Nat),(∀st,SH st (pt iQ0 (.cells (cE r.2.1))::pt iQ1 (.cells (cE r.2.2))::Ls)→K (AV.bool r.1) st)→ ∀(st:aA),SH st (pt iQ0 (.cells (cE q0_))::pt iQ1 (.cells (cE q1_))::Ls)→XCall Tryd.prog gE 39 [v80 x_,.aQ [.fn 30 []],.ptr iQ0 0,.ptr iQ1 0] st K:=by
 unfold rZ at hF;intro K Ls iQ0 iQ1 hK  st hs;refine bS VI z (rn 0 z (W.o (aY (cs:=gC x_) z z (dG _)) (rn 1 z ?_)));have h0:=hs;refine qq (de z (dW z z) (de z (lN (s:=cE q0_) z (h0.g 0 z) z z) (de z (aB z) (de z (dW z (by first | rfl | (rw [aN];rfl))) (de z (lN (s:=cE q1_) z (h0.g 1 z) z z) (de z (aB z) (de z (dW z (by first | rfl | (rw [aN];rfl))) (bj hF fun r_1 g_2 hF=>xK (d40 _ _ _ g_2) z (bj hF fun r_3 g_4 hF=>xK (d40 _ _ _ g_4) z (dz (bj hF fun r_5 g_6 hF=>?_)))))))))));refine WX z (by kernel_rfl) (d30 _ _ _ g_6) z (rn 1 z ?_);cases hF;exact rS (ah bG) (hK _ hs) z
def Eh:aC:=.cond 66 .skip (.exit 2)
def AG:List bZ:=qc 76 44 [69,74,75]::qc 84 44 [77,82,83]::q 94 (.build [.aP,.aP,(.str [])] [(0,(1,76)),(1,(1,84)),(2,(1,93))])::[]
def AF:List bZ:=qn 69 3 9::qm 70 15::qm 71 17::qi 72 3 70 71::qa 73 0 72::ql 74 73::qm 75 19::qn 77 3 11::qm 78 15::qm 79 17::qi 80 3 78 79::qa 81 1 80::ql 82 81::qm 83 19::qm 85 15::qm 86 17::qi 87 3 85 86::qa 88 2 87::ql 89 88::qm 90 19::q 91 (.bE 1 1 false [zb] [(0,(1,90))] false)::q 92 (.KA 91)::q 93 (.jt .add 89 92)::q 20 (.alloc [.aP,.aP,(.str [])])::AG
def xO:aC:=.cond 110 (.exit 3) .skip
def xP:aC:=.s (.o [qm 111 15,qh 112 111,qb 113 .eql 112 (ki 4096)] (.cond 113 (.o [qm 6 (.c (.str [])),qm 7 kf,qm 8 (ki 3)] .ret) .skip)) (.s (.o [qm 114 12,qn 115 3 20,qf 116 114 [115]] (.cond 116 (.o [qa 117 2 20,ql 118 117,qm 6 118,qm 7 kt,qm 8 (ki 0)] .ret) .skip)) (.o [qm 119 14,qn 120 3 20,qc 121 42 [120],q0 (.cu .none 119 121 kt)] (.ops [qm 122 15,qn 123 3 20,q 124 (.bE 3 1 true [.aP,.aP,(.str [])] [(0,(3,123))] false),q 125 (.app 3 64 122 124),qm 15 125])))
def xQ:aC:=.ops [qb 126 .add 65 (ki 1),qm 65 126]
def Ei:aC:=.s (.block 3 (.o [qi 67 1 63 65,ql 68 67,qm 19 68] (.s (.draw [] 0 2 AF [qs 3 20 94]) (.s (.o [qa 95 0 20,ql 96 95,qh 97 96,qb 98 .eql 97 (ki 0),qm 99 98,(qa 100 1 20).y 99,(ql 101 100).y 99,(qh 102 101).y 99,(qb 103 .eql 102 (ki 0)).y 99,qp 104 99 103 kf,qm 105 104,(qm 106 14).n 105,(qn 107 3 20).n 105,(qc 108 42 [107]).n 105,(q 109 (.lookup .none (.bool false) false 106 108)).n 105,qp 110 105 kt 109] xO) xP)))) xQ
def rP:aC:=.o [qb 66 .lss 65 64] (.s Eh Ei)
def rQ:aC:=.ops [qm 61 17,qb 62 .add 61 (ki 1),qm 17 62]
def nS:aC:=.s (.o [qm 57 17,qm 58 15,qh 59 58,qb 60 .lss 57 59] (.cond 60 .skip (.exit 0))) (.s (.block 1 (.o [qm 63 16,qh 64 63,qm 65 (ki 0)] (.block 2 (.loop rP)))) rQ)
def nT:aC:=.o [qm 6 (.c (.str [])),qm 7 kf,qm 8 (ki 0)] .ret
def Eg:aC:=.s (.o [qm 17 (ki 0)] (.block 0 (.loop nS))) nT
def KG:aC:=.o [qx 3 9 0,qx 4 9 1,qx 5 1 2,qm 6 (.c (.str [])),qm 7 kf,qm 8 (ki 0)] (.o [qn 22 9 3,qc 23 32 [22],qm 21 23,qe 24 21 0,qe 25 21 1,q 9 (.alloc [zi,zi,.aP]),qs 3 9 24,qm 10 25] (.s (.o [qm 26 10,qb 27 .neq 26 (ki 0)] (.cond 27 (.o [qm 28 10,qm 6 (.c (.str [])),qm 7 kf,qm 8 28] .ret) .skip)) (.o [qn 30 9 4,qc 31 32 [30],qm 29 31,qe 32 29 0,qe 33 29 1,q 11 (.alloc [zi,zi,.aP]),qs 3 11 32,qm 10 33] (.s (.o [qm 34 10,qb 35 .neq 34 (ki 0)] (.cond 35 (.o [qm 36 10,qm 6 (.c (.str [])),qm 7 kf,qm 8 36] .ret) .skip)) (.o [q 37 (.mZ 39 [5,9,11]),qm 12 37] (.s (.draw [] 0 3 [qn 38 3 9,q 39 (.bE 1 1 false [zi] [(0,(1,(ki 0)))] false),qn 41 3 11,q 42 (.bE 1 1 false [zi] [(0,(1,(ki 0)))] false),q 13 (.alloc [.aP,.aP,(.str [])]),qf 40 (.c (.fn 41 [])) [38,39],qf 43 (.c (.fn 41 [])) [41,42],q 44 (.build [.aP,.aP,(.str [])] [(0,(1,40)),(1,(1,43))])] [qs 3 13 44]) (.s (.o [qm 45 12,qn 46 3 13,qf 47 45 [46]] (.cond 47 (.o [qm 6 (.c (.str [])),qm 7 kt,qm 8 (ki 0)] .ret) .skip)) (.o [q 48 (.fI .none),qn 49 3 13,qc 50 42 [49],q0 (.cu .none 48 50 kt),qm 51 48,qm 14 51] (.o [qn 52 3 13,q 53 (.bE 3 1 true [.aP,.aP,(.str [])] [(0,(3,52))] false),qm 15 53] (.o [qn 54 3 9,qn 55 3 11,qc 56 43 [54,55],qm 16 56] Eg))))))))))
def MT:List RA:=[(.tmp 6),(.tmp 7),(.tmp 8)]
theorem VG:au Tryd.prog (dQ [3,4,5,40,43]) 22=some ⟨127,KG,MT⟩:=by kernel_rfl
noncomputable abbrev HO (r:aZ × Bool × Int):Cx:=cD Tryd.prog gE 127 MT (AV.bt [AV.str r.1,AV.bool r.2.1,AV.int .i64 r.2.2]) [3,4,5,40,43]
inductive AN where
 | p1 (bytes:Sl Int) (k:Int) (p:af) (q_:af) (seen:Mp aZ Bool) (l:Sl bw)
 | p2 (bytes:Sl Int) (k:Int) (t63_:Sl Int) (t64_:Int) (t65_:Int) (p:af) (q_:af) (seen:Mp aZ Bool) (l:Sl bw)
 | p3 (bytes:Sl Int) (k:Int) (t63_:Sl Int) (t64_:Int) (t65_:Int) (t110_:Bool) (p:af) (q_:af) (seen:Mp aZ Bool) (l:Sl bw) (x_:bw)
noncomputable def iH:AN→Option (aZ × Bool × Int) | .p1 bytes k p q_ seen l=>(if (decide (k<((ls l).length:Int)))=true then (iH (.p2 bytes k bytes ((ls bytes).length:Int) 0 p q_ seen l)) else (some (([]:aZ),false,0))) | .p2 bytes k t63_ t64_ t65_ p q_ seen l=>(if (decide (t65_<t64_))=true then (ix (ls t63_) t65_>>=fun v_34=>(ix (ls l) k>>=fun v_39=>(ix (ls l) k>>=fun v_41=>(ix (ls l) k>>=fun v_43=>(if (v_43.text).length+(cL (ls (some ([v_34]:List Int)))).length≤9223372036854775807 then (zT p v_39.a v_34>>=fun r_48=>(zT q_ v_41.b v_34>>=fun r_50=>(if (((ls r_48).length:Int)==0)=true then (if (((ls r_50).length:Int)==0)=true then (iH (.p2 bytes k t63_ t64_ (IntKind.wrap .i64 (t65_+1)) p q_ seen l)) else (ri ({a:=r_48,b:=r_50,text:=v_43.text++(cL (ls (some ([v_34]:List Int))))}:bw)>>=fun r_54=>(iH (.p3 bytes k t63_ t64_ t65_ (Option.getD (Mp.get seen r_54) false) p q_ seen l ({a:=r_48,b:=r_50,text:=v_43.text++(cL (ls (some ([v_34]:List Int))))}:bw))))) else (ri ({a:=r_48,b:=r_50,text:=v_43.text++(cL (ls (some ([v_34]:List Int))))}:bw)>>=fun r_56=>(iH (.p3 bytes k t63_ t64_ t65_ (Option.getD (Mp.get seen r_56) false) p q_ seen l ({a:=r_48,b:=r_50,text:=v_43.text++(cL (ls (some ([v_34]:List Int))))}:bw))))))) else none))))) else (iH (.p1 bytes (IntKind.wrap .i64 (k+1)) p q_ seen l))) | .p3 bytes k t63_ t64_ t65_ t110_ p q_ seen l x_=>(if t110_=true then (iH (.p2 bytes k t63_ t64_ (IntKind.wrap .i64 (t65_+1)) p q_ seen l)) else (if (((ls l).length:Int)==4096)=true then (some (([]:aZ),false,3)) else (rZ x_ p q_>>=fun r_60=>(if r_60.1=true then (some (x_.text,true,0)) else (ri x_>>=fun r_63=>(some (Mp.put seen r_63 true)>>=fun m_66=>(if ((ls l).length+(ls (some ([x_]:List bw))).length)*64≤140737488355328 then (iH (.p2 bytes k t63_ t64_ (IntKind.wrap .i64 (t65_+1)) r_60.2.1 r_60.2.2 m_66 (bW l (ls (some ([x_]:List bw)))))) else none))))))) partial_fixpoint
def MR (x:AN) (r:aZ × Bool × Int):Prop:=match x with | .p1 bytes k p q_ seen l=> ∀(tm:Fr) (st:aA) (io0:Nat) (io1:Nat) (io2:Nat) (io3:Nat),dH tm [(9,.ptr io0 0),(11,.ptr io1 0),(12,.fn 39 [.aQ [.fn 30 []],.ptr io0 0,.ptr io1 0]),(14,.mp io2),(15,br 3 v80 l io3),(16,cg 1 (AV.int .u8) bytes),(17,AV.int .i64 k)]→SH st [pt io0 (.cells (cE p)),pt io1 (.cells (cE q_)),pt io2 (.map none (mS AV.bool seen) seen.n),dK io3 l]→W (HO r) [.lp nS,.blk 0,.code nT] tm st | .p2 bytes k t63_ t64_ t65_ p q_ seen l=> ∀(tm:Fr) (st:aA) (io0:Nat) (io1:Nat) (io2:Nat) (io3:Nat),dH tm [(9,.ptr io0 0),(11,.ptr io1 0),(12,.fn 39 [.aQ [.fn 30 []],.ptr io0 0,.ptr io1 0]),(14,.mp io2),(15,br 3 v80 l io3),(16,cg 1 (AV.int .u8) bytes),(17,AV.int .i64 k),(63,cg 1 (AV.int .u8) t63_),(64,AV.int .i64 t64_),(65,AV.int .i64 t65_)]→SH st [pt io0 (.cells (cE p)),pt io1 (.cells (cE q_)),pt io2 (.map none (mS AV.bool seen) seen.n),dK io3 l]→W (HO r) [.lp rP,.blk 2,.blk 1,.code rQ,.lp nS,.blk 0,.code nT] tm st | .p3 bytes k t63_ t64_ t65_ t110_ p q_ seen l x_=> ∀(tm:Fr) (st:aA) (io0:Nat) (io1:Nat) (io2:Nat) (io3:Nat) (io4:Nat),dH tm [(9,.ptr io0 0),(11,.ptr io1 0),(12,.fn 39 [.aQ [.fn 30 []],.ptr io0 0,.ptr io1 0]),(14,.mp io2),(15,br 3 v80 l io3),(16,cg 1 (AV.int .u8) bytes),(17,AV.int .i64 k),(20,.ptr io4 0),(63,cg 1 (AV.int .u8) t63_),(64,AV.int .i64 t64_),(65,AV.int .i64 t65_),(110,AV.bool t110_)]→SH st [pt io0 (.cells (cE p)),pt io1 (.cells (cE q_)),pt io2 (.map none (mS AV.bool seen) seen.n),dK io3 l,pt io4 (.cells (gC x_))]→W (HO r) [.code xO,.code xP,.blk 3,.code xQ,.lp rP,.blk 2,.blk 1,.code rQ,.lp nS,.blk 0,.code nT] tm st
theorem Vu: ∀(x:AN) (r:aZ × Bool × Int),iH x=some r→MR x r:=by
 refine iH.partial_correctness (MR) ?_;intro g ih x r hF;cases x with
 | p1 bytes k p q_ seen l=>
  dsimp only at hF;intro tm st io0 io1 io2 io3 hf hs;refine en hf (lp (rn 2 z (W.o (e_len (cO (o:=l) (id:=io3) z)) (rn 1 z (ci hF z (fun c_32 hF=>?_) (fun c_32 hF=>?_))))))
  ·exact rn 1 z (W.o (e_len (bJ z)) (rn 1 z (ih _ _ hF _ _ io0 io1 io2 io3 qC hs)))
  refine rn 3 z ?_;cases hF;exact rD (ah (ah (ah bG))) z
 | p2 bytes k t63_ t64_ t65_ p q_ seen l=>
  dsimp only at hF;intro tm st io0 io1 io2 io3 hf hs;refine en hf (lp (rn 1 z (ci hF z (fun c_33 hF=>?_) (fun c_33 hF=>?_))))
  ·refine bj hF fun v_34 g_35 hF=>rn 0 z (W.o (aM (bJ z) z g_35) (W.o (dW z z) (rn 1 z (Ai hs fun s_36 st h0 hs=>de z (lN (s:=cE p) z (h0.g 0 z) z z) (bj hF fun v_39 g_40 hF=>dn 2 z (de z (aM (cO (o:=l) (id:=io3) z) z g_40) (de z (aB z) (de z (dW z (by first | rfl | (rw [aN];rfl))) (dn 1 z (de z (lN (s:=cE q_) z (h0.g 1 z) z z) ?_))))))))));refine bj hF fun v_41 g_42 hF=>dn 2 z (de z (aM (cO (o:=l) (id:=io3) z) z g_42) (de z (aB z) (de z (dW z (by first | rfl | (rw [aN];rfl))) (bj hF fun v_43 g_44 hF=>dn 3 z (de z (aM (cO (o:=l) (id:=io3) z) z g_44) (de z (aB z) (de z (dW z z) (dn 1 z (CJ (f:=AV.int .u8) ([v_34]:List Int) hs 0 z z z z z z fun st hs=>de z (yD (cO (o:=(some ([v_34]:List Int))) (id:=(List.length s_36+0)) z)) (gj hF fun g_46 hF=>?_))))))))));refine de z (yF z z (wg _ _ g_46)) (IC hs 1 (cs:=gC ({a:=none,b:=none,text:=[]}:bw)) z z z fun st hs=>bj hF fun r_48 g_49 hF=>xK (d44 _ _ _ _ g_49) z (bj hF fun r_50 g_51 hF=>xK (d44 _ _ _ _ g_51) z (de z (dY (z:=[.aP,.aP,(.str [])]) (cs:=gC ({a:=r_48,b:=r_50,text:=v_43.text++(cL (ls (some ([v_34]:List Int))))}:bw)) (bO (cs:=fF 1 (AV.int .i64) r_48) (v:=cg 1 (AV.int .i64) r_48) z aN (aO _) (by decide) (bO (cs:=fF 1 (AV.int .i64) r_50) (v:=cg 1 (AV.int .i64) r_50) z aN (aO _) (by decide) (bO (cs:=cS (v_43.text++(cL (ls (some ([v_34]:List Int)))))) z z (fo _) (by decide) eV))) (show av (gC ({a:=none,b:=none,text:=[]}:bw)) _=_ from (bf (mY 0 1 (fF 1 (AV.int .i64) r_48) z z) ((aO _).trans (aO _).symm) (bf (mY 1 1 (fF 1 (AV.int .i64) r_50) z z) ((aO _).trans (aO _).symm) (bf (mY 2 1 (cS (v_43.text++(cL (ls (some ([v_34]:List Int)))))) z z) ((fo _).trans (fo _).symm) (fJ _)))))) (dz (sl hs 1 z z (LR.whole _ _) (eM _) z (eM _) (dG _) z fun st hs=>rn 0 z (W.o (aJ z (hs.g 1 z)) (W.o (l1 z (hs.g 1 z) z) (W.o (e_len (bJ z)) (rn 2 z ?_)))))))));refine bi hF (fun c_52 hF=>?_) (fun c_52 hF=>?_)
   ·refine bL 99 z c_52 (W.on z z (W.o (aJ z (hs.g 1 z)) (W.on z z (W.o (l1 z (hs.g 1 z) z) (W.on z z (W.o (e_len (bJ z)) (rn 3 z (bi hF (fun c_53 hF=>?_) (fun c_53 hF=>?_)))))))))
    ·exact bL 105 z c_53 (rn 5 z (ct z z (rn 2 z (ih _ _ hF _ _ io0 io1 io2 io3 qC (hs.p 6 [2,2,2,2] z)))))
    exact bL 105 z c_53 (rn 1 z (W.on z z (W.o (lN (s:=gC ({a:=r_48,b:=r_50,text:=v_43.text++(cL (ls (some ([v_34]:List Int))))}:bw)) z (hs.g 1 z) z z) (bj hF fun r_54 g_55 hF=>W.on z z (df (d42 _ _ g_55) z (W.on z z (W.o (fN (f:=AV.bool) (z:=false) z (hs.g 4 z) z z) (rj 1 1 z (ih _ _ hF _ _ io0 io1 io2 io3 (List.length s_36+1) EN (hs.p 6 [2,2,2,2,1] z))))))))))
   exact bL 99 z c_52 (rn 7 z (W.on z z (W.o (lN (s:=gC ({a:=r_48,b:=r_50,text:=v_43.text++(cL (ls (some ([v_34]:List Int))))}:bw)) z (hs.g 1 z) z z) (bj hF fun r_56 g_57 hF=>W.on z z (df (d42 _ _ g_57) z (W.on z z (W.o (fN (f:=AV.bool) (z:=false) z (hs.g 4 z) z z) (rj 1 1 z (ih _ _ hF _ _ io0 io1 io2 io3 (List.length s_36+1) EN (hs.p 6 [2,2,2,2,1] z))))))))))
  exact rn 3 z (ih _ _ hF _ _ io0 io1 io2 io3 Cw hs)
 | p3 bytes k t63_ t64_ t65_ t110_ p q_ seen l x_=>
  dsimp only at hF;intro tm st io0 io1 io2 io3 io4 hf hs;refine en hf (ci hF z (fun c_58 hF=>?_) (fun c_58 hF=>?_))
  ·exact rn 2 z (ih _ _ hF _ _ io0 io1 io2 io3 qC (hs.p 5 [0,0,0,0] z))
  refine rn 1 z (W.o (e_len (cO (o:=l) (id:=io3) z)) (rn 1 z (ci hF z (fun c_59 hF=>?_) (fun c_59 hF=>?_))))
  ·refine rn 3 z ?_;cases hF;exact rD (ah (ah (ah bG))) z
  refine rn 1 z (W.o (lN (s:=gC x_) z (hs.g 4 z) z z) (bj hF fun r_60 g_61 hF=>?_));refine cv z (by kernel_rfl) (dw z) (Mf _ _ _ _ g_61 _ _ io0 io1 (fun st hs=>?_) _ hs);refine rn 0 z (ci hF z (fun c_62 hF=>?_) (fun c_62 hF=>?_))
  ·refine rn 0 z (W.o (aJ z (hs.g 4 z)) (W.o (l1 z (hs.g 4 z) z) (rn 3 z ?_)));cases hF;exact rD (ah (ah (ah bG))) z
  refine rn 1 z (W.o (lN (s:=gC x_) z (hs.g 4 z) z z) (bj hF fun r_63 g_64 hF=>df (d42 _ _ g_64) z ?_));obtain ⟨m_66,e_67,hF⟩:=gM hF;refine Lf (f:=AV.bool) true hs 2 z z z z z fun st hs=>?_;rw [e_67] at hs;exact rn 1 z (W.o (lN (s:=gC x_) z (hs.g 4 z) z z) (bs (f:=v80) ([x_]:List bw) hs z z (by first | (simp [av,cJ,mI,dG];done) | (show List.all (av (cJ _ _) [(0,gC x_)]) AV.one=true;simp [av,cJ,dG,eM])) z fun st b_68 hs=>gj hF fun g_69 hF=>ap (ys:=ls (some ([x_]:List bw))) hs 4 z z (eR (cO (o:=(some ([x_]:List bw))) (id:=b_68) z)) g_69 (fun _=>z) fun st b_70 hs=>rn 3 z (ih _ _ hF _ _ io0 io1 io2 b_70 qC (hs.p 6 [1,1,1,1] z))))
noncomputable def xU (m:aK) (n:aK):Option (aZ × Bool × Int):=(xV m>>=fun r_1=>(if (r_1.2 != 0)=true then (some (([]:aZ),false,r_1.2)) else (xV n>>=fun r_5=>(if (r_5.2 != 0)=true then (some (([]:aZ),false,r_5.2)) else (xJ r_1.1 (some ([0]:List Int))>>=fun r_16=>(xJ r_5.1 (some ([0]:List Int))>>=fun r_18=>(rZ ({a:=r_16,b:=r_18,text:=[]}:bw) r_1.1 r_5.1>>=fun r_20=>(if r_20.1=true then (some (([]:aZ),true,0)) else (ri ({a:=r_16,b:=r_18,text:=[]}:bw)>>=fun r_24=>(some (Mp.put (Mp.empty:Mp aZ Bool) r_24 true)>>=fun m_27=>(Jv r_20.2.1 r_20.2.2>>=fun r_30=>(iH (.p1 r_30 0 r_20.2.1 r_20.2.2 m_27 (some ([({a:=r_16,b:=r_18,text:=[]}:bw)]:List bw)))))))))))))))
theorem Ub (m:aK) (n:aK) (r:aZ × Bool × Int) (hF:xU m n=some r):DFun Tryd.prog gE 22 [dL m,dL n,.fn 30 []] (AV.bt [AV.str r.1,AV.bool r.2.1,AV.int .i64 r.2.2]):=by
 unfold xU at hF;refine bD VG z ?_;have hs:SH [] []:=SH.nil;generalize ([]:aA)=st at hs ⊢;refine rn 0 z (W.o (aY (cs:=bn m) z (by rw [aF];rfl) (aX _)) (W.o (aY (cs:=bn n) z (by rw [aF];rfl) (aX _)) (W.o (aY (cs:=[.fn 30 []]) z z z) (rn 3 z (W.o (aL z (DP.refl _) (aF _)) (bj hF fun r_1 g_2 hF=>df (d32 m _ g_2) z (rn 3 z (al hs (cs:=cE ({bH:=0,bX:=0,Code:=none}:af)) z fun st b_3 hs=>sl hs 0 z z (LR.whole _ _) (bC _) z (bC _) (bg _) z fun st hs=>rn 3 z (ci hF z (fun c_4 hF=>?_) (fun c_4 hF=>?_))))))))))
 ·refine rn 4 z ?_;cases hF;exact rD (ah (ah (ah bG))) z
 refine rn 0 z (W.o (aL z (DP.refl _) (aF _)) (bj hF fun r_5 g_6 hF=>df (d32 n _ g_6) z (rn 3 z (al hs (cs:=cE ({bH:=0,bX:=0,Code:=none}:af)) z fun st b_7 hs=>sl hs 0 z z (LR.whole _ _) (bC _) z (bC _) (bg _) z fun st hs=>rn 3 z (ci hF z (fun c_8 hF=>?_) (fun c_8 hF=>?_))))))
 ·refine rn 4 z ?_;cases hF;exact rD (ah (ah (ah bG))) z
 refine rn 2 z (Ai hs fun s_9 st h0 hs=>de z (lN (s:=cE r_1.1) z (h0.g 1 z) z z) (CJ (f:=AV.int .i64) ([0]:List Int) hs 0 z z z z z z fun st hs=>de z (lN (s:=cE r_5.1) z (h0.g 0 z) z z) (CJ (f:=AV.int .i64) ([0]:List Int) hs 1 z z z z z z fun st hs=>IC hs 2 (cs:=gC ({a:=none,b:=none,text:=[]}:bw)) z z z fun st hs=>bj hF fun r_16 g_17 hF=>Rq 39 (A:=[nN r_1.1]) (B:=[]) (es:=1) (g:=AV.int .i64) (m:=([0]:List Int)) hs 0 (by kernel_rfl) (d41 _ _ _ g_17) (.tail _ (.head _)) z z (Nat.le_add_right _ _) z fun st hs=>bj hF fun r_18 g_19 hF=>Rq 42 (A:=[nN r_5.1]) (B:=[]) (es:=1) (g:=AV.int .i64) (m:=([0]:List Int)) hs 0 (by kernel_rfl) (d41 _ _ _ g_19) (.tail _ (.head _)) z z (Nat.le_add_right _ _) z fun st hs=>de z (dY (z:=[.aP,.aP,(.str [])]) (cs:=gC ({a:=r_16,b:=r_18,text:=[]}:bw)) (bO (cs:=fF 1 (AV.int .i64) r_16) (v:=cg 1 (AV.int .i64) r_16) z aN (aO _) (by decide) (bO (cs:=fF 1 (AV.int .i64) r_18) (v:=cg 1 (AV.int .i64) r_18) z aN (aO _) (by decide) eV)) (show av (gC ({a:=none,b:=none,text:=[]}:bw)) _=_ from (bf (mY 0 1 (fF 1 (AV.int .i64) r_16) z z) ((aO _).trans (aO _).symm) (bf (mY 1 1 (fF 1 (AV.int .i64) r_18) z z) ((aO _).trans (aO _).symm) (fJ _))))) (dz (sl hs 0 z z (LR.whole _ _) (eM _) z (eM _) (dG _) z fun st hs=>?_)))));refine rn 1 z (W.o (lN (s:=gC ({a:=r_16,b:=r_18,text:=[]}:bw)) z (hs.g 0 z) z z) (bj hF fun r_20 g_21 hF=>?_));refine cv z (by kernel_rfl) (dw z) (Mf _ _ _ _ g_21 _ _ b_3 b_7 (fun st hs=>?_) _ (hs.p 3 [2,1,0] z));refine rn 0 z (ci hF z (fun c_22 hF=>?_) (fun c_22 hF=>?_))
 ·refine rn 3 z ?_;cases hF;exact rD (ah (ah (ah bG))) z
 refine rn 0 z (Vb AV.bool hs fun st b_23 hs=>W.o (lN (s:=gC ({a:=r_16,b:=r_18,text:=[]}:bw)) z (hs.g 3 z) z z) (bj hF fun r_24 g_25 hF=>df (d42 _ _ g_25) z ?_));obtain ⟨m_27,e_28,hF⟩:=gM hF;refine Lf (f:=AV.bool) true hs 0 z z z z z fun st hs=>?_;rw [e_28] at hs;exact rn 2 z (W.o (lN (s:=gC ({a:=r_16,b:=r_18,text:=[]}:bw)) z (hs.g 3 z) z z) (bs (f:=v80) ([({a:=r_16,b:=r_18,text:=[]}:bw)]:List bw) hs z z (by first | (simp [av,cJ,mI,dG];done) | (show List.all (av (cJ _ _) [(0,gC ({a:=r_16,b:=r_18,text:=[]}:bw))]) AV.one=true;simp [av,cJ,dG,eM])) z fun st b_29 hs=>rn 1 z (W.o (lN (s:=cE r_20.2.1) z (hs.g 2 z) z z) (W.o (lN (s:=cE r_20.2.2) z (hs.g 3 z) z z) (bj hF fun r_30 g_31 hF=>df (d43 _ _ _ g_31) z (rn 2 z (Vu (.p1 r_30 0 r_20.2.1 r_20.2.2 m_27 (some ([({a:=r_16,b:=r_18,text:=[]}:bw)]:List bw))) _ hF _ _ b_3 b_7 b_23 b_29 Cw (hs.p 5 [2,2,1,0] z))))))))
def Ry:aC:=.o [qx 2 9 0,qx 3 9 1,qm 4 kf,qm 5 (.c (.str [])),qm 6 (ki 0)] (.o [qn 11 9 2,qn 12 9 3,qc 13 22 [11,12,(.c (.fn 30 []))],qm 10 13,qe 14 10 0,qe 15 10 1,qe 16 10 2,qm 7 14,qm 8 15,qm 9 16] (.o [qm 17 8,q 18 (.un .not 17),qm 19 18,(qm 20 9).y 19,(qb 21 .eql 20 (ki 0)).y 19,qp 22 19 21 kf,qm 23 7,qm 24 9,qm 4 22,qm 5 23,qm 6 24] .ret))
def R15:List RA:=[(.tmp 4),(.tmp 5),(.tmp 6)]
theorem k15:au Tryd.prog (dQ [2,3]) 15=some ⟨25,Ry,R15⟩:=by kernel_rfl
noncomputable def Te (a:aK) (b:aK):Option (Bool × aZ × Int):=(xU a b>>=fun r_1=>(if (!r_1.2.1)=true then (some ((r_1.2.2==0),r_1.1,r_1.2.2)) else (some (false,r_1.1,r_1.2.2))))
theorem d15 (a:aK) (b:aK) (r:Bool × aZ × Int) (hF:Te a b=some r):DFun Tryd.prog gE 15 [dL a,dL b] (AV.bt [AV.bool r.1,AV.str r.2.1,AV.int .i64 r.2.2]):=by
 unfold Te at hF;refine bD k15 z ?_;have hs:SH [] []:=SH.nil;generalize ([]:aA)=st at hs ⊢;refine rn 0 z (W.o (aY (cs:=bn a) z (by rw [aF];rfl) (aX _)) (W.o (aY (cs:=bn b) z (by rw [aF];rfl) (aX _)) (rn 3 z (W.o (aL z (DP.refl _) (aF _)) (W.o (aL z (DP.refl _) (aF _)) (bj hF fun r_1 g_2 hF=>df (Ub a b _ g_2) z (rn 10 z (bi hF (fun c_3 hF=>?_) (fun c_3 hF=>?_)))))))))
 ·refine bL 19 z c_3 (rn 8 z ?_);cases hF;exact rD (ah (ah (ah bG))) z
 refine bL 19 z c_3 (rn 8 z ?_);cases hF;exact rD (ah (ah (ah bG))) z
def KL:aC:=.o [qx 4 3 0,qm 5 kf] (.s (.draw [] 0 0 [ql 6 1,qn 7 3 2,qa 8 0 4,ql 9 8,qn 11 3 3,qa 12 1 4,ql 13 12,qc 10 40 [7,9],qc 14 40 [11,13]] [qf 15 6 [10,14],qm 5 15]) .ret)
def Tx:List RA:=[(.tmp 5)]
theorem VJ:au Tryd.prog (dQ [4]) 39=some ⟨16,KL,Tx⟩:=by kernel_rfl
noncomputable def nY (x_:bw) (q0_:af) (q1_:af):Option (Bool × af × af):=(EO q0_ x_.a>>=fun r_1=>(EO q1_ x_.b>>=fun r_3=>(Rf r_1 r_3>>=fun r_5=>(some (r_5,q0_,q1_)))))
theorem Mg (x_:bw) (q0_:af) (q1_:af) (r:Bool × af × af) (hF:nY x_ q0_ q1_=some r): ∀(K:AV→aA→Prop) (Ls:List bU) (iQ0:Nat) (iQ1:Nat),(∀st,SH st (pt iQ0 (.cells (cE r.2.1))::pt iQ1 (.cells (cE r.2.2))::Ls)→K (AV.bool r.1) st)→ ∀(st:aA),SH st (pt iQ0 (.cells (cE q0_))::pt iQ1 (.cells (cE q1_))::Ls)→XCall Tryd.prog gE 39 [v80 x_,.aQ [.fn 31 []],.ptr iQ0 0,.ptr iQ1 0] st K:=by
 unfold nY at hF;intro K Ls iQ0 iQ1 hK  st hs;refine bS VJ z (rn 0 z (W.o (aY (cs:=gC x_) z z (dG _)) (rn 1 z ?_)));have h0:=hs;refine qq (de z (dW z z) (de z (lN (s:=cE q0_) z (h0.g 0 z) z z) (de z (aB z) (de z (dW z (by first | rfl | (rw [aN];rfl))) (de z (lN (s:=cE q1_) z (h0.g 1 z) z z) (de z (aB z) (de z (dW z (by first | rfl | (rw [aN];rfl))) (bj hF fun r_1 g_2 hF=>xK (d40 _ _ _ g_2) z (bj hF fun r_3 g_4 hF=>xK (d40 _ _ _ g_4) z (dz (bj hF fun r_5 g_6 hF=>?_)))))))))));refine WX z (by kernel_rfl) (d31 _ _ _ g_6) z (rn 1 z ?_);cases hF;exact rS (ah bG) (hK _ hs) z
def Ek:aC:=.cond 66 .skip (.exit 2)
def AJ:List bZ:=qc 76 44 [69,74,75]::qc 84 44 [77,82,83]::q 94 (.build [.aP,.aP,(.str [])] [(0,(1,76)),(1,(1,84)),(2,(1,93))])::[]
def AH:List bZ:=qn 69 3 9::qm 70 15::qm 71 17::qi 72 3 70 71::qa 73 0 72::ql 74 73::qm 75 19::qn 77 3 11::qm 78 15::qm 79 17::qi 80 3 78 79::qa 81 1 80::ql 82 81::qm 83 19::qm 85 15::qm 86 17::qi 87 3 85 86::qa 88 2 87::ql 89 88::qm 90 19::q 91 (.bE 1 1 false [zb] [(0,(1,90))] false)::q 92 (.KA 91)::q 93 (.jt .add 89 92)::q 20 (.alloc [.aP,.aP,(.str [])])::AJ
def xR:aC:=.cond 110 (.exit 3) .skip
def xS:aC:=.s (.o [qm 111 15,qh 112 111,qb 113 .eql 112 (ki 4096)] (.cond 113 (.o [qm 6 (.c (.str [])),qm 7 kf,qm 8 (ki 3)] .ret) .skip)) (.s (.o [qm 114 12,qn 115 3 20,qf 116 114 [115]] (.cond 116 (.o [qa 117 2 20,ql 118 117,qm 6 118,qm 7 kt,qm 8 (ki 0)] .ret) .skip)) (.o [qm 119 14,qn 120 3 20,qc 121 42 [120],q0 (.cu .none 119 121 kt)] (.ops [qm 122 15,qn 123 3 20,q 124 (.bE 3 1 true [.aP,.aP,(.str [])] [(0,(3,123))] false),q 125 (.app 3 64 122 124),qm 15 125])))
def xT:aC:=.ops [qb 126 .add 65 (ki 1),qm 65 126]
def El:aC:=.s (.block 3 (.o [qi 67 1 63 65,ql 68 67,qm 19 68] (.s (.draw [] 0 2 AH [qs 3 20 94]) (.s (.o [qa 95 0 20,ql 96 95,qh 97 96,qb 98 .eql 97 (ki 0),qm 99 98,(qa 100 1 20).y 99,(ql 101 100).y 99,(qh 102 101).y 99,(qb 103 .eql 102 (ki 0)).y 99,qp 104 99 103 kf,qm 105 104,(qm 106 14).n 105,(qn 107 3 20).n 105,(qc 108 42 [107]).n 105,(q 109 (.lookup .none (.bool false) false 106 108)).n 105,qp 110 105 kt 109] xR) xS)))) xT
def rR:aC:=.o [qb 66 .lss 65 64] (.s Ek El)
def rT:aC:=.ops [qm 61 17,qb 62 .add 61 (ki 1),qm 17 62]
def nU:aC:=.s (.o [qm 57 17,qm 58 15,qh 59 58,qb 60 .lss 57 59] (.cond 60 .skip (.exit 0))) (.s (.block 1 (.o [qm 63 16,qh 64 63,qm 65 (ki 0)] (.block 2 (.loop rR)))) rT)
def nV:aC:=.o [qm 6 (.c (.str [])),qm 7 kf,qm 8 (ki 0)] .ret
def Ej:aC:=.s (.o [qm 17 (ki 0)] (.block 0 (.loop nU))) nV
def KH:aC:=.o [qx 3 9 0,qx 4 9 1,qx 5 1 2,qm 6 (.c (.str [])),qm 7 kf,qm 8 (ki 0)] (.o [qn 22 9 3,qc 23 32 [22],qm 21 23,qe 24 21 0,qe 25 21 1,q 9 (.alloc [zi,zi,.aP]),qs 3 9 24,qm 10 25] (.s (.o [qm 26 10,qb 27 .neq 26 (ki 0)] (.cond 27 (.o [qm 28 10,qm 6 (.c (.str [])),qm 7 kf,qm 8 28] .ret) .skip)) (.o [qn 30 9 4,qc 31 32 [30],qm 29 31,qe 32 29 0,qe 33 29 1,q 11 (.alloc [zi,zi,.aP]),qs 3 11 32,qm 10 33] (.s (.o [qm 34 10,qb 35 .neq 34 (ki 0)] (.cond 35 (.o [qm 36 10,qm 6 (.c (.str [])),qm 7 kf,qm 8 36] .ret) .skip)) (.o [q 37 (.mZ 39 [5,9,11]),qm 12 37] (.s (.draw [] 0 3 [qn 38 3 9,q 39 (.bE 1 1 false [zi] [(0,(1,(ki 0)))] false),qn 41 3 11,q 42 (.bE 1 1 false [zi] [(0,(1,(ki 0)))] false),q 13 (.alloc [.aP,.aP,(.str [])]),qf 40 (.c (.fn 41 [])) [38,39],qf 43 (.c (.fn 41 [])) [41,42],q 44 (.build [.aP,.aP,(.str [])] [(0,(1,40)),(1,(1,43))])] [qs 3 13 44]) (.s (.o [qm 45 12,qn 46 3 13,qf 47 45 [46]] (.cond 47 (.o [qm 6 (.c (.str [])),qm 7 kt,qm 8 (ki 0)] .ret) .skip)) (.o [q 48 (.fI .none),qn 49 3 13,qc 50 42 [49],q0 (.cu .none 48 50 kt),qm 51 48,qm 14 51] (.o [qn 52 3 13,q 53 (.bE 3 1 true [.aP,.aP,(.str [])] [(0,(3,52))] false),qm 15 53] (.o [qn 54 3 9,qn 55 3 11,qc 56 43 [54,55],qm 16 56] Ej))))))))))
def MU:List RA:=[(.tmp 6),(.tmp 7),(.tmp 8)]
theorem VH:au Tryd.prog (dQ [3,4,5,40,43]) 22=some ⟨127,KH,MU⟩:=by kernel_rfl
noncomputable abbrev HP (r:aZ × Bool × Int):Cx:=cD Tryd.prog gE 127 MU (AV.bt [AV.str r.1,AV.bool r.2.1,AV.int .i64 r.2.2]) [3,4,5,40,43]
inductive jo where
 | p1 (bytes:Sl Int) (k:Int) (p:af) (q_:af) (seen:Mp aZ Bool) (l:Sl bw)
 | p2 (bytes:Sl Int) (k:Int) (t63_:Sl Int) (t64_:Int) (t65_:Int) (p:af) (q_:af) (seen:Mp aZ Bool) (l:Sl bw)
 | p3 (bytes:Sl Int) (k:Int) (t63_:Sl Int) (t64_:Int) (t65_:Int) (t110_:Bool) (p:af) (q_:af) (seen:Mp aZ Bool) (l:Sl bw) (x_:bw)
noncomputable def gA:jo→Option (aZ × Bool × Int) | .p1 bytes k p q_ seen l=>(if (decide (k<((ls l).length:Int)))=true then (gA (.p2 bytes k bytes ((ls bytes).length:Int) 0 p q_ seen l)) else (some (([]:aZ),false,0))) | .p2 bytes k t63_ t64_ t65_ p q_ seen l=>(if (decide (t65_<t64_))=true then (ix (ls t63_) t65_>>=fun v_34=>(ix (ls l) k>>=fun v_39=>(ix (ls l) k>>=fun v_41=>(ix (ls l) k>>=fun v_43=>(if (v_43.text).length+(cL (ls (some ([v_34]:List Int)))).length≤9223372036854775807 then (zT p v_39.a v_34>>=fun r_48=>(zT q_ v_41.b v_34>>=fun r_50=>(if (((ls r_48).length:Int)==0)=true then (if (((ls r_50).length:Int)==0)=true then (gA (.p2 bytes k t63_ t64_ (IntKind.wrap .i64 (t65_+1)) p q_ seen l)) else (ri ({a:=r_48,b:=r_50,text:=v_43.text++(cL (ls (some ([v_34]:List Int))))}:bw)>>=fun r_54=>(gA (.p3 bytes k t63_ t64_ t65_ (Option.getD (Mp.get seen r_54) false) p q_ seen l ({a:=r_48,b:=r_50,text:=v_43.text++(cL (ls (some ([v_34]:List Int))))}:bw))))) else (ri ({a:=r_48,b:=r_50,text:=v_43.text++(cL (ls (some ([v_34]:List Int))))}:bw)>>=fun r_56=>(gA (.p3 bytes k t63_ t64_ t65_ (Option.getD (Mp.get seen r_56) false) p q_ seen l ({a:=r_48,b:=r_50,text:=v_43.text++(cL (ls (some ([v_34]:List Int))))}:bw))))))) else none))))) else (gA (.p1 bytes (IntKind.wrap .i64 (k+1)) p q_ seen l))) | .p3 bytes k t63_ t64_ t65_ t110_ p q_ seen l x_=>(if t110_=true then (gA (.p2 bytes k t63_ t64_ (IntKind.wrap .i64 (t65_+1)) p q_ seen l)) else (if (((ls l).length:Int)==4096)=true then (some (([]:aZ),false,3)) else (nY x_ p q_>>=fun r_60=>(if r_60.1=true then (some (x_.text,true,0)) else (ri x_>>=fun r_63=>(some (Mp.put seen r_63 true)>>=fun m_66=>(if ((ls l).length+(ls (some ([x_]:List bw))).length)*64≤140737488355328 then (gA (.p2 bytes k t63_ t64_ (IntKind.wrap .i64 (t65_+1)) r_60.2.1 r_60.2.2 m_66 (bW l (ls (some ([x_]:List bw)))))) else none))))))) partial_fixpoint
def MS (x:jo) (r:aZ × Bool × Int):Prop:=match x with | .p1 bytes k p q_ seen l=> ∀(tm:Fr) (st:aA) (io0:Nat) (io1:Nat) (io2:Nat) (io3:Nat),dH tm [(9,.ptr io0 0),(11,.ptr io1 0),(12,.fn 39 [.aQ [.fn 31 []],.ptr io0 0,.ptr io1 0]),(14,.mp io2),(15,br 3 v80 l io3),(16,cg 1 (AV.int .u8) bytes),(17,AV.int .i64 k)]→SH st [pt io0 (.cells (cE p)),pt io1 (.cells (cE q_)),pt io2 (.map none (mS AV.bool seen) seen.n),dK io3 l]→W (HP r) [.lp nU,.blk 0,.code nV] tm st | .p2 bytes k t63_ t64_ t65_ p q_ seen l=> ∀(tm:Fr) (st:aA) (io0:Nat) (io1:Nat) (io2:Nat) (io3:Nat),dH tm [(9,.ptr io0 0),(11,.ptr io1 0),(12,.fn 39 [.aQ [.fn 31 []],.ptr io0 0,.ptr io1 0]),(14,.mp io2),(15,br 3 v80 l io3),(16,cg 1 (AV.int .u8) bytes),(17,AV.int .i64 k),(63,cg 1 (AV.int .u8) t63_),(64,AV.int .i64 t64_),(65,AV.int .i64 t65_)]→SH st [pt io0 (.cells (cE p)),pt io1 (.cells (cE q_)),pt io2 (.map none (mS AV.bool seen) seen.n),dK io3 l]→W (HP r) [.lp rR,.blk 2,.blk 1,.code rT,.lp nU,.blk 0,.code nV] tm st | .p3 bytes k t63_ t64_ t65_ t110_ p q_ seen l x_=> ∀(tm:Fr) (st:aA) (io0:Nat) (io1:Nat) (io2:Nat) (io3:Nat) (io4:Nat),dH tm [(9,.ptr io0 0),(11,.ptr io1 0),(12,.fn 39 [.aQ [.fn 31 []],.ptr io0 0,.ptr io1 0]),(14,.mp io2),(15,br 3 v80 l io3),(16,cg 1 (AV.int .u8) bytes),(17,AV.int .i64 k),(20,.ptr io4 0),(63,cg 1 (AV.int .u8) t63_),(64,AV.int .i64 t64_),(65,AV.int .i64 t65_),(110,AV.bool t110_)]→SH st [pt io0 (.cells (cE p)),pt io1 (.cells (cE q_)),pt io2 (.map none (mS AV.bool seen) seen.n),dK io3 l,pt io4 (.cells (gC x_))]→W (HP r) [.code xR,.code xS,.blk 3,.code xT,.lp rR,.blk 2,.blk 1,.code rT,.lp nU,.blk 0,.code nV] tm st
theorem Vv: ∀(x:jo) (r:aZ × Bool × Int),gA x=some r→MS x r:=by
 refine gA.partial_correctness (MS) ?_;intro g ih x r hF;cases x with
 | p1 bytes k p q_ seen l=>
  dsimp only at hF;intro tm st io0 io1 io2 io3 hf hs;refine en hf (lp (rn 2 z (W.o (e_len (cO (o:=l) (id:=io3) z)) (rn 1 z (ci hF z (fun c_32 hF=>?_) (fun c_32 hF=>?_))))))
  ·exact rn 1 z (W.o (e_len (bJ z)) (rn 1 z (ih _ _ hF _ _ io0 io1 io2 io3 qC hs)))
  refine rn 3 z ?_;cases hF;exact rD (ah (ah (ah bG))) z
 | p2 bytes k t63_ t64_ t65_ p q_ seen l=>
  dsimp only at hF;intro tm st io0 io1 io2 io3 hf hs;refine en hf (lp (rn 1 z (ci hF z (fun c_33 hF=>?_) (fun c_33 hF=>?_))))
  ·refine bj hF fun v_34 g_35 hF=>rn 0 z (W.o (aM (bJ z) z g_35) (W.o (dW z z) (rn 1 z (Ai hs fun s_36 st h0 hs=>de z (lN (s:=cE p) z (h0.g 0 z) z z) (bj hF fun v_39 g_40 hF=>dn 2 z (de z (aM (cO (o:=l) (id:=io3) z) z g_40) (de z (aB z) (de z (dW z (by first | rfl | (rw [aN];rfl))) (dn 1 z (de z (lN (s:=cE q_) z (h0.g 1 z) z z) ?_))))))))));refine bj hF fun v_41 g_42 hF=>dn 2 z (de z (aM (cO (o:=l) (id:=io3) z) z g_42) (de z (aB z) (de z (dW z (by first | rfl | (rw [aN];rfl))) (bj hF fun v_43 g_44 hF=>dn 3 z (de z (aM (cO (o:=l) (id:=io3) z) z g_44) (de z (aB z) (de z (dW z z) (dn 1 z (CJ (f:=AV.int .u8) ([v_34]:List Int) hs 0 z z z z z z fun st hs=>de z (yD (cO (o:=(some ([v_34]:List Int))) (id:=(List.length s_36+0)) z)) (gj hF fun g_46 hF=>?_))))))))));refine de z (yF z z (wg _ _ g_46)) (IC hs 1 (cs:=gC ({a:=none,b:=none,text:=[]}:bw)) z z z fun st hs=>bj hF fun r_48 g_49 hF=>xK (d44 _ _ _ _ g_49) z (bj hF fun r_50 g_51 hF=>xK (d44 _ _ _ _ g_51) z (de z (dY (z:=[.aP,.aP,(.str [])]) (cs:=gC ({a:=r_48,b:=r_50,text:=v_43.text++(cL (ls (some ([v_34]:List Int))))}:bw)) (bO (cs:=fF 1 (AV.int .i64) r_48) (v:=cg 1 (AV.int .i64) r_48) z aN (aO _) (by decide) (bO (cs:=fF 1 (AV.int .i64) r_50) (v:=cg 1 (AV.int .i64) r_50) z aN (aO _) (by decide) (bO (cs:=cS (v_43.text++(cL (ls (some ([v_34]:List Int)))))) z z (fo _) (by decide) eV))) (show av (gC ({a:=none,b:=none,text:=[]}:bw)) _=_ from (bf (mY 0 1 (fF 1 (AV.int .i64) r_48) z z) ((aO _).trans (aO _).symm) (bf (mY 1 1 (fF 1 (AV.int .i64) r_50) z z) ((aO _).trans (aO _).symm) (bf (mY 2 1 (cS (v_43.text++(cL (ls (some ([v_34]:List Int)))))) z z) ((fo _).trans (fo _).symm) (fJ _)))))) (dz (sl hs 1 z z (LR.whole _ _) (eM _) z (eM _) (dG _) z fun st hs=>rn 0 z (W.o (aJ z (hs.g 1 z)) (W.o (l1 z (hs.g 1 z) z) (W.o (e_len (bJ z)) (rn 2 z ?_)))))))));refine bi hF (fun c_52 hF=>?_) (fun c_52 hF=>?_)
   ·refine bL 99 z c_52 (W.on z z (W.o (aJ z (hs.g 1 z)) (W.on z z (W.o (l1 z (hs.g 1 z) z) (W.on z z (W.o (e_len (bJ z)) (rn 3 z (bi hF (fun c_53 hF=>?_) (fun c_53 hF=>?_)))))))))
    ·exact bL 105 z c_53 (rn 5 z (ct z z (rn 2 z (ih _ _ hF _ _ io0 io1 io2 io3 qC (hs.p 6 [2,2,2,2] z)))))
    exact bL 105 z c_53 (rn 1 z (W.on z z (W.o (lN (s:=gC ({a:=r_48,b:=r_50,text:=v_43.text++(cL (ls (some ([v_34]:List Int))))}:bw)) z (hs.g 1 z) z z) (bj hF fun r_54 g_55 hF=>W.on z z (df (d42 _ _ g_55) z (W.on z z (W.o (fN (f:=AV.bool) (z:=false) z (hs.g 4 z) z z) (rj 1 1 z (ih _ _ hF _ _ io0 io1 io2 io3 (List.length s_36+1) EN (hs.p 6 [2,2,2,2,1] z))))))))))
   exact bL 99 z c_52 (rn 7 z (W.on z z (W.o (lN (s:=gC ({a:=r_48,b:=r_50,text:=v_43.text++(cL (ls (some ([v_34]:List Int))))}:bw)) z (hs.g 1 z) z z) (bj hF fun r_56 g_57 hF=>W.on z z (df (d42 _ _ g_57) z (W.on z z (W.o (fN (f:=AV.bool) (z:=false) z (hs.g 4 z) z z) (rj 1 1 z (ih _ _ hF _ _ io0 io1 io2 io3 (List.length s_36+1) EN (hs.p 6 [2,2,2,2,1] z))))))))))
  exact rn 3 z (ih _ _ hF _ _ io0 io1 io2 io3 Cw hs)
 | p3 bytes k t63_ t64_ t65_ t110_ p q_ seen l x_=>
  dsimp only at hF;intro tm st io0 io1 io2 io3 io4 hf hs;refine en hf (ci hF z (fun c_58 hF=>?_) (fun c_58 hF=>?_))
  ·exact rn 2 z (ih _ _ hF _ _ io0 io1 io2 io3 qC (hs.p 5 [0,0,0,0] z))
  refine rn 1 z (W.o (e_len (cO (o:=l) (id:=io3) z)) (rn 1 z (ci hF z (fun c_59 hF=>?_) (fun c_59 hF=>?_))))
  ·refine rn 3 z ?_;cases hF;exact rD (ah (ah (ah bG))) z
  refine rn 1 z (W.o (lN (s:=gC x_) z (hs.g 4 z) z z) (bj hF fun r_60 g_61 hF=>?_));refine cv z (by kernel_rfl) (dw z) (Mg _ _ _ _ g_61 _ _ io0 io1 (fun st hs=>?_) _ hs);refine rn 0 z (ci hF z (fun c_62 hF=>?_) (fun c_62 hF=>?_))
  ·refine rn 0 z (W.o (aJ z (hs.g 4 z)) (W.o (l1 z (hs.g 4 z) z) (rn 3 z ?_)));cases hF;exact rD (ah (ah (ah bG))) z
  refine rn 1 z (W.o (lN (s:=gC x_) z (hs.g 4 z) z z) (bj hF fun r_63 g_64 hF=>df (d42 _ _ g_64) z ?_));obtain ⟨m_66,e_67,hF⟩:=gM hF;refine Lf (f:=AV.bool) true hs 2 z z z z z fun st hs=>?_;rw [e_67] at hs;exact rn 1 z (W.o (lN (s:=gC x_) z (hs.g 4 z) z z) (bs (f:=v80) ([x_]:List bw) hs z z (by first | (simp [av,cJ,mI,dG];done) | (show List.all (av (cJ _ _) [(0,gC x_)]) AV.one=true;simp [av,cJ,dG,eM])) z fun st b_68 hs=>gj hF fun g_69 hF=>ap (ys:=ls (some ([x_]:List bw))) hs 4 z z (eR (cO (o:=(some ([x_]:List bw))) (id:=b_68) z)) g_69 (fun _=>z) fun st b_70 hs=>rn 3 z (ih _ _ hF _ _ io0 io1 io2 b_70 qC (hs.p 6 [1,1,1,1] z))))
noncomputable def rY (m:aK) (n:aK):Option (aZ × Bool × Int):=(xV m>>=fun r_1=>(if (r_1.2 != 0)=true then (some (([]:aZ),false,r_1.2)) else (xV n>>=fun r_5=>(if (r_5.2 != 0)=true then (some (([]:aZ),false,r_5.2)) else (xJ r_1.1 (some ([0]:List Int))>>=fun r_16=>(xJ r_5.1 (some ([0]:List Int))>>=fun r_18=>(nY ({a:=r_16,b:=r_18,text:=[]}:bw) r_1.1 r_5.1>>=fun r_20=>(if r_20.1=true then (some (([]:aZ),true,0)) else (ri ({a:=r_16,b:=r_18,text:=[]}:bw)>>=fun r_24=>(some (Mp.put (Mp.empty:Mp aZ Bool) r_24 true)>>=fun m_27=>(Jv r_20.2.1 r_20.2.2>>=fun r_30=>(gA (.p1 r_30 0 r_20.2.1 r_20.2.2 m_27 (some ([({a:=r_16,b:=r_18,text:=[]}:bw)]:List bw)))))))))))))))
theorem Uc (m:aK) (n:aK) (r:aZ × Bool × Int) (hF:rY m n=some r):DFun Tryd.prog gE 22 [dL m,dL n,.fn 31 []] (AV.bt [AV.str r.1,AV.bool r.2.1,AV.int .i64 r.2.2]):=by
 unfold rY at hF;refine bD VH z ?_;have hs:SH [] []:=SH.nil;generalize ([]:aA)=st at hs ⊢;refine rn 0 z (W.o (aY (cs:=bn m) z (by rw [aF];rfl) (aX _)) (W.o (aY (cs:=bn n) z (by rw [aF];rfl) (aX _)) (W.o (aY (cs:=[.fn 31 []]) z z z) (rn 3 z (W.o (aL z (DP.refl _) (aF _)) (bj hF fun r_1 g_2 hF=>df (d32 m _ g_2) z (rn 3 z (al hs (cs:=cE ({bH:=0,bX:=0,Code:=none}:af)) z fun st b_3 hs=>sl hs 0 z z (LR.whole _ _) (bC _) z (bC _) (bg _) z fun st hs=>rn 3 z (ci hF z (fun c_4 hF=>?_) (fun c_4 hF=>?_))))))))))
 ·refine rn 4 z ?_;cases hF;exact rD (ah (ah (ah bG))) z
 refine rn 0 z (W.o (aL z (DP.refl _) (aF _)) (bj hF fun r_5 g_6 hF=>df (d32 n _ g_6) z (rn 3 z (al hs (cs:=cE ({bH:=0,bX:=0,Code:=none}:af)) z fun st b_7 hs=>sl hs 0 z z (LR.whole _ _) (bC _) z (bC _) (bg _) z fun st hs=>rn 3 z (ci hF z (fun c_8 hF=>?_) (fun c_8 hF=>?_))))))
 ·refine rn 4 z ?_;cases hF;exact rD (ah (ah (ah bG))) z
 refine rn 2 z (Ai hs fun s_9 st h0 hs=>de z (lN (s:=cE r_1.1) z (h0.g 1 z) z z) (CJ (f:=AV.int .i64) ([0]:List Int) hs 0 z z z z z z fun st hs=>de z (lN (s:=cE r_5.1) z (h0.g 0 z) z z) (CJ (f:=AV.int .i64) ([0]:List Int) hs 1 z z z z z z fun st hs=>IC hs 2 (cs:=gC ({a:=none,b:=none,text:=[]}:bw)) z z z fun st hs=>bj hF fun r_16 g_17 hF=>Rq 39 (A:=[nN r_1.1]) (B:=[]) (es:=1) (g:=AV.int .i64) (m:=([0]:List Int)) hs 0 (by kernel_rfl) (d41 _ _ _ g_17) (.tail _ (.head _)) z z (Nat.le_add_right _ _) z fun st hs=>bj hF fun r_18 g_19 hF=>Rq 42 (A:=[nN r_5.1]) (B:=[]) (es:=1) (g:=AV.int .i64) (m:=([0]:List Int)) hs 0 (by kernel_rfl) (d41 _ _ _ g_19) (.tail _ (.head _)) z z (Nat.le_add_right _ _) z fun st hs=>de z (dY (z:=[.aP,.aP,(.str [])]) (cs:=gC ({a:=r_16,b:=r_18,text:=[]}:bw)) (bO (cs:=fF 1 (AV.int .i64) r_16) (v:=cg 1 (AV.int .i64) r_16) z aN (aO _) (by decide) (bO (cs:=fF 1 (AV.int .i64) r_18) (v:=cg 1 (AV.int .i64) r_18) z aN (aO _) (by decide) eV)) (show av (gC ({a:=none,b:=none,text:=[]}:bw)) _=_ from (bf (mY 0 1 (fF 1 (AV.int .i64) r_16) z z) ((aO _).trans (aO _).symm) (bf (mY 1 1 (fF 1 (AV.int .i64) r_18) z z) ((aO _).trans (aO _).symm) (fJ _))))) (dz (sl hs 0 z z (LR.whole _ _) (eM _) z (eM _) (dG _) z fun st hs=>?_)))));refine rn 1 z (W.o (lN (s:=gC ({a:=r_16,b:=r_18,text:=[]}:bw)) z (hs.g 0 z) z z) (bj hF fun r_20 g_21 hF=>?_));refine cv z (by kernel_rfl) (dw z) (Mg _ _ _ _ g_21 _ _ b_3 b_7 (fun st hs=>?_) _ (hs.p 3 [2,1,0] z));refine rn 0 z (ci hF z (fun c_22 hF=>?_) (fun c_22 hF=>?_))
 ·refine rn 3 z ?_;cases hF;exact rD (ah (ah (ah bG))) z
 refine rn 0 z (Vb AV.bool hs fun st b_23 hs=>W.o (lN (s:=gC ({a:=r_16,b:=r_18,text:=[]}:bw)) z (hs.g 3 z) z z) (bj hF fun r_24 g_25 hF=>df (d42 _ _ g_25) z ?_));obtain ⟨m_27,e_28,hF⟩:=gM hF;refine Lf (f:=AV.bool) true hs 0 z z z z z fun st hs=>?_;rw [e_28] at hs;exact rn 2 z (W.o (lN (s:=gC ({a:=r_16,b:=r_18,text:=[]}:bw)) z (hs.g 3 z) z z) (bs (f:=v80) ([({a:=r_16,b:=r_18,text:=[]}:bw)]:List bw) hs z z (by first | (simp [av,cJ,mI,dG];done) | (show List.all (av (cJ _ _) [(0,gC ({a:=r_16,b:=r_18,text:=[]}:bw))]) AV.one=true;simp [av,cJ,dG,eM])) z fun st b_29 hs=>rn 1 z (W.o (lN (s:=cE r_20.2.1) z (hs.g 2 z) z z) (W.o (lN (s:=cE r_20.2.2) z (hs.g 3 z) z z) (bj hF fun r_30 g_31 hF=>df (d43 _ _ _ g_31) z (rn 2 z (Vv (.p1 r_30 0 r_20.2.1 r_20.2.2 m_27 (some ([({a:=r_16,b:=r_18,text:=[]}:bw)]:List bw))) _ hF _ _ b_3 b_7 b_23 b_29 Cw (hs.p 5 [2,2,1,0] z))))))))
end Go.Proofs.YtcidnoghoifmmaaDoor
end
section
set_option maxRecDepth 4000
set_option maxHeartbeats 4000000
namespace Go.Proofs.YtcidnoghoifmmaaDoor
open Go AW
attribute [local irreducible] W WD SH XS XLoop DFun XCall XYield
def Rz:aC:=.o [qx 2 9 0,qx 3 9 1,qm 4 (.c (.str [])),qm 5 kf,qm 6 (ki 0)] (.o [qn 7 9 2,qn 8 9 3,qc 9 22 [7,8,(.c (.fn 31 []))],qe 10 9 0,qe 11 9 1,qe 12 9 2,qm 4 10,qm 5 11,qm 6 12] .ret)
def R16:List RA:=[(.tmp 4),(.tmp 5),(.tmp 6)]
theorem k16:au Tryd.prog (dQ [2,3]) 16=some ⟨13,Rz,R16⟩:=by kernel_rfl
noncomputable def KN (a:aK) (b:aK):Option (aZ × Bool × Int):=(rY a b>>=fun r_1=>(some (r_1.1,r_1.2.1,r_1.2.2)))
theorem d16 (a:aK) (b:aK) (r:aZ × Bool × Int) (hF:KN a b=some r):DFun Tryd.prog gE 16 [dL a,dL b] (AV.bt [AV.str r.1,AV.bool r.2.1,AV.int .i64 r.2.2]):=by
 unfold KN at hF;refine bD k16 z ?_;have hs:SH [] []:=SH.nil;generalize ([]:aA)=st at hs ⊢;refine rn 0 z (W.o (aY (cs:=bn a) z (by rw [aF];rfl) (aX _)) (W.o (aY (cs:=bn b) z (by rw [aF];rfl) (aX _)) (rn 3 z (W.o (aL z (DP.refl _) (aF _)) (W.o (aL z (DP.refl _) (aF _)) (bj hF fun r_1 g_2 hF=>df (Uc a b _ g_2) z (rn 6 z ?_)))))));cases hF;exact rD (ah (ah (ah bG))) z
def SA:aC:=.o [qx 1 9 0,qm 2 (.c (.str [])),qm 3 kf,qm 4 (ki 0)] (.o [qn 5 9 1,qn 6 9 1,qc 7 16 [5,6],qe 8 7 0,qe 9 7 1,qe 10 7 2,qm 2 8,qm 3 9,qm 4 10] .ret)
def R17:List RA:=[(.tmp 2),(.tmp 3),(.tmp 4)]
theorem k17:au Tryd.prog (dQ [1]) 17=some ⟨11,SA,R17⟩:=by kernel_rfl
noncomputable def MN (n:aK):Option (aZ × Bool × Int):=(KN n n>>=fun r_1=>(some (r_1.1,r_1.2.1,r_1.2.2)))
theorem d17 (n:aK) (r:aZ × Bool × Int) (hF:MN n=some r):DFun Tryd.prog gE 17 [dL n] (AV.bt [AV.str r.1,AV.bool r.2.1,AV.int .i64 r.2.2]):=by
 unfold MN at hF;refine bD k17 z ?_;have hs:SH [] []:=SH.nil;generalize ([]:aA)=st at hs ⊢;refine rn 0 z (W.o (aY (cs:=bn n) z (by rw [aF];rfl) (aX _)) (rn 3 z (W.o (aL z (DP.refl _) (aF _)) (W.o (aL z (DP.refl _) (aF _)) (bj hF fun r_1 g_2 hF=>df (d16 n n _ g_2) z (rn 6 z ?_))))));cases hF;exact rD (ah (ah (ah bG))) z
def SD:aC:=.o [q 2 (.alloc [zb,zu,zu,zu,zu,zi,zi,zi,.aP])] (.o [q 4 (.build [zu,zu,zu,zu] []),q 3 (.alloc [zu,zu,zu,zu]),qs 4 3 4] (.o [qm 5 0,qb 6 .quo 5 (ku 64),qm 7 0,qb 8 .rem 7 (ku 64),qb 9 .shl (.c (.int .u64 1)) 8,q 10 (.ek 4 1 3 6),qs 1 10 9] (.o [qn 11 4 3,q 12 (.build [zb,zu,zu,zu,zu,zi,zi,zi,.aP] [(0,(1,(ku 2))),(1,(4,11))]),qs 9 2 12] .ret)))
def R21:List RA:=[(.mg 2 9)]
theorem k21:au Tryd.prog (dQ []) 21=some ⟨13,SD,R21⟩:=by kernel_rfl
noncomputable def Ov (c:Int):Option aK:=(if 0≤(Int.tmod c 64) then (if (0:Int)≤(IntKind.wrap .u8 (Int.tdiv c 64))∧(IntKind.wrap .u8 (Int.tdiv c 64))<(4:Int) then (some ({Kind:=2,Set:=(iz (an.rep 4 (0:Int)) (IntKind.wrap .u8 (Int.tdiv c 64)) (xA .u64 1 (Int.tmod c 64))),Min:=0,Max:=0,aH:=0,Kids:=none}:aK)) else none) else none)
theorem d21 (c:Int) (r:aK) (hF:Ov c=some r):DFun Tryd.prog gE 21 [AV.int .u8 c] (dL r):=by
 unfold Ov at hF;refine bD k21 z ?_;have hs:SH [] []:=SH.nil;generalize ([]:aA)=st at hs ⊢;refine rn 0 z (al hs (cs:=bn ({Kind:=0,Set:=(an.rep 4 (0:Int)),Min:=0,Max:=0,aH:=0,Kids:=none}:aK)) z fun st b_1 hs=>rn 0 z (W.o (dY (z:=[(.int .u64 0),(.int .u64 0),(.int .u64 0),(.int .u64 0)]) (cs:=jE (an.rep 4 (0:Int))) eV (show av (jE (an.rep 4 (0:Int))) _=_ from (fJ _))) (al hs (cs:=jE (an.rep 4 (0:Int))) z fun st b_2 hs=>sr hs 0 z z z (cs':=jE (an.rep 4 (0:Int))) z z fun st hs=>rn 1 z (W.o (hJ z z (tE _ _ _ (by decide))) (rn 1 z (W.o (hJ z z (tF _ _ _ (by decide))) (gj hF fun g_3 hF=>W.o (hJ z z (RL _ _ _ _ g_3)) (gj hF fun g_4 hF=>W.o (fZ z (hs.g 0 z) z g_4) ?_))))))));obtain ⟨y_5,g_6⟩:=Ir (an.rep 4 (0:Int)) g_4 z;refine sl hs 0 z z (LR.comp (LR.whole _ _) (wU (aS .u64) g_6 (xA .u64 1 (Int.tmod c 64)))) ((aS .u64) _) z ((aS .u64) _) ((fL .u64) _) z fun st hs=>rn 0 z (W.o (lN (s:=jE (iz (an.rep 4 (0:Int)) (IntKind.wrap .u8 (Int.tdiv c 64)) (xA .u64 1 (Int.tmod c 64)))) z (hs.g 0 z) z z) (W.o (dY (z:=[(.int .u8 0),(.int .u64 0),(.int .u64 0),(.int .u64 0),(.int .u64 0),(.int .i64 0),(.int .i64 0),(.int .i64 0),.aP]) (cs:=bn ({Kind:=2,Set:=(iz (an.rep 4 (0:Int)) (IntKind.wrap .u8 (Int.tdiv c 64)) (xA .u64 1 (Int.tmod c 64))),Min:=0,Max:=0,aH:=0,Kids:=none}:aK)) (bO (cs:=cI .u8 2) z z ((aS .u8) _) (by decide) (bO (cs:=jE (iz (an.rep 4 (0:Int)) (IntKind.wrap .u8 (Int.tdiv c 64)) (xA .u64 1 (Int.tmod c 64)))) z z (eB _) (by decide) eV)) (show av (bn ({Kind:=0,Set:=(an.rep 4 (0:Int)),Min:=0,Max:=0,aH:=0,Kids:=none}:aK)) _=_ from (bf (je ({Kind:=0,Set:=(an.rep 4 (0:Int)),Min:=0,Max:=0,aH:=0,Kids:=none}:aK) 2) (((aS .u8) _).trans ((aS .u8) _).symm) (bf (JD ({Kind:=2,Set:=(an.rep 4 (0:Int)),Min:=0,Max:=0,aH:=0,Kids:=none}:aK) (iz (an.rep 4 (0:Int)) (IntKind.wrap .u8 (Int.tdiv c 64)) (xA .u64 1 (Int.tmod c 64)))) ((eB _).trans (eB _).symm) (fJ _))))) (sl hs 1 z z (LR.whole _ _) (aF _) z (aF _) (aX _) z fun st hs=>?_)));refine rn 0 z ?_;cases hF;exact rD (eJ z (hs.g 1 z) (LR.whole _ _) (aF _) bG) z
def Ke:List bZ:=qm 74 73::(qm 75 12).y 74::(q 76 (.jt .eql 75 (.c (.str [97])))).y 74::qp 77 74 76 kf::qm 78 77::(qm 79 14).y 78::(qb 80 .eql 79 (ki 0)).y 78::qp 81 78 80 kf::qm 0 81::[]
def Kc:List bZ:=qm 50 4::q 51 (.un .not 50)::qm 52 51::(qm 53 5).y 52::(q 54 (.jt .eql 53 (.c (.str [])))).y 52::qp 55 52 54 kf::qm 56 55::(qm 57 6).y 56::(qb 58 .eql 57 (ki 0)).y 56::qp 59 56 58 kf::qm 60 59::(qm 61 9).y 60::qp 62 60 61 kf::qm 63 62::(qm 64 10).y 63::(q 65 (.jt .eql 64 (.c (.str [])))).y 63::qp 66 63 65 kf::qm 67 66::(qm 68 11).y 67::(qb 69 .eql 68 (ki 0)).y 67::qp 70 67 69 kf::qm 71 70::(qm 72 13).y 71::qp 73 71 72 kf::Ke
def Wm:aC:=.o [qm 0 kf] (.o [qc 15 21 [(ku 97)],q 1 (.alloc [zb,zu,zu,zu,zu,zi,zi,zi,.aP]),qs 9 1 15] (.o [qn 16 9 1,q 17 (.uJ 9 1 true [zb,zu,zu,zu,zu,zi,zi,zi,.aP] [(0,(9,16))]),q 18 (.build [zb,zu,zu,zu,zu,zi,zi,zi,.aP] [(0,(1,(ku 5))),(6,(1,(ki (-1)))),(8,(1,17))]),q 2 (.alloc [zb,zu,zu,zu,zu,zi,zi,zi,.aP]),qs 9 2 18] (.o [qn 19 9 1,q 20 (.uJ 9 1 true [zb,zu,zu,zu,zu,zi,zi,zi,.aP] [(0,(9,19))]),q 21 (.build [zb,zu,zu,zu,zu,zi,zi,zi,.aP] [(0,(1,(ku 5))),(5,(1,(ki 1))),(6,(1,(ki (-1)))),(8,(1,20))]),q 3 (.alloc [zb,zu,zu,zu,zu,zi,zi,zi,.aP]),qs 9 3 21] (.o [qn 23 9 2,qn 24 9 3,qc 25 13 [23,24],qm 22 25,qe 26 22 0,qe 27 22 1,qe 28 22 2,qm 4 26,qm 5 27,qm 6 28] (.s (.draw [] 0 1 [qn 29 9 1,q 7 (.alloc [zb,zu,zu,zu,zu,zi,zi,zi,.aP]),qc 30 21 [(ku 98)],q 31 (.uJ 9 2 true [zb,zu,zu,zu,zu,zi,zi,zi,.aP] [(0,(9,29)),(9,(9,30))]),q 32 (.build [zb,zu,zu,zu,zu,zi,zi,zi,.aP] [(0,(1,(ku 4))),(8,(1,31))])] [qs 9 7 32]) (.s (.draw [] 0 1 [qn 34 9 1,q 8 (.alloc [zb,zu,zu,zu,zu,zi,zi,zi,.aP]),qc 33 21 [(ku 98)],q 35 (.uJ 9 2 true [zb,zu,zu,zu,zu,zi,zi,zi,.aP] [(0,(9,33)),(9,(9,34))]),q 36 (.build [zb,zu,zu,zu,zu,zi,zi,zi,.aP] [(0,(1,(ku 4))),(8,(1,35))])] [qs 9 8 36]) (.o [qn 38 9 7,qn 39 9 8,qc 40 13 [38,39],qm 37 40,qe 41 37 0,qe 42 37 1,qe 43 37 2,qm 9 41,qm 10 42,qm 11 43] (.o [qn 45 9 3,qc 46 17 [45],qm 44 46,qe 47 44 0,qe 48 44 1,qe 49 44 2,qm 12 47,qm 13 48,qm 14 49] (.o Kc .ret)))))))))
def R7:List RA:=[(.tmp 0)]
theorem k7:au Tryd.prog (dQ [17,20,31,35]) 7=some ⟨82,Wm,R7⟩:=by kernel_rfl
noncomputable def F7  :Option Bool:=(Ov 97>>=fun r_1=>(KM ({Kind:=5,Set:=(an.rep 4 (0:Int)),Min:=0,Max:=(-1),aH:=0,Kids:=(some ([r_1]:List aK))}:aK) ({Kind:=5,Set:=(an.rep 4 (0:Int)),Min:=1,Max:=(-1),aH:=0,Kids:=(some ([r_1]:List aK))}:aK)>>=fun r_6=>(Ov 98>>=fun r_11=>(Ov 98>>=fun r_16=>(KM ({Kind:=4,Set:=(an.rep 4 (0:Int)),Min:=0,Max:=0,aH:=0,Kids:=(some ([r_1,r_11]:List aK))}:aK) ({Kind:=4,Set:=(an.rep 4 (0:Int)),Min:=0,Max:=0,aH:=0,Kids:=(some ([r_16,r_1]:List aK))}:aK)>>=fun r_18=>(MN ({Kind:=5,Set:=(an.rep 4 (0:Int)),Min:=1,Max:=(-1),aH:=0,Kids:=(some ([r_1]:List aK))}:aK)>>=fun r_20=>(if (!r_6.1)=true then (if (r_6.2.1==([]:aZ))=true then (if (r_6.2.2==0)=true then (if r_18.1=true then (if (r_18.2.1==([]:aZ))=true then (if (r_18.2.2==0)=true then (if r_20.2.1=true then (if (r_20.1==([97]:aZ))=true then (some (r_20.2.2==0)) else (some false)) else (some false)) else (some false)) else (some false)) else (some false)) else (some false)) else (some false)) else (some false))))))))
theorem d7  (r:Bool) (hF:F7=some r):DFun Tryd.prog gE 7 [] (AV.bool r):=by
 unfold F7 at hF;refine bD k7 z ?_;have hs:SH [] []:=SH.nil;generalize ([]:aA)=st at hs ⊢;refine bj hF fun r_1 g_2 hF=>rn 1 z (df (d21 _ _ g_2) z (al hs (cs:=bn ({Kind:=0,Set:=(an.rep 4 (0:Int)),Min:=0,Max:=0,aH:=0,Kids:=none}:aK)) z fun st b_3 hs=>sl hs 0 z z (LR.whole _ _) (aF _) z (aF _) (aX _) z fun st hs=>rn 0 z (W.o (eN z (hs.g 0 z) (LR.whole _ _) (aF _)) (W.o (wG (f:=dL) (c:=bn) ([r_1]:List aK) (bO (cs:=bn r_1) z z (aF _) (by decide) eV) z z aF aX (fun _=>z) z) (W.o (dY (z:=[(.int .u8 0),(.int .u64 0),(.int .u64 0),(.int .u64 0),(.int .u64 0),(.int .i64 0),(.int .i64 0),(.int .i64 0),.aP]) (cs:=bn ({Kind:=5,Set:=(an.rep 4 (0:Int)),Min:=0,Max:=(-1),aH:=0,Kids:=(some ([r_1]:List aK))}:aK)) (bO (cs:=cI .u8 5) z z ((aS .u8) _) (by decide) (bO (cs:=cI .i64 (-1)) z z ((aS .i64) _) (by decide) (bO (cs:=fF 9 dL (some ([r_1]:List aK))) (v:=cg 9 dL (some ([r_1]:List aK))) z aN (aO _) (by decide) eV))) (show av (bn ({Kind:=0,Set:=(an.rep 4 (0:Int)),Min:=0,Max:=0,aH:=0,Kids:=none}:aK)) _=_ from (bf (je ({Kind:=0,Set:=(an.rep 4 (0:Int)),Min:=0,Max:=0,aH:=0,Kids:=none}:aK) 5) (((aS .u8) _).trans ((aS .u8) _).symm) (bf (yb ({Kind:=5,Set:=(an.rep 4 (0:Int)),Min:=0,Max:=0,aH:=0,Kids:=none}:aK) (-1)) (((aS .i64) _).trans ((aS .i64) _).symm) (bf (mP ({Kind:=5,Set:=(an.rep 4 (0:Int)),Min:=0,Max:=(-1),aH:=0,Kids:=none}:aK) (some ([r_1]:List aK))) ((aO _).trans (aO _).symm) (fJ _)))))) ?_)))))
 refine al hs (cs:=bn ({Kind:=0,Set:=(an.rep 4 (0:Int)),Min:=0,Max:=0,aH:=0,Kids:=none}:aK)) z fun st b_4 hs=>sl hs 0 z z (LR.whole _ _) (aF _) z (aF _) (aX _) z fun st hs=>rn 0 z (W.o (eN z (hs.g 1 z) (LR.whole _ _) (aF _)) (W.o (wG (f:=dL) (c:=bn) ([r_1]:List aK) (bO (cs:=bn r_1) z z (aF _) (by decide) eV) z z aF aX (fun _=>z) z) (W.o (dY (z:=[(.int .u8 0),(.int .u64 0),(.int .u64 0),(.int .u64 0),(.int .u64 0),(.int .i64 0),(.int .i64 0),(.int .i64 0),.aP]) (cs:=bn ({Kind:=5,Set:=(an.rep 4 (0:Int)),Min:=1,Max:=(-1),aH:=0,Kids:=(some ([r_1]:List aK))}:aK)) (bO (cs:=cI .u8 5) z z ((aS .u8) _) (by decide) (bO (cs:=cI .i64 1) z z ((aS .i64) _) (by decide) (bO (cs:=cI .i64 (-1)) z z ((aS .i64) _) (by decide) (bO (cs:=fF 9 dL (some ([r_1]:List aK))) (v:=cg 9 dL (some ([r_1]:List aK))) z aN (aO _) (by decide) eV)))) (show av (bn ({Kind:=0,Set:=(an.rep 4 (0:Int)),Min:=0,Max:=0,aH:=0,Kids:=none}:aK)) _=_ from (bf (je ({Kind:=0,Set:=(an.rep 4 (0:Int)),Min:=0,Max:=0,aH:=0,Kids:=none}:aK) 5) (((aS .u8) _).trans ((aS .u8) _).symm) (bf (JC ({Kind:=5,Set:=(an.rep 4 (0:Int)),Min:=0,Max:=0,aH:=0,Kids:=none}:aK) 1) (((aS .i64) _).trans ((aS .i64) _).symm) (bf (yb ({Kind:=5,Set:=(an.rep 4 (0:Int)),Min:=1,Max:=0,aH:=0,Kids:=none}:aK) (-1)) (((aS .i64) _).trans ((aS .i64) _).symm) (bf (mP ({Kind:=5,Set:=(an.rep 4 (0:Int)),Min:=1,Max:=(-1),aH:=0,Kids:=none}:aK) (some ([r_1]:List aK))) ((aO _).trans (aO _).symm) (fJ _))))))) ?_)));refine al hs (cs:=bn ({Kind:=0,Set:=(an.rep 4 (0:Int)),Min:=0,Max:=0,aH:=0,Kids:=none}:aK)) z fun st b_5 hs=>sl hs 0 z z (LR.whole _ _) (aF _) z (aF _) (aX _) z fun st hs=>rn 0 z (W.o (eN z (hs.g 1 z) (LR.whole _ _) (aF _)) (W.o (eN z (hs.g 0 z) (LR.whole _ _) (aF _)) (bj hF fun r_6 g_7 hF=>df (d13 _ _ _ g_7) z (rn 7 z (Ai hs fun s_8 st h0 hs=>de z (eN z (h0.g 2 z) (LR.whole _ _) (aF _)) (IC hs 0 (cs:=bn ({Kind:=0,Set:=(an.rep 4 (0:Int)),Min:=0,Max:=0,aH:=0,Kids:=none}:aK)) z z z fun st hs=>bj hF fun r_11 g_12 hF=>xK (d21 _ _ g_12) z (de z (wG (f:=dL) (c:=bn) ([r_1,r_11]:List aK) (bO (cs:=bn r_1) z z (aF _) (by decide) (bO (cs:=bn r_11) z z (aF _) (by decide) eV)) z z aF aX (fun _=>z) z) ?_)))))))
 refine de z (dY (z:=[(.int .u8 0),(.int .u64 0),(.int .u64 0),(.int .u64 0),(.int .u64 0),(.int .i64 0),(.int .i64 0),(.int .i64 0),.aP]) (cs:=bn ({Kind:=4,Set:=(an.rep 4 (0:Int)),Min:=0,Max:=0,aH:=0,Kids:=(some ([r_1,r_11]:List aK))}:aK)) (bO (cs:=cI .u8 4) z z ((aS .u8) _) (by decide) (bO (cs:=fF 9 dL (some ([r_1,r_11]:List aK))) (v:=cg 9 dL (some ([r_1,r_11]:List aK))) z aN (aO _) (by decide) eV)) (show av (bn ({Kind:=0,Set:=(an.rep 4 (0:Int)),Min:=0,Max:=0,aH:=0,Kids:=none}:aK)) _=_ from (bf (je ({Kind:=0,Set:=(an.rep 4 (0:Int)),Min:=0,Max:=0,aH:=0,Kids:=none}:aK) 4) (((aS .u8) _).trans ((aS .u8) _).symm) (bf (mP ({Kind:=4,Set:=(an.rep 4 (0:Int)),Min:=0,Max:=0,aH:=0,Kids:=none}:aK) (some ([r_1,r_11]:List aK))) ((aO _).trans (aO _).symm) (fJ _))))) (dz (sl hs 0 z z (LR.whole _ _) (aF _) z (aF _) (aX _) z fun st hs=>rn 0 z (Ai hs fun s_13 st h0 hs=>de z (eN z (h0.g 3 z) (LR.whole _ _) (aF _)) (IC hs 0 (cs:=bn ({Kind:=0,Set:=(an.rep 4 (0:Int)),Min:=0,Max:=0,aH:=0,Kids:=none}:aK)) z z z fun st hs=>bj hF fun r_16 g_17 hF=>xK (d21 _ _ g_17) z (de z (wG (f:=dL) (c:=bn) ([r_16,r_1]:List aK) (bO (cs:=bn r_16) z z (aF _) (by decide) (bO (cs:=bn r_1) z z (aF _) (by decide) eV)) z z aF aX (fun _=>z) z) ?_)))))
 refine de z (dY (z:=[(.int .u8 0),(.int .u64 0),(.int .u64 0),(.int .u64 0),(.int .u64 0),(.int .i64 0),(.int .i64 0),(.int .i64 0),.aP]) (cs:=bn ({Kind:=4,Set:=(an.rep 4 (0:Int)),Min:=0,Max:=0,aH:=0,Kids:=(some ([r_16,r_1]:List aK))}:aK)) (bO (cs:=cI .u8 4) z z ((aS .u8) _) (by decide) (bO (cs:=fF 9 dL (some ([r_16,r_1]:List aK))) (v:=cg 9 dL (some ([r_16,r_1]:List aK))) z aN (aO _) (by decide) eV)) (show av (bn ({Kind:=0,Set:=(an.rep 4 (0:Int)),Min:=0,Max:=0,aH:=0,Kids:=none}:aK)) _=_ from (bf (je ({Kind:=0,Set:=(an.rep 4 (0:Int)),Min:=0,Max:=0,aH:=0,Kids:=none}:aK) 4) (((aS .u8) _).trans ((aS .u8) _).symm) (bf (mP ({Kind:=4,Set:=(an.rep 4 (0:Int)),Min:=0,Max:=0,aH:=0,Kids:=none}:aK) (some ([r_16,r_1]:List aK))) ((aO _).trans (aO _).symm) (fJ _))))) (dz (sl hs 0 z z (LR.whole _ _) (aF _) z (aF _) (aX _) z fun st hs=>rn 0 z (W.o (eN z (hs.g 1 z) (LR.whole _ _) (aF _)) (W.o (eN z (hs.g 0 z) (LR.whole _ _) (aF _)) (bj hF fun r_18 g_19 hF=>df (d13 _ _ _ g_19) z (rn 7 z (W.o (eN z (hs.g 2 z) (LR.whole _ _) (aF _)) (bj hF fun r_20 g_21 hF=>df (d17 _ _ g_21) z (rn 10 z (bi hF (fun c_22 hF=>?_) (fun c_22 hF=>?_)))))))))))
 ·refine bL 52 z c_22 (rn 4 z (bi hF (fun c_23 hF=>?_) (fun c_23 hF=>?_)))
  ·refine bL 56 z c_23 (rn 4 z (bi hF (fun c_24 hF=>?_) (fun c_24 hF=>?_)))
   ·refine bL 60 z c_24 (rn 3 z (bi hF (fun c_25 hF=>?_) (fun c_25 hF=>?_)))
    ·refine bL 63 z c_25 (rn 4 z (bi hF (fun c_26 hF=>?_) (fun c_26 hF=>?_)))
     ·refine bL 67 z c_26 (rn 4 z (bi hF (fun c_27 hF=>?_) (fun c_27 hF=>?_)))
      ·refine bL 71 z c_27 (rn 3 z (bi hF (fun c_28 hF=>?_) (fun c_28 hF=>?_)))
       ·refine bL 74 z c_28 (rn 4 z (bi hF (fun c_29 hF=>?_) (fun c_29 hF=>?_)))
        ·refine bL 78 z c_29 (rn 4 z ?_);cases hF;exact rD (ah bG) z
        refine bL 78 z c_29 (rn 4 z ?_);cases hF;exact rD (ah bG) z
       refine bL 74 z c_28 (rn 8 z ?_);cases hF;exact rD (ah bG) z
      refine bL 71 z c_27 (rn 11 z ?_);cases hF;exact rD (ah bG) z
     refine bL 67 z c_26 (rn 15 z ?_);cases hF;exact rD (ah bG) z
    refine bL 63 z c_25 (rn 19 z ?_);cases hF;exact rD (ah bG) z
   refine bL 60 z c_24 (rn 22 z ?_);cases hF;exact rD (ah bG) z
  refine bL 56 z c_23 (rn 26 z ?_);cases hF;exact rD (ah bG) z
 refine bL 52 z c_22 (rn 30 z ?_);cases hF;exact rD (ah bG) z
end Go.Proofs.YtcidnoghoifmmaaDoor
end
section
set_option maxRecDepth 4000
set_option maxHeartbeats 4000000
namespace Go.Proofs.YtcidnoghoifmmaaDoor
open Go AW
attribute [local irreducible] W WD SH XS XLoop DFun XCall XYield
def Bk:aC:=.o [qm 23 3,qm 24 23,(qm 25 4).y 24,qp 26 24 25 kf,qm 27 26,(qa 28 7 1).y 27,(ql 29 28).y 27,(qb 30 .eql 29 (ki 0)).y 27,qp 31 27 30 kf,qm 32 31,(qa 33 8 1).y 32,(ql 34 33).y 32,(qh 35 34).y 32,(qb 36 .eql 35 (ki 0)).y 32,qp 37 32 36 kf,qm 2 37] .ret
def KE:aC:=.o [qb 53 .eql 18 (ku 3),qm 52 53] (.cond 52 .skip (.ops [qb 54 .eql 18 (ku 4),qm 52 54]))
def Bl:aC:=.o [qm 55 3,qm 56 55,(qm 57 4).y 56,qp 58 56 57 kf,qm 59 58,(qa 60 7 1).y 59,(ql 61 60).y 59,(qb 62 .eql 61 (ki 0)).y 59,qp 63 59 62 kf,qm 64 63,(qa 65 8 1).y 64,(ql 66 65).y 64,(qh 67 66).y 64,(qb 68 .geq 67 (ki 2)).y 64,qp 69 64 68 kf,qm 2 69] .ret
def DI:List bZ:=(ql 96 95).y 94::(qb 97 .eql 96 (ki (-1))).y 94::(qm 98 97).y 94::(qa 99 6 1).n 98::(ql 100 99).n 98::(qa 101 5 1).n 98::(ql 102 101).n 98::(qb 103 .geq 100 102).n 98::(qm 104 103).n 98::(qa 105 6 1).y 104::(ql 106 105).y 104::(qb 107 .leq 106 (ki 255)).y 104::(qp 108 104 107 kf).n 98::(qp 109 98 kt 108).y 94::qp 110 94 109 kf::qm 2 110::[]
def DH:List bZ:=qm 72 3::qm 73 72::(qa 74 7 1).y 73::(ql 75 74).y 73::(qb 76 .eql 75 (ki 0)).y 73::qp 77 73 76 kf::qm 78 77::(qa 79 8 1).y 78::(ql 80 79).y 78::(qh 81 80).y 78::(qb 82 .eql 81 (ki 1)).y 78::qp 83 78 82 kf::qm 84 83::(qa 85 5 1).y 84::(ql 86 85).y 84::(qb 87 .geq 86 (ki 0)).y 84::qp 88 84 87 kf::qm 89 88::(qa 90 5 1).y 89::(ql 91 90).y 89::(qb 92 .leq 91 (ki 255)).y 89::qp 93 89 92 kf::qm 94 93::(qa 95 6 1).y 94::DI
def KF:aC:=.cond 52 Bl (.o [qb 71 .eql 18 (ku 5),qm 70 71] (.cond 70 (.o DH .ret) (.o [qb 112 .eql 18 (ku 6),qm 111 112] (.cond 111 (.o [qm 113 3,qm 114 113,(qm 115 4).y 114,qp 116 114 115 kf,qm 117 116,(qa 118 8 1).y 117,(ql 119 118).y 117,(qh 120 119).y 117,(qb 121 .eql 120 (ki 1)).y 117,qp 122 117 121 kf,qm 2 122] .ret) (.o [qb 124 .eql 18 (ku 7),qm 123 124] (.cond 123 (.o [qm 125 3,qm 126 125,(qm 127 4).y 126,qp 128 126 127 kf,qm 129 128,(qa 130 8 1).y 129,(ql 131 130).y 129,(qh 132 131).y 129,(qb 133 .eql 132 (ki 0)).y 129,qp 134 129 133 kf,qm 135 134,(qa 136 7 1).y 135,(ql 137 136).y 135,(qb 138 .geq 137 (ki 1)).y 135,qp 139 135 138 kf,qm 140 139,(qa 141 7 1).y 140,(ql 142 141).y 140,(qb 143 .leq 142 (ki 9)).y 140,qp 144 140 143 kf,qm 2 144] .ret) .skip))))))
def vS:aC:=.o [qm 2 kf] .ret
def EX:aC:=.s (.o [qa 17 0 1,ql 18 17] (.block 0 (.s (.o [qb 20 .eql 18 (ku 1),qm 19 20] (.cond 19 .skip (.o [qb 21 .eql 18 (ku 8),qm 19 21] (.cond 19 .skip (.ops [qb 22 .eql 18 (ku 9),qm 19 22]))))) (.cond 19 Bk (.o [qb 39 .eql 18 (ku 2),qm 38 39] (.cond 38 (.o [qm 40 4,qm 41 40,(qa 42 7 1).y 41,(ql 43 42).y 41,(qb 44 .eql 43 (ki 0)).y 41,qp 45 41 44 kf,qm 46 45,(qa 47 8 1).y 46,(ql 48 47).y 46,(qh 49 48).y 46,(qb 50 .eql 49 (ki 0)).y 46,qp 51 46 50 kf,qm 2 51] .ret) (.s KE KF))))))) vS
def Nv:aC:=.o [qx 1 9 0,qm 2 kf] (.o [qa 5 1 1,qn 6 4 5,q 7 (.build [zu,zu,zu,zu] []),q 8 (.Aj false [.i,.i,.i,.i] 6 7),qm 3 8] (.o [qa 9 5 1,ql 10 9,qb 11 .eql 10 (ki 0),qm 12 11,(qa 13 6 1).y 12,(ql 14 13).y 12,(qb 15 .eql 14 (ki 0)).y 12,qp 16 12 15 kf,qm 4 16] EX))
def Tv:List RA:=[(.tmp 2)]
theorem Xv:au Tryd.prog (dQ [1]) 106=some ⟨145,Nv,Tv⟩:=by kernel_rfl
noncomputable abbrev QA (r:Bool):Cx:=cD Tryd.prog gE 145 Tv (AV.bool r) [1]
inductive HL where
 | p1 (n:aK) (set:Bool) (bounds:Bool)
 | p2 (n:aK) (set:Bool) (bounds:Bool)
 | p3 (n:aK) (set:Bool) (bounds:Bool)
noncomputable def qd:HL→Option Bool | .p1 n set bounds=>(if (n.Kind==1)=true then (qd (.p2 n set bounds)) else (if (n.Kind==8)=true then (qd (.p2 n set bounds)) else (if (n.Kind==9)=true then (qd (.p2 n set bounds)) else (if (n.Kind==2)=true then (if bounds=true then (if (n.aH==0)=true then (some (((ls n.Kids).length:Int)==0)) else (some false)) else (some false)) else (if (n.Kind==3)=true then (qd (.p3 n set bounds)) else (if (n.Kind==4)=true then (qd (.p3 n set bounds)) else (if (n.Kind==5)=true then (if set=true then (if (n.aH==0)=true then (if (((ls n.Kids).length:Int)==1)=true then (if (decide (n.Min≥0))=true then (if (decide (n.Min≤255))=true then (if (n.Max==(-1))=true then (some true) else (if (decide (n.Max≥n.Min))=true then (some (decide (n.Max≤255))) else (some false))) else (some false)) else (some false)) else (some false)) else (some false)) else (some false)) else (if (n.Kind==6)=true then (if set=true then (if bounds=true then (some (((ls n.Kids).length:Int)==1)) else (some false)) else (some false)) else (if (n.Kind==7)=true then (if set=true then (if bounds=true then (if (((ls n.Kids).length:Int)==0)=true then (if (decide (n.aH≥1))=true then (some (decide (n.aH≤9))) else (some false)) else (some false)) else (some false)) else (some false)) else (some false)))))))))) | .p2 n set bounds=>(if set=true then (if bounds=true then (if (n.aH==0)=true then (some (((ls n.Kids).length:Int)==0)) else (some false)) else (some false)) else (some false)) | .p3 n set bounds=>(if set=true then (if bounds=true then (if (n.aH==0)=true then (some (decide (((ls n.Kids).length:Int)≥2))) else (some false)) else (some false)) else (some false)) partial_fixpoint
def Tq (x:HL) (r:Bool):Prop:=match x with | .p1 n set bounds=> ∀(tm:Fr) (st:aA),dH tm [(1,.aQ (bn n)),(3,AV.bool set),(4,AV.bool bounds)]→SH st []→W (QA r) [.code EX] tm st | .p2 n set bounds=> ∀(tm:Fr) (st:aA),dH tm [(1,.aQ (bn n)),(3,AV.bool set),(4,AV.bool bounds)]→SH st []→W (QA r) [.code Bk,.blk 0,.code vS] tm st | .p3 n set bounds=> ∀(tm:Fr) (st:aA),dH tm [(1,.aQ (bn n)),(3,AV.bool set),(4,AV.bool bounds)]→SH st []→W (QA r) [.code Bl,.blk 0,.code vS] tm st
theorem Vt: ∀(x:HL) (r:Bool),qd x=some r→Tq x r:=by
 refine qd.partial_correctness (Tq) ?_;intro g ih x r hF;cases x with
 | p1 n set bounds=>
  dsimp only at hF;intro tm st hf hs;refine en hf (rn 0 z (W.o (aB z) (W.o (aI z (DP.cN (DP.refl _) (bI n))) (rn 2 z (ci hF z (fun c_2 hF=>?_) (fun c_2 hF=>?_))))))
  ·exact rn 0 z (ct z c_2 (ih _ _ hF _ _ hG hs))
  refine rn 2 z (ci hF z (fun c_3 hF=>?_) (fun c_3 hF=>?_))
  ·exact rn 0 z (ct z c_3 (ih _ _ hF _ _ hG hs))
  refine rn 2 z (ci hF z (fun c_4 hF=>?_) (fun c_4 hF=>?_))
  ·exact ih _ _ hF _ _ hG hs
  refine rn 2 z (ci hF z (fun c_5 hF=>?_) (fun c_5 hF=>?_))
  ·refine rn 2 z (bi hF (fun c_6 hF=>?_) (fun c_6 hF=>?_))
   ·refine bL 41 z c_6 (W.on z z (W.o (aB z) (W.on z z (W.o (aI z (DP.cN (DP.refl _) (bF n))) (rn 3 z (bi hF (fun c_7 hF=>?_) (fun c_7 hF=>?_)))))))
    ·refine bL 46 z c_7 (W.on z z (W.o (aB z) (W.on z z (W.o (aI z (DP.cN (DP.refl _) (aV n))) (W.on z z (W.o (e_len (bJ z)) (rn 3 z ?_)))))));cases hF;exact rD (ah bG) z
    refine bL 46 z c_7 (rn 6 z ?_);cases hF;exact rD (ah bG) z
   refine bL 41 z c_6 (rn 11 z ?_);cases hF;exact rD (ah bG) z
  refine rn 2 z (ci hF z (fun c_8 hF=>?_) (fun c_8 hF=>?_))
  ·exact rn 0 z (ct z c_8 (ih _ _ hF _ _ hG hs))
  refine rn 2 z (ci hF z (fun c_9 hF=>?_) (fun c_9 hF=>?_))
  ·exact ih _ _ hF _ _ hG hs
  refine rn 2 z (ci hF z (fun c_10 hF=>?_) (fun c_10 hF=>?_))
  ·refine rn 2 z (bi hF (fun c_11 hF=>?_) (fun c_11 hF=>?_))
   ·refine bL 73 z c_11 (W.on z z (W.o (aB z) (W.on z z (W.o (aI z (DP.cN (DP.refl _) (bF n))) (rn 3 z (bi hF (fun c_12 hF=>?_) (fun c_12 hF=>?_)))))))
    ·refine bL 78 z c_12 (W.on z z (W.o (aB z) (W.on z z (W.o (aI z (DP.cN (DP.refl _) (aV n))) (W.on z z (W.o (e_len (bJ z)) (rn 3 z (bi hF (fun c_13 hF=>?_) (fun c_13 hF=>?_)))))))))
     ·refine bL 84 z c_13 (W.on z z (W.o (aB z) (W.on z z (W.o (aI z (DP.cN (DP.refl _) (cm n))) (rn 3 z (bi hF (fun c_14 hF=>?_) (fun c_14 hF=>?_)))))))
      ·refine bL 89 z c_14 (W.on z z (W.o (aB z) (W.on z z (W.o (aI z (DP.cN (DP.refl _) (cm n))) (rn 3 z (bi hF (fun c_15 hF=>?_) (fun c_15 hF=>?_)))))))
       ·refine bL 94 z c_15 (W.on z z (W.o (aB z) (W.on z z (W.o (aI z (DP.cN (DP.refl _) (cw n))) (rn 2 z (bi hF (fun c_16 hF=>?_) (fun c_16 hF=>?_)))))))
        ·refine bL 98 z c_16 (rn 13 z ?_);cases hF;exact rD (ah bG) z
        refine bL 98 z c_16 (W.on z z (W.o (aB z) (W.on z z (W.o (aI z (DP.cN (DP.refl _) (cw n))) (W.on z z (W.o (aB z) (W.on z z (W.o (aI z (DP.cN (DP.refl _) (cm n))) (rn 2 z (bi hF (fun c_17 hF=>?_) (fun c_17 hF=>?_)))))))))))
        ·refine bL 104 z c_17 (W.on z z (W.o (aB z) (W.on z z (W.o (aI z (DP.cN (DP.refl _) (cw n))) (rn 5 z ?_)))));cases hF;exact rD (ah bG) z
        refine bL 104 z c_17 (rn 7 z ?_);cases hF;exact rD (ah bG) z
       refine bL 94 z c_15 (rn 17 z ?_);cases hF;exact rD (ah bG) z
      refine bL 89 z c_14 (rn 22 z ?_);cases hF;exact rD (ah bG) z
     refine bL 84 z c_13 (rn 27 z ?_);cases hF;exact rD (ah bG) z
    refine bL 78 z c_12 (rn 33 z ?_);cases hF;exact rD (ah bG) z
   refine bL 73 z c_11 (rn 38 z ?_);cases hF;exact rD (ah bG) z
  refine rn 2 z (ci hF z (fun c_18 hF=>?_) (fun c_18 hF=>?_))
  ·refine rn 2 z (bi hF (fun c_19 hF=>?_) (fun c_19 hF=>?_))
   ·refine bL 114 z c_19 (rn 3 z (bi hF (fun c_20 hF=>?_) (fun c_20 hF=>?_)))
    ·refine bL 117 z c_20 (W.on z z (W.o (aB z) (W.on z z (W.o (aI z (DP.cN (DP.refl _) (aV n))) (W.on z z (W.o (e_len (bJ z)) (rn 3 z ?_)))))));cases hF;exact rD (ah bG) z
    refine bL 117 z c_20 (rn 6 z ?_);cases hF;exact rD (ah bG) z
   refine bL 114 z c_19 (rn 9 z ?_);cases hF;exact rD (ah bG) z
  refine rn 2 z (ci hF z (fun c_21 hF=>?_) (fun c_21 hF=>?_))
  ·refine rn 2 z (bi hF (fun c_22 hF=>?_) (fun c_22 hF=>?_))
   ·refine bL 126 z c_22 (rn 3 z (bi hF (fun c_23 hF=>?_) (fun c_23 hF=>?_)))
    ·refine bL 129 z c_23 (W.on z z (W.o (aB z) (W.on z z (W.o (aI z (DP.cN (DP.refl _) (aV n))) (W.on z z (W.o (e_len (bJ z)) (rn 3 z (bi hF (fun c_24 hF=>?_) (fun c_24 hF=>?_)))))))))
     ·refine bL 135 z c_24 (W.on z z (W.o (aB z) (W.on z z (W.o (aI z (DP.cN (DP.refl _) (bF n))) (rn 3 z (bi hF (fun c_25 hF=>?_) (fun c_25 hF=>?_)))))))
      ·refine bL 140 z c_25 (W.on z z (W.o (aB z) (W.on z z (W.o (aI z (DP.cN (DP.refl _) (bF n))) (rn 3 z ?_)))));cases hF;exact rD (ah bG) z
      refine bL 140 z c_25 (rn 5 z ?_);cases hF;exact rD (ah bG) z
     refine bL 135 z c_24 (rn 10 z ?_);cases hF;exact rD (ah bG) z
    refine bL 129 z c_23 (rn 16 z ?_);cases hF;exact rD (ah bG) z
   refine bL 126 z c_22 (rn 19 z ?_);cases hF;exact rD (ah bG) z
  refine rn 1 z ?_;cases hF;exact rD (ah bG) z
 | p2 n set bounds=>
  dsimp only at hF;intro tm st hf hs;refine en hf (rn 2 z (bi hF (fun c_26 hF=>?_) (fun c_26 hF=>?_)))
  ·refine bL 24 z c_26 (rn 3 z (bi hF (fun c_27 hF=>?_) (fun c_27 hF=>?_)))
   ·refine bL 27 z c_27 (W.on z z (W.o (aB z) (W.on z z (W.o (aI z (DP.cN (DP.refl _) (bF n))) (rn 3 z (bi hF (fun c_28 hF=>?_) (fun c_28 hF=>?_)))))))
    ·refine bL 32 z c_28 (W.on z z (W.o (aB z) (W.on z z (W.o (aI z (DP.cN (DP.refl _) (aV n))) (W.on z z (W.o (e_len (bJ z)) (rn 3 z ?_)))))));cases hF;exact rD (ah bG) z
    refine bL 32 z c_28 (rn 6 z ?_);cases hF;exact rD (ah bG) z
   refine bL 27 z c_27 (rn 11 z ?_);cases hF;exact rD (ah bG) z
  refine bL 24 z c_26 (rn 14 z ?_);cases hF;exact rD (ah bG) z
 | p3 n set bounds=>
  dsimp only at hF;intro tm st hf hs;refine en hf (rn 2 z (bi hF (fun c_29 hF=>?_) (fun c_29 hF=>?_)))
  ·refine bL 56 z c_29 (rn 3 z (bi hF (fun c_30 hF=>?_) (fun c_30 hF=>?_)))
   ·refine bL 59 z c_30 (W.on z z (W.o (aB z) (W.on z z (W.o (aI z (DP.cN (DP.refl _) (bF n))) (rn 3 z (bi hF (fun c_31 hF=>?_) (fun c_31 hF=>?_)))))))
    ·refine bL 64 z c_31 (W.on z z (W.o (aB z) (W.on z z (W.o (aI z (DP.cN (DP.refl _) (aV n))) (W.on z z (W.o (e_len (bJ z)) (rn 3 z ?_)))))));cases hF;exact rD (ah bG) z
    refine bL 64 z c_31 (rn 6 z ?_);cases hF;exact rD (ah bG) z
   refine bL 59 z c_30 (rn 11 z ?_);cases hF;exact rD (ah bG) z
  refine bL 56 z c_29 (rn 14 z ?_);cases hF;exact rD (ah bG) z
noncomputable def Gk (n:aK):Option Bool:=(if (n.Min==0)=true then (qd (.p1 n (decide (n.Set=(an.rep 4 (0:Int)))) (n.Max==0))) else (qd (.p1 n (decide (n.Set=(an.rep 4 (0:Int)))) false)))
theorem d106 (n:aK) (r:Bool) (hF:Gk n=some r):DFun Tryd.prog gE 106 [dL n] (AV.bool r):=by
 unfold Gk at hF;refine bD Xv z ?_;have hs:SH [] []:=SH.nil;generalize ([]:aA)=st at hs ⊢;refine rn 0 z (W.o (aY (cs:=bn n) z (by rw [aF];rfl) (aX _)) (rn 1 z (W.o (aB z) (W.o (aL z (DP.cN (DP.refl _) (mR n)) (eB _)) (W.o (dY (z:=[(.int .u64 0),(.int .u64 0),(.int .u64 0),(.int .u64 0)]) (cs:=jE (an.rep 4 (0:Int))) eV (show av (jE (an.rep 4 (0:Int))) _=_ from (fJ _))) (W.o (II z z (wB n.Set (an.rep 4 (0:Int)))) (rn 1 z (W.o (aB z) (W.o (aI z (DP.cN (DP.refl _) (cm n))) (rn 2 z (bi hF (fun c_1 hF=>?_) (fun c_1 hF=>?_))))))))))))
 ·exact bL 12 z c_1 (W.on z z (W.o (aB z) (W.on z z (W.o (aI z (DP.cN (DP.refl _) (cw n))) (rj 3 1 z (Vt (.p1 n (decide (n.Set=(an.rep 4 (0:Int)))) (n.Max==0)) _ hF _ _ hG hs))))))
 exact bL 12 z c_1 (rj 5 1 z (Vt (.p1 n (decide (n.Set=(an.rep 4 (0:Int)))) false) _ hF _ _ hG hs))
def Oo:aC:=.s (.o [qm 13 3,qb 14 .gtr 13 (ki 8192)] (.cond 14 (.o [qm 15 3,qm 2 15] .ret) .skip)) (.ops [qm 16 3,qn 17 9 5,qc 18 97 [17],qb 19 .add 16 18,qm 3 19])
def Gc:aC:=.o [qb 10 .lss 9 8] (.s (.cond 10 .skip (.exit 0)) (.s (.block 1 (.o [qi 11 9 7 9,qn 12 9 11,q 5 (.alloc [zb,zu,zu,zu,zu,zi,zi,zi,.aP]),qs 9 5 12] Oo)) (.ops [qb 20 .add 9 (ki 1),qm 9 20])))
def Gd:aC:=.o [qm 21 3,qm 2 21] .ret
def Ta:aC:=.o [qx 1 9 0,qm 2 (ki 0)] (.o [qm 3 (ki 1)] (.s (.o [qa 6 8 1,ql 7 6,qh 8 7,qm 9 (ki 0)] (.block 0 (.loop Gc))) Gd))
def ZV:List RA:=[(.tmp 2)]
theorem k97:au Tryd.prog (dQ [1]) 97=some ⟨22,Ta,ZV⟩:=by kernel_rfl
noncomputable abbrev X97 (r:Int):Cx:=cD Tryd.prog gE 22 ZV (AV.int .i64 r) [1]
inductive Pw where
 | e (n:aK)
 | p1 (sum:Int) (t7_:Sl aK) (t8_:Int) (t9_:Int)
noncomputable def ER:Pw→Option Int | .e n=>(ER (.p1 1 n.Kids ((ls n.Kids).length:Int) 0)) | .p1 sum t7_ t8_ t9_=>(if (decide (t9_<t8_))=true then (ix (ls t7_) t9_>>=fun v_2=>(if (decide (sum>8192))=true then (some sum) else (ER (.e v_2)>>=fun r_6=>(ER (.p1 (IntKind.wrap .i64 (sum+r_6)) t7_ t8_ (IntKind.wrap .i64 (t9_+1))))))) else (some sum)) partial_fixpoint
def Yl (x:Pw) (r:Int):Prop:=match x with | .e n=>DFun Tryd.prog gE 97 [dL n] (AV.int .i64 r) | .p1 sum t7_ t8_ t9_=> ∀(tm:Fr) (st:aA),dH tm [(3,AV.int .i64 sum),(7,cg 9 dL t7_),(8,AV.int .i64 t8_),(9,AV.int .i64 t9_)]→SH st []→W (X97 r) [.lp Gc,.blk 0,.code Gd] tm st
theorem w97: ∀(x:Pw) (r:Int),ER x=some r→Yl x r:=by
 refine ER.partial_correctness (Yl) ?_;intro g ih x r hF;cases x with
 | e n=>
  dsimp only at hF;refine bD k97 z ?_;have hs:SH [] []:=SH.nil;generalize ([]:aA)=st at hs ⊢;exact rn 0 z (W.o (aY (cs:=bn n) z (by rw [aF];rfl) (aX _)) (rn 2 z (W.o (aB z) (W.o (aI z (DP.cN (DP.refl _) (aV n))) (W.o (e_len (bJ z)) (rn 1 z (ih _ _ hF _ _ iG hs)))))))
 | p1 sum t7_ t8_ t9_=>
  dsimp only at hF;intro tm st hf hs;refine en hf (lp (rn 1 z (ci hF z (fun c_1 hF=>?_) (fun c_1 hF=>?_))))
  ·refine bj hF fun v_2 g_3 hF=>rn 0 z (W.o (aM (bJ z) z g_3) (W.o (aL z (DP.refl _) (aF _)) (al hs (cs:=bn ({Kind:=0,Set:=(an.rep 4 (0:Int)),Min:=0,Max:=0,aH:=0,Kids:=none}:aK)) z fun st b_4 hs=>sl hs 0 z z (LR.whole _ _) (aF _) z (aF _) (aX _) z fun st hs=>rn 2 z (ci hF z (fun c_5 hF=>?_) (fun c_5 hF=>?_)))))
   ·refine rn 2 z ?_;cases hF;exact rD (ah bG) z
   exact rn 1 z (W.o (eN z (hs.g 0 z) (LR.whole _ _) (aF _)) (bj hF fun r_6 g_7 hF=>df (ih (.e v_2) _ g_7) z (rn 4 z (ih _ _ hF _ _ iG (hs.p 1 [] z)))))
  refine rn 2 z ?_;cases hF;exact rD (ah bG) z
noncomputable def XI (n:aK):Option Int:=ER (.e n)
theorem d97 (n:aK) (r:Int) (hF:XI n=some r):DFun Tryd.prog gE 97 [dL n] (AV.int .i64 r):=by
 exact w97 (.e n) r hF
def Oq:aC:=.s (.cond 51 .skip (.exit 0)) (.s (.block 1 (.o [qi 52 1 48 50,ql 53 52,qm 10 53] (.o [qm 54 10,qa 55 7 3,ql 56 55,qb 57 .eql 54 56] (.cond 57 (.o [qm 58 1,qm 6 58,qm 7 kf] .ret) .skip)))) (.ops [qb 59 .add 50 (ki 1),qm 50 59]))
def Gf:aC:=.o [qb 51 .lss 50 49] Oq
def Ot:aC:=.cond 64 .skip (.exit 2)
def Ou:aC:=.s (.block 3 (.o [qi 65 9 61 63,qn 66 9 65,q 13 (.alloc [zb,zu,zu,zu,zu,zi,zi,zi,.aP]),qs 9 13 66] (.o [qn 68 9 13,qm 69 1,qm 70 2,qc 71 98 [68,69,70],qm 67 71,qe 72 67 0,qe 73 67 1,qm 1 72,qm 11 73] (.o [qm 74 11,q 75 (.un .not 74)] (.cond 75 (.o [qm 76 1,qm 6 76,qm 7 kf] .ret) .skip))))) (.ops [qb 77 .add 63 (ki 1),qm 63 77])
def Gg:aC:=.o [qb 64 .lss 63 62] (.s Ot Ou)
def Gi:aC:=.o [qm 78 1,qm 6 78,qm 7 kt] .ret
def zx:aC:=.o [qm 11 kt] (.s (.o [qa 60 8 3,ql 61 60,qh 62 61,qm 63 (ki 0)] (.block 2 (.loop Gg))) Gi)
def Ge:aC:=.s (.o [qa 40 0 3,ql 41 40,qb 42 .eql 41 (ku 7)] (.cond 42 (.s (.o [qa 43 7 3,ql 44 43,qm 45 1,qb 46 .geq 44 45] (.cond 46 (.o [qm 47 1,qm 6 47,qm 7 kf] .ret) .skip)) (.o [qm 48 2,qh 49 48,qm 50 (ki 0)] (.block 0 (.loop Gf)))) .skip)) zx
def Tb:aC:=.o [qx 3 9 0,qm 6 (ki 0),qm 7 kf] (.s (.o [qn 14 9 3,qc 15 106 [14],q 16 (.un .not 15)] (.cond 16 (.o [qm 17 1,qm 6 17,qm 7 kf] .ret) .skip)) (.s (.o [qa 18 0 3,ql 19 18,qb 20 .eql 19 (ku 6)] (.cond 20 (.s (.o [qa 21 7 3,ql 22 21,qm 23 1,qb 24 .neq 22 23,qm 25 24,(qm 26 1).n 25,(qb 27 .gtr 26 (ki 99)).n 25,qp 28 25 kt 27] (.cond 28 (.o [qm 29 1,qm 6 29,qm 7 kf] .ret) .skip)) (.o [qm 30 1,qb 31 .add 30 (ki 1),qm 1 31] (.o [qm 8 (.c .aP)] (.o [qm 32 8,qm 33 2,q 34 (.app 1 8 32 33),qm 8 34] (.ops [qm 35 8,qa 36 7 3,ql 37 36,q 38 (.bE 1 1 false [zi] [(0,(1,37))] false),q 39 (.app 1 8 35 38),qm 2 39]))))) .skip)) Ge))
def ZW:List RA:=[(.tmp 6),(.tmp 7)]
theorem k98:au Tryd.prog (dQ [3]) 98=some ⟨79,Tb,ZW⟩:=by kernel_rfl
noncomputable abbrev WU (r:Int × Bool):Cx:=cD Tryd.prog gE 79 ZW (AV.bt [AV.int .i64 r.1,AV.bool r.2]) [3]
inductive Px where
 | e (n:aK) (next:Int) (open_:Sl Int)
 | p1 (next:Int) (open_:Sl Int) (n:aK)
 | p2 (next:Int) (open_:Sl Int) (n:aK) (t48_:Sl Int) (t49_:Int) (t50_:Int)
 | p3 (next:Int) (open_:Sl Int) (n:aK)
 | p4 (next:Int) (open_:Sl Int) (t61_:Sl aK) (t62_:Int) (t63_:Int)
noncomputable def oy:Px→Option (Int × Bool) | .e n next open_=>(Gk n>>=fun r_1=>(if (!r_1)=true then (some (next,false)) else (if (n.Kind==6)=true then (if (n.aH != next)=true then (some (next,false)) else (if (decide (next>99))=true then (some (next,false)) else (if ((ls (none:Sl Int)).length+(ls open_).length)*8≤140737488355328 then (if ((ls (bW (none:Sl Int) (ls open_))).length+(ls (some ([n.aH]:List Int))).length)*8≤140737488355328 then (oy (.p1 (IntKind.wrap .i64 (next+1)) (bW (bW (none:Sl Int) (ls open_)) (ls (some ([n.aH]:List Int)))) n)) else none) else none))) else (oy (.p1 next open_ n))))) | .p1 next open_ n=>(if (n.Kind==7)=true then (if (decide (n.aH≥next))=true then (some (next,false)) else (oy (.p2 next open_ n open_ ((ls open_).length:Int) 0))) else (oy (.p3 next open_ n))) | .p2 next open_ n t48_ t49_ t50_=>(if (decide (t50_<t49_))=true then (ix (ls t48_) t50_>>=fun v_16=>(if (v_16==n.aH)=true then (some (next,false)) else (oy (.p2 next open_ n t48_ t49_ (IntKind.wrap .i64 (t50_+1)))))) else (oy (.p3 next open_ n))) | .p3 next open_ n=>(oy (.p4 next open_ n.Kids ((ls n.Kids).length:Int) 0)) | .p4 next open_ t61_ t62_ t63_=>(if (decide (t63_<t62_))=true then (ix (ls t61_) t63_>>=fun v_20=>(oy (.e v_20 next open_)>>=fun r_23=>(if (!r_23.2)=true then (some (r_23.1,false)) else (oy (.p4 r_23.1 open_ t61_ t62_ (IntKind.wrap .i64 (t63_+1))))))) else (some (next,true))) partial_fixpoint
def Ym (x:Px) (r:Int × Bool):Prop:=match x with | .e n next open_=>DFun Tryd.prog gE 98 [dL n,AV.int .i64 next,cg 1 (AV.int .i64) open_] (AV.bt [AV.int .i64 r.1,AV.bool r.2]) | .p1 next open_ n=> ∀(tm:Fr) (st:aA),dH tm [(1,AV.int .i64 next),(2,cg 1 (AV.int .i64) open_),(3,.aQ (bn n))]→SH st []→W (WU r) [.code Ge] tm st | .p2 next open_ n t48_ t49_ t50_=> ∀(tm:Fr) (st:aA),dH tm [(1,AV.int .i64 next),(2,cg 1 (AV.int .i64) open_),(3,.aQ (bn n)),(48,cg 1 (AV.int .i64) t48_),(49,AV.int .i64 t49_),(50,AV.int .i64 t50_)]→SH st []→W (WU r) [.lp Gf,.blk 0,.code zx] tm st | .p3 next open_ n=> ∀(tm:Fr) (st:aA),dH tm [(1,AV.int .i64 next),(2,cg 1 (AV.int .i64) open_),(3,.aQ (bn n))]→SH st []→W (WU r) [.code zx] tm st | .p4 next open_ t61_ t62_ t63_=> ∀(tm:Fr) (st:aA),dH tm [(1,AV.int .i64 next),(2,cg 1 (AV.int .i64) open_),(61,cg 9 dL t61_),(62,AV.int .i64 t62_),(63,AV.int .i64 t63_)]→SH st []→W (WU r) [.lp Gg,.blk 2,.code Gi] tm st
theorem w98: ∀(x:Px) (r:Int × Bool),oy x=some r→Ym x r:=by
 refine oy.partial_correctness (Ym) ?_;intro g ih x r hF;cases x with
 | e n next open_=>
  dsimp only at hF;refine bD k98 z ?_;have hs:SH [] []:=SH.nil;generalize ([]:aA)=st at hs ⊢;refine rn 0 z (W.o (aY (cs:=bn n) z (by rw [aF];rfl) (aX _)) (rn 2 z (W.o (aL z (DP.refl _) (aF _)) (bj hF fun r_1 g_2 hF=>df (d106 n _ g_2) z (rn 1 z (ci hF z (fun c_3 hF=>?_) (fun c_3 hF=>?_)))))))
  ·refine rn 3 z ?_;cases hF;exact rD (ah (ah bG)) z
  refine rn 0 z (W.o (aB z) (W.o (aI z (DP.cN (DP.refl _) (bI n))) (rn 1 z (ci hF z (fun c_4 hF=>?_) (fun c_4 hF=>?_)))))
  ·refine rn 0 z (W.o (aB z) (W.o (aI z (DP.cN (DP.refl _) (bF n))) (rn 3 z (bi hF (fun c_5 hF=>?_) (fun c_5 hF=>?_)))))
   ·refine bL 25 z c_5 (rn 3 z (ct z z (rn 3 z ?_)));cases hF;exact rD (ah (ah bG)) z
   refine bL 25 z c_5 (rn 3 z (ci hF z (fun c_6 hF=>?_) (fun c_6 hF=>?_)))
   ·refine rn 3 z ?_;cases hF;exact rD (ah (ah bG)) z
   obtain ⟨g_8,hF⟩:=jc hF
   have hs:=hs.fX Int;exact rn 6 z (ap (o:=(none:Sl Int)) (f:=AV.int .i64) (id:=0) (ys:=ls open_) hs 0 z z (eR (bJ z)) g_8 (fun _=>z) fun st b_9 hs=>rn 2 z (W.o (aB z) (W.o (aI z (DP.cN (DP.refl _) (bF n))) (bs (f:=AV.int .i64) ([n.aH]:List Int) hs z z z z fun st b_10 hs=>gj hF fun g_11 hF=>ap (ys:=ls (some ([n.aH]:List Int))) hs 1 z z (eR (cO (o:=(some ([n.aH]:List Int))) (id:=b_10) z)) g_11 (fun _=>z) fun st b_12 hs=>rj 1 1 z (wkc (gm (S:=[2]) ⟨(xL (es:=1) (f:=AV.int .i64) (o:=bW (bW (none:Sl Int) (ls open_)) (ls (some ([n.aH]:List Int)))) (id:=b_12)).1,trivial⟩) (ih _ _ hF _ _ ⟨z,(xL (es:=1) (f:=AV.int .i64) (o:=bW (bW (none:Sl Int) (ls open_)) (ls (some ([n.aH]:List Int)))) (id:=b_12)).2,z,trivial⟩ (hs.p 2 [] z)))))))
  exact rj 0 1 z (ih _ _ hF _ _ hG hs)
 | p1 next open_ n=>
  dsimp only at hF;intro tm st hf hs;refine en hf (rn 0 z (W.o (aB z) (W.o (aI z (DP.cN (DP.refl _) (bI n))) (rn 1 z (ci hF z (fun c_13 hF=>?_) (fun c_13 hF=>?_))))))
  ·refine rn 0 z (W.o (aB z) (W.o (aI z (DP.cN (DP.refl _) (bF n))) (rn 2 z (ci hF z (fun c_14 hF=>?_) (fun c_14 hF=>?_)))))
   ·refine rn 3 z ?_;cases hF;exact rD (ah (ah bG)) z
   exact rn 1 z (W.o (e_len (bJ z)) (rn 1 z (ih _ _ hF _ _ lD hs)))
  exact rj 0 1 z (ih _ _ hF _ _ hG hs)
 | p2 next open_ n t48_ t49_ t50_=>
  dsimp only at hF;intro tm st hf hs;refine en hf (lp (rn 1 z (ci hF z (fun c_15 hF=>?_) (fun c_15 hF=>?_))))
  ·refine bj hF fun v_16 g_17 hF=>rn 0 z (W.o (aM (bJ z) z g_17) (W.o (dW z z) (rn 2 z (W.o (aB z) (W.o (aI z (DP.cN (DP.refl _) (bF n))) (rn 1 z (ci hF z (fun c_18 hF=>?_) (fun c_18 hF=>?_))))))))
   ·refine rn 3 z ?_;cases hF;exact rD (ah (ah bG)) z
   exact rn 2 z (ih _ _ hF _ _ lD hs)
  exact rj 0 1 z (ih _ _ hF _ _ hG hs)
 | p3 next open_ n=>
  dsimp only at hF;intro tm st hf hs;exact en hf (rn 1 z (W.o (aB z) (W.o (aI z (DP.cN (DP.refl _) (aV n))) (W.o (e_len (bJ z)) (rn 1 z (ih _ _ hF _ _ kj hs))))))
 | p4 next open_ t61_ t62_ t63_=>
  dsimp only at hF;intro tm st hf hs;refine en hf (lp (rn 1 z (ci hF z (fun c_19 hF=>?_) (fun c_19 hF=>?_))))
  ·refine bj hF fun v_20 g_21 hF=>rn 0 z (W.o (aM (bJ z) z g_21) (W.o (aL z (DP.refl _) (aF _)) (al hs (cs:=bn ({Kind:=0,Set:=(an.rep 4 (0:Int)),Min:=0,Max:=0,aH:=0,Kids:=none}:aK)) z fun st b_22 hs=>sl hs 0 z z (LR.whole _ _) (aF _) z (aF _) (aX _) z fun st hs=>rn 0 z (W.o (eN z (hs.g 0 z) (LR.whole _ _) (aF _)) (bj hF fun r_23 g_24 hF=>rn 2 z (df (ih (.e v_20 next open_) _ g_24) z (rn 7 z (ci hF z (fun c_25 hF=>?_) (fun c_25 hF=>?_)))))))))
   ·refine rn 3 z ?_;cases hF;exact rD (ah (ah bG)) z
   exact rn 2 z (ih _ _ hF _ _ kj (hs.p 1 [] z))
  refine rn 3 z ?_;cases hF;exact rD (ah (ah bG)) z
noncomputable def XJ (n:aK) (next:Int) (open_:Sl Int):Option (Int × Bool):=oy (.e n next open_)
theorem d98 (n:aK) (next:Int) (open_:Sl Int) (r:Int × Bool) (hF:XJ n next open_=some r):DFun Tryd.prog gE 98 [dL n,AV.int .i64 next,cg 1 (AV.int .i64) open_] (AV.bt [AV.int .i64 r.1,AV.bool r.2]):=by
 exact w98 (.e n next open_) r hF
def TU:aC:=.o [qx 1 9 0,qm 2 (ki 0)] (.s (.o [qn 5 9 1,qc 6 97 [5],qb 7 .gtr 6 (ki 8192)] (.cond 7 (.o [qm 2 (ki 3)] .ret) .skip)) (.o [qn 9 9 1,qc 10 98 [9,(ki 1),(.c .aP)],qm 8 10,qe 11 8 0,qe 12 8 1,qm 3 11,qm 4 12] (.s (.o [qm 13 4,q 14 (.un .not 13)] (.cond 14 (.o [qm 2 (ki 90)] .ret) .skip)) (.o [qm 2 (ki 0)] .ret))))
def R89:List RA:=[(.tmp 2)]
theorem k89:au Tryd.prog (dQ [1]) 89=some ⟨15,TU,R89⟩:=by kernel_rfl
noncomputable def Tl (n:aK):Option Int:=(XI n>>=fun r_1=>(if (decide (r_1>8192))=true then (some 3) else (XJ n 1 none>>=fun r_4=>(if (!r_4.2)=true then (some 90) else (some 0)))))
theorem d89 (n:aK) (r:Int) (hF:Tl n=some r):DFun Tryd.prog gE 89 [dL n] (AV.int .i64 r):=by
 unfold Tl at hF;refine bD k89 z ?_;have hs:SH [] []:=SH.nil;generalize ([]:aA)=st at hs ⊢;refine rn 0 z (W.o (aY (cs:=bn n) z (by rw [aF];rfl) (aX _)) (rn 1 z (W.o (aL z (DP.refl _) (aF _)) (bj hF fun r_1 g_2 hF=>df (d97 n _ g_2) z (rn 1 z (ci hF z (fun c_3 hF=>?_) (fun c_3 hF=>?_)))))))
 ·refine rn 1 z ?_;cases hF;exact rD (ah bG) z
 refine rn 0 z (W.o (aL z (DP.refl _) (aF _)) (bj hF fun r_4 g_5 hF=>df (d98 _ _ _ _ g_5) z (rn 7 z (ci hF z (fun c_6 hF=>?_) (fun c_6 hF=>?_)))))
 ·refine rn 1 z ?_;cases hF;exact rD (ah bG) z
 refine rn 1 z ?_;cases hF;exact rD (ah bG) z
def Fs:aC:=.o [qm 44 8,qm 45 5,qb 46 .gtr 44 45] (.cond 46 (.ops [qm 47 8,qm 5 47]) .skip)
def OX:aC:=.o [qa 24 8 1,ql 25 24,qm 26 6,qi 27 9 25 26,qn 28 9 27,qc 29 65 [28],qm 23 29,qe 30 23 0,qe 31 23 1,qm 7 30,qm 8 31] (.s (.o [qm 32 7,qb 33 .gtr 32 (ki 0),qm 34 33,(qm 35 4).y 34,(qb 36 .eql 35 (ki 0)).y 34,(qm 37 36).y 34,(qm 38 7).n 37,(qm 39 4).n 37,(qb 40 .lss 38 39).n 37,(qp 41 37 kt 40).y 34,qp 42 34 41 kf] (.cond 42 (.ops [qm 43 7,qm 4 43]) .skip)) Fs)
def Ft:aC:=.ops [qm 21 6,qb 22 .add 21 (ki 1),qm 6 22]
def zm:aC:=.s (.o [qm 16 6,qa 17 8 1,ql 18 17,qh 19 18,qb 20 .lss 16 19] (.cond 20 .skip (.exit 0))) (.s (.block 1 OX) Ft)
def zn:aC:=.o [qm 48 4,qm 49 5,qm 2 48,qm 3 49] .ret
def Fq:aC:=.s (.o [qm 6 (ki 0)] (.block 0 (.loop zm))) zn
def Sx:aC:=.o [qx 1 9 0,qm 2 (ki 0),qm 3 (ki 0)] (.o [qm 4 (ki 0)] (.o [qm 5 (ki 0)] (.s (.o [qa 9 0 1,ql 10 9,qb 11 .eql 10 (ku 6)] (.cond 11 (.o [qa 12 7 1,ql 13 12,qm 4 13] (.ops [qa 14 7 1,ql 15 14,qm 5 15])) .skip)) Fq)))
def ZH:List RA:=[(.tmp 2),(.tmp 3)]
theorem k65:au Tryd.prog (dQ [1]) 65=some ⟨50,Sx,ZH⟩:=by kernel_rfl
noncomputable abbrev XW (r:Int × Int):Cx:=cD Tryd.prog gE 50 ZH (AV.bt [AV.int .i64 r.1,AV.int .i64 r.2]) [1]
inductive Pm where
 | e (n:aK)
 | p1 (n:aK) (low:Int) (high:Int)
 | p2 (n:aK) (low:Int) (high:Int) (i:Int)
 | p3 (n:aK) (low:Int) (high:Int) (i:Int) (b:Int)
noncomputable def rA:Pm→Option (Int × Int) | .e n=>(if (n.Kind==6)=true then (rA (.p1 n n.aH n.aH)) else (rA (.p1 n 0 0))) | .p1 n low high=>(rA (.p2 n low high 0)) | .p2 n low high i=>(if (decide (i<((ls n.Kids).length:Int)))=true then (ix (ls n.Kids) i>>=fun v_3=>(rA (.e v_3)>>=fun r_5=>(if (decide (r_5.1>0))=true then (if (low==0)=true then (rA (.p3 n r_5.1 high i r_5.2)) else (if (decide (r_5.1<low))=true then (rA (.p3 n r_5.1 high i r_5.2)) else (rA (.p3 n low high i r_5.2)))) else (rA (.p3 n low high i r_5.2))))) else (some (low,high))) | .p3 n low high i b=>(if (decide (b>high))=true then (rA (.p2 n low b (IntKind.wrap .i64 (i+1)))) else (rA (.p2 n low high (IntKind.wrap .i64 (i+1))))) partial_fixpoint
def Ye (x:Pm) (r:Int × Int):Prop:=match x with | .e n=>DFun Tryd.prog gE 65 [dL n] (AV.bt [AV.int .i64 r.1,AV.int .i64 r.2]) | .p1 n low high=> ∀(tm:Fr) (st:aA),dH tm [(1,.aQ (bn n)),(4,AV.int .i64 low),(5,AV.int .i64 high)]→SH st []→W (XW r) [.code Fq] tm st | .p2 n low high i=> ∀(tm:Fr) (st:aA),dH tm [(1,.aQ (bn n)),(4,AV.int .i64 low),(5,AV.int .i64 high),(6,AV.int .i64 i)]→SH st []→W (XW r) [.lp zm,.blk 0,.code zn] tm st | .p3 n low high i b=> ∀(tm:Fr) (st:aA),dH tm [(1,.aQ (bn n)),(4,AV.int .i64 low),(5,AV.int .i64 high),(6,AV.int .i64 i),(8,AV.int .i64 b)]→SH st []→W (XW r) [.code Fs,.blk 1,.code Ft,.lp zm,.blk 0,.code zn] tm st
theorem w65: ∀(x:Pm) (r:Int × Int),rA x=some r→Ye x r:=by
 refine rA.partial_correctness (Ye) ?_;intro g ih x r hF;cases x with
 | e n=>
  dsimp only at hF;refine bD k65 z ?_;have hs:SH [] []:=SH.nil;generalize ([]:aA)=st at hs ⊢;refine rn 0 z (W.o (aY (cs:=bn n) z (by rw [aF];rfl) (aX _)) (rn 4 z (W.o (aB z) (W.o (aI z (DP.cN (DP.refl _) (bI n))) (rn 1 z (ci hF z (fun c_1 hF=>?_) (fun c_1 hF=>?_)))))))
  ·exact rn 0 z (W.o (aB z) (W.o (aI z (DP.cN (DP.refl _) (bF n))) (rn 1 z (W.o (aB z) (W.o (aI z (DP.cN (DP.refl _) (bF n))) (rj 1 1 z (ih _ _ hF _ _ hG hs)))))))
  exact rj 0 1 z (ih _ _ hF _ _ hG hs)
 | p1 n low high=>
  dsimp only at hF;intro tm st hf hs;exact en hf (rn 1 z (ih _ _ hF _ _ iG hs))
 | p2 n low high i=>
  dsimp only at hF;intro tm st hf hs;refine en hf (lp (rn 1 z (W.o (aB z) (W.o (aI z (DP.cN (DP.refl _) (aV n))) (W.o (e_len (bJ z)) (rn 1 z (ci hF z (fun c_2 hF=>?_) (fun c_2 hF=>?_))))))))
  ·refine rn 0 z (W.o (aB z) (W.o (aI z (DP.cN (DP.refl _) (aV n))) (bj hF fun v_3 g_4 hF=>rn 1 z (W.o (aM (bJ z) z g_4) (W.o (aL z (DP.refl _) (aF _)) (bj hF fun r_5 g_6 hF=>df (ih (.e v_3) _ g_6) z (rn 8 z (bi hF (fun c_7 hF=>?_) (fun c_7 hF=>?_)))))))))
   ·refine bL 34 z c_7 (rn 3 z (bi hF (fun c_8 hF=>?_) (fun c_8 hF=>?_)))
    ·exact bL 37 z c_8 (rn 5 z (ct z z (rj 2 1 z (ih _ _ hF _ _ kj hs))))
    refine bL 37 z c_8 (rn 5 z (ci hF z (fun c_9 hF=>?_) (fun c_9 hF=>?_)))
    ·exact rj 2 1 z (ih _ _ hF _ _ kj hs)
    exact rj 0 1 z (ih _ _ hF _ _ kj hs)
   exact bL 34 z c_7 (rn 8 z (cf z z (rj 0 1 z (ih _ _ hF _ _ kj hs))))
  refine rn 4 z ?_;cases hF;exact rD (ah (ah bG)) z
 | p3 n low high i b=>
  dsimp only at hF;intro tm st hf hs;refine en hf (rn 3 z (ci hF z (fun c_10 hF=>?_) (fun c_10 hF=>?_)))
  ·exact rn 5 z (ih _ _ hF _ _ iG hs)
  exact rn 3 z (ih _ _ hF _ _ iG hs)
noncomputable def Rg (n:aK):Option (Int × Int):=rA (.e n)
theorem d65 (n:aK) (r:Int × Int) (hF:Rg n=some r):DFun Tryd.prog gE 65 [dL n] (AV.bt [AV.int .i64 r.1,AV.int .i64 r.2]):=by
 exact w65 (.e n) r hF
def Tc:aC:=.o [qm 2 (ki 0)] (.s (.o [qm 3 0,qb 4 .gtr 3 (ki 1073741824)] (.cond 4 (.o [qm 2 (ki 1073741824)] .ret) .skip)) (.o [qm 5 0,qm 2 5] .ret))
def R99:List RA:=[(.tmp 2)]
theorem k99:au Tryd.prog (dQ []) 99=some ⟨6,Tc,R99⟩:=by kernel_rfl
noncomputable def Jx (n:Int):Option Int:=(if (decide (n>1073741824))=true then (some 1073741824) else (some n))
theorem d99 (n:Int) (r:Int) (hF:Jx n=some r):DFun Tryd.prog gE 99 [AV.int .i64 n] (AV.int .i64 r):=by
 unfold Jx at hF;refine bD k99 z ?_;have hs:SH [] []:=SH.nil;generalize ([]:aA)=st at hs ⊢;refine rn 3 z (ci hF z (fun c_1 hF=>?_) (fun c_1 hF=>?_))
 ·refine rn 1 z ?_;cases hF;exact rD (ah bG) z
 refine rn 2 z ?_;cases hF;exact rD (ah bG) z
def GQ:aC:=.s (.o [qm 8 4,qa 9 8 1,ql 10 9,qh 11 10,qb 12 .lss 8 11] (.cond 12 .skip (.exit 0))) (.s (.block 1 (.ops [qm 15 3,qa 16 8 1,ql 17 16,qm 18 4,qi 19 9 17 18,qn 20 9 19,qc 21 90 [20],qb 22 .add 15 21,qc 23 99 [22],qm 3 23])) (.ops [qm 13 4,qb 14 .add 13 (ki 1),qm 4 14]))
def Ok:aC:=.o [qa 63 5 1,ql 64 63,qm 65 7,qb 66 .mul 64 65,qm 67 7,qb 68 .add 66 67,qb 69 .add 68 (ki 4),qc 70 99 [69],qm 2 70] .ret
def GS:aC:=.o [qm 58 7,qc 59 99 [58],qm 7 59] (.s (.o [qa 60 6 1,ql 61 60,qb 62 .lss 61 (ki 0)] (.cond 62 Ok .skip)) (.o [qa 71 5 1,ql 72 71,qm 73 7,qb 74 .mul 72 73,qa 75 6 1,ql 76 75,qa 77 5 1,ql 78 77,qb 79 .sub 76 78,qm 80 7,qb 81 .add 80 (ki 3),qb 82 .mul 79 81,qb 83 .add 74 82,qc 84 99 [83],qm 2 84] .ret))
def Oj:aC:=.cond 31 (.o [qm 33 3,qb 34 .add 33 (ki 2),qc 35 99 [34],qm 2 35] .ret) (.o [qb 37 .eql 25 (ku 4),qm 36 37] (.cond 36 (.o [qm 38 3,qa 39 8 1,ql 40 39,qh 41 40,qb 42 .sub 41 (ki 1),qb 43 .mul (ki 2) 42,qb 44 .add 38 43,qc 45 99 [44],qm 2 45] .ret) (.o [qb 47 .eql 25 (ku 5),qm 46 47] (.cond 46 (.o [qn 49 9 1,qc 50 65 [49],qm 48 50,qe 51 48 0,qe 52 48 1,qm 5 51,qm 6 52] (.o [qm 53 3,qm 7 53] (.s (.o [qm 54 5,qb 55 .gtr 54 (ki 0)] (.cond 55 (.ops [qm 56 7,qb 57 .add 56 (ki 1),qm 7 57]) .skip)) GS))) .skip))))
def GU:aC:=.o [qm 2 (ki 1)] .ret
def GR:aC:=.s (.o [qa 24 0 1,ql 25 24] (.block 2 (.o [qb 27 .eql 25 (ku 1),qm 26 27] (.cond 26 (.o [qm 2 (ki 0)] .ret) (.o [qb 29 .eql 25 (ku 3),qm 28 29] (.cond 28 (.o [qm 30 3,qm 2 30] .ret) (.o [qb 32 .eql 25 (ku 6),qm 31 32] Oj))))))) GU
def TV:aC:=.o [qx 1 9 0,qm 2 (ki 0)] (.o [qm 3 (ki 0)] (.s (.o [qm 4 (ki 0)] (.block 0 (.loop GQ))) GR))
def ZR:List RA:=[(.tmp 2)]
theorem k90:au Tryd.prog (dQ [1]) 90=some ⟨85,TV,ZR⟩:=by kernel_rfl
noncomputable abbrev Zc (r:Int):Cx:=cD Tryd.prog gE 85 ZR (AV.int .i64 r) [1]
inductive Pu where
 | e (n:aK)
 | p1 (n:aK) (sum:Int) (i:Int)
 | p2 (n:aK) (round:Int)
noncomputable def vg:Pu→Option Int | .e n=>(vg (.p1 n 0 0)) | .p1 n sum i=>(if (decide (i<((ls n.Kids).length:Int)))=true then (ix (ls n.Kids) i>>=fun v_2=>(vg (.e v_2)>>=fun r_4=>(Jx (IntKind.wrap .i64 (sum+r_4))>>=fun r_6=>(vg (.p1 n r_6 (IntKind.wrap .i64 (i+1))))))) else (if (n.Kind==1)=true then (some 0) else (if (n.Kind==3)=true then (some sum) else (if (n.Kind==6)=true then (Jx (IntKind.wrap .i64 (sum+2))>>=fun r_11=>(some r_11)) else (if (n.Kind==4)=true then (Jx (IntKind.wrap .i64 (sum+(IntKind.wrap .i64 (2*(IntKind.wrap .i64 (((ls n.Kids).length:Int)-1))))))>>=fun r_14=>(some r_14)) else (if (n.Kind==5)=true then (Rg n>>=fun r_17=>(if (decide (r_17.1>0))=true then (vg (.p2 n (IntKind.wrap .i64 (sum+1)))) else (vg (.p2 n sum)))) else (some 1))))))) | .p2 n round=>(Jx round>>=fun r_20=>(if (decide (n.Max<0))=true then (Jx (IntKind.wrap .i64 ((IntKind.wrap .i64 ((IntKind.wrap .i64 (n.Min*r_20))+r_20))+4))>>=fun r_23=>(some r_23)) else (Jx (IntKind.wrap .i64 ((IntKind.wrap .i64 (n.Min*r_20))+(IntKind.wrap .i64 ((IntKind.wrap .i64 (n.Max-n.Min))*(IntKind.wrap .i64 (r_20+3))))))>>=fun r_25=>(some r_25)))) partial_fixpoint
def Yj (x:Pu) (r:Int):Prop:=match x with | .e n=>DFun Tryd.prog gE 90 [dL n] (AV.int .i64 r) | .p1 n sum i=> ∀(tm:Fr) (st:aA),dH tm [(1,.aQ (bn n)),(3,AV.int .i64 sum),(4,AV.int .i64 i)]→SH st []→W (Zc r) [.lp GQ,.blk 0,.code GR] tm st | .p2 n round=> ∀(tm:Fr) (st:aA),dH tm [(1,.aQ (bn n)),(7,AV.int .i64 round)]→SH st []→W (Zc r) [.code GS,.blk 2,.code GU] tm st
theorem w90: ∀(x:Pu) (r:Int),vg x=some r→Yj x r:=by
 refine vg.partial_correctness (Yj) ?_;intro g ih x r hF;cases x with
 | e n=>
  dsimp only at hF;refine bD k90 z ?_;have hs:SH [] []:=SH.nil;generalize ([]:aA)=st at hs ⊢;exact rn 0 z (W.o (aY (cs:=bn n) z (by rw [aF];rfl) (aX _)) (rn 3 z (ih _ _ hF _ _ hG hs)))
 | p1 n sum i=>
  dsimp only at hF;intro tm st hf hs;refine en hf (lp (rn 1 z (W.o (aB z) (W.o (aI z (DP.cN (DP.refl _) (aV n))) (W.o (e_len (bJ z)) (rn 1 z (ci hF z (fun c_1 hF=>?_) (fun c_1 hF=>?_))))))))
  ·exact rn 1 z (W.o (aB z) (W.o (aI z (DP.cN (DP.refl _) (aV n))) (bj hF fun v_2 g_3 hF=>rn 1 z (W.o (aM (bJ z) z g_3) (W.o (aL z (DP.refl _) (aF _)) (bj hF fun r_4 g_5 hF=>df (ih (.e v_2) _ g_5) z (bj hF fun r_6 g_7 hF=>rn 1 z (df (d99 _ _ g_7) z (rn 4 z (ih _ _ hF _ _ hG hs))))))))))
  refine rn 0 z (W.o (aB z) (W.o (aI z (DP.cN (DP.refl _) (bI n))) (rn 2 z (ci hF z (fun c_8 hF=>?_) (fun c_8 hF=>?_)))))
  ·refine rn 1 z ?_;cases hF;exact rD (ah bG) z
  refine rn 2 z (ci hF z (fun c_9 hF=>?_) (fun c_9 hF=>?_))
  ·refine rn 2 z ?_;cases hF;exact rD (ah bG) z
  refine rn 2 z (ci hF z (fun c_10 hF=>?_) (fun c_10 hF=>?_))
  ·refine bj hF fun r_11 g_12 hF=>rn 2 z (df (d99 _ _ g_12) z (rn 1 z ?_));cases hF;exact rD (ah bG) z
  refine rn 2 z (ci hF z (fun c_13 hF=>?_) (fun c_13 hF=>?_))
  ·refine rn 1 z (W.o (aB z) (W.o (aI z (DP.cN (DP.refl _) (aV n))) (W.o (e_len (bJ z)) (bj hF fun r_14 g_15 hF=>rn 3 z (df (d99 _ _ g_15) z (rn 1 z ?_))))));cases hF;exact rD (ah bG) z
  refine rn 2 z (ci hF z (fun c_16 hF=>?_) (fun c_16 hF=>?_))
  ·refine rn 0 z (W.o (aL z (DP.refl _) (aF _)) (bj hF fun r_17 g_18 hF=>df (d65 n _ g_18) z (rn 9 z (ci hF z (fun c_19 hF=>?_) (fun c_19 hF=>?_)))))
   ·exact rj 3 1 z (ih _ _ hF _ _ Ra hs)
   exact rj 0 1 z (ih _ _ hF _ _ Ra hs)
  refine rn 1 z ?_;cases hF;exact rD (ah bG) z
 | p2 n round=>
  dsimp only at hF;intro tm st hf hs;refine en hf (bj hF fun r_20 g_21 hF=>rn 1 z (df (d99 _ _ g_21) z (rn 1 z (W.o (aB z) (W.o (aI z (DP.cN (DP.refl _) (cw n))) (rn 1 z (ci hF z (fun c_22 hF=>?_) (fun c_22 hF=>?_))))))))
  ·refine rn 0 z (W.o (aB z) (W.o (aI z (DP.cN (DP.refl _) (cm n))) (bj hF fun r_23 g_24 hF=>rn 5 z (df (d99 _ _ g_24) z (rn 1 z ?_)))));cases hF;exact rD (ah bG) z
  refine rn 0 z (W.o (aB z) (W.o (aI z (DP.cN (DP.refl _) (cm n))) (rn 2 z (W.o (aB z) (W.o (aI z (DP.cN (DP.refl _) (cw n))) (W.o (aB z) (W.o (aI z (DP.cN (DP.refl _) (cm n))) (bj hF fun r_25 g_26 hF=>rn 5 z (df (d99 _ _ g_26) z (rn 1 z ?_))))))))));cases hF;exact rD (ah bG) z
noncomputable def XF (n:aK):Option Int:=vg (.e n)
theorem d90 (n:aK) (r:Int) (hF:XF n=some r):DFun Tryd.prog gE 90 [dL n] (AV.int .i64 r):=by
 exact w90 (.e n) r hF
end Go.Proofs.YtcidnoghoifmmaaDoor
end
