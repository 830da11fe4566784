/-
  Functions of the program's as plain functions.
-/
import Derived.Test.YtfjdegohjnejkaaD4
set_option linter.unusedVariables false
set_option maxRecDepth 4000
set_option maxHeartbeats 4000000
namespace Go.Proofs.Ytfjdegohjnejkaa
open Go AW
attribute [local irreducible] W WD SH XS XLoop DFun XCall
/-! ### 3: paddock/paddocklaw07.SetsMade -/
def O3_8q2 : List AOp := (q 73 (.mv 14)).y 71 :: (q 74 (.eqB false 72 73)).y 71 :: q 75 (.pick 71 74 (.c (.bool false))) :: q 10 (.mv 75) :: []
def O3_8q1 : List AOp := q 49 (.mv 48) :: (q 50 (.loadN 4 6)).y 49 :: (qc 51 19 [50]).y 49 :: (q 52 (.loadN 4 6)).y 49 :: (qc 53 16 [52]).y 49 :: (q 54 (.len 53)).y 49 :: (q 55 (.binI .eql 51 54)).y 49 :: q 56 (.pick 49 55 (.c (.bool false))) :: q 57 (.mv 56) :: (q 58 (.mv 2)).y 57 :: (q 59 (.mv 3)).y 57 :: (qc 60 20 [58, 59]).y 57 :: (q 61 (.mv 2)).y 57 :: (q 62 (.mv 3)).y 57 :: (qc 63 21 [61, 62]).y 57 :: (q 64 (.eqA false [.i, .i, .i, .i] 60 63)).y 57 :: q 65 (.pick 57 64 (.c (.bool false))) :: q 66 (.mv 65) :: (q 67 (.loadN 4 11)).y 66 :: (q 68 (.loadN 4 13)).y 66 :: (q 69 (.eqA false [.i, .i, .i, .i] 67 68)).y 66 :: q 70 (.pick 66 69 (.c (.bool false))) :: q 71 (.mv 70) :: (q 72 (.mv 12)).y 71 :: O3_8q2
def O3_8q0 : List AOp := qc 25 11 [] :: q 26 (.mv 25) :: (q 27 (.mv 0)).y 26 :: (qc 28 12 [27]).y 26 :: (q 29 (.mv 0)).y 26 :: (qc 30 13 [29]).y 26 :: (q 31 (.eqA false [.i, .i, .i, .i] 28 30)).y 26 :: q 32 (.pick 26 31 (.c (.bool false))) :: q 33 (.mv 32) :: (q 34 (.loadN 4 6)).y 33 :: (qc 35 15 [34]).y 33 :: (q 36 (.loadN 4 6)).y 33 :: (qc 37 16 [36]).y 33 :: (qc 38 14 [35, 37]).y 33 :: q 39 (.pick 33 38 (.c (.bool false))) :: q 40 (.mv 39) :: (q 41 (.loadN 4 6)).y 40 :: (q 42 (.mv 2)).y 40 :: (qc 43 17 [41, 42]).y 40 :: (q 44 (.loadN 4 6)).y 40 :: (q 45 (.mv 2)).y 40 :: (qc 46 18 [44, 45]).y 40 :: (q 47 (.eqB false 43 46)).y 40 :: q 48 (.pick 40 47 (.c (.bool false))) :: O3_8q1
def C3_1 : ACode := .s (.ops [q 6 (.box 4 1), q 10 (.mv (.c (.bool false)))]) (.s (.ops [q 16 (.mv 4), qc 17 9 [16], q 15 (.mv 17), q 18 (.extract 15 0), q 19 (.extract 15 1), q 11 (.alloc [(.int .u64 0), (.int .u64 0), (.int .u64 0), (.int .u64 0)]), q0 (.store 4 11 18), q 12 (.mv 19)]) (.s (.ops [q 21 (.mv 4), qc 22 10 [21], q 20 (.mv 22), q 23 (.extract 20 0), q 24 (.extract 20 1), q 13 (.alloc [(.int .u64 0), (.int .u64 0), (.int .u64 0), (.int .u64 0)]), q0 (.store 4 13 23), q 14 (.mv 24)]) (.s (.draw [] 0 0 O3_8q0 []) .ret)))
def R3 : List RA := [(.tmp 10)]
theorem k3 : compF Try.prog (muL []) 3 = some ⟨76, C3_1, R3⟩ := by kernel_rfl
noncomputable abbrev X3 (r : Bool) : Cx := cD Try.prog noG 76 R3 (AV.bool r)
noncomputable def F3 (b : Sl Int) (s : Arr 4 Int) (from_ : Int) (to_ : Int) (name : Str) : Option Bool :=
 (F9 name >>= fun r_2 =>
  (F10 name >>= fun r_5 =>
   (F11 >>= fun r_8 =>
    (if r_8 = true then
     (F12 b >>= fun r_11 =>
      (F13 b >>= fun r_13 =>
       (if (decide (r_11 = r_13)) = true then
        (F15 s >>= fun r_16 =>
         (F16 s >>= fun r_18 =>
          (F14 r_16 r_18 >>= fun r_20 =>
           (if r_20 = true then
            (F17 s from_ >>= fun r_23 =>
             (F18 s from_ >>= fun r_25 =>
              (if (r_23 == r_25) = true then
               (F19 s >>= fun r_28 =>
                (F16 s >>= fun r_30 =>
                 (if (r_28 == ((ls r_30).length : Int)) = true then
                  (F20 from_ to_ >>= fun r_33 =>
                   (F21 from_ to_ >>= fun r_35 =>
                    (if (decide (r_33 = r_35)) = true then
                     (if (decide (r_2.1 = r_5.1)) = true then
                      (some (r_2.2 == r_5.2))
                     else
                      (some false))
                    else
                     (some false))))
                 else
                  (some false))))
              else
               (some false))))
           else
            (some false)))))
       else
        (some false))))
    else
     (some false)))))
theorem d3 (b : Sl Int) (s : Arr 4 Int) (from_ : Int) (to_ : Int) (name : Str) (r : Bool) (hF : F3 b s from_ to_ name = some r) : DFun Try.prog noG 3 [slV 1 (AV.int .u8) b, v24 s, AV.int .u8 from_, AV.int .u8 to_, AV.str name] (AV.bool r) := by
 unfold F3 at hF
 refine bD k3 rfl ?_
 have hs : SH [] [] := SH.nil
 generalize ([] : Store) = st at hs ⊢
 refine rn 0 rfl ?_
 refine bx hs (cs := c24 s) rfl rfl fun st b_1 hs => ?_
 obtain ⟨r_2, g_3, hF⟩ := bind_some hF
 refine rn 2 rfl ?_
 refine df (d9 name _ g_3) rfl ?_
 refine rn 3 rfl ?_
 refine al hs (cs := c24 (Arr.rep 4 0)) rfl fun st b_4 hs => ?_
 refine sr hs 0 rfl rfl rfl (cs' := c24 r_2.1) rfl rfl fun st hs => ?_
 obtain ⟨r_5, g_6, hF⟩ := bind_some hF
 refine rn 2 rfl ?_
 refine df (d10 name _ g_6) rfl ?_
 refine rn 3 rfl ?_
 refine al hs (cs := c24 (Arr.rep 4 0)) rfl fun st b_7 hs => ?_
 refine sr hs 0 rfl rfl rfl (cs' := c24 r_5.1) rfl rfl fun st hs => ?_
 refine rn 1 rfl ?_
 have h0 := hs
 refine dr0 ?_
 obtain ⟨r_8, g_9, hF⟩ := bind_some hF
 refine ddf (d11 _ g_9) rfl ?_
 refine dn 1 rfl ?_
 refine bi hF (fun c_10 hF => ?_) (fun c_10 hF => ?_)
 · refine dfx 26 rfl c_10 ?_
   obtain ⟨r_11, g_12, hF⟩ := bind_some hF
   refine dn 1 rfl ?_
   refine don rfl rfl ?_
   refine ddf (d12 b _ g_12) rfl ?_
   obtain ⟨r_13, g_14, hF⟩ := bind_some hF
   refine dn 1 rfl ?_
   refine don rfl rfl ?_
   refine ddf (d13 b _ g_14) rfl ?_
   refine don rfl rfl ?_
   refine de rfl (e_eqA rfl rfl (c24_eq r_11 r_13)) ?_
   refine dn 2 rfl ?_
   refine bi hF (fun c_15 hF => ?_) (fun c_15 hF => ?_)
   · refine dfx 33 rfl c_15 ?_
     refine don rfl rfl ?_
     refine de rfl (lN (s := c24 s) rfl (h0.g 2 rfl) rfl rfl) ?_
     obtain ⟨r_16, g_17, hF⟩ := bind_some hF
     refine don rfl rfl ?_
     refine ddf (dfun_own (fun st L K hs hK => d15 s _ g_17 K L st hs hK)) rfl ?_
     refine don rfl rfl ?_
     refine de rfl (lN (s := c24 s) rfl (h0.g 2 rfl) rfl rfl) ?_
     obtain ⟨r_18, g_19, hF⟩ := bind_some hF
     refine don rfl rfl ?_
     refine ddf (d16 s _ g_19) rfl ?_
     obtain ⟨r_20, g_21, hF⟩ := bind_some hF
     refine don rfl rfl ?_
     refine ddf (d14 r_16 r_18 _ g_21) rfl ?_
     refine dn 2 rfl ?_
     refine bi hF (fun c_22 hF => ?_) (fun c_22 hF => ?_)
     · refine dfx 40 rfl c_22 ?_
       refine don rfl rfl ?_
       refine de rfl (lN (s := c24 s) rfl (h0.g 2 rfl) rfl rfl) ?_
       obtain ⟨r_23, g_24, hF⟩ := bind_some hF
       refine dn 1 rfl ?_
       refine don rfl rfl ?_
       refine ddf (d17 s from_ _ g_24) rfl ?_
       refine don rfl rfl ?_
       refine de rfl (lN (s := c24 s) rfl (h0.g 2 rfl) rfl rfl) ?_
       obtain ⟨r_25, g_26, hF⟩ := bind_some hF
       refine dn 1 rfl ?_
       refine don rfl rfl ?_
       refine ddf (d18 s from_ _ g_26) rfl ?_
       refine dn 3 rfl ?_
       refine bi hF (fun c_27 hF => ?_) (fun c_27 hF => ?_)
       · refine dfx 49 rfl c_27 ?_
         refine don rfl rfl ?_
         refine de rfl (lN (s := c24 s) rfl (h0.g 2 rfl) rfl rfl) ?_
         obtain ⟨r_28, g_29, hF⟩ := bind_some hF
         refine don rfl rfl ?_
         refine ddf (d19 s _ g_29) rfl ?_
         refine don rfl rfl ?_
         refine de rfl (lN (s := c24 s) rfl (h0.g 2 rfl) rfl rfl) ?_
         obtain ⟨r_30, g_31, hF⟩ := bind_some hF
         refine don rfl rfl ?_
         refine ddf (d16 s _ g_31) rfl ?_
         refine don rfl rfl ?_
         refine de rfl (e_len (rd_V rfl)) ?_
         refine dn 3 rfl ?_
         refine bi hF (fun c_32 hF => ?_) (fun c_32 hF => ?_)
         · refine dfx 57 rfl c_32 ?_
           obtain ⟨r_33, g_34, hF⟩ := bind_some hF
           refine dn 2 rfl ?_
           refine don rfl rfl ?_
           refine ddf (d20 from_ to_ _ g_34) rfl ?_
           obtain ⟨r_35, g_36, hF⟩ := bind_some hF
           refine dn 2 rfl ?_
           refine don rfl rfl ?_
           refine ddf (d21 from_ to_ _ g_36) rfl ?_
           refine don rfl rfl ?_
           refine de rfl (e_eqA rfl rfl (c24_eq r_33 r_35)) ?_
           refine dn 2 rfl ?_
           refine bi hF (fun c_37 hF => ?_) (fun c_37 hF => ?_)
           · refine dfx 66 rfl c_37 ?_
             refine don rfl rfl ?_
             refine de rfl (lN (s := c24 r_2.1) rfl (h0.g 1 rfl) rfl rfl) ?_
             refine don rfl rfl ?_
             refine de rfl (lN (s := c24 r_5.1) rfl (h0.g 0 rfl) rfl rfl) ?_
             refine don rfl rfl ?_
             refine de rfl (e_eqA rfl rfl (c24_eq r_2.1 r_5.1)) ?_
             refine dn 2 rfl ?_
             refine bi hF (fun c_38 hF => ?_) (fun c_38 hF => ?_)
             · refine dfx 71 rfl c_38 ?_
               refine dn 5 rfl ?_
               refine dz ?_
               refine rn 0 rfl ?_
               cases hF
               exact rD (rlt rl0) rfl
             · refine dfx 71 rfl c_38 ?_
               refine dn 5 rfl ?_
               refine dz ?_
               refine rn 0 rfl ?_
               cases hF
               exact rD (rlt rl0) rfl
           · refine dfx 66 rfl c_37 ?_
             refine dn 10 rfl ?_
             refine dz ?_
             refine rn 0 rfl ?_
             cases hF
             exact rD (rlt rl0) rfl
         · refine dfx 57 rfl c_32 ?_
           refine dn 19 rfl ?_
           refine dz ?_
           refine rn 0 rfl ?_
           cases hF
           exact rD (rlt rl0) rfl
       · refine dfx 49 rfl c_27 ?_
         refine dn 27 rfl ?_
         refine dz ?_
         refine rn 0 rfl ?_
         cases hF
         exact rD (rlt rl0) rfl
     · refine dfx 40 rfl c_22 ?_
       refine dn 36 rfl ?_
       refine dz ?_
       refine rn 0 rfl ?_
       cases hF
       exact rD (rlt rl0) rfl
   · refine dfx 33 rfl c_15 ?_
     refine dn 43 rfl ?_
     refine dz ?_
     refine rn 0 rfl ?_
     cases hF
     exact rD (rlt rl0) rfl
 · refine dfx 26 rfl c_10 ?_
   refine dn 50 rfl ?_
   refine dz ?_
   refine rn 0 rfl ?_
   cases hF
   exact rD (rlt rl0) rfl
/-! ### 4: paddock/paddocklaw07.SetsBrackets -/
def C4_1 : ACode := .s (.ops [q 2 (.mv (.c (.bool false)))]) (.s (.ops [q 12 (.mv 0), qc 13 22 [12], q 11 (.mv 13), q 14 (.extract 11 0), q 15 (.extract 11 1), q 16 (.extract 11 2), q 17 (.extract 11 3), q 3 (.alloc [(.int .u64 0), (.int .u64 0), (.int .u64 0), (.int .u64 0)]), q0 (.store 4 3 14), q 4 (.mv 15), q 5 (.mv 16), q 6 (.mv 17)]) (.s (.ops [q 19 (.mv 0), qc 20 23 [19], q 18 (.mv 20), q 21 (.extract 18 0), q 22 (.extract 18 1), q 23 (.extract 18 2), q 24 (.extract 18 3), q 7 (.alloc [(.int .u64 0), (.int .u64 0), (.int .u64 0), (.int .u64 0)]), q0 (.store 4 7 21), q 8 (.mv 22), q 9 (.mv 23), q 10 (.mv 24)]) (.s (.ops [qc 25 11 [], q 26 (.mv 25), (q 27 (.loadN 4 3)).y 26, (q 28 (.loadN 4 7)).y 26, (q 29 (.eqA false [.i, .i, .i, .i] 27 28)).y 26, q 30 (.pick 26 29 (.c (.bool false))), q 31 (.mv 30), (q 32 (.mv 4)).y 31, (q 33 (.mv 8)).y 31, (q 34 (.binI .eql 32 33)).y 31, q 35 (.pick 31 34 (.c (.bool false))), q 36 (.mv 35), (q 37 (.mv 5)).y 36, (q 38 (.mv 9)).y 36, (q 39 (.binI .eql 37 38)).y 36, q 40 (.pick 36 39 (.c (.bool false))), q 41 (.mv 40), (q 42 (.mv 6)).y 41, (q 43 (.mv 10)).y 41, (q 44 (.binI .eql 42 43)).y 41, q 45 (.pick 41 44 (.c (.bool false))), q 2 (.mv 45)]) .ret)))
def R4 : List RA := [(.tmp 2)]
theorem k4 : compF Try.prog (muL []) 4 = some ⟨46, C4_1, R4⟩ := by kernel_rfl
noncomputable abbrev X4 (r : Bool) : Cx := cD Try.prog noG 46 R4 (AV.bool r)
noncomputable def F4 (s : Str) : Option Bool :=
 (F22 s >>= fun r_1 =>
  (F23 s >>= fun r_4 =>
   (F11 >>= fun r_7 =>
    (if r_7 = true then
     (if (decide (r_1.1 = r_4.1)) = true then
      (if (r_1.2.1 == r_4.2.1) = true then
       (if (r_1.2.2.1 == r_4.2.2.1) = true then
        (some (r_1.2.2.2 == r_4.2.2.2))
       else
        (some false))
      else
       (some false))
     else
      (some false))
    else
     (some false)))))
theorem d4 (s : Str) (r : Bool) (hF : F4 s = some r) : DFun Try.prog noG 4 [AV.str s] (AV.bool r) := by
 unfold F4 at hF
 refine bD k4 rfl ?_
 have hs : SH [] [] := SH.nil
 generalize ([] : Store) = st at hs ⊢
 obtain ⟨r_1, g_2, hF⟩ := bind_some hF
 refine rn 2 rfl ?_
 refine df (d22 s _ g_2) rfl ?_
 refine rn 5 rfl ?_
 refine al hs (cs := c24 (Arr.rep 4 0)) rfl fun st b_3 hs => ?_
 refine sr hs 0 rfl rfl rfl (cs' := c24 r_1.1) rfl rfl fun st hs => ?_
 obtain ⟨r_4, g_5, hF⟩ := bind_some hF
 refine rn 4 rfl ?_
 refine df (d23 s _ g_5) rfl ?_
 refine rn 5 rfl ?_
 refine al hs (cs := c24 (Arr.rep 4 0)) rfl fun st b_6 hs => ?_
 refine sr hs 0 rfl rfl rfl (cs' := c24 r_4.1) rfl rfl fun st hs => ?_
 obtain ⟨r_7, g_8, hF⟩ := bind_some hF
 refine rn 3 rfl ?_
 refine df (d11 _ g_8) rfl ?_
 refine rn 1 rfl ?_
 refine bi hF (fun c_9 hF => ?_) (fun c_9 hF => ?_)
 · refine wfx 26 rfl c_9 ?_
   refine W.on rfl rfl ?_
   refine W.o (lN (s := c24 r_1.1) rfl (hs.g 1 rfl) rfl rfl) ?_
   refine W.on rfl rfl ?_
   refine W.o (lN (s := c24 r_4.1) rfl (hs.g 0 rfl) rfl rfl) ?_
   refine W.on rfl rfl ?_
   refine W.o (e_eqA rfl rfl (c24_eq r_1.1 r_4.1)) ?_
   refine rn 2 rfl ?_
   refine bi hF (fun c_10 hF => ?_) (fun c_10 hF => ?_)
   · refine wfx 31 rfl c_10 ?_
     refine rn 5 rfl ?_
     refine bi hF (fun c_11 hF => ?_) (fun c_11 hF => ?_)
     · refine wfx 36 rfl c_11 ?_
       refine rn 5 rfl ?_
       refine bi hF (fun c_12 hF => ?_) (fun c_12 hF => ?_)
       · refine wfx 41 rfl c_12 ?_
         refine rn 5 rfl ?_
         cases hF
         exact rD (rlt rl0) rfl
       · refine wfx 41 rfl c_12 ?_
         refine rn 5 rfl ?_
         cases hF
         exact rD (rlt rl0) rfl
     · refine wfx 36 rfl c_11 ?_
       refine rn 10 rfl ?_
       cases hF
       exact rD (rlt rl0) rfl
   · refine wfx 31 rfl c_10 ?_
     refine rn 15 rfl ?_
     cases hF
     exact rD (rlt rl0) rfl
 · refine wfx 26 rfl c_9 ?_
   refine rn 20 rfl ?_
   cases hF
   exact rD (rlt rl0) rfl
/-! ### 5: paddock/paddocklaw07.SetsBack -/
def C5_1 : ACode := .s (.ops [q 3 (.box 4 0), q 6 (.mv (.c (.bool false)))]) (.s (.s (.ops [qc 21 11 [], q 22 (.un .not 21)]) (.cond 22 (.s (.ops [q 6 (.mv (.c (.bool false)))]) .ret) .skip)) (.s (.ops [q 23 (.loadN 4 3), qc 24 24 [23], q 7 (.mv 24)]) (.s (.ops [q 26 (.mv 7), q 27 (.mv 2), q 28 (.binS .add 26 27), qc 29 22 [28], q 25 (.mv 29), q 30 (.extract 25 0), q 31 (.extract 25 1), q 32 (.extract 25 2), q 33 (.extract 25 3), q 8 (.alloc [(.int .u64 0), (.int .u64 0), (.int .u64 0), (.int .u64 0)]), q0 (.store 4 8 30), q 9 (.mv 31), q 10 (.mv 32), q 11 (.mv 33)]) (.s (.s (.ops [q 34 (.loadN 4 8), q 35 (.loadN 4 3), q 36 (.eqA true [.i, .i, .i, .i] 34 35), q 37 (.mv 36), (q 38 (.mv 9)).n 37, (q 39 (.mv 7)).n 37, (q 40 (.lenS 39)).n 37, (q 41 (.binI .neq 38 40)).n 37, q 42 (.pick 37 (.c (.bool true)) 41), q 43 (.mv 42), (q 44 (.mv 10)).n 43, (q 45 (.binI .neq 44 (ki 0))).n 43, q 46 (.pick 43 (.c (.bool true)) 45), q 47 (.mv 46), (q 48 (.mv 11)).n 47, (q 49 (.binI .neq 48 (ki 0))).n 47, q 50 (.pick 47 (.c (.bool true)) 49)]) (.cond 50 (.s (.ops [q 6 (.mv (.c (.bool false)))]) .ret) .skip)) (.s (.ops [q 52 (.mv 1), qc 53 22 [52], q 51 (.mv 53), q 54 (.extract 51 0), q 55 (.extract 51 1), q 56 (.extract 51 2), q 57 (.extract 51 3), q 12 (.alloc [(.int .u64 0), (.int .u64 0), (.int .u64 0), (.int .u64 0)]), q0 (.store 4 12 54), q 9 (.mv 55), q 10 (.mv 56), q 13 (.mv 57)]) (.s (.s (.ops [q 58 (.mv 10), q 59 (.binI .neq 58 (ki 0))]) (.cond 59 (.s (.ops [q 60 (.mv 9), q 61 (.binI .eql 60 (ki 0)), q 62 (.mv 61), (q 63 (.loadN 4 12)).y 62, (q 64 (.build [(.int .u64 0), (.int .u64 0), (.int .u64 0), (.int .u64 0)] [])).y 62, (q 65 (.eqA false [.i, .i, .i, .i] 63 64)).y 62, q 66 (.pick 62 65 (.c (.bool false))), q 67 (.mv 66), (q 68 (.mv 10)).y 67, (q 69 (.binI .eql 68 (ki 70))).y 67, q 70 (.pick 67 69 (.c (.bool false))), q 6 (.mv 70)]) .ret) .skip)) (.s (.s (.ops [q 71 (.mv 9), q 72 (.binI .lss 71 (ki 2)), q 73 (.mv 72), (q 74 (.mv 9)).n 73, (q 75 (.mv 1)).n 73, (q 76 (.lenS 75)).n 73, (q 77 (.binI .gtr 74 76)).n 73, q 78 (.pick 73 (.c (.bool true)) 77), q 79 (.mv 78), (q 80 (.mv 1)).n 79, (q 81 (.mv 9)).n 79, (q 82 (.binI .sub 81 (ki 1))).n 79, (q 83 (.ixS 80 82)).n 79, (q 84 (.binI .neq 83 (ku 93))).n 79, q 85 (.pick 79 (.c (.bool true)) 84)]) (.cond 85 (.s (.ops [q 6 (.mv (.c (.bool false)))]) .ret) .skip)) (.s (.ops [q 87 (.mv 1), q 88 (.mv 9), q 89 (.slS 87 .none (.some 88)), q 90 (.mv 2), q 91 (.binS .add 89 90), qc 92 22 [91], q 86 (.mv 92), q 93 (.extract 86 0), q 94 (.extract 86 1), q 95 (.extract 86 2), q 96 (.extract 86 3), q 14 (.alloc [(.int .u64 0), (.int .u64 0), (.int .u64 0), (.int .u64 0)]), q0 (.store 4 14 93), q 15 (.mv 94), q 10 (.mv 95), q 16 (.mv 96)]) (.s (.ops [q 98 (.loadN 4 12), qc 99 24 [98], qc 100 22 [99], q 97 (.mv 100), q 101 (.extract 97 0), q 102 (.extract 97 1), q 103 (.extract 97 2), q 104 (.extract 97 3), q 17 (.alloc [(.int .u64 0), (.int .u64 0), (.int .u64 0), (.int .u64 0)]), q0 (.store 4 17 101), q 18 (.mv 102), q 19 (.mv 103), q 20 (.mv 104)]) (.s (.ops [q 105 (.mv 10), q 106 (.binI .eql 105 (ki 0)), q 107 (.mv 106), (q 108 (.mv 15)).y 107, (q 109 (.mv 9)).y 107, (q 110 (.binI .eql 108 109)).y 107, q 111 (.pick 107 110 (.c (.bool false))), q 112 (.mv 111), (q 113 (.loadN 4 14)).y 112, (q 114 (.loadN 4 12)).y 112, (q 115 (.eqA false [.i, .i, .i, .i] 113 114)).y 112, q 116 (.pick 112 115 (.c (.bool false))), q 117 (.mv 116), (q 118 (.mv 19)).y 117, (q 119 (.binI .eql 118 (ki 0))).y 117, q 120 (.pick 117 119 (.c (.bool false))), q 121 (.mv 120), (q 122 (.loadN 4 17)).y 121, (q 123 (.loadN 4 12)).y 121, (q 124 (.eqA false [.i, .i, .i, .i] 122 123)).y 121, q 125 (.pick 121 124 (.c (.bool false))), q 6 (.mv 125)]) .ret))))))))))
def R5 : List RA := [(.tmp 6)]
theorem k5 : compF Try.prog (muL []) 5 = some ⟨126, C5_1, R5⟩ := by kernel_rfl
noncomputable abbrev X5 (r : Bool) : Cx := cD Try.prog noG 126 R5 (AV.bool r)
noncomputable def F5 (s : Arr 4 Int) (t : Str) (more : Str) : Option Bool :=
 (F11 >>= fun r_2 =>
  (if (!r_2) = true then
   (some false)
  else
   (F24 s >>= fun r_5 =>
    (if (r_5).length + (more).length ≤ 9223372036854775807 then
     (F22 (r_5 ++ more) >>= fun r_8 =>
      (if (!decide (r_8.1 = s)) = true then
       (some false)
      else
       (if (r_8.2.1 != ((r_5).length : Int)) = true then
        (some false)
       else
        (if (r_8.2.2.1 != 0) = true then
         (some false)
        else
         (if (r_8.2.2.2 != 0) = true then
          (some false)
         else
          (F22 t >>= fun r_15 =>
           (if (r_15.2.2.1 != 0) = true then
            (if (r_15.2.1 == 0) = true then
             (if (decide (r_15.1 = (Arr.rep 4 0))) = true then
              (some (r_15.2.2.1 == 70))
             else
              (some false))
            else
             (some false))
           else
            (if (decide (r_15.2.1 < 2)) = true then
             (some false)
            else
             (if (decide (r_15.2.1 > ((t).length : Int))) = true then
              (some false)
             else
              (ix t (IntKind.wrap .i64 (r_15.2.1 - 1)) >>= fun b_23 =>
               (if ((b_23.toNat : Int) != 93) = true then
                (some false)
               else
                (strcut t 0 r_15.2.1 >>= fun w_26 =>
                 (if (w_26).length + (more).length ≤ 9223372036854775807 then
                  (F22 (w_26 ++ more) >>= fun r_29 =>
                   (F24 r_15.1 >>= fun r_32 =>
                    (F22 r_32 >>= fun r_34 =>
                     (if (r_29.2.2.1 == 0) = true then
                      (if (r_29.2.1 == r_15.2.1) = true then
                       (if (decide (r_29.1 = r_15.1)) = true then
                        (if (r_34.2.2.1 == 0) = true then
                         (some (decide (r_34.1 = r_15.1)))
                        else
                         (some false))
                       else
                        (some false))
                      else
                       (some false))
                     else
                      (some false)))))
                 else none)))))))))))))
    else none))))
theorem d5 (s : Arr 4 Int) (t : Str) (more : Str) (r : Bool) (hF : F5 s t more = some r) : DFun Try.prog noG 5 [v24 s, AV.str t, AV.str more] (AV.bool r) := by
 unfold F5 at hF
 refine bD k5 rfl ?_
 have hs : SH [] [] := SH.nil
 generalize ([] : Store) = st at hs ⊢
 refine rn 0 rfl ?_
 refine bx hs (cs := c24 s) rfl rfl fun st b_1 hs => ?_
 obtain ⟨r_2, g_3, hF⟩ := bind_some hF
 refine rn 1 rfl ?_
 refine df (d11 _ g_3) rfl ?_
 refine rn 1 rfl ?_
 refine ci hF rfl (fun c_4 hF => ?_) (fun c_4 hF => ?_)
 · refine rn 1 rfl ?_
   cases hF
   exact rD (rlt rl0) rfl
 · refine rn 0 rfl ?_
   refine W.o (lN (s := c24 s) rfl (hs.g 0 rfl) rfl rfl) ?_
   obtain ⟨r_5, g_6, hF⟩ := bind_some hF
   refine df (d24 s _ g_6) rfl ?_
   obtain ⟨g_7, hF⟩ := grd_some hF
   refine rn 3 rfl ?_
   refine W.o (e_str rfl rfl (op_cat _ _ g_7)) ?_
   obtain ⟨r_8, g_9, hF⟩ := bind_some hF
   refine df (d22 (r_5 ++ more) _ g_9) rfl ?_
   refine rn 5 rfl ?_
   refine al hs (cs := c24 (Arr.rep 4 0)) rfl fun st b_10 hs => ?_
   refine sr hs 0 rfl rfl rfl (cs' := c24 r_8.1) rfl rfl fun st hs => ?_
   refine rn 3 rfl ?_
   refine W.o (lN (s := c24 r_8.1) rfl (hs.g 0 rfl) rfl rfl) ?_
   refine W.o (lN (s := c24 s) rfl (hs.g 1 rfl) rfl rfl) ?_
   refine W.o (e_neA rfl rfl (c24_eq r_8.1 s)) ?_
   refine rn 1 rfl ?_
   refine bi hF (fun c_11 hF => ?_) (fun c_11 hF => ?_)
   · refine wfx 37 rfl c_11 ?_
     refine rn 13 rfl ?_
     refine ct rfl rfl ?_
     refine rn 1 rfl ?_
     cases hF
     exact rD (rlt rl0) rfl
   · refine wfx 37 rfl c_11 ?_
     refine rn 6 rfl ?_
     refine bi hF (fun c_12 hF => ?_) (fun c_12 hF => ?_)
     · refine wfx 43 rfl c_12 ?_
       refine rn 7 rfl ?_
       refine ct rfl rfl ?_
       refine rn 1 rfl ?_
       cases hF
       exact rD (rlt rl0) rfl
     · refine wfx 43 rfl c_12 ?_
       refine rn 4 rfl ?_
       refine bi hF (fun c_13 hF => ?_) (fun c_13 hF => ?_)
       · refine wfx 47 rfl c_13 ?_
         refine rn 3 rfl ?_
         refine ct rfl rfl ?_
         refine rn 1 rfl ?_
         cases hF
         exact rD (rlt rl0) rfl
       · refine wfx 47 rfl c_13 ?_
         refine rn 3 rfl ?_
         refine ci hF rfl (fun c_14 hF => ?_) (fun c_14 hF => ?_)
         · refine rn 1 rfl ?_
           cases hF
           exact rD (rlt rl0) rfl
         · obtain ⟨r_15, g_16, hF⟩ := bind_some hF
           refine rn 1 rfl ?_
           refine df (d22 t _ g_16) rfl ?_
           refine rn 5 rfl ?_
           refine al hs (cs := c24 (Arr.rep 4 0)) rfl fun st b_17 hs => ?_
           refine sr hs 0 rfl rfl rfl (cs' := c24 r_15.1) rfl rfl fun st hs => ?_
           refine rn 5 rfl ?_
           refine ci hF rfl (fun c_18 hF => ?_) (fun c_18 hF => ?_)
           · refine rn 3 rfl ?_
             refine bi hF (fun c_19 hF => ?_) (fun c_19 hF => ?_)
             · refine wfx 62 rfl c_19 ?_
               refine W.on rfl rfl ?_
               refine W.o (lN (s := c24 r_15.1) rfl (hs.g 0 rfl) rfl rfl) ?_
               refine W.on rfl rfl ?_
               refine W.o (e_build (z := [(.int .u64 0), (.int .u64 0), (.int .u64 0), (.int .u64 0)]) (cs := c24 (Arr.rep 4 0)) pk_nil (show fillA (c24 (Arr.rep 4 0)) _ = _ from (fl_nil _))) ?_
               refine W.on rfl rfl ?_
               refine W.o (e_eqA rfl rfl (c24_eq r_15.1 (Arr.rep 4 0))) ?_
               refine rn 2 rfl ?_
               refine bi hF (fun c_20 hF => ?_) (fun c_20 hF => ?_)
               · refine wfx 67 rfl c_20 ?_
                 refine rn 4 rfl ?_
                 cases hF
                 exact rD (rlt rl0) rfl
               · refine wfx 67 rfl c_20 ?_
                 refine rn 4 rfl ?_
                 cases hF
                 exact rD (rlt rl0) rfl
             · refine wfx 62 rfl c_19 ?_
               refine rn 9 rfl ?_
               cases hF
               exact rD (rlt rl0) rfl
           · refine rn 3 rfl ?_
             refine bi hF (fun c_21 hF => ?_) (fun c_21 hF => ?_)
             · refine wfx 73 rfl c_21 ?_
               refine rn 12 rfl ?_
               refine ct rfl rfl ?_
               refine rn 1 rfl ?_
               cases hF
               exact rD (rlt rl0) rfl
             · refine wfx 73 rfl c_21 ?_
               refine rn 6 rfl ?_
               refine bi hF (fun c_22 hF => ?_) (fun c_22 hF => ?_)
               · refine wfx 79 rfl c_22 ?_
                 refine rn 6 rfl ?_
                 refine ct rfl rfl ?_
                 refine rn 1 rfl ?_
                 cases hF
                 exact rD (rlt rl0) rfl
               · refine wfx 79 rfl c_22 ?_
                 obtain ⟨b_23, g_24, hF⟩ := bind_some hF
                 refine rn 3 rfl ?_
                 refine W.on rfl rfl ?_
                 refine W.o (e_ixS rfl rfl g_24) ?_
                 refine rn 2 rfl ?_
                 refine ci hF rfl (fun c_25 hF => ?_) (fun c_25 hF => ?_)
                 · refine rn 1 rfl ?_
                   cases hF
                   exact rD (rlt rl0) rfl
                 · obtain ⟨w_26, g_27, hF⟩ := bind_some hF
                   refine rn 2 rfl ?_
                   refine W.o (e_slSh rfl rfl g_27) ?_
                   obtain ⟨g_28, hF⟩ := grd_some hF
                   refine rn 1 rfl ?_
                   refine W.o (e_str rfl rfl (op_cat _ _ g_28)) ?_
                   obtain ⟨r_29, g_30, hF⟩ := bind_some hF
                   refine df (d22 (w_26 ++ more) _ g_30) rfl ?_
                   refine rn 5 rfl ?_
                   refine al hs (cs := c24 (Arr.rep 4 0)) rfl fun st b_31 hs => ?_
                   refine sr hs 0 rfl rfl rfl (cs' := c24 r_29.1) rfl rfl fun st hs => ?_
                   refine rn 3 rfl ?_
                   refine W.o (lN (s := c24 r_15.1) rfl (hs.g 1 rfl) rfl rfl) ?_
                   obtain ⟨r_32, g_33, hF⟩ := bind_some hF
                   refine df (d24 r_15.1 _ g_33) rfl ?_
                   obtain ⟨r_34, g_35, hF⟩ := bind_some hF
                   refine df (d22 r_32 _ g_35) rfl ?_
                   refine rn 5 rfl ?_
                   refine al hs (cs := c24 (Arr.rep 4 0)) rfl fun st b_36 hs => ?_
                   refine sr hs 0 rfl rfl rfl (cs' := c24 r_34.1) rfl rfl fun st hs => ?_
                   refine rn 6 rfl ?_
                   refine bi hF (fun c_37 hF => ?_) (fun c_37 hF => ?_)
                   · refine wfx 107 rfl c_37 ?_
                     refine rn 5 rfl ?_
                     refine bi hF (fun c_38 hF => ?_) (fun c_38 hF => ?_)
                     · refine wfx 112 rfl c_38 ?_
                       refine W.on rfl rfl ?_
                       refine W.o (lN (s := c24 r_29.1) rfl (hs.g 1 rfl) rfl rfl) ?_
                       refine W.on rfl rfl ?_
                       refine W.o (lN (s := c24 r_15.1) rfl (hs.g 2 rfl) rfl rfl) ?_
                       refine W.on rfl rfl ?_
                       refine W.o (e_eqA rfl rfl (c24_eq r_29.1 r_15.1)) ?_
                       refine rn 2 rfl ?_
                       refine bi hF (fun c_39 hF => ?_) (fun c_39 hF => ?_)
                       · refine wfx 117 rfl c_39 ?_
                         refine rn 4 rfl ?_
                         refine bi hF (fun c_40 hF => ?_) (fun c_40 hF => ?_)
                         · refine wfx 121 rfl c_40 ?_
                           refine W.on rfl rfl ?_
                           refine W.o (lN (s := c24 r_34.1) rfl (hs.g 0 rfl) rfl rfl) ?_
                           refine W.on rfl rfl ?_
                           refine W.o (lN (s := c24 r_15.1) rfl (hs.g 2 rfl) rfl rfl) ?_
                           refine W.on rfl rfl ?_
                           refine W.o (e_eqA rfl rfl (c24_eq r_34.1 r_15.1)) ?_
                           refine rn 2 rfl ?_
                           cases hF
                           exact rD (rlt rl0) rfl
                         · refine wfx 121 rfl c_40 ?_
                           refine rn 5 rfl ?_
                           cases hF
                           exact rD (rlt rl0) rfl
                       · refine wfx 117 rfl c_39 ?_
                         refine rn 9 rfl ?_
                         cases hF
                         exact rD (rlt rl0) rfl
                     · refine wfx 112 rfl c_38 ?_
                       refine rn 14 rfl ?_
                       cases hF
                       exact rD (rlt rl0) rfl
                   · refine wfx 107 rfl c_37 ?_
                     refine rn 19 rfl ?_
                     cases hF
                     exact rD (rlt rl0) rfl
/-! ### 7: paddock/paddocklaw07.SetsTurned -/
def O7_4q1 : List AOp := (q 29 (.eqA false [.i, .i, .i, .i] 26 28)).y 24 :: q 30 (.pick 24 29 (.c (.bool false))) :: q 31 (.mv 30) :: (q 32 (.loadN 4 2)).y 31 :: (qc 33 31 [32]).y 31 :: (q 34 (.loadN 4 2)).y 31 :: (qc 35 32 [34]).y 31 :: (q 36 (.eqA false [.i, .i, .i, .i] 33 35)).y 31 :: q 37 (.pick 31 36 (.c (.bool false))) :: q 38 (.mv 37) :: (q 39 (.loadN 4 2)).y 38 :: (qc 40 24 [39]).y 38 :: (q 41 (.loadN 4 2)).y 38 :: (qc 42 33 [41]).y 38 :: (q 43 (.binS .eql 40 42)).y 38 :: q 44 (.pick 38 43 (.c (.bool false))) :: q 4 (.mv 44) :: []
def O7_4q0 : List AOp := qc 5 11 [] :: q 6 (.mv 5) :: (q 7 (.loadN 4 2)).y 6 :: (q 8 (.loadN 4 3)).y 6 :: (qc 9 25 [7, 8]).y 6 :: (q 10 (.loadN 4 2)).y 6 :: (q 11 (.loadN 4 3)).y 6 :: (qc 12 26 [10, 11]).y 6 :: (q 13 (.eqA false [.i, .i, .i, .i] 9 12)).y 6 :: q 14 (.pick 6 13 (.c (.bool false))) :: q 15 (.mv 14) :: (q 16 (.loadN 4 2)).y 15 :: (q 17 (.loadN 4 3)).y 15 :: (qc 18 27 [16, 17]).y 15 :: (q 19 (.loadN 4 2)).y 15 :: (q 20 (.loadN 4 3)).y 15 :: (qc 21 28 [19, 20]).y 15 :: (q 22 (.eqA false [.i, .i, .i, .i] 18 21)).y 15 :: q 23 (.pick 15 22 (.c (.bool false))) :: q 24 (.mv 23) :: (q 25 (.loadN 4 2)).y 24 :: (qc 26 29 [25]).y 24 :: (q 27 (.loadN 4 2)).y 24 :: (qc 28 30 [27]).y 24 :: O7_4q1
def C7_1 : ACode := .s (.ops [q 2 (.box 4 0), q 3 (.box 4 1), q 4 (.mv (.c (.bool false)))]) (.s (.draw [] 0 0 O7_4q0 []) .ret)
def R7 : List RA := [(.tmp 4)]
theorem k7 : compF Try.prog (muL []) 7 = some ⟨45, C7_1, R7⟩ := by kernel_rfl
noncomputable abbrev X7 (r : Bool) : Cx := cD Try.prog noG 45 R7 (AV.bool r)
noncomputable def F7 (a : Arr 4 Int) (b : Arr 4 Int) : Option Bool :=
 (F11 >>= fun r_3 =>
  (if r_3 = true then
   (F25 a b >>= fun r_6 =>
    (F26 a b >>= fun r_8 =>
     (if (decide (r_6 = r_8)) = true then
      (F27 a b >>= fun r_11 =>
       (F28 a b >>= fun r_13 =>
        (if (decide (r_11 = r_13)) = true then
         (F29 a >>= fun r_16 =>
          (F30 a >>= fun r_18 =>
           (if (decide (r_16 = r_18)) = true then
            (F31 a >>= fun r_21 =>
             (F32 a >>= fun r_23 =>
              (if (decide (r_21 = r_23)) = true then
               (F24 a >>= fun r_26 =>
                (F33 a >>= fun r_28 =>
                 (some (r_26 == r_28))))
              else
               (some false))))
           else
            (some false))))
        else
         (some false))))
     else
      (some false))))
  else
   (some false)))
theorem d7 (a : Arr 4 Int) (b : Arr 4 Int) (r : Bool) (hF : F7 a b = some r) : DFun Try.prog noG 7 [v24 a, v24 b] (AV.bool r) := by
 unfold F7 at hF
 refine bD k7 rfl ?_
 have hs : SH [] [] := SH.nil
 generalize ([] : Store) = st at hs ⊢
 refine rn 0 rfl ?_
 refine bx hs (cs := c24 a) rfl rfl fun st b_1 hs => ?_
 refine bx hs (cs := c24 b) rfl rfl fun st b_2 hs => ?_
 refine rn 1 rfl ?_
 have h0 := hs
 refine dr0 ?_
 obtain ⟨r_3, g_4, hF⟩ := bind_some hF
 refine ddf (d11 _ g_4) rfl ?_
 refine dn 1 rfl ?_
 refine bi hF (fun c_5 hF => ?_) (fun c_5 hF => ?_)
 · refine dfx 6 rfl c_5 ?_
   refine don rfl rfl ?_
   refine de rfl (lN (s := c24 a) rfl (h0.g 1 rfl) rfl rfl) ?_
   refine don rfl rfl ?_
   refine de rfl (lN (s := c24 b) rfl (h0.g 0 rfl) rfl rfl) ?_
   obtain ⟨r_6, g_7, hF⟩ := bind_some hF
   refine don rfl rfl ?_
   refine ddf (d25 a b _ g_7) rfl ?_
   refine don rfl rfl ?_
   refine de rfl (lN (s := c24 a) rfl (h0.g 1 rfl) rfl rfl) ?_
   refine don rfl rfl ?_
   refine de rfl (lN (s := c24 b) rfl (h0.g 0 rfl) rfl rfl) ?_
   obtain ⟨r_8, g_9, hF⟩ := bind_some hF
   refine don rfl rfl ?_
   refine ddf (d26 a b _ g_9) rfl ?_
   refine don rfl rfl ?_
   refine de rfl (e_eqA rfl rfl (c24_eq r_6 r_8)) ?_
   refine dn 2 rfl ?_
   refine bi hF (fun c_10 hF => ?_) (fun c_10 hF => ?_)
   · refine dfx 15 rfl c_10 ?_
     refine don rfl rfl ?_
     refine de rfl (lN (s := c24 a) rfl (h0.g 1 rfl) rfl rfl) ?_
     refine don rfl rfl ?_
     refine de rfl (lN (s := c24 b) rfl (h0.g 0 rfl) rfl rfl) ?_
     obtain ⟨r_11, g_12, hF⟩ := bind_some hF
     refine don rfl rfl ?_
     refine ddf (d27 a b _ g_12) rfl ?_
     refine don rfl rfl ?_
     refine de rfl (lN (s := c24 a) rfl (h0.g 1 rfl) rfl rfl) ?_
     refine don rfl rfl ?_
     refine de rfl (lN (s := c24 b) rfl (h0.g 0 rfl) rfl rfl) ?_
     obtain ⟨r_13, g_14, hF⟩ := bind_some hF
     refine don rfl rfl ?_
     refine ddf (d28 a b _ g_14) rfl ?_
     refine don rfl rfl ?_
     refine de rfl (e_eqA rfl rfl (c24_eq r_11 r_13)) ?_
     refine dn 2 rfl ?_
     refine bi hF (fun c_15 hF => ?_) (fun c_15 hF => ?_)
     · refine dfx 24 rfl c_15 ?_
       refine don rfl rfl ?_
       refine de rfl (lN (s := c24 a) rfl (h0.g 1 rfl) rfl rfl) ?_
       obtain ⟨r_16, g_17, hF⟩ := bind_some hF
       refine don rfl rfl ?_
       refine ddf (d29 a _ g_17) rfl ?_
       refine don rfl rfl ?_
       refine de rfl (lN (s := c24 a) rfl (h0.g 1 rfl) rfl rfl) ?_
       obtain ⟨r_18, g_19, hF⟩ := bind_some hF
       refine don rfl rfl ?_
       refine ddf (d30 a _ g_19) rfl ?_
       refine don rfl rfl ?_
       refine de rfl (e_eqA rfl rfl (c24_eq r_16 r_18)) ?_
       refine dn 2 rfl ?_
       refine bi hF (fun c_20 hF => ?_) (fun c_20 hF => ?_)
       · refine dfx 31 rfl c_20 ?_
         refine don rfl rfl ?_
         refine de rfl (lN (s := c24 a) rfl (h0.g 1 rfl) rfl rfl) ?_
         obtain ⟨r_21, g_22, hF⟩ := bind_some hF
         refine don rfl rfl ?_
         refine ddf (d31 a _ g_22) rfl ?_
         refine don rfl rfl ?_
         refine de rfl (lN (s := c24 a) rfl (h0.g 1 rfl) rfl rfl) ?_
         obtain ⟨r_23, g_24, hF⟩ := bind_some hF
         refine don rfl rfl ?_
         refine ddf (d32 a _ g_24) rfl ?_
         refine don rfl rfl ?_
         refine de rfl (e_eqA rfl rfl (c24_eq r_21 r_23)) ?_
         refine dn 2 rfl ?_
         refine bi hF (fun c_25 hF => ?_) (fun c_25 hF => ?_)
         · refine dfx 38 rfl c_25 ?_
           refine don rfl rfl ?_
           refine de rfl (lN (s := c24 a) rfl (h0.g 1 rfl) rfl rfl) ?_
           obtain ⟨r_26, g_27, hF⟩ := bind_some hF
           refine don rfl rfl ?_
           refine ddf (d24 a _ g_27) rfl ?_
           refine don rfl rfl ?_
           refine de rfl (lN (s := c24 a) rfl (h0.g 1 rfl) rfl rfl) ?_
           obtain ⟨r_28, g_29, hF⟩ := bind_some hF
           refine don rfl rfl ?_
           refine ddf (d33 a _ g_29) rfl ?_
           refine dn 3 rfl ?_
           refine dz ?_
           refine rn 0 rfl ?_
           cases hF
           exact rD (rlt rl0) rfl
         · refine dfx 38 rfl c_25 ?_
           refine dn 7 rfl ?_
           refine dz ?_
           refine rn 0 rfl ?_
           cases hF
           exact rD (rlt rl0) rfl
       · refine dfx 31 rfl c_20 ?_
         refine dn 14 rfl ?_
         refine dz ?_
         refine rn 0 rfl ?_
         cases hF
         exact rD (rlt rl0) rfl
     · refine dfx 24 rfl c_15 ?_
       refine dn 21 rfl ?_
       refine dz ?_
       refine rn 0 rfl ?_
       cases hF
       exact rD (rlt rl0) rfl
   · refine dfx 15 rfl c_10 ?_
     refine dn 30 rfl ?_
     refine dz ?_
     refine rn 0 rfl ?_
     cases hF
     exact rD (rlt rl0) rfl
 · refine dfx 6 rfl c_5 ?_
   refine dn 39 rfl ?_
   refine dz ?_
   refine rn 0 rfl ?_
   cases hF
   exact rD (rlt rl0) rfl
/-! ### 8: paddock/paddocklaw07.SetsLaws -/
def O8_17o1 : List AOp := q 53 (.pick 47 (.c (.bool true)) 52) :: []
def O8_17o0 : List AOp := q 29 (.loadN 4 9) :: q 30 (.mv 2) :: qc 31 17 [29, 30] :: q 32 (.mv 7) :: q 33 (.mv 32) :: (q 34 (.mv 8)).y 33 :: q 35 (.pick 33 34 (.c (.bool false))) :: q 36 (.eqB true 31 35) :: q 37 (.mv 36) :: (q 38 (.loadN 4 10)).n 37 :: (q 39 (.mv 2)).n 37 :: (qc 40 17 [38, 39]).n 37 :: (q 41 (.mv 7)).n 37 :: (q 42 (.mv 41)).n 37 :: (q 43 (.mv 8)).n 42 :: (q 44 (.pick 42 (.c (.bool true)) 43)).n 37 :: (q 45 (.eqB true 40 44)).n 37 :: q 46 (.pick 37 (.c (.bool true)) 45) :: q 47 (.mv 46) :: (q 48 (.loadN 4 11)).n 47 :: (q 49 (.mv 2)).n 47 :: (qc 50 17 [48, 49]).n 47 :: (q 51 (.mv 7)).n 47 :: (q 52 (.eqB false 50 51)).n 47 :: O8_17o1
def C8_18 : ACode := .cond 53 (.s (.ops [q 6 (.mv (.c (.bool false)))]) .ret) .skip
def O8_26q2 : List AOp := q 104 (.mv 103) :: (q 105 (.loadN 4 11)).y 104 :: (qc 106 29 [105]).y 104 :: (q 107 (.loadN 4 3)).y 104 :: (q 108 (.eqA false [.i, .i, .i, .i] 106 107)).y 104 :: q 109 (.pick 104 108 (.c (.bool false))) :: q 6 (.mv 109) :: []
def O8_26q1 : List AOp := (qc 80 19 [79]).y 76 :: (q 81 (.binI .sub (ki 256) 80)).y 76 :: (q 82 (.binI .eql 78 81)).y 76 :: q 83 (.pick 76 82 (.c (.bool false))) :: q 84 (.mv 83) :: (q 85 (.loadN 4 3)).y 84 :: (qc 86 15 [85]).y 84 :: (qc 87 12 [86]).y 84 :: (q 88 (.loadN 4 3)).y 84 :: (q 89 (.eqA false [.i, .i, .i, .i] 87 88)).y 84 :: q 90 (.pick 84 89 (.c (.bool false))) :: q 91 (.mv 90) :: (q 92 (.loadN 4 12)).y 91 :: (qc 93 31 [92]).y 91 :: (q 94 (.loadN 4 12)).y 91 :: (q 95 (.eqA false [.i, .i, .i, .i] 93 94)).y 91 :: q 96 (.pick 91 95 (.c (.bool false))) :: q 97 (.mv 96) :: (q 98 (.loadN 4 12)).y 97 :: (q 99 (.loadN 4 3)).y 97 :: (qc 100 25 [98, 99]).y 97 :: (q 101 (.loadN 4 3)).y 97 :: (q 102 (.eqA false [.i, .i, .i, .i] 100 101)).y 97 :: q 103 (.pick 97 102 (.c (.bool false))) :: O8_26q2
def O8_26q0 : List AOp := q 56 (.loadN 4 9) :: qc 57 29 [56] :: q 58 (.loadN 4 11) :: q 59 (.loadN 4 4) :: qc 60 29 [59] :: qc 61 27 [58, 60] :: q 62 (.eqA false [.i, .i, .i, .i] 57 61) :: q 63 (.mv 62) :: (q 64 (.loadN 4 10)).y 63 :: (qc 65 19 [64]).y 63 :: (q 66 (.loadN 4 3)).y 63 :: (qc 67 19 [66]).y 63 :: (q 68 (.loadN 4 4)).y 63 :: (qc 69 19 [68]).y 63 :: (q 70 (.binI .add 67 69)).y 63 :: (q 71 (.loadN 4 9)).y 63 :: (qc 72 19 [71]).y 63 :: (q 73 (.binI .sub 70 72)).y 63 :: (q 74 (.binI .eql 65 73)).y 63 :: q 75 (.pick 63 74 (.c (.bool false))) :: q 76 (.mv 75) :: (q 77 (.loadN 4 11)).y 76 :: (qc 78 19 [77]).y 76 :: (q 79 (.loadN 4 3)).y 76 :: O8_26q1
def C8_23 : ACode := .s (.ops [q 54 (.loadN 4 3), qc 55 31 [54], q 12 (.alloc [(.int .u64 0), (.int .u64 0), (.int .u64 0), (.int .u64 0)]), q0 (.store 4 12 55)]) (.s (.draw [] 0 0 O8_26q0 []) .ret)
def C8_1 : ACode := .s (.ops [q 3 (.box 4 0), q 4 (.box 4 1), q 6 (.mv (.c (.bool false)))]) (.s (.s (.ops [qc 13 11 [], q 14 (.un .not 13)]) (.cond 14 (.s (.ops [q 6 (.mv (.c (.bool false)))]) .ret) .skip)) (.s (.draw [] 0 0 [q 15 (.loadN 4 3), q 16 (.mv 2), qc 17 17 [15, 16], q 18 (.loadN 4 4), q 19 (.mv 2), qc 20 17 [18, 19], q 7 (.mv 17), q 8 (.mv 20)] []) (.s (.draw [] 0 3 [q 21 (.loadN 4 3), q 22 (.loadN 4 4), qc 23 25 [21, 22], q 24 (.loadN 4 3), q 25 (.loadN 4 4), qc 26 27 [24, 25], q 27 (.loadN 4 3), qc 28 29 [27], q 9 (.alloc [(.int .u64 0), (.int .u64 0), (.int .u64 0), (.int .u64 0)]), q 10 (.alloc [(.int .u64 0), (.int .u64 0), (.int .u64 0), (.int .u64 0)]), q 11 (.alloc [(.int .u64 0), (.int .u64 0), (.int .u64 0), (.int .u64 0)])] [q0 (.store 4 9 23), q0 (.store 4 10 26), q0 (.store 4 11 28)]) (.s (.s (.ops O8_17o0) C8_18) C8_23))))
def R8 : List RA := [(.tmp 6)]
theorem k8 : compF Try.prog (muL []) 8 = some ⟨110, C8_1, R8⟩ := by kernel_rfl
noncomputable abbrev X8 (r : Bool) : Cx := cD Try.prog noG 110 R8 (AV.bool r)
inductive St8 where
 | p1 (t53_ : Bool) (a : Arr 4 Int) (b : Arr 4 Int) (and_ : Arr 4 Int) (or_ : Arr 4 Int) (not_ : Arr 4 Int)
noncomputable def G8 : St8 → Option Bool
 | .p1 t53_ a b and_ or_ not_ =>
  (if t53_ = true then
   (some false)
  else
   (F31 a >>= fun r_39 =>
    (F29 and_ >>= fun r_42 =>
     (F29 b >>= fun r_44 =>
      (F27 not_ r_44 >>= fun r_46 =>
       (if (decide (r_42 = r_46)) = true then
        (F19 or_ >>= fun r_49 =>
         (F19 a >>= fun r_51 =>
          (F19 b >>= fun r_53 =>
           (F19 and_ >>= fun r_55 =>
            (if (r_49 == (IntKind.wrap .i64 ((IntKind.wrap .i64 (r_51 + r_53)) - r_55))) = true then
             (F19 not_ >>= fun r_58 =>
              (F19 a >>= fun r_60 =>
               (if (r_58 == (IntKind.wrap .i64 (256 - r_60))) = true then
                (F15 a >>= fun r_63 =>
                 (F12 r_63 >>= fun r_65 =>
                  (if (decide (r_65 = a)) = true then
                   (F31 r_39 >>= fun r_68 =>
                    (if (decide (r_68 = r_39)) = true then
                     (F25 r_39 a >>= fun r_71 =>
                      (if (decide (r_71 = a)) = true then
                       (F29 not_ >>= fun r_74 =>
                        (some (decide (r_74 = a))))
                      else
                       (some false)))
                    else
                     (some false)))
                  else
                   (some false))))
               else
                (some false))))
            else
             (some false))))))
       else
        (some false)))))))
def M8 (x : St8) (r : Bool) : Prop := match x with
 | .p1 t53_ a b and_ or_ not_ => ∀ (tm : Fr) (st : Store) (io0 : Nat) (io1 : Nat) (io2 : Nat) (io3 : Nat) (io4 : Nat), Frm tm [(3, .ptr io0 0), (4, .ptr io1 0), (9, .ptr io2 0), (10, .ptr io3 0), (11, .ptr io4 0), (53, AV.bool t53_)] → SH st [pt io0 (.cells (c24 a)), pt io1 (.cells (c24 b)), pt io2 (.cells (c24 and_)), pt io3 (.cells (c24 or_)), pt io4 (.cells (c24 not_))] → W (X8 r) [.code C8_18, .code C8_23] tm st
theorem w8 : ∀ (x : St8) (r : Bool), G8 x = some r → M8 x r := by
 intro x r hF
 cases x with
 | p1 t53_ a b and_ or_ not_ =>
  dsimp only [G8] at hF
  intro tm st io0 io1 io2 io3 io4 hf hs
  refine en hf ?_
  refine ci hF rfl (fun c_38 hF => ?_) (fun c_38 hF => ?_)
  · refine rn 1 rfl ?_
    cases hF
    exact rD (rlt rl0) rfl
  · refine rn 0 rfl ?_
    refine W.o (lN (s := c24 a) rfl (hs.g 0 rfl) rfl rfl) ?_
    obtain ⟨r_39, g_40, hF⟩ := bind_some hF
    refine df (d31 a _ g_40) rfl ?_
    refine al hs (cs := c24 (Arr.rep 4 0)) rfl fun st b_41 hs => ?_
    refine sr hs 0 rfl rfl rfl (cs' := c24 r_39) rfl rfl fun st hs => ?_
    refine rn 0 rfl ?_
    have h0 := hs
    refine dr0 ?_
    refine de rfl (lN (s := c24 and_) rfl (h0.g 3 rfl) rfl rfl) ?_
    obtain ⟨r_42, g_43, hF⟩ := bind_some hF
    refine ddf (d29 and_ _ g_43) rfl ?_
    refine de rfl (lN (s := c24 not_) rfl (h0.g 5 rfl) rfl rfl) ?_
    refine de rfl (lN (s := c24 b) rfl (h0.g 2 rfl) rfl rfl) ?_
    obtain ⟨r_44, g_45, hF⟩ := bind_some hF
    refine ddf (d29 b _ g_45) rfl ?_
    obtain ⟨r_46, g_47, hF⟩ := bind_some hF
    refine ddf (d27 not_ r_44 _ g_47) rfl ?_
    refine de rfl (e_eqA rfl rfl (c24_eq r_42 r_46)) ?_
    refine dn 1 rfl ?_
    refine bi hF (fun c_48 hF => ?_) (fun c_48 hF => ?_)
    · refine dfx 63 rfl c_48 ?_
      refine don rfl rfl ?_
      refine de rfl (lN (s := c24 or_) rfl (h0.g 4 rfl) rfl rfl) ?_
      obtain ⟨r_49, g_50, hF⟩ := bind_some hF
      refine don rfl rfl ?_
      refine ddf (d19 or_ _ g_50) rfl ?_
      refine don rfl rfl ?_
      refine de rfl (lN (s := c24 a) rfl (h0.g 1 rfl) rfl rfl) ?_
      obtain ⟨r_51, g_52, hF⟩ := bind_some hF
      refine don rfl rfl ?_
      refine ddf (d19 a _ g_52) rfl ?_
      refine don rfl rfl ?_
      refine de rfl (lN (s := c24 b) rfl (h0.g 2 rfl) rfl rfl) ?_
      obtain ⟨r_53, g_54, hF⟩ := bind_some hF
      refine don rfl rfl ?_
      refine ddf (d19 b _ g_54) rfl ?_
      refine dn 1 rfl ?_
      refine don rfl rfl ?_
      refine de rfl (lN (s := c24 and_) rfl (h0.g 3 rfl) rfl rfl) ?_
      obtain ⟨r_55, g_56, hF⟩ := bind_some hF
      refine don rfl rfl ?_
      refine ddf (d19 and_ _ g_56) rfl ?_
      refine dn 4 rfl ?_
      refine bi hF (fun c_57 hF => ?_) (fun c_57 hF => ?_)
      · refine dfx 76 rfl c_57 ?_
        refine don rfl rfl ?_
        refine de rfl (lN (s := c24 not_) rfl (h0.g 5 rfl) rfl rfl) ?_
        obtain ⟨r_58, g_59, hF⟩ := bind_some hF
        refine don rfl rfl ?_
        refine ddf (d19 not_ _ g_59) rfl ?_
        refine don rfl rfl ?_
        refine de rfl (lN (s := c24 a) rfl (h0.g 1 rfl) rfl rfl) ?_
        obtain ⟨r_60, g_61, hF⟩ := bind_some hF
        refine don rfl rfl ?_
        refine ddf (d19 a _ g_61) rfl ?_
        refine dn 4 rfl ?_
        refine bi hF (fun c_62 hF => ?_) (fun c_62 hF => ?_)
        · refine dfx 84 rfl c_62 ?_
          refine don rfl rfl ?_
          refine de rfl (lN (s := c24 a) rfl (h0.g 1 rfl) rfl rfl) ?_
          obtain ⟨r_63, g_64, hF⟩ := bind_some hF
          refine don rfl rfl ?_
          refine ddf (dfun_own (fun st L K hs hK => d15 a _ g_64 K L st hs hK)) rfl ?_
          obtain ⟨r_65, g_66, hF⟩ := bind_some hF
          refine don rfl rfl ?_
          refine ddf (d12 r_63 _ g_66) rfl ?_
          refine don rfl rfl ?_
          refine de rfl (lN (s := c24 a) rfl (h0.g 1 rfl) rfl rfl) ?_
          refine don rfl rfl ?_
          refine de rfl (e_eqA rfl rfl (c24_eq r_65 a)) ?_
          refine dn 2 rfl ?_
          refine bi hF (fun c_67 hF => ?_) (fun c_67 hF => ?_)
          · refine dfx 91 rfl c_67 ?_
            refine don rfl rfl ?_
            refine de rfl (lN (s := c24 r_39) rfl (h0.g 0 rfl) rfl rfl) ?_
            obtain ⟨r_68, g_69, hF⟩ := bind_some hF
            refine don rfl rfl ?_
            refine ddf (d31 r_39 _ g_69) rfl ?_
            refine don rfl rfl ?_
            refine de rfl (lN (s := c24 r_39) rfl (h0.g 0 rfl) rfl rfl) ?_
            refine don rfl rfl ?_
            refine de rfl (e_eqA rfl rfl (c24_eq r_68 r_39)) ?_
            refine dn 2 rfl ?_
            refine bi hF (fun c_70 hF => ?_) (fun c_70 hF => ?_)
            · refine dfx 97 rfl c_70 ?_
              refine don rfl rfl ?_
              refine de rfl (lN (s := c24 r_39) rfl (h0.g 0 rfl) rfl rfl) ?_
              refine don rfl rfl ?_
              refine de rfl (lN (s := c24 a) rfl (h0.g 1 rfl) rfl rfl) ?_
              obtain ⟨r_71, g_72, hF⟩ := bind_some hF
              refine don rfl rfl ?_
              refine ddf (d25 r_39 a _ g_72) rfl ?_
              refine don rfl rfl ?_
              refine de rfl (lN (s := c24 a) rfl (h0.g 1 rfl) rfl rfl) ?_
              refine don rfl rfl ?_
              refine de rfl (e_eqA rfl rfl (c24_eq r_71 a)) ?_
              refine dn 2 rfl ?_
              refine bi hF (fun c_73 hF => ?_) (fun c_73 hF => ?_)
              · refine dfx 104 rfl c_73 ?_
                refine don rfl rfl ?_
                refine de rfl (lN (s := c24 not_) rfl (h0.g 5 rfl) rfl rfl) ?_
                obtain ⟨r_74, g_75, hF⟩ := bind_some hF
                refine don rfl rfl ?_
                refine ddf (d29 not_ _ g_75) rfl ?_
                refine don rfl rfl ?_
                refine de rfl (lN (s := c24 a) rfl (h0.g 1 rfl) rfl rfl) ?_
                refine don rfl rfl ?_
                refine de rfl (e_eqA rfl rfl (c24_eq r_74 a)) ?_
                refine dn 2 rfl ?_
                refine dz ?_
                refine rn 0 rfl ?_
                cases hF
                exact rD (rlt rl0) rfl
              · refine dfx 104 rfl c_73 ?_
                refine dn 6 rfl ?_
                refine dz ?_
                refine rn 0 rfl ?_
                cases hF
                exact rD (rlt rl0) rfl
            · refine dfx 97 rfl c_70 ?_
              refine dn 13 rfl ?_
              refine dz ?_
              refine rn 0 rfl ?_
              cases hF
              exact rD (rlt rl0) rfl
          · refine dfx 91 rfl c_67 ?_
            refine dn 19 rfl ?_
            refine dz ?_
            refine rn 0 rfl ?_
            cases hF
            exact rD (rlt rl0) rfl
        · refine dfx 84 rfl c_62 ?_
          refine dn 26 rfl ?_
          refine dz ?_
          refine rn 0 rfl ?_
          cases hF
          exact rD (rlt rl0) rfl
      · refine dfx 76 rfl c_57 ?_
        refine dn 34 rfl ?_
        refine dz ?_
        refine rn 0 rfl ?_
        cases hF
        exact rD (rlt rl0) rfl
    · refine dfx 63 rfl c_48 ?_
      refine dn 47 rfl ?_
      refine dz ?_
      refine rn 0 rfl ?_
      cases hF
      exact rD (rlt rl0) rfl
noncomputable def F8 (a : Arr 4 Int) (b : Arr 4 Int) (c : Int) : Option Bool :=
 (F11 >>= fun r_3 =>
  (if (!r_3) = true then
   (some false)
  else
   (F17 a c >>= fun r_6 =>
    (F17 b c >>= fun r_8 =>
     (F25 a b >>= fun r_14 =>
      (F27 a b >>= fun r_16 =>
       (F29 a >>= fun r_18 =>
        (F17 r_14 c >>= fun r_23 =>
         (if r_6 = true then
          (if (!(r_23 == r_8)) = true then
           (some false)
          else
           (F17 r_16 c >>= fun r_27 =>
            (if (!(r_27 == true)) = true then
             (some false)
            else
             (F17 r_18 c >>= fun r_30 =>
              (G8 (.p1 (r_30 == r_6) a b r_14 r_16 r_18))))))
         else
          (if (!(r_23 == false)) = true then
           (some false)
          else
           (F17 r_16 c >>= fun r_33 =>
            (if (!(r_33 == r_8)) = true then
             (some false)
            else
             (F17 r_18 c >>= fun r_36 =>
              (G8 (.p1 (r_36 == r_6) a b r_14 r_16 r_18)))))))))))))))
theorem d8 (a : Arr 4 Int) (b : Arr 4 Int) (c : Int) (r : Bool) (hF : F8 a b c = some r) : DFun Try.prog noG 8 [v24 a, v24 b, AV.int .u8 c] (AV.bool r) := by
 unfold F8 at hF
 refine bD k8 rfl ?_
 have hs : SH [] [] := SH.nil
 generalize ([] : Store) = st at hs ⊢
 refine rn 0 rfl ?_
 refine bx hs (cs := c24 a) rfl rfl fun st b_1 hs => ?_
 refine bx hs (cs := c24 b) rfl rfl fun st b_2 hs => ?_
 obtain ⟨r_3, g_4, hF⟩ := bind_some hF
 refine rn 1 rfl ?_
 refine df (d11 _ g_4) rfl ?_
 refine rn 1 rfl ?_
 refine ci hF rfl (fun c_5 hF => ?_) (fun c_5 hF => ?_)
 · refine rn 1 rfl ?_
   cases hF
   exact rD (rlt rl0) rfl
 · refine rn 0 rfl ?_
   have h0 := hs
   refine dr0 ?_
   refine de rfl (lN (s := c24 a) rfl (h0.g 1 rfl) rfl rfl) ?_
   obtain ⟨r_6, g_7, hF⟩ := bind_some hF
   refine dn 1 rfl ?_
   refine ddf (d17 a c _ g_7) rfl ?_
   refine de rfl (lN (s := c24 b) rfl (h0.g 0 rfl) rfl rfl) ?_
   obtain ⟨r_8, g_9, hF⟩ := bind_some hF
   refine dn 1 rfl ?_
   refine ddf (d17 b c _ g_9) rfl ?_
   refine dn 2 rfl ?_
   refine dz ?_
   refine rn 0 rfl ?_
   refine drn hs fun s_10 st h0 hs => ?_
   refine de rfl (lN (s := c24 a) rfl (h0.g 1 rfl) rfl rfl) ?_
   refine de rfl (lN (s := c24 b) rfl (h0.g 0 rfl) rfl rfl) ?_
   obtain ⟨r_14, g_15, hF⟩ := bind_some hF
   refine ddf (d25 a b _ g_15) rfl ?_
   refine de rfl (lN (s := c24 a) rfl (h0.g 1 rfl) rfl rfl) ?_
   refine de rfl (lN (s := c24 b) rfl (h0.g 0 rfl) rfl rfl) ?_
   obtain ⟨r_16, g_17, hF⟩ := bind_some hF
   refine ddf (d27 a b _ g_17) rfl ?_
   refine de rfl (lN (s := c24 a) rfl (h0.g 1 rfl) rfl rfl) ?_
   obtain ⟨r_18, g_19, hF⟩ := bind_some hF
   refine ddf (d29 a _ g_19) rfl ?_
   refine dal hs 0 (cs := c24 (Arr.rep 4 0)) rfl rfl rfl fun st hs => ?_
   refine dal hs 1 (cs := c24 (Arr.rep 4 0)) rfl rfl rfl fun st hs => ?_
   refine dal hs 2 (cs := c24 (Arr.rep 4 0)) rfl rfl rfl fun st hs => ?_
   refine dz ?_
   refine sr hs 0 rfl rfl rfl (cs' := c24 r_14) rfl rfl fun st hs => ?_
   refine sr hs 1 rfl rfl rfl (cs' := c24 r_16) rfl rfl fun st hs => ?_
   refine sr hs 2 rfl rfl rfl (cs' := c24 r_18) rfl rfl fun st hs => ?_
   refine rn 0 rfl ?_
   refine W.o (lN (s := c24 r_14) rfl (hs.g 0 rfl) rfl rfl) ?_
   obtain ⟨r_23, g_24, hF⟩ := bind_some hF
   refine rn 1 rfl ?_
   refine df (d17 r_14 c _ g_24) rfl ?_
   refine rn 2 rfl ?_
   refine bi hF (fun c_25 hF => ?_) (fun c_25 hF => ?_)
   · refine wfx 33 rfl c_25 ?_
     refine rn 4 rfl ?_
     refine bi hF (fun c_26 hF => ?_) (fun c_26 hF => ?_)
     · refine wfx 37 rfl c_26 ?_
       refine rn 16 rfl ?_
       refine ct rfl rfl ?_
       refine rn 1 rfl ?_
       cases hF
       exact rD (rlt rl0) rfl
     · refine wfx 37 rfl c_26 ?_
       refine W.on rfl rfl ?_
       refine W.o (lN (s := c24 r_16) rfl (hs.g 1 rfl) rfl rfl) ?_
       obtain ⟨r_27, g_28, hF⟩ := bind_some hF
       refine rn 1 rfl ?_
       refine W.on rfl rfl ?_
       refine df (d17 r_16 c _ g_28) rfl ?_
       refine rn 2 rfl ?_
       refine wfx 42 rfl c_25 ?_
       refine rn 5 rfl ?_
       refine bi hF (fun c_29 hF => ?_) (fun c_29 hF => ?_)
       · refine wfx 47 rfl c_29 ?_
         refine rn 6 rfl ?_
         refine ct rfl rfl ?_
         refine rn 1 rfl ?_
         cases hF
         exact rD (rlt rl0) rfl
       · refine wfx 47 rfl c_29 ?_
         refine W.on rfl rfl ?_
         refine W.o (lN (s := c24 r_18) rfl (hs.g 2 rfl) rfl rfl) ?_
         obtain ⟨r_30, g_31, hF⟩ := bind_some hF
         refine rn 1 rfl ?_
         refine W.on rfl rfl ?_
         refine df (d17 r_18 c _ g_31) rfl ?_
         refine rj 3 1 rfl ?_
         exact w8 (.p1 (r_30 == r_6) a b r_14 r_16 r_18) _ hF _ _ b_1 b_2 (List.length s_10 + 0) (List.length s_10 + 1) (List.length s_10 + 2) ⟨rfl, rfl, rfl, rfl, rfl, rfl, trivial⟩ (hs.p 5 [4, 3, 0, 0, 0] rfl)
   · refine wfx 33 rfl c_25 ?_
     refine rn 4 rfl ?_
     refine bi hF (fun c_32 hF => ?_) (fun c_32 hF => ?_)
     · refine wfx 37 rfl c_32 ?_
       refine rn 16 rfl ?_
       refine ct rfl rfl ?_
       refine rn 1 rfl ?_
       cases hF
       exact rD (rlt rl0) rfl
     · refine wfx 37 rfl c_32 ?_
       refine W.on rfl rfl ?_
       refine W.o (lN (s := c24 r_16) rfl (hs.g 1 rfl) rfl rfl) ?_
       obtain ⟨r_33, g_34, hF⟩ := bind_some hF
       refine rn 1 rfl ?_
       refine W.on rfl rfl ?_
       refine df (d17 r_16 c _ g_34) rfl ?_
       refine rn 2 rfl ?_
       refine wfx 42 rfl c_25 ?_
       refine rn 5 rfl ?_
       refine bi hF (fun c_35 hF => ?_) (fun c_35 hF => ?_)
       · refine wfx 47 rfl c_35 ?_
         refine rn 6 rfl ?_
         refine ct rfl rfl ?_
         refine rn 1 rfl ?_
         cases hF
         exact rD (rlt rl0) rfl
       · refine wfx 47 rfl c_35 ?_
         refine W.on rfl rfl ?_
         refine W.o (lN (s := c24 r_18) rfl (hs.g 2 rfl) rfl rfl) ?_
         obtain ⟨r_36, g_37, hF⟩ := bind_some hF
         refine rn 1 rfl ?_
         refine W.on rfl rfl ?_
         refine df (d17 r_18 c _ g_37) rfl ?_
         refine rj 3 1 rfl ?_
         exact w8 (.p1 (r_36 == r_6) a b r_14 r_16 r_18) _ hF _ _ b_1 b_2 (List.length s_10 + 0) (List.length s_10 + 1) (List.length s_10 + 2) ⟨rfl, rfl, rfl, rfl, rfl, rfl, trivial⟩ (hs.p 5 [4, 3, 0, 0, 0] rfl)
/-! ### 6: paddock/paddocklaw07.SetsOwn -/
def C6_28 : ACode := .ops [q 14 (.mv 3), q 15 (.mv 4), q 16 (.iaddrL 1 14 15), q0 (.store 1 16 (ku 120))]
def C6_26 : ACode := .s (.ops [q 13 (.mv 11), q 4 (.mv 13)]) C6_28
def C6_29 : ACode := .ops [q 17 (.binI .add 11 (ki 1)), q 11 (.mv 17)]
def C6_24 : ACode := .s (.block 1 C6_26) C6_29
def C6_20 : ACode := .s (.cond 12 .skip (.exit 0)) C6_24
def C6_18 : ACode := .s (.ops [q 12 (.binI .lss 11 10)]) C6_20
def C6_16 : ACode := .block 0 (.loop C6_18)
def C6_32 : ACode := .s (.draw [] 0 0 [q 21 (.loadN 4 1), qc 22 15 [21], q 23 (.loadN 4 1), qc 24 16 [23], qc 25 14 [22, 24], q 26 (.mv 25), (q 27 (.mv 3)).y 26, (q 28 (.len 27)).y 26, (q 29 (.binI .gtr 28 (ki 1))).y 26, q 30 (.pick 26 29 (.c (.bool false))), q 2 (.mv 30)] []) .ret
def C6_30 : ACode := .s (.ops [q 18 (.mv 3), q 19 (.bslice 1 2 false [(.int .u8 0)] [(0, (1, (ku 121))), (1, (1, (ku 121)))] false), q 20 (.app 1 1 18 19), q 3 (.mv 20)]) C6_32
def C6_13 : ACode := .s (.s (.ops [q 9 (.mv 3), q 10 (.len 9), q 11 (.mv (ki 0))]) C6_16) C6_30
def C6_1 : ACode := .s (.ops [q 1 (.box 4 0), q 2 (.mv (.c (.bool false)))]) (.s (.s (.ops [qc 5 11 [], q 6 (.un .not 5)]) (.cond 6 (.s (.ops [q 2 (.mv (.c (.bool false)))]) .ret) .skip)) (.s (.ops [q 7 (.loadN 4 1), qc 8 15 [7], q 3 (.mv 8)]) C6_13))
def R6 : List RA := [(.tmp 2)]
theorem k6 : compF Try.prog (muL []) 6 = some ⟨31, C6_1, R6⟩ := by kernel_rfl
noncomputable abbrev X6 (r : Bool) : Cx := cD Try.prog noG 31 R6 (AV.bool r)
inductive St6 where
 | p1 (s : Arr 4 Int) (a : Sl Int)
 | p2 (s : Arr 4 Int) (a : Rw Int)
 | p3 (t10_ : Int) (t11_ : Int) (s : Arr 4 Int) (a : Sl Int)
 | p4 (t10_ : Int) (t11_ : Int) (s : Arr 4 Int) (a : Rw Int)
 | p5 (t10_ : Int) (t11_ : Int) (s : Arr 4 Int) (a : Sl Int)
 | p6 (t10_ : Int) (t11_ : Int) (s : Arr 4 Int) (a : Rw Int)
 | p7 (t10_ : Int) (t11_ : Int) (t12_ : Bool) (s : Arr 4 Int) (a : Sl Int)
 | p8 (t10_ : Int) (t11_ : Int) (t12_ : Bool) (s : Arr 4 Int) (a : Rw Int)
 | p9 (t10_ : Int) (t11_ : Int) (s : Arr 4 Int) (a : Sl Int)
 | p10 (s : Arr 4 Int) (a : Sl Int)
 | p11 (t10_ : Int) (t11_ : Int) (s : Arr 4 Int) (a : Rw Int)
 | p12 (s : Arr 4 Int) (a : Rw Int)
 | p13 (i : Int) (t10_ : Int) (t11_ : Int) (s : Arr 4 Int) (a : Sl Int)
 | p14 (s : Arr 4 Int) (a : Sl Int)
 | p15 (i : Int) (t10_ : Int) (t11_ : Int) (s : Arr 4 Int) (a : Rw Int)
noncomputable def G6 : St6 → Option Bool
 | .p1 s a =>
  (G6 (.p3 ((ls a).length : Int) 0 s a))
 | .p2 s a =>
  (G6 (.p4 (a.n : Int) 0 s a))
 | .p3 t10_ t11_ s a =>
  (G6 (.p5 t10_ t11_ s a))
 | .p4 t10_ t11_ s a =>
  (G6 (.p6 t10_ t11_ s a))
 | .p5 t10_ t11_ s a =>
  (G6 (.p7 t10_ t11_ (decide (t11_ < t10_)) s a))
 | .p6 t10_ t11_ s a =>
  (G6 (.p8 t10_ t11_ (decide (t11_ < t10_)) s a))
 | .p7 t10_ t11_ t12_ s a =>
  (if t12_ = true then
   (G6 (.p9 t10_ t11_ s a))
  else
   (G6 (.p10 s a)))
 | .p8 t10_ t11_ t12_ s a =>
  (if t12_ = true then
   (G6 (.p11 t10_ t11_ s a))
  else
   (G6 (.p12 s a)))
 | .p9 t10_ t11_ s a =>
  (G6 (.p13 t11_ t10_ t11_ s a))
 | .p10 s a =>
  (if ((ls a).length + (ls (some ([121, 121] : List Int))).length) * 1 ≤ 140737488355328 then
   (G6 (.p14 s (sapp a (ls (some ([121, 121] : List Int))))))
  else none)
 | .p11 t10_ t11_ s a =>
  (G6 (.p15 t11_ t10_ t11_ s a))
 | .p12 s a =>
  (if (a.n + (ls (some ([121, 121] : List Int))).length) * 1 ≤ 140737488355328 then
   (if a.l.length = a.n then
    (G6 (.p14 s (some (a.l ++ (ls (some ([121, 121] : List Int)))))))
   else none)
  else none)
 | .p13 i t10_ t11_ s a =>
  (ix (ls a) i >>= fun v_18 =>
   (none : Option Bool))
 | .p14 s a =>
  (F15 s >>= fun r_20 =>
   (F16 s >>= fun r_22 =>
    (F14 r_20 r_22 >>= fun r_24 =>
     (if r_24 = true then
      (some (decide (((ls a).length : Int) > 1)))
     else
      (some false)))))
 | .p15 i t10_ t11_ s a =>
  (if 0 ≤ i ∧ i < (a.n : Int) then
   (ix a.l i >>= fun y_28 =>
    (G6 (.p6 t10_ (IntKind.wrap .i64 (t11_ + 1)) s (rset a i 120))))
  else none)
 partial_fixpoint
def M6 (x : St6) (r : Bool) : Prop := match x with
 | .p1 s a => ∀ (tm : Fr) (st : Store) (io0 : Nat) (io1 : Nat), Frm tm [(1, .ptr io0 0), (3, ownV 1 (AV.int .u8) a io1)] → SH st [pt io0 (.cells (c24 s)), ownA io1 a] → W (X6 r) [.code C6_13] tm st
 | .p2 s a => ∀ (tm : Fr) (st : Store) (io0 : Nat) (io1 : Nat), Frm tm [(1, .ptr io0 0), (3, .row io1 1 0 a.n)] → SH st [pt io0 (.cells (c24 s)), pt io1 (.cells (rwC (cI .u8) a))] → W (X6 r) [.code C6_13] tm st
 | .p3 t10_ t11_ s a => ∀ (tm : Fr) (st : Store) (io0 : Nat) (io1 : Nat), Frm tm [(1, .ptr io0 0), (3, ownV 1 (AV.int .u8) a io1), (10, AV.int .i64 t10_), (11, AV.int .i64 t11_)] → SH st [pt io0 (.cells (c24 s)), ownA io1 a] → W (X6 r) [.code C6_16, .code C6_30] tm st
 | .p4 t10_ t11_ s a => ∀ (tm : Fr) (st : Store) (io0 : Nat) (io1 : Nat), Frm tm [(1, .ptr io0 0), (3, .row io1 1 0 a.n), (10, AV.int .i64 t10_), (11, AV.int .i64 t11_)] → SH st [pt io0 (.cells (c24 s)), pt io1 (.cells (rwC (cI .u8) a))] → W (X6 r) [.code C6_16, .code C6_30] tm st
 | .p5 t10_ t11_ s a => ∀ (tm : Fr) (st : Store) (io0 : Nat) (io1 : Nat), Frm tm [(1, .ptr io0 0), (3, ownV 1 (AV.int .u8) a io1), (10, AV.int .i64 t10_), (11, AV.int .i64 t11_)] → SH st [pt io0 (.cells (c24 s)), ownA io1 a] → W (X6 r) [.lp C6_18, .blk 0, .code C6_30] tm st
 | .p6 t10_ t11_ s a => ∀ (tm : Fr) (st : Store) (io0 : Nat) (io1 : Nat), Frm tm [(1, .ptr io0 0), (3, .row io1 1 0 a.n), (10, AV.int .i64 t10_), (11, AV.int .i64 t11_)] → SH st [pt io0 (.cells (c24 s)), pt io1 (.cells (rwC (cI .u8) a))] → W (X6 r) [.lp C6_18, .blk 0, .code C6_30] tm st
 | .p7 t10_ t11_ t12_ s a => ∀ (tm : Fr) (st : Store) (io0 : Nat) (io1 : Nat), Frm tm [(1, .ptr io0 0), (3, ownV 1 (AV.int .u8) a io1), (10, AV.int .i64 t10_), (11, AV.int .i64 t11_), (12, AV.bool t12_)] → SH st [pt io0 (.cells (c24 s)), ownA io1 a] → W (X6 r) [.code C6_20, .lp C6_18, .blk 0, .code C6_30] tm st
 | .p8 t10_ t11_ t12_ s a => ∀ (tm : Fr) (st : Store) (io0 : Nat) (io1 : Nat), Frm tm [(1, .ptr io0 0), (3, .row io1 1 0 a.n), (10, AV.int .i64 t10_), (11, AV.int .i64 t11_), (12, AV.bool t12_)] → SH st [pt io0 (.cells (c24 s)), pt io1 (.cells (rwC (cI .u8) a))] → W (X6 r) [.code C6_20, .lp C6_18, .blk 0, .code C6_30] tm st
 | .p9 t10_ t11_ s a => ∀ (tm : Fr) (st : Store) (io0 : Nat) (io1 : Nat), Frm tm [(1, .ptr io0 0), (3, ownV 1 (AV.int .u8) a io1), (10, AV.int .i64 t10_), (11, AV.int .i64 t11_)] → SH st [pt io0 (.cells (c24 s)), ownA io1 a] → W (X6 r) [.code C6_24, .lp C6_18, .blk 0, .code C6_30] tm st
 | .p10 s a => ∀ (tm : Fr) (st : Store) (io0 : Nat) (io1 : Nat), Frm tm [(1, .ptr io0 0), (3, ownV 1 (AV.int .u8) a io1)] → SH st [pt io0 (.cells (c24 s)), ownA io1 a] → W (X6 r) [.code C6_30] tm st
 | .p11 t10_ t11_ s a => ∀ (tm : Fr) (st : Store) (io0 : Nat) (io1 : Nat), Frm tm [(1, .ptr io0 0), (3, .row io1 1 0 a.n), (10, AV.int .i64 t10_), (11, AV.int .i64 t11_)] → SH st [pt io0 (.cells (c24 s)), pt io1 (.cells (rwC (cI .u8) a))] → W (X6 r) [.code C6_24, .lp C6_18, .blk 0, .code C6_30] tm st
 | .p12 s a => ∀ (tm : Fr) (st : Store) (io0 : Nat) (io1 : Nat), Frm tm [(1, .ptr io0 0), (3, .row io1 1 0 a.n)] → SH st [pt io0 (.cells (c24 s)), pt io1 (.cells (rwC (cI .u8) a))] → W (X6 r) [.code C6_30] tm st
 | .p13 i t10_ t11_ s a => ∀ (tm : Fr) (st : Store) (io0 : Nat) (io1 : Nat), Frm tm [(1, .ptr io0 0), (3, ownV 1 (AV.int .u8) a io1), (4, AV.int .i64 i), (10, AV.int .i64 t10_), (11, AV.int .i64 t11_)] → SH st [pt io0 (.cells (c24 s)), ownA io1 a] → W (X6 r) [.code C6_28, .blk 1, .code C6_29, .lp C6_18, .blk 0, .code C6_30] tm st
 | .p14 s a => ∀ (tm : Fr) (st : Store) (io0 : Nat) (io1 : Nat), Frm tm [(1, .ptr io0 0), (3, ownV 1 (AV.int .u8) a io1)] → SH st [pt io0 (.cells (c24 s)), ownA io1 a] → W (X6 r) [.code C6_32] tm st
 | .p15 i t10_ t11_ s a => ∀ (tm : Fr) (st : Store) (io0 : Nat) (io1 : Nat), Frm tm [(1, .ptr io0 0), (3, .row io1 1 0 a.n), (4, AV.int .i64 i), (10, AV.int .i64 t10_), (11, AV.int .i64 t11_)] → SH st [pt io0 (.cells (c24 s)), pt io1 (.cells (rwC (cI .u8) a))] → W (X6 r) [.code C6_28, .blk 1, .code C6_29, .lp C6_18, .blk 0, .code C6_30] tm st
theorem w6 : ∀ (x : St6) (r : Bool), G6 x = some r → M6 x r := by
 refine G6.partial_correctness M6 ?_
 intro g ih x r hF
 cases x with
 | p1 s a =>
  dsimp only at hF
  intro tm st io0 io1 hf hs
  refine en hf ?_
  refine rn 1 rfl ?_
  refine W.o (e_len (rd_W (o := a) (id := io1) rfl)) ?_
  refine rj 1 1 rfl ?_
  exact ih (.p3 ((ls a).length : Int) 0 s a) _ hF _ _ io0 io1 ⟨rfl, rfl, rfl, rfl, trivial⟩ hs
 | p2 s a =>
  dsimp only at hF
  intro tm st io0 io1 hf hs
  refine en hf ?_
  refine rn 1 rfl ?_
  refine W.o (e_lenR rfl (hs.g 1 rfl)) ?_
  refine rj 1 1 rfl ?_
  exact ih (.p4 (a.n : Int) 0 s a) _ hF _ _ io0 io1 ⟨rfl, rfl, rfl, rfl, trivial⟩ hs
 | p3 t10_ t11_ s a =>
  dsimp only at hF
  intro tm st io0 io1 hf hs
  refine en hf ?_
  refine rn 0 rfl ?_
  exact ih (.p5 t10_ t11_ s a) _ hF _ _ io0 io1 ⟨rfl, rfl, rfl, rfl, trivial⟩ hs
 | p4 t10_ t11_ s a =>
  dsimp only at hF
  intro tm st io0 io1 hf hs
  refine en hf ?_
  refine rn 0 rfl ?_
  exact ih (.p6 t10_ t11_ s a) _ hF _ _ io0 io1 ⟨rfl, rfl, rfl, rfl, trivial⟩ hs
 | p5 t10_ t11_ s a =>
  dsimp only at hF
  intro tm st io0 io1 hf hs
  refine en hf ?_
  refine lp ?_
  refine rj 1 1 rfl ?_
  exact ih (.p7 t10_ t11_ (decide (t11_ < t10_)) s a) _ hF _ _ io0 io1 ⟨rfl, rfl, rfl, rfl, rfl, trivial⟩ hs
 | p6 t10_ t11_ s a =>
  dsimp only at hF
  intro tm st io0 io1 hf hs
  refine en hf ?_
  refine lp ?_
  refine rj 1 1 rfl ?_
  exact ih (.p8 t10_ t11_ (decide (t11_ < t10_)) s a) _ hF _ _ io0 io1 ⟨rfl, rfl, rfl, rfl, rfl, trivial⟩ hs
 | p7 t10_ t11_ t12_ s a =>
  dsimp only at hF
  intro tm st io0 io1 hf hs
  refine en hf ?_
  refine rn 0 rfl ?_
  refine ci hF rfl (fun c_9 hF => ?_) (fun c_9 hF => ?_)
  · refine rj 0 1 rfl ?_
    exact ih (.p9 t10_ t11_ s a) _ hF _ _ io0 io1 ⟨rfl, rfl, rfl, rfl, trivial⟩ hs
  · refine rj 0 1 rfl ?_
    exact ih (.p10 s a) _ hF _ _ io0 io1 ⟨rfl, rfl, trivial⟩ hs
 | p8 t10_ t11_ t12_ s a =>
  dsimp only at hF
  intro tm st io0 io1 hf hs
  refine en hf ?_
  refine rn 0 rfl ?_
  refine ci hF rfl (fun c_10 hF => ?_) (fun c_10 hF => ?_)
  · refine rj 0 1 rfl ?_
    exact ih (.p11 t10_ t11_ s a) _ hF _ _ io0 io1 ⟨rfl, rfl, rfl, rfl, trivial⟩ hs
  · refine rj 0 1 rfl ?_
    exact ih (.p12 s a) _ hF _ _ io0 io1 ⟨rfl, rfl, trivial⟩ hs
 | p9 t10_ t11_ s a =>
  dsimp only at hF
  intro tm st io0 io1 hf hs
  refine en hf ?_
  refine rj 2 1 rfl ?_
  exact ih (.p13 t11_ t10_ t11_ s a) _ hF _ _ io0 io1 ⟨rfl, rfl, rfl, rfl, rfl, trivial⟩ hs
 | p10 s a =>
  dsimp only at hF
  intro tm st io0 io1 hf hs
  refine en hf ?_
  refine rn 1 rfl ?_
  refine bs (f := AV.int .u8) ([121, 121] : List Int) hs rfl rfl rfl rfl fun st b_11 hs => ?_
  obtain ⟨g_12, hF⟩ := grd_some hF
  refine ap (ys := ls (some ([121, 121] : List Int))) hs 2 rfl rfl (ae_rd (rd_W (o := (some ([121, 121] : List Int))) (id := b_11) rfl)) g_12 (fun _ => rfl) fun st b_13 hs => ?_
  refine rj 1 1 rfl ?_
  exact ih (.p14 s (sapp a (ls (some ([121, 121] : List Int))))) _ hF _ _ io0 b_13 ⟨rfl, rfl, trivial⟩ (hs.p 3 [1, 1] rfl)
 | p11 t10_ t11_ s a =>
  dsimp only at hF
  intro tm st io0 io1 hf hs
  refine en hf ?_
  refine rj 2 1 rfl ?_
  exact ih (.p15 t11_ t10_ t11_ s a) _ hF _ _ io0 io1 ⟨rfl, rfl, rfl, rfl, rfl, trivial⟩ hs
 | p12 s a =>
  dsimp only at hF
  intro tm st io0 io1 hf hs
  refine en hf ?_
  refine rn 1 rfl ?_
  refine bs (f := AV.int .u8) ([121, 121] : List Int) hs rfl rfl rfl rfl fun st b_14 hs => ?_
  obtain ⟨g_15, hF⟩ := grd_some hF
  obtain ⟨g_16, hF⟩ := grd_some hF
  refine apR (f := AV.int .u8) (c := cI .u8) (a := a) (ys := ls (some ([121, 121] : List Int))) hs 2 rfl rfl (ae_rd (rd_W (o := (some ([121, 121] : List Int))) (id := b_14) rfl)) g_15 g_16 (cI_len .u8) (cI_one .u8) (fun _ => rfl) fun st b_17 hs => ?_
  refine rj 1 1 rfl ?_
  exact ih (.p14 s (some (a.l ++ (ls (some ([121, 121] : List Int)))))) _ hF _ _ io0 b_17 ⟨rfl, rfl, trivial⟩ (hs.p 3 [2, 0] rfl)
 | p13 i t10_ t11_ s a =>
  dsimp only at hF
  intro tm st io0 io1 hf hs
  refine en hf ?_
  obtain ⟨v_18, g_19, hF⟩ := bind_some hF
  refine rn 2 rfl ?_
  refine W.o (e_iaddrL (rd_W (o := a) (id := io1) rfl) rfl g_19) ?_
  cases hF
 | p14 s a =>
  dsimp only at hF
  intro tm st io0 io1 hf hs
  refine en hf ?_
  refine rn 0 rfl ?_
  have h0 := hs
  refine dr0 ?_
  refine de rfl (lN (s := c24 s) rfl (h0.g 0 rfl) rfl rfl) ?_
  obtain ⟨r_20, g_21, hF⟩ := bind_some hF
  refine ddf (dfun_own (fun st L K hs hK => d15 s _ g_21 K L st hs hK)) rfl ?_
  refine de rfl (lN (s := c24 s) rfl (h0.g 0 rfl) rfl rfl) ?_
  obtain ⟨r_22, g_23, hF⟩ := bind_some hF
  refine ddf (d16 s _ g_23) rfl ?_
  obtain ⟨r_24, g_25, hF⟩ := bind_some hF
  refine ddf (d14 r_20 r_22 _ g_25) rfl ?_
  refine dn 1 rfl ?_
  refine bi hF (fun c_26 hF => ?_) (fun c_26 hF => ?_)
  · refine dfx 26 rfl c_26 ?_
    refine dn 1 rfl ?_
    refine don rfl rfl ?_
    refine de rfl (e_len (rd_W (o := a) (id := io1) rfl)) ?_
    refine dn 3 rfl ?_
    refine dz ?_
    refine rn 0 rfl ?_
    cases hF
    exact rD (rlt rl0) rfl
  · refine dfx 26 rfl c_26 ?_
    refine dn 5 rfl ?_
    refine dz ?_
    refine rn 0 rfl ?_
    cases hF
    exact rD (rlt rl0) rfl
 | p15 i t10_ t11_ s a =>
  dsimp only at hF
  intro tm st io0 io1 hf hs
  refine en hf ?_
  obtain ⟨g_27, hF⟩ := grd_some hF
  refine rn 2 rfl ?_
  refine W.o (e_iaddrR rfl (hs.g 1 rfl) rfl g_27) ?_
  obtain ⟨y_28, g_29, hF⟩ := bind_some hF
  refine sl hs 1 rfl rfl (LR.cast (LR.comp (LR.whole _ _) (lrR_set (cI_len .u8) g_29 120)) (by omega)) ((cI_len .u8) _) rfl ((cI_len .u8) _) ((cI_one .u8) _) rfl fun st hs => ?_
  refine rn 2 rfl ?_
  exact ih (.p6 t10_ (IntKind.wrap .i64 (t11_ + 1)) s (rset a i 120)) _ hF _ _ io0 io1 ⟨rfl, rfl, rfl, rfl, trivial⟩ hs
noncomputable def F6 (s : Arr 4 Int) : Option Bool :=
 (F11 >>= fun r_2 =>
  (if (!r_2) = true then
   (some false)
  else
   (F15 s >>= fun r_5 =>
    (match r_5 with
     | none =>
      (G6 (.p1 s none))
     | some l_8 =>
      (G6 (.p2 s (Rw.mk l_8 l_8.length)))))))
theorem d6 (s : Arr 4 Int) (r : Bool) (hF : F6 s = some r) : DFun Try.prog noG 6 [v24 s] (AV.bool r) := by
 unfold F6 at hF
 refine bD k6 rfl ?_
 have hs : SH [] [] := SH.nil
 generalize ([] : Store) = st at hs ⊢
 refine rn 0 rfl ?_
 refine bx hs (cs := c24 s) rfl rfl fun st b_1 hs => ?_
 obtain ⟨r_2, g_3, hF⟩ := bind_some hF
 refine rn 1 rfl ?_
 refine df (d11 _ g_3) rfl ?_
 refine rn 1 rfl ?_
 refine ci hF rfl (fun c_4 hF => ?_) (fun c_4 hF => ?_)
 · refine rn 1 rfl ?_
   cases hF
   exact rD (rlt rl0) rfl
 · refine rn 0 rfl ?_
   refine W.o (lN (s := c24 s) rfl (hs.g 0 rfl) rfl rfl) ?_
   obtain ⟨r_5, g_6, hF⟩ := bind_some hF
   rcases r_5 with _ | l_8
   · dsimp only at hF
     refine cl (ale rfl) (d15 s _ g_6 _ _ _ hs fun st b_7 hs => ?_)
     refine rj 1 1 rfl ?_
     exact w6 (.p1 s none) _ hF _ _ b_1 b_7 ⟨rfl, rfl, trivial⟩ (hs.p 2 [1, 0] rfl)
   · dsimp only at hF
     refine clR (es := 1) (g := AV.int .u8) (c := cI .u8) (m := l_8) (ds := [v24 s]) (ale rfl) (inferInstance : DtL _).h (fun _ => rfl) (fun _ => rfl) (d15 s _ g_6) hs fun st b_7 hs => ?_
     refine rj 1 1 rfl ?_
     exact w6 (.p2 s (Rw.mk l_8 l_8.length)) _ hF _ _ b_1 b_7 ⟨rfl, rfl, trivial⟩ (hs.p 2 [1, 0] rfl)
end Go.Proofs.Ytfjdegohjnejkaa
