/-
  The abstract walk: what each operation of the program's does is what its plain operation says (seventh part: append, len, max, min).
-/
import Derived.Test.YtcidnoghoifmmaaDoorFwJ
namespace Go.Proofs.YtcidnoghoifmmaaDoor.AW
open Go

section
variable {P:Program} {E:bA} {G:Gh} {st:aA} {w:World}

structure vR (P:Program) (ts:Array TypeId) (e:TypeId) (i:TypeInfo) (z:Value):Prop where
 types: ∃t u,ts= #[t,u]∧P.underlying t=some (.slice e)∧((∃f,P.underlying u=some (.slice f))∨P.underlying u=some .string)
 info:P.info? e=some i
 zero:i.zero=some z
 Cy:z.cells.size=i.size
 pos:0<i.size
 bytes:0<i.bytes

theorem iJ {ts:Array TypeId} {e ty:TypeId} {i:TypeInfo} {z:Value} (T:vR P ts e i z) {base:Option Addr} {sLen sCap n:Nat} {x:Value} {olds news:List Value}
  (holds:(Builtin.firstCells i.size sLen (.slice base sLen sCap)).run P w= .ok olds.toArray w) (hl:(∀w,(Builtin.lenOf x).run P w= .ok n w)) (hn:(Builtin.firstCells i.size n x).run P w= .ok news.toArray w)
  (hg:sCap<sLen+n) (hfit:(sLen+n)*i.bytes≤140737488355328) (hd: ∀(k:Nat) (y:Value) (r:Array Value),(Builtin.firstCells i.size k y).run P w= .ok r w→(Builtin.firstCells i.size k y).run P w.drew= .ok r w.drew):
  (Builtin.append_ ts ty #[.slice base sLen sCap,x]).run P w=
   .ok (.slice (some ⟨w.heap.size,0,none⟩) (sLen+n) (grownCap w (sLen+n) sCap e))
    (w.drew.alloc (.cells (olds.toArray++news.toArray++Builtin.zeroCells z.cells (grownCap w (sLen+n) sCap e-(sLen+n))) e)):=by
 obtain ⟨t,u,rfl,ht,hu⟩:=T.types
 have hns: ¬(sLen+n≤sCap):=by omega
 have hle:sLen+n≤140737488355328:=Nat.le_trans (Nat.le_mul_of_pos_right _ T.bytes) hfit
 have h63': ¬(9223372036854775807<((sLen:Int)+(n:Int))):=by omega
 have h48': ¬(281474976710656<Builtin.nextslicecap (sLen+n) sCap*i.bytes):=by have:=growslice_fits hg hfit;omega
 have h1:=hd _ _ _ holds
 have h2:=hd _ _ _ hn
 have hz:=T.zero
 rcases hu with ⟨f,hu⟩ | hu
 all_goals
  simp [Builtin.append_,run_underlying ht,run_underlying hu,sizeOf,typeInfo,zeroValue,T.info,hz,hl,hns,h63',h48',Question.forced,h1,h2,newRow,grownCap]
  try (congr 2;apply Array.ext';simp [List.append_assoc])
theorem tg {ts:Array TypeId} {e ty:TypeId} {i:TypeInfo} {z:Value} (T:vR P ts e i z) {b o sLen sCap n:Nat} {x:Value} {news:List Value} {arr:Array Value} {te:TypeId} {fz:Nat × Nat}
  (hl:(∀w,(Builtin.lenOf x).run P w= .ok n w)) (hn:(Builtin.firstCells i.size n x).run P w= .ok news.toArray w) (hnl:news.length=n*i.size) (hg:sLen+n≤sCap)
  (harr:w.heap[b]? =some (.cells arr te fz)) (hfz: ∀j,o+sLen*i.size≤j→j<o+sLen*i.size+n*i.size→jY fz j) (hfit:o+sLen*i.size+n*i.size≤arr.size) (h1: ∀v∈news,v.oneCell'=true):
  (Builtin.append_ ts ty #[.slice (some ⟨b,o,none⟩) sLen sCap,x]).run P w=
   .ok (.slice (some ⟨b,o,none⟩) (sLen+n) sCap) (w.setRow b (arr.toList.take (o+sLen*i.size)++news++arr.toList.drop (o+sLen*i.size+news.length)).toArray):=by
 obtain ⟨t,u,rfl,ht,hu⟩:=T.types
 have hst:=gP P b (o+sLen*i.size) te fz news 0 arr w harr (by simpa [hnl] using hfz) (by simpa [hnl] using hfit) h1
 simp only [Nat.add_zero] at hst
 rcases hu with ⟨f,hu⟩ | hu
 all_goals
  simp [Builtin.append_,run_underlying ht,run_underlying hu,sizeOf,typeInfo,T.info,hl,hg,hn,fG,hst]
theorem kP {ts:Array TypeId} {e ty:TypeId} {i:TypeInfo} {z:Value} (T:vR P ts e i z) {x:Value} (hl:(∀w,(Builtin.lenOf x).run P w= .ok 0 w)) (hn:(Builtin.firstCells i.size 0 x).run P w= .ok #[] w):
  (Builtin.append_ ts ty #[.slice none 0 0,x]).run P w= .ok (.slice none 0 0) w:=by
 obtain ⟨t,u,rfl,ht,hu⟩:=T.types
 rcases hu with ⟨f,hu⟩ | hu
 all_goals
  simp [Builtin.append_,run_underlying ht,run_underlying hu,sizeOf,typeInfo,T.info,hl,hn]
theorem fj {k n:Nat} {y:Value} {r:Array Value} (h:(Builtin.firstCells k n y).run P w= .ok r w):(Builtin.firstCells k n y).run P w.drew= .ok r w.drew:=by
  have key: ∀(m i:Nat) (a:Addr) (acc r:Array Value),(loadCellsFrom a i m acc).run P w= .ok r w→(loadCellsFrom a i m acc).run P w.drew= .ok r w.drew:=by
    intro m
    induction m with
    | zero=>
      intro i a acc r h
      simp only [loadCellsFrom,Sem.run_pure,Result.ok.injEq,and_true] at h ⊢
      exact h
    | succ m ih=>
      intro i a acc r h
      simp only [loadCellsFrom,Sem.run_bind,run_load,World.cell?_drew] at h ⊢
      cases hc:w.cell? (a.add i) with
      | some v=>
        simp only [hc,Result.andThen_ok] at h ⊢
        exact ih _ _ _ _ h
      | none=>
        simp only [hc] at h ⊢
        have:w.drew.farLoad P (a.add i) (Mode.plain==Mode.atomic)=w.farLoad P (a.add i) (Mode.plain==Mode.atomic):=by
          rfl
        rw [this]
        cases hfl:w.farLoad P (a.add i) (Mode.plain==Mode.atomic) with
        | ok p=>
          obtain ⟨v,l⟩:=p
          simp only [hfl,Result.andThen_ok] at h ⊢
          exact ih _ _ _ _ h
        | error e=>
          simp only [hfl,Result.andThen_halt] at h
          cases h
  unfold Builtin.firstCells at h ⊢
  split at h<;>first
    | exact key _ _ _ _ _ h
    | (simp only [Sem.run_pure,Result.ok.injEq,and_true] at h ⊢;exact h)
    | (simp at h)
end
end Go.Proofs.YtcidnoghoifmmaaDoor.AW
