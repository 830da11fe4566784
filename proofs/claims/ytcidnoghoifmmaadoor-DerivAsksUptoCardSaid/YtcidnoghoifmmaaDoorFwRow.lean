/-
  From a function's walk to its row: what memory holds at the call's beginning, and the arguments, opened.
-/
import Derived.Test.YtcidnoghoifmmaaDoorFwT3
import Derived.ProofKit
import Derived.OpenShut
import Derived.ShutString
import Derived.ChangeOld
import Derived.Below
import Derived.SizedLaws
set_option linter.unusedSimpArgs false
set_option linter.unusedVariables false
namespace Go.Proofs.YtcidnoghoifmmaaDoor.AW
open Go Go.RowKit Go.WideShapes Go.ChangeShapes

def M0 (W:World) (b o:Nat):Option Value:=
 match W.cell? ⟨b,o,none⟩ with
 | some u=>if u.oneCell'=true then some u else none
 | none=>none
def YG (W:World) (b:Nat):Option (Nat × Nat):=match W.heap[b]? with
 | some (.cells arr e _)=>some (e,arr.size)
 | _=>none
def G0 (W:World):Gh:=⟨[],M0 W,YG W⟩

theorem Bp {W:World} {b o:Nat} {u:Value} (h:W.cell? ⟨b,o,none⟩=some u) (h1:u.oneCell'=true):M0 W b o=some u:=by
 simp only [M0,h,h1,if_true]
theorem RS (W:World):aG Zp (G0 W) [] W where
 len:=rfl
 obj:=fun i o s h=>by simp at h
 apart:=fun i j s t b _ h=>by simp [G0] at h
 mem:=fun b o u h=>by
  simp only [G0,M0] at h
  split at h
  ·rename_i u' hu
   split at h
   ·cases h;exact hu
   cases h
  cases h
 one:=fun b o u h=>by
  simp only [G0,M0] at h
  split at h
  ·rename_i u' hu
   split at h
   ·rename_i h1;cases h;exact h1
   cases h
  cases h
 jU:=fun b e n h=>by
  simp only [G0,YG] at h
  split at h
  ·rename_i arr e' fz hb;cases h;exact ⟨arr,fz,hb,rfl⟩
  cases h
 gG:=fun g cs h=>by simp [Zp] at h
theorem iM {G:Gh} {v:AV} {u:Value} {vs:List AV} {us:List Value} (h:aU G v u) (hl:aW G vs us):aW G (v::vs) (u::us):=by
 simp only [aW];exact ⟨u,us,rfl,h,hl⟩
theorem jj {G:Gh}:aW G [] []:=by simp only [aW]
theorem tY {G:Gh} (k:IntKind) (n:Int):aU G (.int k n) (.int k n):=by simp only [aU]
theorem vH {G:Gh} (k:IntKind): ∀l:List Int,aW G (l.flatMap (cI k)) (l.map (Value.int k))
 | []=>jj
 | n::l=>iM (tY k n) (vH k l)
section
variable {H:Type} {enc:TypeId × Value→H} {P:Program} {W:World} {base:Nat} {spare:Nat→Bool} {held:Bool}

theorem JM {t e:TypeId} {n:Nat} {k:IntKind} {fuel:Nat} {cs:List Value} {x:DataW H × List MemPlace} (ht:P.underlying t=some (.array n e)) (he:P.underlying e=some (.int k)) (hc:P.cellsOf e=1) (hct:P.cellsOf t=n)
  (h:DataW.trod enc P W base spare held fuel t cs=some x): ∃l:List Int,l.length=n∧cs=l.map (Value.int k)∧ ∀y∈l,(Lit.int k y).wf=true:=by
 obtain ⟨xs,m,_,_,hl,hxs,each⟩:=DataW.trod_array ht h
 rw [hct] at hl
 have key: ∀i,i<n→ ∃y,cs[i]? =some (Value.int k y)∧(Lit.int k y).wf=true:=fun i hi=>by
  have h1:=each i hi
  have h2:xs[i]? =some (xs[i]'(by omega)):=by simp
  rw [h2,hc,Nat.mul_one] at h1
  obtain ⟨q,hcs,_,hw⟩:=DataW.trod_int he h1
  refine ⟨_,?_,hw⟩
  have h3:((cs.drop i).take 1)[0]? =cs[i]? :=by
   rw [List.getElem?_take,if_pos (by omega),List.getElem?_drop,Nat.add_zero]
  rw [←h3,hcs]
  rfl
 refine ⟨cs.map intOf,by simp [hl],?_,?_⟩
 ·apply List.ext_getElem?
  intro i
  by_cases hi:i<n
  ·obtain ⟨y,hy,_⟩:=key i hi
   rw [hy,List.map_map,List.getElem?_map,hy]
   rfl
  rw [List.getElem?_eq_none (by omega),List.getElem?_eq_none (by simp;omega)]
 intro y hy
 simp only [List.mem_map] at hy
 obtain ⟨u,hu,rfl⟩:=hy
 obtain ⟨i,hi⟩:=List.getElem?_of_mem hu
 have hin:i<n:=by rw [←hl];exact (List.getElem?_eq_some_iff.1 hi).1
 obtain ⟨y,hy,hw⟩:=key i hin
 rw [hi] at hy
 cases hy
 exact hw
end
end Go.Proofs.YtcidnoghoifmmaaDoor.AW
