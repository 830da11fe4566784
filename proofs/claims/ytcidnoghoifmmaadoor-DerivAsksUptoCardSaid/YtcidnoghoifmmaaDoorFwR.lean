/-
  The abstract walk: the rules by which it is stepped. Each state of the walk is one term; what is still to come stands in it as code, and is not looked into.
-/
import Derived.Test.YtcidnoghoifmmaaDoorFwU
namespace Go.Proofs.YtcidnoghoifmmaaDoor.AW
open Go

section
variable {P:Program} {E:bA} {N:Nat} {mu:Nat→Bool}

def XO (P:Program) (E:bA) (ev:Option (AV × aA)) (d:Option Nat) (l:List bZ) (K:Fr→aA→Prop) (tm:Fr):Prop:=
 match ev with
 | some (v,st)=>eY P E l K (tm.put d v) st
 | none=>False

def XC (P:Program) (E:bA) (f:FuncId) (ds:List AV) (d:Option Nat) (l:List bZ) (K:Fr→aA→Prop) (tm:Fr) (st:aA):Prop:=
 XCall P E f ds st fun v st'=>eY P E l K (tm.put d v) st'

def Ri (P:Program) (E:bA) (v:AV) (ds:List AV) (d:Option Nat) (l:List bZ) (K:Fr→aA→Prop) (tm:Fr) (st:aA):Prop:=
 match v with
 | .fn g caps=>eH P g=true∧XC P E g (ds++caps) d l K tm st
 | .nR id=>XYield P E id ds st fun v st'=>eY P E l K (tm.put d v) st'
 | _=>False

def XG (P:Program) (E:bA) (v:AV) (b:Bool) (d:Option Nat) (i:AK) (l:List bZ) (K:Fr→aA→Prop) (tm:Fr) (st:aA):Prop:=
 match v with
 | .bool t=>if t=b then eY P E (⟨d,.none,i⟩::l) K tm st else eY P E l K (tm.put d (.bt [])) st
 | .bt _=>eY P E l K (tm.put d (.bt [])) st
 | _=>False

theorem Bq (v:AV) (st:aA) (d:Option Nat) (l:List bZ) (K:Fr→aA→Prop) (tm:Fr):XO P E (some (v,st)) d l K tm=eY P E l K (tm.put d v) st:=by simp only [XO]
theorem uB (K:Fr→aA→Prop) (tm:Fr) (st:aA):eY P E [] K tm st=K tm st:=by simp only [eY]
theorem uC (d:Option Nat) (i:AI) (l:List bZ) (K:Fr→aA→Prop) (tm:Fr) (st:aA):
  eY P E (⟨d,.none,.plain i⟩::l) K tm st=XO P E (aE E tm st i) d l K tm:=by
 simp only [eY,zV,XO]
 cases aE E tm st i<;>rfl
theorem vN (d:Option Nat) (f:FuncId) (as:List AX) (l:List bZ) (K:Fr→aA→Prop) (tm:Fr) (st:aA):
  eY P E (⟨d,.none,.call f as⟩::l) K tm st=XC P E f (as.map tm.x) d l K tm st:=by
 simp only [eY,zV,XC]
theorem nP (d:Option Nat) (f:AX) (as:List AX) (l:List bZ) (K:Fr→aA→Prop) (tm:Fr) (st:aA):
  eY P E (⟨d,.none,.fH f as⟩::l) K tm st=Ri P E (tm.x f) (as.map tm.x) d l K tm st:=by
 simp only [eY,zV,Ri,XC]
 cases tm.x f<;>rfl
theorem QC (g:FuncId) (caps ds:List AV) (d:Option Nat) (l:List bZ) (K:Fr→aA→Prop) (tm:Fr) (st:aA):Ri P E (.fn g caps) ds d l K tm st=(eH P g=true∧XC P E g (ds++caps) d l K tm st):=by simp only [Ri]
theorem Kg (id:Nat) (ds:List AV) (d:Option Nat) (l:List bZ) (K:Fr→aA→Prop) (tm:Fr) (st:aA):Ri P E (.nR id) ds d l K tm st=XYield P E id ds st fun v st'=>eY P E l K (tm.put d v) st':=by simp only [Ri]
theorem kX (d:Option Nat) (g:Nat) (b:Bool) (i:AK) (l:List bZ) (K:Fr→aA→Prop) (tm:Fr) (st:aA):
  eY P E (⟨d,.some (g,b),i⟩::l) K tm st=XG P E (tm g) b d i l K tm st:=by
 simp only [eY,XG]
 cases tm g<;>rfl
theorem QF (b:Bool) (d:Option Nat) (i:AK) (l:List bZ) (K:Fr→aA→Prop) (tm:Fr) (st:aA):XG P E (.bool b) b d i l K tm st=eY P E (⟨d,.none,i⟩::l) K tm st:=by simp only [XG,if_true]
theorem QG (vs:List AV) (b:Bool) (d:Option Nat) (i:AK) (l:List bZ) (K:Fr→aA→Prop) (tm:Fr) (st:aA):XG P E (.bt vs) b d i l K tm st=eY P E l K (tm.put d (.bt [])) st:=by simp only [XG]
theorem UD (d:Option Nat) (i:AK) (l:List bZ) (K:Fr→aA→Prop) (tm:Fr) (st:aA):XG P E (.bool true) false d i l K tm st=eY P E l K (tm.put d (.bt [])) st:=by simp [XG]
theorem UC (d:Option Nat) (i:AK) (l:List bZ) (K:Fr→aA→Prop) (tm:Fr) (st:aA):XG P E (.bool false) true d i l K tm st=eY P E l K (tm.put d (.bt [])) st:=by simp [XG]
def jk (K:Fr→aA→Prop) (Q:cn→Fr→aA→Prop):cn→Fr→aA→Prop
 | .normal,tm,st=>K tm st
 | .exit i,tm,st=>Q (.exit i) tm st
 | .ret,tm,st=>Q .ret tm st
def jv (id:Nat) (Q:cn→Fr→aA→Prop):cn→Fr→aA→Prop
 | .normal,tm,st=>Q .normal tm st
 | .exit i,tm,st=>if i=id then Q .normal tm st else Q (.exit i) tm st
 | .ret,tm,st=>Q .ret tm st
theorem gQ (K:Fr→aA→Prop) (Q:cn→Fr→aA→Prop) (tm:Fr) (st:aA):jk K Q .normal tm st=K tm st:=by simp only [jk]
theorem iy (K:Fr→aA→Prop) (Q:cn→Fr→aA→Prop) (i:Nat) (tm:Fr) (st:aA):jk K Q (.exit i) tm st=Q (.exit i) tm st:=by simp only [jk]
theorem jl (K:Fr→aA→Prop) (Q:cn→Fr→aA→Prop) (tm:Fr) (st:aA):jk K Q .ret tm st=Q .ret tm st:=by simp only [jk]
theorem me (id:Nat) (Q:cn→Fr→aA→Prop) (tm:Fr) (st:aA):jv id Q .normal tm st=Q .normal tm st:=by simp only [jv]
theorem sF (id:Nat) (Q:cn→Fr→aA→Prop) (tm:Fr) (st:aA):jv id Q .ret tm st=Q .ret tm st:=by simp only [jv]
theorem uA (Q:cn→Fr→aA→Prop) (tm:Fr) (st:aA):eL P E N mu .skip Q tm st=Q .normal tm st:=by simp only [eL]
theorem EM (Q:cn→Fr→aA→Prop) (tm:Fr) (st:aA):eL P E N mu .ret Q tm st=Q .ret tm st:=by simp only [eL]
theorem tw (i:Nat) (Q:cn→Fr→aA→Prop) (tm:Fr) (st:aA):eL P E N mu (.exit i) Q tm st=Q (.exit i) tm st:=by simp only [eL]
theorem vM (l:List bZ) (Q:cn→Fr→aA→Prop) (tm:Fr) (st:aA):eL P E N mu (.ops l) Q tm st=eY P E l (Q .normal) tm st:=by simp only [eL]
theorem Bf (b:aC) (Q:cn→Fr→aA→Prop) (tm:Fr) (st:aA):eL P E N mu (.loop b) Q tm st=XLoop P E N mu b Q tm st:=by simp only [eL]
theorem yq (tm:Fr) (v:AV):tm.put .none v=tm:=by funext i;simp [Fr.put]
def XR (o:Option (List AV)) (K:AV→aA→Prop) (st:aA):Prop:=
 match o with
 | some vs=>K (pack vs) st
 | none=>False
def lR (E:bA) (res:List RA) (K:AV→aA→Prop):cn→Fr→aA→Prop
 | .exit _,_,_=>False
 | .normal,tm,st=>XR (fh E tm st res) K st
 | .ret,tm,st=>XR (fh E tm st res) K st
theorem Br (vs:List AV) (K:AV→aA→Prop) (st:aA):XR (some vs) K st=K (pack vs) st:=by simp only [XR]
theorem IP (res:List RA) (K:AV→aA→Prop) (tm:Fr) (st:aA):lR E res K .ret tm st=XR (fh E tm st res) K st:=by simp only [lR]
theorem yI (res:List RA) (K:AV→aA→Prop) (tm:Fr) (st:aA):lR E res K .normal tm st=XR (fh E tm st res) K st:=by simp only [lR]
def Wa (K:AV→Prop) (r:AV) (_:aA):Prop:=r.data=true∧K r.strip
theorem Jr {f:FuncId} {ds ds':List AV} {r:AV} {d:Option Nat} {l:List bZ} {K:Fr→aA→Prop} {tm:Fr} {st:aA} (h:DFun P E f ds' r) (hd:AV.dP ds=true) (he:AV.cG ds=ds')
  (hk:eY P E l K (tm.put d r) st):XC P E f ds d l K tm st:=
 vQ (K:=fun v st'=>eY P E l K (tm.put d v) st') h hd he hk

def EJ (P:Program) (E:bA) (l:List bZ) (K:Fr→aA→Prop) (tm:Fr) (st:aA):Prop:=eY P E l K tm st
theorem Jn (l:List bZ) (K:Fr→aA→Prop) (tm:Fr) (st:aA):EJ P E l K tm st=eY P E l K tm st:=rfl
theorem nO (sas:List AX) (mr nb:Nat) (q suf:List bZ) (Q:cn→Fr→aA→Prop) (tm:Fr) (st:aA):eL P E N mu (.draw sas mr nb q suf) Q tm st=eP P E (jf (sas.map tm.x) st) mr q 0 (EJ P E suf (Q .normal)) tm (st++List.replicate nb .bB):=by simp only [eL];rfl
def XD (P:Program) (E:bA) (ev:Option (AV × aA)) (st:aA) (mr:Nat) (d:Option Nat) (l:List bZ) (r:Nat) (K:Fr→aA→Prop) (tm:Fr) (s:aA):Prop:=
 match ev with
 | some (v,st')=>st'=st∧eP P E st mr l r K (tm.put d v) s
 | none=>False
theorem Kk (v:AV) (st:aA) (mr:Nat) (d:Option Nat) (l:List bZ) (r:Nat) (K:Fr→aA→Prop) (tm:Fr) (s:aA):XD P E (some (v,st)) st mr d l r K tm s=eP P E st mr l r K (tm.put d v) s:=by simp [XD]
def MV (P:Program) (E:bA) (s':Option aA) (st:aA) (mr:Nat) (l:List bZ) (r:Nat) (K:Fr→aA→Prop) (tm:Fr):Prop:=
 match s' with
 | some s=>eP P E st mr l r K tm s
 | none=>False
theorem ru (s st:aA) (mr:Nat) (l:List bZ) (r:Nat) (K:Fr→aA→Prop) (tm:Fr):MV P E (some s) st mr l r K tm=eP P E st mr l r K tm s:=rfl
theorem AO (e:cY) (s st:aA) (mr:Nat) (l:List bZ) (r:Nat) (K:Fr→aA→Prop) (tm:Fr):(∃s',e.app s=some s'∧eP P E st mr l r K tm s')=MV P E (e.app s) st mr l r K tm:=by
 simp only [MV]
 cases e.app s<;>simp
def Xa (P:Program) (E:bA) (f:FuncId) (ds:List AV) (st:aA) (mr:Nat) (d:Option Nat) (l:List bZ) (r:Nat) (K:Fr→aA→Prop) (tm:Fr) (s:aA):Prop:=
 ∃v,((AV.dP ds=true∧DFun P E f (AV.cG ds) v)∨PM P E f ds v st)∧eP P E st mr l r K (tm.put d v) s

def Jz (P:Program) (E:bA) (v:AV) (b:Bool) (st:aA) (mr:Nat) (d:Option Nat) (i:AK) (l:List bZ) (r:Nat) (K:Fr→aA→Prop) (tm:Fr) (s:aA):Prop:=
 match v with
 | .bool t=>if t=b then eP P E st mr (⟨d,.none,i⟩::l) r K tm s else eP P E st mr l (r+fK ⟨d,.none,i⟩) K (tm.put d (.bt [])) s
 | .bt _=>eP P E st mr l (r+fK ⟨d,.none,i⟩) K (tm.put d (.bt [])) s
 | _=>False

theorem Iy (st:aA) (mr r:Nat) (K:Fr→aA→Prop) (tm:Fr) (s:aA):eP P E st mr [] r K tm s=K tm s:=by simp only [eP]
theorem Aw (st:aA) (mr:Nat) (d:Option Nat) (z:List AV) (l:List bZ) (r:Nat) (K:Fr→aA→Prop) (tm:Fr) (s:aA):eP P E st mr (⟨d,.none,.plain (.alloc z)⟩::l) r K tm s=MV P E ((cY.born (st.length+r) (.cells z)).app s) st mr l (r+1) K (tm.put d (.ptr (st.length+r) 0)):=by
 rw [←AO]
 simp only [eP,yv,qv,fK,AK.born,if_true,eq_iff_iff]
 constructor
 ·rintro ⟨v,e,s',⟨rfl,rfl⟩,h⟩;exact ⟨s',h⟩
 rintro ⟨s',h⟩;exact ⟨_,_,s',⟨rfl,rfl⟩,h⟩
def XZ (P:Program) (E:bA) (parts:Option (List (Nat × List AV))) (es len:Nat) (ag:Bool) (zero:List AV) (st:aA) (mr:Nat) (d:Option Nat) (l:List bZ) (r:Nat) (K:Fr→aA→Prop) (tm:Fr) (s:aA):Prop:=
 match parts with
 | some ps=>(av (cJ zero len) ps).all AV.one=true∧MV P E ((cY.born (st.length+r) (.tail len)).app s) st mr l (r+1) K (tm.put d (.sl es ((chunks es len (av (cJ zero len) ps)).map (cC ag)) (.some (st.length+r))))
 | none=>False
theorem yY (st:aA) (mr:Nat) (d:Option Nat) (es len:Nat) (ag:Bool) (zero:List AV) (parts:List (Nat × Nat × AX)) (l:List bZ) (r:Nat) (K:Fr→aA→Prop) (tm:Fr) (s:aA):eP P E st mr (⟨d,.none,.plain (.bE es len ag zero parts false)⟩::l) r K tm s=XZ P E (bY (len*es) parts tm) es len ag zero st mr d l r K tm s:=by
  simp only [eP,yv,fK,AK.born,if_true,XZ]
  cases hps:bY (len*es) parts tm with
  | none=>
    simp only [eq_iff_iff,iff_false]
    rintro ⟨v,e,s',⟨l,hl,_⟩,_⟩
    rw [hps] at hl;cases hl
  | some ps=>
    simp only []
    rw [←AO]
    simp only [eq_iff_iff]
    constructor
    · rintro ⟨v,e,s',⟨l,hl,⟨_,h1,rfl,rfl⟩ | ⟨hx,_⟩⟩,h⟩
      · rw [hps] at hl;cases hl;exact ⟨h1,s',h⟩
      cases hx
    rintro ⟨h1,s',h⟩;exact ⟨_,_,s',⟨_,hps,.inl ⟨rfl,h1,rfl,rfl⟩⟩,h⟩
theorem wR (st:aA) (mr:Nat) (d:Option Nat) (es len:Nat) (ag:Bool) (zero:List AV) (parts:List (Nat × Nat × AX)) (l:List bZ) (r:Nat) (K:Fr→aA→Prop) (tm:Fr) (s:aA) {ps:List (Nat × List AV)} (hp:bY (len*es) parts tm=some ps) (hu:s[st.length+r]? =some .bB)
  (hk:eP P E st mr l (r+1) K (tm.put d (.row (st.length+r) es 0 len)) (s.set (st.length+r) (.cells (av (cJ zero len) ps)))):eP P E st mr (⟨d,.none,.plain (.bE es len ag zero parts true)⟩::l) r K tm s:=by
 simp only [eP,yv]
 refine ⟨_,_,s.set (st.length+r) (.cells (av (cJ zero len) ps)),⟨ps,hp,.inr ⟨rfl,rfl,rfl⟩⟩,?_,?_⟩
 ·show (cY.born _ _).app s=_
  simp only [cY.app,cY.id,hu,cY.gS,Option.map_some]
 simpa only [fK,AK.born,if_true] using hk
theorem HQ (ps:List (Nat × List AV)) (es len:Nat) (ag:Bool) (zero:List AV) (st:aA) (mr:Nat) (d:Option Nat) (l:List bZ) (r:Nat) (K:Fr→aA→Prop) (tm:Fr) (s:aA):XZ P E (some ps) es len ag zero st mr d l r K tm s=((av (cJ zero len) ps).all AV.one=true∧MV P E ((cY.born (st.length+r) (.tail len)).app s) st mr l (r+1) K (tm.put d (.sl es ((chunks es len (av (cJ zero len) ps)).map (cC ag)) (.some (st.length+r))))):=rfl
def Xb (P:Program) (E:bA) (a:AV) (n:Nat) (cs:List AV) (st:aA) (mr:Nat) (d:Option Nat) (l:List bZ) (r:Nat) (K:Fr→aA→Prop) (tm:Fr) (s:aA):Prop:=
 match a with
 | .ptr id off=>st[id]? =some .hid∧MV P E ((cY.put id off n cs).app s) st mr l r K (tm.put d (.bt []))
 | _=>False
theorem Kj (id off n:Nat) (cs:List AV) (st:aA) (mr:Nat) (d:Option Nat) (l:List bZ) (r:Nat) (K:Fr→aA→Prop) (tm:Fr) (s:aA):Xb P E (.ptr id off) n cs st mr d l r K tm s=(st[id]? =some .hid∧MV P E ((cY.put id off n cs).app s) st mr l r K (tm.put d (.bt []))):=rfl
theorem Ay (st:aA) (mr:Nat) (d:Option Nat) (n:Nat) (a x:AX) (l:List bZ) (r:Nat) (K:Fr→aA→Prop) (tm:Fr) (s:aA):eP P E st mr (⟨d,.none,.plain (.store n a x)⟩::l) r K tm s=Xb P E (tm.x a) n (tm.x x).cells st mr d l r K tm s:=by
  simp only [eP,yv,qv,fK,AK.born,Bool.false_eq_true,if_false,Nat.add_zero,Xb]
  cases tm.x a with
  | ptr id off=>
    simp only []
    rw [←AO]
    simp only [eq_iff_iff]
    constructor
    · rintro ⟨v,e,s',⟨id',off',h0,h1,rfl,rfl⟩,h⟩;cases h0;exact ⟨h1,s',h⟩
    rintro ⟨h1,s',h⟩;exact ⟨_,_,s',⟨_,_,rfl,h1,rfl,rfl⟩,h⟩
  | _=>simp
theorem Ax (st:aA) (mr:Nat) (d:Option Nat) (i:AI) (h:i.still=true) (l:List bZ) (r:Nat) (K:Fr→aA→Prop) (tm:Fr) (s:aA):eP P E st mr (⟨d,.none,.plain i⟩::l) r K tm s=XD P E (aE E tm st i) st mr d l r K tm s:=by
 have hq: ∀v e,qv P E st mr r (.plain i) tm v e=(aE E tm st i=some (v,st)∧e= .none):=by
  intro v e
  cases i<;>first | (simp only [AI.still,Bool.false_eq_true] at h;done) | simp only [qv,h,true_and]
 have hb:fK ⟨d,.none,.plain i⟩=0:=by
  cases i<;>first | (simp only [AI.still,Bool.false_eq_true] at h;done) | rfl
 simp only [eP,yv,hq,hb,Nat.add_zero,XD,eq_iff_iff]
 constructor
 ·rintro ⟨v,e,s',⟨h1,rfl⟩,h2,h3⟩
  rw [h1]
  cases h2
  exact ⟨rfl,h3⟩
 intro h1
 split at h1
 ·rename_i v st' he
  obtain ⟨rfl,h1⟩:=h1
  exact ⟨v,.none,s,⟨he,rfl⟩,rfl,h1⟩
 exact h1.elim
theorem uu (st:aA) (mr:Nat) (d:Option Nat) (f:FuncId) (as:List AX) (l:List bZ) (r:Nat) (K:Fr→aA→Prop) (tm:Fr) (s:aA):eP P E st mr (⟨d,.none,.call f as⟩::l) r K tm s=Xa P E f (as.map tm.x) st mr d l r K tm s:=by
 simp only [eP,yv,qv,fK,AK.born,Bool.false_eq_true,if_false,Xa,Nat.add_zero,eq_iff_iff]
 constructor
 ·rintro ⟨v,e,s',⟨h1,rfl⟩,h3,h4⟩;cases h3;exact ⟨v,h1,h4⟩
 rintro ⟨v,h1,h4⟩;exact ⟨v,.none,s,⟨h1,rfl⟩,rfl,h4⟩
theorem uv (st:aA) (mr:Nat) (d:Option Nat) (f:FuncId) (as:List AX) (l:List bZ) (r:Nat) (K:Fr→aA→Prop) (tm:Fr) (s:aA) {c id:Nat} {o:cz} {v:AV} (hf:eH P f=true) (hm:AX.t c∈as) (ht:(∃es xs,tm c= .sl es xs (some id))∨ ∃es q n,tm c= .row id es q n) (hl:st.length≤id) (hs:s[id]? =some o) (hr:o.pg) (h:AE P E f (as.map tm.x) v id o)
  (hk:eP P E st mr l r K (tm.put d v) (s.set id .dead)):eP P E st mr (⟨d,.none,.fH (.c (.fn f [])) as⟩::l) r K tm s:=by
 simp only [eP,yv]
 refine ⟨v,.kill id o,s.set id .dead,⟨f,rfl,hf,c,id,o,hm,ht,hl,h,rfl⟩,?_,?_⟩
 ·cases o<;>first | exact hr.elim | simp only [cY.DO,hs,sY hr,Option.map_some]
 simpa only [fK,AK.born,Bool.false_eq_true,if_false,Nat.add_zero] using hk
theorem kH (st:aA) (mr:Nat) (d:Option Nat) (g:Nat) (b:Bool) (i:AK) (l:List bZ) (r:Nat) (K:Fr→aA→Prop) (tm:Fr) (s:aA):eP P E st mr (⟨d,.some (g,b),i⟩::l) r K tm s=Jz P E (tm g) b st mr d i l r K tm s:=by
  simp only [eP,yv,Jz]
  have hb:fK ⟨d,.some (g,b),i⟩=fK ⟨d,.none,i⟩:=rfl
  rw [hb]
  cases tm g with
  | bool t=>
    simp only []
    by_cases h:t=b
    · simp only [h,if_true]
    simp only [h,if_false,eq_iff_iff]
    constructor
    · rintro ⟨v,e,s',⟨rfl,rfl⟩,h1,h2⟩;cases h1;exact h2
    intro h;exact ⟨_,_,s,⟨rfl,rfl⟩,rfl,h⟩
  | bt vs=>
    simp only [eq_iff_iff]
    constructor
    · rintro ⟨v,e,s',⟨rfl,rfl⟩,h1,h2⟩;cases h1;exact h2
    intro h;exact ⟨_,_,s,⟨rfl,rfl⟩,rfl,h⟩
  | _=>simp
theorem Ki (vs:List AV) (b:Bool) (st:aA) (mr:Nat) (d:Option Nat) (i:AK) (l:List bZ) (r:Nat) (K:Fr→aA→Prop) (tm:Fr) (s:aA):Jz P E (.bt vs) b st mr d i l r K tm s=eP P E st mr l (r+fK ⟨d,.none,i⟩) K (tm.put d (.bt [])) s:=by simp only [Jz]
theorem Kh (b:Bool) (st:aA) (mr:Nat) (d:Option Nat) (i:AK) (l:List bZ) (r:Nat) (K:Fr→aA→Prop) (tm:Fr) (s:aA):Jz P E (.bool b) b st mr d i l r K tm s=eP P E st mr (⟨d,.none,i⟩::l) r K tm s:=by simp only [Jz,if_true]
theorem QE (st:aA) (mr:Nat) (d:Option Nat) (i:AK) (l:List bZ) (r:Nat) (K:Fr→aA→Prop) (tm:Fr) (s:aA):Jz P E (.bool true) false st mr d i l r K tm s=eP P E st mr l (r+fK ⟨d,.none,i⟩) K (tm.put d (.bt [])) s:=by simp [Jz]
theorem QD (st:aA) (mr:Nat) (d:Option Nat) (i:AK) (l:List bZ) (r:Nat) (K:Fr→aA→Prop) (tm:Fr) (s:aA):Jz P E (.bool false) true st mr d i l r K tm s=eP P E st mr l (r+fK ⟨d,.none,i⟩) K (tm.put d (.bt [])) s:=by simp [Jz]
theorem Lv {f:FuncId} {ds ds':List AV} {v:AV} {mr:Nat} {d:Option Nat} {l:List bZ} {r:Nat} {K:Fr→aA→Prop} {tm:Fr} {st s:aA} (h:DFun P E f ds' v) (hd:AV.dP ds=true) (he:AV.cG ds=ds')
 (hk:eP P E st mr l r K (tm.put d v) s):Xa P E f ds st mr d l r K tm s:=⟨v,.inl ⟨hd,by rw [he];exact h⟩,hk⟩
end
end Go.Proofs.YtcidnoghoifmmaaDoor.AW
