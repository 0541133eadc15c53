/-
 What is handed in and out;loops over functions:what they ask of a function.
-/
import Derived.Test.YtlkdgfolbllngaaGreatDoorEC
import Derived.Test.YtlkdgfolbllngaaGreatDoorEB
import Derived.OpenShut
import Derived.Stop.Joined
import Derived.LaidSub
import Derived.MakeChecks
import Derived.Lib.ItoaNum
import Derived.Lib.AtoiAll
import Derived.Lib.SplitLaws
import Derived.Lib.Join
set_option linter.all false
section
namespace Go.Sh
variable [Laid]
inductive Pk where
 | int (k:IntKind) | bool | str | lst (ks:List Kd) | agg (ks:List Kd) | err | own (T:TypeId) (ks:List Kd) | fn (f:Nat) | nil
def PkT:Pk->Type
 | .int _=>Int
 | .bool=>Bool
 | .str=>List UInt8
 | .lst ks=>List (Tp ks)
 | .agg ks=>Tp ks
 | .err=>Bool
 | .own _ ks=>List (Tp ks)
 | .fn _=>Unit
 | .nil=>Unit
def PkTs:List Pk->Type
 | []=>Unit
 | p::ps=>PkT p×PkTs ps
def WfPk:(p:Pk)->PkT p->Prop
 | .int k,n=>InR k n
 | .bool,_=>True
 | .str,s=>s.length <= Zo
 | .lst ks,xs=>WfE (.lst ks) xs
 | .agg ks,x=>WfT ks x
 | .err,_=>True
 | .own _ ks,xs=>WfE (.lst ks) xs
 | .fn _,_=>True
 | .nil,_=>True
def WfPs:(ps:List Pk)->PkTs ps->Prop
 | [],_=>True
 | p::ps,x=>WfPk p x.1∧WfPs ps x.2
def pkA (N:Nat):(p:Pk)->PkT p->AV
 | .int k,n=> .int k n
 | .bool,b=> .bool b
 | .str,s=> .str s
 | .lst ks,xs=> .lst ks xs
 | .agg ks,x=> .agg (lvT ks x)
 | .err,b=> .err b
 | .own _ _,_=> .row N
 | .fn f,_=> .fn f []
 | .nil,_=> .nils
def Zbq:Pk->Bool
 | .own _ _=>true
 | _=>false
def pksA (N:Nat):(ps:List Pk)->PkTs ps->List AV
 | [],_=>[]
 | p::ps,x=>pkA N p x.1::pksA (match Zbq p with | true=>N+1 | false=>N) ps x.2
def pksR:(ps:List Pk)->PkTs ps->List AObj
 | [],_=>[]
 | .own T ks::ps,x=> .row T false ks x.1::pksR ps x.2
 | .int _::ps,x=>pksR ps x.2
 | .bool::ps,x=>pksR ps x.2
 | .str::ps,x=>pksR ps x.2
 | .lst _::ps,x=>pksR ps x.2
 | .agg _::ps,x=>pksR ps x.2
 | .err::ps,x=>pksR ps x.2
 | .fn _::ps,x=>pksR ps x.2
 | .nil::ps,x=>pksR ps x.2
def Zbd (g:Gh) (σ:List AObj):Nat->Prop:=fun b=>∃(i:Nat) (o:AObj),σ[i]? =some o∧Has g i o∧b=g.B i
theorem Sim.layH {E:En} {st:St} {ρ:Env} {H:Heap} {g:Gh} (s:Sim E st ρ H g):(∀b,Laid.blocks b=true->H b=E.H0 b)∧Sh.layH H=Sh.layH E.H0:=by
 have h: ∀b,Laid.blocks b=true->H b=E.H0 b:=fun b hb=>s.keep.same b (s.lay.own b hb) (s.lay.live b hb);refine ⟨h,funext fun b=>?_⟩;unfold Sh.layH;split;exact h b (by assumption)
 rfl
theorem Sim.layE {E:En} {st:St} {ρ:Env} {H:Heap} {g:Gh} (s:Sim E st ρ H g) {Z:Nat->Prop}:LayE ⟨H,Zbd g st.σ,Z⟩ where
 own:=fun b hb ⟨i,o,h1,h2,h3⟩=>by subst h3;rcases s.own i o h1 h2 with h | h;exact s.lay.own _ hb h;exact s.lay.live _ hb h
 live:=fun b hb=>by show H b≠none;rw [s.layH.1 b hb];exact s.lay.live b hb
 ok:=by show Laid.ok (Sh.layH H);rw [s.layH.2];exact s.lay.ok
theorem Sim.enter {E:En} {st:St} {ρ:Env} {H:Heap} {g:Gh} (s:Sim E st ρ H g):Sim ⟨H,Zbd g st.σ,g.Z⟩ st ρ H g:=
 { s with own:=fun i o h hh=> .inl ⟨i,o,h,hh,rfl⟩,keep:=Keep.refl _ _,zsub:=fun _ h=>h,znew:=fun _ h=> .inl h,lay:=s.layE,zc:=fun _ h=> .inl h }
theorem Zht: ∀(ps:List Pk) (x:PkTs ps) (N:Nat),(pksA N ps x).length=ps.length
 | [],_,_=>rfl
 | p::ps,x,N=>by simp [pksA,Zht ps]
theorem Sim.other {E:En} {st:St} {ρ:Env} {H H':Heap} {g:Gh} (s:Sim E st ρ H g) (hz: ∀b,g.Z b->H' b=H b) (ho: ∀(i:Nat) (o:AObj),st.σ[i]? =some o->Has g i o->H' (g.B i)=H (g.B i)) (hk:Keep E.O0 E.H0 H'):
  Sim E st ρ H' g∧Rel st H g st H' g:=by
 have hext:Ext st.σ.length g H g H':=⟨fun b hb=>⟨hb,hz b hb⟩,fun _ _=>rfl,fun _ _=>rfl⟩
 exact ⟨⟨fun t=>SimV.ext (Nat.le_refl _) hext _ _ (s.tmp t),fun i o hi=>SimO.ext (Nat.le_refl _) hext (Zbr hi) (ho i o hi) (s.obj i o hi),s.nz,s.dis,s.own,hk,s.zsub,s.znew,fun b hb=>by rw [hz b hb];exact s.zlive b hb,s.lay,Zpd s.zc hz⟩,⟨Nat.le_refl _,hext,fun i o hi _=>⟨hi,ho i o hi⟩⟩⟩
theorem Sim.rebase {E:En} {st:St} {ρ:Env} {H:Heap} {g:Gh} (s:Sim E st ρ H g) {W:Nat->Prop} (hW: ∀(i:Nat) (o:AObj),st.σ[i]? =some o->Has g i o->W (g.B i)) (hl: ∀b,Laid.blocks b=true->¬W b):Sim ⟨H,W,g.Z⟩ st ρ H g:=
 { s with own:=fun i o h hh=> .inl (hW i o h hh),keep:=Keep.refl _ _,zsub:=fun _ h=>h,znew:=fun _ h=> .inl h,zc:=fun _ h=> .inl h,lay:=⟨hl,fun b hb=>by show H b≠none;rw [s.layH.1 b hb];exact s.lay.live b hb,by show Laid.ok (Sh.layH H);rw [s.layH.2];exact s.lay.ok⟩ }
theorem Sim.unbase {E:En} {st st':St} {ρ ρ':Env} {H H':Heap} {g g':Gh} {W:Nat->Prop} (s:Sim E st ρ H g) (s':Sim ⟨H,W,g.Z⟩ st' ρ' H' g') (hW: ∀b,W b->E.O0 b∨E.H0 b=none) (hz: ∀b,g.Z b->H' b=H b):Sim E st' ρ' H' g':=
 { s' with
  own:=fun i o h hh=>by rcases s'.own i o h hh with h | h;exact hW _ h;exact .inr (s.keep.free h)
  keep:=⟨fun b hb h0=>by
   have h1:=s.keep.same b hb h0;rw [← h1];refine s'.keep.same b (fun hw=>?_) (by rw [h1];exact h0)
   rcases hW b hw with h | h;exact hb h
   ·exact h0 h,fun b h0=>s'.keep.live b (s.keep.live b h0)⟩
  zsub:=fun b hb=>s'.zsub b (s.zsub b hb)
  znew:=fun b hb=>by rcases s'.znew b hb with h | h | h;exact s.znew b h;exact .inr (.inl (s.keep.free h));rcases hW b h with h | h;exact .inr (.inr h);exact .inr (.inl h)
  lay:=s.lay
  zc:=fun b hb=>by
   rcases s'.zc b hb with h | h;have h':g.Z b:=h;rcases s.zc b h' with h | h;exact .inl h;exact .inr (by rw [hz b h'];exact h)
   ·exact .inr h }
def Znt:List Nat->List AObj->List AObj
 | [],σ=>σ
 | i::ids,σ=>Znt ids (σ.set i .gone)
theorem Zbky: ∀(ids:List Nat) (σ:List AObj) (i:Nat) (o:AObj),(Znt ids σ)[i]? =some o->o= .gone∨(i∉ids∧σ[i]? =some o)
 | [],_,_,_,h=> .inr ⟨by simp,h⟩
 | k::ids,σ,i,o,h=>by simp only [Znt] at h;rcases Zbky ids _ i o h with h | ⟨h1,h2⟩;exact .inl h;rw [List.getElem?_set] at h2;split at h2;split at h2;cases h2;exact .inl rfl;cases h2;rename_i hne;exact .inr ⟨by simp only [List.mem_cons,not_or];exact ⟨fun e=>hne e.symm,h1⟩,h2⟩
theorem Sim.dropAll {E:En} {ρ:Env} {H:Heap} {g:Gh} {α:Nat->AV}: ∀(ids:List Nat) (σ:List AObj),ids.Nodup->(∀id∈ids,∃o,σ[id]? =some o∧isRo o=false)->Sim E ⟨α,σ⟩ ρ H g->Sim E ⟨α,Znt ids σ⟩ ρ H g∧Rel ⟨α,σ⟩ H g ⟨α,Znt ids σ⟩ H g
 | [],σ,_,_,s=>⟨s,.refl _ _ _⟩
 | i::ids,σ,hn,h,s=>by
  obtain ⟨o,h1,h2⟩:=h i List.mem_cons_self;obtain ⟨hni,hn⟩:=List.nodup_cons.1 hn;obtain ⟨s1,r1⟩:=s.drop (id:=i) h1 h2;obtain ⟨s2,r2⟩:=Sim.dropAll ids (σ.set i .gone) hn (fun id hid=>by
   obtain ⟨o',h3,h4⟩:=h id (List.mem_cons_of_mem _ hid);exact ⟨o',by rw [List.getElem?_set,if_neg (fun e=>hni (by rw [e];exact hid))];exact h3,h4⟩) s1
  exact ⟨s2,r1.trans r2⟩
def Zbwk (Z:Nat->Prop) (H:Heap) (ps:List Pk) (x:PkTs ps) (vs:List Value):Prop:=SimL ⟨Z,fun _=>0,fun _=> .nilFunc⟩ H 0 (pksA 0 ps x) vs
structure Cons (P:Program) (l:Nat) (ps:List Pk) (Hs:Heap) (bs:List Nat) where
 J:(Nat->Prop)->(Nat->Prop)->List (PkTs ps)->Heap->Prop
 X:(Nat->Prop)->(Nat->Prop)->Heap->Prop
 stJ: ∀{Z W:Nat->Prop} {r:List (PkTs ps)} {H H':Heap},J Z W r H->(∀b,H b≠none->Z b∨W b∨(Hs b≠none∧b∉bs)->H' b=H b)->(∀b,H b≠none->H' b≠none)->J Z W r H'
 stX: ∀{Z W:Nat->Prop} {H H':Heap},X Z W H->(∀b,H b≠none->Z b∨W b∨(Hs b≠none∧b∉bs)->H' b=H b)->(∀b,H b≠none->H' b≠none)->X Z W H'
 ndJ: ∀{Z W:Nat->Prop} {r:List (PkTs ps)} {H:Heap},J Z W r H->∀b,Z b∨W b->Hs b≠none∨∀ds,H b≠some (.deferred ds)
 ndX: ∀{Z W:Nat->Prop} {H:Heap},X Z W H->∀b,Z b∨W b->Hs b≠none∨∀ds,H b≠some (.deferred ds)
 round: ∀{Z W Zx:Nat->Prop} {x:PkTs ps} {r:List (PkTs ps)} {H:Heap} {vs:List Value},J Z W (x::r) H->Zbwk Zx H ps x vs->
  (∀b,Zx b->Z b∨(¬W b∧(∃cs T q,H b=some (.cells cs T q))∧(b∈bs∨Hs b=none)))->
  Zms P l vs H fun v H'=>(∀b,H b≠none->¬W b->H' b=H b)∧(∀b,H b≠none->H' b≠none)∧∃Z' W':Nat->Prop,(∀b,Z b∨Zx b->Z' b∧H' b=H b)∧(∀b,W' b->W b∨H b=none)∧
   (∀b,Z' b->Z b∨Zx b∨W b∨H b=none)∧(∀b,Z' b∨W' b->H' b≠none)∧(∀b,W' b->¬Z' b)∧((v= .bool true∧J Z' W' r H')∨(v= .bool false∧X Z' W' H'))
structure It where
 ps:List Pk
 kc:List PK
 xs:PTup kc->List (PkTs ps)
 pre:PTup kc->Prop
def Zlf (b:Nat):Value:= .pointer (some ⟨b,0,none⟩)
def ItOk (P:Program) (f:FuncId) (I:It):Prop:=
 ∀(Hs:Heap) (Z W:Nat->Prop) (bs:List Nat) (us:List Value) (c:PTup I.kc) (l:Nat) (C:Cons P l I.ps Hs bs),I.pre c->bs.Nodup->bs.length=us.length->
  (∀(i b:Nat) (v:Value),bs[i]? =some b->us[i]? =some v->∃T,Hs b=some (.cells ⟨[v]⟩ T (0,0)))->SimL ⟨Z,fun _=>0,fun _=> .nilFunc⟩ Hs 0 (avsY 0 I.kc c) us->WfY I.kc c->
  (∀b,Z b->Hs b≠none)->(∀b∈bs,¬Z b∧¬W b)->(∀b,W b->Hs b≠none∧¬Z b)->(∀b,Laid.blocks b=true->Hs b≠none∧b∉bs∧¬W b)->Laid.ok (layH Hs)->C.J Z W (I.xs c) Hs->
  FnW P f ⟨.func (.yield l) #[] #[]::bs.map Zlf⟩ Hs fun _ H'=>∃Z' W',C.J Z' W' [] H'∨C.X Z' W' H'
structure Tab where
 cts:List (Nat×Ct)
 its:List (Nat×It)
def itOf (f:Nat):List (Nat×It)->Option It
 | []=>none
 | (k,c)::l=>match Nat.beq f k with
  | true=>some c
  | false=>itOf f l
def Zpx (P:Program):List (Nat×It)->Prop
 | []=>True
 | (f,c)::l=>ItOk P f c∧Zpx P l
theorem Zpx.get {P:Program} {f:Nat} {c:It}: ∀{l:List (Nat×It)},Zpx P l->itOf f l=some c->ItOk P f c
 | [],_,h=>by simp only [itOf] at h;cases h
 | (k,c')::l,hl,h=>by simp only [itOf] at h;split at h;rename_i hb;cases h;rw [Nat.eq_of_beq_eq_true hb];exact hl.1;exact Zpx.get hl.2 h
def Zqd (P:Program) (t:Tab):Prop:=Zjq P t.cts∧Zpx P t.its
def Zqi:List AV->Option (List Nat)
 | []=>some []
 | .ptr id 0::l=>match Zqi l with
  | some r=>some (id::r)
  | none=>none
 | _=>none
def Zgd (σ:List AObj):List Nat->Option (List AV)
 | []=>some []
 | id::ids=>match σ[id]? with
  | some (.obj _ false [a])=>match Zgd σ ids with
   | some r=>some (a::r)
   | none=>none
  | _=>none
def itIn (kc:List PK) (st:St) (caps:List AV):Option (PTup kc×List AObj):=match Zqi caps with
 | some ids=>match Zct ids,Zgd st.σ ids with
  | true,some as=>match frzY st.σ kc as with
   | some σ1=>match Zio σ1 kc as with
    | some (c,[])=>some (c,Znt ids σ1)
    | _=>none
   | none=>none
  | _,_=>none
 | none=>none
theorem Zbis {g:Gh} {H:Heap} {N:Nat}: ∀{caps:List AV} {vs:List Value} {ids:List Nat},Zqi caps=some ids->SimL g H N caps vs->vs=ids.map (fun i=>Zlf (g.B i))
 | [],[],ids,h,_=>by simp only [Zqi,Option.some.injEq] at h;subst h;rfl
 | [],_::_,_,_,h=>by simp only [SimL] at h
 | _::_,[],_,_,h=>by simp only [SimL] at h
 | a::caps,v::vs,ids,h,hs=>by unfold Zqi at h;split at h;rename_i heq;cases heq;rename_i id l heq;cases heq;split at h;rename_i r hr;cases h;simp only [SimL] at hs;obtain ⟨h1,h2⟩:=hs;simp only [SimV] at h1;rw [Zbis hr h2,h1.2];rfl;cases h;cases h
theorem Zbiq {σ:List AObj}: ∀{ids:List Nat} {as:List AV},Zgd σ ids=some as->as.length=ids.length∧∀(i id:Nat) (a:AV),ids[i]? =some id->as[i]? =some a->∃T,σ[id]? =some (.obj T false [a])
 | [],as,h=>by simp only [Zgd,Option.some.injEq] at h;subst h;exact ⟨rfl,fun i id a h=>by simp at h⟩
 | id::ids,as,h=>by
  simp only [Zgd] at h;split at h
  ·rename_i T a hi;split at h
   ·rename_i r hr;cases h;obtain ⟨h1,h2⟩:=Zbiq hr;refine ⟨by simp [h1],fun i id' a' hi' ha'=>?_⟩
    cases i with
    | zero=>simp at hi' ha';subst hi' ha';exact ⟨T,hi⟩
    | succ i=>exact h2 i id' a' (by simpa using hi') (by simpa using ha')
   cases h
  cases h
theorem Zbir {g:Gh} {H:Heap} {N:Nat} {σ:List AObj} (ho: ∀id o,σ[id]? =some o->SimO g H N id o): ∀{ids:List Nat} {as:List AV},Zgd σ ids=some as->∃us,us.length=ids.length∧SimL g H N as us∧∀(i id:Nat) (v:Value),ids[i]? =some id->us[i]? =some v->∃T,H (g.B id)=some (.cells ⟨[v]⟩ T (0,0))
 | [],as,h=>by simp only [Zgd,Option.some.injEq] at h;subst h;exact ⟨[],rfl,by simp only [SimL],fun i id v h=>by simp at h⟩
 | id::ids,as,h=>by
  simp only [Zgd] at h;split at h
  ·rename_i T a hi;split at h
   ·rename_i r hr;cases h;obtain ⟨us,h1,h2,h3⟩:=Zbir ho hr;obtain ⟨vs,h4,h5⟩:=ho id _ hi;cases vs with
    | nil=>simp only [SimL] at h5
    | cons u vs=>
     cases vs with
     | cons=>simp only [SimL] at h5;exact h5.2.elim
     | nil=>
      simp only [SimL] at h5;refine ⟨u::us,by simp [h1],by simp only [SimL];exact ⟨h5.1,h2⟩,fun i id' v hi' hv=>?_⟩
      cases i with
      | zero=>simp at hi' hv;subst hi' hv;exact ⟨T,h4⟩
      | succ i=>exact h3 i id' v (by simpa using hi') (by simpa using hv)
   cases h
  cases h
theorem Zbzg {σ σ':List AObj} {a:AV} (h:frzO σ a=some σ') {id:Nat} {T:TypeId} {r:Bool} {cs:List AV} (ho:σ[id]? =some (.obj T r cs)):σ'[id]? =some (.obj T r cs):=by unfold frzO at h;split at h;rename_i k;split at h;rename_i T' ks xs hk;cases h;rw [List.getElem?_set];by_cases e:k=id;subst e;rw [hk] at ho;cases ho;rw [if_neg e];exact ho;cases h;exact ho;cases h;cases h;exact ho
theorem Zlp: ∀(ks:List PK) (as:List AV) (σ σ':List AObj),frzY σ ks as=some σ'->∀{id:Nat} {T:TypeId} {r:Bool} {cs:List AV},σ[id]? =some (.obj T r cs)->σ'[id]? =some (.obj T r cs)
 | [],[],σ,σ',h,_,_,_,_,ho=>by simp only [frzY,Option.some.injEq] at h;subst h;exact ho
 | [],_::_,_,_,h,_,_,_,_,_=>by simp only [frzY] at h;cases h
 | k::ks,[],_,_,h,_,_,_,_,_=>by cases k<;>simp only [frzY] at h<;>cases h
 | .lst _::ks,a::as,σ,σ',h,_,_,_,_,ho=>by
  simp only [frzY] at h;split at h;rename_i σ1 hf;exact Zlp ks as σ1 σ' h (Zbzg hf ho)
  ·cases h
 | .int _::ks,a::as,σ,σ',h,_,_,_,_,ho=>by simp only [frzY] at h;exact Zlp ks as σ σ' h ho
 | .bool::ks,a::as,σ,σ',h,_,_,_,_,ho=>by simp only [frzY] at h;exact Zlp ks as σ σ' h ho
 | .str::ks,a::as,σ,σ',h,_,_,_,_,ho=>by simp only [frzY] at h;exact Zlp ks as σ σ' h ho
 | .row _ _::ks,a::as,σ,σ',h,_,_,_,_,ho=>by simp only [frzY] at h;exact Zlp ks as σ σ' h ho
 | .arr _ _::ks,a::as,σ,σ',h,_,_,_,_,ho=>by simp only [frzY] at h;exact Zlp ks as σ σ' h ho
theorem Zbre: ∀{l:List Nat},Zct l=true->l.Nodup
 | [],_=>by simp
 | e::l,h=>by simp only [Zct,Bool.and_eq_true,Bool.not_eq_true'] at h;refine List.nodup_cons.2 ⟨fun hc=>?_,Zbre h.2⟩;rw [Zbu.2 hc] at h;cases h.1
theorem Zcag {E:En} {st:St} {ρ:Env} {H:Heap} {g:Gh} (s:Sim E st ρ H g) {kc:List PK} {caps:List AV} {vs:List Value} (hc:SimL g H st.σ.length caps vs) {c:PTup kc} {σ':List AObj} (h:itIn kc st caps=some (c,σ')):
  ∃(g':Gh) (bs:List Nat) (us:List Value),Sim E ⟨st.α,σ'⟩ ρ H g'∧Rel st H g ⟨st.α,σ'⟩ H g'∧vs=bs.map Zlf∧bs.Nodup∧bs.length=us.length∧WfY kc c∧
   (∀(i b:Nat) (v:Value),bs[i]? =some b->us[i]? =some v->∃T,H b=some (.cells ⟨[v]⟩ T (0,0)))∧SimL ⟨g'.Z,fun _=>0,fun _=> .nilFunc⟩ H 0 (avsY 0 kc c) us∧
   ∀b∈bs,H b≠none∧¬g'.Z b∧(E.O0 b∨E.H0 b=none)∧Laid.blocks b=false∧∀(i:Nat) (o:AObj),σ'[i]? =some o->Has g' i o->g'.B i≠b:=by
 unfold itIn at h;split at h
 case h_2=>cases h
 rename_i ids hids;split at h
 case h_2=>cases h
 rename_i as hun has;split at h
 case h_2=>cases h
 rename_i σ1 hfr;split at h
 case h_2=>cases h
 rename_i c' hread;simp only [Option.some.injEq,Prod.mk.injEq] at h;obtain ⟨rfl,rfl⟩:=h;have hnd:=Zbre hun;obtain ⟨g1,s1,r1,l1,f1,_⟩:=Zbcs kc _ st.σ σ1 g s hfr;have hext:=r1.ext;have has1:Zgd σ1 ids=some as:=by
  have: ∀(ids:List Nat) (as:List AV),Zgd st.σ ids=some as->Zgd σ1 ids=some as:=by
   intro ids;induction ids with
   | nil=>intro as h;simpa only [Zgd] using h
   | cons i ids ih=>
    intro as h;simp only [Zgd] at h ⊢;split at h;rename_i T a hi;rw [Zlp _ _ _ _ hfr hi];split at h;rename_i r hr;simp only [ih r hr];exact h;cases h;cases h
  exact this ids as has
 obtain ⟨hal,hobj⟩:=Zbiq has1;obtain ⟨us,hul,hus,hval⟩:=Zbir (g:=g1) (H:=H) (N:=σ1.length) (fun id o ho=>s1.obj id o ho) has1;obtain ⟨hw,_,_,hsim⟩:=Zbeu s1 hread hus f1;have hin: ∀id∈ids,∃T a,σ1[id]? =some (.obj T false [a]):=fun id hid=>by
  obtain ⟨i,hi⟩:=List.getElem?_of_mem hid;have hlt:i<as.length:=by rw [hal];rcases Nat.lt_or_ge i ids.length with h | h;exact h;rw [List.getElem?_eq_none h] at hi;cases hi
  obtain ⟨T,hT⟩:=hobj i id _ hi (List.getElem?_eq_getElem hlt);exact ⟨T,_,hT⟩
 obtain ⟨s2,r2⟩:=Sim.dropAll (α:=st.α) ids σ1 hnd (fun id hid=>by obtain ⟨T,a,h⟩:=hin id hid;exact ⟨_,h,rfl⟩) s1
 have hB: ∀id∈ids,g1.B id=g.B id:=fun id hid=>by obtain ⟨T,a,h⟩:=hin id hid;have:=Zbr h;exact hext.b id (by show id<st.σ.length;omega)
 refine ⟨g1,ids.map g1.B,us,s2,r1.trans r2,?_,?_,by simp [hul],hw,?_,?_,?_⟩
 rw [Zbis hids hc,List.map_map];refine List.map_congr_left fun id hid=>?_;show Zlf (g.B id)=Zlf (g1.B id);rw [hB id hid]
 ·have hinj: ∀i∈ids,∀j∈ids,i≠j->g1.B i≠g1.B j:=fun i hi j hj hij=>by obtain ⟨T,a,h⟩:=hin i hi;obtain ⟨T',a',h'⟩:=hin j hj;exact s1.dis i j _ _ hij h h' trivial trivial
  have: ∀l:List Nat,l.Nodup->(∀i∈l,i∈ids)->(l.map g1.B).Nodup:=by
   intro l;induction l with
   | nil=>intro _ _;simp
   | cons i l ih=>
    intro hn hm;obtain ⟨h1,h2⟩:=List.nodup_cons.1 hn;simp only [List.map_cons,List.nodup_cons,List.mem_map,not_exists,not_and];exact ⟨fun j hj e=>hinj j (hm j (List.mem_cons_of_mem _ hj)) i (hm i List.mem_cons_self) (fun e'=>h1 (e'▸hj)) e,ih h2 fun j hj=>hm j (List.mem_cons_of_mem _ hj)⟩
  exact this ids hnd fun _ h=>h
 intro i b v hi hv;rw [List.getElem?_map,Option.map_eq_some_iff] at hi;obtain ⟨id,h1,rfl⟩:=hi;exact hval i id v h1 hv;exact hsim ⟨g1.Z,fun _=>0,fun _=> .nilFunc⟩ 0 0 ⟨fun j id h=>by simp at h,fun j h=>by simp at h⟩ (by simp) rfl
 ·intro b hb;obtain ⟨id,hid,rfl⟩:=List.mem_map.1 hb;obtain ⟨T,a,h⟩:=hin id hid;refine ⟨?_,s1.nz id _ h trivial,s1.own id _ h trivial,?_,fun i o hi hh e=>?_⟩;obtain ⟨c,T',hl⟩:=s1.live h trivial;rw [hl];simp
  ·cases hbl:Laid.blocks (g1.B id) with
   | false=>rfl
   | true=>
    rcases s1.own id _ h trivial with h1 | h1;exact absurd h1 (s1.lay.own _ hbl);exact absurd h1 (s1.lay.live _ hbl)
  rcases Zbky ids σ1 i o hi with rfl | ⟨h1,h2⟩;exact hh;exact s1.dis i id o _ (fun e'=>h1 (e'▸hid)) h2 h hh trivial e
end Go.Sh
end
section
namespace Go.Sh
variable [Laid]
structure PLoop where
 slots:List (Tmp×PK)
 fixed:List Tmp
 vary:List (Tmp×List PK)
structure PPlan where
 regs:List (Nat×List Nat×List Tmp)
 loops:List (Nat×PLoop)
 own:List Tmp:=[]
 nomark:List (Nat×List Tmp):=[]
 unr:List (Nat×Nat):=[]
 trees:List (Nat×Tree):=[]
def Zbno (id:Nat):List (Nat×List Tmp)->List Tmp
 | []=>[]
 | (k,r)::l=>match Nat.beq id k with | true=>r | false=>Zbno id l
def varK:List (Tmp×List PK)->List PK
 | []=>[]
 | v::l=>v.2++varK l
def PLoop.tmps (L:PLoop):List Tmp:=L.slots.map (·.1)
def PLoop.kinds (L:PLoop):List PK:=L.slots.map (·.2)++varK L.vary
def PPlan.plan (p:PPlan):Plan:=⟨p.regs,p.loops.map fun l=>(l.1,l.2.tmps,l.2.tmps.map (fun _=>Kind.any),l.2.fixed),p.unr,p.trees⟩
def Zsc (id:Nat):List (Nat×PLoop)->Option PLoop
 | []=>none
 | (k,r)::l=>match Nat.beq id k with | true=>some r | false=>Zsc id l
theorem Zbmr (id:Nat): ∀l:List (Nat×PLoop),Zgh id (l.map fun l=>(l.1,l.2.tmps,l.2.tmps.map (fun _=>Kind.any),l.2.fixed))=(Zsc id l).map fun L=>(L.tmps,L.tmps.map (fun _=>Kind.any),L.fixed)
 | []=>rfl
 | (k,r)::l=>by
  simp only [List.map_cons,Zgh,Zsc];cases Nat.beq id k with
  | true=>rfl
  | false=>exact Zbmr id l
abbrev Zt:=Exit->St->Prop
def Zfu (K:St->Prop) (Q:Zt):Zt:=fun e st=>match e with
 | .normal=>K st
 | e=>Q e st
def Zbok (id:Nat) (Q:Zt):Zt:=fun e st=>match e with
 | .exit i=>match Nat.beq i id with | true=>Q .normal st | false=>Q (.exit i) st
 | e=>Q e st
def Zdb (T:Type) (x0:T) (body:T->(T->Prop)->Prop):Prop:=
 ∃(I:Nat->T->Prop) (k:Nat),I k x0∧∀k x,I k x->body x fun x'=>∃k',k'<k∧I k' x'
def Zij (idv:List Nat) (gone:List Nat):Nat->List AObj->List AObj
 | _,[]=>[]
 | i,o::os=>(match memB i gone with
  | true=> .gone
  | false=>match memB i idv with
   | true=>o
   | false=>Zdd true o)::Zij idv gone (i+1) os
def Zr:List (Option Nat)->List Nat
 | []=>[]
 | some i::l=>i::Zr l
 | none::l=>Zr l
def idV1 (σ:List AObj):AV->Option Nat
 | .ptr id 0=>match σ[id]? with
  | some (.obj _ _ [.ptr id' 0])=>some id'
  | _=>some id
 | _=>none
def idV (σ:List AObj) (α:Nat->AV):List (Tmp×List PK)->Option (List Nat)
 | []=>some []
 | (t,_)::l=>match idV1 σ (α t),idV σ α l with
  | some id,some r=>some (id::r)
  | _,_=>none
def Zdc (σ:List AObj):List (Tmp×List PK)->List Nat->Option (List AV)
 | [],[]=>some []
 | (_,ks)::l,id::ids=>match σ[id]? with
  | some (.obj _ false cs)=>match Nat.beq cs.length ks.length,Zdc σ l ids with
   | true,some r=>some (cs++r)
   | _,_=>none
  | _=>none
 | _,_=>none
def lpIn (L:PLoop) (st:St):Option (PTup L.kinds×List AObj×List Nat):=
 match idV st.σ st.α L.vary with
 | some idv=>match Zct idv,Zdc st.σ L.vary idv with
  | true,some cs=>match frzY st.σ L.kinds (L.tmps.map st.α++cs) with
   | some σ1=>match Zio σ1 L.kinds (L.tmps.map st.α++cs) with
    | some (y,src)=>match Zct (Zr src) with
     | true=>some (y,Zij idv (Zr src) 0 σ1,idv)
     | false=>none
    | none=>none
   | none=>none
  | _,_=>none
 | none=>none
def Zww (base σ:List AObj):List Nat->Bool
 | []=>true
 | id::ids=>match base[id]?,σ[id]? with
  | some (.obj T _ _),some (.obj T' _ _)=>Nat.beq T T'&&Zww base σ ids
  | _,_=>false
def Zrs (L:PLoop) (base:List AObj) (idv:List Nat) (st:St):Option (PTup L.kinds):=
 match Zww base st.σ idv,Zdc st.σ L.vary idv with
 | true,some cs=>match frzY st.σ L.kinds (L.tmps.map st.α++cs) with
  | some σ1=>match Zio σ1 L.kinds (L.tmps.map st.α++cs) with
   | some (y,src)=>match Zct (Zr src) with
    | true=>some y
    | false=>none
   | none=>none
  | none=>none
 | _,_=>none
def Zmu:List Tmp->List AV->(Nat->AV)->(Nat->AV)
 | t::ts,a::as,g=>putA (Zmu ts as g) (some t) a
 | _,_,g=>g
def Znx:List Tmp->(Nat->AV)->(Nat->AV)
 | [],_=>fun _=> .undef
 | t::ts,α=>putA (Znx ts α) (some t) (α t)
def setV:List (Tmp×List PK)->List Nat->List AV->List AObj->List AObj
 | (_,ks)::l,id::ids,cs,base=>match base[id]? with
  | some (.obj T _ _)=>setV l ids (cs.drop ks.length) (base.set id (.obj T false (cs.take ks.length)))
  | _=>base
 | _,_,_,base=>base
def PLoop.head (L:PLoop) (α:Nat->AV) (base:List AObj) (idv:List Nat) (y:PTup L.kinds):St:=
 ⟨Zmu L.tmps (avsY base.length L.kinds y) (Znx L.fixed α),setV L.vary idv ((avsY base.length L.kinds y).drop L.tmps.length) base++Zcj L.kinds y⟩
def PLoop.fine (L:PLoop):Bool:=Zct L.tmps&&L.fixed.all fun f=>!(memB f L.tmps)
def Zmc (n:Exit->Bool) (K:St->Prop) (Q:Zt):Zt:=fun e st=>match n e with
 | true=>K st
 | false=>Q e st
def Zfk (F:Nat->St->Zt->Prop) (L:Nat->Bool):Nat->Zt->Zt
 | 0,Q=>fun e st=>match e with
  | .goto l=>(match L l with
   | true=>False
   | false=>Q (.goto l) st)
  | e=>Q e st
 | n+1,Q=>fun e st=>match e with
  | .goto l=>(match L l with
   | true=>F l st (Zfk F L n Q)
   | false=>Q (.goto l) st)
  | e=>Q e st
def Zmn (plan:PPlan) (key:Nat) (B:St->Zt->Prop) (nx:Exit->Bool) (st:St) (Q:Zt):Prop:=match Zsc key plan.loops with
 | some L=>match L.fine,lpIn L st with
  | true,some (y0,base,idv)=>Zdb (PTup L.kinds) y0 fun y next=>WfY L.kinds y->B (L.head st.α base idv y)
    (Zmc nx (fun st'=>match Zrs L base idv st' with | some y'=>next y' | none=>False) fun e st'=>Q e ⟨st'.α,unmark st.σ st'.σ⟩)
  | _,_=>False
 | none=>False
def Zbeo (B:St->Zt->Prop):Nat->St->Zt->Prop
 | 0,_,_=>False
 | n+1,st,Q=>B st (Zmc Zgu (fun st'=>Zbeo B n st' Q) Q)
def Zzp {T X:Type} (fin:T->Prop) (body:T->X->(T->Prop)->Prop):List X->T->Prop
 | [],y=>fin y
 | x::r,y=>body y x fun y'=>Zzp fin body r y'
def Zhh:List Tmp->List AV->(Nat->AV)->(Nat->AV)
 | t::ts,a::as,α=>Zhh ts as (putA α (some t) a)
 | _,_,α=>α
theorem Zbil {E:En} {H:Heap} {g:Gh} {σ:List AObj}: ∀(ts:List Tmp) (as:List AV) (vs:List Value) {α:Nat->AV} {ρ:Env},Sim E ⟨α,σ⟩ ρ H g->SimL g H σ.length as vs->Sim E ⟨Zhh ts as α,σ⟩ (Zhi ts vs ρ) H g
 | [],_,_,α,ρ,s,_=>by simpa only [Zhh,Zhi] using s
 | _::_,[],[],α,ρ,s,_=>by simpa only [Zhh,Zhi] using s
 | _::_,[],_::_,_,_,_,h=>by simp only [SimL] at h
 | _::_,_::_,[],_,_,_,h=>by simp only [SimL] at h
 | t::ts,a::as,v::vs,α,ρ,s,h=>by simp only [SimL] at h;simp only [Zhh,Zhi];exact Zbil ts as vs (s.put (some t) h.1) h.2
def Zmb (Q:Zt) (mk:St->St):Zt:=fun e st=>match e with
 | .ret=>Q .ret (mk st)
 | .exit i=>Q (.exit i) (mk st)
 | .goto t=>Q (.goto t) (mk st)
 | _=>False
def Zcfg (assign:Code):Nat:=4000000+Zeg assign
def Zbnm (L:PLoop):Bool:=match L.slots with
 | []=>true
 | _=>false
def argK:Pk->Bool
 | .int _=>true
 | .bool=>true
 | .str=>true
 | .lst _=>true
 | .agg _=>true
 | _=>false
def Zzs (plan:PPlan) (key:Nat) (A B:St->Zt->Prop) (ps:List Tmp) (I:It) (xs:List (PkTs I.ps)) (st:St) (Q:Zt):Prop:=match Zsc key plan.loops with
 | some L=>match Zbnm L&&I.ps.all argK&&Nat.beq ps.length I.ps.length,lpIn L st with
  | true,some (y0,base,idv)=>Zzp (fun y=>WfY L.kinds y->Q .normal ⟨(L.head st.α base idv y).α,unmark st.σ (L.head st.α base idv y).σ⟩)
    (fun y x next=>WfY L.kinds y->WfPs I.ps x->A ⟨Zhh ps (pksA 0 I.ps x) (L.head st.α base idv y).α,(L.head st.α base idv y).σ⟩ (Zfu (fun st1=>B st1
      (Zfu (fun st2=>match Zrs L base idv st2 with | some y'=>next y' | none=>False) (Zmb Q fun st2=>⟨(L.head st.α base idv y).α,unmark st.σ st2.σ⟩)))
     fun _ _=>False)) xs y0
  | _,_=>False
 | none=>False
mutual
def Zby (P:Program) (tab:Tab) (plan:PPlan):Code->St->Zt->Prop
 | .skip,st,Q=>Q .normal st
 | .label _,st,Q=>Q .normal st
 | .region id ops draw,st,Q=>PReg P tab.cts plan.own (Zbno id plan.nomark) plan.regs plan.trees id ops draw st fun st'=>Q .normal st'
 | .seq a b,st,Q=>Zby P tab plan a st (Zfu (fun st'=>Zby P tab plan b st' Q) Q)
 | .cond c x y,st,Q=>match evA st.α c with
  | .bool t=>IfB t (Zby P tab plan x st Q) (Zby P tab plan y st Q)
  | _=>False
 | .block id c,st,Q=>Zby P tab plan c st (Zbok id Q)
 | .loop c,st,Q=>match Zgy (Zeg c) plan.unr with
  | some n=>Zbeo (fun st Q=>Zby P tab plan c st Q) n st Q
  | none=>Zmn plan (Zeg c) (fun st Q=>Zby P tab plan c st Q) Zgu st Q
 | .scope c,st,Q=>match Zlx plan.plan c with
  | none=>Zby P tab plan c st (Zfk (fun l st Q=>PFr P tab plan c l st Q) (Zdn c) (Zbpx plan.plan c) Q)
  | some l=>PBe P tab plan c l st (Zmc Zgu (fun st=>Zmn plan (Zeo l) (fun st Q=>PFr P tab plan c l st (Zfk (fun l st Q=>PFr P tab plan c l st Q) (others c l) (nLbl c) Q)) (Zea l) st Q)
    (Zfk (fun l st Q=>PFr P tab plan c l st Q) (others c l) (nLbl c) (Zmc (Zea l) (fun st=>Zmn plan (Zeo l) (fun st Q=>PFr P tab plan c l st (Zfk (fun l st Q=>PFr P tab plan c l st Q) (others c l) (nLbl c) Q)) (Zea l) st Q) Q)))
 | .exit id,st,Q=>Q (.exit id) st
 | .goto l,st,Q=>Q (.goto l) st
 | .ret,st,Q=>Q .ret st
 | .rangeFunc gf ps assign body,st,Q=>match evA st.α gf with
  | .fn f caps=>match itOf f tab.its with
   | some I=>match itIn I.kc st caps with
    | some (c,σ1)=>I.pre c∧Zzs plan (Zcfg assign) (fun st Q=>Zby P tab plan assign st Q) (fun st Q=>Zby P tab plan body st Q) ps.toList I (I.xs c) ⟨st.α,σ1⟩ Q
    | none=>False
   | none=>False
  | _=>False
 | _,_,_=>False
def PFr (P:Program) (tab:Tab) (plan:PPlan):Code->Nat->St->Zt->Prop
 | .seq a b,l,st,Q=>match Zdn a l with
  | true=>PFr P tab plan a l st (Zfu (fun st'=>Zby P tab plan b st' Q) Q)
  | false=>PFr P tab plan b l st Q
 | .label l',l,st,Q=>match Nat.beq l' l with
  | true=>Q .normal st
  | false=>False
 | _,_,_,_=>False
def PBe (P:Program) (tab:Tab) (plan:PPlan):Code->Nat->St->Zt->Prop
 | .seq a b,l,st,Q=>match Zdn a l with
  | true=>PBe P tab plan a l st Q
  | false=>Zby P tab plan a st (Zfu (fun st'=>PBe P tab plan b l st' Q) Q)
 | .label l',l,st,Q=>match Nat.beq l' l with
  | true=>Q .normal st
  | false=>False
 | _,_,_,_=>False
end
theorem Zbbk: ∀(ts:List Tmp) (vs:List Value),vs.length=ts.length->∃x,dec (ts.map fun _=>Kind.any) vs=some x∧enc (ts.map fun _=>Kind.any) x=vs
 | [],[],_=>⟨(),rfl,rfl⟩
 | [],_::_,h=>by simp at h
 | _::_,[],h=>by simp at h
 | t::ts,v::vs,h=>by
  obtain ⟨x,h1,h2⟩:=Zbbk ts vs (by simpa using h)
  refine ⟨(v,x),?_,?_⟩
  ·have e: ∀(ks:List Kind) (v:Value) (vs:List Value),dec (.any::ks) (v::vs)=match dec ks vs with | some x=>some (v,x) | none=>none:=by intro ks v vs;cases v<;>rfl
   exact (e _ v vs).trans (by rw [h1])
  show v::enc (ts.map fun _=>Kind.any) x=_;rw [h2]
theorem Zbjy: ∀(ts:List Tmp) (x:Tup (ts.map fun _=>Kind.any)),(enc (ts.map fun _=>Kind.any) x).length=ts.length
 | [],_=>rfl
 | t::ts,x=>by show (x.1::enc (ts.map fun _=>Kind.any) x.2).length=_;rw [List.length_cons,Zbjy ts];rfl
theorem Zmh: ∀{l:List Nat},Zct l=true->l.Nodup
 | [],_=>by simp
 | e::l,h=>by simp only [Zct,Bool.and_eq_true,Bool.not_eq_true'] at h;refine List.nodup_cons.2 ⟨fun hc=>?_,Zmh h.2⟩;rw [Zbu.2 hc] at h;cases h.1
theorem Zbaj: ∀(ts:List Tmp) (vs:List Value) (g:Env),ts.Nodup->vs.length=ts.length->ts.map (Zhg ts vs g)=vs
 | [],[],_,_,_=>rfl
 | [],_::_,_,_,h=>by simp at h
 | _::_,[],_,_,h=>by simp at h
 | t::ts,v::vs,g,hn,hl=>by
  obtain ⟨h1,h2⟩:=List.nodup_cons.1 hn;simp only [List.map_cons,Zhg,List.cons.injEq];refine ⟨by simp [put],?_⟩
  rw [← Zbaj ts vs g h2 (by simpa using hl)]
  refine List.map_congr_left fun u hu=>?_;rw [Zbaj ts vs g h2 (by simpa using hl)]
  exact Zmd fun e he heq=>by cases he;subst heq;exact h1 hu
theorem Zbij {g:Gh} {H:Heap} {N:Nat} {γ:Nat->AV} {ρ:Env} (hγ: ∀t,SimV g H N (γ t) (ρ t)): ∀(ts:List Tmp) (as:List AV) (vs:List Value),SimL g H N as vs->(∀(i:Nat) (t:Tmp) (v:Value),ts[i]? =some t->vs[i]? =some v->ρ t=v)->∀t,SimV g H N (Zmu ts as γ t) (ρ t)
 | [],_,_,_,_,t=>by simpa only [Zmu] using hγ t
 | _::_,[],_,_,_,t=>by simpa only [Zmu] using hγ t
 | _::_,_::_,[],h,_,_=>by simp only [SimL] at h
 | u::ts,a::as,v::vs,h,hv,t=>by
  simp only [SimL] at h;simp only [Zmu,putA];cases hb:Nat.beq t u with
  | true=>
   have:=Nat.eq_of_beq_eq_true hb;subst this;simp only;rw [hv 0 t v rfl rfl];exact h.1
  | false=>exact Zbij hγ ts as vs h.2 (fun i t v h1 h2=>hv (i+1) t v (by simpa using h1) (by simpa using h2)) t
theorem Zblz {g:Gh} {H:Heap} {N:Nat} {α:Nat->AV} {ρ ρ':Env}: ∀(ts:List Tmp),(∀t∈ts,SimV g H N (α t) (ρ t))->(∀t∈ts,ρ' t=ρ t)->∀t,SimV g H N (Znx ts α t) (ρ' t)
 | [],_,_,t=>by simp only [Znx,SimV]
 | u::ts,h,he,t=>by
  simp only [Znx,putA];cases hb:Nat.beq t u with
  | true=>
   have:=Nat.eq_of_beq_eq_true hb;subst this;simp only;rw [he t (by simp)];exact h t (by simp)
  | false=>exact Zblz ts (fun t ht=>h t (by simp [ht])) (fun t ht=>he t (by simp [ht])) t
theorem Zbne (idv:List Nat) (gone:List Nat): ∀(σ:List AObj) (i:Nat),(Zij idv gone i σ).length=σ.length
 | [],_=>rfl
 | o::os,i=>by simp [Zij,Zbne idv gone os]
theorem Zbnd (idv:List Nat) (gone:List Nat): ∀(σ:List AObj) (i j:Nat) (o:AObj),(Zij idv gone i σ)[j]? =some o->∃o1,σ[j]? =some o1∧((i+j∈gone∧o= .gone)∨(i+j∉gone∧i+j∈idv∧o=o1)∨(i+j∉gone∧i+j∉idv∧o=Zdd true o1))
 | [],_,_,_,h=>by simp [Zij] at h
 | a::σ,i,0,o,h=>by
  simp only [Zij,List.getElem?_cons_zero,Option.some.injEq] at h;refine ⟨a,rfl,?_⟩;simp only [Nat.add_zero];cases hm:memB i gone with
  | true=>rw [hm] at h;exact .inl ⟨Zbu.1 hm,h.symm⟩
  | false=>
   rw [hm] at h;have hni:i∉gone:=fun hc=>by rw [Zbu.2 hc] at hm;cases hm
   simp only at h;cases hb:memB i idv with
   | true=>rw [hb] at h;exact .inr (.inl ⟨hni,Zbu.1 hb,h.symm⟩)
   | false=>rw [hb] at h;exact .inr (.inr ⟨hni,(fun hc=>by rw [Zbu.2 hc] at hb;cases hb),h.symm⟩)
 | a::σ,i,j+1,o,h=>by
  simp only [Zij,List.getElem?_cons_succ] at h;obtain ⟨o1,h1,h2⟩:=Zbnd idv gone σ (i+1) j o h;refine ⟨o1,by simpa using h1,?_⟩
  have e:i+1+j=i+(j+1):=by omega
  rw [e] at h2;exact h2
theorem Zoo: ∀{src:List (Option Nat)} {j id:Nat},src[j]? =some (some id)->id∈Zr src
 | [],_,_,h=>by simp at h
 | some i::l,0,id,h=>by simp at h;subst h;simp [Zr]
 | none::l,0,id,h=>by simp at h
 | some i::l,j+1,id,h=>by simp [Zr];exact .inr (Zoo (j:=j) (by simpa using h))
 | none::l,j+1,id,h=>by simp [Zr];exact Zoo (j:=j) (by simpa using h)
theorem Zsh: ∀{src:List (Option Nat)},(Zr src).Nodup->∀(j j' id:Nat),src[j]? =some (some id)->src[j']? =some (some id)->j=j'
 | [],_,j,_,_,h,_=>by simp at h
 | none::l,hn,0,_,_,h,_=>by simp at h
 | none::l,hn,_,0,_,_,h=>by simp at h
 | none::l,hn,j+1,j'+1,id,h,h'=>by rw [Zsh (src:=l) hn j j' id (by simpa using h) (by simpa using h')]
 | some i::l,hn,0,0,_,_,_=>rfl
 | some i::l,hn,0,j'+1,id,h,h'=>by simp at h;subst h;simp only [Zr,List.nodup_cons] at hn;exact absurd (Zoo (j:=j') (by simpa using h')) hn.1
 | some i::l,hn,j+1,0,id,h,h'=>by simp at h';subst h';simp only [Zr,List.nodup_cons] at hn;exact absurd (Zoo (j:=j) (by simpa using h)) hn.1
 | some i::l,hn,j+1,j'+1,id,h,h'=>by simp only [Zr,List.nodup_cons] at hn;rw [Zsh (src:=l) hn.2 j j' id (by simpa using h) (by simpa using h')]
theorem Zsg: ∀{src:List (Option Nat)} {id:Nat},id∈Zr src->∃j:Nat,src[j]? =some (some id)
 | [],_,h=>by simp [Zr] at h
 | some i::l,id,h=>by
  simp only [Zr,List.mem_cons] at h;rcases h with rfl | h;exact ⟨0,rfl⟩
  ·obtain ⟨j,hj⟩:=Zsg h;exact ⟨j+1,by simpa using hj⟩
 | none::l,id,h=>by obtain ⟨j,hj⟩:=Zsg (src:=l) h;exact ⟨j+1,by simpa using hj⟩
theorem Zbzf {σ σ':List AObj} {a:AV} (h:frzO σ a=some σ') {id:Nat} {T:TypeId} {r:Bool} {cs:List AV} (ho:σ[id]? =some (.obj T r cs)):σ'[id]? =some (.obj T r cs):=by unfold frzO at h;split at h;rename_i k;split at h;rename_i T' ks xs hk;cases h;rw [List.getElem?_set];by_cases e:k=id;subst e;rw [hk] at ho;cases ho;rw [if_neg e];exact ho;cases h;exact ho;cases h;cases h;exact ho
theorem Zjf: ∀(ks:List PK) (as:List AV) (σ σ':List AObj),frzY σ ks as=some σ'->∀{id:Nat} {T:TypeId} {r:Bool} {cs:List AV},σ[id]? =some (.obj T r cs)->σ'[id]? =some (.obj T r cs)
 | [],[],σ,σ',h,_,_,_,_,ho=>by simp only [frzY,Option.some.injEq] at h;subst h;exact ho
 | [],_::_,_,_,h,_,_,_,_,_=>by simp only [frzY] at h;cases h
 | k::ks,[],_,_,h,_,_,_,_,_=>by cases k<;>simp only [frzY] at h<;>cases h
 | .lst _::ks,a::as,σ,σ',h,_,_,_,_,ho=>by
  simp only [frzY] at h;split at h;rename_i σ1 hf;exact Zjf ks as σ1 σ' h (Zbzf hf ho)
  ·cases h
 | .int _::ks,a::as,σ,σ',h,_,_,_,_,ho=>by simp only [frzY] at h;exact Zjf ks as σ σ' h ho
 | .bool::ks,a::as,σ,σ',h,_,_,_,_,ho=>by simp only [frzY] at h;exact Zjf ks as σ σ' h ho
 | .str::ks,a::as,σ,σ',h,_,_,_,_,ho=>by simp only [frzY] at h;exact Zjf ks as σ σ' h ho
 | .row _ _::ks,a::as,σ,σ',h,_,_,_,_,ho=>by simp only [frzY] at h;exact Zjf ks as σ σ' h ho
 | .arr _ _::ks,a::as,σ,σ',h,_,_,_,_,ho=>by simp only [frzY] at h;exact Zjf ks as σ σ' h ho
theorem Zbls (o:AObj):isRo (Zdd true o)=true∨Zdd true o= .gone:=by cases o<;>simp [Zdd,isRo]
def Zhq (src:List Nat) (idv:List Nat) (i:Nat) (o:AObj):AObj:=match memB i src with
 | true=>o
 | false=>match memB i idv with
  | true=>o
  | false=>Zdd true o
theorem Zcbi (src:List Nat) (idv:List Nat) (i:Nat) (o:AObj):Zgc o (Zhq src idv i o):=by unfold Zhq;split;exact Zvw o;split;exact Zvw o;exact ⟨true,rfl⟩
theorem Zcbj {src:List Nat} {idv:List Nat} {i:Nat} {o:AObj} (h:isRo o=true):Zhq src idv i o=o:=by
 have:Zdd true o=o:=by cases o<;>simp only [isRo] at h<;>simp [Zdd,h]
 unfold Zhq;split;rfl;split;rfl;exact this
theorem Zbna {i:Nat} {l:List Nat} (h:i∉l):memB i l=false:=by
 cases hb:memB i l with
 | false=>rfl
 | true=>exact absurd (Zbu.1 hb) h
def Zmr (g:Gh) (H:Heap) (σ:List AObj):List (Tmp×List PK)->List Nat->List Value->Prop
 | [],[],vs=>vs= []
 | v::V,id::ids,ws=>∃vs r T c,ws=vs++r∧vs.length=v.2.length∧σ[id]? =some (.obj T false c)∧H (g.B id)=some (.cells ⟨vs⟩ T (0,0))∧Zmr g H σ V ids r
 | _,_,_=>False
theorem Zbaw {g:Gh} {H:Heap} {N:Nat} {σ:List AObj} (ho: ∀id o,σ[id]? =some o->SimO g H N id o): ∀{V:List (Tmp×List PK)} {ids:List Nat} {cs:List AV},Zdc σ V ids=some cs->∃ws,Zmr g H σ V ids ws∧SimL g H N cs ws
 | [],[],cs,h=>by simp only [Zdc,Option.some.injEq] at h;subst h;exact ⟨[],rfl,by simp only [SimL]⟩
 | [],_::_,_,h=>by simp only [Zdc] at h;cases h
 | _::_,[],_,h=>by simp only [Zdc] at h;cases h
 | (t,ks)::V,id::ids,cs,h=>by
  simp only [Zdc] at h;split at h
  ·rename_i T c hi;split at h;rename_i r hl hr;cases h;obtain ⟨ws,h1,h2⟩:=Zbaw ho hr;obtain ⟨vs,h3,h4⟩:=ho id _ hi;exact ⟨vs++ws,⟨vs,ws,T,c,rfl,by rw [← h4.len];exact Nat.eq_of_beq_eq_true hl,hi,h3,h1⟩,h4.append h2⟩
   cases h
  cases h
theorem Zbau {σ:List AObj}: ∀{V:List (Tmp×List PK)} {ids:List Nat} {cs:List AV},Zdc σ V ids=some cs->∀id∈ids,∃T c,σ[id]? =some (.obj T false c)
 | [],[],_,_,id,hi=>by simp at hi
 | [],_::_,_,h,_,_=>by simp only [Zdc] at h;cases h
 | _::_,[],_,h,_,_=>by simp only [Zdc] at h;cases h
 | (t,ks)::V,i::ids,cs,h,id,hi=>by simp only [Zdc] at h;split at h;rename_i T c h1;split at h;rename_i r hl hr;rcases List.mem_cons.1 hi with rfl | hi;exact ⟨T,c,h1⟩;exact Zbau hr id hi;cases h;cases h
theorem Zbav {σ σ':List AObj} (h: ∀(id:Nat) (T:TypeId) (cs:List AV),σ[id]? =some (.obj T false cs)->σ'[id]? =some (.obj T false cs)): ∀{V:List (Tmp×List PK)} {ids:List Nat} {cs:List AV},Zdc σ V ids=some cs->Zdc σ' V ids=some cs
 | [],[],cs,h=>by simpa only [Zdc] using h
 | [],_::_,_,h=>by simp only [Zdc] at h;cases h
 | _::_,[],_,h=>by simp only [Zdc] at h;cases h
 | (t,ks)::V,i::ids,cs,h'=>by simp only [Zdc] at h' ⊢;split at h';rename_i T c h1;split at h';rename_i r hl hr;rw [h _ _ _ h1];simp only [hl,Zbav h hr];exact h';cases h';cases h'
theorem Zbfp: ∀(V:List (Tmp×List PK)) (ids:List Nat) (cs:List AV) (base:List AObj),(setV V ids cs base).length=base.length
 | [],_,_,_=>by simp only [setV]
 | _::_,[],_,_=>by simp only [setV]
 | (t,ks)::V,id::ids,cs,base=>by simp only [setV];split;rw [Zbfp V ids];simp;rfl
theorem Zwz: ∀(V:List (Tmp×List PK)) (ids:List Nat) (cs:List AV) (base:List AObj) (id:Nat),id∉ids->(setV V ids cs base)[id]? =base[id]?
 | [],_,_,_,_,_=>by simp only [setV]
 | _::_,[],_,_,_,_=>by simp only [setV]
 | (t,ks)::V,i::ids,cs,base,id,h=>by
  simp only [setV];split;rw [Zwz V ids _ _ id (fun hc=>h (List.mem_cons_of_mem _ hc)),List.getElem?_set,if_neg (fun e=>h (by rw [e];exact List.mem_cons_self))]
  rfl
theorem Zbqc {g g'':Gh} {H:Heap} {N:Nat} {σ:List AObj}: ∀(V:List (Tmp×List PK)) (ids:List Nat) (cs:List AV) (base:List AObj) (ws:List Value),ids.Nodup->Zmr g H σ V ids ws->SimL g'' H N cs ws->
  (∀id∈ids,∃T c0 c1,base[id]? =some (.obj T false c0)∧σ[id]? =some (.obj T false c1))->
  ∀id∈ids,∃T cs1 vs,(setV V ids cs base)[id]? =some (.obj T false cs1)∧(∃c0,base[id]? =some (.obj T false c0))∧H (g.B id)=some (.cells ⟨vs⟩ T (0,0))∧SimL g'' H N cs1 vs
 | [],[],_,_,_,_,_,_,_,id,hi=>by simp at hi
 | [],_::_,_,_,_,_,h,_,_,_,_=>by simp only [Zmr] at h
 | _::_,[],_,_,_,_,h,_,_,_,_=>by simp only [Zmr] at h
 | (t,ks)::V,i::ids,cs,base,ws,hn,hv,hs,hb,id,hi=>by
  simp only [Zmr] at hv;obtain ⟨vs,r,T,c,rfl,hl,h1,h2,h3⟩:=hv;obtain ⟨T',c0,c1,h4,h5⟩:=hb i List.mem_cons_self;rw [h1] at h5;cases h5;obtain ⟨hni,hn⟩:=List.nodup_cons.1 hn;simp only [setV,h4];have hd:SimL g'' H N (cs.drop ks.length) r:=by have:=SimL.drop ks.length hs;rw [← hl,List.drop_left] at this;rwa [hl] at this
  have ht:SimL g'' H N (cs.take ks.length) vs:=by have:=SimL.take ks.length hs;rw [← hl,List.take_left] at this;rwa [hl] at this
  rcases List.mem_cons.1 hi with rfl | hi;rw [Zwz _ _ _ _ _ hni,List.getElem?_set,if_pos rfl,if_pos (Zbr h4)];exact ⟨T,_,vs,rfl,⟨_,h4⟩,h2,ht⟩
  ·obtain ⟨T2,cs1,vs2,k1,⟨c2,k2⟩,k3,k4⟩:=Zbqc V ids (cs.drop ks.length) (base.set i (.obj T false (cs.take ks.length))) r hn h3 hd (fun id' hi'=>by
    obtain ⟨T3,c3,c4,q1,q2⟩:=hb id' (List.mem_cons_of_mem _ hi');refine ⟨T3,c3,c4,?_,q2⟩;rw [List.getElem?_set,if_neg (fun e=>hni (by rw [e];exact hi'))];exact q1) id hi
   refine ⟨T2,cs1,vs2,k1,?_,k3,k4⟩;rw [List.getElem?_set,if_neg (fun e=>hni (by rw [e];exact hi))] at k2
   exact ⟨c2,k2⟩
theorem Zblj {E:En} {L:PLoop} {α0:Nat->AV} {ρ0:Env} {base:List AObj} {idv:List Nat} {st:St} {ρ:Env} {H:Heap} {g:Gh} {σ1:List AObj} {cs:List AV} {y:PTup L.kinds} {src:List (Option Nat)}
  (s:Sim E ⟨st.α,σ1⟩ ρ H g) (hle:base.length <= σ1.length)
  (hro: ∀(id:Nat) (o:AObj),base[id]? =some o->o= .gone∨(isRo o=true∧(σ1[id]? =some o∨∃o1,σ1[id]? =some o1∧Zgc o1 o∧id∉Zr src)∧SimO g H base.length id o)∨(id∈idv∧∃T cs0 c1,o= .obj T false cs0∧σ1[id]? =some (.obj T false c1)))
  (hfix: ∀t∈L.fixed,SimV g H base.length (α0 t) (ρ0 t)) (hcs:Zdc σ1 L.vary idv=some cs) (hun:idv.Nodup) (hin: ∀id∈idv,∃T c0 c1,base[id]? =some (.obj T false c0)∧σ1[id]? =some (.obj T false c1))
  (hread:Zio σ1 L.kinds (L.tmps.map st.α++cs)=some (y,src)) (hu:Zct (Zr src)=true)
  (hf: ∀(k:PK) (ks':List Kd) (i id:Nat),L.kinds[i]? =some k->k= .lst ks'->(L.tmps.map st.α++cs)[i]? =some (.row id)->∃ks xs,σ1[id]? =some (.frz ks xs)):
  WfY L.kinds y∧∃g'',g''.Z=g.Z∧(∀i,i<base.length->g''.B i=g.B i∧g''.V i=g.V i)∧
   ∀ρ'':Env,(∀t∈L.tmps,ρ'' t=ρ t)->(∀t∈L.fixed,ρ'' t=ρ0 t)->Sim E (L.head α0 base idv y) ρ'' H g'':=by
 obtain ⟨vcs,hvb,hvs⟩:=Zbaw (g:=g) (H:=H) (N:=σ1.length) (fun id o ho=>s.obj id o ho) hcs;have htm:SimL g H σ1.length (L.tmps.map st.α) (L.tmps.map ρ):=by
  have: ∀ts:List Tmp,SimL g H σ1.length (ts.map st.α) (ts.map ρ):=by
   intro ts;induction ts with
   | nil=>simp only [List.map_nil,SimL]
   | cons t ts ih=>simp only [List.map_cons,SimL];exact ⟨s.tmp t,ih⟩
  exact this _
 obtain ⟨hw,hlen,hrow,hsim⟩:=Zbeu s hread (htm.append hvs) hf;refine ⟨hw,?_⟩
 let keepRow:=Zhq (Zr src) idv
 let σk:List AObj:=σ1.mapIdx keepRow
 have hkl:σk.length=σ1.length:=by simp [σk]
 have hkg: ∀(i:Nat) (o:AObj),σ1[i]? =some o->σk[i]? =some (keepRow i o):=fun i o h=>by simp [σk,List.getElem?_mapIdx,h]
 have hkg': ∀(i:Nat) (o:AObj),σk[i]? =some o->∃o1,σ1[i]? =some o1∧o=keepRow i o1:=fun i o h=>by simp only [σk,List.getElem?_mapIdx,Option.map_eq_some_iff] at h;obtain ⟨o1,h1,h2⟩:=h;exact ⟨o1,h1,h2.symm⟩
 have hlike: ∀(i:Nat) (o:AObj),Zgc o (keepRow i o):=fun i o=>Zcbi _ _ i o;have sk:Sim E ⟨st.α,σk⟩ ρ H g:=s.like hkl fun i o h=>by obtain ⟨o1,h1,rfl⟩:=hkg' i o h;exact ⟨o1,h1,hlike i o1⟩
 have hsrc: ∀{id:Nat},id∈Zr src->∃T ks xs,σ1[id]? =some (.row T false ks xs):=fun {id} h=>by
  obtain ⟨j,hj⟩:=Zsg h;have hjl:j<(Zcj L.kinds y).length:=by rw [hlen];rcases Nat.lt_or_ge j src.length with h | h;exact h;rw [List.getElem?_eq_none h] at hj;cases hj
  rcases hrow j _ _ (List.getElem?_eq_getElem hjl) hj with ⟨id',e,h1,_,T,ks,xs,h2⟩ | ⟨e,_⟩;cases e;exact ⟨T,ks,xs,by rw [h1,h2]⟩
  cases e
 obtain ⟨g'',hZ,hBV,hS,hfin⟩:=Sim.rehead (base:=base) (rows:=Zcj L.kinds y) (src:=src) sk (by simp only [hkl];exact hle) hlen (fun id o ho=>by
   rcases hro id o ho with rfl | ⟨h1,h2,h3⟩ | ⟨h1,T,cs0,c1,rfl,h2⟩;exact .inl rfl
   ·refine .inr (.inl ⟨h1,?_,h3⟩);rcases h2 with h2 | ⟨o1,h2,h4,h5⟩;rw [hkg id o h2];exact congrArg some (Zcbj h1)
    ·rw [hkg id o1 h2];congr 1;have hm:memB id (Zr src)=false:=Zbna h5;obtain ⟨r,rfl⟩:=h4;have hne:id∉idv:=fun hk=>by obtain ⟨T,c0,c1,h6,h7⟩:=hin id hk;rw [ho] at h6;rw [h2] at h7;cases h7;simp only [Zdd,Option.some.injEq,AObj.obj.injEq] at h6;obtain ⟨_,rfl,_⟩:=h6;simp [Zdd,isRo] at h1
     show Zhq (Zr src) idv id o1=Zdd r o1;have hfl:Zdd true o1=Zdd r o1:=by cases o1<;>simp only [Zdd,isRo] at h1 ⊢ <;>simp [h1]
     unfold Zhq;rw [hm,Zbna hne];exact hfl
   ·refine .inr (.inr ⟨T,cs0,c1,rfl,?_⟩);rw [hkg id _ h2];refine congrArg some ?_;show Zhq (Zr src) idv id _=_;unfold Zhq;rw [Zbu.2 h1];simp only;split<;>rfl)
  (fun j o i ho hi=>by
   rcases hrow j o i ho hi with ⟨id,rfl,h1,h2,h3⟩ | h;refine .inl ⟨id,rfl,?_,h2,h3⟩;rw [hkg id o h1];refine congrArg some ?_;show Zhq (Zr src) idv id o=o;unfold Zhq;rw [Zbu.2 (Zoo hi)]
   ·exact .inr h)
  (Zsh (Zmh hu))
 have hsl:=hsim g'' base.length (base.length+(Zcj L.kinds y).length) hS (by omega) hZ
 refine ⟨g'',hZ,hBV,fun ρ'' h1 h2=>?_⟩;have hext:Ext base.length g H g'' H:=⟨fun b hb=>⟨by rw [hZ];exact hb,rfl⟩,fun i hi=>(hBV i hi).1,fun i hi=>(hBV i hi).2⟩
 unfold PLoop.head;refine hfin _ _ _ (Zbfp _ _ _ _) (fun id o ho=>?_) (fun t=>?_)
 ·by_cases hid:id∈idv
  ·have hd:=hsl.drop L.tmps.length;have e:(L.tmps.map ρ++vcs).drop L.tmps.length=vcs:=by
    rw [List.drop_append,List.drop_of_length_le (by rw [List.length_map];exact Nat.le_refl _)]
    simp
   rw [e] at hd;obtain ⟨T,cs1,vs,k1,⟨c0,k2⟩,k3,k4⟩:=Zbqc L.vary idv _ base vcs hun hvb hd hin id hid;rw [k1] at ho;cases ho;exact .inr (.inr ⟨T,_,c0,rfl,k2,vs,k3,k4⟩)
  rw [Zwz _ _ _ _ _ hid] at ho;rcases hro id o ho with rfl | ⟨h3,h4,h5⟩ | ⟨h3,_⟩;exact .inr (.inl rfl);exact .inl ⟨h3,ho⟩;exact absurd h3 hid
 ·refine Zbij (γ:=Znx L.fixed α0) (fun t=>?_) _ _ (L.tmps.map ρ++vcs) hsl (fun i t v hi hv=>?_) t;refine Zblz (ρ:=ρ0) L.fixed (fun t ht=>?_) h2 t;exact SimV.ext (Nat.le_add_right _ _) hext _ _ (hfix t ht)
  ·have hlt:i<L.tmps.length:=by rcases Nat.lt_or_ge i L.tmps.length with h | h;exact h;rw [List.getElem?_eq_none h] at hi;cases hi
   rw [List.getElem?_append_left (by simpa using hlt),List.getElem?_map,hi] at hv
   simp only [Option.map_some,Option.some.injEq] at hv;rw [← hv];exact h1 t (List.mem_of_getElem? hi)
def Lc (E:En) (st:St) (H:Heap) (g:Gh) (Q:Zt):Post:=fun e ρ' H'=>∃st' g',Sim E st' ρ' H' g'∧Rel st H g st' H' g'∧Q e st'
theorem Lc.trans {E:En} {st st1:St} {H H1:Heap} {g g1:Gh} {Q:Zt} (r:Rel st H g st1 H1 g1) {e:Exit} {ρ:Env} {H':Heap} (h:Lc E st1 H1 g1 Q e ρ H'):Lc E st H g Q e ρ H':=by obtain ⟨st',g',h1,h2,h3⟩:=h;exact ⟨st',g',h1,r.trans h2,h3⟩
structure LEnt (E:En) (L:PLoop) (st:St) (ρ:Env) (H:Heap) (g g1:Gh) (σ1 base:List AObj) (idv S:List Nat):Prop where
 sim:Sim E ⟨st.α,σ1⟩ ρ H g1
 rel:Rel st H g ⟨st.α,σ1⟩ H g1
 len1:σ1.length=st.σ.length
 len:base.length=σ1.length
 get: ∀(j:Nat) (o:AObj),base[j]? =some o->∃o1,σ1[j]? =some o1∧((j∈S∧o= .gone)∨(j∉S∧j∈idv∧o=o1)∨(j∉S∧j∉idv∧o=Zdd true o1))
 srow: ∀{id:Nat},id∈S->∃T ks xs,σ1[id]? =some (.row T false ks xs)
 bin: ∀id∈idv,∃T c0,base[id]? =some (.obj T false c0)∧σ1[id]? =some (.obj T false c0)
 un:idv.Nodup
structure LInv (E:En) (L:PLoop) (st:St) (ρ:Env) (H:Heap) (g1:Gh) (base:List AObj) (idv:List Nat) (y:PTup L.kinds) (ts:List Value) (H':Heap) (g':Gh):Prop where
 wf:WfY L.kinds y
 sim: ∀ρ'':Env,L.tmps.map ρ''=ts->(∀t∈L.fixed,ρ'' t=ρ t)->Sim E (L.head st.α base idv y) ρ'' H' g'
 ext:Ext base.length g1 H g' H'
 rok: ∀(id:Nat) (o:AObj),base[id]? =some o->isRo o=true->Has g1 id o->H' (g1.B id)=H (g1.B id)
theorem Zbms {E:En} {L:PLoop} {st:St} {ρ:Env} {H:Heap} {g:Gh} (s:Sim E st ρ H g) {y:PTup L.kinds} {base:List AObj} {idv:List Nat} (hin:lpIn L st=some (y,base,idv)):
  ∃g1 σ1 S g2,LEnt E L st ρ H g g1 σ1 base idv S∧LInv E L st ρ H g1 base idv y (L.tmps.map ρ) H g2:=by
 unfold lpIn at hin;split at hin
 case h_2=>cases hin
 rename_i idv' hidv;split at hin
 case h_2=>cases hin
 rename_i cs hun hcs;split at hin
 case h_2=>cases hin
 rename_i σ1 hfr;split at hin
 case h_2=>cases hin
 rename_i y src hread;split at hin
 case h_2=>cases hin
 rename_i huniq;simp only [Option.some.injEq,Prod.mk.injEq] at hin;obtain ⟨rfl,rfl,rfl⟩:=hin;obtain ⟨g1,s1,r1,l1,f1,_⟩:=Zbcs L.kinds _ st.σ σ1 g s hfr;have hbl:(Zij idv' (Zr src) 0 σ1).length=σ1.length:=Zbne _ _ _ _;generalize hbase:Zij idv' (Zr src) 0 σ1=base at hbl;have bget: ∀(j:Nat) (o:AObj),base[j]? =some o->∃o1,σ1[j]? =some o1∧((j∈Zr src∧o= .gone)∨(j∉Zr src∧j∈idv'∧o=o1)∨(j∉Zr src∧j∉idv'∧o=Zdd true o1)):=fun j o hj=>by rw [← hbase] at hj;have:=Zbnd idv' (Zr src) σ1 0 j o hj;simpa using this
 have hcs1:Zdc σ1 L.vary idv'=some cs:=Zbav (fun id T cs ho=>Zjf _ _ _ _ hfr ho) hcs;have vobj:=Zbau hcs1;obtain ⟨v2,_,hv2⟩:=Zbaw (g:=g1) (H:=H) (N:=σ1.length) (fun id o ho=>s1.obj id o ho) hcs1;have srow: ∀{id:Nat},id∈Zr src->∃T ks xs,σ1[id]? =some (.row T false ks xs):=fun {id} hm=>by
  obtain ⟨_,hlen,hrow,_⟩:=Zbeu s1 hread (y:=y) (vs:=L.tmps.map ρ++v2) (by
   refine SimL.append ?_ hv2;have: ∀ts:List Tmp,SimL g1 H σ1.length (ts.map st.α) (ts.map ρ):=by
    intro ts;induction ts with
    | nil=>simp only [List.map_nil,SimL]
    | cons t ts ih=>simp only [List.map_cons,SimL];exact ⟨s1.tmp t,ih⟩
   exact this _) f1
  obtain ⟨j,hj⟩:=Zsg hm;have hjl:j<(Zcj L.kinds y).length:=by rw [hlen];rcases Nat.lt_or_ge j src.length with h | h;exact h;rw [List.getElem?_eq_none h] at hj;cases hj
  rcases hrow j _ _ (List.getElem?_eq_getElem hjl) hj with ⟨id',e,h1,_,T,ks,xs,h2⟩ | ⟨e,_⟩;cases e;exact ⟨T,ks,xs,by rw [h1,h2]⟩
  cases e
 have bin: ∀id∈idv',∃T c0,base[id]? =some (.obj T false c0)∧σ1[id]? =some (.obj T false c0):=fun id hid=>by
  obtain ⟨T,c1,ho⟩:=vobj id hid;have hlt:id<base.length:=by rw [hbl];exact Zbr ho
  obtain ⟨o1,h1,h2⟩:=bget id _ (List.getElem?_eq_getElem hlt);rw [ho] at h1;cases h1;have hns:id∉Zr src:=fun hm=>by obtain ⟨T',ks,xs,h3⟩:=srow hm;rw [ho] at h3;cases h3
  rcases h2 with ⟨h3,_⟩ | ⟨_,_,h4⟩ | ⟨_,h3,_⟩;exact absurd h3 hns;exact ⟨T,c1,by rw [List.getElem?_eq_getElem hlt,h4],ho⟩
  exact absurd hid h3
 have hfix: ∀t∈L.fixed,SimV g1 H base.length (st.α t) (ρ t):=fun t _=>by rw [hbl];exact s1.tmp t
 have hro: ∀(id:Nat) (o:AObj),base[id]? =some o->o= .gone∨(isRo o=true∧(σ1[id]? =some o∨∃o1,σ1[id]? =some o1∧Zgc o1 o∧id∉Zr src)∧SimO g1 H base.length id o)∨(id∈idv'∧∃T cs0 c1,o= .obj T false cs0∧σ1[id]? =some (.obj T false c1)):=fun id o ho=>by obtain ⟨o1,h1,h2⟩:=bget id o ho;rcases h2 with ⟨_,rfl⟩ | ⟨_,h4,rfl⟩ | ⟨h3,h4,rfl⟩;exact .inl rfl;obtain ⟨T,c0,h5,h6⟩:=bin id h4;rw [ho] at h5;cases h5;exact .inr (.inr ⟨h4,T,c0,c0,rfl,h6⟩);rcases Zbls o1 with h5 | h5;refine .inr (.inl ⟨h5,.inr ⟨o1,h1,⟨true,rfl⟩,h3⟩,?_⟩);rw [hbl];exact (Zgc.sim ⟨true,rfl⟩).2 (s1.obj id o1 h1);exact .inl h5
 obtain ⟨hw0,g2,hZ2,hBV2,hh2⟩:=Zblj (α0:=st.α) (ρ0:=ρ) (L:=L) (base:=base) (idv:=idv') (cs:=cs) s1 (by omega) hro hfix hcs1 (Zmh hun) (fun id hid=>by obtain ⟨T,c0,h1,h2⟩:=bin id hid;exact ⟨T,c0,c0,h1,h2⟩) hread huniq f1
 have ext1:Ext base.length g1 H g2 H:=⟨fun b hb=>⟨by rw [hZ2];exact hb,rfl⟩,fun i hi=>(hBV2 i hi).1,fun i hi=>(hBV2 i hi).2⟩
 refine ⟨g1,σ1,Zr src,g2,⟨s1,r1,l1,hbl,bget,srow,bin,Zmh hun⟩,⟨hw0,fun ρ'' h1 h2=>?_,ext1,fun _ _ _ _ _=>rfl⟩⟩;exact hh2 ρ'' (fun t ht=>List.map_inj_left.1 h1 t ht) h2
theorem LEnt.head {E:En} {L:PLoop} {st:St} {ρ:Env} {H:Heap} {g g1:Gh} {σ1 base:List AObj} {idv S:List Nat} (e:LEnt E L st ρ H g g1 σ1 base idv S) (y:PTup L.kinds):
  base.length <= (L.head st.α base idv y).σ.length∧∀(id:Nat) (o:AObj),base[id]? =some o->isRo o=true->(L.head st.α base idv y).σ[id]? =some o:=by
 have hl:(setV L.vary idv ((avsY base.length L.kinds y).drop L.tmps.length) base).length=base.length:=Zbfp _ _ _ _;refine ⟨by simp only [PLoop.head,List.length_append];omega,fun id o ho hr'=>?_⟩
 have hlt:=Zbr ho;simp only [PLoop.head];rw [List.getElem?_append_left (by omega),Zwz _ _ _ _ _ (fun hid=>?_)]
 exact ho;obtain ⟨T',c1,h5,_⟩:=e.bin id hid;rw [ho] at h5;cases h5;simp [isRo] at hr'
theorem LEnt.left {E E0:En} {L:PLoop} {st:St} {ρ:Env} {H:Heap} {g g1:Gh} {σ1 base:List AObj} {idv S:List Nat} (e:LEnt E0 L st ρ H g g1 σ1 base idv S) {y:PTup L.kinds} {ts:List Value} {H1 H2:Heap} {g' g'':Gh} {st':St}
  (v:LInv E L st ρ H g1 base idv y ts H1 g') {α':Nat->AV} (r':Rel ⟨α',(L.head st.α base idv y).σ⟩ H1 g' st' H2 g''):
  Ext base.length g1 H g'' H2∧(∀(id:Nat) (o:AObj),base[id]? =some o->isRo o=true->Has g1 id o->H2 (g1.B id)=H (g1.B id))∧(∀(id:Nat) (o:AObj),base[id]? =some o->isRo o=true->st'.σ[id]? =some o)∧
   Rel st H g ⟨st'.α,unmark st.σ st'.σ⟩ H2 g'':=by
 obtain ⟨hhl,hhg⟩:=e.head y;have hext:=v.ext;have hext2:Ext base.length g1 H g'' H2:=by refine hext.trans (Nat.le_refl _) ?_;have e2:=r'.ext;exact ⟨e2.z,fun i hi=>e2.b i (by simp only;omega),fun i hi=>e2.v i (by simp only;omega)⟩
 have hrok2: ∀(id:Nat) (o:AObj),base[id]? =some o->isRo o=true->Has g1 id o->H2 (g1.B id)=H (g1.B id):=fun id o ho hr' hh=>by have hlt:=Zbr ho;obtain ⟨_,h5⟩:=r'.ro id o (hhg id o ho hr') hr';have h6:=h5 ((Has.ext hext hlt).2 hh);rw [hext.b id hlt] at h6;rw [h6];exact v.rok id o ho hr' hh
 have hsame: ∀(id:Nat) (o:AObj),base[id]? =some o->isRo o=true->st'.σ[id]? =some o:=fun id o ho hr'=>(r'.ro id o (hhg id o ho hr') hr').1;refine ⟨hext2,hrok2,hsame,?_,?_,fun id o ho hr'=>?_⟩;simp only [Zss];have h1:=r'.len;have h2:=e.len;have h3:=e.len1;simp only at h1;omega
 ·have h2:=e.len;have h3:=e.len1;refine Ext.trans (N':=base.length) (by omega) e.rel.ext ?_
  exact ⟨hext2.z,hext2.b,hext2.v⟩
 ·have h3:=(e.rel.ro id o ho hr').1;have h3':σ1[id]? =some o:=h3;have hlt:id<base.length:=by rw [e.len];exact Zbr h3'
  obtain ⟨o1,h4,h5⟩:=e.get id _ (List.getElem?_eq_getElem hlt);rw [h3'] at h4;cases h4;have hbo:base[id]? =some o:=by rw [List.getElem?_eq_getElem hlt];rcases h5 with ⟨h6,_⟩ | ⟨_,_,h6⟩ | ⟨_,_,h6⟩;obtain ⟨T,ks,xs,h7⟩:=e.srow h6;rw [h3'] at h7;cases h7;simp [isRo] at hr';rw [h6];rw [h6];cases o<;>simp only [isRo] at hr'<;>simp [Zdd,hr']
  have h6:=hsame id o hbo hr';refine ⟨by rw [Zbgg _ _ _ _ _ ho h6,Zbks],fun hh=>?_⟩
  have hb1:g1.B id=g.B id:=e.rel.ext.b id (Zbr ho);have hh1:Has g1 id o:=(Has.ext e.rel.ext (Zbr ho)).2 hh;have:=hrok2 id o hbo hr' hh1;rw [hb1] at this;exact this
theorem LEnt.back {E E' E0:En} {L:PLoop} {st:St} {ρ:Env} {H:Heap} {g g1:Gh} {σ1 base:List AObj} {idv S:List Nat} (e:LEnt E0 L st ρ H g g1 σ1 base idv S) {y:PTup L.kinds} {ts:List Value} {H1 H2:Heap} {g' g'':Gh} {st':St} {ρ':Env}
  (v:LInv E L st ρ H g1 base idv y ts H1 g') {α':Nat->AV} (r':Rel ⟨α',(L.head st.α base idv y).σ⟩ H1 g' st' H2 g'') (s':Sim E' st' ρ' H2 g'') {y':PTup L.kinds} (hback:Zrs L base idv st'=some y'):
  ∃g4,LInv E' L st ρ H g1 base idv y' (L.tmps.map ρ') H2 g4:=by
 obtain ⟨hhl,_⟩:=e.head y;obtain ⟨hext2,hrok2,hsame,_⟩:=e.left v r';unfold Zrs at hback;split at hback
 case h_2=>cases hback
 rename_i cs' hsT hcs';split at hback
 case h_2=>cases hback
 rename_i σ2 hfr2;split at hback
 case h_2=>cases hback
 rename_i y2 src2 hread2;split at hback
 case h_2=>cases hback
 rename_i huniq2;simp only [Option.some.injEq] at hback;subst hback;obtain ⟨g3,s3,r3,l3,f3,_⟩:=Zbcs L.kinds _ st'.σ σ2 g'' s' hfr2;have hl':=r'.len;simp only at hl';have hext3:Ext base.length g1 H g3 H2:=by refine hext2.trans (Nat.le_refl _) ?_;have e2:=r3.ext;exact ⟨e2.z,fun i hi=>e2.b i (by simp only;omega),fun i hi=>e2.v i (by simp only;omega)⟩
 have hcs2:Zdc σ2 L.vary idv=some cs':=Zbav (fun id T cs ho=>Zjf _ _ _ _ hfr2 ho) hcs';have vT: ∀(ids:List Nat),Zww base st'.σ ids=true->∀id∈ids,∃T c0 c1 r r',base[id]? =some (.obj T r c0)∧st'.σ[id]? =some (.obj T r' c1):=by
  intro ids;induction ids with
  | nil=>intro _ id h;simp at h
  | cons i ids ih=>
   intro h id hid;simp only [Zww] at h;split at h;rename_i T r c T' r' c' h1 h2;simp only [Bool.and_eq_true] at h;rcases List.mem_cons.1 hid with rfl | hid;have:=Nat.eq_of_beq_eq_true h.1;subst this;exact ⟨_,_,_,_,_,h1,h2⟩;exact ih h.2 id hid;cases h
 have vobj2: ∀id∈idv,∃T c0 c1,base[id]? =some (.obj T false c0)∧σ2[id]? =some (.obj T false c1):=fun id hid=>by obtain ⟨T,c0,c1,q,q',h1,h2⟩:=vT idv hsT id hid;obtain ⟨T',c2,h3,_⟩:=e.bin id hid;obtain ⟨T2,c3,h4⟩:=Zbau hcs' id hid;rw [h1] at h3;cases h3;rw [h2] at h4;cases h4;exact ⟨_,_,_,h1,Zjf _ _ _ _ hfr2 h2⟩
 obtain ⟨hw3,g4,hZ4,hBV4,hh4⟩:=Zblj (α0:=st.α) (ρ0:=ρ) (L:=L) (base:=base) (idv:=idv) (cs:=cs') (st:=st') s3 (by omega)
  (fun id o ho=>by
   obtain ⟨o1,h1,h2⟩:=e.get id o ho;rcases h2 with ⟨_,rfl⟩ | ⟨_,h4,rfl⟩ | ⟨h3,h4,rfl⟩;exact .inl rfl;obtain ⟨T,c0,c1,h5,h6⟩:=vobj2 id h4;rw [ho] at h5;cases h5;exact .inr (.inr ⟨h4,T,c0,c1,rfl,h6⟩)
   ·rcases Zbls o1 with h5 | h5;refine .inr (.inl ⟨h5,.inl ?_,?_⟩);have h6:=hsame id _ ho h5;exact (r3.ro id _ h6 h5).1;have hlt2:=Zbr ho;refine SimO.ext (N:=base.length) (g:=g1) (H:=H) (Nat.le_refl _) hext3 hlt2 (fun hh=>hrok2 id _ ho h5 hh) ?_;rw [e.len];exact (Zgc.sim ⟨true,rfl⟩).2 (e.sim.obj id o1 h1)
    ·exact .inl h5)
  (fun t ht=>SimV.ext (Nat.le_refl _) hext3 _ _ (by rw [e.len];exact e.sim.tmp t))
  hcs2 e.un vobj2 hread2 huniq2 f3
 have hx4:Ext base.length g3 H2 g4 H2:=⟨fun b hb=>⟨by rw [hZ4];exact hb,rfl⟩,fun i hi=>(hBV4 i hi).1,fun i hi=>(hBV4 i hi).2⟩
 exact ⟨g4,⟨hw3,fun ρ3 h1 h2=>hh4 ρ3 (fun t ht=>List.map_inj_left.1 h1 t ht) h2,hext3.trans (Nat.le_refl _) hx4,hrok2⟩⟩
theorem Zboy {plan:PPlan} {key:Nat} {B:St->Zt->Prop} {BW:Env->Heap->Post->Prop} {nx:Exit->Bool} (hB: ∀{E:En} {st:St} {ρ:Env} {H:Heap} {g:Gh} {Q:Zt},Sim E st ρ H g->B st Q->BW ρ H (Lc E st H g Q))
  (hm: ∀{Q Q':Post},(∀e ρ H,Q e ρ H->Q' e ρ H)->∀ρ H,BW ρ H Q->BW ρ H Q') {E:En} {st:St} {ρ:Env} {H:Heap} {g:Gh} {Q:Zt} (s:Sim E st ρ H g) (h:Zmn plan key B nx st Q):Zcg plan.plan key BW nx ρ H (Lc E st H g Q):=by
  unfold Zmn at h;split at h
  case h_2=>exact h.elim
  rename_i L hL;split at h
  case h_2=>exact h.elim
  rename_i y0 base idv hfine hin;simp only [PLoop.fine,Bool.and_eq_true] at hfine;obtain ⟨hnd,hdisj⟩:=hfine;have hnd:=Zmh hnd;have hdisj: ∀f∈L.fixed,f∉L.tmps:=fun f hf hm=>by have:=List.all_eq_true.1 hdisj f hf;rw [Zbu.2 hm] at this;cases this
  obtain ⟨g1,σ1,S,g2,en,iv⟩:=Zbms s hin;obtain ⟨I,k0,hI0,hround⟩:=h;have hplan:Zgh key plan.plan.loops=some (L.tmps,L.tmps.map (fun _=>Kind.any),L.fixed):=by have:=Zbmr key plan.loops;rw [hL] at this;exact this
  simp only [Zcg,hplan];obtain ⟨x0,hx0,hxe0⟩:=Zbbk L.tmps (L.tmps.map ρ) (by simp)
  rw [hx0];refine ⟨fun k x H'=>∃y g',I k y∧LInv E L st ρ H g1 base idv y (enc (L.tmps.map fun _=>Kind.any) x) H' g',k0,?_,?_⟩;exact ⟨y0,g2,hI0,by rw [hxe0];exact iv⟩
  ·rintro k x H1 ⟨y,g',hI,hv⟩ gE;have hr:=hround k y hI hv.wf;have hxl:=Zbjy L.tmps x;have hsl:L.tmps.map (Zhg L.tmps (enc (L.tmps.map fun _=>Kind.any) x) (Zjh L.fixed ρ gE))=enc (L.tmps.map fun _=>Kind.any) x:=Zbaj _ _ _ hnd hxl;have hfx: ∀t∈L.fixed,Zhg L.tmps (enc (L.tmps.map fun _=>Kind.any) x) (Zjh L.fixed ρ gE) t=ρ t:=fun t ht=>by
    rw [Zbai _ _ _ (by
     cases hb:memB t L.tmps with
     | false=>rfl
     | true=>exact absurd (Zbu.1 hb) (hdisj t ht))]
    exact Zbdf _ _ _ (Zbu.2 ht)
   have sh:=hv.sim _ hsl hfx;refine hm (fun e ρ' H2 hk=>?_) _ _ (hB sh hr);obtain ⟨st',g'',s',r',hq⟩:=hk;unfold Zmc at hq;unfold Zcd;cases hnx:nx e with
   | true=>
    simp only [hnx] at hq ⊢;obtain ⟨x',hx',hxe'⟩:=Zbbk L.tmps (L.tmps.map ρ') (by simp)
    rw [hx'];split at hq;rename_i y' hback;obtain ⟨k',hlt,hI'⟩:=hq;obtain ⟨g4,hv4⟩:=en.back hv r' s' hback;exact ⟨k',hlt,y',g4,hI',by rw [hxe'];exact hv4⟩
    ·exact hq.elim
   | false=>
    simp only [hnx] at hq ⊢;obtain ⟨_,_,_,r2⟩:=en.left hv r';exact ⟨_,g'',s'.unmark st.σ,r2,hq⟩
theorem Zbmx {g:Gh} {H:Heap} {N:Nat}: ∀{ks:List Kd} {x:Tp ks} {vs:List Value},SimL g H N (lvT ks x) vs->WfT ks x
 | [],_,_,_=>by simp only [WfT]
 | k::ks,x,[],h=>by simp only [lvT,SimL] at h
 | k::ks,x,v::vs,h=>by
  simp only [lvT,SimL] at h;simp only [WfT];refine ⟨?_,Zbmx h.2⟩;have h1:=h.1;generalize hdT ks x=e at h1;cases k with
  | int k=>simp only [lvE,SimV] at h1;simp only [WfE];exact WfI.of h1.2
  | bool=>simp only [WfE]
  | str=>simp only [lvE,SimV] at h1;simp only [WfE];exact h1.2
  | lst ks'=>simp only [lvE,SimV] at h1;exact Zh.wf (.lst ks') e v h1
theorem Zbop {g:Gh} {H:Heap} {N:Nat}: ∀{ps:List Pk} {x:PkTs ps} {M:Nat} {vs:List Value},ps.all argK=true->SimL g H N (pksA M ps x) vs->WfPs ps x
 | [],_,_,_,_,_=>trivial
 | p::ps,x,M,[],_,h=>by simp only [pksA,SimL] at h
 | p::ps,x,M,v::vs,ha,h=>by
  simp only [List.all_cons,Bool.and_eq_true] at ha;simp only [pksA,SimL] at h;refine ⟨?_,Zbop ha.2 h.2⟩;have h1:=h.1;have ha1:=ha.1;obtain ⟨e,r⟩:=x;cases p<;>simp only [argK] at ha1<;>first | (cases ha1;done) | skip
  simp only [pkA,SimV] at h1;exact h1.2;trivial;simp only [pkA,SimV] at h1;exact h1.2;simp only [pkA,SimV] at h1;exact Zh.wf (.lst _) e v h1;simp only [pkA,SimV] at h1;obtain ⟨ws,_,h2⟩:=h1;exact Zbmx h2
theorem Sim.laidNo {E:En} {st:St} {ρ:Env} {H:Heap} {g:Gh} (s:Sim E st ρ H g): ∀b,Laid.blocks b=true->¬Zbd g st.σ b:=(s.layE (Z:=g.Z)).own
theorem Sim.ownLive {E:En} {st:St} {ρ:Env} {H:Heap} {g:Gh} (s:Sim E st ρ H g) {b:Nat} (h:Zbd g st.σ b):(∃c T,H b=some (.cells c T (0,0)))∧¬g.Z b:=by obtain ⟨i,o,h1,h2,rfl⟩:=h;exact ⟨s.live h1 h2,s.nz i o h1 h2⟩
theorem Sim.ownE {E:En} {st:St} {ρ:Env} {H:Heap} {g:Gh} (s:Sim E st ρ H g) {b:Nat} (h:Zbd g st.σ b):E.O0 b∨E.H0 b=none:=by obtain ⟨i,o,h1,h2,rfl⟩:=h;exact s.own i o h1 h2
theorem Zwl {g:Gh} {old σ:List AObj} {b:Nat} (h:Zbd g (unmark old σ) b):Zbd g σ b:=by obtain ⟨i,o,hi,hh,e⟩:=h;obtain ⟨o1,h1,h2⟩:=Zbgh old σ i o hi;exact ⟨i,o1,h1,h2.has.1 hh,e⟩
theorem Zccb {r:Loop} (h1:r.state= .ready) (h2:r.pending=none):({ ({ r with state:= .busy }:Loop) with state:= .ready,pending:=none }:Loop)=r:=by cases r;simp only at h1 h2;subst h1 h2;rfl
theorem LInv.other {E E0:En} {L:PLoop} {st:St} {ρ:Env} {H:Heap} {g g1:Gh} {σ1 base:List AObj} {idv S:List Nat} (en:LEnt E0 L st ρ H g g1 σ1 base idv S) {y:PTup L.kinds} {ts:List Value} {H1 H2:Heap} {g':Gh}
  (v:LInv E L st ρ H g1 base idv y ts H1 g') (hz: ∀b,g'.Z b->H2 b=H1 b) (ho: ∀(i:Nat) (o:AObj),(L.head st.α base idv y).σ[i]? =some o->Has g' i o->H2 (g'.B i)=H1 (g'.B i)) (hk:Keep E.O0 E.H0 H2):LInv E L st ρ H g1 base idv y ts H2 g':=by
 refine ⟨v.wf,fun ρ'' h1 h2=>((v.sim ρ'' h1 h2).other hz ho hk).1,v.ext.trans (Nat.le_refl _) ⟨fun b hb=>⟨hb,hz b hb⟩,fun _ _=>rfl,fun _ _=>rfl⟩,fun id o h1 h2 h3=>?_⟩;rw [← v.rok id o h1 h2 h3];have hlt:=Zbr h1;have:=ho id o ((en.head y).2 id o h1 h2) ((Has.ext v.ext hlt).2 h3);rwa [v.ext.b id hlt] at this
theorem Zceo {P:Program} {plan:PPlan} {key:Nat} {A B:St->Zt->Prop} {AW BW:Env->Heap->Post->Prop}
  (hA: ∀{E:En} {st:St} {ρ:Env} {H:Heap} {g:Gh} {Q:Zt},Sim E st ρ H g->A st Q->AW ρ H (Lc E st H g Q)) (hB: ∀{E:En} {st:St} {ρ:Env} {H:Heap} {g:Gh} {Q:Zt},Sim E st ρ H g->B st Q->BW ρ H (Lc E st H g Q))
  (mA: ∀{Q Q':Post},(∀e ρ H,Q e ρ H->Q' e ρ H)->∀ρ H,AW ρ H Q->AW ρ H Q') (mB: ∀{Q Q':Post},(∀e ρ H,Q e ρ H->Q' e ρ H)->∀ρ H,BW ρ H Q->BW ρ H Q')
  {f:FuncId} {I:It} (hI:ItOk P f I) {E:En} {st:St} {ρ:Env} {H:Heap} {g:Gh} {Q:Zt} (s:Sim E st ρ H g) {caps:List AV} {vs:List Value} (hc:SimL g H st.σ.length caps vs) {c:PTup I.kc} {σ1:List AObj}
  (hin:itIn I.kc st caps=some (c,σ1)) (hpre:I.pre c) {ps:Array Tmp} (h:Zzs plan key A B ps.toList I (I.xs c) ⟨st.α,σ1⟩ Q) {d l:Nat} {rec:Loop} (hd:H d=none) (hl:H l=none) (hne:l≠d)
  (hst:rec.state= .ready) (hpe:rec.pending=none) (hps:rec.params=ps) {assign body:Code} (hra:rec.assign=assign) (hrb:rec.body=body)
  (hrnd: ∀(ws:List Value) (H1:Heap) (K:Value->Heap->Prop),ws.length=ps.size->Ztu l AW BW (Zhi ps.toList ws ρ) H1 K->RndW P l rec.fn (Zjb ps.toList ws rec.tmps) assign body H1 K):
  FnW P f (#[.func (.yield l) #[] #[]]++⟨vs⟩) ((H.upd d (.deferred (some []))).upd l (.loop rec)) fun _ H'=>EndC l ρ H' (Lc E st H g Q):=by
 obtain ⟨gc,bs,us,sc,rc,rfl,hbn,hbl,hw,hbv,hus,hbp⟩:=Zcag s hc hin;unfold Zzs at h;split at h
 case h_2=>exact h.elim
 rename_i L hL;split at h
 case h_2=>exact h.elim
 rename_i y0 base idv hck hlp;simp only [Bool.and_eq_true] at hck;obtain ⟨⟨hns,hak⟩,hpl⟩:=hck;have hpl:=Nat.eq_of_beq_eq_true hpl;have hts:L.tmps= []:=by unfold Zbnm at hns;split at hns;rename_i hs;simp [PLoop.tmps,hs];cases hns
 have hmap: ∀ρ:Env,L.tmps.map ρ= []:=fun ρ=>by rw [hts];rfl
 obtain ⟨g1,σe,S,g2,en,iv0⟩:=Zbms sc.enter hlp;rw [hmap] at iv0;have sI:=iv0.sim ρ (hmap ρ) (fun _ _=>rfl);have iv:LInv E L ⟨st.α,σ1⟩ ρ H g1 base idv y0 [] H g2:=⟨iv0.wf,fun ρ'' h1 h2=>sc.unbase (iv0.sim ρ'' h1 h2) (fun b hb=>sc.ownE hb) (fun _ _=>rfl),iv0.ext,iv0.rok⟩;simp only at h;generalize hfin:(fun y=>WfY L.kinds y->Q .normal ⟨(L.head st.α base idv y).α,unmark σ1 (L.head st.α base idv y).σ⟩)=fin at h;generalize hbody:(fun (y:PTup L.kinds) (x:PkTs I.ps) (next:PTup L.kinds->Prop)=>WfY L.kinds y->WfPs I.ps x->A ⟨Zhh ps.toList (pksA 0 I.ps x) (L.head st.α base idv y).α,(L.head st.α base idv y).σ⟩ (Zfu (fun st1=>B st1
      (Zfu (fun st2=>match Zrs L base idv st2 with | some y'=>next y' | none=>False) (Zmb Q fun st2=>⟨(L.head st.α base idv y).α,unmark σ1 st2.σ⟩)))
     fun _ _=>False))=bodyf at h
 have hEl:E.H0 l=none:=s.keep.free hl;have hHs: ∀b,H b≠none->((H.upd d (.deferred (some []))).upd l (.loop rec)) b=H b:=fun b hb=>by rw [upd_ne (fun e=>hb (by rw [e];exact hl)),upd_ne (fun e=>hb (by rw [e];exact hd))]
 have hHl:((H.upd d (.deferred (some []))).upd l (.loop rec)) l=some (.loop rec):=upd_eq;generalize hHe:(H.upd d (.deferred (some []))).upd l (.loop rec)=Hs at hHs hHl ⊢;have hkeep:Keep E.O0 E.H0 Hs:=by rw [← hHe];exact (s.keep.new hd).upd (.inr hEl)
 have hlay: ∀b,Laid.blocks b=true->b≠l:=fun b hb e=>s.lay.live b hb (by rw [e];exact hEl)
 have hsim0: ∀{y:PTup L.kinds} {Hc:Heap} {g':Gh},LInv E L ⟨st.α,σ1⟩ ρ H g1 base idv y [] Hc g'->Sim E (L.head st.α base idv y) ρ Hc g':=fun hv=>hv.sim ρ (hmap ρ) (fun _ _=>rfl);have hagree: ∀{st':St} {Hc H2:Heap} {g':Gh},Sim E st' ρ Hc g'->(∀b,Hc b≠none->g'.Z b∨(b=l∨Zbd g' st'.σ b)∨(Hs b≠none∧b∉bs)->H2 b=Hc b)->(∀b,Hc b≠none->H2 b≠none)->
   (∀b,g'.Z b->H2 b=Hc b)∧(∀(i:Nat) (o:AObj),st'.σ[i]? =some o->Has g' i o->H2 (g'.B i)=Hc (g'.B i))∧Keep E.O0 E.H0 H2:=fun {st' Hc H2 g'} s' hag hlv=>by
  refine ⟨fun b hb=>hag b (s'.zlive b hb) (.inl hb),fun i o hi hh=>hag _ (by obtain ⟨c,T,h⟩:=s'.live hi hh;rw [h];simp) (.inr (.inl (.inr ⟨i,o,hi,hh,rfl⟩))),fun b hb h0=>?_,fun b h0=>hlv b (s'.keep.live b h0)⟩
  rw [← s'.keep.same b hb h0];refine hag b (s'.keep.live b h0) (.inr (.inr ⟨by rw [hHs b (s.keep.live b h0)];exact s.keep.live b h0,fun hbb=>?_⟩))
  rcases (hbp b hbb).2.2.1 with h | h;exact hb h;exact h0 h
 let C:Cons P l I.ps Hs bs:={
  J:=fun Z W r Hc=>∃(g':Gh) (y:PTup L.kinds),Z=g'.Z∧W=(fun b=>b=l∨Zbd g' (L.head st.α base idv y).σ b)∧Zzp fin bodyf r y∧LInv E L ⟨st.α,σ1⟩ ρ H g1 base idv y [] Hc g'∧Hc l=some (.loop rec)∧¬g'.Z l∧¬Zbd g' (L.head st.α base idv y).σ l
  X:=fun Z W Hc=>∃(e:Exit) (code:Code) (st':St) (g':Gh),Z=g'.Z∧W=(fun b=>b=l∨Zbd g' st'.σ b)∧Zig e=some (some code)∧(∃r:Loop,Hc l=some (.loop r)∧r.state≠ .busy∧r.pending=some code)∧Sim E st' ρ Hc g'∧Rel ⟨st.α,σ1⟩ H gc st' Hc g'∧Q e st'∧¬g'.Z l∧¬Zbd g' st'.σ l
  stJ:=fun {Z W r Hc H2} hJ hag hlv=>by obtain ⟨g',y,rfl,rfl,hE,hv,hHl1,hzl,hol⟩:=hJ;obtain ⟨h1,h2,h3⟩:=hagree (hsim0 hv) hag hlv;exact ⟨g',y,rfl,rfl,hE,hv.other en h1 h2 h3,by rw [hag l (by rw [hHl1];simp) (.inr (.inl (.inl rfl)))];exact hHl1,hzl,hol⟩
  stX:=fun {Z W Hc H2} hX hag hlv=>by obtain ⟨e,code,st',g',rfl,rfl,hj,⟨r,hr1,hr2,hr3⟩,s',r',hq,hzl,hol⟩:=hX;obtain ⟨h1,h2,h3⟩:=hagree s' hag hlv;obtain ⟨s2,r2⟩:=s'.other h1 h2 h3;exact ⟨e,code,st',g',rfl,rfl,hj,⟨r,by rw [hag l (by rw [hr1];simp) (.inr (.inl (.inl rfl)))];exact hr1,hr2,hr3⟩,s2,r'.trans r2,hq,hzl,hol⟩
  ndJ:=fun {Z W r Hc} hJ b hb=>by
   obtain ⟨g',y,rfl,rfl,hE,hv,hHl1,hzl,hol⟩:=hJ;have s0:=hsim0 hv;rcases hb with hb | rfl | hb
   ·rcases s0.zc b hb with h | h;exact .inl (by have:=s.zlive b (s.zsub b h);rw [hHs b this];exact this)
    exact .inr h
   ·exact .inr fun ds e=>by rw [hHl1] at e;cases e
   ·obtain ⟨⟨cc,T,h⟩,_⟩:=s0.ownLive hb;exact .inr fun ds e=>by rw [h] at e;cases e
  ndX:=fun {Z W Hc} hX b hb=>by
   obtain ⟨e,code,st',g',rfl,rfl,hj,⟨r,hr1,hr2,hr3⟩,s',r',hq,hzl,hol⟩:=hX;rcases hb with hb | rfl | hb
   ·rcases s'.zc b hb with h | h;exact .inl (by have:=s.zlive b (s.zsub b h);rw [hHs b this];exact this)
    exact .inr h
   ·exact .inr fun ds e=>by rw [hr1] at e;cases e
   ·obtain ⟨⟨cc,T,h⟩,_⟩:=s'.ownLive hb;exact .inr fun ds e=>by rw [h] at e;cases e
  round:=fun {Z W Zx x r H1 ws} hJ hx hZx=>by
   obtain ⟨g',y,rfl,rfl,hE,hv,hHl1,hzl,hol⟩:=hJ;have s0:=hsim0 hv;have hax:=Zbop hak hx;have hwl:ws.length=ps.size:=by have:=SimL.len hx;rw [Zht] at this;rw [← this,← hpl];simp
   let gx:Gh:=⟨fun b=>g'.Z b∨Zx b,g'.B,g'.V⟩
   have extx: ∀N,Ext N g' H1 gx H1:=fun N=>⟨fun b h=>⟨.inl h,rfl⟩,fun _ _=>rfl,fun _ _=>rfl⟩;have nW: ∀b,Zbd g' (L.head st.α base idv y).σ b->¬Zx b:=fun b hb hz=>by rcases hZx b hz with h | ⟨h,_⟩;exact (s0.ownLive hb).2 h;exact h (.inr hb)
   have sx:Sim E (L.head st.α base idv y) ρ H1 gx:=by
    refine ⟨fun t=>SimV.ext (Nat.le_refl _) (extx _) _ _ (s0.tmp t),fun i o hi=>SimO.ext (Nat.le_refl _) (extx _) (Zbr hi) (fun _=>rfl) (s0.obj i o hi),fun i o hi hh hz=>?_,s0.dis,s0.own,s0.keep,fun b hb=> .inl (s0.zsub b hb),fun b hb=>?_,fun b hb=>?_,s0.lay,fun b hb=>?_⟩;rcases hz with hz | hz;exact s0.nz i o hi hh hz;exact nW _ ⟨i,o,hi,hh,rfl⟩ hz;rcases hb with hb | hb;exact s0.znew b hb;rcases hZx b hb with h | ⟨_,_,h⟩;exact s0.znew b h;rcases h with h | h;rcases (hbp b h).2.2.1 with h | h;exact .inr (.inr h);exact .inr (.inl h);exact .inr (.inl (hkeep.free h));rcases hb with hb | hb;exact s0.zlive b hb;rcases hZx b hb with h | ⟨_,⟨cs,T,q,h⟩,_⟩;exact s0.zlive b h;rw [h];simp
    ·rcases hb with hb | hb;exact s0.zc b hb
     ·rcases hZx b hb with h | ⟨_,⟨cs,T,q,h⟩,_⟩;exact s0.zc b h
      ·exact .inr fun ds e=>by rw [h] at e;cases e
   have simx:SimL gx H1 (L.head st.α base idv y).σ.length (pksA 0 I.ps x) ws:=SimL.ext (Nat.zero_le _) ⟨fun b hb=>⟨Or.inr hb,rfl⟩,fun _ h=>absurd h (by omega),fun _ h=>absurd h (by omega)⟩ _ _ hx
   have sb:Sim E ⟨Zhh ps.toList (pksA 0 I.ps x) (L.head st.α base idv y).α,(L.head st.α base idv y).σ⟩ (Zhi ps.toList ws ρ) H1 gx:=Zbil _ _ _ sx simx;have hzx: ¬gx.Z l:=fun hz=>by rcases hz with h | h;exact hzl h;rcases hZx l h with h | ⟨h,_⟩;exact hzl h;exact h (.inl rfl)
   have hl1:H1 l≠none:=by rw [hHl1];simp
   let W:Nat->Prop:=fun b=>b=l∨Zbd g' (L.head st.α base idv y).σ b
   have hWE: ∀b,W b->E.O0 b∨E.H0 b=none:=fun b hb=>by rcases hb with rfl | hb;exact .inr hEl;exact s0.ownE hb
   have sS:Sim ⟨H1,W,gx.Z⟩ ⟨Zhh ps.toList (pksA 0 I.ps x) (L.head st.α base idv y).α,(L.head st.α base idv y).σ⟩ (Zhi ps.toList ws ρ) H1 gx:=sb.rebase (fun i o hi hh=> .inr ⟨i,o,hi,hh,rfl⟩) fun b hb hw=>by rcases hw with rfl | hw;exact hlay _ hb rfl;exact s0.laidNo b hb hw
   have sA:=sb.enter;rw [← hbody] at hE;refine ⟨rec,hHl1,hst,by rw [hps];exact hwl,?_⟩
   rw [hps,hra,hrb];refine hrnd ws H1 _ hwl ?_;unfold Ztu;have hE1:=hE hv.wf hax;refine mA (fun e ρ1 Ha hk=>?_) _ _ (hA sA hE1);obtain ⟨st1,ga,sa,ra,hq⟩:=hk;cases e<;>simp only [Zfu] at hq<;>first | exact hq.elim | skip
   simp only;have hla:Ha l=H1 l:=sa.keep.same l hol hl1;have sa2:Sim ⟨H1,W,gx.Z⟩ st1 ρ1 Ha ga:=sS.unbase sa (fun b hb=> .inl (.inr hb)) (fun b hb=>(ra.ext.z b hb).2);refine ⟨rec,by rw [hla];exact hHl1,hst,?_⟩
   have hlz: ¬ga.Z l:=fun hz=>by rcases sa.znew l hz with h | h | h;exact hzx h;exact hl1 h;exact hol h
   have hlo: ¬Zbd ga st1.σ l:=fun ho=>by rcases sa.ownE ho with h | h;exact hol h;exact hl1 h
   have hb: ∀b,b≠l->(Ha.upd l (.loop { rec with state:= .busy })) b=Ha b:=fun b hb=>upd_ne hb
   obtain ⟨sb2,rb2⟩:=sa2.other (H':=Ha.upd l (.loop { rec with state:= .busy })) (fun b hz=>hb b (by rintro rfl;exact hlz hz)) (fun i o hi hh=>hb _ (fun e=>hlo ⟨i,o,hi,hh,e.symm⟩)) (sa2.keep.upd (.inl (.inl rfl)))
   have hbl:(Ha.upd l (.loop { rec with state:= .busy })) l=some (.loop { rec with state:= .busy }):=upd_eq
   generalize Ha.upd l (.loop { rec with state:= .busy })=Hb at hb sb2 rb2 hbl ⊢
   have sB:=sb2.enter;refine mB (fun e ρ2 Hc hk=>?_) _ _ (hB sB hq);obtain ⟨st2,gb,sbb,rb,hq2⟩:=hk;have hlb:Hb l≠none:=by rw [hbl];simp
   have hlc:Hc l=some (.loop { rec with state:= .busy }):=by rw [sbb.keep.same l hlo hlb];exact hbl
   have hlz2: ¬gb.Z l:=fun hz=>by rcases sbb.znew l hz with h | h | h;exact hlz h;exact hlb h;exact hlo h
   have hlo2: ¬Zbd gb st2.σ l:=fun ho=>by rcases sbb.ownE ho with h | h;exact hlo h;exact hlb h
   have sc2:Sim ⟨H1,W,gx.Z⟩ st2 ρ2 Hc gb:=sb2.unbase sbb (fun b hb=>sb2.ownE hb) (fun b hb=>(rb.ext.z b hb).2);have hd': ∀o:Obj,Sim ⟨H1,W,gx.Z⟩ st2 ρ2 (Hc.upd l o) gb∧Rel st2 Hc gb st2 (Hc.upd l o) gb:=fun o=>
    sc2.other (fun b hz=>upd_ne (by rintro rfl;exact hlz2 hz)) (fun i o hi hh=>upd_ne (fun e=>hlo2 ⟨i,o,hi,hh,e.symm⟩)) (sc2.keep.upd (.inl (.inl rfl)))
   have rx:Rel ⟨Zhh ps.toList (pksA 0 I.ps x) (L.head st.α base idv y).α,(L.head st.α base idv y).σ⟩ H1 gx st2 Hc gb:=(ra.trans rb2).trans rb;have r0:Rel ⟨st.α,(L.head st.α base idv y).σ⟩ H1 g' ⟨Zhh ps.toList (pksA 0 I.ps x) (L.head st.α base idv y).α,(L.head st.α base idv y).σ⟩ H1 gx:=⟨Nat.le_refl _,extx _,fun i o hi _=>⟨hi,fun _=>rfl⟩⟩;unfold Zbhr;refine ⟨_,hlc,?_⟩;have exits: ∀(e:Exit) (code:Code),Zig e=some (some code)->Q e ⟨(L.head st.α base idv y).α,unmark σ1 st2.σ⟩->∀(rr:Loop),rr.state≠ .busy->rr.pending=some code->∀Hd,Hd=Hc.upd l (.loop rr)->
     (∀b,H1 b≠none->¬W b->Hd b=H1 b)∧(∀b,H1 b≠none->Hd b≠none)∧∃Z' W':Nat->Prop,(∀b,g'.Z b∨Zx b->Z' b∧Hd b=H1 b)∧(∀b,W' b->W b∨H1 b=none)∧
      (∀b,Z' b->g'.Z b∨Zx b∨W b∨H1 b=none)∧(∀b,Z' b∨W' b->Hd b≠none)∧(∀b,W' b->¬Z' b)∧
      ∃(e:Exit) (code:Code) (st':St) (g':Gh),Z'=g'.Z∧W'=(fun b=>b=l∨Zbd g' st'.σ b)∧Zig e=some (some code)∧(∃r:Loop,Hd l=some (.loop r)∧r.state≠ .busy∧r.pending=some code)∧Sim E st' ρ Hd g'∧Rel ⟨st.α,σ1⟩ H gc st' Hd g'∧Q e st'∧¬g'.Z l∧¬Zbd g' st'.σ l:=by
    intro e code hj hq rr hr1 hr2 Hd hHd;obtain ⟨sd,rd⟩:=hd' (.loop rr);rw [← hHd] at sd rd;have hdl:Hd l=some (.loop rr):=by rw [hHd];exact upd_eq
    have rr2:=rx.trans rd;have zz: ∀b,gx.Z b->Hd b=H1 b:=fun b hb=>(rr2.ext.z b hb).2;obtain ⟨_,_,_,rl⟩:=en.left hv (r0.trans rr2);have sE:Sim E st2 ρ2 Hd gb:=sx.unbase sd hWE zz;have sU:=sE.unmark σ1;refine ⟨fun b hb hw=>sd.keep.same b hw hb,fun b hb=>sd.keep.live b hb,gb.Z,fun b=>b=l∨Zbd gb (unmark σ1 st2.σ) b,fun b hb=>⟨sd.zsub b hb,zz b hb⟩,fun b hb=>?_,fun b hb=>?_,fun b hb=>?_,fun b hb=>?_,e,code,⟨(L.head st.α base idv y).α,unmark σ1 st2.σ⟩,gb,rfl,rfl,hj,⟨rr,hdl,hr1,hr2⟩,{ sU with tmp:=fun t=>?_ },⟨rl.len,rl.ext,rl.ro⟩,hq,hlz2,fun ho=>hlo2 (Zwl ho)⟩
    rcases hb with rfl | hb;exact .inl (.inl rfl);exact sd.ownE (Zwl hb);rcases sd.znew b hb with h | h | h;rcases h with h | h;exact .inl h;exact .inr (.inl h);exact .inr (.inr (.inr h));exact .inr (.inr (.inl h));rcases hb with hb | rfl | hb;exact sd.zlive b hb;rw [hdl];simp;obtain ⟨⟨cc,T,h⟩,_⟩:=sd.ownLive (Zwl hb);rw [h];simp;rcases hb with rfl | hb;exact hlz2;exact (sd.ownLive (Zwl hb)).2;simp only [Zss];exact SimV.ext rr2.len rr2.ext _ _ (sx.tmp t)
   cases e with
   | normal=>
    simp only [Zfu] at hq2;split at hq2
    case h_2=>exact hq2.elim
    rename_i y' hback;simp only [Zig,Option.isNone,if_true];rw [Zccb hst hpe];obtain ⟨sd,rd⟩:=hd' (.loop rec);have hdl:(Hc.upd l (.loop rec)) l=some (.loop rec):=upd_eq;generalize Hc.upd l (.loop rec)=Hd at sd rd hdl ⊢;have rr2:=rx.trans rd;have zz: ∀b,gx.Z b->Hd b=H1 b:=fun b hb=>(rr2.ext.z b hb).2;have hld:Hd l≠none:=by rw [hdl];simp
    obtain ⟨g4,v4⟩:=en.back hv (r0.trans rr2) sd.enter hback;rw [hmap] at v4;have s4':=v4.sim ρ (hmap ρ) (fun _ _=>rfl);have z4: ∀b,gb.Z b->g4.Z b∧Hd b=Hd b:=fun b hb=>⟨s4'.zsub b hb,rfl⟩;have s4:=sd.unbase s4' (fun b hb=>sd.ownE hb) (fun _ _=>rfl);have hlz4: ¬g4.Z l:=fun hz=>by rcases s4'.znew l hz with h | h | h;exact hlz2 h;exact hld h;exact hlo2 h
    have hlo4: ¬Zbd g4 (L.head st.α base idv y').σ l:=fun ho=>by rcases s4'.ownE ho with h | h;exact hlo2 h;exact hld h
    refine ⟨fun b hb hw=>s4.keep.same b hw hb,fun b hb=>s4.keep.live b hb,g4.Z,fun b=>b=l∨Zbd g4 (L.head st.α base idv y').σ b,fun b hb=>⟨s4.zsub b hb,zz b hb⟩,fun b hb=>?_,fun b hb=>?_,fun b hb=>?_,fun b hb=>?_,.inl ⟨by simp,g4,y',rfl,rfl,?_,⟨v4.wf,fun ρ'' h1 h2=>?_,v4.ext,v4.rok⟩,hdl,hlz4,hlo4⟩⟩
    rcases hb with rfl | hb;exact .inl (.inl rfl);exact s4.ownE hb;rcases s4.znew b hb with h | h | h;rcases h with h | h;exact .inl h;exact .inr (.inl h);exact .inr (.inr (.inr h));exact .inr (.inr (.inl h));rcases hb with hb | rfl | hb;exact s4.zlive b hb;rw [hdl];simp;obtain ⟨⟨cc,T,h⟩,_⟩:=s4.ownLive hb;rw [h];simp;rcases hb with rfl | hb;exact hlz4;exact (s4.ownLive hb).2;rw [← hbody];exact hq2
    ·exact sx.unbase (sd.unbase (v4.sim ρ'' h1 h2) (fun b hb=>sd.ownE hb) (fun _ _=>rfl)) hWE zz
   | ret=>
    simp only [Zfu,Zmb] at hq2;simp only [Zig,Option.isNone];obtain ⟨k1,k2,Z',W',k3,k4,k5,k6,k7,k8⟩:=exits .ret .ret rfl hq2 { ({ rec with state:= .busy }:Loop) with state:= .done,pending:=some .ret } (by simp) rfl _ rfl
    exact ⟨k1,k2,Z',W',k3,k4,k5,k6,k7,.inr ⟨by simp,k8⟩⟩
   | exit i=>
    simp only [Zfu,Zmb] at hq2;simp only [Zig,Option.isNone];obtain ⟨k1,k2,Z',W',k3,k4,k5,k6,k7,k8⟩:=exits (.exit i) (.exit i) rfl hq2 { ({ rec with state:= .busy }:Loop) with state:= .done,pending:=some (.exit i) } (by simp) rfl _ rfl
    exact ⟨k1,k2,Z',W',k3,k4,k5,k6,k7,.inr ⟨by simp,k8⟩⟩
   | goto t=>
    simp only [Zfu,Zmb] at hq2;simp only [Zig,Option.isNone];obtain ⟨k1,k2,Z',W',k3,k4,k5,k6,k7,k8⟩:=exits (.goto t) (.goto t) rfl hq2 { ({ rec with state:= .busy }:Loop) with state:= .done,pending:=some (.goto t) } (by simp) rfl _ rfl
    exact ⟨k1,k2,Z',W',k3,k4,k5,k6,k7,.inr ⟨by simp,k8⟩⟩
   | panic ch=>simp only [Zfu,Zmb] at hq2
   | outgrown=>simp only [Zfu,Zmb] at hq2 }
 have s2:=hsim0 iv;have live2: ∀{b:Nat},Zbd g2 (L.head st.α base idv y0).σ b->H b≠none:=fun ho=>by obtain ⟨⟨cc,T,h⟩,_⟩:=s2.ownLive ho;rw [h];simp
 have hol2: ¬Zbd g2 (L.head st.α base idv y0).σ l:=fun ho=>live2 ho hl;have hzl2: ¬g2.Z l:=fun hz=>s2.zlive l hz hl;have ivs:LInv E L ⟨st.α,σ1⟩ ρ H g1 base idv y0 [] Hs g2:=iv.other en (fun b hb=>hHs b (s2.zlive b hb)) (fun i o hi hh=>hHs _ (live2 ⟨i,o,hi,hh,rfl⟩)) hkeep;have zc2: ∀b∈bs,¬g2.Z b∧¬Zbd g2 (L.head st.α base idv y0).σ b:=fun b hb=>by have no: ¬Zbd gc σ1 b:=fun ⟨i,o,h1,h2,h3⟩=>(hbp b hb).2.2.2.2 i o h1 h2 h3.symm;refine ⟨fun hz=>?_,fun ho=>?_⟩;rcases sI.znew b hz with h | h | h;exact (hbp b hb).2.1 h;exact (hbp b hb).1 h;exact no h;rcases sI.ownE ho with h | h;exact no h;exact (hbp b hb).1 h
 have hzz: ∀b,gc.Z b->g2.Z b:=fun b hb=>sI.zsub b hb;have run:=hI Hs g2.Z (fun b=>b=l∨Zbd g2 (L.head st.α base idv y0).σ b) bs us c l C hpre hbn hbl (fun i b v h1 h2=>by
   obtain ⟨T,hT⟩:=hbv i b v h1 h2;exact ⟨T,by rw [hHs b (by rw [hT];simp)];exact hT⟩)
  (SimL.ext (g:=⟨gc.Z,fun _=>0,fun _=> .nilFunc⟩) (g':=⟨g2.Z,fun _=>0,fun _=> .nilFunc⟩) (N:=0) (Nat.le_refl _) ⟨fun b hb=>⟨hzz b hb,hHs b (sc.zlive b hb)⟩,fun _ h=>absurd h (by omega),fun _ h=>absurd h (by omega)⟩ _ _ hus) hw (fun b hb=>by rw [hHs b (s2.zlive b hb)];exact s2.zlive b hb)
  (fun b hb=>⟨(zc2 b hb).1,fun hw=>by
   rcases hw with rfl | hw;exact (hbp b hb).1 hl
   ·exact (zc2 b hb).2 hw⟩)
  (fun b hb=>by
   rcases hb with rfl | hb;exact ⟨by rw [hHl];simp,hzl2⟩
   ·exact ⟨by rw [hHs b (live2 hb)];exact live2 hb,(s2.ownLive hb).2⟩)
  (fun b hb=>by
   have hbl:H b≠none:=by rw [s.layH.1 b hb];exact s.lay.live b hb
   refine ⟨by rw [hHs b hbl];exact hbl,fun hbb=>(by have:=(hbp b hbb).2.2.2.1;rw [hb] at this;cases this),fun hw=>?_⟩
   rcases hw with rfl | hw;exact hlay _ hb rfl
   ·exact s2.laidNo b hb hw)
  (by
   have:layH Hs=layH E.H0:=by
    rw [← s.layH.2];funext b;unfold Sh.layH;split;rename_i hb;exact hHs b (by rw [s.layH.1 b hb];exact s.lay.live b hb)
    rfl
   rw [this];exact s.lay.ok)
  ⟨g2,y0,rfl,rfl,h,ivs,hHl,hzl2,hol2⟩
 have e:(#[.func (.yield l) #[] #[]]++(⟨bs.map Zlf⟩:Array Value))=⟨.func (.yield l) #[] #[]::bs.map Zlf⟩:=by simp
 rw [e];refine run.mono fun _ H' hk=>?_;obtain ⟨Z',W',hk⟩:=hk;rcases hk with ⟨g',y,rfl,rfl,hE,hv,hHl1,hzl,hol⟩ | ⟨e,code,st',g',rfl,rfl,hj,⟨r,hr1,hr2,hr3⟩,s',r',hq,hzl,hol⟩
 ·have s0:=hsim0 hv;refine ⟨rec,hHl1,by rw [hst];simp,?_⟩
  rw [hpe];have hE':fin y:=hE;rw [← hfin] at hE';have fin': ∀o:Obj,Lc E st H g Q .normal ρ (H'.upd l o):=fun o=>by
   obtain ⟨s3,r3⟩:=s0.other (H':=H'.upd l o) (fun b hz=>upd_ne (by rintro rfl;exact hzl hz)) (fun i o hi hh=>upd_ne (fun e=>hol ⟨i,o,hi,hh,e.symm⟩)) (s0.keep.upd (.inr hEl))
   obtain ⟨_,_,_,rl⟩:=en.left hv (α':=(L.head st.α base idv y).α) r3;exact ⟨_,g',s3.unmark σ1,rc.trans rl,hE' hv.wf⟩
  exact fin' _
 ·have fin': ∀o:Obj,Lc E st H g Q e ρ (H'.upd l o):=fun o=>by
   obtain ⟨s3,r3⟩:=s'.other (H':=H'.upd l o) (fun b hz=>upd_ne (by rintro rfl;exact hzl hz)) (fun i o hi hh=>upd_ne (fun e=>hol ⟨i,o,hi,hh,e.symm⟩)) (s'.keep.upd (.inr hEl))
   exact ⟨st',g',s3,(rc.trans r').trans r3,hq⟩
  refine ⟨r,hr1,hr2,?_⟩;rw [hr3];cases e<;>simp only [Zig,Option.some.injEq] at hj<;>first | (cases hj;done) | (subst hj;exact fin' _)
theorem Zbon {F:Nat->St->Zt->Prop} {L:Nat->Bool} {n:Nat} {Q:Zt} {e:Exit} {st:St} (h: ∀l,e≠ .goto l):Zfk F L n Q e st=Q e st:=by
 cases n<;>cases e<;>first | rfl | exact absurd rfl (h _)
theorem Zboo {F:Nat->St->Zt->Prop} {L:Nat->Bool} {n l:Nat} {Q:Zt} {st:St} (h:L l=false):Zfk F L n Q (.goto l) st=Q (.goto l) st:=by cases n<;>simp [Zfk,h]
theorem Zcdx {F:Nat->St->Zt->Prop} {L:Nat->Bool} {n l:Nat} {Q:Zt} {st:St} (h:L l=true):Zfk F L (n+1) Q (.goto l) st=F l st (Zfk F L n Q):=by simp [Zfk,h]
theorem Zcdy {F:Nat->St->Zt->Prop} {L:Nat->Bool} {l:Nat} {Q:Zt} {st:St} (h:L l=true):Zfk F L 0 Q (.goto l) st=False:=by simp [Zfk,h]
theorem Zbei {F:Nat->St->Zt->Prop} {FW:Nat->Env->Heap->Post->Prop} {L:Nat->Bool} (hF: ∀(l:Nat) {E:En} {st:St} {ρ:Env} {H:Heap} {g:Gh} {Q:Zt},Sim E st ρ H g->F l st Q->FW l ρ H (Lc E st H g Q))
  (hm: ∀(l:Nat) {Q Q':Post},(∀e ρ H,Q e ρ H->Q' e ρ H)->∀ρ H,FW l ρ H Q->FW l ρ H Q') {E:En} {st0:St} {H0:Heap} {g0:Gh} {Q:Zt} {QW:Post} (hQ: ∀(e:Exit) {st:St} {ρ:Env} {H:Heap} {g:Gh},Sim E st ρ H g->Rel st0 H0 g0 st H g->Q e st->QW e ρ H):
  ∀(n:Nat) (e:Exit) {st:St} {ρ:Env} {H:Heap} {g:Gh},Sim E st ρ H g->Rel st0 H0 g0 st H g->Zfk F L n Q e st->Zy FW L n QW e ρ H:=by
 intro n;induction n with
 | zero=>
  intro e st ρ H g s r h;rcases Zkb e with ⟨l,rfl⟩ | he
  ·cases hl:L l with
   | true=>rw [Zcdy hl] at h;exact h.elim
   | false=>rw [Zboo hl] at h;rw [Zka hl];exact hQ _ s r h
  ·rw [Zbon he] at h;rw [Zjz he];exact hQ _ s r h
 | succ n ih=>
  intro e st ρ H g s r h;rcases Zkb e with ⟨l,rfl⟩ | he
  ·cases hl:L l with
   | true=>
    rw [Zcdx hl] at h;rw [Zve hl];refine hm l (fun e ρ' H' hk=>?_) _ _ (hF l s h);obtain ⟨st',g',s',r',hq⟩:=hk;exact ih e s' (r.trans r') hq
   | false=>rw [Zboo hl] at h;rw [Zka hl];exact hQ _ s r h
  rw [Zbon he] at h;rw [Zjz he];exact hQ _ s r h
theorem Zbpc {B:St->Zt->Prop} {BW:Env->Heap->Post->Prop} (hB: ∀{E:En} {st:St} {ρ:Env} {H:Heap} {g:Gh} {Q:Zt},Sim E st ρ H g->B st Q->BW ρ H (Lc E st H g Q))
  (hm: ∀{Q Q':Post},(∀e ρ H,Q e ρ H->Q' e ρ H)->∀ρ H,BW ρ H Q->BW ρ H Q'): ∀(n:Nat) {E:En} {st:St} {ρ:Env} {H:Heap} {g:Gh} {Q:Zt} {st0:St} {H0:Heap} {g0:Gh},Sim E st ρ H g->Rel st0 H0 g0 st H g->Zbeo B n st Q->Zfw BW n ρ H (Lc E st0 H0 g0 Q)
 | 0,_,_,_,_,_,_,_,_,_,_,_,h=>h.elim
 | n+1,E,st,ρ,H,g,Q,st0,H0,g0,s,r,h=>hm (fun e ρ' H' hk=>by
   obtain ⟨st',g',s',r',hq⟩:=hk;unfold Zmc at hq;cases hn:Zgu e with
   | true=>rw [Zbnk hn];simp only [hn] at hq;exact Zbpc hB hm n s' (r.trans r') hq
   | false=>rw [Zbdu hn];simp only [hn] at hq;exact ⟨st',g',s',r.trans r',hq⟩) _ _ (hB s h)
mutual
theorem Zgi {P:Program} {tab:Tab} (ht:Zqd P tab) {plan:PPlan}: ∀(c:Code) {E:En} {st:St} {ρ:Env} {H:Heap} {g:Gh} {Q:Zt},Sim E st ρ H g->Zby P tab plan c st Q->Zb P plan.plan c ρ H (Lc E st H g Q)
 | .skip,E,st,ρ,H,g,Q,s,h=>by simp only [Zby] at h;simp only [Zb];exact ⟨st,g,s,.refl _ _ _,h⟩
 | .label _,E,st,ρ,H,g,Q,s,h=>by simp only [Zby] at h;simp only [Zb];exact ⟨st,g,s,.refl _ _ _,h⟩
 | .region id ops draw,E,st,ρ,H,g,Q,s,h=>by simp only [Zby] at h;refine Zb.mono _ (fun e ρ' H' hk=>?_) _ _ (Zbwq ht.1 (loops:=plan.plan.loops) (unr:=plan.unr) s h);obtain ⟨rfl,hk⟩:=hk;exact hk
 | .seq a b,E,st,ρ,H,g,Q,s,h=>by
  simp only [Zby] at h;simp only [Zb];refine Zb.mono a (fun e ρ' H' hk=>?_) _ _ (Zgi ht a s h);obtain ⟨st',g',s',r',hq⟩:=hk;cases e with
  | normal=>exact Zb.mono b (fun e ρ'' H'' hk=>hk.trans r') _ _ (Zgi ht b s' hq)
  | _=>exact ⟨st',g',s',r',hq⟩
 | .cond c x y,E,st,ρ,H,g,Q,s,h=>by
  simp only [Zby] at h;simp only [Zb];have he:=Zjv s c;split at h;rename_i t hc;rw [hc] at he;simp only [SimV] at he;rw [he];exact IfB.mono h (fun h=>Zgi ht x s h) (fun h=>Zgi ht y s h)
  ·exact h.elim
 | .block id c,E,st,ρ,H,g,Q,s,h=>by
  simp only [Zby] at h;simp only [Zb];refine Zb.mono c (fun e ρ' H' hk=>?_) _ _ (Zgi ht c s h);obtain ⟨st',g',s',r',hq⟩:=hk;cases e with
  | exit i=>
   simp only [Zbok] at hq;simp only [Zqf];split at hq;rename_i hb;rw [hb];exact ⟨st',g',s',r',hq⟩
   ·rename_i hb;rw [hb];exact ⟨st',g',s',r',hq⟩
  | _=>exact ⟨st',g',s',r',hq⟩
 | .exit id,E,st,ρ,H,g,Q,s,h=>by simp only [Zby] at h;simp only [Zb];exact ⟨st,g,s,.refl _ _ _,h⟩
 | .goto l,E,st,ρ,H,g,Q,s,h=>by simp only [Zby] at h;simp only [Zb];exact ⟨st,g,s,.refl _ _ _,h⟩
 | .ret,E,st,ρ,H,g,Q,s,h=>by simp only [Zby] at h;simp only [Zb];exact ⟨st,g,s,.refl _ _ _,h⟩
 | .rangeFunc gf ps assign body,E,st,ρ,H,g,Q,s,h=>by
  simp only [Zby] at h;simp only [Zb];have he:=Zjv s gf;split at h
  case h_2=>exact h.elim
  rename_i f caps hf;rw [hf] at he;simp only [SimV] at he;obtain ⟨vs,he,hcs⟩:=he;rw [he];split at h
  case h_2=>exact h.elim
  rename_i I hI;split at h
  case h_2=>exact h.elim
  rename_i c σ1 hin;obtain ⟨hpre,hr⟩:=h;refine ⟨rfl,fun nt d l rec hd hl hne hst hpe hps hra hrb _ hrnd=>?_⟩;exact Zceo (fun s h=>Zgi ht assign s h) (fun s h=>Zgi ht body s h) (fun hq=>Zb.mono assign hq) (fun hq=>Zb.mono body hq) (ht.2.get hI) s hcs hin hpre hr hd hl hne hst hpe hps hra hrb hrnd
 | .refuse _,_,_,_,_,_,_,_,h=>by simp only [Zby] at h
 | .loop c,E,st,ρ,H,g,Q,s,h=>by
  simp only [Zby] at h;simp only [Zb];cases hu:Zgy (Zeg c) plan.unr with
  | some n=>
   have hu':Zgy (Zeg c) plan.plan.unr=some n:=hu;simp only [hu] at h;simp only [hu'];exact Zbpc (fun s h=>Zgi ht c s h) (fun hq=>Zb.mono c hq) n s (.refl _ _ _) h
  | none=>
   have hu':Zgy (Zeg c) plan.plan.unr=none:=hu;simp only [hu] at h;simp only [hu'];exact Zboy (fun s h=>Zgi ht c s h) (fun hq=>Zb.mono c hq) s h
 | .scope c,E,st,ρ,H,g,Q,s,h=>by
  simp only [Zby] at h;simp only [Zb];have hF: ∀(l:Nat) {E:En} {st:St} {ρ:Env} {H:Heap} {g:Gh} {Q:Zt},Sim E st ρ H g->PFr P tab plan c l st Q->Ze P plan.plan c l ρ H (Lc E st H g Q):=fun l {E st ρ H g Q} s h=>Zbeh ht c l s h;have hM:=fun (l:Nat) {Q Q':Post} (hq: ∀e ρ H,Q e ρ H->Q' e ρ H)=>Ze.mono (P:=P) (plan:=plan.plan) c l hq;cases hll:Zlx plan.plan c with
  | none=>
   simp only [hll] at h ⊢;refine Zb.mono c (fun e ρ' H' hk=>?_) _ _ (Zgi ht c s h);obtain ⟨st',g',s',r',hq⟩:=hk;exact Zbei hF hM (fun e {st2 ρ2 H2 g2} s2 r2 hq=>⟨st2,g2,s2,r2,hq⟩) _ e s' r' hq
  | some l=>
   simp only [hll] at h ⊢;have hJ: ∀{st':St} {ρ':Env} {H':Heap} {g':Gh},Sim E st' ρ' H' g'->Rel st H g st' H' g'->Zmn plan (Zeo l) (fun st Q=>PFr P tab plan c l st (Zfk (fun l st Q=>PFr P tab plan c l st Q) (others c l) (nLbl c) Q)) (Zea l) st' Q->
     Zcg plan.plan (Zeo l) (fun ρ H Q=>Ze P plan.plan c l ρ H (Zy (fun l ρ H Q=>Ze P plan.plan c l ρ H Q) (others c l) (nLbl c) Q)) (Zea l) ρ' H' (Lc E st H g Q):=fun {st' ρ' H' g'} s' r' h=>by
    refine Zcg.mono (fun hq=>Ze.mono c l (Zy.mono hM _ hq)) (fun e ρ2 H2 hk=>hk.trans r') ρ' H' (Zboy (fun {E st ρ H g Q} s h=>?_) (fun hq=>Ze.mono c l (Zy.mono hM _ hq)) s' h);refine Ze.mono c l (fun e ρ' H' hk=>?_) _ _ (hF l s h);obtain ⟨st',g',s',r',hq⟩:=hk;exact Zbei hF hM (fun e {st2 ρ2 H2 g2} s2 r2 hq=>⟨st2,g2,s2,r2,hq⟩) _ e s' r' hq
   refine Zk.mono c l (fun e ρ' H' hk=>?_) _ _ (Zbeg ht c l s h);obtain ⟨st',g',s',r',hq⟩:=hk;unfold Zmc at hq;unfold Zcd;cases hn:Zgu e with
   | true=>simp only [hn] at hq ⊢;exact hJ s' r' hq
   | false=>
    simp only [hn] at hq ⊢;refine Zbei hF hM (fun e {st2 ρ2 H2 g2} s2 r2 hq=>?_) _ e s' r' hq;cases hg:Zea l e with
    | true=>simp only [hg] at hq ⊢;exact hJ s2 r2 hq
    | false=>simp only [hg] at hq ⊢;exact ⟨st2,g2,s2,r2,hq⟩
theorem Zbeh {P:Program} {tab:Tab} (ht:Zqd P tab) {plan:PPlan}: ∀(c:Code) (l:Nat) {E:En} {st:St} {ρ:Env} {H:Heap} {g:Gh} {Q:Zt},Sim E st ρ H g->PFr P tab plan c l st Q->Ze P plan.plan c l ρ H (Lc E st H g Q)
 | .seq a b,l,E,st,ρ,H,g,Q,s,h=>by
  simp only [PFr] at h;simp only [Ze];cases hl:Zdn a l with
  | true=>
   simp only [hl] at h ⊢;refine Ze.mono a l (fun e ρ' H' hk=>?_) _ _ (Zbeh ht a l s h);obtain ⟨st',g',s',r',hq⟩:=hk;cases e with
   | normal=>exact Zb.mono b (fun e ρ'' H'' hk=>hk.trans r') _ _ (Zgi ht b s' hq)
   | _=>exact ⟨st',g',s',r',hq⟩
  | false=>
   simp only [hl] at h ⊢;exact Zbeh ht b l s h
 | .label l',l,E,st,ρ,H,g,Q,s,h=>by
  simp only [PFr] at h;simp only [Ze];cases hl:Nat.beq l' l with
  | true=>simp only [hl] at h ⊢;exact ⟨st,g,s,.refl _ _ _,h⟩
  | false=>simp only [hl] at h
 | .skip,_,_,_,_,_,_,_,_,h=>by simp only [PFr] at h
 | .region ..,_,_,_,_,_,_,_,_,h=>by simp only [PFr] at h
 | .cond ..,_,_,_,_,_,_,_,_,h=>by simp only [PFr] at h
 | .block ..,_,_,_,_,_,_,_,_,h=>by simp only [PFr] at h
 | .loop ..,_,_,_,_,_,_,_,_,h=>by simp only [PFr] at h
 | .rangeFunc ..,_,_,_,_,_,_,_,_,h=>by simp only [PFr] at h
 | .exit ..,_,_,_,_,_,_,_,_,h=>by simp only [PFr] at h
 | .scope ..,_,_,_,_,_,_,_,_,h=>by simp only [PFr] at h
 | .goto ..,_,_,_,_,_,_,_,_,h=>by simp only [PFr] at h
 | .ret,_,_,_,_,_,_,_,_,h=>by simp only [PFr] at h
 | .refuse ..,_,_,_,_,_,_,_,_,h=>by simp only [PFr] at h
theorem Zbeg {P:Program} {tab:Tab} (ht:Zqd P tab) {plan:PPlan}: ∀(c:Code) (l:Nat) {E:En} {st:St} {ρ:Env} {H:Heap} {g:Gh} {Q:Zt},Sim E st ρ H g->PBe P tab plan c l st Q->Zk P plan.plan c l ρ H (Lc E st H g Q)
 | .seq a b,l,E,st,ρ,H,g,Q,s,h=>by
  simp only [PBe] at h;simp only [Zk];cases hl:Zdn a l with
  | true=>simp only [hl] at h ⊢;exact Zbeg ht a l s h
  | false=>
   simp only [hl] at h ⊢;refine Zb.mono a (fun e ρ' H' hk=>?_) _ _ (Zgi ht a s h);obtain ⟨st',g',s',r',hq⟩:=hk;cases e with
   | normal=>exact Zk.mono b l (fun e ρ'' H'' hk=>hk.trans r') _ _ (Zbeg ht b l s' hq)
   | _=>exact ⟨st',g',s',r',hq⟩
 | .label l',l,E,st,ρ,H,g,Q,s,h=>by
  simp only [PBe] at h;simp only [Zk];cases hl:Nat.beq l' l with
  | true=>simp only [hl] at h ⊢;exact ⟨st,g,s,.refl _ _ _,h⟩
  | false=>simp only [hl] at h
 | .skip,_,_,_,_,_,_,_,_,h=>by simp only [PBe] at h
 | .region ..,_,_,_,_,_,_,_,_,h=>by simp only [PBe] at h
 | .cond ..,_,_,_,_,_,_,_,_,h=>by simp only [PBe] at h
 | .block ..,_,_,_,_,_,_,_,_,h=>by simp only [PBe] at h
 | .loop ..,_,_,_,_,_,_,_,_,h=>by simp only [PBe] at h
 | .rangeFunc ..,_,_,_,_,_,_,_,_,h=>by simp only [PBe] at h
 | .exit ..,_,_,_,_,_,_,_,_,h=>by simp only [PBe] at h
 | .scope ..,_,_,_,_,_,_,_,_,h=>by simp only [PBe] at h
 | .goto ..,_,_,_,_,_,_,_,_,h=>by simp only [PBe] at h
 | .ret,_,_,_,_,_,_,_,_,h=>by simp only [PBe] at h
 | .refuse ..,_,_,_,_,_,_,_,_,h=>by simp only [PBe] at h
end
end Go.Sh
end
section
namespace Go.Sh
variable [Laid]
def PRes (P:Program) (st:St):List ResultVar->List AV->(AV->Prop)->Prop
 | [],acc,K=>K (match acc with | [v]=>v | vs=> .tup vs)
 | .tmp t::rs,acc,K=>PRes P st rs (acc++[st.α t]) K
 | .cell a t::rs,acc,K=>ldP P st t (st.α a) fun v=>PRes P st rs (acc++[v]) K
def PRet (P:Program) (rs:List ResultVar) (K:AV->St->Prop):Zt:=fun e st=>match e with
 | .normal=>PRes P st rs [] fun v=>K v st
 | .ret=>PRes P st rs [] fun v=>K v st
 | _=>False
theorem Ztt {P:Program} {E:En} {st:St} {ρ:Env} {H:Heap} {g:Gh} (s:Sim E st ρ H g) {R:Value->Prop}: ∀{rs:List ResultVar} {as:List AV} {vs:List Value} {K:AV->Prop},SimL g H st.σ.length as vs->PRes P st rs as K->
  (∀a v,SimV g H st.σ.length a v->K a->R v)->ResW P ρ H rs vs R
 | [],as,vs,K,hs,h,hk=>by
  simp only [PRes] at h;simp only [ResW];refine hk _ _ ?_ h;cases as with
  | nil=>cases vs with
   | nil=>simp only [SimV];exact ⟨[],rfl,hs⟩
   | cons=>simp only [SimL] at hs
  | cons a as=>cases vs with
   | nil=>simp only [SimL] at hs
   | cons v vs=>
    cases as with
    | nil=>cases vs with
     | nil=>simp only [SimL] at hs;exact hs.1
     | cons=>simp only [SimL] at hs;exact hs.2.elim
    | cons b as=>cases vs with
     | nil=>simp only [SimL] at hs;exact hs.2.elim
     | cons u vs=>simp only [SimV];exact ⟨_,rfl,hs⟩
 | .tmp t::rs,as,vs,K,hs,h,hk=>by simp only [PRes] at h;simp only [ResW];exact Ztt s (hs.append (by simp only [SimL];exact ⟨s.tmp t,trivial⟩)) h hk
 | .cell a t::rs,as,vs,K,hs,h,hk=>by simp only [PRes] at h;simp only [ResW];refine Zrq s h (s.tmp a) fun x v hv hx=>?_;exact Ztt s (hs.append (by simp only [SimL];exact ⟨hv,trivial⟩)) hx hk
theorem Sim.shut {E:En} {st:St} {ρ:Env} {H0 H H':Heap} {g:Gh} (s:Sim E st ρ H g) (h0: ∀b,E.Z0 b->H0 b≠none) (hE: ∀b,E.H0 b≠none->H0 b≠none) (hs:Shut H0 H H'):Sim E st ρ H' g∧Rel st H g st H' g:=by
 have sz: ∀b,g.Z b->H' b=H b:=fun b hb=>by rcases hs b with h | ⟨h1,h2,_⟩;exact h;rcases s.zc b hb with h | h;exact absurd h1 (h0 b h);exact absurd h2 (h _)
 have sE: ∀b,E.H0 b≠none->H' b=H b:=fun b hb=>by rcases hs b with h | ⟨h1,_,_⟩;exact h;exact absurd h1 (hE b hb)
 have hext:Ext st.σ.length g H g H':=⟨fun b hz=>⟨hz,sz b hz⟩,fun _ _=>rfl,fun _ _=>rfl⟩;have lv: ∀(i:Nat) (o:AObj),st.σ[i]? =some o->Has g i o->H' (g.B i)=H (g.B i):=fun i o hi hh=>by obtain ⟨c,T,hb⟩:=s.live hi hh;rcases hs (g.B i) with h | ⟨_,h2,_⟩;exact h;rw [hb] at h2;cases h2
 exact ⟨⟨fun t=>SimV.ext (Nat.le_refl _) hext _ _ (s.tmp t),fun i o hi=>SimO.ext (Nat.le_refl _) hext (Zbr hi) (lv i o hi) (s.obj i o hi),s.nz,s.dis,s.own,⟨fun b hb h=>(sE b h).trans (s.keep.same b hb h),fun b h=>by rw [sE b h];exact s.keep.live b h⟩,s.zsub,s.znew,fun b hz=>by rw [sz b hz];exact s.zlive b hz,s.lay,Zpd s.zc sz⟩,⟨Nat.le_refl _,hext,fun i o hi _=>⟨hi,lv i o hi⟩⟩⟩
theorem FnP {P:Program} {f:FuncId} {fn:Func} {plan:PPlan} {c:Code} {tab:Tab} (k:Known P f fn plan.plan c) (ht:Zqd P tab) {args:List Value} (hlen:Nat.ble args.length fn.ntmps=true) {E:En} {st:St} {H:Heap} {g:Gh}
  (s:Sim E st (env0 args) H g) {K:AV->St->Prop} (h:Zby P tab plan c st (PRet P fn.results.toList K)):
  FnW P f ⟨args⟩ H fun v H'=>∃a st' ρ' g',Sim E st' ρ' H' g'∧Rel st H g st' H' g'∧SimV g' H' st'.σ.length a v∧K a st':=by
 refine FnW.of_code k hlen (Zb.mono c (fun e ρ' H' hk=>?_) _ _ (Zgi ht c s h));obtain ⟨st',g',s',r',hq⟩:=hk;have fin: ∀(a:AV) (v:Value),SimV g' H' st'.σ.length a v->K a st'->∀H'',Shut H H' H''->∃a st' ρ' g',Sim E st' ρ' H'' g'∧Rel st H g st' H'' g'∧SimV g' H'' st'.σ.length a v∧K a st':=fun a v hv hka H'' hs=>by obtain ⟨s2,r2⟩:=s'.shut (fun b hb=>s.zlive b (s.zsub b hb)) (fun b hb=>s.keep.live b hb) hs;exact ⟨a,st',ρ',g',s2,r'.trans r2,SimV.ext (Nat.le_refl _) r2.ext _ _ hv,hka⟩
 cases e<;>simp only [PRet] at hq<;>simp only [RetW]<;>first | exact hq.elim | skip
 exact Ztt s' (as:=[]) (vs:=[]) (by simp only [SimL]) hq fin
 exact Ztt s' (as:=[]) (vs:=[]) (by simp only [SimL]) hq fin
def frzP:List AObj->List Pk->List AV->Option (List AObj)
 | σ,[],[]=>some σ
 | σ,p::ps,a::as=>match Zbq p with
  | true=>frzP σ ps as
  | false=>match frzL σ (Zbz a) with
   | some σ'=>frzP σ' ps as
   | none=>none
 | _,_,_=>none
def Zed (σ:List AObj):(p:Pk)->AV->Option (PkT p×Option (Option Nat))
 | .int k,.int k' n=>match decide (k'=k) with
  | true=>some (n,none)
  | false=>none
 | .bool,.bool b=>some (b,none)
 | .str,.str s=>some (s,none)
 | .lst ks,a=>match rdL σ ks a with
  | some xs=>some (xs,none)
  | none=>none
 | .agg ks,.agg cs=>match unT ks (cs.map (Zex σ)) with
  | some x=>some (x,none)
  | none=>none
 | .err,.err b=>some (b,none)
 | .fn f,.fn f' []=>match Nat.beq f' f with
  | true=>some ((),none)
  | false=>none
 | .nil,.nils=>some ((),none)
 | .own _ _,.nils=>some ([],some none)
 | .own T ks,.row id=>match σ[id]? with
  | some (.row T' false ks' xs)=>match Nat.beq T' T,Kd.decs ks' ks with
   | true,isTrue h=>some (Zdl h xs,some (some id))
   | _,_=>none
  | _=>none
 | _,_=>none
def Zdf (σ:List AObj):(ps:List Pk)->List AV->Option (PkTs ps×List (Option Nat))
 | [],[]=>some ((),[])
 | p::ps,a::as=>match Zed σ p a,Zdf σ ps as with
  | some (x,s),some (y,r)=>some ((x,y),match s with | some i=>i::r | none=>r)
  | _,_=>none
 | _,_=>none
def Froz (σ:List AObj) (as:List AV):Prop:=∀a∈as,∀id,a= .row id->∃ks xs,σ[id]? =some (.frz ks xs)
def Zzq (σ:List AObj):List Pk->List AV->Prop
 | p::ps,a::as=>(Zbq p=false->Froz σ (Zbz a))∧Zzq σ ps as
 | _,_=>True
theorem Zlo {E:En} {ρ:Env} {H:Heap} {α:Nat->AV}: ∀(ps:List Pk) (as:List AV) (σ σ':List AObj) (g:Gh),Sim E ⟨α,σ⟩ ρ H g->frzP σ ps as=some σ'->
  ∃g',Sim E ⟨α,σ'⟩ ρ H g'∧Rel ⟨α,σ⟩ H g ⟨α,σ'⟩ H g'∧σ'.length=σ.length∧Zzq σ' ps as∧∀(id:Nat) (ks:List Kd) (xs:List (Tp ks)),σ[id]? =some (.frz ks xs)->σ'[id]? =some (.frz ks xs)
 | [],[],σ,σ',g,s,h=>by simp only [frzP,Option.some.injEq] at h;subst h;exact ⟨g,s,.refl _ _ _,rfl,trivial,fun _ _ _ h=>h⟩
 | [],_::_,_,_,_,_,h=>by simp only [frzP] at h;cases h
 | _::_,[],_,_,_,_,h=>by simp only [frzP] at h;cases h
 | p::ps,a::as,σ,σ',g,s,h=>by
  simp only [frzP] at h;split at h;rename_i hp;obtain ⟨g1,s1,r1,l1,f1,k1⟩:=Zlo ps as σ σ' g s h;exact ⟨g1,s1,r1,l1,⟨(fun hp'=>by rw [hp] at hp';cases hp'),f1⟩,k1⟩
  split at h;rename_i σ1 hf;obtain ⟨g1,s1,r1,l1,f1,k1⟩:=Zbcq (Zbz a) σ σ1 g s hf;obtain ⟨g2,s2,r2,l2,f2,k2⟩:=Zlo ps as σ1 σ' g1 s1 h;refine ⟨g2,s2,r1.trans r2,l2.trans l1,⟨fun _ b hb id e=>?_,f2⟩,fun _ _ _ h=>k2 _ _ _ (k1 _ _ _ h)⟩;obtain ⟨ks,xs,h3⟩:=f1 b hb id e;exact ⟨ks,xs,k2 _ _ _ h3⟩;cases h
theorem Zcfk {E:En} {st:St} {ρ:Env} {H:Heap} {g:Gh} (s:Sim E st ρ H g) {ks:List Kd} {a:AV} {v:Value} {xs:List (Tp ks)} (h:rdL st.σ ks a=some xs) (hf: ∀id,a= .row id->∃ks xs,st.σ[id]? =some (.frz ks xs)) (hs:SimV g H st.σ.length a v):Zh g.Z H (.lst ks) xs v:=by
 unfold rdL at h;split at h;split at h;rename_i hk _;subst hk;cases h;simpa only [SimV,Zdl] using hs;cases h;cases h;simp only [SimV] at hs;simp only [Zh];exact ⟨none,0,0,hs,rfl,Nat.le_refl _,Nat.zero_le _,fun h=>absurd h (by omega)⟩
 rename_i id;obtain ⟨ks2,xs2,ho⟩:=hf id rfl;rw [ho] at h;simp only at h;split at h;rename_i hk _;subst hk;cases h;simp only [SimV] at hs;rw [hs.2.1];exact s.obj id _ ho;cases h;cases h
theorem Zbhy {g:Gh} {H:Heap} {N:Nat} {ks:List Kd} {x:Tp ks} {vs:List Value} (h:Zc g.Z H ks x (fun j=>vs[j]?)) (hl:vs.length=ks.length):SimL g H N (lvT ks x) vs:=by
 obtain ⟨us,h1,h2,h3⟩:=Zoc (N:=N) h;have:us=vs:=by
  apply List.ext_getElem?
  intro i;rcases Nat.lt_or_ge i us.length with h | h;exact (h3 i h).symm;rw [List.getElem?_eq_none h,List.getElem?_eq_none (by omega)]
 rw [← this];exact h2
theorem Zcit {E:En} {st:St} {ρ:Env} {H:Heap} {g:Gh} (s:Sim E st ρ H g) {p:Pk} {a:AV} {v:Value} {x:PkT p} {r:Option (Option Nat)} (h:Zed st.σ p a=some (x,r)) (hs:SimV g H st.σ.length a v) (hf:Zbq p=false->Froz st.σ (Zbz a)):
  WfPk p x∧(Zbq p=false->r=none∧∀(g':Gh) (N:Nat),g'.Z=g.Z->SimV g' H N (pkA 0 p x) v)∧
  (∀T ks,p= .own T ks->∃i,r=some i∧((∃id,i=some id∧∃xs,st.σ[id]? =some (.row T false ks xs)∧HEq xs x∧v=g.V id)∨(i=none∧v= .slice none 0 0∧HEq x ([]:List (Tp ks))))):=by
 cases p with
 | int k0=>
  cases a<;>simp only [Zed] at h<;>first | (cases h;done) | skip
  split at h;rename_i hk;have:=of_decide_eq_true hk;subst this;cases h;simp only [SimV] at hs;exact ⟨hs.2,fun _=>⟨rfl,fun g' N _=>by simp only [pkA,SimV];exact hs⟩,fun T ks e=>by cases e⟩
  ·cases h
 | bool=>
  cases a<;>simp only [Zed] at h<;>first | (cases h;done) | skip
  cases h;simp only [SimV] at hs;exact ⟨trivial,fun _=>⟨rfl,fun g' N _=>by simp only [pkA,SimV];exact hs⟩,fun T ks e=>by cases e⟩
 | str=>
  cases a<;>simp only [Zed] at h<;>first | (cases h;done) | skip
  cases h;simp only [SimV] at hs;exact ⟨hs.2,fun _=>⟨rfl,fun g' N _=>by simp only [pkA,SimV];exact hs⟩,fun T ks e=>by cases e⟩
 | err=>
  cases a<;>simp only [Zed] at h<;>first | (cases h;done) | skip
  cases h;simp only [SimV] at hs;exact ⟨trivial,fun _=>⟨rfl,fun g' N _=>by simp only [pkA,SimV];exact hs⟩,fun T ks e=>by cases e⟩
 | nil=>
  cases a<;>simp only [Zed] at h<;>first | (cases h;done) | skip
  cases h;simp only [SimV] at hs;exact ⟨trivial,fun _=>⟨rfl,fun g' N _=>by simp only [pkA,SimV];exact hs⟩,fun T ks e=>by cases e⟩
 | fn f'=>
  cases a<;>simp only [Zed] at h<;>first | (cases h;done) | skip
  rename_i f2 caps;cases caps with
  | cons=>simp only [Zed] at h;cases h
  | nil=>
   simp only [Zed] at h;split at h
   ·rename_i hb;cases h;have:=Nat.eq_of_beq_eq_true hb;subst this;simp only [SimV] at hs;obtain ⟨vs,rfl,hvs⟩:=hs;cases vs with
    | cons=>simp only [SimL] at hvs
    | nil=>exact ⟨trivial,fun _=>⟨rfl,fun g' N _=>by simp only [pkA,SimV];exact ⟨[],rfl,by simp only [SimL]⟩⟩,fun T ks e=>by cases e⟩
   ·cases h
 | lst ks'=>
  simp only [Zed] at h;split at h
  ·rename_i xs hrd;cases h;have hc:=Zcfk s hrd (fun id e=>hf rfl a (by rw [e];simp [Zbz]) id e) hs
   exact ⟨Zh.wf (.lst ks') x v hc,fun _=>⟨rfl,fun g' N hz=>by simp only [pkA,SimV];rw [hz];exact hc⟩,fun T ks e=>by cases e⟩
  ·cases h
 | agg ks'=>
  cases a<;>simp only [Zed] at h<;>first | (cases h;done) | skip
  split at h
  ·rename_i y hy;cases h;simp only [SimV] at hs;obtain ⟨vs,rfl,hs⟩:=hs;have h1:=Zxx s (fun b hb id e=>hf rfl b (by simpa [Zbz] using hb) id e) hs
   have h2:=Zks hy h1;have h3:=Zxw hy;have h4:=h1.len;refine ⟨Zc.wf _ _ _ h2,fun _=>⟨rfl,fun g' N hz=>?_⟩,fun T ks e=>by cases e⟩
   simp only [pkA,SimV];exact ⟨vs,rfl,Zbhy (by rw [hz];exact h2) (by omega)⟩
  ·cases h
 | own T ks'=>
  cases a<;>simp only [Zed] at h<;>first | (cases h;done) | skip
  ·cases h;simp only [SimV] at hs;refine ⟨by simp only [WfPk,WfE];exact ⟨Nat.zero_le _,fun x hx=>by simp [asL] at hx⟩,(fun e=>by cases e),fun T ks e=>?_⟩
   cases e;exact ⟨none,rfl,.inr ⟨rfl,hs,HEq.rfl⟩⟩
  ·rename_i id;split at h
   ·rename_i T' ks2 xs ho;split at h
    ·rename_i _ _ hke hT _;have hT:=Nat.eq_of_beq_eq_true hT;subst hT hke;cases h;simp only [SimV] at hs;refine ⟨?_,(fun e=>by cases e),fun T ks e=>?_⟩
     ·simp only [WfPk,WfE,Zdl];obtain ⟨a',n',c',h1,h2,h3,h4,hat⟩:=Zbc (T:=0) (N:=st.σ.length) (s.obj id _ ho);refine ⟨by simp only [asL];omega,fun x hx=>?_⟩
      obtain ⟨i,hi⟩:=List.getElem?_of_mem hx;obtain ⟨_,_,hw3,_⟩:=hat i x hi;exact hw3
     cases e;exact ⟨some id,rfl,.inl ⟨id,rfl,xs,ho,HEq.rfl,hs.2.1⟩⟩
    cases h
   cases h
theorem Zpa {E:En} {st:St} {ρ:Env} {H:Heap} {g:Gh} (s:Sim E st ρ H g): ∀{ps:List Pk} {as:List AV} {vs:List Value} {x:PkTs ps} {src:List (Option Nat)},Zdf st.σ ps as=some (x,src)->SimL g H st.σ.length as vs->Zzq st.σ ps as->
  WfPs ps x∧(pksR ps x).length=src.length∧
  (∀(j:Nat) (o:AObj) (i:Option Nat),(pksR ps x)[j]? =some o->src[j]? =some i->(∃id,i=some id∧st.σ[id]? =some o∧isRo o=false∧(∃T ks xs,o= .row T false ks xs))∨(i=none∧∃T ks,o= .row T false ks []))∧
  ∀(g'':Gh) (N N'':Nat),Srcs g g'' N src->N+src.length <= N''->g''.Z=g.Z->SimL g'' H N'' (pksA N ps x) vs
 | [],[],[],x,src,h,hs,_=>by simp only [Zdf] at h;cases h;exact ⟨trivial,rfl,fun j o i hj=>by simp [pksR] at hj,fun g'' N N'' _ _ _=>by simp only [pksA,SimL]⟩
 | [],[],_::_,_,_,_,hs,_=>by simp only [SimL] at hs
 | [],_::_,_,_,_,h,_,_=>by simp only [Zdf] at h;cases h
 | _::_,[],_,_,_,h,_,_=>by simp only [Zdf] at h;cases h
 | _::_,_::_,[],_,_,_,hs,_=>by simp only [SimL] at hs
 | p::ps,a::as,v::vs,x,src,h,hs,hf=>by
  simp only [SimL] at hs;simp only [Zdf] at h;split at h
  ·rename_i x' r' y r hx hy;simp only [Option.some.injEq,Prod.mk.injEq] at h;obtain ⟨rfl,rfl⟩:=h;obtain ⟨w,hlen,hrow,hsim⟩:=Zpa s hy hs.2 hf.2;obtain ⟨w1,hval,hown⟩:=Zcit s hx hs.1 hf.1;have pl: ∀(p':Pk) (x':PkT p') (N:Nat),Zbq p'=false->pkA N p' x'=pkA 0 p' x':=fun p' x' N h=>by cases p'<;>first | rfl | cases h
   cases hp:Zbq p with
   | false=>
    obtain ⟨rfl,hv⟩:=hval hp;have e:pksR (p::ps) (x',y)=pksR ps y:=by cases p<;>first | rfl | cases hp
    refine ⟨⟨w1,w⟩,by rw [e];exact hlen,by rw [e];exact hrow,fun g'' N N'' h1 h2 h3=>?_⟩
    simp only [pksA,hp,SimL];rw [pl _ _ _ hp];exact ⟨hv g'' N'' h3,hsim g'' N N'' h1 h2 h3⟩
   | true=>
    obtain ⟨T,ks,rfl⟩: ∃T ks,p= .own T ks:=by cases p<;>first | (cases hp;done) | exact ⟨_,_,rfl⟩
    obtain ⟨i,rfl,hi⟩:=hown T ks rfl;refine ⟨⟨w1,w⟩,by simp [pksR,hlen],fun j o i' hj hi'=>?_,fun g'' N N'' h1 h2 h3=>?_⟩
    ·cases j with
     | zero=>
      simp [pksR] at hj;simp at hi';subst hj hi';rcases hi with ⟨id,rfl,xs,ho,he,_⟩ | ⟨rfl,_,he⟩;cases he;exact .inl ⟨id,rfl,ho,rfl,_,_,_,rfl⟩
      ·cases he;exact .inr ⟨rfl,T,ks,rfl⟩
     | succ j=>exact hrow j o i' (by simpa [pksR] using hj) (by simpa using hi')
    ·simp only [pksA,Zbq,SimL];simp only [List.length_cons] at h2;refine ⟨?_,hsim g'' (N+1) N'' h1.tail (by omega) h3⟩
     simp only [pkA,SimV];have hsl: ∃a n c,v= .slice a n c:=by
      rcases hi with ⟨id,rfl,xs,ho,he,hv⟩ | ⟨rfl,hv,_⟩;obtain ⟨a,n,c,h,_⟩:=s.obj id _ ho;exact ⟨a,n,c,by rw [hv,h]⟩
      exact ⟨none,0,0,hv⟩
     refine ⟨by omega,?_,hsl⟩
     rcases hi with ⟨id,rfl,xs,ho,he,hv⟩ | ⟨rfl,hv,_⟩;have:=(h1.hit 0 id rfl).1;simp only [Nat.add_zero] at this;rw [this,hv];have:=h1.nil 0 rfl;simp only [Nat.add_zero] at this;rw [this,hv]
  cases h
def outL (rs:List Pk) (a:AV):Option (List AV):=match rs with
 | [_]=>some [a]
 | _=>match a with
  | .tup as=>some as
  | _=>none
def outA:List AV->AV
 | [a]=>a
 | as=> .tup as
def outP (rs:List Pk) (st:St) (a:AV) (K:PkTs rs->Prop):Prop:=match outL rs a with
 | some as=>match frzP st.σ rs as with
  | some σ'=>match Zdf σ' rs as with
   | some (y,src)=>match Zct (Zr src) with
    | true=>K y
    | false=>False
   | none=>False
  | none=>False
 | none=>False
def parS (ps:List Pk) (x:PkTs ps):St:=⟨fun i=>(pksA 0 ps x).getD i .undef,pksR ps x⟩
def FnQ (P:Program) (f:FuncId) (ps rs:List Pk) (q:PkTs ps->(PkTs rs->Prop)->Prop):Prop:=
 ∀(x:PkTs ps) (K:PkTs rs->Prop),q x K->∀(H:Heap) (g:Gh) (vs:List Value),vs.length=ps.length->Sim ⟨H,Zbd g (pksR ps x),g.Z⟩ (parS ps x) (env0 vs) H g->
  FnW P f ⟨vs⟩ H fun v H'=>∃a st' ρ' g',Sim ⟨H,Zbd g (pksR ps x),g.Z⟩ st' ρ' H' g'∧SimV g' H' st'.σ.length a v∧outP rs st' a K
theorem Zfh {P:Program} {f:FuncId} {fn:Func} {plan:PPlan} {c:Code} {tab:Tab} {ps rs:List Pk} (k:Known P f fn plan.plan c) (ht:Zqd P tab) (hlen:Nat.ble ps.length fn.ntmps=true):
  FnQ P f ps rs fun x K=>Zby P tab plan c (parS ps x) (PRet P fn.results.toList fun a st=>outP rs st a K):=by
 intro x K h H g vs hvs s;refine (FnP k ht (by rw [hvs];exact hlen) s h).mono fun v H' hk=>?_
 obtain ⟨a,st',ρ',g',h1,_,h3,h4⟩:=hk;exact ⟨a,st',ρ',g',h1,h3,h4⟩
theorem FnQ.of_eq {P:Program} {f:FuncId} {ps rs:List Pk} {q q':PkTs ps->(PkTs rs->Prop)->Prop} (h:FnQ P f ps rs q') (e:q=q'):FnQ P f ps rs q:=e▸h
theorem FnQ.mono {P:Program} {f:FuncId} {ps rs:List Pk} {q q':PkTs ps->(PkTs rs->Prop)->Prop} (h:FnQ P f ps rs q) (hq: ∀x K,q' x K->q x K):FnQ P f ps rs q':=
 fun x K hx=>h x K (hq x K hx)
def Zfi:List Nat->Nat->List AObj->List AObj
 | _,_,[]=>[]
 | l,i,o::os=>(match memB i l with | true=> .gone | false=>o)::Zfi l (i+1) os
theorem Zblb (l:List Nat): ∀(σ:List AObj) (i:Nat),(Zfi l i σ).length=σ.length
 | [],_=>rfl
 | o::os,i=>by simp [Zfi,Zblb l os]
theorem Zbkz (l:List Nat): ∀(σ:List AObj) (i j:Nat) (o:AObj),(Zfi l i σ)[j]? =some o->(i+j∈l∧o= .gone)∨(i+j∉l∧σ[j]? =some o)
 | [],_,_,_,h=>by simp [Zfi] at h
 | a::σ,i,0,o,h=>by
  simp only [Zfi,List.getElem?_cons_zero,Option.some.injEq] at h;simp only [Nat.add_zero];cases hm:memB i l with
  | true=>rw [hm] at h;exact .inl ⟨Zbu.1 hm,h.symm⟩
  | false=>
   rw [hm] at h;exact .inr ⟨(fun hc=>by rw [Zbu.2 hc] at hm;cases hm),by simpa using h⟩
 | a::σ,i,j+1,o,h=>by
  simp only [Zfi,List.getElem?_cons_succ] at h;have:=Zbkz l σ (i+1) j o h;have e:i+1+j=i+(j+1):=by omega
  rw [e] at this;simpa using this
theorem Zbla (l:List Nat): ∀(σ:List AObj) (i j:Nat) (o:AObj),i+j∉l->σ[j]? =some o->(Zfi l i σ)[j]? =some o
 | [],_,_,_,_,h=>by simp at h
 | a::σ,i,0,o,hn,h=>by
  simp only [Nat.add_zero] at hn;simp only [Zfi,List.getElem?_cons_zero];cases hm:memB i l with
  | true=>exact absurd (Zbu.1 hm) hn
  | false=>simpa using h
 | a::σ,i,j+1,o,hn,h=>by
  simp only [Zfi,List.getElem?_cons_succ];exact Zbla l σ (i+1) j o (by
    have e:i+1+j=i+(j+1):=by omega
    rw [e];exact hn) (by simpa using h)
def Zqj (ps rs:List Pk) (q:PkTs ps->(PkTs rs->Prop)->Prop):Ct:=fun st args K=>
 match frzP st.σ ps args with
 | some σ1=>match Zdf σ1 ps args with
  | some (x,src)=>match Zct (Zr src) with
   | true=>WfPs ps x->q x fun y=>WfPs rs y->K (outA (pksA st.σ.length rs y)) ⟨st.α,Zfi (Zr src) 0 σ1++pksR rs y⟩
   | false=>False
  | none=>False
 | none=>False
theorem Zwk {g:Gh} {H:Heap} {N:Nat} {rs:List Pk} {a:AV} {v:Value} {as:List AV} (h:outL rs a=some as) (hl:as.length=rs.length) (hs:SimV g H N a v): ∃ws,SimL g H N as ws∧∀(g':Gh) (H':Heap) (N':Nat) (bs:List AV),bs.length=rs.length->SimL g' H' N' bs ws->SimV g' H' N' (outA bs) v:=by
 unfold outL at h;split at h
 ·cases h;refine ⟨[v],by simp only [SimL];exact ⟨hs,trivial⟩,fun g' H' N' bs hbl hb=>?_⟩
  cases bs with
  | nil=>simp only [SimL] at hb
  | cons b bs=>
   cases bs with
   | nil=>simp only [SimL] at hb;exact hb.1
   | cons=>simp only [SimL] at hb;exact hb.2.elim
 ·rename_i hne;split at h
  ·cases h;simp only [SimV] at hs;obtain ⟨ws,rfl,hs⟩:=hs;refine ⟨ws,hs,fun g' H' N' bs hbl hb=>?_⟩;have hsim:SimV g' H' N' (.tup bs) (.tuple ⟨ws⟩):=by simp only [SimV];exact ⟨ws,rfl,hb⟩
   cases bs with
   | nil=>exact hsim
   | cons b bs=>
    cases bs with
    | nil=>
     obtain ⟨r,hr⟩: ∃r,rs= [r]:=by
      cases rs with
      | nil=>simp at hbl
      | cons r rs=>
       cases rs with
       | nil=>exact ⟨r,rfl⟩
       | cons=>simp at hbl
     exact absurd hr (hne r)
    | cons=>exact hsim
  cases h
theorem Zoz {σ:List AObj}: ∀{ps:List Pk} {as:List AV} {r:PkTs ps×List (Option Nat)},Zdf σ ps as=some r->as.length=ps.length
 | [],[],_,_=>rfl
 | [],_::_,_,h=>by simp only [Zdf] at h;cases h
 | _::_,[],_,h=>by simp only [Zdf] at h;cases h
 | p::ps,a::as,r,h=>by simp only [Zdf] at h;split at h;rename_i hy;simp [Zoz hy];cases h
theorem Zom {g:Gh} {H:Heap} {N:Nat}: ∀{as:List AV} {vs:List Value},SimL g H N as vs->∀i,SimV g H N (as.getD i .undef) (vs.getD i undef)
 | [],[],_,i=>by simp [SimV]
 | [],_::_,h,_=>by simp only [SimL] at h
 | _::_,[],h,_=>by simp only [SimL] at h
 | a::as,v::vs,h,0=>by simp only [SimL] at h;simpa using h.1
 | a::as,v::vs,h,i+1=>by simp only [SimL] at h;simpa using Zom h.2 i
theorem Zbaz {P:Program} {f:FuncId} {ps rs:List Pk} {q:PkTs ps->(PkTs rs->Prop)->Prop} (hq:FnQ P f ps rs q):Zcp P f (Zqj ps rs q):=by
 intro E st ρ H g args vs K s hargs h;unfold Zqj at h;split at h
 case h_2=>exact h.elim
 rename_i σ1 hfr;split at h
 case h_2=>exact h.elim
 rename_i x src htk;split at h
 case h_2=>exact h.elim
 rename_i huq;obtain ⟨g1,s1,r1,l1,f1,_⟩:=Zlo ps args st.σ σ1 g s hfr;have hargs1:=SimL.ext r1.len r1.ext _ _ hargs;obtain ⟨hw,hlen,hrow,hsim⟩:=Zpa s1 htk hargs1 f1;obtain ⟨g2,hZ2,_,hS2,hfin⟩:=s1.rehead (base:=[]) (rows:=pksR ps x) (src:=src) (Nat.zero_le _) hlen (fun id o ho=>by simp at ho) hrow (Zsh (Zmh huq))
 have hsl:=hsim g2 0 (0+(pksR ps x).length) (by simpa using hS2) (by omega) hZ2
 have s2:Sim E (parS ps x) (env0 vs) H g2:=by
  have:=hfin [] (fun i=>(pksA 0 ps x).getD i .undef) (env0 vs) rfl (fun id o ho=>by simp at ho) (fun t=>by simpa [env0] using Zom hsl t)
  simpa [parS] using this
 have hvl:vs.length=ps.length:=by rw [← hargs.len,Zoz htk]
 refine (hq x _ (h hw) H g2 vs hvl s2.enter).mono fun v H' hk=>?_;obtain ⟨a,st',ρ',g',s',hav,hout⟩:=hk;unfold outP at hout;split at hout
 case h_2=>exact hout.elim
 rename_i as hol;split at hout
 case h_2=>exact hout.elim
 rename_i σ' hfr';split at hout
 case h_2=>exact hout.elim
 rename_i y src' htk';split at hout
 case h_2=>exact hout.elim
 rename_i huq';obtain ⟨g3,s3,r3,l3,f3,_⟩:=Zlo rs as st'.σ σ' g' s' hfr';obtain ⟨ws,hws,hwsF⟩:=Zwk hol (Zoz htk') hav;have hws3:=SimL.ext r3.len r3.ext _ _ hws;obtain ⟨hw',hlen',hrow',hsim'⟩:=Zpa s3 htk' hws3 f3;have ownE: ∀b,Zbd g2 (pksR ps x) b->∃id∈Zr src,∃o,σ1[id]? =some o∧isRo o=false∧Has g1 id o∧b=g1.B id:=by
  rintro b ⟨i,o,hi,hh,rfl⟩;have hil:i<(pksR ps x).length:=Zbr hi;obtain ⟨k,hk⟩: ∃k,src[i]? =some k:=⟨src[i]'(by omega),by simp⟩
  rcases hrow i o k hi hk with ⟨id,rfl,h1,h2,T,ks,xs,rfl⟩ | ⟨rfl,T,ks,rfl⟩;have:=hS2.hit i id hk;simp only [List.length_nil,Nat.zero_add] at this;refine ⟨id,Zoo hk,_,h1,h2,?_,this.2⟩;obtain ⟨a,n,c,h⟩:=hh;exact ⟨a,n,c,by rw [← this.1];exact h⟩
  have:=hS2.nil i hk;simp only [List.length_nil,Nat.zero_add] at this;obtain ⟨a,n,c,h⟩:=hh;rw [this] at h;cases h
 have liveB: ∀(i:Nat) (o:AObj),σ1[i]? =some o->Has g1 i o->H (g1.B i)≠none:=fun i o hi hh=>by obtain ⟨c,T,hb⟩:=s1.live hi hh;rw [hb];simp
 have notOwned: ∀(i:Nat) (o:AObj),i∉Zr src->σ1[i]? =some o->Has g1 i o->¬Zbd g2 (pksR ps x) (g1.B i):=fun i o hn hi hh ho=>by obtain ⟨id,hid,o',h1,_,h2,h3⟩:=ownE _ ho;exact s1.dis i id o o' (fun e=>hn (e▸hid)) hi h1 hh h2 h3
 have zNotOwned: ∀b,g1.Z b->¬Zbd g2 (pksR ps x) b:=fun b hz ho=>by obtain ⟨id,_,o',h1,_,h2,rfl⟩:=ownE _ ho;exact s1.nz id o' h1 h2 hz
 have same: ∀b,H b≠none->¬Zbd g2 (pksR ps x) b->H' b=H b:=fun b hb ho=>s3.keep.same b ho hb
 let N:=σ1.length
 let g4:Gh:=⟨g3.Z,fun i=>if i<σ1.length then g1.B i else match src'[i - σ1.length]? with | some (some id)=>g3.B id | _=>0,fun i=>if i<σ1.length then g1.V i else match src'[i - σ1.length]? with | some (some id)=>g3.V id | _=> .slice none 0 0⟩
 have hext:Ext σ1.length g1 H g4 H':=⟨fun b hz=>⟨s3.zsub b (by show g2.Z b;rw [hZ2];exact hz),same b (s1.zlive b hz) (zNotOwned b hz)⟩,fun i hi=>if_pos hi,fun i hi=>if_pos hi⟩
 have hS4:Srcs g3 g4 σ1.length src':=by
  refine ⟨fun j id hj=>⟨?_,?_⟩,fun j hj=>?_⟩
  ·show (if σ1.length+j<σ1.length then _ else _)=_
   rw [if_neg (by omega),Nat.add_sub_cancel_left,hj]
  ·show (if σ1.length+j<σ1.length then _ else _)=_
   rw [if_neg (by omega),Nat.add_sub_cancel_left,hj]
  ·show (if σ1.length+j<σ1.length then _ else _)=_
   rw [if_neg (by omega),Nat.add_sub_cancel_left,hj]
 have hgl:=Zblb (Zr src) σ1 0;have hN4:(Zfi (Zr src) 0 σ1++pksR rs y).length=σ1.length+(pksR rs y).length:=by simp [hgl]
 have parts: ∀(i:Nat) (o:AObj),(Zfi (Zr src) 0 σ1++pksR rs y)[i]? =some o->(i<σ1.length∧((i∈Zr src∧o= .gone)∨(i∉Zr src∧σ1[i]? =some o)))∨(∃j,i=σ1.length+j∧(pksR rs y)[j]? =some o∧∃k,src'[j]? =some k):=by
  intro i o hi;rcases Nat.lt_or_ge i σ1.length with h | h
  ·rw [List.getElem?_append_left (by omega)] at hi
   have:=Zbkz _ _ _ _ _ hi;simp only [Nat.zero_add] at this;exact .inl ⟨h,this⟩
  ·rw [List.getElem?_append_right (by omega),hgl] at hi
   have:i - σ1.length<(pksR rs y).length:=Zbr hi;exact .inr ⟨i - σ1.length,by omega,hi,src'[i - σ1.length]'(by omega),by simp⟩
 have newOld: ∀(j:Nat) (o:AObj) (k:Option Nat),(pksR rs y)[j]? =some o->src'[j]? =some k->Has g4 (σ1.length+j) o->∃id o',k=some id∧σ'[id]? =some o'∧Has g3 id o'∧g4.B (σ1.length+j)=g3.B id:=by
  intro j o k hj hk hh;rcases hrow' j o k hj hk with ⟨id,rfl,h1,_,T,ks,xs,rfl⟩ | ⟨rfl,T,ks,rfl⟩;obtain ⟨hv,hb⟩:=hS4.hit j id hk;obtain ⟨a,n,c,h⟩:=hh;exact ⟨id,_,rfl,h1,⟨a,n,c,by rw [← hv];exact h⟩,hb⟩
  obtain ⟨a,n,c,h⟩:=hh;rw [hS4.nil j hk] at h;cases h
 have newBlk: ∀id o',σ'[id]? =some o'->Has g3 id o'->∀(i:Nat) (o:AObj),i∉Zr src->σ1[i]? =some o->Has g1 i o->g1.B i≠g3.B id:=by
  intro id o' h1 h2 i o hn hi hh e;rcases s3.own id o' h1 h2 with h | h;exact notOwned i o hn hi hh (by rw [e];exact h)
  exact liveB i o hi hh (by rw [e];exact h)
 have hsl4:=hsim' g4 σ1.length (σ1.length+(pksR rs y).length) hS4 (by omega) rfl
 have Eown: ∀b,(Zbd g2 (pksR ps x) b∨H b=none)->E.O0 b∨E.H0 b=none:=fun b hb=>by rcases hb with h | h;obtain ⟨id,_,o',h1,_,h2,rfl⟩:=ownE _ h;exact s1.own id o' h1 h2;exact .inr (s1.keep.free h)
 have s4:Sim E ⟨st.α,Zfi (Zr src) 0 σ1++pksR rs y⟩ ρ H' g4:=by
  refine ⟨fun t=>?_,fun i o hi=>?_,fun i o hi hh=>?_,fun i j oi oj hij hi hj hhi hhj=>?_,fun i o hi hh=>?_,⟨fun b hb h0=>?_,fun b h0=>?_⟩,fun b hz=>?_,fun b hz=>?_,fun b hz=>s3.zlive b hz,s.lay,fun b hz=>by
   rcases s3.zc b hz with h | h
   ·have h1:g1.Z b:=by have:g2.Z b:=h;rwa [hZ2] at this
    rcases s1.zc b h1 with h2 | h2;exact .inl h2
    ·exact .inr fun ds=>by rw [same b (s1.zlive b h1) (zNotOwned b h1)];exact h2 ds
   ·exact .inr h⟩
  simp only [hN4];exact SimV.ext (Nat.le_add_right _ _) hext _ _ (s1.tmp t);simp only [hN4];rcases parts i o hi with ⟨h1,⟨_,rfl⟩ | ⟨h2,h3⟩⟩ | ⟨j,rfl,h2,k,hk⟩;trivial;exact SimO.ext (Nat.le_add_right _ _) hext h1 (fun hh=>same _ (liveB i o h3 hh) (notOwned i o h2 h3 hh)) (s1.obj i o h3);rcases hrow' j o k h2 hk with ⟨id,rfl,h3,_,T,ks,xs,rfl⟩ | ⟨rfl,T,ks,rfl⟩;obtain ⟨hv,hb⟩:=hS4.hit j id hk;have:=s3.obj id _ h3;simp only [SimO] at this ⊢;rw [hv,hb];exact this;simp only [SimO];exact ⟨none,0,0,hS4.nil j hk,rfl,Nat.le_refl _,Nat.zero_le _,.inl ⟨rfl,rfl⟩⟩
  ·rcases parts i o hi with ⟨h1,⟨_,rfl⟩ | ⟨h2,h3⟩⟩ | ⟨j,rfl,h2,k,hk⟩;exact hh.elim
   ·rw [hext.b i h1];have hh1:=(Has.ext hext h1).1 hh;intro hz;rcases s3.znew _ hz with h | h | h;exact s1.nz i o h3 hh1 (by have:g2.Z (g1.B i):=h;rwa [hZ2] at this)
    exact liveB i o h3 hh1 h;exact notOwned i o h2 h3 hh1 h
   obtain ⟨id,o',rfl,h3,h4,h5⟩:=newOld j o k h2 hk hh;rw [h5];exact s3.nz id o' h3 h4
  rcases parts i oi hi with ⟨h1,⟨_,rfl⟩ | ⟨h2,h3⟩⟩ | ⟨j1,rfl,h2,k,hk⟩;exact hhi.elim;rcases parts j oj hj with ⟨h4,⟨_,rfl⟩ | ⟨h5,h6⟩⟩ | ⟨j2,rfl,h5,k2,hk2⟩;exact hhj.elim;rw [hext.b i h1,hext.b j h4];exact s1.dis i j oi oj hij h3 h6 ((Has.ext hext h1).1 hhi) ((Has.ext hext h4).1 hhj);obtain ⟨id,o',rfl,h6,h7,h8⟩:=newOld j2 oj k2 h5 hk2 hhj;rw [hext.b i h1,h8];exact newBlk id o' h6 h7 i oi h2 h3 ((Has.ext hext h1).1 hhi);obtain ⟨id,o',rfl,h6,h7,h8⟩:=newOld j1 oi k h2 hk hhi;rcases parts j oj hj with ⟨h4,⟨_,rfl⟩ | ⟨h5,h9⟩⟩ | ⟨j2,rfl,h5,k2,hk2⟩;exact hhj.elim;rw [hext.b j h4,h8];exact fun e=>newBlk id o' h6 h7 j oj h5 h9 ((Has.ext hext h4).1 hhj) e.symm;obtain ⟨id2,o2,rfl,h9,h10,h11⟩:=newOld j2 oj k2 h5 hk2 hhj;rw [h8,h11];refine s3.dis id id2 o' o2 (fun e=>?_) h6 h9 h7 h10;subst e;exact hij (by rw [Zsh (Zmh huq') j1 j2 id hk hk2])
  rcases parts i o hi with ⟨h1,⟨_,rfl⟩ | ⟨h2,h3⟩⟩ | ⟨j,rfl,h2,k,hk⟩;exact hh.elim;rw [hext.b i h1];exact s1.own i o h3 ((Has.ext hext h1).1 hh);obtain ⟨id,o',rfl,h3,h4,h5⟩:=newOld j o k h2 hk hh;rw [h5];exact Eown _ (s3.own id o' h3 h4)
  ·have hbl:=s1.keep.live b h0;rw [same b hbl fun ho=>by
    rcases Eown b (.inl ho) with h | h;exact hb h
    ·exact h0 h]
   exact s1.keep.same b hb h0
  exact s3.keep.live b (s1.keep.live b h0);exact s3.zsub b (by show g2.Z b;rw [hZ2];exact s1.zsub b hz)
  ·rcases s3.znew b hz with h | h | h;exact s1.znew b (by have:g2.Z b:=h;rwa [hZ2] at this)
   exact .inr (.inl (s1.keep.free h));rcases Eown b (.inl h) with h | h;exact .inr (.inr h);exact .inr (.inl h)
 have rel:Rel ⟨st.α,σ1⟩ H g1 ⟨st.α,Zfi (Zr src) 0 σ1++pksR rs y⟩ H' g4:=by
  refine ⟨by simp only [hN4];omega,hext,fun id o ho hr=>?_⟩
  have hn:id∉Zr src:=fun hm=>by
   obtain ⟨j,hj⟩:=Zsg hm;have hjl:j<(pksR ps x).length:=by rw [hlen];rcases Nat.lt_or_ge j src.length with h | h;exact h;rw [List.getElem?_eq_none h] at hj;cases hj
   rcases hrow j _ _ (List.getElem?_eq_getElem hjl) hj with ⟨id',e,h1,h2,_⟩ | ⟨e,_⟩;cases e;have ho':σ1[id]? =some o:=ho;rw [h1] at ho';cases ho';rw [h2] at hr;cases hr;cases e
  refine ⟨?_,fun hh=>same _ (liveB id o ho hh) (notOwned id o hn ho hh)⟩;rw [List.getElem?_append_left (by rw [hgl];exact Zbr ho)]
  exact Zbla _ _ 0 id o (by simpa using hn) ho
 refine ⟨_,_,g4,s4,r1.trans rel,?_,rfl,hout hw'⟩;simp only [hN4];have:=hwsF g4 H' _ (pksA σ1.length rs y) (Zht _ _ _) hsl4;rw [← l1];exact this
def Ziq:Pk->Bool
 | .int _ | .bool | .str | .err=>true
 | _=>false
theorem Zwn: ∀{ps:List Pk} {x:PkTs ps},(ps.all fun p=>!(Zbq p))=true->pksR ps x= []
 | [],_,_=>rfl
 | p::ps,x,h=>by
  simp only [List.all_cons,Bool.and_eq_true,Bool.not_eq_true'] at h;have:=Zwn (x:=x.2) h.2;cases p<;>first | exact this | cases h.1
theorem Zbpw {rs:List Pk} (h:rs.all Ziq=true):(rs.all fun p=>!(Zbq p))=true:=by
 rw [List.all_eq_true] at h ⊢;intro p hp;have:=h p hp;cases p<;>first | rfl | cases this
theorem Zbfl {g g':Gh} {H H':Heap} {N N' M M':Nat}: ∀{rs:List Pk} {y:PkTs rs} {ws:List Value},rs.all Ziq=true->SimL g H N (pksA M rs y) ws->SimL g' H' N' (pksA M' rs y) ws
 | [],_,[],_,_=>by simp only [pksA,SimL]
 | [],_,_::_,_,h=>by simp only [pksA,SimL] at h
 | _::_,_,[],_,h=>by simp only [pksA,SimL] at h
 | p::ps,y,w::ws,hs,h=>by
  simp only [List.all_cons,Bool.and_eq_true] at hs;simp only [pksA,SimL] at h ⊢;have ho:Zbq p=false:=by cases p<;>first | rfl | cases hs.1
  rw [ho] at h ⊢;refine ⟨?_,Zbfl hs.2 h.2⟩;cases p<;>first | (cases hs.1;done) | (have:=h.1;simp only [pkA,SimV] at this ⊢;exact this)
theorem Sim.keepAll {E:En} {st:St} {ρ:Env} {H H':Heap} {g:Gh} (s:Sim E st ρ H g) (k:Keep Nil H H'):Sim E st ρ H' g∧Rel st H g st H' g:=by
 have same: ∀b,H b≠none->H' b=H b:=fun b hb=>k.same b (fun x=>x) hb;have hext:Ext st.σ.length g H g H':=⟨fun b hz=>⟨hz,same b (s.zlive b hz)⟩,fun _ _=>rfl,fun _ _=>rfl⟩;have lv: ∀(i:Nat) (o:AObj),st.σ[i]? =some o->Has g i o->H' (g.B i)=H (g.B i):=fun i o hi hh=>same _ (by
  obtain ⟨c,T,hb⟩:=s.live hi hh;rw [hb];simp)
 refine ⟨⟨fun t=>SimV.ext (Nat.le_refl _) hext _ _ (s.tmp t),fun i o hi=>SimO.ext (Nat.le_refl _) hext (Zbr hi) (lv i o hi) (s.obj i o hi),s.nz,s.dis,s.own,?_,s.zsub,s.znew,fun b hz=>k.live b (s.zlive b hz),s.lay,Zpd s.zc fun b hz=>(hext.z b hz).2⟩,⟨Nat.le_refl _,hext,fun i o hi _=>⟨hi,lv i o hi⟩⟩⟩;exact s.keep.then k fun b hb=>hb.elim
end Go.Sh
end
section
namespace Go.Sh
variable [Laid]
end Go.Sh
end
section
namespace Go.Sh
variable [Laid]
open Go.ChangeShapes Go.WideShapes Go.ChangeAt Go.RowKit
def alK:Kd->Nat
 | .int .i8=>1 | .int .u8=>1 | .int .i16=>2 | .int .u16=>2 | .int .i32=>4 | .int .u32=>4 | .int .i64=>8 | .int .u64=>8
 | .bool=>1 | .str=>8 | .lst _=>8
def szK:Kd->Nat
 | .int .i8=>1 | .int .u8=>1 | .int .i16=>2 | .int .u16=>2 | .int .i32=>4 | .int .u32=>4 | .int .i64=>8 | .int .u64=>8
 | .bool=>1 | .str=>16 | .lst _=>24
def layK:List Kd->Nat->Nat->Nat
 | [],off,al=>(off+al - 1)/al*al
 | k::ks,off,al=>layK ks ((off+alK k - 1)/alK k*alK k+szK k) (max al (alK k))
def Zban (ks:List Kd):Nat:=layK ks 0 1
mutual
def SzE:(k:Kd)->El k->Prop
 | .int _,_=>True
 | .bool,_=>True
 | .str,s=>s.length <= 140737488351232
 | .lst ks,xs=>(asL xs).length*Zban ks <= 140737488351232∧∀x,x∈asL xs->SzT ks x
def SzT:(ks:List Kd)->Tp ks->Prop
 | [],_=>True
 | k::ks,x=>SzE k (hdT ks x)∧SzT ks (tlT ks x)
end
def SzPk:(p:Pk)->PkT p->Prop
 | .int _,_=>True
 | .bool,_=>True
 | .str,s=>s.length <= 140737488351232
 | .lst ks,xs=>SzE (.lst ks) xs
 | .agg ks,x=>SzT ks x
 | .err,_=>True
 | .own _ ks,xs=>SzE (.lst ks) xs
 | .fn _,_=>True
 | .nil,_=>True
def SzPs:(ps:List Pk)->PkTs ps->Prop
 | [],_=>True
 | p::ps,x=>SzPk p x.1∧SzPs ps x.2
def Zrg (P:Program) (k:TypeId->Option (List Kd)):List Field->Nat->Option (List Kd)
 | [],_=>some []
 | f::fs,off=>match k f.type with
  | some ks=>match Nat.beq f.offset off&&Nat.beq (P.cellsOf f.type) ks.length,Zrg P k fs (off+ks.length) with
   | true,some r=>some (ks++r)
   | _,_=>none
  | none=>none
def kdL (P:Program):Nat->TypeId->Option (List Kd)
 | 0,_=>none
 | d+1,t=>match P.underlying t with
  | some (.int k)=>some [.int k]
  | some .bool=>some [.bool]
  | some .string=>some [.str]
  | some (.slice e)=>match kdL P d e with
   | some (k::ks)=>match Nat.beq (P.cellsOf e) (ks.length+1)&&Nat.ble (Zban (k::ks)) (P.bytesOf e) with
    | true=>some [.lst (k::ks)]
    | false=>none
   | _=>none
  | some (.struct fs)=>match Zrg P (kdL P d) fs.toList 0 with
   | some ks=>match Nat.beq (P.cellsOf t) ks.length with
    | true=>some ks
    | false=>none
   | none=>none
  | some (.array n e)=>match kdL P d e with
   | some ks=>match Nat.beq (P.cellsOf e) ks.length&&Nat.beq (P.cellsOf t) (n*ks.length) with
    | true=>some (List.replicate n ks).flatten
    | false=>none
   | none=>none
  | _=>none
theorem Zc.same {Z:Nat->Prop} {H:Heap}: ∀(ks:List Kd) (x:Tp ks) (f g:Nat->Option Value),(∀j,j<ks.length->f j=g j)->Zc Z H ks x f->Zc Z H ks x g
 | [],_,_,_,_,_=>by simp only [Zc]
 | k::ks,x,f,g,h,hc=>by simp only [Zc] at hc ⊢;obtain ⟨⟨v,hv,ho⟩,hr⟩:=hc;exact ⟨⟨v,by rw [← h 0 (by simp)];exact hv,ho⟩,Zc.same ks _ _ _ (fun j hj=>h (j+1) (by simp;omega)) hr⟩
theorem Zof {Z:Nat->Prop} {H:Heap} {k:Kd} {x:El k} {v:Value} (h:Zh Z H k x v) (hz:SzE k x): ∃y:Tp [k],Zc Z H [k] y (fun j=>[v][j]?)∧SzT [k] y:=
 ⟨(mkT [] x ():Tp [k]),by simp only [Zc];exact ⟨⟨v,rfl,h⟩,trivial⟩,by simp only [SzT];exact ⟨hz,trivial⟩⟩
theorem Zc.cat {Z:Nat->Prop} {H:Heap}: ∀(ks ks':List Kd) (x:Tp ks) (x':Tp ks') (f:Nat->Option Value),Zc Z H ks x f->Zc Z H ks' x' (fun j=>f (ks.length+j))->SzT ks x->SzT ks' x'->∃y:Tp (ks++ks'),Zc Z H (ks++ks') y f∧SzT (ks++ks') y
 | [],ks',_,x',f,_,h,_,z=>⟨x',by simpa using h,z⟩
 | k::ks,ks',x,x',f,h1,h2,z1,z2=>by
  simp only [SzT] at z1;simp only [Zc] at h1;obtain ⟨⟨v,hv,ho⟩,hr⟩:=h1;obtain ⟨y,hy,hz⟩:=Zc.cat ks ks' (tlT ks x) x' (fun j=>f (j+1)) hr (Zc.same _ _ _ _ (fun j _=>by simp only [List.length_cons];congr 1;omega) h2) z1.2 z2
  refine ⟨(mkT (ks++ks') (hdT ks x) y:Tp (k::(ks++ks'))),?_,?_⟩
  rotate_left
  show SzT (k::(ks++ks')) _;simp only [SzT];rw [Zbcx,Zbfz];exact ⟨z1.1,hz⟩;show Zc Z H (k::(ks++ks')) _ f;simp only [Zc];rw [Zbcx,Zbfz];exact ⟨⟨v,hv,ho⟩,hy⟩
theorem Zbmq {A:Type} {p:Nat->A->Prop}: ∀{n:Nat},(∀i,i<n->∃x,p i x)->∃xs:List A,xs.length=n∧∀i x,xs[i]? =some x->p i x
 | 0,_=>⟨[],rfl,fun i x h=>by simp at h⟩
 | n+1,h=>by
  obtain ⟨xs,hl,hx⟩:=Zbmq (n:=n) fun i hi=>h i (by omega)
  obtain ⟨y,hy⟩:=h n (by omega)
  refine ⟨xs++[y],by simp [hl],fun i x hi=>?_⟩
  rcases Nat.lt_or_ge i n with hlt | hge
  ·rw [List.getElem?_append_left (by omega)] at hi
   exact hx i x hi
  ·rw [List.getElem?_append_right (by omega)] at hi
   have:i=n:=by have:=(List.getElem?_eq_some_iff.1 hi).1;simp at this;omega
   subst this;simp [hl] at hi;subst hi;exact hy
theorem cells?_get {W:World} {base:Nat} {a:Addr} {n:Nat} {l:List Value} (h:W.cells? base a n=some l):l.length=n∧∀j,j<n->W.cell? (a.add j)=l[j]? :=by
 unfold World.cells? at h;split at h
 ·refine ⟨by simpa using mapM_some_length h,fun j hj=>?_⟩
  simpa using mapM_some_get h j j (by simp [hj])
 cases h
abbrev alive (H:Heap):Nat->Prop:=fun b=>H b≠none
theorem Zbgl {k:IntKind} {n:Int} (h:(Lit.int k n).wf=true):InR k n:=by cases k<;>simp [Lit.wf,IntKind.min,IntKind.max,IntKind.signed,IntKind.bits] at h<;>simp only [InR,loI,hiI]<;>omega
theorem Zbgk {D:Type} {P:Program} {e:TypeId} {d:DataW D} {w:Nat}: ∀{l:List (DataW D)},d∈l->w∈d.weights P e->w∈DataW.weightsAll P e l
 | x::l,h,hw=>by simp only [DataW.weightsAll];rcases List.mem_cons.1 h with rfl | h;exact List.mem_append_left _ hw;exact List.mem_append_right _ (Zbgk h hw)
theorem Zbrm {D:Type} {P:Program} {w:Nat}: ∀{ts:List TypeId} {ds:List (DataW D)} {i:Nat} {t:TypeId} {d:DataW D},ts[i]? =some t->ds[i]? =some d->w∈d.weights P t->w∈DataW.weightsEach P ts ds
 | t0::ts,d0::ds,0,t,d,h1,h2,hw=>by simp at h1 h2;subst h1 h2;simp only [DataW.weightsEach];exact List.mem_append_left _ hw
 | t0::ts,d0::ds,i+1,t,d,h1,h2,hw=>by simp only [DataW.weightsEach];exact List.mem_append_right _ (Zbrm (i:=i) (by simpa using h1) (by simpa using h2) hw)
 | [],_,_,_,_,h,_,_=>by simp at h
 | _::_,[],_,_,_,_,h,_=>by simp at h
theorem Zrw {D:Type} {enc:TypeId×Value->D} {P:Program} {W:World} {sp:Nat->Bool} {held:Bool}: ∀(d:Nat) (t:TypeId) (ks:List Kd),kdL P d t=some ks->∀(fuel:Nat) (cs:List Value) (x:DataW D×List MemPlace),DataW.trod enc P W 0 sp held fuel t cs=some x->(∀n∈x.1.weights P t,n <= 140737488351232)->cs.length=ks.length∧∃y:Tp ks,Zc (alive (hp W)) (hp W) ks y (fun j=>cs[j]?)∧SzT ks y
 | 0,t,ks,h,_,_,_,_,_=>by simp only [kdL] at h;cases h
 | d+1,t,ks,h,fuel,cs,x,hx,hwt=>by
  simp only [kdL] at h;split at h
  ·rename_i k hu;cases h;obtain ⟨n,rfl,_,hw⟩:=DataW.trod_int hu hx;have hr:=Zbgl hw;refine ⟨rfl,Zof (k:= .int k) (x:=(ofI k n:El (.int k))) ?_ (by simp only [SzE])⟩
   simp only [Zh];exact ⟨by rw [Zbga hr],WfI.ofI hr⟩
  ·rename_i hu;cases h;obtain ⟨b,rfl,_⟩:=DataW.trod_bool hu hx;refine ⟨rfl,Zof (k:= .bool) (x:=(b:El .bool)) ?_ (by simp only [SzE])⟩
   simp only [Zh]
  ·rename_i hu;cases h;obtain ⟨s,rfl,hxx,hm⟩:=DataW.trod_string hu hx;have hsz:s.data.toList.length <= 140737488351232:=hwt _ (by rw [hxx];simp [DataW.weights])
   refine ⟨rfl,Zof (k:= .str) (x:=(s.data.toList:El .str)) ?_ (by simp only [SzE];exact hsz)⟩
   simp only [Zh];exact ⟨rfl,by simpa [Zo,maxLen] using hm⟩
  ·rename_i e hu;split at h
   case h_2=>cases h
   rename_i k ks' hke;split at h
   case h_2=>cases h
   rename_i hsz;cases h;simp only [Bool.and_eq_true] at hsz;have hby:=Nat.le_of_ble_eq_true hsz.2;have hsz:=Nat.eq_of_beq_eq_true hsz.1;rcases DataW.trod_slice hu hx with ⟨rfl,_⟩ | ⟨a,len,cap,elems,rest,n,_,rfl,hxx,_,hlc,hcm,hlen,hel,_⟩
   ·refine ⟨rfl,Zof (k:= .lst (k::ks')) (x:=([]:El (.lst (k::ks')))) ?_ (by simp only [SzE];exact ⟨by simp,fun x hx=>by simp at hx⟩)⟩
    simp only [Zh];exact ⟨none,0,0,rfl,rfl,Nat.le_refl _,Nat.zero_le _,fun h=>by omega⟩
   ·rw [hxx] at hwt;simp only [DataW.weights,hu,List.length_map] at hwt;have hlw:len*Zban (k::ks') <= 140737488351232:=by have h1:=hwt _ List.mem_cons_self;refine Nat.le_trans (Nat.mul_le_mul (by omega) hby) h1
    have each: ∀i,i<len->∃l:List Value,l.length=ks'.length+1∧(∀j,j<ks'.length+1->W.cell? ((a.add (i*(ks'.length+1))).add j)=l[j]?)∧∃y:Tp (k::ks'),Zc (alive (hp W)) (hp W) (k::ks') y (fun j=>l[j]?)∧SzT (k::ks') y:=fun i hi=>by
     have he:=hel i hi;rw [List.getElem?_eq_getElem (by omega),hsz,Option.bind_eq_some_iff] at he
     obtain ⟨l,hl,hy⟩:=he;obtain ⟨h1,h2⟩:=cells?_get hl;exact ⟨l,h1,h2,(Zrw d e (k::ks') hke _ _ _ hy fun w hw=>hwt w (List.mem_cons_of_mem _ (List.mem_append_left _ (Zbgk (List.mem_map.2 ⟨_,List.getElem_mem _,rfl⟩) hw)))).2⟩
    by_cases h0:0<len
    ·obtain ⟨l0,hl0,hc0,_⟩:=each 0 h0;have hc1:=hc0 0 (by omega)
     rw [List.getElem?_eq_getElem (by omega),Nat.zero_mul] at hc1
     have ha0: ∀a:Addr,(a.add 0).add 0=a:=fun a=>by simp [Addr.add]
     rw [ha0] at hc1;obtain ⟨hsp,c,T,fr,hb,_⟩:=cell_spot (H:=hp W) (by rw [Znv];exact hc1)
     obtain ⟨b,o,sp'⟩:=a;simp only at hsp hb;subst hsp;obtain ⟨xs,hxl,hxs⟩:=Zbmq (n:=len) (p:=fun i (y:Tp (k::ks'))=>Zc (alive (hp W)) (hp W) (k::ks') y (fun j=>c[o+i*(k::ks').length+j]?)∧SzT (k::ks') y) fun i hi=>by
      obtain ⟨l,hl,hc,y,hy,hz⟩:=each i hi;refine ⟨y,Zc.same _ _ _ _ (fun j hj=>?_) hy,hz⟩;have hj':j<ks'.length+1:=by simpa using hj
      have h1:=hc j hj';rw [List.getElem?_eq_getElem (by omega)] at h1
      have hadd:((⟨b,o,none⟩:Addr).add (i*(ks'.length+1))).add j=⟨b,o+i*(ks'.length+1)+j,none⟩:=by rw [Zfd (a:=⟨b,o,none⟩) rfl (i*(ks'.length+1)),Zfd rfl]
      rw [hadd,← Znv] at h1;obtain ⟨_,c',T',fr',hb',hj''⟩:=cell_spot h1;simp only at hb' hj'';rw [hb] at hb';cases hb';rw [List.getElem?_eq_getElem (by omega)]
      simp only [List.length_cons];exact hj''.symm
     refine ⟨rfl,Zof (k:= .lst (k::ks')) (x:=(xs:El (.lst (k::ks')))) ?_ (by simp only [SzE];exact ⟨by rw [show (asL (ks:=k::ks') xs).length=len from hxl];exact hlw,fun x hx=>by obtain ⟨i,hi⟩:=List.getElem?_of_mem hx;exact (hxs i x hi).2⟩)⟩
     simp only [Zh];exact ⟨_,len,cap,rfl,hxl,hlc,by simpa [Zo,maxLen] using hcm,fun _=>⟨b,o,rfl,by rw [alive,hb];simp,c,T,fr,hb,fun i x hi=>(hxs i x hi).1⟩⟩
    ·have h0:len=0:=by omega
     subst h0;refine ⟨rfl,Zof (k:= .lst (k::ks')) (x:=([]:El (.lst (k::ks')))) ?_ (by simp only [SzE];exact ⟨by simp,fun x hx=>by simp at hx⟩)⟩
     simp only [Zh];exact ⟨_,0,cap,rfl,rfl,hlc,by simpa [Zo,maxLen] using hcm,fun h=>by omega⟩
  ·rename_i fs hu;split at h
   case h_2=>cases h
   rename_i ks' hfs;split at h
   case h_2=>cases h
   rename_i hsz;cases h;have hsz:=Nat.eq_of_beq_eq_true hsz;obtain ⟨xs,n,_,hxx,hcl,hxl,hf⟩:=DataW.trod_struct hu hx;rw [hxx] at hwt;simp only [DataW.weights,hu] at hwt;have hall: ∀f∈fs.toList,∃x,DataW.trod enc P W 0 sp held n f.type ((cs.drop f.offset).take (P.cellsOf f.type))=some x∧∀w∈x.1.weights P f.type,w <= 140737488351232:=fun f hf'=>by
    obtain ⟨i,hi,rfl⟩:=List.getElem_of_mem hf';have:=hf i fs[i] (by simp at hi;simp [hi])
    simp at hi;rw [List.getElem?_eq_getElem (by omega)] at this
    exact ⟨_,by simpa using this,fun w hw=>hwt w (Zbrm (i:=i) (t:=fs[i].type) (d:=(xs[i]'(by omega)).1) (by simp [hi]) (by rw [List.getElem?_map,List.getElem?_eq_getElem (by omega)];rfl) (by simpa using hw))⟩
   have key: ∀(l:List Field) (off:Nat) (ks:List Kd),(∀f∈l,f∈fs.toList)->Zrg P (kdL P d) l off=some ks->∃y:Tp ks,Zc (alive (hp W)) (hp W) ks y (fun j=>cs[off+j]?)∧SzT ks y:=by
    intro l;induction l with
    | nil=>intro off ks _ h;simp only [Zrg] at h;cases h;exact ⟨(),by simp only [Zc],by simp only [SzT]⟩
    | cons f l ih=>
     intro off ks hm h;simp only [Zrg] at h;split at h
     case h_2=>cases h
     rename_i k1 hk1;split at h
     case h_2=>cases h
     rename_i r hb hr;cases h;simp only [Bool.and_eq_true] at hb;have hb1:=Nat.eq_of_beq_eq_true hb.1;have hb2:=Nat.eq_of_beq_eq_true hb.2;obtain ⟨x1,hx1,hw1⟩:=hall f (hm f (by simp))
     obtain ⟨_,y1,hy1,hz1⟩:=Zrw d f.type k1 hk1 _ _ _ hx1 hw1;obtain ⟨y2,hy2,hz2⟩:=ih (off+k1.length) r (fun f hf=>hm f (by simp [hf])) hr
     refine Zc.cat k1 r y1 y2 _ (Zc.same _ _ _ _ (fun j hj=>?_) hy1) (Zc.same _ _ _ _ (fun j _=>by rw [Nat.add_assoc]) hy2) hz1 hz2
     rw [List.getElem?_take_of_lt (by omega),List.getElem?_drop,hb1]
   refine ⟨by omega,?_⟩
   obtain ⟨y,hy,hz⟩:=key fs.toList 0 ks (fun f hf=>hf) hfs;exact ⟨y,by simpa using hy,hz⟩
  ·rename_i n e hu;split at h
   case h_2=>cases h
   rename_i ks' hke;split at h
   case h_2=>cases h
   rename_i hsz;cases h;simp only [Bool.and_eq_true] at hsz;have hs1:=Nat.eq_of_beq_eq_true hsz.1;have hs2:=Nat.eq_of_beq_eq_true hsz.2;obtain ⟨xs,m,_,hxx,hcl,hxl,hf⟩:=DataW.trod_array hu hx;rw [hxx] at hwt;simp only [DataW.weights,hu] at hwt;have key: ∀(k i:Nat),i+k=n->∃y:Tp (List.replicate k ks').flatten,Zc (alive (hp W)) (hp W) (List.replicate k ks').flatten y (fun j=>cs[i*ks'.length+j]?)∧SzT (List.replicate k ks').flatten y:=by
    intro k;induction k with
    | zero=>intro i _;exact ⟨(),by simp only [List.replicate_zero,List.flatten_nil,Zc],by simp only [List.replicate_zero,List.flatten_nil,SzT]⟩
    | succ k ih=>
     intro i hik;have h1:=hf i (by omega)
     rw [List.getElem?_eq_getElem (by omega),hs1] at h1
     obtain ⟨_,y1,hy1,hz1⟩:=Zrw d e ks' hke _ _ _ h1 fun w hw=>hwt w (Zbgk (List.mem_map.2 ⟨_,List.getElem_mem _,rfl⟩) hw);obtain ⟨y2,hy2,hz2⟩:=ih (i+1) (by omega)
     have:=Zc.cat ks' (List.replicate k ks').flatten y1 y2 (fun j=>cs[i*ks'.length+j]?) (Zc.same _ _ _ _ (fun j hj=>by
      rw [List.getElem?_take_of_lt (by omega),List.getElem?_drop]) hy1) (Zc.same _ _ _ _ (fun j _=>by rw [Nat.add_mul,Nat.one_mul,Nat.add_assoc]) hy2) hz1 hz2
     simpa [List.replicate_succ] using this
   refine ⟨by rw [hcl,hs2];simp,?_⟩
   obtain ⟨y,hy,hz⟩:=key n 0 (by omega)
   exact ⟨y,by simpa using hy,hz⟩
  cases h
def pkL (P:Program) (t:TypeId):Option Pk:=match P.underlying t with
 | some (.int k)=>some (.int k)
 | some .bool=>some .bool
 | some .string=>some .str
 | some (.slice _)=>match kdL P 8 t with
  | some [.lst ks]=>some (.lst ks)
  | _=>none
 | some (.struct _)=>match kdL P 8 t with
  | some ks=>some (.agg ks)
  | none=>none
 | some (.array _ _)=>match kdL P 8 t with
  | some ks=>some (.agg ks)
  | none=>none
 | _=>none
def pksL (P:Program):List TypeId->Option (List Pk)
 | []=>some []
 | t::ts=>match pkL P t,pksL P ts with
  | some p,some ps=>some (p::ps)
  | _,_=>none
theorem Zwh {P:Program} {W:World} {base:Nat} {t:TypeId} {v:Value} (ht:(∃k,P.underlying t=some (.int k))∨P.underlying t=some .bool∨P.underlying t=some .string∨∃e,P.underlying t=some (.slice e))
  (h:Value.okWide P W .any base t v):v.cells.toList= [v]:=by
 rcases ht with ⟨k,ht⟩ | ht | ht | ⟨e,ht⟩<;>simp only [Value.okWide,ht,Cell.okWide,Cell.ok] at h<;>cases v<;>first | rfl | exact h.elim | simp_all [Value.cells]
theorem Zccz {D:Type} {enc:TypeId×Value->D} {P:Program} {W:World} {sp:Nat->Bool} {held:Bool} {base:Nat} {t:TypeId} {p:Pk} (h:pkL P t=some p) {v:Value} {d:DataW D} {ps:List MemPlace} (hval:Value.okWide P W .any base t v)
  (hx:DataW.Trod enc P W 0 sp held t v d ps) (hwt: ∀n∈d.weights P t,n <= 140737488351232) {g:Gh} (hg:g.Z=alive (hp W)) (N:Nat):Zbq p=false∧∃x:PkT p,WfPk p x∧SzPk p x∧SimV g (hp W) N (pkA N p x) v:=by
 obtain ⟨fuel,hx⟩:=hx;unfold pkL at h;split at h;rename_i k hu;cases h;rw [Zwh (.inl ⟨_,hu⟩) hval] at hx;obtain ⟨n,h1,_,hw⟩:=DataW.trod_int hu hx;cases h1;exact ⟨rfl,n,Zbgl hw,trivial,by simp only [pkA,SimV];exact ⟨by first | rfl | trivial,Zbgl hw⟩⟩
 rename_i hu;cases h;rw [Zwh (.inr (.inl hu)) hval] at hx;obtain ⟨b,h1,_⟩:=DataW.trod_bool hu hx;cases h1;exact ⟨rfl,b,trivial,trivial,by simp only [pkA,SimV]⟩
 ·rename_i hu;cases h;rw [Zwh (.inr (.inr (.inl hu))) hval] at hx;obtain ⟨s,h1,hxx,hm⟩:=DataW.trod_string hu hx;cases h1;have hsz:s.data.toList.length <= 140737488351232:=hwt _ (by have:=(Prod.mk.inj hxx).1;subst this;simp [DataW.weights])
  have hm':s.data.toList.length <= Zo:=by simpa [Zo,maxLen] using hm
  exact ⟨rfl,s.data.toList,hm',hsz,by simp only [pkA,SimV];exact ⟨by first | rfl | trivial,hm'⟩⟩
 ·rename_i e hu;split at h
  case h_2=>cases h
  rename_i ks hk;cases h;rw [Zwh (.inr (.inr (.inr ⟨e,hu⟩))) hval] at hx;obtain ⟨_,y,hy,hz⟩:=Zrw 8 t _ hk _ _ _ hx hwt;simp only [SzT] at hz;have hw:=Zc.wf _ _ _ hy;simp only [Zc] at hy;obtain ⟨⟨v',hv',hc⟩,_⟩:=hy;simp at hv';subst hv';simp only [WfT] at hw;exact ⟨rfl,hdT [] y,hw.1,hz.1,by simp only [pkA,SimV];rw [hg];exact hc⟩
 all_goals
  first
  | (rename_i hu
     split at h
     case h_2=>cases h
     rename_i ks hk;cases h;simp only [Value.okWide,hu] at hval;obtain ⟨cs,rfl,hs,_⟩:=hval;obtain ⟨hl,y,hy,hz⟩:=Zrw 8 t _ hk _ _ _ hx hwt;have hw:=Zc.wf _ _ _ hy;rw [← hg] at hy;obtain ⟨vs,hvl,hsim,hv⟩:=Zoc (N:=N) hy;refine ⟨rfl,y,hw,hz,?_⟩;simp only [pkA,SimV];refine ⟨vs,?_,hsim⟩;have:cs.toList=vs:=by
      apply List.ext_getElem?
      intro j;by_cases hj:j<vs.length;exact hv j hj;rw [List.getElem?_eq_none (by simp only [Value.cells] at hl;omega),List.getElem?_eq_none (by omega)]
     rw [← this])
  | cases h
theorem Zbnz {D:Type} {enc:TypeId×Value->D} {P:Program} {W:World} {sp:Nat->Bool} {held:Bool} {base:Nat} {g:Gh} (hg:g.Z=alive (hp W)) (N:Nat): ∀{ts:List TypeId} {ps:List Pk} (_:pksL P ts=some ps) {vs:List Value} {ds:List (DataW D)} {pl:List MemPlace},(∀(j:Nat) t v,ts[j]? =some t->vs[j]? =some v->Value.okWide P W .any base t v)->DataW.TrodAll enc P W 0 sp held ts vs ds pl->(∀n∈DataW.weightsEach P ts ds,n <= 140737488351232)->
  vs.length=ps.length∧∃x:PkTs ps,WfPs ps x∧SzPs ps x∧SimL g (hp W) N (pksA N ps x) vs∧pksR ps x= []
 | [],ps,h,vs,ds,pl,_,hx,_=>by
  simp only [pksL] at h;cases h;cases vs with
  | nil=>exact ⟨rfl,(),trivial,trivial,by simp only [pksA,SimL],rfl⟩
  | cons v vs=>simp only [DataW.TrodAll] at hx
 | t::ts,ps,h,vs,ds,pl,hval,hx,hwt=>by
  simp only [pksL] at h;split at h
  case h_2=>cases h
  rename_i p ps' hp' hps';cases h;obtain ⟨v,vs',d,ds',p1,q,rfl,rfl,rfl,h1,h2⟩:=trodAll_cons hx;simp only [DataW.weightsEach] at hwt;obtain ⟨ho,x,hw,hz,hs⟩:=Zccz hp' (hval 0 t v rfl rfl) h1 (fun n hn=>hwt n (List.mem_append_left _ hn)) hg N;obtain ⟨hl,x',hw',hz',hs',hr⟩:=Zbnz hg N hps' (fun j t v h1 h2=>hval (j+1) t v (by simpa using h1) (by simpa using h2)) h2 (fun n hn=>hwt n (List.mem_append_right _ hn))
  refine ⟨by simp [hl],(x,x'),⟨hw,hw'⟩,⟨hz,hz'⟩,?_,?_⟩
  simp only [pksA,SimL];rw [ho];exact ⟨hs,hs'⟩
  ·cases p<;>simp only [Zbq] at ho<;>first | (cases ho;done) | exact hr
theorem Zcbn {D:Type} {enc:TypeId×Value->D} {P:Program} {f:FuncId} {ps:List Pk} {q:PkTs ps->(PkTs [.bool]->Prop)->Prop} (hq:FnQ P f ps [.bool] q) {ts:List TypeId} (hps:pksL P ts=some ps)
  (hall: ∀x,WfPs ps x->SzPs ps x->q x fun r=>r.1=true)
  {W:World} {sp:Nat->Bool} {held:Bool} {base:Nat} {vs:List Value} {ds:List (DataW D)} {pl:List MemPlace} (hval: ∀(j:Nat) t v,ts[j]? =some t->vs[j]? =some v->Value.okWide P W .any base t v) (hx:DataW.TrodAll enc P W 0 sp held ts vs ds pl) (hwt:(DataW.weightsEach P ts ds).all (· <= reachBytes)=true) (hlv: ∀b,Laid.blocks b=true->hp W b≠none) (hlo:Laid.ok (layH (hp W))):
  FnW P f ⟨vs⟩ (hp W) fun v H'=>v= .bool true∧Keep Nil (hp W) H':=by
 let g:Gh:=⟨alive (hp W),fun _=>0,fun _=> .bool false⟩
 obtain ⟨hl,x,hw,hz,hs,hr⟩:=Zbnz (g:=g) rfl 0 hps hval hx fun n hn=>of_decide_eq_true (List.all_eq_true.1 hwt n hn);have s:Sim ⟨hp W,Zbd g (pksR ps x),g.Z⟩ (parS ps x) (env0 vs) (hp W) g:=by
  have hn:(parS ps x).σ= []:=hr;have none: ∀{i:Nat} {o:AObj},(parS ps x).σ[i]? =some o->False:=fun {i o} h=>by rw [hn] at h;simp at h
  exact
   {tmp:=fun t=>by rw [hn];simpa [parS,env0] using Zom hs t
    obj:=fun id o h=>(none h).elim
    nz:=fun id o h=>(none h).elim
    dis:=fun i j oi oj _ h=>(none h).elim
    own:=fun i o h=>(none h).elim
    keep:=Keep.refl _ _
    zsub:=fun _ h=>h
    znew:=fun _ h=> .inl h
    zlive:=fun _ h=>h
    lay:=⟨fun b hb ⟨i,o,h,_⟩=>none h,hlv,hlo⟩
    zc:=fun _ h=> .inl h }
 refine (hq x _ (hall x hw hz) (hp W) g vs hl s).mono fun v H' hk=>?_;obtain ⟨a,st',ρ',g',s',hav,hout⟩:=hk;refine ⟨?_,⟨fun b _ hb=>s'.keep.same b (fun ho=>by
  obtain ⟨i,o,hi,_⟩:=ho;rw [hr] at hi;simp at hi) hb,fun b hb=>s'.keep.live b hb⟩⟩
 unfold outP at hout;split at hout
 case h_2=>exact hout.elim
 rename_i as hol;split at hout
 case h_2=>exact hout.elim
 rename_i σ' hfr';split at hout
 case h_2=>exact hout.elim
 rename_i y src' htk';split at hout
 case h_2=>exact hout.elim
 have he:a= .bool y.1:=by
  unfold outL at hol;simp only [Option.some.injEq] at hol;subst hol;unfold Zdf Zed at htk';cases a<;>simp only [] at htk'<;>first | (cases htk';done) | skip
  unfold Zdf at htk';cases htk';rfl
 subst he;simp only [SimV] at hav;rw [hav,hout]
end Go.Sh
end
section
namespace Go.Sh
variable [Laid]
end Go.Sh
end
section
namespace Go.Sh
variable [Laid]
def rdC (σ:List AObj) (ks:List Kd):AV->Option (List (Tp ks))
 | .osl id off n c=>match σ[id]? with
  | some (.obj _ _ cs)=>match Nat.ble (off+n*ks.length) cs.length&&Nat.ble n c&&Nat.ble c 1000000 with
   | true=>unTs ks n (((cs.drop off).take (n*ks.length)).map (Zex σ))
   | false=>none
  | _=>none
 | a=>rdL σ ks a
def Zbae (k:IntKind):AV->Option Int
 | .int k' n=>match decide (k'=k) with
  | true=>some n
  | false=>none
 | _=>none
def Zbac:AV->Option Bool
 | .bool b=>some b
 | _=>none
def Zbag:AV->Option (List UInt8)
 | .str s=>some s
 | _=>none
def Zbad:AV->Option Bool
 | .err b=>some b
 | _=>none
def Zbab:AV->Option (List AV)
 | .agg cs=>some cs
 | _=>none
def avFn (f:Nat):AV->Option Unit
 | .fn f' []=>match Nat.beq f' f with
  | true=>some ()
  | false=>none
 | _=>none
def Zbaf:AV->Option Unit
 | .nils=>some ()
 | _=>none
def rdP (σ:List AObj) (p:Pk) (a:AV):Option (PkT p):=match p with
 | .int k=>Zbae k a
 | .bool=>Zbac a
 | .str=>Zbag a
 | .lst ks=>rdC σ ks a
 | .agg ks=>match Zbab a with
  | some cs=>unT ks (cs.map (Zex σ))
  | none=>none
 | .err=>Zbad a
 | .fn f=>avFn f a
 | .nil=>Zbaf a
 | .own _ _=>none
def rdPs (σ:List AObj):(ps:List Pk)->List AV->Option (PkTs ps)
 | [],[]=>some ()
 | p::ps,a::as=>match rdP σ p a,rdPs σ ps as with
  | some x,some y=>some (x,y)
  | _,_=>none
 | _,_=>none
def gAll (H:Heap) (g:Gh):Gh:=⟨alive H,g.B,g.V⟩
theorem Zqo {E:En} {st:St} {ρ:Env} {H:Heap} {g:Gh} (s:Sim E st ρ H g) (N:Nat):Ext N g H (gAll H g) H:=⟨fun b hb=>⟨s.zlive b hb,rfl⟩,fun _ _=>rfl,fun _ _=>rfl⟩
theorem Zbpq {E:En} {st:St} {ρ:Env} {H:Heap} {g:Gh} (s:Sim E st ρ H g) {T:TypeId} {ks:List Kd} {xs:List (Tp ks)} {v:Value} {b:Nat} (h:Zlc g H T ks xs v b):Zh (alive H) H (.lst ks) xs v:=by obtain ⟨a,n,c,h1,h2,h3,h4,h5⟩:=h;simp only [Zh];refine ⟨a,n,c,h1,h2,h3,h4,fun h0=>?_⟩;rcases h5 with ⟨rfl,h6⟩ | ⟨o,h6,cs,T',hb,hs,hc⟩;omega;exact ⟨b,o,h6,by show H b≠none;rw [hb];simp,cs,T',_,hb,fun i x hx=>Zc.ext (Zqo s 0).z _ _ _ (hc i x hx)⟩
theorem Zcjt {E:En} {st:St} {ρ:Env} {H:Heap} {g:Gh} (s:Sim E st ρ H g) {a:AV} {v:Value} (h:SimV g H st.σ.length a v):SimV (gAll H g) H st.σ.length (Zex st.σ a) v:=by
 have h1:=SimV.ext (Nat.le_refl _) (Zqo s _) _ _ h;cases a<;>first | exact h1 | skip
 rename_i id;simp only [SimV] at h;obtain ⟨_,rfl,_⟩:=h;simp only [Zex];split;rename_i ho;simp only [SimV];exact Zbpq (T:=0) s (s.obj id _ ho);rename_i ho;simp only [SimV];exact Zh.ext (Zqo s 0).z _ _ _ (s.obj id _ ho);simp only [SimV]
theorem Zbgi {E:En} {st:St} {ρ:Env} {H:Heap} {g:Gh} (s:Sim E st ρ H g): ∀{as:List AV} {vs:List Value},SimL g H st.σ.length as vs->SimL (gAll H g) H st.σ.length (as.map (Zex st.σ)) vs
 | [],[],_=>by simp only [List.map_nil,SimL]
 | [],_::_,h=>by simp only [SimL] at h
 | _::_,[],h=>by simp only [SimL] at h
 | a::as,v::vs,h=>by simp only [SimL] at h;simp only [List.map_cons,SimL];exact ⟨Zcjt s h.1,Zbgi s h.2⟩
theorem Zcfj {E:En} {st:St} {ρ:Env} {H:Heap} {g:Gh} (s:Sim E st ρ H g) {ks:List Kd} {a:AV} {v:Value} {xs:List (Tp ks)} (h:rdL st.σ ks a=some xs) (hs:SimV g H st.σ.length a v):Zh (alive H) H (.lst ks) xs v:=by
 unfold rdL at h;split at h;split at h;rename_i hk _;subst hk;cases h;simp only [SimV] at hs;exact Zh.ext (Zqo s 0).z _ _ _ hs;cases h;cases h;simp only [SimV] at hs;simp only [Zh];exact ⟨none,0,0,hs,rfl,Nat.le_refl _,Nat.zero_le _,fun h=>absurd h (by omega)⟩
 rename_i id;simp only [SimV] at hs;obtain ⟨_,rfl,_⟩:=hs;split at h;rename_i T r ks' xs' ho;split at h;rename_i hk _;subst hk;cases h;exact Zbpq (T:=0) s (s.obj id _ ho);cases h;rename_i ks' xs' ho;split at h;rename_i hk _;subst hk;cases h;exact Zh.ext (Zqo s 0).z _ _ _ (s.obj id _ ho);cases h;cases h;cases h
theorem Zcfi {E:En} {st:St} {ρ:Env} {H:Heap} {g:Gh} (s:Sim E st ρ H g) {ks:List Kd} {a:AV} {v:Value} {xs:List (Tp ks)} (h:rdC st.σ ks a=some xs) (hs:SimV g H st.σ.length a v):Zh (alive H) H (.lst ks) xs v:=by
 unfold rdC at h;split at h
 case h_2=>exact Zcfj s h hs
 rename_i id off n c;split at h
 case h_2=>cases h
 rename_i T r cs ho;split at h
 case h_2=>cases h
 rename_i hb;simp only [Bool.and_eq_true] at hb;have hb1:=Nat.le_of_ble_eq_true hb.1.1;have hb2:=Nat.le_of_ble_eq_true hb.1.2;have hb3:=Nat.le_of_ble_eq_true hb.2;simp only [SimV] at hs;obtain ⟨hid,rfl⟩:=hs;obtain ⟨us,hB,hsl⟩:=s.obj id _ ho;have h2:=Zbgi s ((hsl.drop off).take (n*ks.length));obtain ⟨hxl,hol,hoc⟩:=Zsr h h2;simp only [Zh];refine ⟨_,n,c,rfl,hxl,hb2,by unfold Zo;omega,fun h0=>⟨g.B id,off,rfl,by show H (g.B id)≠none;rw [hB];simp,⟨us⟩,T,_,hB,fun i x hx=>Zc.congr (fun j hj=>?_) (hoc i x hx)⟩⟩
 have hi:i<n:=by rcases Nat.lt_or_ge i xs.length with h | h;omega;have:xs[i]? =none:=List.getElem?_eq_none h;have hx':xs[i]? =some x:=hx;rw [this] at hx';cases hx'
 have hmul:(i+1)*ks.length <= n*ks.length:=Nat.mul_le_mul_right _ (by omega)
 rw [Nat.add_mul] at hmul;simp only [List.getElem?_toArray];rw [List.getElem?_take,if_pos (by omega),List.getElem?_drop,Nat.add_assoc]
theorem Zcfm {E:En} {st:St} {ρ:Env} {H:Heap} {g:Gh} (s:Sim E st ρ H g) {p:Pk} {a:AV} {v:Value} {x:PkT p} (h:rdP st.σ p a=some x) (hs:SimV g H st.σ.length a v):WfPk p x∧Zbq p=false∧∀M N,SimV (gAll H g) H N (pkA M p x) v:=by
 cases p with
 | int k0=>
  have h:Zbae k0 a=some x:=h;unfold Zbae at h;split at h
  ·split at h;rename_i hk;have:=of_decide_eq_true hk;subst this;cases h;simp only [SimV] at hs;exact ⟨hs.2,rfl,fun M N=>by simp only [pkA,SimV];exact hs⟩
   cases h
  ·cases h
 | bool=>
  have h:Zbac a=some x:=h;unfold Zbac at h;split at h;cases h;simp only [SimV] at hs;exact ⟨trivial,rfl,fun M N=>by simp only [pkA,SimV];exact hs⟩
  ·cases h
 | str=>
  have h:Zbag a=some x:=h;unfold Zbag at h;split at h;cases h;simp only [SimV] at hs;exact ⟨hs.2,rfl,fun M N=>by simp only [pkA,SimV];exact hs⟩
  ·cases h
 | lst ks=>
  have:=Zcfi s h hs;exact ⟨Zh.wf _ _ _ this,rfl,fun M N=>by simp only [pkA,SimV];exact this⟩
 | agg ks=>
  have h:(match Zbab a with
   | some cs=>unT ks (cs.map (Zex st.σ))
   | none=>none)=some x:=h
  unfold Zbab at h;cases a<;>first | (cases h;done) | skip
  simp only [SimV] at hs;obtain ⟨vs,rfl,hs⟩:=hs;have hc:=Zks h (Zbgi s hs);have hl:=Zxw h;have hl2:=hs.len;simp only [List.length_map] at hl;refine ⟨Zc.wf _ _ _ hc,rfl,fun M N=>?_⟩;simp only [pkA,SimV];exact ⟨vs,rfl,Zbhy hc (by omega)⟩
 | err=>
  have h:Zbad a=some x:=h;unfold Zbad at h;split at h;cases h;simp only [SimV] at hs;exact ⟨trivial,rfl,fun M N=>by simp only [pkA,SimV];exact hs⟩
  ·cases h
 | own T ks=>cases h
 | fn f'=>
  have h:avFn f' a=some x:=h;unfold avFn at h;split at h
  ·split at h
   ·rename_i hf;have:=Nat.eq_of_beq_eq_true hf;subst this;simp only [SimV] at hs;obtain ⟨vs,hv,hvs⟩:=hs;refine ⟨trivial,rfl,fun M N=>?_⟩;simp only [pkA,SimV];cases vs with
    | nil=>exact ⟨[],hv,by simp only [SimL]⟩
    | cons=>simp only [SimL] at hvs
   cases h
  ·cases h
 | nil=>
  have h:Zbaf a=some x:=h;unfold Zbaf at h;split at h;simp only [SimV] at hs;exact ⟨trivial,rfl,fun M N=>by simp only [pkA,SimV];exact hs⟩
  cases h
theorem Zbpk {E:En} {st:St} {ρ:Env} {H:Heap} {g:Gh} (s:Sim E st ρ H g): ∀{ps:List Pk} {as:List AV} {vs:List Value} {x:PkTs ps},rdPs st.σ ps as=some x->SimL g H st.σ.length as vs->
  WfPs ps x∧pksR ps x= []∧as.length=ps.length∧∀M N,SimL (gAll H g) H N (pksA M ps x) vs
 | [],[],[],_,_,_=>⟨trivial,rfl,rfl,fun _ _=>by simp only [pksA,SimL]⟩
 | [],[],_::_,_,_,h=>by simp only [SimL] at h
 | [],_::_,_,_,h,_=>by simp only [rdPs] at h;cases h
 | _::_,[],_,_,h,_=>by simp only [rdPs] at h;cases h
 | _::_,_::_,[],_,_,h=>by simp only [SimL] at h
 | p::ps,a::as,v::vs,x,h,hs=>by
  simp only [SimL] at hs;simp only [rdPs] at h;split at h
  ·rename_i y z hy hz;cases h;obtain ⟨h1,h2,h3⟩:=Zcfm s hy hs.1;obtain ⟨k1,k2,k3,k4⟩:=Zbpk s hz hs.2;refine ⟨⟨h1,k1⟩,?_,by simp [k3],fun M N=>?_⟩
   ·cases p<;>first | exact k2 | (simp only [Zbq] at h2;cases h2)
   simp only [pksA,SimL,h2];exact ⟨h3 M N,k4 M N⟩
  cases h
def ctRd (ps rs:List Pk) (q:PkTs ps->(PkTs rs->Prop)->Prop):Ct:=fun st args K=>
 match rs.all Ziq,rdPs st.σ ps args with
 | true,some x=>WfPs ps x->q x fun y=>WfPs rs y->K (outA (pksA st.σ.length rs y)) st
 | _,_=>False
theorem Zem {P:Program} {f:FuncId} {ps rs:List Pk} {q:PkTs ps->(PkTs rs->Prop)->Prop} (hq:FnQ P f ps rs q):Zcp P f (ctRd ps rs q):=by
 intro E st ρ H g args vs K s hargs h;unfold ctRd at h;split at h
 case h_2=>exact h.elim
 rename_i x hrs htk;obtain ⟨hw,hR,hlen,hsim⟩:=Zbpk s htk hargs
 let g2:Gh:=gAll H g
 have none: ∀{i:Nat} {o:AObj},(parS ps x).σ[i]? =some o->False:=fun {i o} h=>by have:(parS ps x).σ= []:=hR;rw [this] at h;simp at h
 have s2:Sim ⟨H,Zbd g2 (pksR ps x),g2.Z⟩ (parS ps x) (env0 vs) H g2:=
  {tmp:=fun t=>by have:(parS ps x).σ= []:=hR;rw [this];simpa [parS,env0] using Zom (hsim 0 0) t
   obj:=fun id o h=>(none h).elim
   nz:=fun id o h=>(none h).elim
   dis:=fun i j oi oj _ h=>(none h).elim
   own:=fun i o h=>(none h).elim
   keep:=Keep.refl _ _
   zsub:=fun _ h=>h
   znew:=fun _ h=> .inl h
   zlive:=fun _ h=>h
   lay:=by
    have e: ∀b,Zbd g2 (pksR ps x) b↔Zbd g ([]:List AObj) b:=fun b=>by rw [hR];exact ⟨fun ⟨i,o,h,_⟩=>by simp at h,fun ⟨i,o,h,_⟩=>by simp at h⟩
    refine ⟨fun b hb ho=>?_,fun b hb=>?_,?_⟩;obtain ⟨i,o,h,_⟩:=(e b).1 ho;simp at h;exact (s.layE (Z:=g.Z)).live b hb;exact (s.layE (Z:=g.Z)).ok
   zc:=fun _ h=> .inl h }
 have hvl:vs.length=ps.length:=by rw [← hargs.len,hlen]
 refine (hq x _ (h hw) H g2 vs hvl s2).mono fun v H' hk=>?_;obtain ⟨a,st',ρ',g',s',hav,hout⟩:=hk;unfold outP at hout;split at hout
 case h_2=>exact hout.elim
 rename_i as hol;split at hout
 case h_2=>exact hout.elim
 rename_i σ' hfr';split at hout
 case h_2=>exact hout.elim
 rename_i y src' htk';split at hout
 case h_2=>exact hout.elim
 obtain ⟨g3,s3,r3,l3,f3,_⟩:=Zlo rs as st'.σ σ' g' s' hfr';obtain ⟨ws,hws,hwsF⟩:=Zwk hol (Zoz htk') hav;have hws3:=SimL.ext r3.len r3.ext _ _ hws;obtain ⟨hw',hlen',_,hsim'⟩:=Zpa s3 htk' hws3 f3;have hR':pksR rs y= []:=Zwn (Zbpw hrs);have hsrc':src'= []:=List.eq_nil_of_length_eq_zero (by rw [← hlen',hR'];rfl)
 subst hsrc';have hsl':=hsim' g3 0 0 ⟨fun j id h=>by simp at h,fun j h=>by simp at h⟩ (by simp) rfl
 have kn:Keep Nil H H':=⟨fun b _ hb=>s3.keep.same b (fun ho=>by
  obtain ⟨i,o,hi,_⟩:=ho;rw [hR] at hi;simp at hi) hb,fun b hb=>s3.keep.live b hb⟩
 obtain ⟨sE,rE⟩:=s.keepAll kn;refine ⟨_,st,g,sE,rE,?_,rfl,hout hw'⟩;exact hwsF g H' _ _ (Zht _ _ _) (Zbfl hrs hsl')
end Go.Sh
end
section
namespace Go.Sh
variable [Laid]
theorem Zbqf {g:Gh} {H:Heap} {N:Nat}: ∀{as:List AV} {vs:List Value},as.length=vs.length->(∀i,i<as.length->SimV g H N (as.getD i .undef) (vs.getD i undef))->SimL g H N as vs
 | [],[],_,_=>by simp only [SimL]
 | [],_::_,h,_=>by simp at h
 | _::_,[],h,_=>by simp at h
 | a::as,v::vs,h,hs=>by simp only [SimL];exact ⟨by simpa using hs 0 (by simp),Zbqf (by simpa using h) fun i hi=>by simpa using hs (i+1) (by simpa using hi)⟩
theorem Zbkw {σ:List AObj}: ∀{rs:List Pk} {y:PkTs rs} {M:Nat},rs.all Ziq=true->frzP σ rs (pksA M rs y)=some σ
 | [],_,_,_=>rfl
 | r::rs,y,M,h=>by
  simp only [List.all_cons,Bool.and_eq_true] at h;have ih:=Zbkw (σ:=σ) (rs:=rs) (y:=y.2) (M:=M) h.2;cases r<;>simp only [Ziq] at h<;>first | (cases h.1;done) | skip
  all_goals
   simp only [pksA,frzP,Zbq,pkA,Zbz,frzL,frzO];exact ih
theorem Zbqo {σ:List AObj}: ∀{rs:List Pk} {y:PkTs rs} {M:Nat},rs.all Ziq=true->Zdf σ rs (pksA M rs y)=some (y,[])
 | [],_,_,_=>rfl
 | r::rs,y,M,h=>by
  simp only [List.all_cons,Bool.and_eq_true] at h;have ih:=Zbqo (σ:=σ) (rs:=rs) (y:=y.2) (M:=M) h.2;cases r<;>simp only [Ziq] at h<;>first | (cases h.1;done) | skip
  all_goals
   simp only [pksA,Zdf,Zbq,pkA,Zed,decide_true,ih];rfl
theorem Zbod {rs:List Pk} {as:List AV} (h:as.length=rs.length):outL rs (outA as)=some as:=by
 cases rs with
 | nil=>
  cases as with
  | nil=>rfl
  | cons=>simp at h
 | cons r rs=>
  cases as with
  | nil=>simp at h
  | cons a as=>
   cases rs with
   | nil=>
    cases as with
    | nil=>rfl
    | cons=>simp at h
   | cons r2 rs=>
    cases as with
    | nil=>simp at h
    | cons b as=>rfl
theorem Zcdf {rs:List Pk} {st:St} {y:PkTs rs} {K:PkTs rs->Prop} {M:Nat} (h:rs.all Ziq=true) (k:K y):outP rs st (outA (pksA M rs y)) K:=by unfold outP;rw [Zbod (Zht _ _ _)];simp only [Zbkw h,Zbqo h,Zr,Zct];exact k
theorem Zbef {E:En} {ps:List Pk} {x:PkTs ps} {vs:List Value} {H:Heap} {g:Gh} (s:Sim E (parS ps x) (env0 vs) H g) (hl:vs.length=ps.length):SimL g H (pksR ps x).length (pksA 0 ps x) vs:=by
 refine Zbqf (by rw [Zht];omega) fun i _=>?_
 have:=s.tmp i;simpa [parS,env0] using this
theorem Zln {P:Program} {f:FuncId} {ps rs:List Pk} {q:PkTs ps->(PkTs rs->Prop)->Prop} (hrs:rs.all Ziq=true) (hen:Enters P f)
  (h: ∀x K,q x K->∀(W:World) (g:Gh) (vs:List Value),(∀b,g.Z b->hp W b≠none)->SimL g (hp W) (pksR ps x).length (pksA 0 ps x) vs->Laid.ok (layH (hp W))->
   Calls P f ⟨vs⟩ W fun e W'=>∃y v,e= .returned v∧SimV g (hp W') (pksR ps x).length (outA (pksA 0 rs y)) v∧K y∧Keep Nil (hp W) (hp W')∧Rest W W'):FnQ P f ps rs q:=by
 intro x K hx H g vs hl s;refine ⟨hen,fun W hW=>?_⟩;subst hW;refine (h x K hx W g vs s.zlive (Zbef s hl) (by have:=s.layH.2;rw [this];exact s.lay.ok)).mono fun e W' ⟨y,v,he,hv,hk,hkp,hr⟩=>⟨v,he,?_,hr⟩
 obtain ⟨s',_⟩:=s.keepAll hkp;exact ⟨_,_,_,_,s',hv,Zcdf hrs hk⟩
theorem Zbzd {P:Program} {f:FuncId} {ps:List Pk} {T:TypeId} {ks:List Kd} {q:PkTs ps->(PkTs [.own T ks]->Prop)->Prop} (hks:Kd.decs ks ks=isTrue rfl) (hen:Enters P f)
  (h: ∀x K,q x K->∀(W:World) (g:Gh) (vs:List Value),(∀b,g.Z b->hp W b≠none)->SimL g (hp W) (pksR ps x).length (pksA 0 ps x) vs->Laid.ok (layH (hp W))->
   Calls P f ⟨vs⟩ W fun e W'=>∃(xs:List (Tp ks)) (us:List Value) (n:Nat),e= .returned (.slice (some ⟨n,0,none⟩) xs.length xs.length)∧hp W n=none∧hp W'=(hp W).upd n (.cells ⟨us⟩ T (0,0))∧us.length=xs.length*ks.length∧xs.length <= Zo∧
    (∀i x,xs[i]? =some x->Zc g.Z (hp W) ks x (fun j=>us[i*ks.length+j]?))∧K (xs,())∧Rest W W'):FnQ P f ps [.own T ks] q:=by
 intro x K hx H g vs hl s;refine ⟨hen,fun W hW=>?_⟩;subst hW;refine (h x K hx W g vs s.zlive (Zbef s hl) (by have:=s.layH.2;rw [this];exact s.lay.ok)).mono fun e W' ⟨xs,us,n,he,hn,hW',hul,hlm,hc,hk,hr⟩=>⟨_,he,?_,hr⟩
 rw [hW'];obtain ⟨a,st',g',s',r',hv,_,hk'⟩:=s.newRow (K:=fun a st'=>outP [.own T ks] st' a K) hn (vs:=us) (T:=T) (xs:=xs) (cap:=xs.length) (Nat.le_refl _) hlm hul hc (by
  simp only [outP,outL,frzP,Zbq,Zdf,Zed,St.new,parS];rw [List.getElem?_append_right (Nat.le_refl _),Nat.sub_self];simp only [List.getElem?_cons_zero,Nat.beq_refl,hks,Zdl,Zr,Zct,memB,Bool.not_false,Bool.and_true];exact hk)
 exact ⟨a,st',_,g',s',hv,hk'⟩
theorem laidMet.tail {P:Program} {W:World} {x:String×DataW Unit} {rest:List (String×DataW Unit)} (h:laidMet P (x::rest) W):laidMet P rest W:=by obtain ⟨ps,hl,hn,hc⟩:=h;obtain ⟨g',t',cs,fuel,p,q,hg',ht',hvar,hd,hrest,rfl⟩:=hl;exact ⟨q,hrest,(List.nodup_append.1 hn).2.1,fun b off hb=>hc b off (List.mem_append_right _ hb)⟩
theorem Zrn {w w':World} (h:Go.RowKit.Below w.heap.size w w'):Keep Nil (hp w) (hp w')∧Rest w w':=by
 have hs: ∀b,hp w b≠none->hp w' b=hp w b:=fun b hb=>h.block b (by
  rcases Nat.lt_or_ge b w.heap.size with hlt | hge;exact hlt
  ·exact absurd (by simp [hp,hge]:hp w b=none) hb)
 exact ⟨⟨fun b _ hb=>hs b hb,fun b hb=>by rw [hs b hb];exact hb⟩,⟨h.os,h.tape,h.output,fun b ds hb=>(h.block b (Array.getElem?_eq_some_iff.1 hb).1).trans hb,h.size⟩⟩
open Go.ChangeShapes Go.WideShapes Go.ChangeAt Go.RowKit in
theorem Zcby {C:Checked} {os:Os} {f:FuncId} {fn:Func} {s:ChangeSpec} {conds:List PathCond} {apart fresh handsOn:Bool} {H:Type} {enc:TypeId×Value->H} {tb:TypeId} {laid:List (String×DataW Unit)}
  (own:ownKnob C.prog.godebug=none) (started:os.Started) (noInit:C.prog.inits.idxOf? f=none) (hfn:C.prog.funcs[f]? =some fn)
  (witness: ∃(w:World) (tape:Tape) (i:Input),w.os=os∧(w.forCall tape i).Shaped C.prog∧i.vars= []∧Input.okWide C.prog (w.forCall tape i) .any w.heap.size f i∧
   ((s.pre enc C.prog fn conds apart (w.forCall tape i).memory i.args∧laidMetH C.prog laid (w.forCall tape i).memory)∧sizedMet enc C.prog fn (OpenSpec.ofChange s) apart (w.forCall tape i).memory i.args)∧Assume.holds {} C.prog (lone (Frame.enter C.prog f i.args .normal) [] (w.forCall tape i)))
  (hl:laidOutB C.prog=true) (hpar:fn.params.toList.all (fun t=>C.prog.readableRec t&&decide (t<C.prog.types.size))=true) (hv:s.vars= []) (hrt:fn.resultTypes= #[tb]) (htb:C.prog.underlying tb=some .bool)
  (walk: ∀(W:World) (base:Nat) (args:Array Value) (ds:List (DataW H)) (p:List MemPlace),(∀(j:Nat) t v,fn.params[j]? =some t->args[j]? =some v->Value.okWide C.prog W .any base t v)->
   DataW.TrodAll enc C.prog W 0 (fun _=>true) true fn.params.toList args.toList ds p->(DataW.weightsEach C.prog fn.params.toList ds).all (· <= reachBytes)=true->laidMetH C.prog laid W->W.ShapedOpen C.prog->s.fn H ds= { results:=[.lit (.bool true)],args:=ds }∧
   FnW C.prog f args (hp W) fun v H'=>v= .bool true∧Keep Nil (hp W) H'):
  ReturnsInHanded {} C os f .any (fun w args=>(s.pre enc C.prog fn conds apart w args∧laidMetH C.prog laid w)∧sizedMet enc C.prog fn (OpenSpec.ofChange s) apart w args) (s.post enc C.prog fn apart fresh handsOn false):=by
 refine returnsInHanded_of_calls own started noInit witness ?_;intro w tape i _ hsh _ hok hpre _;obtain ⟨_,_,_,fn',hfn',_,_,_,_,hval⟩:=hok;have e:fn'=fn:=Option.some.inj (hfn'.symm.trans hfn);subst e;obtain ⟨⟨⟨ds,gs,before,hw,hc⟩,hL⟩,hz⟩:=hpre;have hwt:=hz.weights hw;have hW:=DataW.Whole.of_heap (w':=w.forCall tape i) (by rfl) hw
 have hW':=hW;obtain ⟨p,q,hA,hV,rfl,_,_⟩:=hW';have hV':=hV;rw [hv] at hV';obtain ⟨rfl,rfl⟩:=trodVars_none hV';have hvt:(OpenSpec.ofChange s).bare.plain.varTypes C.prog= []:=by have:(OpenSpec.ofChange s).bare.plain.vars= []:=hv;unfold DataSpec.varTypes;rw [this];rfl
 rw [hvt,List.append_nil,List.append_nil] at hwt;obtain ⟨hs,hf⟩:=walk (w.forCall tape i) w.heap.size i.args ds p hval hA hwt (laidMetH.of_heap (w:=(w.forCall tape i).memory) rfl hL) hsh;refine (hf.2 (w.forCall tape i) rfl).mono fun e W' ⟨v,he,⟨hv',hk⟩,hr⟩=>?_;subst hv' he;exact ChangeSpec.post_blind (Zcen hl hpar hv hrt htb hW (by rw [List.append_nil];exact hs) (hk.below hr))
end Go.Sh
end
section
namespace Go.Sh
variable [Laid]
def gZ (Z:Nat->Prop):Gh:=⟨Z,fun _=>0,fun _=> .nilFunc⟩
theorem Zchi {g:Gh} {H:Heap} {as:List AV} {vs:List Value} (h:SimL g H 0 as vs):SimL (gZ g.Z) H 0 as vs:=
 SimL.ext (g:=g) (g':=gZ g.Z) (Nat.le_refl _) ⟨fun b hb=>⟨hb,rfl⟩,fun _ h=>absurd h (by omega),fun _ h=>absurd h (by omega)⟩ _ _ h
theorem FnQ.run {P:Program} {f:FuncId} {ps rs:List Pk} {q:PkTs ps->(PkTs rs->Prop)->Prop} (hq:FnQ P f ps rs q) (hrs:rs.all Ziq=true) {x:PkTs ps} (hps:pksR ps x= []) {vs:List Value} {H:Heap} {Z:Nat->Prop}
  (hs:SimL (gZ Z) H 0 (pksA 0 ps x) vs) (hz: ∀b,Z b->H b≠none) (hlay: ∀b,Laid.blocks b=true->H b≠none) (hlo:Laid.ok (layH H)) {K:PkTs rs->Prop} (h:q x K):
  FnW P f ⟨vs⟩ H fun v H'=>Keep Nil H H'∧∃y,K y∧WfPs rs y∧∀(N:Nat) (g:Gh),SimV g H' N (outA (pksA 0 rs y)) v:=by
 have hσ:(parS ps x).σ= []:=hps;have s2:Sim ⟨H,Zbd (gZ Z) (pksR ps x),(gZ Z).Z⟩ (parS ps x) (env0 vs) H (gZ Z):=by refine ⟨fun t=>?_,fun i o hi=>?_,fun i o hi=>?_,fun i j oi oj _ hi=>?_,fun i o hi=>?_,Keep.refl _ _,fun b hb=>hb,fun b hb=> .inl hb,hz,⟨fun b hb ho=>?_,hlay,hlo⟩,fun b hb=> .inl hb⟩;rw [hσ];simpa [parS,env0] using Zom hs t;rw [hσ] at hi;simp at hi;rw [hσ] at hi;simp at hi;rw [hσ] at hi;simp at hi;rw [hσ] at hi;simp at hi;obtain ⟨i,o,hi,_⟩:=ho;rw [hps] at hi;simp at hi
 have hvl:vs.length=ps.length:=by rw [← hs.len,Zht]
 refine (hq x _ h H (gZ Z) vs hvl s2).mono fun v H' hk=>?_;obtain ⟨a,st',ρ',g',s',hav,hout⟩:=hk;unfold outP at hout;split at hout
 case h_2=>exact hout.elim
 rename_i as hol;split at hout
 case h_2=>exact hout.elim
 rename_i σ' hfr';split at hout
 case h_2=>exact hout.elim
 rename_i y src' htk';split at hout
 case h_2=>exact hout.elim
 obtain ⟨g3,s3,r3,l3,f3,_⟩:=Zlo rs as st'.σ σ' g' s' hfr';obtain ⟨ws,hws,hwsF⟩:=Zwk hol (Zoz htk') hav;have hws3:=SimL.ext r3.len r3.ext _ _ hws;obtain ⟨hw',hlen',_,hsim'⟩:=Zpa s3 htk' hws3 f3;have hR':pksR rs y= []:=Zwn (Zbpw hrs);have hsrc':src'= []:=List.eq_nil_of_length_eq_zero (by rw [← hlen',hR'];rfl)
 subst hsrc';have hsl':=hsim' g3 0 0 ⟨fun j id h=>by simp at h,fun j h=>by simp at h⟩ (by simp) rfl
 refine ⟨⟨fun b _ hb=>s3.keep.same b (fun ho=>by
  obtain ⟨i,o,hi,_⟩:=ho;rw [hps] at hi;simp at hi) hb,fun b hb=>s3.keep.live b hb⟩,y,hout,hw',fun N g=>?_⟩
 exact hwsF g H' _ _ (Zht _ _ _) (Zbfl hrs hsl')
end Go.Sh
end
section
namespace Go.Sh
theorem Zi {H0 H H2:Heap} (k:Keep Nil H0 H) (hs:Shut H0 H H2):Keep Nil H0 H2:=
 ⟨fun b hb ha=>by
  rcases hs b with e | ⟨e,_,_⟩;rw [e];exact k.same b hb ha
  ·exact absurd e ha,fun b ha=>by
  rcases hs b with e | ⟨e,_,_⟩;rw [e];exact k.live b ha
  ·exact absurd e ha⟩
theorem Zol {H0 H H2:Heap} {b:Nat} {T:TypeId} {c:Array Value} (h:Blk H b T c) (hs:Shut H0 H H2):Blk H2 b T c:=by rcases hs b with e | ⟨_,e,_⟩;exact h.same e;unfold Blk at h;rw [h] at e;cases e
end Go.Sh
end
section
namespace Go.Sh
variable [Laid]
theorem Zcct: ∀(k:IntKind) (x:Zkz k),ofI k (toI k x)=x
 | .u8,x=>by simp [ofI,toI]
 | .u16,x=>by simp [ofI,toI]
 | .u32,x=>by simp [ofI,toI]
 | .u64,x=>by simp [ofI,toI]
 | .i8,_=>rfl
 | .i16,_=>rfl
 | .i32,_=>rfl
 | .i64,_=>rfl
theorem Zcjq: ∀(k:Kd) (x:El k),unE k (lvE k x)=some x
 | .int k,x=>by simp only [lvE,unE,decide_true];exact congrArg some (Zcct k x)
 | .bool,_=>rfl
 | .str,_=>rfl
 | .lst ks,xs=>by
  simp only [lvE,unE];cases h:Kd.decs ks ks with
  | isTrue e=>rfl
  | isFalse e=>exact absurd rfl e
theorem Zcjv (σ:List AObj): ∀(k:Kd) (x:El k),Zex σ (lvE k x)=lvE k x
 | .int _,_=>rfl
 | .bool,_=>rfl
 | .str,_=>rfl
 | .lst _,_=>rfl
theorem Zccl {k:Kd}: ∀(ks:List Kd) (x:Tp (k::ks)),mkT ks (hdT ks x) (tlT ks x)=x
 | [],_=>rfl
 | _::_,_=>rfl
theorem Zbqz (σ:List AObj): ∀(ks:List Kd) (x:Tp ks),unT ks ((lvT ks x).map (Zex σ))=some x
 | [],_=>rfl
 | k::ks,x=>by simp only [lvT,List.map_cons,Zcjv,unT,Zcjq,Zbqz σ ks];rw [Zccl]
theorem Zbku (σ:List AObj): ∀(ks:List Kd) (x:Tp ks),frzL σ (lvT ks x)=some σ
 | [],_=>rfl
 | k::ks,x=>by
  have e:frzO σ (lvE k (hdT ks x))=some σ:=by cases k<;>rfl
  simp only [lvT,frzL,e,Zbku σ ks]
theorem Zbkv {σ:List AObj}: ∀{rs:List Pk} {y:PkTs rs} {M:Nat},(rs.all fun p=>!(Zbq p))=true->frzP σ rs (pksA M rs y)=some σ
 | [],_,_,_=>rfl
 | r::rs,y,M,h=>by
  simp only [List.all_cons,Bool.and_eq_true] at h;have ih:=Zbkv (σ:=σ) (rs:=rs) (y:=y.2) (M:=M) h.2;cases r<;>simp only [Zbq] at h<;>first | (simp at h;done) | skip
  case agg ks=>
   have e:frzL σ (lvT ks y.1)=some σ:=Zbku σ ks y.1;simp only [pksA,frzP,Zbq,pkA,Zbz];rw [e];exact ih
  all_goals
   simp only [pksA,frzP,Zbq,pkA,Zbz,frzL,frzO];exact ih
theorem Zcfl (σ:List AObj) (ks:List Kd) (xs:List (Tp ks)):rdL σ ks (.lst ks xs)=some xs:=by
 simp only [rdL];cases h:Kd.decs ks ks with
 | isTrue e=>rfl
 | isFalse e=>exact absurd rfl e
theorem Zbqn {σ:List AObj}: ∀{rs:List Pk} {y:PkTs rs} {M:Nat},(rs.all fun p=>!(Zbq p))=true->Zdf σ rs (pksA M rs y)=some (y,[])
 | [],_,_,_=>rfl
 | r::rs,y,M,h=>by
  simp only [List.all_cons,Bool.and_eq_true] at h;have ih:=Zbqn (σ:=σ) (rs:=rs) (y:=y.2) (M:=M) h.2;cases r<;>simp only [Zbq] at h<;>first | (simp at h;done) | skip
  case lst ks=>
   have e:rdL σ ks (.lst ks y.1)=some y.1:=Zcfl σ ks y.1;simp only [pksA,Zdf,Zbq,pkA,Zed,ih];rw [e];rfl
  case agg ks=>
   have e:unT ks ((lvT ks y.1).map (Zex σ))=some y.1:=Zbqz σ ks y.1;simp only [pksA,Zdf,Zbq,pkA,Zed,ih];rw [e];rfl
  all_goals
   simp only [pksA,Zdf,Zbq,pkA,Zed,decide_true,ih,Nat.beq_refl];try rfl
theorem Zcde {rs:List Pk} {st:St} {y:PkTs rs} {K:PkTs rs->Prop} {M:Nat} (h:(rs.all fun p=>!(Zbq p))=true) (k:K y):outP rs st (outA (pksA M rs y)) K:=by unfold outP;rw [Zbod (Zht _ _ _)];simp only [Zbkv h,Zbqn h,Zr,Zct];exact k
def Zpw (H H':Heap) (Zn:Nat->Prop):Prop:=∀b,Zn b->H b=none∧H' b≠none∧∀ds,H' b≠some (.deferred ds)
theorem Zpw.none {H H':Heap}:Zpw H H' (fun _=>False):=fun _ h=>h.elim
theorem FnQ.runZ {P:Program} {f:FuncId} {ps rs:List Pk} {q:PkTs ps->(PkTs rs->Prop)->Prop} (hq:FnQ P f ps rs q) (hrs:(rs.all fun p=>!(Zbq p))=true) {x:PkTs ps} (hps:pksR ps x= []) {vs:List Value} {H:Heap} {Z:Nat->Prop}
  (hs:SimL (gZ Z) H 0 (pksA 0 ps x) vs) (hz: ∀b,Z b->H b≠none) (hlay: ∀b,Laid.blocks b=true->H b≠none) (hlo:Laid.ok (layH H)) {K:PkTs rs->Prop} (h:q x K):
  FnW P f ⟨vs⟩ H fun v H'=>Keep Nil H H'∧∃y Zn,K y∧WfPs rs y∧Zpw H H' Zn∧SimV (gZ fun b=>Z b∨Zn b) H' 0 (outA (pksA 0 rs y)) v:=by
 have hσ:(parS ps x).σ= []:=hps;have s2:Sim ⟨H,Zbd (gZ Z) (pksR ps x),(gZ Z).Z⟩ (parS ps x) (env0 vs) H (gZ Z):=by refine ⟨fun t=>?_,fun i o hi=>?_,fun i o hi=>?_,fun i j oi oj _ hi=>?_,fun i o hi=>?_,Keep.refl _ _,fun b hb=>hb,fun b hb=> .inl hb,hz,⟨fun b hb ho=>?_,hlay,hlo⟩,fun b hb=> .inl hb⟩;rw [hσ];simpa [parS,env0] using Zom hs t;rw [hσ] at hi;simp at hi;rw [hσ] at hi;simp at hi;rw [hσ] at hi;simp at hi;rw [hσ] at hi;simp at hi;obtain ⟨i,o,hi,_⟩:=ho;rw [hps] at hi;simp at hi
 have hvl:vs.length=ps.length:=by rw [← hs.len,Zht]
 refine (hq x _ h H (gZ Z) vs hvl s2).mono fun v H' hk=>?_;obtain ⟨a,st',ρ',g',s',hav,hout⟩:=hk;unfold outP at hout;split at hout
 case h_2=>exact hout.elim
 rename_i as hol;split at hout
 case h_2=>exact hout.elim
 rename_i σ' hfr';split at hout
 case h_2=>exact hout.elim
 rename_i y src' htk';split at hout
 case h_2=>exact hout.elim
 obtain ⟨g3,s3,r3,l3,f3,_⟩:=Zlo rs as st'.σ σ' g' s' hfr';obtain ⟨ws,hws,hwsF⟩:=Zwk hol (Zoz htk') hav;have hws3:=SimL.ext r3.len r3.ext _ _ hws;obtain ⟨hw',hlen',_,hsim'⟩:=Zpa s3 htk' hws3 f3;have hR':pksR rs y= []:=Zwn hrs;have hsrc':src'= []:=List.eq_nil_of_length_eq_zero (by rw [← hlen',hR'];rfl)
 subst hsrc';have hsl':=hsim' g3 0 0 ⟨fun j id h=>by simp at h,fun j h=>by simp at h⟩ (by simp) rfl
 have noOwn: ∀b,¬Zbd (gZ Z) (pksR ps x) b:=fun b ho=>by obtain ⟨i,o,hi,_⟩:=ho;rw [hps] at hi;simp at hi
 refine ⟨⟨fun b _ hb=>s3.keep.same b (noOwn b) hb,fun b hb=>s3.keep.live b hb⟩,y,fun b=>g3.Z b∧H b=none,hout,hw',fun b hb=>⟨hb.2,s3.zlive b hb.1,?_⟩,?_⟩;rcases s3.zc b hb.1 with h | h;exact absurd hb.2 (hz b h);exact h
 ·have e:=SimL.ext (g:=g3) (g':=gZ fun b=>Z b∨(g3.Z b∧H b=none)) (H':=H') (N:=0) (N':=0) (Nat.le_refl _) ⟨fun b hb=>⟨by
   rcases s3.znew b hb with h | h | h;exact .inl h;exact .inr ⟨hb,h⟩
   ·exact absurd h (noOwn b),rfl⟩,fun _ h=>absurd h (by omega),fun _ h=>absurd h (by omega)⟩ _ _ hsl'
  exact hwsF (gZ fun b=>Z b∨(g3.Z b∧H b=none)) H' _ _ (Zht _ _ _) e
theorem Zbzc {P:Program} {f:FuncId} {ps rs:List Pk} {q:PkTs ps->(PkTs rs->Prop)->Prop} (hrs:(rs.all fun p=>!(Zbq p))=true) (hps: ∀x,pksR ps x= [])
  (h: ∀x K,q x K->∀(H:Heap) (Z:Nat->Prop) (vs:List Value),SimL (gZ Z) H 0 (pksA 0 ps x) vs->(∀b,Z b->H b≠none)->(∀b,Laid.blocks b=true->H b≠none)->Laid.ok (layH H)->
   FnW P f ⟨vs⟩ H fun v H'=>Keep Nil H H'∧∃(y:PkTs rs) (Zn:Nat->Prop),K y∧Zpw H H' Zn∧SimV (gZ fun b=>Z b∨Zn b) H' 0 (outA (pksA 0 rs y)) v):FnQ P f ps rs q:=by
 intro x K hx H g vs hl s;have hσ:(parS ps x).σ= []:=hps x;have hsl:=Zbef s hl;rw [hps x] at hsl;refine (h x K hx H g.Z vs (Zchi hsl) s.zlive (fun b hb=>by rw [s.layH.1 b hb];exact s.lay.live b hb) (by rw [s.layH.2];exact s.lay.ok)).mono fun v H' hk=>?_
 obtain ⟨hk,y,Zn,hK,hzn,hc⟩:=hk;obtain ⟨s',_⟩:=s.keepAll hk
 let g':Gh:=⟨fun b=>g.Z b∨Zn b,g.B,g.V⟩
 have ext': ∀N,Ext N g H' g' H':=fun N=>⟨fun b hb=>⟨.inl hb,rfl⟩,fun _ _=>rfl,fun _ _=>rfl⟩;refine ⟨outA (pksA 0 rs y),parS ps x,env0 vs,g',⟨fun t=>SimV.ext (Nat.le_refl _) (ext' _) _ _ (s'.tmp t),fun i o hi=>?_,fun i o hi=>?_,fun i j oi oj _ hi=>?_,fun i o hi=>?_,s'.keep,fun b hb=> .inl (s'.zsub b hb),fun b hb=>?_,fun b hb=>?_,s'.lay,fun b hb=>?_⟩,?_,?_⟩;rw [hσ] at hi;simp at hi;rw [hσ] at hi;simp at hi;rw [hσ] at hi;simp at hi;rw [hσ] at hi;simp at hi;rcases hb with hb | hb;exact s'.znew b hb;exact .inr (.inl (hzn b hb).1);rcases hb with hb | hb;exact s'.zlive b hb;exact (hzn b hb).2.1;rcases hb with hb | hb;exact s'.zc b hb;exact .inr (hzn b hb).2.2;exact SimV.ext (g:=gZ fun b=>g.Z b∨Zn b) (g':=g') (N:=0) (Nat.zero_le _) ⟨fun b hb=>⟨hb,rfl⟩,fun _ h=>absurd h (by omega),fun _ h=>absurd h (by omega)⟩ _ _ hc
 exact Zcde hrs hK
end Go.Sh
end
section
namespace Go.Sh
theorem ifT {b:Bool} {X Y:Prop} (h:b=true) (x:X):IfB b X Y:=by subst h;exact x
theorem ifF {b:Bool} {X Y:Prop} (h:b=false) (y:Y):IfB b X Y:=by subst h;exact y
theorem AtN.of {A:Type} {xs:List A} {i:Nat} {k:A->Prop} {x:A} (h:xs[i]? =some x) (hk:k x):AtN xs i k:=
 ⟨(List.getElem?_eq_some_iff.1 h).1,fun y hy=>by rw [h] at hy;cases hy;exact hk⟩
theorem of_eq {T:Type} {next:T->Prop} {x y:T} (h:next x) (e:x=y):next y:=e▸h
theorem Zccv {A B:Type} {K:A->B->Prop} {x y:A} {b:B} (h:K x b) (e:x=y):K y b:=e▸h
theorem Zhz {n:Int} (h1: -9223372036854775808 <= n) (h2:n <= 9223372036854775807):IntKind.wrap .i64 n=n:=by unfold IntKind.wrap;simp [IntKind.bits,IntKind.signed];split<;>omega
theorem Zckk (n:Int):IntKind.wrap .u32 n=n%4294967296:=by simp [IntKind.wrap,IntKind.bits,IntKind.signed]
theorem Zckl (n:Int):IntKind.wrap .u64 n=n%18446744073709551616:=by simp [IntKind.wrap,IntKind.bits,IntKind.signed]
theorem Zdb.up {T:Type} {x0:T} {body:T->(T->Prop)->Prop} (n:Nat) (S:Nat->T) (P:Nat->Prop) (h0:x0=S 0) (hP:P 0)
  (hr: ∀i,i<n->P i->∀next:T->Prop,(P (i+1)->next (S (i+1)))->body (S i) next) (he:P n->∀next,body (S n) next):Zdb T x0 body:=
 ⟨fun k x=>∃i,i <= n∧k=n - i∧x=S i∧P i,n,⟨0,by omega,by omega,h0,hP⟩,by
  rintro k x ⟨i,hi,rfl,rfl,hp⟩;by_cases h:i<n;exact hr i h hp _ (fun hp'=>⟨n - (i+1),by omega,i+1,by omega,rfl,rfl,hp'⟩)
  ·obtain rfl:i=n:=by omega
   exact he hp _⟩
theorem Zdb.list {T A:Type} {x0:T} {body:T->(T->Prop)->Prop} (xs:List A) (S:List A->T) (P:List A->Prop) (h0:x0=S []) (hP:P [])
  (hr: ∀pre x post,xs=pre++x::post->P pre->∀next:T->Prop,(P (pre++[x])->next (S (pre++[x])))->body (S pre) next) (he:P xs->∀next,body (S xs) next):Zdb T x0 body:=by
 refine Zdb.up xs.length (fun i=>S (xs.take i)) (fun i=>P (xs.take i)) (by simpa using h0) (by simpa using hP) (fun i hi hp next hn=>?_) (by simpa using he)
 have e:xs.take (i+1)=xs.take i++[xs[i]]:=by rw [List.take_add_one,List.getElem?_eq_getElem hi];rfl
 refine hr (xs.take i) xs[i] (xs.drop (i+1)) ?_ hp next ?_
 rw [← List.drop_eq_getElem_cons hi,List.take_append_drop];rw [← e];exact hn
theorem Zbif {A:Type} {xs pre post:List A} {x:A} (h:xs=pre++x::post):xs[((pre.length:Nat):Int).toNat]? =some x:=by subst h;simp
theorem Zbea (x:UInt32):ofI .u32 (x.toNat:Int)=x:=by simp [ofI]
theorem Zdb.over {T A:Type} {x0:T} {body:T->(T->Prop)->Prop} (xs:List A) (S:List A->T) (P:List A->Prop) (h0:x0=S []) (hP:P [])
  (hr: ∀pre x post,xs=pre++x::post->xs.length=pre.length+(post.length+1)->P pre->∀next:T->Prop,(P (pre++[x])->next (S (pre++[x])))->body (S pre) next) (he:P xs->∀next,body (S xs) next):Zdb T x0 body:=
 Zdb.list xs S P h0 hP (fun pre x post h=>hr pre x post h (by rw [h];simp)) he
theorem wu32 {a:Nat} (h:a<4294967296):IntKind.wrap .u32 (a:Int)=(a:Int):=by rw [Zckk];omega
theorem Zcjo (x:UInt32):x.toNat<4294967296:=UInt32.toNat_lt x
theorem Zcjp (x:UInt8):x.toNat<256:=UInt8.toNat_lt x
end Go.Sh
end
section
namespace Go.Sh
theorem Zmx (w a:Nat) (h:a<2^w):BitVec.ofInt w (a:Int)=BitVec.ofNat w a:=by apply BitVec.eq_of_toNat_eq;rw [BitVec.toNat_ofInt,BitVec.toNat_ofNat];rw [← Int.natCast_emod,Int.toNat_natCast]
theorem Zbia (k:IntKind) (a b:Nat) (ha:a<2^k.bits) (hb:b<2^k.bits):Zjc k a b=k.wrap ((a&&& b:Nat):Int):=by unfold Zjc;rw [Zmx _ _ ha,Zmx _ _ hb,BitVec.toNat_and,BitVec.toNat_ofNat,BitVec.toNat_ofNat,Nat.mod_eq_of_lt ha,Nat.mod_eq_of_lt hb]
theorem Zbed (k:IntKind) (a b:Nat) (ha:a<2^k.bits) (hb:b<2^k.bits):Zgr k a b=k.wrap ((a||| b:Nat):Int):=by unfold Zgr;rw [Zmx _ _ ha,Zmx _ _ hb,BitVec.toNat_or,BitVec.toNat_ofNat,BitVec.toNat_ofNat,Nat.mod_eq_of_lt ha,Nat.mod_eq_of_lt hb]
theorem Zbmw {a:Nat} (h:a<18446744073709551616):a<2^IntKind.bits .i64:=Nat.lt_of_lt_of_le h (by decide)
theorem Zkf {a:Nat} (h:a<4294967296):a<2^IntKind.bits .u32:=Nat.lt_of_lt_of_le h (by decide)
theorem Zbwx (n a:Nat):a&&& (2^n - 1)=a%2^n:=Nat.and_two_pow_sub_one_eq_mod a n
theorem Zbhz (a:Nat):a&&& 255=a%256:=Zbwx 8 a
theorem Zbob (n a b:Nat) (h:b<2^n):(2^n*a)||| b=2^n*a+b:=(Nat.two_pow_add_eq_or_of_lt h a).symm
theorem Zboa (a b:Nat) (h:b<256):(a*256)||| b=a*256+b:=by
 have:=Zbob 8 a b h;rw [show (2:Nat)^8=256 from rfl,Nat.mul_comm 256 a] at this;exact this
theorem Zcdb (a b:Nat) (h:b<65536):(a*65536)||| b=a*65536+b:=by
 have:=Zbob 16 a b h;rw [show (2:Nat)^16=65536 from rfl,Nat.mul_comm 65536 a] at this;exact this
end Go.Sh
end
section
namespace Go.Sh
def splF (c:UInt8) (st:List (List UInt8)×List UInt8) (x:UInt8):List (List UInt8)×List UInt8:=if x=c then (st.1++[st.2],[]) else (st.1,st.2++[x])
def splG (c:UInt8) (st:List (List UInt8)×List UInt8) (s:List UInt8):List (List UInt8)×List UInt8:=s.foldl (splF c) st
def spl (c:UInt8) (s:List UInt8):List (List UInt8):=(splG c ([],[]) s).1++[(splG c ([],[]) s).2]
theorem Zcho (c:UInt8) (st:List (List UInt8)×List UInt8) (s t:List UInt8):splG c st (s++t)=splG c (splG c st s) t:=by simp [splG]
theorem Zbqg (c:UInt8): ∀(s:List UInt8) (st:List (List UInt8)×List UInt8),c∉s->splG c st s=(st.1,st.2++s):=by
 intro s;induction s with
 | nil=>intro st _;simp [splG]
 | cons x s ih=>
  intro st h;simp only [List.mem_cons,not_or] at h;have:splG c st (x::s)=splG c (splF c st x) s:=rfl;rw [this,ih _ h.2,splF,if_neg (fun e=>h.1 e.symm)];simp
theorem Zchp (c:UInt8): ∀(s:List UInt8) (out:List (List UInt8)) (cur:List UInt8),splG c (out,cur) s=(out++(splG c ([],cur) s).1,(splG c ([],cur) s).2):=by
 intro s;induction s with
 | nil=>intro out cur;simp [splG]
 | cons x s ih=>
  intro out cur;have e1:splG c (out,cur) (x::s)=splG c (splF c (out,cur) x) s:=rfl;have e2:splG c ([],cur) (x::s)=splG c (splF c ([],cur) x) s:=rfl;rw [e1,e2];unfold splF;split;rw [ih (out++[cur]) [],ih ([]++[cur]) []];simp;rw [ih out (cur++[x])]
theorem Zon {c:UInt8} {s:List UInt8} (h:c∉s):spl c s= [s]:=by unfold spl;rw [Zbqg c s _ h];simp
theorem Zir {c:UInt8} {pre rest:List UInt8} (h:c∉pre):spl c (pre++c::rest)=pre::spl c rest:=by unfold spl;rw [Zcho,Zbqg c pre _ h];have:splG c (([]:List (List UInt8)),[]++pre) (c::rest)=splG c (splF c ([],[]++pre) c) rest:=rfl;rw [this,splF,if_pos rfl,Zchp];simp
theorem Zbcy {c:UInt8}: ∀{pre rest:List UInt8},c∉pre->Lib.index (pre++c::rest) [c]=pre.length:=by
 intro pre;induction pre with
 | nil=>intro rest _;simp [Lib.index,List.isPrefixOf]
 | cons x pre ih=>
  intro rest h;simp only [List.mem_cons,not_or] at h;rw [List.cons_append,Lib.index,ih h.2];have hp:([c]:List UInt8).isPrefixOf (x::(pre++c::rest))=false:=by simp [List.isPrefixOf,h.1]
  rw [hp,if_neg (by decide),if_neg (by simp<;>omega)]
  simp
theorem Zchr (c:UInt8): ∀(k:Nat) (s:List UInt8),s.count c=k->Lib.splitK [c] 0 k s=spl c s:=by
 intro k;induction k with
 | zero=>
  intro s h;rw [Zon (List.count_eq_zero.1 h)];rfl
 | succ k ih=>
  intro s h;have hm:c∈s:=List.count_pos_iff.1 (by omega)
  obtain ⟨pre,rest,rfl,hp⟩:=List.eq_append_cons_of_mem hm;have hc0:pre.count c=0:=List.count_eq_zero.2 hp;rw [List.count_append,List.count_cons_self,hc0] at h;rw [Zir hp,Lib.splitK,Zbcy hp,if_neg (by simp<;>omega)]
  rw [show (((pre.length:Nat):Int)).toNat=pre.length by simp]
  have e1:(pre++c::rest).take (pre.length+0)=pre:=by simp
  have e2:(pre++c::rest).drop (pre.length+([c]:List UInt8).length)=rest:=by rw [List.drop_append];simp
  rw [e1,e2,ih rest (by omega)]
theorem Zbdk (c:UInt8) (s:List UInt8):Lib.split s [c]=spl c s:=by unfold Lib.split;rw [Lib.count_one];exact Zchr c _ s rfl
theorem Zgf (n:Nat):Lib.itoa (n:Int)=Lib.decDigits n:=by unfold Lib.itoa;rw [if_neg (by omega),Int.toNat_natCast]
theorem Zjd {u:Nat} (h:u<10):Lib.decDigits u= [UInt8.ofNat (48+u)]:=by rw [Lib.decDigits,dif_pos h]
theorem Zlg {u:Nat} (h: ¬u<10):Lib.decDigits u=Lib.decDigits (u/10)++[UInt8.ofNat (48+u%10)]:=by rw [Lib.decDigits,dif_neg h]
theorem Zbbl: ∀(u:Nat),∀x∈Lib.decDigits u,48 <= x.toNat∧x.toNat <= 57:=by
 intro u;induction u using Nat.strongRecOn with
 | _ u ih=>
  intro x hx;have h8: ∀n,n<10->(UInt8.ofNat (48+n)).toNat=48+n:=fun n hn=>by rw [UInt8.toNat_ofNat'];omega
  by_cases h:u<10;rw [Zjd h,List.mem_singleton] at hx;subst hx;rw [h8 u h];omega
  ·rw [Zlg h,List.mem_append,List.mem_singleton] at hx;rcases hx with hx | hx;exact ih (u/10) (by omega) x hx
   ·subst hx;rw [h8 _ (by omega)];omega
theorem Zub (u:Nat):Lib.decDigits u≠[]:=by by_cases h:u<10;rw [Zjd h];simp;rw [Zlg h];simp
theorem Znb {u:Nat} {c:UInt8} (h:c.toNat<48∨57<c.toNat):c∉Lib.decDigits u:=fun hc=>by have:=Zbbl u c hc;omega
def valF (n:Nat) (x:UInt8):Nat:=10*n+(x.toNat - 48)
def val (s:List UInt8):Nat:=s.foldl valF 0
theorem Zbrf (s:List UInt8) (x:UInt8):val (s++[x])=10*val s+(x.toNat - 48):=by simp [val,valF]
theorem Zds: ∀u:Nat,val (Lib.decDigits u)=u:=by
 intro u;induction u using Nat.strongRecOn with
 | _ u ih=>
  have h8: ∀n,n<10->(UInt8.ofNat (48+n)).toNat=48+n:=fun n hn=>by rw [UInt8.toNat_ofNat'];omega
  by_cases h:u<10;rw [Zjd h];simp only [val,List.foldl_cons,List.foldl_nil,valF];rw [h8 u h];omega
  ·rw [Zlg h,Zbrf,ih _ (by omega),h8 _ (by omega)];omega
def canon (s:List UInt8):Prop:=s≠[]∧(∀x∈s,48 <= x.toNat∧x.toNat <= 57)∧(1<s.length->s[0]? ≠some 48)
theorem Zbyo: ∀u:Nat,canon (Lib.decDigits u):=by
 intro u;refine ⟨Zub u,Zbbl u,?_⟩;induction u using Nat.strongRecOn with
 | _ u ih=>
  have h8: ∀n,n<10->(UInt8.ofNat (48+n)).toNat=48+n:=fun n hn=>by rw [UInt8.toNat_ofNat'];omega
  intro hl;by_cases h:u<10;rw [Zjd h] at hl;simp at hl
  ·rw [Zlg h];have hpos:0<(Lib.decDigits (u/10)).length:=List.length_pos_iff.2 (Zub _);rw [List.getElem?_append_left hpos];by_cases h2:u/10<10;rw [Zjd h2];simp only [List.getElem?_cons_zero,ne_eq,Option.some.injEq];intro e;have:=congrArg UInt8.toNat e;rw [h8 _ h2] at this;have:(48:UInt8).toNat=48:=rfl;omega
   ·refine ih (u/10) (by omega) ?_
    rw [Zlg h2];have:=List.length_pos_iff.2 (Zub (u/10/10));simp;omega
theorem Zbxp: ∀(k:Nat) (s:List UInt8),s.length <= k->canon s->Lib.decDigits (val s)=s:=by
 intro k;induction k with
 | zero=>intro s h hc;exact absurd (List.eq_nil_of_length_eq_zero (by omega)) hc.1
 | succ k ih=>
  intro s h hc;rcases List.eq_nil_or_concat s with rfl | ⟨t,x,rfl⟩;exact absurd rfl hc.1
  ·rw [List.concat_eq_append] at*;have hx:=hc.2.1 x (by simp)
   have hx8:UInt8.ofNat (48+(x.toNat - 48))=x:=by
    rw [show 48+(x.toNat - 48)=x.toNat by omega];exact UInt8.ofNat_toNat
   rw [Zbrf];cases t with
   | nil=>
    simp only [val,List.foldl_nil,Nat.mul_zero,Nat.zero_add,List.nil_append];rw [Zjd (by omega),hx8]
   | cons y t=>
    have hy:=hc.2.1 y (by simp)
    have hy0:y.toNat≠48:=fun e=>by
     have:=hc.2.2 (by simp)
     simp only [List.cons_append,List.getElem?_cons_zero,ne_eq,Option.some.injEq] at this;exact this (UInt8.toNat_inj.1 e)
    have hct:canon (y::t):=⟨by simp,fun z hz=>hc.2.1 z (List.mem_append_left _ hz),fun _=>by
     simp only [List.getElem?_cons_zero,ne_eq,Option.some.injEq];exact fun e=>hy0 (by rw [e];rfl)⟩
    have hv:0<val (y::t):=by
     have:=ih (y::t) (by simp at h ⊢;omega) hct
     rcases Nat.eq_zero_or_pos (val (y::t)) with e | e
     ·rw [e,Zjd (by omega)] at this
      have h0:y=UInt8.ofNat (48+0):=by injection this with a b;exact a.symm
      exact absurd (by rw [h0];rfl) hy0
     exact e
    rw [Zlg (by omega),show (10*val (y::t)+(x.toNat - 48))/10=val (y::t) by omega,show (10*val (y::t)+(x.toNat - 48))%10=x.toNat - 48 by omega,ih (y::t) (by simp at h ⊢;omega) hct,hx8]
theorem Zbaq {s:List UInt8}:canon s↔Lib.decDigits (val s)=s:=⟨Zbxp s.length s (Nat.le_refl _),fun h=>h▸Zbyo _⟩
theorem Zlh {u k:Nat} (h:u<10^(k+1)):(Lib.decDigits u).length <= k+1:=by
 induction k generalizing u with
 | zero=>rw [Zjd (by omega)];simp
 | succ k ih=>
  by_cases h2:u<10;rw [Zjd h2];simp
  ·rw [Zlg h2];have:=ih (u:=u/10) (by rw [Nat.pow_succ] at h;omega)
   simp;omega
theorem Zcdh: ∀(s:List UInt8) (acc:Nat),(∀x∈s,48 <= x.toNat∧x.toNat <= 57)->s.foldl valF acc<18446744073709551616->Lib.parseUint10 acc s= .ok (s.foldl valF acc):=by
 intro s;induction s with
 | nil=>intro acc _ _;rfl
 | cons x s ih=>
  intro acc hd hlt;have hx:=hd x (by simp)
  have hmono: ∀(s:List UInt8) (a:Nat),a <= s.foldl valF a:=by
   intro s;induction s with
   | nil=>intro a;exact Nat.le_refl _
   | cons y s ih=>intro a;exact Nat.le_trans (by unfold valF;omega) (ih (valF a y))
  have hm:=hmono s (valF acc x);have hlt':s.foldl valF (valF acc x)<18446744073709551616:=hlt;have hv:valF acc x=10*acc+(x.toNat - 48):=rfl;rw [Lib.parseUint10,if_pos hx,if_neg (by omega),if_neg (by omega)]
  have:=ih (valF acc x) (fun y hy=>hd y (by simp [hy])) hlt'
  rw [hv,Nat.mul_comm 10 acc] at this;rw [this,List.foldl_cons,hv,Nat.mul_comm 10 acc]
theorem Zbig {u:Nat} (h:u<9223372036854775808):Lib.atoiAll (Lib.decDigits u)= .ok (u:Int):=by
 have hd:=Zbbl u;have hv:=Zds u;have hn:=Zub u;generalize Lib.decDigits u=s at*;cases s with
 | nil=>exact absurd rfl hn
 | cons c r=>
  have hc:=hd c (by simp)
  have hp:=Zcdh (c::r) 0 hd (by have:(c::r).foldl valF 0=u:=hv;omega)
  have hu:(c::r).foldl valF 0=u:=hv;unfold Lib.atoiAll;dsimp only;rw [if_neg (by omega),Lib.parseMag,if_neg (by simp),hp,hu]
  dsimp only;rw [if_neg (by omega),if_neg (by omega),if_neg (by omega)]
end Go.Sh
end
section
set_option maxRecDepth 100000
namespace Go.Pc
open Go.Sh
theorem stL {H:Heap} {b o:Nat} {T:TypeId} {l:List Value} {v:Value} {K:Heap->Prop} (hb:Blk H b T ⟨l⟩) (ho:o<l.length) (hv:Zcy v=true) (hk: ∀H',Blk H' b T ⟨l.set o v⟩->Keep (fun x=>x=b) H H'->K H'):Za H ⟨b,o,none⟩ v K:=by
 refine Za.blk hb (by simpa using ho) hv ?_
 have e:(⟨l⟩:Array Value).setIfInBounds o v=⟨l.set o v⟩:=by apply Array.ext';simp
 rw [e];exact hk _ Blk.upd_eq ((Keep.refl _ _).upd (.inl rfl))
theorem cellL {H:Heap} {b:Nat} {T:TypeId} {l:List Value} (hb:Blk H b T ⟨l⟩) (o:Nat) {v:Value} (h:l[o]? =some v):H.cell ⟨b,o,none⟩=some v:=by rw [hb.cell];simpa using h
theorem Zbqe {S:Nat->Prop} {H0 H H2:Heap} (k:Keep S H0 H) (hs:Shut H0 H H2):Keep S H0 H2:=
 ⟨fun b hb ha=>by
  rcases hs b with e | ⟨e,_,_⟩;rw [e];exact k.same b hb ha
  ·exact absurd e ha,fun b ha=>by
  rcases hs b with e | ⟨e,_,_⟩;rw [e];exact k.live b ha
  ·exact absurd e ha⟩
theorem newB {H:Heap} {l:List Value} {T:TypeId} {K:Nat->Heap->Prop} (h: ∀q H',H q=none->Blk H' q T ⟨l⟩->Keep Nil H H'->K q H'):NewW H (.cells ⟨l⟩ T) K:=
 NewW.intro fun q hq=>h q _ hq Blk.upd_eq ((Keep.refl _ _).new hq)
theorem Zbt {T:Type} {x0:T} {H:Heap} {body:T->Heap->(T->Heap->Prop)->Prop} (I:Nat->T->Heap->Prop) (k:Nat) (h0:I k x0 H)
  (h: ∀k x H,I k x H->body x H fun x' H'=>∃k',k'<k∧I k' x' H'):Zbw T x0 H body:=⟨I,k,h0,h⟩
section
variable {H0 H H':Heap}
theorem Zny {b:Nat} (h:H b≠none) (k:Keep Nil H H'):Zdw [b] H H':=fun y hy=>by
 rw [List.mem_singleton.1 hy];cases e:H b with
 | none=>exact absurd e h
 | some o=>exact ⟨⟨o,rfl⟩,by rw [← e];exact k.same b id h⟩
theorem Zrj {b:Nat} (h:H b≠none): ∀y∈[b],∃o,H y=some o:=fun y hy=>by
 rw [List.mem_singleton.1 hy];cases e:H b with
 | none=>exact absurd e h
 | some o=>exact ⟨o,rfl⟩
end
end Go.Pc
end
