/-
 From the condition on a law's call to the row: 'it returns true,and what was there stays'.
-/
import Derived.Test.YthhcfdpoiganhaaGreatEB
import Derived.ProofKit
import Derived.WideKeyArgs
import Derived.Handed
import Derived.ChangeSlices
import Derived.Test.YthhcfdpoiganhaaGreatEC
import Derived.OpenShut
import Derived.Stop.Joined
import Derived.LaidSub
import Derived.MakeChecks
import Derived.Lib.ItoaNum
import Derived.Lib.AtoiAll
import Derived.Lib.SplitLaws
import Derived.Lib.Join
set_option linter.all false
section
namespace Go.Sh
open Go.ChangeShapes Go.WideShapes Go.ChangeAt Go.RowKit
theorem Keep.below {W W':World} (h:Keep Nil (hp W) (hp W')) (r:Rest W W'):Below W.heap.size W W':=by
 refine ⟨r.os,r.tape,r.output,?_,fun k hk=>h.same k (fun x=>x) ?_⟩
 ·cases hs:W.heap.size with
  | zero=>omega
  | succ n=>
   have hlive:=h.live n (by change W.heap[n]? ≠none;rw [Yn (by omega)];simp)
   have:n<W'.heap.size:=by apply Classical.byContradiction;intro hn;exact hlive (Array.getElem?_eq_none (by omega))
   omega
 change W.heap[k]? ≠none;rw [Yn hk];simp
theorem Zcyq {H:Type} {enc:TypeId×Value->H} {P:Program} (hl:laidOutB P=true) {W W':World} {sp:Nat->Bool}: ∀{ts:List TypeId} {vs:List Value} {ds:List (DataW H)} {ps:List MemPlace},ts.all (fun t=>P.readableRec t&&decide (t<P.types.size))=true->DataW.TrodAll enc P W 0 (fun _=>true) true ts vs ds ps->(∀p∈ps,W.sameAt W' p)->(∀p∈ps,sp p.block=true)->
  DataW.TrodAll enc P W' 0 sp true ts vs ds ps:=by
 intro ts;induction ts with
 | nil=>
  intro vs ds ps _ h _ _;cases vs<;>cases ds<;>first | exact h | exact h.elim
 | cons t ts ih=>
  intro vs ds ps ha h hs hp;obtain ⟨v,vs',d,ds',p,q,rfl,rfl,rfl,h1,h2⟩:=trodAll_cons h;simp only [List.all_cons,Ya,decide_eq_true_eq] at ha;exact ⟨p,q,WideElems.Trod_stays hl ha.1.1 ha.1.2 h1 (fun x hx=>hs x (Yfa _ hx)) (fun x hx=>hp x (Yfa _ hx)),ih (by simpa using ha.2) h2 (fun x hx=>hs x (Ysa _ hx)) (fun x hx=>hp x (Ysa _ hx)),rfl⟩
theorem Zcyi {H:Type} {enc:TypeId×Value->H} {P:Program} {f:Func} {s:ChangeSpec} {apart fresh handsOn:Bool} {W W':World} {args:Array Value} {ds gs:List (DataW H)} {before:List MemPlace} {tb:TypeId}
  (hl:laidOutB P=true) (hpar:f.params.toList.all (fun t=>P.readableRec t&&decide (t<P.types.size))=true) (hv:s.vars= []) (hrt:f.resultTypes= #[tb]) (htb:P.underlying tb=some .bool)
  (hW:DataW.Whole enc P f.params.toList s.vars apart W args.toList ds gs before)
  (hs:s.fn H (ds++gs)= { results:=[.lit (.bool true)],args:=ds }) (hb:Below W.heap.size W W'):s.post enc P f apart fresh handsOn false W args (.bool true) W':=by
 have hlt:=hW.lt;have hW':=hW;obtain ⟨p,q,hA,hV,rfl,_,_⟩:=hW';have hV':=hV;rw [hv] at hV';obtain ⟨rfl,rfl⟩:=trodVars_none hV';rw [Yv] at hlt hW;refine ⟨ds,[],p,[],p,[],hW,?_,?_,?_,?_,fun h=>by cases h⟩
 rw [hs,hrt];exact trodAll_mk1 (shut_bool htb true);rw [hs];exact Zcyq hl hpar hA (fun x hx=>hb.same (hlt x hx)) (fun x hx=>by simpa using hlt x hx)
 rw [hs,hv];rfl
 ·exact World.keptBut_mono (fun x hx=>⟨hx,.inr (.inl hx)⟩) (hb.frame (· ∈p))
theorem cell_spot {H:Heap} {a:Addr} {v:Value} (h:H.cell a=some v):a.spot=none∧∃c T fr,H a.block=some (.cells c T fr)∧c[a.off]? =some v:=by
 unfold Heap.cell at h;split at h
 ·rename_i c T fr hb;cases hs:a.spot with
  | none=>rw [hs] at h;exact ⟨rfl,c,T,fr,hb,h⟩
  | some x=>rw [hs] at h;cases h
 cases h
end Go.Sh
end
section
namespace Go.Sh
variable [Laid]
inductive Pk where
 | int (k:IntKind) | bool | str | lst (ks:List Kd) | agg (ks:List Kd) | err | own (T:TypeId) (ks:List Kd) | fn (f:Nat) | nil
def PkT:Pk->Type
 | .int _=>Int
 | .bool=>Bool
 | .str=>List UInt8
 | .lst ks=>List (Tp ks)
 | .agg ks=>Tp ks
 | .err=>Bool
 | .own _ ks=>List (Tp ks)
 | .fn _=>Unit
 | .nil=>Unit
def PkTs:List Pk->Type
 | []=>Unit
 | p::ps=>PkT p×PkTs ps
def WfPk:(p:Pk)->PkT p->Prop
 | .int k,n=>InR k n
 | .bool,_=>True
 | .str,s=>s.length <= Zw
 | .lst ks,xs=>WfE (.lst ks) xs
 | .agg ks,x=>WfT ks x
 | .err,_=>True
 | .own _ ks,xs=>WfE (.lst ks) xs
 | .fn _,_=>True
 | .nil,_=>True
def WfPs:(ps:List Pk)->PkTs ps->Prop
 | [],_=>True
 | p::ps,x=>WfPk p x.1∧WfPs ps x.2
def pkA (N:Nat):(p:Pk)->PkT p->AV
 | .int k,n=> .int k n
 | .bool,b=> .bool b
 | .str,s=> .str s
 | .lst ks,xs=> .lst ks xs
 | .agg ks,x=> .agg (lvT ks x)
 | .err,b=> .err b
 | .own _ _,_=> .row N
 | .fn f,_=> .fn f []
 | .nil,_=> .nils
def Zcm:Pk->Bool
 | .own _ _=>true
 | _=>false
def pksA (N:Nat):(ps:List Pk)->PkTs ps->List AV
 | [],_=>[]
 | p::ps,x=>pkA N p x.1::pksA (match Zcm p with | true=>N+1 | false=>N) ps x.2
def pksR:(ps:List Pk)->PkTs ps->List AObj
 | [],_=>[]
 | .own T ks::ps,x=> .row T false ks x.1::pksR ps x.2
 | .int _::ps,x=>pksR ps x.2
 | .bool::ps,x=>pksR ps x.2
 | .str::ps,x=>pksR ps x.2
 | .lst _::ps,x=>pksR ps x.2
 | .agg _::ps,x=>pksR ps x.2
 | .err::ps,x=>pksR ps x.2
 | .fn _::ps,x=>pksR ps x.2
 | .nil::ps,x=>pksR ps x.2
def Zbc (g:Gh) (σ:List AObj):Nat->Prop:=fun b=>∃(i:Nat) (o:AObj),σ[i]? =some o∧Has g i o∧b=g.B i
theorem Sim.layH {E:En} {st:St} {ρ:Env} {H:Heap} {g:Gh} (s:Sim E st ρ H g):(∀b,Laid.blocks b=true->H b=E.H0 b)∧Sh.layH H=Sh.layH E.H0:=by
 have h: ∀b,Laid.blocks b=true->H b=E.H0 b:=fun b hb=>s.keep.same b (s.lay.own b hb) (s.lay.live b hb);refine ⟨h,funext fun b=>?_⟩;unfold Sh.layH;split;exact h b (by assumption)
 rfl
theorem Sim.layE {E:En} {st:St} {ρ:Env} {H:Heap} {g:Gh} (s:Sim E st ρ H g) {Z:Nat->Prop}:LayE ⟨H,Zbc g st.σ,Z⟩ where
 own:=fun b hb ⟨i,o,h1,h2,h3⟩=>by subst h3;rcases s.own i o h1 h2 with h | h;exact s.lay.own _ hb h;exact s.lay.live _ hb h
 live:=fun b hb=>by show H b≠none;rw [s.layH.1 b hb];exact s.lay.live b hb
 ok:=by show Laid.ok (Sh.layH H);rw [s.layH.2];exact s.lay.ok
theorem Sim.enter {E:En} {st:St} {ρ:Env} {H:Heap} {g:Gh} (s:Sim E st ρ H g):Sim ⟨H,Zbc g st.σ,g.Z⟩ st ρ H g:=
 { s with own:=fun i o h hh=> .inl ⟨i,o,h,hh,rfl⟩,keep:=Keep.refl _ _,zsub:=fun _ h=>h,znew:=fun _ h=> .inl h,lay:=s.layE,zc:=fun _ h=> .inl h }
theorem Zgy: ∀(ps:List Pk) (x:PkTs ps) (N:Nat),(pksA N ps x).length=ps.length
 | [],_,_=>rfl
 | p::ps,x,N=>by simp [pksA,Zgy ps]
theorem Sim.other {E:En} {st:St} {ρ:Env} {H H':Heap} {g:Gh} (s:Sim E st ρ H g) (hz: ∀b,g.Z b->H' b=H b) (ho: ∀(i:Nat) (o:AObj),st.σ[i]? =some o->Has g i o->H' (g.B i)=H (g.B i)) (hk:Keep E.O0 E.H0 H'):
  Sim E st ρ H' g∧Rel st H g st H' g:=by
 have hext:Ext st.σ.length g H g H':=⟨fun b hb=>⟨hb,hz b hb⟩,fun _ _=>rfl,fun _ _=>rfl⟩
 exact ⟨⟨fun t=>SimV.ext (Yh _) hext _ _ (s.tmp t),fun i o hi=>SimO.ext (Yh _) hext (Zbs hi) (ho i o hi) (s.obj i o hi),s.nz,s.dis,s.own,hk,s.zsub,s.znew,fun b hb=>by rw [hz b hb];exact s.zlive b hb,s.lay,Zoy s.zc hz⟩,⟨Yh _,hext,fun i o hi _=>⟨hi,ho i o hi⟩⟩⟩
theorem Sim.rebase {E:En} {st:St} {ρ:Env} {H:Heap} {g:Gh} (s:Sim E st ρ H g) {W:Nat->Prop} (hW: ∀(i:Nat) (o:AObj),st.σ[i]? =some o->Has g i o->W (g.B i)) (hl: ∀b,Laid.blocks b=true->¬W b):Sim ⟨H,W,g.Z⟩ st ρ H g:=
 { s with own:=fun i o h hh=> .inl (hW i o h hh),keep:=Keep.refl _ _,zsub:=fun _ h=>h,znew:=fun _ h=> .inl h,zc:=fun _ h=> .inl h,lay:=⟨hl,fun b hb=>by show H b≠none;rw [s.layH.1 b hb];exact s.lay.live b hb,by show Laid.ok (Sh.layH H);rw [s.layH.2];exact s.lay.ok⟩ }
theorem Sim.unbase {E:En} {st st':St} {ρ ρ':Env} {H H':Heap} {g g':Gh} {W:Nat->Prop} (s:Sim E st ρ H g) (s':Sim ⟨H,W,g.Z⟩ st' ρ' H' g') (hW: ∀b,W b->E.O0 b∨E.H0 b=none) (hz: ∀b,g.Z b->H' b=H b):Sim E st' ρ' H' g':=
 { s' with
  own:=fun i o h hh=>by rcases s'.own i o h hh with h | h;exact hW _ h;exact .inr (s.keep.free h)
  keep:=⟨fun b hb h0=>by
   have h1:=s.keep.same b hb h0;rw [← h1];refine s'.keep.same b (fun hw=>?_) (by rw [h1];exact h0)
   rcases hW b hw with h | h;exact hb h
   ·exact h0 h,fun b h0=>s'.keep.live b (s.keep.live b h0)⟩
  zsub:=fun b hb=>s'.zsub b (s.zsub b hb)
  znew:=fun b hb=>by rcases s'.znew b hb with h | h | h;exact s.znew b h;exact .inr (.inl (s.keep.free h));rcases hW b h with h | h;exact .inr (.inr h);exact .inr (.inl h)
  lay:=s.lay
  zc:=fun b hb=>by
   rcases s'.zc b hb with h | h;have h':g.Z b:=h;rcases s.zc b h' with h | h;exact .inl h;exact .inr (by rw [hz b h'];exact h)
   ·exact .inr h }
def Znv:List Nat->List AObj->List AObj
 | [],σ=>σ
 | i::ids,σ=>Znv ids (σ.set i .gone)
theorem Zcdj: ∀(ids:List Nat) (σ:List AObj) (i:Nat) (o:AObj),(Znv ids σ)[i]? =some o->o= .gone∨(i∉ids∧σ[i]? =some o)
 | [],_,_,_,h=> .inr ⟨by simp,h⟩
 | k::ids,σ,i,o,h=>by simp only [Znv] at h;rcases Zcdj ids _ i o h with h | ⟨h1,h2⟩;exact .inl h;rw [YA] at h2;split at h2;split at h2;cases h2;exact .inl rfl;cases h2;rename_i hne;exact .inr ⟨by simp only [Yj,not_or];exact ⟨fun e=>hne e.symm,h1⟩,h2⟩
theorem Sim.dropAll {E:En} {ρ:Env} {H:Heap} {g:Gh} {α:Nat->AV}: ∀(ids:List Nat) (σ:List AObj),ids.Nodup->(∀id∈ids,∃o,σ[id]? =some o∧isRo o=false)->Sim E ⟨α,σ⟩ ρ H g->Sim E ⟨α,Znv ids σ⟩ ρ H g∧Rel ⟨α,σ⟩ H g ⟨α,Znv ids σ⟩ H g
 | [],σ,_,_,s=>⟨s,.refl _ _ _⟩
 | i::ids,σ,hn,h,s=>by
  obtain ⟨o,h1,h2⟩:=h i Yk;obtain ⟨hni,hn⟩:=Yt.1 hn;obtain ⟨s1,r1⟩:=s.drop (id:=i) h1 h2;obtain ⟨s2,r2⟩:=Sim.dropAll ids (σ.set i .gone) hn (fun id hid=>by
   obtain ⟨o',h3,h4⟩:=h id (Yi _ hid);exact ⟨o',by rw [YA,if_neg (fun e=>hni (by rw [e];exact hid))];exact h3,h4⟩) s1
  exact ⟨s2,r1.trans r2⟩
def Zjg (Z:Nat->Prop) (H:Heap) (ps:List Pk) (x:PkTs ps) (vs:List Value):Prop:=SimL ⟨Z,fun _=>0,fun _=> .nilFunc⟩ H 0 (pksA 0 ps x) vs
structure Cons (P:Program) (l:Nat) (ps:List Pk) (Hs:Heap) (bs:List Nat) where
 J:(Nat->Prop)->(Nat->Prop)->List (PkTs ps)->Heap->Prop
 X:(Nat->Prop)->(Nat->Prop)->Heap->Prop
 stJ: ∀{Z W:Nat->Prop} {r:List (PkTs ps)} {H H':Heap},J Z W r H->(∀b,H b≠none->Z b∨W b∨(Hs b≠none∧b∉bs)->H' b=H b)->(∀b,H b≠none->H' b≠none)->J Z W r H'
 stX: ∀{Z W:Nat->Prop} {H H':Heap},X Z W H->(∀b,H b≠none->Z b∨W b∨(Hs b≠none∧b∉bs)->H' b=H b)->(∀b,H b≠none->H' b≠none)->X Z W H'
 ndJ: ∀{Z W:Nat->Prop} {r:List (PkTs ps)} {H:Heap},J Z W r H->∀b,Z b∨W b->Hs b≠none∨∀ds,H b≠some (.deferred ds)
 ndX: ∀{Z W:Nat->Prop} {H:Heap},X Z W H->∀b,Z b∨W b->Hs b≠none∨∀ds,H b≠some (.deferred ds)
 round: ∀{Z W Zx:Nat->Prop} {x:PkTs ps} {r:List (PkTs ps)} {H:Heap} {vs:List Value},J Z W (x::r) H->Zjg Zx H ps x vs->
  (∀b,Zx b->Z b∨(¬W b∧(∃cs T q,H b=some (.cells cs T q))∧(b∈bs∨Hs b=none)))->
  Zds P l vs H fun v H'=>(∀b,H b≠none->¬W b->H' b=H b)∧(∀b,H b≠none->H' b≠none)∧∃Z' W':Nat->Prop,(∀b,Z b∨Zx b->Z' b∧H' b=H b)∧(∀b,W' b->W b∨H b=none)∧
   (∀b,Z' b->Z b∨Zx b∨W b∨H b=none)∧(∀b,Z' b∨W' b->H' b≠none)∧(∀b,W' b->¬Z' b)∧((v= .bool true∧J Z' W' r H')∨(v= .bool false∧X Z' W' H'))
theorem Cons.shut {P:Program} {l:Nat} {ps:List Pk} {Hs:Heap} {bs:List Nat} (C:Cons P l ps Hs bs) {H H':Heap} (hs:Shut Hs H H') (h: ∃Z W,C.J Z W [] H∨C.X Z W H): ∃Z W,C.J Z W [] H'∨C.X Z W H':=by
 have same: ∀(Z W:Nat->Prop),(∀b,Z b∨W b->Hs b≠none∨∀ds,H b≠some (.deferred ds))->∀b,H b≠none->Z b∨W b∨(Hs b≠none∧b∉bs)->H' b=H b:=fun Z W nd b _ hb=>by rcases hs b with h | ⟨h1,h2,_⟩;exact h;rcases hb with hb | hb | hb;rcases nd b (.inl hb) with h | h;exact absurd h1 h;exact absurd h2 (h _);rcases nd b (.inr hb) with h | h;exact absurd h1 h;exact absurd h2 (h _);exact absurd h1 hb.1
 have live: ∀b,H b≠none->H' b≠none:=fun b hb=>by rcases hs b with h | ⟨_,_,h⟩;rw [h];exact hb;rw [h];simp
 obtain ⟨Z,W,h | h⟩:=h;exact ⟨Z,W,.inl (C.stJ h (same Z W (C.ndJ h)) live)⟩;exact ⟨Z,W,.inr (C.stX h (same Z W (C.ndX h)) live)⟩
structure It where
 ps:List Pk
 kc:List PK
 xs:PTup kc->List (PkTs ps)
 pre:PTup kc->Prop
def Zdg (b:Nat):Value:= .pointer (some ⟨b,0,none⟩)
def ItOk (P:Program) (f:FuncId) (I:It):Prop:=
 ∀(Hs:Heap) (Z W:Nat->Prop) (bs:List Nat) (us:List Value) (c:PTup I.kc) (l:Nat) (C:Cons P l I.ps Hs bs),I.pre c->bs.Nodup->bs.length=us.length->
  (∀(i b:Nat) (v:Value),bs[i]? =some b->us[i]? =some v->∃T,Hs b=some (.cells ⟨[v]⟩ T (0,0)))->SimL ⟨Z,fun _=>0,fun _=> .nilFunc⟩ Hs 0 (avsY 0 I.kc c) us->WfY I.kc c->
  (∀b,Z b->Hs b≠none)->(∀b∈bs,¬Z b∧¬W b)->(∀b,W b->Hs b≠none∧¬Z b)->(∀b,Laid.blocks b=true->Hs b≠none∧b∉bs∧¬W b)->Laid.ok (layH Hs)->C.J Z W (I.xs c) Hs->
  FnW P f ⟨.func (.yield l) #[] #[]::bs.map Zdg⟩ Hs fun _ H'=>∃Z' W',C.J Z' W' [] H'∨C.X Z' W' H'
structure Tab where
 cts:List (Nat×Ct)
 its:List (Nat×It)
def itOf (f:Nat):List (Nat×It)->Option It
 | []=>none
 | (k,c)::l=>match Nat.beq f k with
  | true=>some c
  | false=>itOf f l
def Zuf (P:Program):List (Nat×It)->Prop
 | []=>True
 | (f,c)::l=>ItOk P f c∧Zuf P l
theorem Zuf.get {P:Program} {f:Nat} {c:It}: ∀{l:List (Nat×It)},Zuf P l->itOf f l=some c->ItOk P f c
 | [],_,h=>by simp only [itOf] at h;cases h
 | (k,c')::l,hl,h=>by simp only [itOf] at h;split at h;rename_i hb;cases h;rw [Ye hb];exact hl.1;exact Zuf.get hl.2 h
def Zlv (P:Program) (t:Tab):Prop:=Zkr P t.cts∧Zuf P t.its
def Zps:List AV->Option (List Nat)
 | []=>some []
 | .ptr id 0::l=>match Zps l with
  | some r=>some (id::r)
  | none=>none
 | _=>none
def Zfy (σ:List AObj):List Nat->Option (List AV)
 | []=>some []
 | id::ids=>match σ[id]? with
  | some (.obj _ false [a])=>match Zfy σ ids with
   | some r=>some (a::r)
   | none=>none
  | _=>none
def itIn (kc:List PK) (st:St) (caps:List AV):Option (PTup kc×List AObj):=match Zps caps with
 | some ids=>match Zdb ids,Zfy st.σ ids with
  | true,some as=>match frzY st.σ kc as with
   | some σ1=>match Zgz σ1 kc as with
    | some (c,[])=>some (c,Znv ids σ1)
    | _=>none
   | none=>none
  | _,_=>none
 | none=>none
theorem Zcjz {g:Gh} {H:Heap} {N:Nat}: ∀{caps:List AV} {vs:List Value} {ids:List Nat},Zps caps=some ids->SimL g H N caps vs->vs=ids.map (fun i=>Zdg (g.B i))
 | [],[],ids,h,_=>by simp only [Zps,Option.some.injEq] at h;subst h;rfl
 | [],_::_,_,_,h=>by simp only [SimL] at h
 | _::_,[],_,_,h=>by simp only [SimL] at h
 | a::caps,v::vs,ids,h,hs=>by unfold Zps at h;split at h;rename_i heq;cases heq;rename_i id l heq;cases heq;split at h;rename_i r hr;cases h;simp only [SimL] at hs;obtain ⟨h1,h2⟩:=hs;simp only [SimV] at h1;rw [Zcjz hr h2,h1.2];rfl;cases h;cases h
theorem Zbwb {σ:List AObj}: ∀{ids:List Nat} {as:List AV},Zfy σ ids=some as->as.length=ids.length∧∀(i id:Nat) (a:AV),ids[i]? =some id->as[i]? =some a->∃T,σ[id]? =some (.obj T false [a])
 | [],as,h=>by simp only [Zfy,Option.some.injEq] at h;subst h;exact ⟨rfl,fun i id a h=>by simp at h⟩
 | id::ids,as,h=>by
  simp only [Zfy] at h;split at h
  ·rename_i T a hi;split at h
   ·rename_i r hr;cases h;obtain ⟨h1,h2⟩:=Zbwb hr;refine ⟨by simp [h1],fun i id' a' hi' ha'=>?_⟩
    cases i with
    | zero=>simp at hi' ha';subst hi' ha';exact ⟨T,hi⟩
    | succ i=>exact h2 i id' a' (by simpa using hi') (by simpa using ha')
   cases h
  cases h
theorem Zcln {g:Gh} {H:Heap} {N:Nat} {σ:List AObj} (ho: ∀id o,σ[id]? =some o->SimO g H N id o): ∀{ids:List Nat} {as:List AV},Zfy σ ids=some as->∃us,us.length=ids.length∧SimL g H N as us∧∀(i id:Nat) (v:Value),ids[i]? =some id->us[i]? =some v->∃T,H (g.B id)=some (.cells ⟨[v]⟩ T (0,0))
 | [],as,h=>by simp only [Zfy,Option.some.injEq] at h;subst h;exact ⟨[],rfl,by simp only [SimL],fun i id v h=>by simp at h⟩
 | id::ids,as,h=>by
  simp only [Zfy] at h;split at h
  ·rename_i T a hi;split at h
   ·rename_i r hr;cases h;obtain ⟨us,h1,h2,h3⟩:=Zcln ho hr;obtain ⟨vs,h4,h5⟩:=ho id _ hi;cases vs with
    | nil=>simp only [SimL] at h5
    | cons u vs=>
     cases vs with
     | cons=>simp only [SimL] at h5;exact h5.2.elim
     | nil=>
      simp only [SimL] at h5;refine ⟨u::us,by simp [h1],by simp only [SimL];exact ⟨h5.1,h2⟩,fun i id' v hi' hv=>?_⟩
      cases i with
      | zero=>simp at hi' hv;subst hi' hv;exact ⟨T,h4⟩
      | succ i=>exact h3 i id' v (by simpa using hi') (by simpa using hv)
   cases h
  cases h
theorem Zcnk {σ σ':List AObj} {a:AV} (h:frzO σ a=some σ') {id:Nat} {T:TypeId} {r:Bool} {cs:List AV} (ho:σ[id]? =some (.obj T r cs)):σ'[id]? =some (.obj T r cs):=by unfold frzO at h;split at h;rename_i k;split at h;rename_i T' ks xs hk;cases h;rw [YA];by_cases e:k=id;subst e;rw [hk] at ho;cases ho;rw [if_neg e];exact ho;cases h;exact ho;cases h;cases h;exact ho
theorem Zmm: ∀(ks:List PK) (as:List AV) (σ σ':List AObj),frzY σ ks as=some σ'->∀{id:Nat} {T:TypeId} {r:Bool} {cs:List AV},σ[id]? =some (.obj T r cs)->σ'[id]? =some (.obj T r cs)
 | [],[],σ,σ',h,_,_,_,_,ho=>by simp only [frzY,Option.some.injEq] at h;subst h;exact ho
 | [],_::_,_,_,h,_,_,_,_,_=>by simp only [frzY] at h;cases h
 | k::ks,[],_,_,h,_,_,_,_,_=>by cases k<;>simp only [frzY] at h<;>cases h
 | .lst _::ks,a::as,σ,σ',h,_,_,_,_,ho=>by
  simp only [frzY] at h;split at h;rename_i σ1 hf;exact Zmm ks as σ1 σ' h (Zcnk hf ho)
  ·cases h
 | .int _::ks,a::as,σ,σ',h,_,_,_,_,ho=>by simp only [frzY] at h;exact Zmm ks as σ σ' h ho
 | .bool::ks,a::as,σ,σ',h,_,_,_,_,ho=>by simp only [frzY] at h;exact Zmm ks as σ σ' h ho
 | .str::ks,a::as,σ,σ',h,_,_,_,_,ho=>by simp only [frzY] at h;exact Zmm ks as σ σ' h ho
 | .row _ _::ks,a::as,σ,σ',h,_,_,_,_,ho=>by simp only [frzY] at h;exact Zmm ks as σ σ' h ho
 | .arr _ _::ks,a::as,σ,σ',h,_,_,_,_,ho=>by simp only [frzY] at h;exact Zmm ks as σ σ' h ho
theorem Zbti: ∀{l:List Nat},Zdb l=true->l.Nodup
 | [],_=>by simp
 | e::l,h=>by simp only [Zdb,Ya,YF] at h;refine Yt.2 ⟨fun hc=>?_,Zbti h.2⟩;rw [Zcc.2 hc] at h;cases h.1
theorem Zdkd {E:En} {st:St} {ρ:Env} {H:Heap} {g:Gh} (s:Sim E st ρ H g) {kc:List PK} {caps:List AV} {vs:List Value} (hc:SimL g H st.σ.length caps vs) {c:PTup kc} {σ':List AObj} (h:itIn kc st caps=some (c,σ')):
  ∃(g':Gh) (bs:List Nat) (us:List Value),Sim E ⟨st.α,σ'⟩ ρ H g'∧Rel st H g ⟨st.α,σ'⟩ H g'∧vs=bs.map Zdg∧bs.Nodup∧bs.length=us.length∧WfY kc c∧
   (∀(i b:Nat) (v:Value),bs[i]? =some b->us[i]? =some v->∃T,H b=some (.cells ⟨[v]⟩ T (0,0)))∧SimL ⟨g'.Z,fun _=>0,fun _=> .nilFunc⟩ H 0 (avsY 0 kc c) us∧
   ∀b∈bs,H b≠none∧¬g'.Z b∧(E.O0 b∨E.H0 b=none)∧Laid.blocks b=false∧∀(i:Nat) (o:AObj),σ'[i]? =some o->Has g' i o->g'.B i≠b:=by
 unfold itIn at h;split at h
 case h_2=>cases h
 rename_i ids hids;split at h
 case h_2=>cases h
 rename_i as hun has;split at h
 case h_2=>cases h
 rename_i σ1 hfr;split at h
 case h_2=>cases h
 rename_i c' hread;simp only [Option.some.injEq,Prod.mk.injEq] at h;obtain ⟨rfl,rfl⟩:=h;have hnd:=Zbti hun;obtain ⟨g1,s1,r1,l1,f1,_⟩:=Zuv kc _ st.σ σ1 g s hfr;have hext:=r1.ext;have has1:Zfy σ1 ids=some as:=by
  have: ∀(ids:List Nat) (as:List AV),Zfy st.σ ids=some as->Zfy σ1 ids=some as:=by
   intro ids;induction ids with
   | nil=>intro as h;simpa only [Zfy] using h
   | cons i ids ih=>
    intro as h;simp only [Zfy] at h ⊢;split at h;rename_i T a hi;rw [Zmm _ _ _ _ hfr hi];split at h;rename_i r hr;simp only [ih r hr];exact h;cases h;cases h
  exact this ids as has
 obtain ⟨hal,hobj⟩:=Zbwb has1;obtain ⟨us,hul,hus,hval⟩:=Zcln (g:=g1) (H:=H) (N:=σ1.length) (fun id o ho=>s1.obj id o ho) has1;obtain ⟨hw,_,_,hsim⟩:=Zva s1 hread hus f1;have hin: ∀id∈ids,∃T a,σ1[id]? =some (.obj T false [a]):=fun id hid=>by
  obtain ⟨i,hi⟩:=Y3 hid;have hlt:i<as.length:=by rw [hal];rcases Ys i ids.length with h | h;exact h;rw [Yf h] at hi;cases hi
  obtain ⟨T,hT⟩:=hobj i id _ hi (Yc hlt);exact ⟨T,_,hT⟩
 obtain ⟨s2,r2⟩:=Sim.dropAll (α:=st.α) ids σ1 hnd (fun id hid=>by obtain ⟨T,a,h⟩:=hin id hid;exact ⟨_,h,rfl⟩) s1
 have hB: ∀id∈ids,g1.B id=g.B id:=fun id hid=>by obtain ⟨T,a,h⟩:=hin id hid;have:=Zbs h;exact hext.b id (by show id<st.σ.length;omega)
 refine ⟨g1,ids.map g1.B,us,s2,r1.trans r2,?_,?_,by simp [hul],hw,?_,?_,?_⟩
 rw [Zcjz hids hc,Ywa];refine YM fun id hid=>?_;show Zdg (g.B id)=Zdg (g1.B id);rw [hB id hid]
 ·have hinj: ∀i∈ids,∀j∈ids,i≠j->g1.B i≠g1.B j:=fun i hi j hj hij=>by obtain ⟨T,a,h⟩:=hin i hi;obtain ⟨T',a',h'⟩:=hin j hj;exact s1.dis i j _ _ hij h h' trivial trivial
  have: ∀l:List Nat,l.Nodup->(∀i∈l,i∈ids)->(l.map g1.B).Nodup:=by
   intro l;induction l with
   | nil=>intro _ _;simp
   | cons i l ih=>
    intro hn hm;obtain ⟨h1,h2⟩:=Yt.1 hn;simp only [YG,Yt,YS,not_exists,not_and];exact ⟨fun j hj e=>hinj j (hm j (Yi _ hj)) i (hm i Yk) (fun e'=>h1 (e'▸hj)) e,ih h2 fun j hj=>hm j (Yi _ hj)⟩
  exact this ids hnd fun _ h=>h
 intro i b v hi hv;rw [Yaa,Option.map_eq_some_iff] at hi;obtain ⟨id,h1,rfl⟩:=hi;exact hval i id v h1 hv;exact hsim ⟨g1.Z,fun _=>0,fun _=> .nilFunc⟩ 0 0 ⟨fun j id h=>by simp at h,fun j h=>by simp at h⟩ (by simp) rfl
 ·intro b hb;obtain ⟨id,hid,rfl⟩:=YS.1 hb;obtain ⟨T,a,h⟩:=hin id hid;refine ⟨?_,s1.nz id _ h trivial,s1.own id _ h trivial,?_,fun i o hi hh e=>?_⟩;obtain ⟨c,T',hl⟩:=s1.live h trivial;rw [hl];simp
  ·cases hbl:Laid.blocks (g1.B id) with
   | false=>rfl
   | true=>
    rcases s1.own id _ h trivial with h1 | h1;exact absurd h1 (s1.lay.own _ hbl);exact absurd h1 (s1.lay.live _ hbl)
  rcases Zcdj ids σ1 i o hi with rfl | ⟨h1,h2⟩;exact hh;exact s1.dis i id o _ (fun e'=>h1 (e'▸hid)) h2 h hh trivial e
end Go.Sh
end
section
namespace Go.Sh
variable [Laid]
structure PLoop where
 slots:List (Tmp×PK)
 fixed:List Tmp
 vary:List (Tmp×List PK)
structure PPlan where
 regs:List (Nat×List Nat×List Tmp)
 loops:List (Nat×PLoop)
 own:List Tmp:=[]
 nomark:List (Nat×List Tmp):=[]
 unr:List (Nat×Nat):=[]
 trees:List (Nat×Tree):=[]
def Zccq (id:Nat):List (Nat×List Tmp)->List Tmp
 | []=>[]
 | (k,r)::l=>match Nat.beq id k with | true=>r | false=>Zccq id l
def varK:List (Tmp×List PK)->List PK
 | []=>[]
 | v::l=>v.2++varK l
def PLoop.tmps (L:PLoop):List Tmp:=L.slots.map (·.1)
def PLoop.kinds (L:PLoop):List PK:=L.slots.map (·.2)++varK L.vary
def PPlan.plan (p:PPlan):Plan:=⟨p.regs,p.loops.map fun l=>(l.1,l.2.tmps,l.2.tmps.map (fun _=>Kind.any),l.2.fixed),p.unr,p.trees⟩
def Zpm (id:Nat):List (Nat×PLoop)->Option PLoop
 | []=>none
 | (k,r)::l=>match Nat.beq id k with | true=>some r | false=>Zpm id l
theorem Zbvx (id:Nat): ∀l:List (Nat×PLoop),Zgg id (l.map fun l=>(l.1,l.2.tmps,l.2.tmps.map (fun _=>Kind.any),l.2.fixed))=(Zpm id l).map fun L=>(L.tmps,L.tmps.map (fun _=>Kind.any),L.fixed)
 | []=>rfl
 | (k,r)::l=>by
  simp only [YG,Zgg,Zpm];cases Nat.beq id k with
  | true=>rfl
  | false=>exact Zbvx id l
abbrev Zba:=Exit->St->Prop
def Zfs (K:St->Prop) (Q:Zba):Zba:=fun e st=>match e with
 | .normal=>K st
 | e=>Q e st
def Zcfs (id:Nat) (Q:Zba):Zba:=fun e st=>match e with
 | .exit i=>match Nat.beq i id with | true=>Q .normal st | false=>Q (.exit i) st
 | e=>Q e st
def Zl (T:Type) (x0:T) (body:T->(T->Prop)->Prop):Prop:=
 ∃(I:Nat->T->Prop) (k:Nat),I k x0∧∀k x,I k x->body x fun x'=>∃k',k'<k∧I k' x'
def Zij (idv:List Nat) (gone:List Nat):Nat->List AObj->List AObj
 | _,[]=>[]
 | i,o::os=>(match memB i gone with
  | true=> .gone
  | false=>match memB i idv with
   | true=>o
   | false=>Zdn true o)::Zij idv gone (i+1) os
def Zq:List (Option Nat)->List Nat
 | []=>[]
 | some i::l=>i::Zq l
 | none::l=>Zq l
def idV1 (σ:List AObj):AV->Option Nat
 | .ptr id 0=>match σ[id]? with
  | some (.obj _ _ [.ptr id' 0])=>some id'
  | _=>some id
 | _=>none
def idV (σ:List AObj) (α:Nat->AV):List (Tmp×List PK)->Option (List Nat)
 | []=>some []
 | (t,_)::l=>match idV1 σ (α t),idV σ α l with
  | some id,some r=>some (id::r)
  | _,_=>none
def Zdr (σ:List AObj):List (Tmp×List PK)->List Nat->Option (List AV)
 | [],[]=>some []
 | (_,ks)::l,id::ids=>match σ[id]? with
  | some (.obj _ false cs)=>match Nat.beq cs.length ks.length,Zdr σ l ids with
   | true,some r=>some (cs++r)
   | _,_=>none
  | _=>none
 | _,_=>none
def lpIn (L:PLoop) (st:St):Option (PTup L.kinds×List AObj×List Nat):=
 match idV st.σ st.α L.vary with
 | some idv=>match Zdb idv,Zdr st.σ L.vary idv with
  | true,some cs=>match frzY st.σ L.kinds (L.tmps.map st.α++cs) with
   | some σ1=>match Zgz σ1 L.kinds (L.tmps.map st.α++cs) with
    | some (y,src)=>match Zdb (Zq src) with
     | true=>some (y,Zij idv (Zq src) 0 σ1,idv)
     | false=>none
    | none=>none
   | none=>none
  | _,_=>none
 | none=>none
def Zbbu (base σ:List AObj):List Nat->Bool
 | []=>true
 | id::ids=>match base[id]?,σ[id]? with
  | some (.obj T _ _),some (.obj T' _ _)=>Nat.beq T T'&&Zbbu base σ ids
  | _,_=>false
def Zvk (L:PLoop) (base:List AObj) (idv:List Nat) (st:St):Option (PTup L.kinds):=
 match Zbbu base st.σ idv,Zdr st.σ L.vary idv with
 | true,some cs=>match frzY st.σ L.kinds (L.tmps.map st.α++cs) with
  | some σ1=>match Zgz σ1 L.kinds (L.tmps.map st.α++cs) with
   | some (y,src)=>match Zdb (Zq src) with
    | true=>some y
    | false=>none
   | none=>none
  | none=>none
 | _,_=>none
def Zoi:List Tmp->List AV->(Nat->AV)->(Nat->AV)
 | t::ts,a::as,g=>putA (Zoi ts as g) (some t) a
 | _,_,g=>g
def Zoq:List Tmp->(Nat->AV)->(Nat->AV)
 | [],_=>fun _=> .undef
 | t::ts,α=>putA (Zoq ts α) (some t) (α t)
def setV:List (Tmp×List PK)->List Nat->List AV->List AObj->List AObj
 | (_,ks)::l,id::ids,cs,base=>match base[id]? with
  | some (.obj T _ _)=>setV l ids (cs.drop ks.length) (base.set id (.obj T false (cs.take ks.length)))
  | _=>base
 | _,_,_,base=>base
def PLoop.head (L:PLoop) (α:Nat->AV) (base:List AObj) (idv:List Nat) (y:PTup L.kinds):St:=
 ⟨Zoi L.tmps (avsY base.length L.kinds y) (Zoq L.fixed α),setV L.vary idv ((avsY base.length L.kinds y).drop L.tmps.length) base++Zu L.kinds y⟩
def PLoop.fine (L:PLoop):Bool:=Zdb L.tmps&&L.fixed.all fun f=>!(memB f L.tmps)
def Zmf (n:Exit->Bool) (K:St->Prop) (Q:Zba):Zba:=fun e st=>match n e with
 | true=>K st
 | false=>Q e st
def Zfj (F:Nat->St->Zba->Prop) (L:Nat->Bool):Nat->Zba->Zba
 | 0,Q=>fun e st=>match e with
  | .goto l=>(match L l with
   | true=>False
   | false=>Q (.goto l) st)
  | e=>Q e st
 | n+1,Q=>fun e st=>match e with
  | .goto l=>(match L l with
   | true=>F l st (Zfj F L n Q)
   | false=>Q (.goto l) st)
  | e=>Q e st
def Znu (plan:PPlan) (key:Nat) (B:St->Zba->Prop) (nx:Exit->Bool) (st:St) (Q:Zba):Prop:=match Zpm key plan.loops with
 | some L=>match L.fine,lpIn L st with
  | true,some (y0,base,idv)=>Zl (PTup L.kinds) y0 fun y next=>WfY L.kinds y->B (L.head st.α base idv y)
    (Zmf nx (fun st'=>match Zvk L base idv st' with | some y'=>next y' | none=>False) fun e st'=>Q e ⟨st'.α,unmark st.σ st'.σ⟩)
  | _,_=>False
 | none=>False
def Zbla (B:St->Zba->Prop):Nat->St->Zba->Prop
 | 0,_,_=>False
 | n+1,st,Q=>B st (Zmf Zgi (fun st'=>Zbla B n st' Q) Q)
def Zdv {T X:Type} (fin:T->Prop) (body:T->X->(T->Prop)->Prop):List X->T->Prop
 | [],y=>fin y
 | x::r,y=>body y x fun y'=>Zdv fin body r y'
def Zhv:List Tmp->List AV->(Nat->AV)->(Nat->AV)
 | t::ts,a::as,α=>Zhv ts as (putA α (some t) a)
 | _,_,α=>α
theorem Zccl {E:En} {H:Heap} {g:Gh} {σ:List AObj}: ∀(ts:List Tmp) (as:List AV) (vs:List Value) {α:Nat->AV} {ρ:Env},Sim E ⟨α,σ⟩ ρ H g->SimL g H σ.length as vs->Sim E ⟨Zhv ts as α,σ⟩ (Zgr ts vs ρ) H g
 | [],_,_,α,ρ,s,_=>by simpa only [Zhv,Zgr] using s
 | _::_,[],[],α,ρ,s,_=>by simpa only [Zhv,Zgr] using s
 | _::_,[],_::_,_,_,_,h=>by simp only [SimL] at h
 | _::_,_::_,[],_,_,_,h=>by simp only [SimL] at h
 | t::ts,a::as,v::vs,α,ρ,s,h=>by simp only [SimL] at h;simp only [Zhv,Zgr];exact Zccl ts as vs (s.put (some t) h.1) h.2
def Zmg (Q:Zba) (mk:St->St):Zba:=fun e st=>match e with
 | .ret=>Q .ret (mk st)
 | .exit i=>Q (.exit i) (mk st)
 | .goto t=>Q (.goto t) (mk st)
 | _=>False
def Zcvt (assign:Code):Nat:=4000000+Zer assign
def Zbvt (L:PLoop):Bool:=match L.slots with
 | []=>true
 | _=>false
def argK:Pk->Bool
 | .int _=>true
 | .bool=>true
 | .str=>true
 | .lst _=>true
 | .agg _=>true
 | _=>false
def Zbjl (plan:PPlan) (key:Nat) (A B:St->Zba->Prop) (ps:List Tmp) (I:It) (xs:List (PkTs I.ps)) (st:St) (Q:Zba):Prop:=match Zpm key plan.loops with
 | some L=>match Zbvt L&&I.ps.all argK&&Nat.beq ps.length I.ps.length,lpIn L st with
  | true,some (y0,base,idv)=>Zdv (fun y=>WfY L.kinds y->Q .normal ⟨(L.head st.α base idv y).α,unmark st.σ (L.head st.α base idv y).σ⟩)
    (fun y x next=>WfY L.kinds y->WfPs I.ps x->A ⟨Zhv ps (pksA 0 I.ps x) (L.head st.α base idv y).α,(L.head st.α base idv y).σ⟩ (Zfs (fun st1=>B st1
      (Zfs (fun st2=>match Zvk L base idv st2 with | some y'=>next y' | none=>False) (Zmg Q fun st2=>⟨(L.head st.α base idv y).α,unmark st.σ st2.σ⟩)))
     fun _ _=>False)) xs y0
  | _,_=>False
 | none=>False
mutual
def Zbl (P:Program) (tab:Tab) (plan:PPlan):Code->St->Zba->Prop
 | .skip,st,Q=>Q .normal st
 | .label _,st,Q=>Q .normal st
 | .region id ops draw,st,Q=>PReg P tab.cts plan.own (Zccq id plan.nomark) plan.regs plan.trees id ops draw st fun st'=>Q .normal st'
 | .seq a b,st,Q=>Zbl P tab plan a st (Zfs (fun st'=>Zbl P tab plan b st' Q) Q)
 | .cond c x y,st,Q=>match evA st.α c with
  | .bool t=>IfB t (Zbl P tab plan x st Q) (Zbl P tab plan y st Q)
  | _=>False
 | .block id c,st,Q=>Zbl P tab plan c st (Zcfs id Q)
 | .loop c,st,Q=>match Zgw (Zer c) plan.unr with
  | some n=>Zbla (fun st Q=>Zbl P tab plan c st Q) n st Q
  | none=>Znu plan (Zer c) (fun st Q=>Zbl P tab plan c st Q) Zgi st Q
 | .scope c,st,Q=>match Zlz plan.plan c with
  | none=>Zbl P tab plan c st (Zfj (fun l st Q=>PFr P tab plan c l st Q) (Zdx c) (Zbrs plan.plan c) Q)
  | some l=>PBe P tab plan c l st (Zmf Zgi (fun st=>Znu plan (Zez l) (fun st Q=>PFr P tab plan c l st (Zfj (fun l st Q=>PFr P tab plan c l st Q) (others c l) (nLbl c) Q)) (Zeg l) st Q)
    (Zfj (fun l st Q=>PFr P tab plan c l st Q) (others c l) (nLbl c) (Zmf (Zeg l) (fun st=>Znu plan (Zez l) (fun st Q=>PFr P tab plan c l st (Zfj (fun l st Q=>PFr P tab plan c l st Q) (others c l) (nLbl c) Q)) (Zeg l) st Q) Q)))
 | .exit id,st,Q=>Q (.exit id) st
 | .goto l,st,Q=>Q (.goto l) st
 | .ret,st,Q=>Q .ret st
 | .rangeFunc gf ps assign body,st,Q=>match evA st.α gf with
  | .fn f caps=>match itOf f tab.its with
   | some I=>match itIn I.kc st caps with
    | some (c,σ1)=>I.pre c∧Zbjl plan (Zcvt assign) (fun st Q=>Zbl P tab plan assign st Q) (fun st Q=>Zbl P tab plan body st Q) ps.toList I (I.xs c) ⟨st.α,σ1⟩ Q
    | none=>False
   | none=>False
  | _=>False
 | _,_,_=>False
def PFr (P:Program) (tab:Tab) (plan:PPlan):Code->Nat->St->Zba->Prop
 | .seq a b,l,st,Q=>match Zdx a l with
  | true=>PFr P tab plan a l st (Zfs (fun st'=>Zbl P tab plan b st' Q) Q)
  | false=>PFr P tab plan b l st Q
 | .label l',l,st,Q=>match Nat.beq l' l with
  | true=>Q .normal st
  | false=>False
 | _,_,_,_=>False
def PBe (P:Program) (tab:Tab) (plan:PPlan):Code->Nat->St->Zba->Prop
 | .seq a b,l,st,Q=>match Zdx a l with
  | true=>PBe P tab plan a l st Q
  | false=>Zbl P tab plan a st (Zfs (fun st'=>PBe P tab plan b l st' Q) Q)
 | .label l',l,st,Q=>match Nat.beq l' l with
  | true=>Q .normal st
  | false=>False
 | _,_,_,_=>False
end
theorem Zbra: ∀(ts:List Tmp) (vs:List Value),vs.length=ts.length->∃x,dec (ts.map fun _=>Kind.any) vs=some x∧enc (ts.map fun _=>Kind.any) x=vs
 | [],[],_=>⟨(),rfl,rfl⟩
 | [],_::_,h=>by simp at h
 | _::_,[],h=>by simp at h
 | t::ts,v::vs,h=>by
  obtain ⟨x,h1,h2⟩:=Zbra ts vs (by simpa using h)
  refine ⟨(v,x),?_,?_⟩
  ·have e: ∀(ks:List Kind) (v:Value) (vs:List Value),dec (.any::ks) (v::vs)=match dec ks vs with | some x=>some (v,x) | none=>none:=by intro ks v vs;cases v<;>rfl
   exact (e _ v vs).trans (by rw [h1])
  show v::enc (ts.map fun _=>Kind.any) x=_;rw [h2]
theorem Zbxz: ∀(ts:List Tmp) (x:Tup (ts.map fun _=>Kind.any)),(enc (ts.map fun _=>Kind.any) x).length=ts.length
 | [],_=>rfl
 | t::ts,x=>by show (x.1::enc (ts.map fun _=>Kind.any) x.2).length=_;rw [List.length_cons,Zbxz ts];rfl
theorem Zje: ∀{l:List Nat},Zdb l=true->l.Nodup
 | [],_=>by simp
 | e::l,h=>by simp only [Zdb,Ya,YF] at h;refine Yt.2 ⟨fun hc=>?_,Zje h.2⟩;rw [Zcc.2 hc] at h;cases h.1
theorem Zbpf: ∀(ts:List Tmp) (vs:List Value) (g:Env),ts.Nodup->vs.length=ts.length->ts.map (Zhj ts vs g)=vs
 | [],[],_,_,_=>rfl
 | [],_::_,_,_,h=>by simp at h
 | _::_,[],_,_,h=>by simp at h
 | t::ts,v::vs,g,hn,hl=>by
  obtain ⟨h1,h2⟩:=Yt.1 hn;simp only [YG,Zhj,List.cons.injEq];refine ⟨by simp [put],?_⟩
  rw [← Zbpf ts vs g h2 (by simpa using hl)]
  refine YM fun u hu=>?_;rw [Zbpf ts vs g h2 (by simpa using hl)]
  exact Zlq fun e he heq=>by cases he;subst heq;exact h1 hu
theorem Zbsk {g:Gh} {H:Heap} {N:Nat} {γ:Nat->AV} {ρ:Env} (hγ: ∀t,SimV g H N (γ t) (ρ t)): ∀(ts:List Tmp) (as:List AV) (vs:List Value),SimL g H N as vs->(∀(i:Nat) (t:Tmp) (v:Value),ts[i]? =some t->vs[i]? =some v->ρ t=v)->∀t,SimV g H N (Zoi ts as γ t) (ρ t)
 | [],_,_,_,_,t=>by simpa only [Zoi] using hγ t
 | _::_,[],_,_,_,t=>by simpa only [Zoi] using hγ t
 | _::_,_::_,[],h,_,_=>by simp only [SimL] at h
 | u::ts,a::as,v::vs,h,hv,t=>by
  simp only [SimL] at h;simp only [Zoi,putA];cases hb:Nat.beq t u with
  | true=>
   have:=Ye hb;subst this;simp only;rw [hv 0 t v rfl rfl];exact h.1
  | false=>exact Zbsk hγ ts as vs h.2 (fun i t v h1 h2=>hv (i+1) t v (by simpa using h1) (by simpa using h2)) t
theorem Zcdf {g:Gh} {H:Heap} {N:Nat} {α:Nat->AV} {ρ ρ':Env}: ∀(ts:List Tmp),(∀t∈ts,SimV g H N (α t) (ρ t))->(∀t∈ts,ρ' t=ρ t)->∀t,SimV g H N (Zoq ts α t) (ρ' t)
 | [],_,_,t=>by simp only [Zoq,SimV]
 | u::ts,h,he,t=>by
  simp only [Zoq,putA];cases hb:Nat.beq t u with
  | true=>
   have:=Ye hb;subst this;simp only;rw [he t (by simp)];exact h t (by simp)
  | false=>exact Zcdf ts (fun t ht=>h t (by simp [ht])) (fun t ht=>he t (by simp [ht])) t
theorem Zbzs (idv:List Nat) (gone:List Nat): ∀(σ:List AObj) (i:Nat),(Zij idv gone i σ).length=σ.length
 | [],_=>rfl
 | o::os,i=>by simp [Zij,Zbzs idv gone os]
theorem Zcgj (idv:List Nat) (gone:List Nat): ∀(σ:List AObj) (i j:Nat) (o:AObj),(Zij idv gone i σ)[j]? =some o->∃o1,σ[j]? =some o1∧((i+j∈gone∧o= .gone)∨(i+j∉gone∧i+j∈idv∧o=o1)∨(i+j∉gone∧i+j∉idv∧o=Zdn true o1))
 | [],_,_,_,h=>by simp [Zij] at h
 | a::σ,i,0,o,h=>by
  simp only [Zij,List.getElem?_cons_zero,Option.some.injEq] at h;refine ⟨a,rfl,?_⟩;simp only [Nat.add_zero];cases hm:memB i gone with
  | true=>rw [hm] at h;exact .inl ⟨Zcc.1 hm,h.symm⟩
  | false=>
   rw [hm] at h;have hni:i∉gone:=fun hc=>by rw [Zcc.2 hc] at hm;cases hm
   simp only at h;cases hb:memB i idv with
   | true=>rw [hb] at h;exact .inr (.inl ⟨hni,Zcc.1 hb,h.symm⟩)
   | false=>rw [hb] at h;exact .inr (.inr ⟨hni,(fun hc=>by rw [Zcc.2 hc] at hb;cases hb),h.symm⟩)
 | a::σ,i,j+1,o,h=>by
  simp only [Zij,List.getElem?_cons_succ] at h;obtain ⟨o1,h1,h2⟩:=Zcgj idv gone σ (i+1) j o h;refine ⟨o1,by simpa using h1,?_⟩
  have e:i+1+j=i+(j+1):=by omega
  rw [e] at h2;exact h2
theorem Zmb: ∀{src:List (Option Nat)} {j id:Nat},src[j]? =some (some id)->id∈Zq src
 | [],_,_,h=>by simp at h
 | some i::l,0,id,h=>by simp at h;subst h;simp [Zq]
 | none::l,0,id,h=>by simp at h
 | some i::l,j+1,id,h=>by simp [Zq];exact .inr (Zmb (j:=j) (by simpa using h))
 | none::l,j+1,id,h=>by simp [Zq];exact Zmb (j:=j) (by simpa using h)
theorem Zmp: ∀{src:List (Option Nat)},(Zq src).Nodup->∀(j j' id:Nat),src[j]? =some (some id)->src[j']? =some (some id)->j=j'
 | [],_,j,_,_,h,_=>by simp at h
 | none::l,hn,0,_,_,h,_=>by simp at h
 | none::l,hn,_,0,_,_,h=>by simp at h
 | none::l,hn,j+1,j'+1,id,h,h'=>by rw [Zmp (src:=l) hn j j' id (by simpa using h) (by simpa using h')]
 | some i::l,hn,0,0,_,_,_=>rfl
 | some i::l,hn,0,j'+1,id,h,h'=>by simp at h;subst h;simp only [Zq,Yt] at hn;exact absurd (Zmb (j:=j') (by simpa using h')) hn.1
 | some i::l,hn,j+1,0,id,h,h'=>by simp at h';subst h';simp only [Zq,Yt] at hn;exact absurd (Zmb (j:=j) (by simpa using h)) hn.1
 | some i::l,hn,j+1,j'+1,id,h,h'=>by simp only [Zq,Yt] at hn;rw [Zmp (src:=l) hn.2 j j' id (by simpa using h) (by simpa using h')]
theorem Znt: ∀{src:List (Option Nat)} {id:Nat},id∈Zq src->∃j:Nat,src[j]? =some (some id)
 | [],_,h=>by simp [Zq] at h
 | some i::l,id,h=>by
  simp only [Zq,Yj] at h;rcases h with rfl | h;exact ⟨0,rfl⟩
  ·obtain ⟨j,hj⟩:=Znt h;exact ⟨j+1,by simpa using hj⟩
 | none::l,id,h=>by obtain ⟨j,hj⟩:=Znt (src:=l) h;exact ⟨j+1,by simpa using hj⟩
theorem Zbwl {σ σ':List AObj} {a:AV} (h:frzO σ a=some σ') {id:Nat} {T:TypeId} {r:Bool} {cs:List AV} (ho:σ[id]? =some (.obj T r cs)):σ'[id]? =some (.obj T r cs):=by unfold frzO at h;split at h;rename_i k;split at h;rename_i T' ks xs hk;cases h;rw [YA];by_cases e:k=id;subst e;rw [hk] at ho;cases ho;rw [if_neg e];exact ho;cases h;exact ho;cases h;cases h;exact ho
theorem Zhg: ∀(ks:List PK) (as:List AV) (σ σ':List AObj),frzY σ ks as=some σ'->∀{id:Nat} {T:TypeId} {r:Bool} {cs:List AV},σ[id]? =some (.obj T r cs)->σ'[id]? =some (.obj T r cs)
 | [],[],σ,σ',h,_,_,_,_,ho=>by simp only [frzY,Option.some.injEq] at h;subst h;exact ho
 | [],_::_,_,_,h,_,_,_,_,_=>by simp only [frzY] at h;cases h
 | k::ks,[],_,_,h,_,_,_,_,_=>by cases k<;>simp only [frzY] at h<;>cases h
 | .lst _::ks,a::as,σ,σ',h,_,_,_,_,ho=>by
  simp only [frzY] at h;split at h;rename_i σ1 hf;exact Zhg ks as σ1 σ' h (Zbwl hf ho)
  ·cases h
 | .int _::ks,a::as,σ,σ',h,_,_,_,_,ho=>by simp only [frzY] at h;exact Zhg ks as σ σ' h ho
 | .bool::ks,a::as,σ,σ',h,_,_,_,_,ho=>by simp only [frzY] at h;exact Zhg ks as σ σ' h ho
 | .str::ks,a::as,σ,σ',h,_,_,_,_,ho=>by simp only [frzY] at h;exact Zhg ks as σ σ' h ho
 | .row _ _::ks,a::as,σ,σ',h,_,_,_,_,ho=>by simp only [frzY] at h;exact Zhg ks as σ σ' h ho
 | .arr _ _::ks,a::as,σ,σ',h,_,_,_,_,ho=>by simp only [frzY] at h;exact Zhg ks as σ σ' h ho
theorem Zcdt (o:AObj):isRo (Zdn true o)=true∨Zdn true o= .gone:=by cases o<;>simp [Zdn,isRo]
def Zhd (src:List Nat) (idv:List Nat) (i:Nat) (o:AObj):AObj:=match memB i src with
 | true=>o
 | false=>match memB i idv with
  | true=>o
  | false=>Zdn true o
theorem Zdae (src:List Nat) (idv:List Nat) (i:Nat) (o:AObj):Zge o (Zhd src idv i o):=by unfold Zhd;split;exact Zbda o;split;exact Zbda o;exact ⟨true,rfl⟩
theorem Zddy {src:List Nat} {idv:List Nat} {i:Nat} {o:AObj} (h:isRo o=true):Zhd src idv i o=o:=by
 have:Zdn true o=o:=by cases o<;>simp only [isRo] at h<;>simp [Zdn,h]
 unfold Zhd;split;rfl;split;rfl;exact this
theorem Zckh {i:Nat} {l:List Nat} (h:i∉l):memB i l=false:=by
 cases hb:memB i l with
 | false=>rfl
 | true=>exact absurd (Zcc.1 hb) h
def Znm (g:Gh) (H:Heap) (σ:List AObj):List (Tmp×List PK)->List Nat->List Value->Prop
 | [],[],vs=>vs= []
 | v::V,id::ids,ws=>∃vs r T c,ws=vs++r∧vs.length=v.2.length∧σ[id]? =some (.obj T false c)∧H (g.B id)=some (.cells ⟨vs⟩ T (0,0))∧Znm g H σ V ids r
 | _,_,_=>False
theorem Zbmc {g:Gh} {H:Heap} {N:Nat} {σ:List AObj} (ho: ∀id o,σ[id]? =some o->SimO g H N id o): ∀{V:List (Tmp×List PK)} {ids:List Nat} {cs:List AV},Zdr σ V ids=some cs->∃ws,Znm g H σ V ids ws∧SimL g H N cs ws
 | [],[],cs,h=>by simp only [Zdr,Option.some.injEq] at h;subst h;exact ⟨[],rfl,by simp only [SimL]⟩
 | [],_::_,_,h=>by simp only [Zdr] at h;cases h
 | _::_,[],_,h=>by simp only [Zdr] at h;cases h
 | (t,ks)::V,id::ids,cs,h=>by
  simp only [Zdr] at h;split at h
  ·rename_i T c hi;split at h;rename_i r hl hr;cases h;obtain ⟨ws,h1,h2⟩:=Zbmc ho hr;obtain ⟨vs,h3,h4⟩:=ho id _ hi;exact ⟨vs++ws,⟨vs,ws,T,c,rfl,by rw [← h4.len];exact Ye hl,hi,h3,h1⟩,h4.append h2⟩
   cases h
  cases h
theorem Zbpl {σ:List AObj}: ∀{V:List (Tmp×List PK)} {ids:List Nat} {cs:List AV},Zdr σ V ids=some cs->∀id∈ids,∃T c,σ[id]? =some (.obj T false c)
 | [],[],_,_,id,hi=>by simp at hi
 | [],_::_,_,h,_,_=>by simp only [Zdr] at h;cases h
 | _::_,[],_,h,_,_=>by simp only [Zdr] at h;cases h
 | (t,ks)::V,i::ids,cs,h,id,hi=>by simp only [Zdr] at h;split at h;rename_i T c h1;split at h;rename_i r hl hr;rcases Yj.1 hi with rfl | hi;exact ⟨T,c,h1⟩;exact Zbpl hr id hi;cases h;cases h
theorem Zbqx {σ σ':List AObj} (h: ∀(id:Nat) (T:TypeId) (cs:List AV),σ[id]? =some (.obj T false cs)->σ'[id]? =some (.obj T false cs)): ∀{V:List (Tmp×List PK)} {ids:List Nat} {cs:List AV},Zdr σ V ids=some cs->Zdr σ' V ids=some cs
 | [],[],cs,h=>by simpa only [Zdr] using h
 | [],_::_,_,h=>by simp only [Zdr] at h;cases h
 | _::_,[],_,h=>by simp only [Zdr] at h;cases h
 | (t,ks)::V,i::ids,cs,h'=>by simp only [Zdr] at h' ⊢;split at h';rename_i T c h1;split at h';rename_i r hl hr;rw [h _ _ _ h1];simp only [hl,Zbqx h hr];exact h';cases h';cases h'
theorem Zbmv: ∀(V:List (Tmp×List PK)) (ids:List Nat) (cs:List AV) (base:List AObj),(setV V ids cs base).length=base.length
 | [],_,_,_=>by simp only [setV]
 | _::_,[],_,_=>by simp only [setV]
 | (t,ks)::V,id::ids,cs,base=>by simp only [setV];split;rw [Zbmv V ids];simp;rfl
theorem Zbhj: ∀(V:List (Tmp×List PK)) (ids:List Nat) (cs:List AV) (base:List AObj) (id:Nat),id∉ids->(setV V ids cs base)[id]? =base[id]?
 | [],_,_,_,_,_=>by simp only [setV]
 | _::_,[],_,_,_,_=>by simp only [setV]
 | (t,ks)::V,i::ids,cs,base,id,h=>by
  simp only [setV];split;rw [Zbhj V ids _ _ id (fun hc=>h (Yi _ hc)),YA,if_neg (fun e=>h (by rw [e];exact Yk))]
  rfl
theorem Zbzb {g g'':Gh} {H:Heap} {N:Nat} {σ:List AObj}: ∀(V:List (Tmp×List PK)) (ids:List Nat) (cs:List AV) (base:List AObj) (ws:List Value),ids.Nodup->Znm g H σ V ids ws->SimL g'' H N cs ws->
  (∀id∈ids,∃T c0 c1,base[id]? =some (.obj T false c0)∧σ[id]? =some (.obj T false c1))->
  ∀id∈ids,∃T cs1 vs,(setV V ids cs base)[id]? =some (.obj T false cs1)∧(∃c0,base[id]? =some (.obj T false c0))∧H (g.B id)=some (.cells ⟨vs⟩ T (0,0))∧SimL g'' H N cs1 vs
 | [],[],_,_,_,_,_,_,_,id,hi=>by simp at hi
 | [],_::_,_,_,_,_,h,_,_,_,_=>by simp only [Znm] at h
 | _::_,[],_,_,_,_,h,_,_,_,_=>by simp only [Znm] at h
 | (t,ks)::V,i::ids,cs,base,ws,hn,hv,hs,hb,id,hi=>by
  simp only [Znm] at hv;obtain ⟨vs,r,T,c,rfl,hl,h1,h2,h3⟩:=hv;obtain ⟨T',c0,c1,h4,h5⟩:=hb i Yk;rw [h1] at h5;cases h5;obtain ⟨hni,hn⟩:=Yt.1 hn;simp only [setV,h4];have hd:SimL g'' H N (cs.drop ks.length) r:=by have:=SimL.drop ks.length hs;rw [← hl,Y3a] at this;rwa [hl] at this
  have ht:SimL g'' H N (cs.take ks.length) vs:=by have:=SimL.take ks.length hs;rw [← hl,Y4a] at this;rwa [hl] at this
  rcases Yj.1 hi with rfl | hi;rw [Zbhj _ _ _ _ _ hni,YA,if_pos rfl,if_pos (Zbs h4)];exact ⟨T,_,vs,rfl,⟨_,h4⟩,h2,ht⟩
  ·obtain ⟨T2,cs1,vs2,k1,⟨c2,k2⟩,k3,k4⟩:=Zbzb V ids (cs.drop ks.length) (base.set i (.obj T false (cs.take ks.length))) r hn h3 hd (fun id' hi'=>by
    obtain ⟨T3,c3,c4,q1,q2⟩:=hb id' (Yi _ hi');refine ⟨T3,c3,c4,?_,q2⟩;rw [YA,if_neg (fun e=>hni (by rw [e];exact hi'))];exact q1) id hi
   refine ⟨T2,cs1,vs2,k1,?_,k3,k4⟩;rw [YA,if_neg (fun e=>hni (by rw [e];exact hi))] at k2
   exact ⟨c2,k2⟩
theorem Zcgw {E:En} {L:PLoop} {α0:Nat->AV} {ρ0:Env} {base:List AObj} {idv:List Nat} {st:St} {ρ:Env} {H:Heap} {g:Gh} {σ1:List AObj} {cs:List AV} {y:PTup L.kinds} {src:List (Option Nat)}
  (s:Sim E ⟨st.α,σ1⟩ ρ H g) (hle:base.length <= σ1.length)
  (hro: ∀(id:Nat) (o:AObj),base[id]? =some o->o= .gone∨(isRo o=true∧(σ1[id]? =some o∨∃o1,σ1[id]? =some o1∧Zge o1 o∧id∉Zq src)∧SimO g H base.length id o)∨(id∈idv∧∃T cs0 c1,o= .obj T false cs0∧σ1[id]? =some (.obj T false c1)))
  (hfix: ∀t∈L.fixed,SimV g H base.length (α0 t) (ρ0 t)) (hcs:Zdr σ1 L.vary idv=some cs) (hun:idv.Nodup) (hin: ∀id∈idv,∃T c0 c1,base[id]? =some (.obj T false c0)∧σ1[id]? =some (.obj T false c1))
  (hread:Zgz σ1 L.kinds (L.tmps.map st.α++cs)=some (y,src)) (hu:Zdb (Zq src)=true)
  (hf: ∀(k:PK) (ks':List Kd) (i id:Nat),L.kinds[i]? =some k->k= .lst ks'->(L.tmps.map st.α++cs)[i]? =some (.row id)->∃ks xs,σ1[id]? =some (.frz ks xs)):
  WfY L.kinds y∧∃g'',g''.Z=g.Z∧(∀i,i<base.length->g''.B i=g.B i∧g''.V i=g.V i)∧
   ∀ρ'':Env,(∀t∈L.tmps,ρ'' t=ρ t)->(∀t∈L.fixed,ρ'' t=ρ0 t)->Sim E (L.head α0 base idv y) ρ'' H g'':=by
 obtain ⟨vcs,hvb,hvs⟩:=Zbmc (g:=g) (H:=H) (N:=σ1.length) (fun id o ho=>s.obj id o ho) hcs;have htm:SimL g H σ1.length (L.tmps.map st.α) (L.tmps.map ρ):=by
  have: ∀ts:List Tmp,SimL g H σ1.length (ts.map st.α) (ts.map ρ):=by
   intro ts;induction ts with
   | nil=>simp only [YLa,SimL]
   | cons t ts ih=>simp only [YG,SimL];exact ⟨s.tmp t,ih⟩
  exact this _
 obtain ⟨hw,hlen,hrow,hsim⟩:=Zva s hread (htm.append hvs) hf;refine ⟨hw,?_⟩
 let keepRow:=Zhd (Zq src) idv
 let σk:List AObj:=σ1.mapIdx keepRow
 have hkl:σk.length=σ1.length:=by simp [σk]
 have hkg: ∀(i:Nat) (o:AObj),σ1[i]? =some o->σk[i]? =some (keepRow i o):=fun i o h=>by simp [σk,List.getElem?_mapIdx,h]
 have hkg': ∀(i:Nat) (o:AObj),σk[i]? =some o->∃o1,σ1[i]? =some o1∧o=keepRow i o1:=fun i o h=>by simp only [σk,List.getElem?_mapIdx,Option.map_eq_some_iff] at h;obtain ⟨o1,h1,h2⟩:=h;exact ⟨o1,h1,h2.symm⟩
 have hlike: ∀(i:Nat) (o:AObj),Zge o (keepRow i o):=fun i o=>Zdae _ _ i o;have sk:Sim E ⟨st.α,σk⟩ ρ H g:=s.like hkl fun i o h=>by obtain ⟨o1,h1,rfl⟩:=hkg' i o h;exact ⟨o1,h1,hlike i o1⟩
 have hsrc: ∀{id:Nat},id∈Zq src->∃T ks xs,σ1[id]? =some (.row T false ks xs):=fun {id} h=>by
  obtain ⟨j,hj⟩:=Znt h;have hjl:j<(Zu L.kinds y).length:=by rw [hlen];rcases Ys j src.length with h | h;exact h;rw [Yf h] at hj;cases hj
  rcases hrow j _ _ (Yc hjl) hj with ⟨id',e,h1,_,T,ks,xs,h2⟩ | ⟨e,_⟩;cases e;exact ⟨T,ks,xs,by rw [h1,h2]⟩
  cases e
 obtain ⟨g'',hZ,hBV,hS,hfin⟩:=Sim.rehead (base:=base) (rows:=Zu L.kinds y) (src:=src) sk (by simp only [hkl];exact hle) hlen (fun id o ho=>by
   rcases hro id o ho with rfl | ⟨h1,h2,h3⟩ | ⟨h1,T,cs0,c1,rfl,h2⟩;exact .inl rfl
   ·refine .inr (.inl ⟨h1,?_,h3⟩);rcases h2 with h2 | ⟨o1,h2,h4,h5⟩;rw [hkg id o h2];exact congrArg some (Zddy h1)
    ·rw [hkg id o1 h2];congr 1;have hm:memB id (Zq src)=false:=Zckh h5;obtain ⟨r,rfl⟩:=h4;have hne:id∉idv:=fun hk=>by obtain ⟨T,c0,c1,h6,h7⟩:=hin id hk;rw [ho] at h6;rw [h2] at h7;cases h7;simp only [Zdn,Option.some.injEq,AObj.obj.injEq] at h6;obtain ⟨_,rfl,_⟩:=h6;simp [Zdn,isRo] at h1
     show Zhd (Zq src) idv id o1=Zdn r o1;have hfl:Zdn true o1=Zdn r o1:=by cases o1<;>simp only [Zdn,isRo] at h1 ⊢ <;>simp [h1]
     unfold Zhd;rw [hm,Zckh hne];exact hfl
   ·refine .inr (.inr ⟨T,cs0,c1,rfl,?_⟩);rw [hkg id _ h2];refine congrArg some ?_;show Zhd (Zq src) idv id _=_;unfold Zhd;rw [Zcc.2 h1];simp only;split<;>rfl)
  (fun j o i ho hi=>by
   rcases hrow j o i ho hi with ⟨id,rfl,h1,h2,h3⟩ | h;refine .inl ⟨id,rfl,?_,h2,h3⟩;rw [hkg id o h1];refine congrArg some ?_;show Zhd (Zq src) idv id o=o;unfold Zhd;rw [Zcc.2 (Zmb hi)]
   ·exact .inr h)
  (Zmp (Zje hu))
 have hsl:=hsim g'' base.length (base.length+(Zu L.kinds y).length) hS (by omega) hZ
 refine ⟨g'',hZ,hBV,fun ρ'' h1 h2=>?_⟩;have hext:Ext base.length g H g'' H:=⟨fun b hb=>⟨by rw [hZ];exact hb,rfl⟩,fun i hi=>(hBV i hi).1,fun i hi=>(hBV i hi).2⟩
 unfold PLoop.head;refine hfin _ _ _ (Zbmv _ _ _ _) (fun id o ho=>?_) (fun t=>?_)
 ·by_cases hid:id∈idv
  ·have hd:=hsl.drop L.tmps.length;have e:(L.tmps.map ρ++vcs).drop L.tmps.length=vcs:=by
    rw [List.drop_append,List.drop_of_length_le (by rw [Yz];exact Yh _)]
    simp
   rw [e] at hd;obtain ⟨T,cs1,vs,k1,⟨c0,k2⟩,k3,k4⟩:=Zbzb L.vary idv _ base vcs hun hvb hd hin id hid;rw [k1] at ho;cases ho;exact .inr (.inr ⟨T,_,c0,rfl,k2,vs,k3,k4⟩)
  rw [Zbhj _ _ _ _ _ hid] at ho;rcases hro id o ho with rfl | ⟨h3,h4,h5⟩ | ⟨h3,_⟩;exact .inr (.inl rfl);exact .inl ⟨h3,ho⟩;exact absurd h3 hid
 ·refine Zbsk (γ:=Zoq L.fixed α0) (fun t=>?_) _ _ (L.tmps.map ρ++vcs) hsl (fun i t v hi hv=>?_) t;refine Zcdf (ρ:=ρ0) L.fixed (fun t ht=>?_) h2 t;exact SimV.ext (Yya _ _) hext _ _ (hfix t ht)
  ·have hlt:i<L.tmps.length:=by rcases Ys i L.tmps.length with h | h;exact h;rw [Yf h] at hi;cases hi
   rw [Yd (by simpa using hlt),Yaa,hi] at hv
   simp only [Option.map_some,Option.some.injEq] at hv;rw [← hv];exact h1 t (Yva hi)
def Lc (E:En) (st:St) (H:Heap) (g:Gh) (Q:Zba):Post:=fun e ρ' H'=>∃st' g',Sim E st' ρ' H' g'∧Rel st H g st' H' g'∧Q e st'
theorem Lc.trans {E:En} {st st1:St} {H H1:Heap} {g g1:Gh} {Q:Zba} (r:Rel st H g st1 H1 g1) {e:Exit} {ρ:Env} {H':Heap} (h:Lc E st1 H1 g1 Q e ρ H'):Lc E st H g Q e ρ H':=by obtain ⟨st',g',h1,h2,h3⟩:=h;exact ⟨st',g',h1,r.trans h2,h3⟩
structure LEnt (E:En) (L:PLoop) (st:St) (ρ:Env) (H:Heap) (g g1:Gh) (σ1 base:List AObj) (idv S:List Nat):Prop where
 sim:Sim E ⟨st.α,σ1⟩ ρ H g1
 rel:Rel st H g ⟨st.α,σ1⟩ H g1
 len1:σ1.length=st.σ.length
 len:base.length=σ1.length
 get: ∀(j:Nat) (o:AObj),base[j]? =some o->∃o1,σ1[j]? =some o1∧((j∈S∧o= .gone)∨(j∉S∧j∈idv∧o=o1)∨(j∉S∧j∉idv∧o=Zdn true o1))
 srow: ∀{id:Nat},id∈S->∃T ks xs,σ1[id]? =some (.row T false ks xs)
 bin: ∀id∈idv,∃T c0,base[id]? =some (.obj T false c0)∧σ1[id]? =some (.obj T false c0)
 un:idv.Nodup
structure LInv (E:En) (L:PLoop) (st:St) (ρ:Env) (H:Heap) (g1:Gh) (base:List AObj) (idv:List Nat) (y:PTup L.kinds) (ts:List Value) (H':Heap) (g':Gh):Prop where
 wf:WfY L.kinds y
 sim: ∀ρ'':Env,L.tmps.map ρ''=ts->(∀t∈L.fixed,ρ'' t=ρ t)->Sim E (L.head st.α base idv y) ρ'' H' g'
 ext:Ext base.length g1 H g' H'
 rok: ∀(id:Nat) (o:AObj),base[id]? =some o->isRo o=true->Has g1 id o->H' (g1.B id)=H (g1.B id)
theorem Zcer {E:En} {L:PLoop} {st:St} {ρ:Env} {H:Heap} {g:Gh} (s:Sim E st ρ H g) {y:PTup L.kinds} {base:List AObj} {idv:List Nat} (hin:lpIn L st=some (y,base,idv)):
  ∃g1 σ1 S g2,LEnt E L st ρ H g g1 σ1 base idv S∧LInv E L st ρ H g1 base idv y (L.tmps.map ρ) H g2:=by
 unfold lpIn at hin;split at hin
 case h_2=>cases hin
 rename_i idv' hidv;split at hin
 case h_2=>cases hin
 rename_i cs hun hcs;split at hin
 case h_2=>cases hin
 rename_i σ1 hfr;split at hin
 case h_2=>cases hin
 rename_i y src hread;split at hin
 case h_2=>cases hin
 rename_i huniq;simp only [Option.some.injEq,Prod.mk.injEq] at hin;obtain ⟨rfl,rfl,rfl⟩:=hin;obtain ⟨g1,s1,r1,l1,f1,_⟩:=Zuv L.kinds _ st.σ σ1 g s hfr;have hbl:(Zij idv' (Zq src) 0 σ1).length=σ1.length:=Zbzs _ _ _ _;generalize hbase:Zij idv' (Zq src) 0 σ1=base at hbl;have bget: ∀(j:Nat) (o:AObj),base[j]? =some o->∃o1,σ1[j]? =some o1∧((j∈Zq src∧o= .gone)∨(j∉Zq src∧j∈idv'∧o=o1)∨(j∉Zq src∧j∉idv'∧o=Zdn true o1)):=fun j o hj=>by rw [← hbase] at hj;have:=Zcgj idv' (Zq src) σ1 0 j o hj;simpa using this
 have hcs1:Zdr σ1 L.vary idv'=some cs:=Zbqx (fun id T cs ho=>Zhg _ _ _ _ hfr ho) hcs;have vobj:=Zbpl hcs1;obtain ⟨v2,_,hv2⟩:=Zbmc (g:=g1) (H:=H) (N:=σ1.length) (fun id o ho=>s1.obj id o ho) hcs1;have srow: ∀{id:Nat},id∈Zq src->∃T ks xs,σ1[id]? =some (.row T false ks xs):=fun {id} hm=>by
  obtain ⟨_,hlen,hrow,_⟩:=Zva s1 hread (y:=y) (vs:=L.tmps.map ρ++v2) (by
   refine SimL.append ?_ hv2;have: ∀ts:List Tmp,SimL g1 H σ1.length (ts.map st.α) (ts.map ρ):=by
    intro ts;induction ts with
    | nil=>simp only [YLa,SimL]
    | cons t ts ih=>simp only [YG,SimL];exact ⟨s1.tmp t,ih⟩
   exact this _) f1
  obtain ⟨j,hj⟩:=Znt hm;have hjl:j<(Zu L.kinds y).length:=by rw [hlen];rcases Ys j src.length with h | h;exact h;rw [Yf h] at hj;cases hj
  rcases hrow j _ _ (Yc hjl) hj with ⟨id',e,h1,_,T,ks,xs,h2⟩ | ⟨e,_⟩;cases e;exact ⟨T,ks,xs,by rw [h1,h2]⟩
  cases e
 have bin: ∀id∈idv',∃T c0,base[id]? =some (.obj T false c0)∧σ1[id]? =some (.obj T false c0):=fun id hid=>by
  obtain ⟨T,c1,ho⟩:=vobj id hid;have hlt:id<base.length:=by rw [hbl];exact Zbs ho
  obtain ⟨o1,h1,h2⟩:=bget id _ (Yc hlt);rw [ho] at h1;cases h1;have hns:id∉Zq src:=fun hm=>by obtain ⟨T',ks,xs,h3⟩:=srow hm;rw [ho] at h3;cases h3
  rcases h2 with ⟨h3,_⟩ | ⟨_,_,h4⟩ | ⟨_,h3,_⟩;exact absurd h3 hns;exact ⟨T,c1,by rw [Yc hlt,h4],ho⟩
  exact absurd hid h3
 have hfix: ∀t∈L.fixed,SimV g1 H base.length (st.α t) (ρ t):=fun t _=>by rw [hbl];exact s1.tmp t
 have hro: ∀(id:Nat) (o:AObj),base[id]? =some o->o= .gone∨(isRo o=true∧(σ1[id]? =some o∨∃o1,σ1[id]? =some o1∧Zge o1 o∧id∉Zq src)∧SimO g1 H base.length id o)∨(id∈idv'∧∃T cs0 c1,o= .obj T false cs0∧σ1[id]? =some (.obj T false c1)):=fun id o ho=>by obtain ⟨o1,h1,h2⟩:=bget id o ho;rcases h2 with ⟨_,rfl⟩ | ⟨_,h4,rfl⟩ | ⟨h3,h4,rfl⟩;exact .inl rfl;obtain ⟨T,c0,h5,h6⟩:=bin id h4;rw [ho] at h5;cases h5;exact .inr (.inr ⟨h4,T,c0,c0,rfl,h6⟩);rcases Zcdt o1 with h5 | h5;refine .inr (.inl ⟨h5,.inr ⟨o1,h1,⟨true,rfl⟩,h3⟩,?_⟩);rw [hbl];exact (Zge.sim ⟨true,rfl⟩).2 (s1.obj id o1 h1);exact .inl h5
 obtain ⟨hw0,g2,hZ2,hBV2,hh2⟩:=Zcgw (α0:=st.α) (ρ0:=ρ) (L:=L) (base:=base) (idv:=idv') (cs:=cs) s1 (by omega) hro hfix hcs1 (Zje hun) (fun id hid=>by obtain ⟨T,c0,h1,h2⟩:=bin id hid;exact ⟨T,c0,c0,h1,h2⟩) hread huniq f1
 have ext1:Ext base.length g1 H g2 H:=⟨fun b hb=>⟨by rw [hZ2];exact hb,rfl⟩,fun i hi=>(hBV2 i hi).1,fun i hi=>(hBV2 i hi).2⟩
 refine ⟨g1,σ1,Zq src,g2,⟨s1,r1,l1,hbl,bget,srow,bin,Zje hun⟩,⟨hw0,fun ρ'' h1 h2=>?_,ext1,fun _ _ _ _ _=>rfl⟩⟩;exact hh2 ρ'' (fun t ht=>List.map_inj_left.1 h1 t ht) h2
theorem LEnt.head {E:En} {L:PLoop} {st:St} {ρ:Env} {H:Heap} {g g1:Gh} {σ1 base:List AObj} {idv S:List Nat} (e:LEnt E L st ρ H g g1 σ1 base idv S) (y:PTup L.kinds):
  base.length <= (L.head st.α base idv y).σ.length∧∀(id:Nat) (o:AObj),base[id]? =some o->isRo o=true->(L.head st.α base idv y).σ[id]? =some o:=by
 have hl:(setV L.vary idv ((avsY base.length L.kinds y).drop L.tmps.length) base).length=base.length:=Zbmv _ _ _ _;refine ⟨by simp only [PLoop.head,Yb];omega,fun id o ho hr'=>?_⟩
 have hlt:=Zbs ho;simp only [PLoop.head];rw [Yd (by omega),Zbhj _ _ _ _ _ (fun hid=>?_)]
 exact ho;obtain ⟨T',c1,h5,_⟩:=e.bin id hid;rw [ho] at h5;cases h5;simp [isRo] at hr'
theorem LEnt.left {E E0:En} {L:PLoop} {st:St} {ρ:Env} {H:Heap} {g g1:Gh} {σ1 base:List AObj} {idv S:List Nat} (e:LEnt E0 L st ρ H g g1 σ1 base idv S) {y:PTup L.kinds} {ts:List Value} {H1 H2:Heap} {g' g'':Gh} {st':St}
  (v:LInv E L st ρ H g1 base idv y ts H1 g') {α':Nat->AV} (r':Rel ⟨α',(L.head st.α base idv y).σ⟩ H1 g' st' H2 g''):
  Ext base.length g1 H g'' H2∧(∀(id:Nat) (o:AObj),base[id]? =some o->isRo o=true->Has g1 id o->H2 (g1.B id)=H (g1.B id))∧(∀(id:Nat) (o:AObj),base[id]? =some o->isRo o=true->st'.σ[id]? =some o)∧
   Rel st H g ⟨st'.α,unmark st.σ st'.σ⟩ H2 g'':=by
 obtain ⟨hhl,hhg⟩:=e.head y;have hext:=v.ext;have hext2:Ext base.length g1 H g'' H2:=by refine hext.trans (Yh _) ?_;have e2:=r'.ext;exact ⟨e2.z,fun i hi=>e2.b i (by simp only;omega),fun i hi=>e2.v i (by simp only;omega)⟩
 have hrok2: ∀(id:Nat) (o:AObj),base[id]? =some o->isRo o=true->Has g1 id o->H2 (g1.B id)=H (g1.B id):=fun id o ho hr' hh=>by have hlt:=Zbs ho;obtain ⟨_,h5⟩:=r'.ro id o (hhg id o ho hr') hr';have h6:=h5 ((Has.ext hext hlt).2 hh);rw [hext.b id hlt] at h6;rw [h6];exact v.rok id o ho hr' hh
 have hsame: ∀(id:Nat) (o:AObj),base[id]? =some o->isRo o=true->st'.σ[id]? =some o:=fun id o ho hr'=>(r'.ro id o (hhg id o ho hr') hr').1;refine ⟨hext2,hrok2,hsame,?_,?_,fun id o ho hr'=>?_⟩;simp only [Zso];have h1:=r'.len;have h2:=e.len;have h3:=e.len1;simp only at h1;omega
 ·have h2:=e.len;have h3:=e.len1;refine Ext.trans (N':=base.length) (by omega) e.rel.ext ?_
  exact ⟨hext2.z,hext2.b,hext2.v⟩
 ·have h3:=(e.rel.ro id o ho hr').1;have h3':σ1[id]? =some o:=h3;have hlt:id<base.length:=by rw [e.len];exact Zbs h3'
  obtain ⟨o1,h4,h5⟩:=e.get id _ (Yc hlt);rw [h3'] at h4;cases h4;have hbo:base[id]? =some o:=by rw [Yc hlt];rcases h5 with ⟨h6,_⟩ | ⟨_,_,h6⟩ | ⟨_,_,h6⟩;obtain ⟨T,ks,xs,h7⟩:=e.srow h6;rw [h3'] at h7;cases h7;simp [isRo] at hr';rw [h6];rw [h6];cases o<;>simp only [isRo] at hr'<;>simp [Zdn,hr']
  have h6:=hsame id o hbo hr';refine ⟨by rw [Zbrh _ _ _ _ _ ho h6,Zchh],fun hh=>?_⟩
  have hb1:g1.B id=g.B id:=e.rel.ext.b id (Zbs ho);have hh1:Has g1 id o:=(Has.ext e.rel.ext (Zbs ho)).2 hh;have:=hrok2 id o hbo hr' hh1;rw [hb1] at this;exact this
theorem LEnt.back {E E' E0:En} {L:PLoop} {st:St} {ρ:Env} {H:Heap} {g g1:Gh} {σ1 base:List AObj} {idv S:List Nat} (e:LEnt E0 L st ρ H g g1 σ1 base idv S) {y:PTup L.kinds} {ts:List Value} {H1 H2:Heap} {g' g'':Gh} {st':St} {ρ':Env}
  (v:LInv E L st ρ H g1 base idv y ts H1 g') {α':Nat->AV} (r':Rel ⟨α',(L.head st.α base idv y).σ⟩ H1 g' st' H2 g'') (s':Sim E' st' ρ' H2 g'') {y':PTup L.kinds} (hback:Zvk L base idv st'=some y'):
  ∃g4,LInv E' L st ρ H g1 base idv y' (L.tmps.map ρ') H2 g4:=by
 obtain ⟨hhl,_⟩:=e.head y;obtain ⟨hext2,hrok2,hsame,_⟩:=e.left v r';unfold Zvk at hback;split at hback
 case h_2=>cases hback
 rename_i cs' hsT hcs';split at hback
 case h_2=>cases hback
 rename_i σ2 hfr2;split at hback
 case h_2=>cases hback
 rename_i y2 src2 hread2;split at hback
 case h_2=>cases hback
 rename_i huniq2;simp only [Option.some.injEq] at hback;subst hback;obtain ⟨g3,s3,r3,l3,f3,_⟩:=Zuv L.kinds _ st'.σ σ2 g'' s' hfr2;have hl':=r'.len;simp only at hl';have hext3:Ext base.length g1 H g3 H2:=by refine hext2.trans (Yh _) ?_;have e2:=r3.ext;exact ⟨e2.z,fun i hi=>e2.b i (by simp only;omega),fun i hi=>e2.v i (by simp only;omega)⟩
 have hcs2:Zdr σ2 L.vary idv=some cs':=Zbqx (fun id T cs ho=>Zhg _ _ _ _ hfr2 ho) hcs';have vT: ∀(ids:List Nat),Zbbu base st'.σ ids=true->∀id∈ids,∃T c0 c1 r r',base[id]? =some (.obj T r c0)∧st'.σ[id]? =some (.obj T r' c1):=by
  intro ids;induction ids with
  | nil=>intro _ id h;simp at h
  | cons i ids ih=>
   intro h id hid;simp only [Zbbu] at h;split at h;rename_i T r c T' r' c' h1 h2;simp only [Ya] at h;rcases Yj.1 hid with rfl | hid;have:=Ye h.1;subst this;exact ⟨_,_,_,_,_,h1,h2⟩;exact ih h.2 id hid;cases h
 have vobj2: ∀id∈idv,∃T c0 c1,base[id]? =some (.obj T false c0)∧σ2[id]? =some (.obj T false c1):=fun id hid=>by obtain ⟨T,c0,c1,q,q',h1,h2⟩:=vT idv hsT id hid;obtain ⟨T',c2,h3,_⟩:=e.bin id hid;obtain ⟨T2,c3,h4⟩:=Zbpl hcs' id hid;rw [h1] at h3;cases h3;rw [h2] at h4;cases h4;exact ⟨_,_,_,h1,Zhg _ _ _ _ hfr2 h2⟩
 obtain ⟨hw3,g4,hZ4,hBV4,hh4⟩:=Zcgw (α0:=st.α) (ρ0:=ρ) (L:=L) (base:=base) (idv:=idv) (cs:=cs') (st:=st') s3 (by omega)
  (fun id o ho=>by
   obtain ⟨o1,h1,h2⟩:=e.get id o ho;rcases h2 with ⟨_,rfl⟩ | ⟨_,h4,rfl⟩ | ⟨h3,h4,rfl⟩;exact .inl rfl;obtain ⟨T,c0,c1,h5,h6⟩:=vobj2 id h4;rw [ho] at h5;cases h5;exact .inr (.inr ⟨h4,T,c0,c1,rfl,h6⟩)
   ·rcases Zcdt o1 with h5 | h5;refine .inr (.inl ⟨h5,.inl ?_,?_⟩);have h6:=hsame id _ ho h5;exact (r3.ro id _ h6 h5).1;have hlt2:=Zbs ho;refine SimO.ext (N:=base.length) (g:=g1) (H:=H) (Yh _) hext3 hlt2 (fun hh=>hrok2 id _ ho h5 hh) ?_;rw [e.len];exact (Zge.sim ⟨true,rfl⟩).2 (e.sim.obj id o1 h1)
    ·exact .inl h5)
  (fun t ht=>SimV.ext (Yh _) hext3 _ _ (by rw [e.len];exact e.sim.tmp t))
  hcs2 e.un vobj2 hread2 huniq2 f3
 have hx4:Ext base.length g3 H2 g4 H2:=⟨fun b hb=>⟨by rw [hZ4];exact hb,rfl⟩,fun i hi=>(hBV4 i hi).1,fun i hi=>(hBV4 i hi).2⟩
 exact ⟨g4,⟨hw3,fun ρ3 h1 h2=>hh4 ρ3 (fun t ht=>List.map_inj_left.1 h1 t ht) h2,hext3.trans (Yh _) hx4,hrok2⟩⟩
theorem Zbuk {plan:PPlan} {key:Nat} {B:St->Zba->Prop} {BW:Env->Heap->Post->Prop} {nx:Exit->Bool} (hB: ∀{E:En} {st:St} {ρ:Env} {H:Heap} {g:Gh} {Q:Zba},Sim E st ρ H g->B st Q->BW ρ H (Lc E st H g Q))
  (hm: ∀{Q Q':Post},(∀e ρ H,Q e ρ H->Q' e ρ H)->∀ρ H,BW ρ H Q->BW ρ H Q') {E:En} {st:St} {ρ:Env} {H:Heap} {g:Gh} {Q:Zba} (s:Sim E st ρ H g) (h:Znu plan key B nx st Q):Zcx plan.plan key BW nx ρ H (Lc E st H g Q):=by
  unfold Znu at h;split at h
  case h_2=>exact h.elim
  rename_i L hL;split at h
  case h_2=>exact h.elim
  rename_i y0 base idv hfine hin;simp only [PLoop.fine,Ya] at hfine;obtain ⟨hnd,hdisj⟩:=hfine;have hnd:=Zje hnd;have hdisj: ∀f∈L.fixed,f∉L.tmps:=fun f hf hm=>by have:=Yp.1 hdisj f hf;rw [Zcc.2 hm] at this;cases this
  obtain ⟨g1,σ1,S,g2,en,iv⟩:=Zcer s hin;obtain ⟨I,k0,hI0,hround⟩:=h;have hplan:Zgg key plan.plan.loops=some (L.tmps,L.tmps.map (fun _=>Kind.any),L.fixed):=by have:=Zbvx key plan.loops;rw [hL] at this;exact this
  simp only [Zcx,hplan];obtain ⟨x0,hx0,hxe0⟩:=Zbra L.tmps (L.tmps.map ρ) (by simp)
  rw [hx0];refine ⟨fun k x H'=>∃y g',I k y∧LInv E L st ρ H g1 base idv y (enc (L.tmps.map fun _=>Kind.any) x) H' g',k0,?_,?_⟩;exact ⟨y0,g2,hI0,by rw [hxe0];exact iv⟩
  ·rintro k x H1 ⟨y,g',hI,hv⟩ gE;have hr:=hround k y hI hv.wf;have hxl:=Zbxz L.tmps x;have hsl:L.tmps.map (Zhj L.tmps (enc (L.tmps.map fun _=>Kind.any) x) (Zjm L.fixed ρ gE))=enc (L.tmps.map fun _=>Kind.any) x:=Zbpf _ _ _ hnd hxl;have hfx: ∀t∈L.fixed,Zhj L.tmps (enc (L.tmps.map fun _=>Kind.any) x) (Zjm L.fixed ρ gE) t=ρ t:=fun t ht=>by
    rw [Zbkz _ _ _ (by
     cases hb:memB t L.tmps with
     | false=>rfl
     | true=>exact absurd (Zcc.1 hb) (hdisj t ht))]
    exact Zbll _ _ _ (Zcc.2 ht)
   have sh:=hv.sim _ hsl hfx;refine hm (fun e ρ' H2 hk=>?_) _ _ (hB sh hr);obtain ⟨st',g'',s',r',hq⟩:=hk;unfold Zmf at hq;unfold Zcp;cases hnx:nx e with
   | true=>
    simp only [hnx] at hq ⊢;obtain ⟨x',hx',hxe'⟩:=Zbra L.tmps (L.tmps.map ρ') (by simp)
    rw [hx'];split at hq;rename_i y' hback;obtain ⟨k',hlt,hI'⟩:=hq;obtain ⟨g4,hv4⟩:=en.back hv r' s' hback;exact ⟨k',hlt,y',g4,hI',by rw [hxe'];exact hv4⟩
    ·exact hq.elim
   | false=>
    simp only [hnx] at hq ⊢;obtain ⟨_,_,_,r2⟩:=en.left hv r';exact ⟨_,g'',s'.unmark st.σ,r2,hq⟩
theorem Zcil {g:Gh} {H:Heap} {N:Nat}: ∀{ks:List Kd} {x:Tp ks} {vs:List Value},SimL g H N (lvT ks x) vs->WfT ks x
 | [],_,_,_=>by simp only [WfT]
 | k::ks,x,[],h=>by simp only [lvT,SimL] at h
 | k::ks,x,v::vs,h=>by
  simp only [lvT,SimL] at h;simp only [WfT];refine ⟨?_,Zcil h.2⟩;have h1:=h.1;generalize hdT ks x=e at h1;cases k with
  | int k=>simp only [lvE,SimV] at h1;simp only [WfE];exact WfI.of h1.2
  | bool=>simp only [WfE]
  | str=>simp only [lvE,SimV] at h1;simp only [WfE];exact h1.2
  | lst ks'=>simp only [lvE,SimV] at h1;exact Zb.wf (.lst ks') e v h1
theorem Zbwh {g:Gh} {H:Heap} {N:Nat}: ∀{ps:List Pk} {x:PkTs ps} {M:Nat} {vs:List Value},ps.all argK=true->SimL g H N (pksA M ps x) vs->WfPs ps x
 | [],_,_,_,_,_=>trivial
 | p::ps,x,M,[],_,h=>by simp only [pksA,SimL] at h
 | p::ps,x,M,v::vs,ha,h=>by
  simp only [List.all_cons,Ya] at ha;simp only [pksA,SimL] at h;refine ⟨?_,Zbwh ha.2 h.2⟩;have h1:=h.1;have ha1:=ha.1;obtain ⟨e,r⟩:=x;cases p<;>simp only [argK] at ha1<;>first | (cases ha1;done) | skip
  simp only [pkA,SimV] at h1;exact h1.2;trivial;simp only [pkA,SimV] at h1;exact h1.2;simp only [pkA,SimV] at h1;exact Zb.wf (.lst _) e v h1;simp only [pkA,SimV] at h1;obtain ⟨ws,_,h2⟩:=h1;exact Zcil h2
theorem Sim.laidNo {E:En} {st:St} {ρ:Env} {H:Heap} {g:Gh} (s:Sim E st ρ H g): ∀b,Laid.blocks b=true->¬Zbc g st.σ b:=(s.layE (Z:=g.Z)).own
theorem Sim.ownLive {E:En} {st:St} {ρ:Env} {H:Heap} {g:Gh} (s:Sim E st ρ H g) {b:Nat} (h:Zbc g st.σ b):(∃c T,H b=some (.cells c T (0,0)))∧¬g.Z b:=by obtain ⟨i,o,h1,h2,rfl⟩:=h;exact ⟨s.live h1 h2,s.nz i o h1 h2⟩
theorem Sim.ownE {E:En} {st:St} {ρ:Env} {H:Heap} {g:Gh} (s:Sim E st ρ H g) {b:Nat} (h:Zbc g st.σ b):E.O0 b∨E.H0 b=none:=by obtain ⟨i,o,h1,h2,rfl⟩:=h;exact s.own i o h1 h2
theorem Zwp {g:Gh} {old σ:List AObj} {b:Nat} (h:Zbc g (unmark old σ) b):Zbc g σ b:=by obtain ⟨i,o,hi,hh,e⟩:=h;obtain ⟨o1,h1,h2⟩:=Zbqt old σ i o hi;exact ⟨i,o1,h1,h2.has.1 hh,e⟩
theorem Zcjk {r:Loop} (h1:r.state= .ready) (h2:r.pending=none):({ ({ r with state:= .busy }:Loop) with state:= .ready,pending:=none }:Loop)=r:=by cases r;simp only at h1 h2;subst h1 h2;rfl
theorem LInv.other {E E0:En} {L:PLoop} {st:St} {ρ:Env} {H:Heap} {g g1:Gh} {σ1 base:List AObj} {idv S:List Nat} (en:LEnt E0 L st ρ H g g1 σ1 base idv S) {y:PTup L.kinds} {ts:List Value} {H1 H2:Heap} {g':Gh}
  (v:LInv E L st ρ H g1 base idv y ts H1 g') (hz: ∀b,g'.Z b->H2 b=H1 b) (ho: ∀(i:Nat) (o:AObj),(L.head st.α base idv y).σ[i]? =some o->Has g' i o->H2 (g'.B i)=H1 (g'.B i)) (hk:Keep E.O0 E.H0 H2):LInv E L st ρ H g1 base idv y ts H2 g':=by
 refine ⟨v.wf,fun ρ'' h1 h2=>((v.sim ρ'' h1 h2).other hz ho hk).1,v.ext.trans (Yh _) ⟨fun b hb=>⟨hb,hz b hb⟩,fun _ _=>rfl,fun _ _=>rfl⟩,fun id o h1 h2 h3=>?_⟩;rw [← v.rok id o h1 h2 h3];have hlt:=Zbs h1;have:=ho id o ((en.head y).2 id o h1 h2) ((Has.ext v.ext hlt).2 h3);rwa [v.ext.b id hlt] at this
theorem Zdjz {P:Program} {plan:PPlan} {key:Nat} {A B:St->Zba->Prop} {AW BW:Env->Heap->Post->Prop}
  (hA: ∀{E:En} {st:St} {ρ:Env} {H:Heap} {g:Gh} {Q:Zba},Sim E st ρ H g->A st Q->AW ρ H (Lc E st H g Q)) (hB: ∀{E:En} {st:St} {ρ:Env} {H:Heap} {g:Gh} {Q:Zba},Sim E st ρ H g->B st Q->BW ρ H (Lc E st H g Q))
  (mA: ∀{Q Q':Post},(∀e ρ H,Q e ρ H->Q' e ρ H)->∀ρ H,AW ρ H Q->AW ρ H Q') (mB: ∀{Q Q':Post},(∀e ρ H,Q e ρ H->Q' e ρ H)->∀ρ H,BW ρ H Q->BW ρ H Q')
  {f:FuncId} {I:It} (hI:ItOk P f I) {E:En} {st:St} {ρ:Env} {H:Heap} {g:Gh} {Q:Zba} (s:Sim E st ρ H g) {caps:List AV} {vs:List Value} (hc:SimL g H st.σ.length caps vs) {c:PTup I.kc} {σ1:List AObj}
  (hin:itIn I.kc st caps=some (c,σ1)) (hpre:I.pre c) {ps:Array Tmp} (h:Zbjl plan key A B ps.toList I (I.xs c) ⟨st.α,σ1⟩ Q) {d l:Nat} {rec:Loop} (hd:H d=none) (hl:H l=none) (hne:l≠d)
  (hst:rec.state= .ready) (hpe:rec.pending=none) (hps:rec.params=ps) {assign body:Code} (hra:rec.assign=assign) (hrb:rec.body=body)
  (hrnd: ∀(ws:List Value) (H1:Heap) (K:Value->Heap->Prop),ws.length=ps.size->Zsd l AW BW (Zgr ps.toList ws ρ) H1 K->RndW P l rec.fn (Ziu ps.toList ws rec.tmps) assign body H1 K):
  FnW P f (#[.func (.yield l) #[] #[]]++⟨vs⟩) ((H.upd d (.deferred (some []))).upd l (.loop rec)) fun _ H'=>EndC l ρ H' (Lc E st H g Q):=by
 obtain ⟨gc,bs,us,sc,rc,rfl,hbn,hbl,hw,hbv,hus,hbp⟩:=Zdkd s hc hin;unfold Zbjl at h;split at h
 case h_2=>exact h.elim
 rename_i L hL;split at h
 case h_2=>exact h.elim
 rename_i y0 base idv hck hlp;simp only [Ya] at hck;obtain ⟨⟨hns,hak⟩,hpl⟩:=hck;have hpl:=Ye hpl;have hts:L.tmps= []:=by unfold Zbvt at hns;split at hns;rename_i hs;simp [PLoop.tmps,hs];cases hns
 have hmap: ∀ρ:Env,L.tmps.map ρ= []:=fun ρ=>by rw [hts];rfl
 obtain ⟨g1,σe,S,g2,en,iv0⟩:=Zcer sc.enter hlp;rw [hmap] at iv0;have sI:=iv0.sim ρ (hmap ρ) (fun _ _=>rfl);have iv:LInv E L ⟨st.α,σ1⟩ ρ H g1 base idv y0 [] H g2:=⟨iv0.wf,fun ρ'' h1 h2=>sc.unbase (iv0.sim ρ'' h1 h2) (fun b hb=>sc.ownE hb) (fun _ _=>rfl),iv0.ext,iv0.rok⟩;simp only at h;generalize hfin:(fun y=>WfY L.kinds y->Q .normal ⟨(L.head st.α base idv y).α,unmark σ1 (L.head st.α base idv y).σ⟩)=fin at h;generalize hbody:(fun (y:PTup L.kinds) (x:PkTs I.ps) (next:PTup L.kinds->Prop)=>WfY L.kinds y->WfPs I.ps x->A ⟨Zhv ps.toList (pksA 0 I.ps x) (L.head st.α base idv y).α,(L.head st.α base idv y).σ⟩ (Zfs (fun st1=>B st1
      (Zfs (fun st2=>match Zvk L base idv st2 with | some y'=>next y' | none=>False) (Zmg Q fun st2=>⟨(L.head st.α base idv y).α,unmark σ1 st2.σ⟩)))
     fun _ _=>False))=bodyf at h
 have hEl:E.H0 l=none:=s.keep.free hl;have hHs: ∀b,H b≠none->((H.upd d (.deferred (some []))).upd l (.loop rec)) b=H b:=fun b hb=>by rw [upd_ne (fun e=>hb (by rw [e];exact hl)),upd_ne (fun e=>hb (by rw [e];exact hd))]
 have hHl:((H.upd d (.deferred (some []))).upd l (.loop rec)) l=some (.loop rec):=upd_eq;generalize hHe:(H.upd d (.deferred (some []))).upd l (.loop rec)=Hs at hHs hHl ⊢;have hkeep:Keep E.O0 E.H0 Hs:=by rw [← hHe];exact (s.keep.new hd).upd (.inr hEl)
 have hlay: ∀b,Laid.blocks b=true->b≠l:=fun b hb e=>s.lay.live b hb (by rw [e];exact hEl)
 have hsim0: ∀{y:PTup L.kinds} {Hc:Heap} {g':Gh},LInv E L ⟨st.α,σ1⟩ ρ H g1 base idv y [] Hc g'->Sim E (L.head st.α base idv y) ρ Hc g':=fun hv=>hv.sim ρ (hmap ρ) (fun _ _=>rfl);have hagree: ∀{st':St} {Hc H2:Heap} {g':Gh},Sim E st' ρ Hc g'->(∀b,Hc b≠none->g'.Z b∨(b=l∨Zbc g' st'.σ b)∨(Hs b≠none∧b∉bs)->H2 b=Hc b)->(∀b,Hc b≠none->H2 b≠none)->
   (∀b,g'.Z b->H2 b=Hc b)∧(∀(i:Nat) (o:AObj),st'.σ[i]? =some o->Has g' i o->H2 (g'.B i)=Hc (g'.B i))∧Keep E.O0 E.H0 H2:=fun {st' Hc H2 g'} s' hag hlv=>by
  refine ⟨fun b hb=>hag b (s'.zlive b hb) (.inl hb),fun i o hi hh=>hag _ (by obtain ⟨c,T,h⟩:=s'.live hi hh;rw [h];simp) (.inr (.inl (.inr ⟨i,o,hi,hh,rfl⟩))),fun b hb h0=>?_,fun b h0=>hlv b (s'.keep.live b h0)⟩
  rw [← s'.keep.same b hb h0];refine hag b (s'.keep.live b h0) (.inr (.inr ⟨by rw [hHs b (s.keep.live b h0)];exact s.keep.live b h0,fun hbb=>?_⟩))
  rcases (hbp b hbb).2.2.1 with h | h;exact hb h;exact h0 h
 let C:Cons P l I.ps Hs bs:={
  J:=fun Z W r Hc=>∃(g':Gh) (y:PTup L.kinds),Z=g'.Z∧W=(fun b=>b=l∨Zbc g' (L.head st.α base idv y).σ b)∧Zdv fin bodyf r y∧LInv E L ⟨st.α,σ1⟩ ρ H g1 base idv y [] Hc g'∧Hc l=some (.loop rec)∧¬g'.Z l∧¬Zbc g' (L.head st.α base idv y).σ l
  X:=fun Z W Hc=>∃(e:Exit) (code:Code) (st':St) (g':Gh),Z=g'.Z∧W=(fun b=>b=l∨Zbc g' st'.σ b)∧Zfq e=some (some code)∧(∃r:Loop,Hc l=some (.loop r)∧r.state≠ .busy∧r.pending=some code)∧Sim E st' ρ Hc g'∧Rel ⟨st.α,σ1⟩ H gc st' Hc g'∧Q e st'∧¬g'.Z l∧¬Zbc g' st'.σ l
  stJ:=fun {Z W r Hc H2} hJ hag hlv=>by obtain ⟨g',y,rfl,rfl,hE,hv,hHl1,hzl,hol⟩:=hJ;obtain ⟨h1,h2,h3⟩:=hagree (hsim0 hv) hag hlv;exact ⟨g',y,rfl,rfl,hE,hv.other en h1 h2 h3,by rw [hag l (by rw [hHl1];simp) (.inr (.inl (.inl rfl)))];exact hHl1,hzl,hol⟩
  stX:=fun {Z W Hc H2} hX hag hlv=>by obtain ⟨e,code,st',g',rfl,rfl,hj,⟨r,hr1,hr2,hr3⟩,s',r',hq,hzl,hol⟩:=hX;obtain ⟨h1,h2,h3⟩:=hagree s' hag hlv;obtain ⟨s2,r2⟩:=s'.other h1 h2 h3;exact ⟨e,code,st',g',rfl,rfl,hj,⟨r,by rw [hag l (by rw [hr1];simp) (.inr (.inl (.inl rfl)))];exact hr1,hr2,hr3⟩,s2,r'.trans r2,hq,hzl,hol⟩
  ndJ:=fun {Z W r Hc} hJ b hb=>by
   obtain ⟨g',y,rfl,rfl,hE,hv,hHl1,hzl,hol⟩:=hJ;have s0:=hsim0 hv;rcases hb with hb | rfl | hb
   ·rcases s0.zc b hb with h | h;exact .inl (by have:=s.zlive b (s.zsub b h);rw [hHs b this];exact this)
    exact .inr h
   ·exact .inr fun ds e=>by rw [hHl1] at e;cases e
   ·obtain ⟨⟨cc,T,h⟩,_⟩:=s0.ownLive hb;exact .inr fun ds e=>by rw [h] at e;cases e
  ndX:=fun {Z W Hc} hX b hb=>by
   obtain ⟨e,code,st',g',rfl,rfl,hj,⟨r,hr1,hr2,hr3⟩,s',r',hq,hzl,hol⟩:=hX;rcases hb with hb | rfl | hb
   ·rcases s'.zc b hb with h | h;exact .inl (by have:=s.zlive b (s.zsub b h);rw [hHs b this];exact this)
    exact .inr h
   ·exact .inr fun ds e=>by rw [hr1] at e;cases e
   ·obtain ⟨⟨cc,T,h⟩,_⟩:=s'.ownLive hb;exact .inr fun ds e=>by rw [h] at e;cases e
  round:=fun {Z W Zx x r H1 ws} hJ hx hZx=>by
   obtain ⟨g',y,rfl,rfl,hE,hv,hHl1,hzl,hol⟩:=hJ;have s0:=hsim0 hv;have hax:=Zbwh hak hx;have hwl:ws.length=ps.size:=by have:=SimL.len hx;rw [Zgy] at this;rw [← this,← hpl];simp
   let gx:Gh:=⟨fun b=>g'.Z b∨Zx b,g'.B,g'.V⟩
   have extx: ∀N,Ext N g' H1 gx H1:=fun N=>⟨fun b h=>⟨.inl h,rfl⟩,fun _ _=>rfl,fun _ _=>rfl⟩;have nW: ∀b,Zbc g' (L.head st.α base idv y).σ b->¬Zx b:=fun b hb hz=>by rcases hZx b hz with h | ⟨h,_⟩;exact (s0.ownLive hb).2 h;exact h (.inr hb)
   have sx:Sim E (L.head st.α base idv y) ρ H1 gx:=by
    refine ⟨fun t=>SimV.ext (Yh _) (extx _) _ _ (s0.tmp t),fun i o hi=>SimO.ext (Yh _) (extx _) (Zbs hi) (fun _=>rfl) (s0.obj i o hi),fun i o hi hh hz=>?_,s0.dis,s0.own,s0.keep,fun b hb=> .inl (s0.zsub b hb),fun b hb=>?_,fun b hb=>?_,s0.lay,fun b hb=>?_⟩;rcases hz with hz | hz;exact s0.nz i o hi hh hz;exact nW _ ⟨i,o,hi,hh,rfl⟩ hz;rcases hb with hb | hb;exact s0.znew b hb;rcases hZx b hb with h | ⟨_,_,h⟩;exact s0.znew b h;rcases h with h | h;rcases (hbp b h).2.2.1 with h | h;exact .inr (.inr h);exact .inr (.inl h);exact .inr (.inl (hkeep.free h));rcases hb with hb | hb;exact s0.zlive b hb;rcases hZx b hb with h | ⟨_,⟨cs,T,q,h⟩,_⟩;exact s0.zlive b h;rw [h];simp
    ·rcases hb with hb | hb;exact s0.zc b hb
     ·rcases hZx b hb with h | ⟨_,⟨cs,T,q,h⟩,_⟩;exact s0.zc b h
      ·exact .inr fun ds e=>by rw [h] at e;cases e
   have simx:SimL gx H1 (L.head st.α base idv y).σ.length (pksA 0 I.ps x) ws:=SimL.ext (YI _) ⟨fun b hb=>⟨Or.inr hb,rfl⟩,fun _ h=>absurd h (by omega),fun _ h=>absurd h (by omega)⟩ _ _ hx
   have sb:Sim E ⟨Zhv ps.toList (pksA 0 I.ps x) (L.head st.α base idv y).α,(L.head st.α base idv y).σ⟩ (Zgr ps.toList ws ρ) H1 gx:=Zccl _ _ _ sx simx;have hzx: ¬gx.Z l:=fun hz=>by rcases hz with h | h;exact hzl h;rcases hZx l h with h | ⟨h,_⟩;exact hzl h;exact h (.inl rfl)
   have hl1:H1 l≠none:=by rw [hHl1];simp
   let W:Nat->Prop:=fun b=>b=l∨Zbc g' (L.head st.α base idv y).σ b
   have hWE: ∀b,W b->E.O0 b∨E.H0 b=none:=fun b hb=>by rcases hb with rfl | hb;exact .inr hEl;exact s0.ownE hb
   have sS:Sim ⟨H1,W,gx.Z⟩ ⟨Zhv ps.toList (pksA 0 I.ps x) (L.head st.α base idv y).α,(L.head st.α base idv y).σ⟩ (Zgr ps.toList ws ρ) H1 gx:=sb.rebase (fun i o hi hh=> .inr ⟨i,o,hi,hh,rfl⟩) fun b hb hw=>by rcases hw with rfl | hw;exact hlay _ hb rfl;exact s0.laidNo b hb hw
   have sA:=sb.enter;rw [← hbody] at hE;refine ⟨rec,hHl1,hst,by rw [hps];exact hwl,?_⟩
   rw [hps,hra,hrb];refine hrnd ws H1 _ hwl ?_;unfold Zsd;have hE1:=hE hv.wf hax;refine mA (fun e ρ1 Ha hk=>?_) _ _ (hA sA hE1);obtain ⟨st1,ga,sa,ra,hq⟩:=hk;cases e<;>simp only [Zfs] at hq<;>first | exact hq.elim | skip
   simp only;have hla:Ha l=H1 l:=sa.keep.same l hol hl1;have sa2:Sim ⟨H1,W,gx.Z⟩ st1 ρ1 Ha ga:=sS.unbase sa (fun b hb=> .inl (.inr hb)) (fun b hb=>(ra.ext.z b hb).2);refine ⟨rec,by rw [hla];exact hHl1,hst,?_⟩
   have hlz: ¬ga.Z l:=fun hz=>by rcases sa.znew l hz with h | h | h;exact hzx h;exact hl1 h;exact hol h
   have hlo: ¬Zbc ga st1.σ l:=fun ho=>by rcases sa.ownE ho with h | h;exact hol h;exact hl1 h
   have hb: ∀b,b≠l->(Ha.upd l (.loop { rec with state:= .busy })) b=Ha b:=fun b hb=>upd_ne hb
   obtain ⟨sb2,rb2⟩:=sa2.other (H':=Ha.upd l (.loop { rec with state:= .busy })) (fun b hz=>hb b (by rintro rfl;exact hlz hz)) (fun i o hi hh=>hb _ (fun e=>hlo ⟨i,o,hi,hh,e.symm⟩)) (sa2.keep.upd (.inl (.inl rfl)))
   have hbl:(Ha.upd l (.loop { rec with state:= .busy })) l=some (.loop { rec with state:= .busy }):=upd_eq
   generalize Ha.upd l (.loop { rec with state:= .busy })=Hb at hb sb2 rb2 hbl ⊢
   have sB:=sb2.enter;refine mB (fun e ρ2 Hc hk=>?_) _ _ (hB sB hq);obtain ⟨st2,gb,sbb,rb,hq2⟩:=hk;have hlb:Hb l≠none:=by rw [hbl];simp
   have hlc:Hc l=some (.loop { rec with state:= .busy }):=by rw [sbb.keep.same l hlo hlb];exact hbl
   have hlz2: ¬gb.Z l:=fun hz=>by rcases sbb.znew l hz with h | h | h;exact hlz h;exact hlb h;exact hlo h
   have hlo2: ¬Zbc gb st2.σ l:=fun ho=>by rcases sbb.ownE ho with h | h;exact hlo h;exact hlb h
   have sc2:Sim ⟨H1,W,gx.Z⟩ st2 ρ2 Hc gb:=sb2.unbase sbb (fun b hb=>sb2.ownE hb) (fun b hb=>(rb.ext.z b hb).2);have hd': ∀o:Obj,Sim ⟨H1,W,gx.Z⟩ st2 ρ2 (Hc.upd l o) gb∧Rel st2 Hc gb st2 (Hc.upd l o) gb:=fun o=>
    sc2.other (fun b hz=>upd_ne (by rintro rfl;exact hlz2 hz)) (fun i o hi hh=>upd_ne (fun e=>hlo2 ⟨i,o,hi,hh,e.symm⟩)) (sc2.keep.upd (.inl (.inl rfl)))
   have rx:Rel ⟨Zhv ps.toList (pksA 0 I.ps x) (L.head st.α base idv y).α,(L.head st.α base idv y).σ⟩ H1 gx st2 Hc gb:=(ra.trans rb2).trans rb;have r0:Rel ⟨st.α,(L.head st.α base idv y).σ⟩ H1 g' ⟨Zhv ps.toList (pksA 0 I.ps x) (L.head st.α base idv y).α,(L.head st.α base idv y).σ⟩ H1 gx:=⟨Yh _,extx _,fun i o hi _=>⟨hi,fun _=>rfl⟩⟩;unfold Zbln;refine ⟨_,hlc,?_⟩;have exits: ∀(e:Exit) (code:Code),Zfq e=some (some code)->Q e ⟨(L.head st.α base idv y).α,unmark σ1 st2.σ⟩->∀(rr:Loop),rr.state≠ .busy->rr.pending=some code->∀Hd,Hd=Hc.upd l (.loop rr)->
     (∀b,H1 b≠none->¬W b->Hd b=H1 b)∧(∀b,H1 b≠none->Hd b≠none)∧∃Z' W':Nat->Prop,(∀b,g'.Z b∨Zx b->Z' b∧Hd b=H1 b)∧(∀b,W' b->W b∨H1 b=none)∧
      (∀b,Z' b->g'.Z b∨Zx b∨W b∨H1 b=none)∧(∀b,Z' b∨W' b->Hd b≠none)∧(∀b,W' b->¬Z' b)∧
      ∃(e:Exit) (code:Code) (st':St) (g':Gh),Z'=g'.Z∧W'=(fun b=>b=l∨Zbc g' st'.σ b)∧Zfq e=some (some code)∧(∃r:Loop,Hd l=some (.loop r)∧r.state≠ .busy∧r.pending=some code)∧Sim E st' ρ Hd g'∧Rel ⟨st.α,σ1⟩ H gc st' Hd g'∧Q e st'∧¬g'.Z l∧¬Zbc g' st'.σ l:=by
    intro e code hj hq rr hr1 hr2 Hd hHd;obtain ⟨sd,rd⟩:=hd' (.loop rr);rw [← hHd] at sd rd;have hdl:Hd l=some (.loop rr):=by rw [hHd];exact upd_eq
    have rr2:=rx.trans rd;have zz: ∀b,gx.Z b->Hd b=H1 b:=fun b hb=>(rr2.ext.z b hb).2;obtain ⟨_,_,_,rl⟩:=en.left hv (r0.trans rr2);have sE:Sim E st2 ρ2 Hd gb:=sx.unbase sd hWE zz;have sU:=sE.unmark σ1;refine ⟨fun b hb hw=>sd.keep.same b hw hb,fun b hb=>sd.keep.live b hb,gb.Z,fun b=>b=l∨Zbc gb (unmark σ1 st2.σ) b,fun b hb=>⟨sd.zsub b hb,zz b hb⟩,fun b hb=>?_,fun b hb=>?_,fun b hb=>?_,fun b hb=>?_,e,code,⟨(L.head st.α base idv y).α,unmark σ1 st2.σ⟩,gb,rfl,rfl,hj,⟨rr,hdl,hr1,hr2⟩,{ sU with tmp:=fun t=>?_ },⟨rl.len,rl.ext,rl.ro⟩,hq,hlz2,fun ho=>hlo2 (Zwp ho)⟩
    rcases hb with rfl | hb;exact .inl (.inl rfl);exact sd.ownE (Zwp hb);rcases sd.znew b hb with h | h | h;rcases h with h | h;exact .inl h;exact .inr (.inl h);exact .inr (.inr (.inr h));exact .inr (.inr (.inl h));rcases hb with hb | rfl | hb;exact sd.zlive b hb;rw [hdl];simp;obtain ⟨⟨cc,T,h⟩,_⟩:=sd.ownLive (Zwp hb);rw [h];simp;rcases hb with rfl | hb;exact hlz2;exact (sd.ownLive (Zwp hb)).2;simp only [Zso];exact SimV.ext rr2.len rr2.ext _ _ (sx.tmp t)
   cases e with
   | normal=>
    simp only [Zfs] at hq2;split at hq2
    case h_2=>exact hq2.elim
    rename_i y' hback;simp only [Zfq,Option.isNone,if_true];rw [Zcjk hst hpe];obtain ⟨sd,rd⟩:=hd' (.loop rec);have hdl:(Hc.upd l (.loop rec)) l=some (.loop rec):=upd_eq;generalize Hc.upd l (.loop rec)=Hd at sd rd hdl ⊢;have rr2:=rx.trans rd;have zz: ∀b,gx.Z b->Hd b=H1 b:=fun b hb=>(rr2.ext.z b hb).2;have hld:Hd l≠none:=by rw [hdl];simp
    obtain ⟨g4,v4⟩:=en.back hv (r0.trans rr2) sd.enter hback;rw [hmap] at v4;have s4':=v4.sim ρ (hmap ρ) (fun _ _=>rfl);have z4: ∀b,gb.Z b->g4.Z b∧Hd b=Hd b:=fun b hb=>⟨s4'.zsub b hb,rfl⟩;have s4:=sd.unbase s4' (fun b hb=>sd.ownE hb) (fun _ _=>rfl);have hlz4: ¬g4.Z l:=fun hz=>by rcases s4'.znew l hz with h | h | h;exact hlz2 h;exact hld h;exact hlo2 h
    have hlo4: ¬Zbc g4 (L.head st.α base idv y').σ l:=fun ho=>by rcases s4'.ownE ho with h | h;exact hlo2 h;exact hld h
    refine ⟨fun b hb hw=>s4.keep.same b hw hb,fun b hb=>s4.keep.live b hb,g4.Z,fun b=>b=l∨Zbc g4 (L.head st.α base idv y').σ b,fun b hb=>⟨s4.zsub b hb,zz b hb⟩,fun b hb=>?_,fun b hb=>?_,fun b hb=>?_,fun b hb=>?_,.inl ⟨by simp,g4,y',rfl,rfl,?_,⟨v4.wf,fun ρ'' h1 h2=>?_,v4.ext,v4.rok⟩,hdl,hlz4,hlo4⟩⟩
    rcases hb with rfl | hb;exact .inl (.inl rfl);exact s4.ownE hb;rcases s4.znew b hb with h | h | h;rcases h with h | h;exact .inl h;exact .inr (.inl h);exact .inr (.inr (.inr h));exact .inr (.inr (.inl h));rcases hb with hb | rfl | hb;exact s4.zlive b hb;rw [hdl];simp;obtain ⟨⟨cc,T,h⟩,_⟩:=s4.ownLive hb;rw [h];simp;rcases hb with rfl | hb;exact hlz4;exact (s4.ownLive hb).2;rw [← hbody];exact hq2
    ·exact sx.unbase (sd.unbase (v4.sim ρ'' h1 h2) (fun b hb=>sd.ownE hb) (fun _ _=>rfl)) hWE zz
   | ret=>
    simp only [Zfs,Zmg] at hq2;simp only [Zfq,Option.isNone];obtain ⟨k1,k2,Z',W',k3,k4,k5,k6,k7,k8⟩:=exits .ret .ret rfl hq2 { ({ rec with state:= .busy }:Loop) with state:= .done,pending:=some .ret } (by simp) rfl _ rfl
    exact ⟨k1,k2,Z',W',k3,k4,k5,k6,k7,.inr ⟨by simp,k8⟩⟩
   | exit i=>
    simp only [Zfs,Zmg] at hq2;simp only [Zfq,Option.isNone];obtain ⟨k1,k2,Z',W',k3,k4,k5,k6,k7,k8⟩:=exits (.exit i) (.exit i) rfl hq2 { ({ rec with state:= .busy }:Loop) with state:= .done,pending:=some (.exit i) } (by simp) rfl _ rfl
    exact ⟨k1,k2,Z',W',k3,k4,k5,k6,k7,.inr ⟨by simp,k8⟩⟩
   | goto t=>
    simp only [Zfs,Zmg] at hq2;simp only [Zfq,Option.isNone];obtain ⟨k1,k2,Z',W',k3,k4,k5,k6,k7,k8⟩:=exits (.goto t) (.goto t) rfl hq2 { ({ rec with state:= .busy }:Loop) with state:= .done,pending:=some (.goto t) } (by simp) rfl _ rfl
    exact ⟨k1,k2,Z',W',k3,k4,k5,k6,k7,.inr ⟨by simp,k8⟩⟩
   | panic ch=>simp only [Zfs,Zmg] at hq2
   | outgrown=>simp only [Zfs,Zmg] at hq2 }
 have s2:=hsim0 iv;have live2: ∀{b:Nat},Zbc g2 (L.head st.α base idv y0).σ b->H b≠none:=fun ho=>by obtain ⟨⟨cc,T,h⟩,_⟩:=s2.ownLive ho;rw [h];simp
 have hol2: ¬Zbc g2 (L.head st.α base idv y0).σ l:=fun ho=>live2 ho hl;have hzl2: ¬g2.Z l:=fun hz=>s2.zlive l hz hl;have ivs:LInv E L ⟨st.α,σ1⟩ ρ H g1 base idv y0 [] Hs g2:=iv.other en (fun b hb=>hHs b (s2.zlive b hb)) (fun i o hi hh=>hHs _ (live2 ⟨i,o,hi,hh,rfl⟩)) hkeep;have zc2: ∀b∈bs,¬g2.Z b∧¬Zbc g2 (L.head st.α base idv y0).σ b:=fun b hb=>by have no: ¬Zbc gc σ1 b:=fun ⟨i,o,h1,h2,h3⟩=>(hbp b hb).2.2.2.2 i o h1 h2 h3.symm;refine ⟨fun hz=>?_,fun ho=>?_⟩;rcases sI.znew b hz with h | h | h;exact (hbp b hb).2.1 h;exact (hbp b hb).1 h;exact no h;rcases sI.ownE ho with h | h;exact no h;exact (hbp b hb).1 h
 have hzz: ∀b,gc.Z b->g2.Z b:=fun b hb=>sI.zsub b hb;have run:=hI Hs g2.Z (fun b=>b=l∨Zbc g2 (L.head st.α base idv y0).σ b) bs us c l C hpre hbn hbl (fun i b v h1 h2=>by
   obtain ⟨T,hT⟩:=hbv i b v h1 h2;exact ⟨T,by rw [hHs b (by rw [hT];simp)];exact hT⟩)
  (SimL.ext (g:=⟨gc.Z,fun _=>0,fun _=> .nilFunc⟩) (g':=⟨g2.Z,fun _=>0,fun _=> .nilFunc⟩) (N:=0) (Yh _) ⟨fun b hb=>⟨hzz b hb,hHs b (sc.zlive b hb)⟩,fun _ h=>absurd h (by omega),fun _ h=>absurd h (by omega)⟩ _ _ hus) hw (fun b hb=>by rw [hHs b (s2.zlive b hb)];exact s2.zlive b hb)
  (fun b hb=>⟨(zc2 b hb).1,fun hw=>by
   rcases hw with rfl | hw;exact (hbp b hb).1 hl
   ·exact (zc2 b hb).2 hw⟩)
  (fun b hb=>by
   rcases hb with rfl | hb;exact ⟨by rw [hHl];simp,hzl2⟩
   ·exact ⟨by rw [hHs b (live2 hb)];exact live2 hb,(s2.ownLive hb).2⟩)
  (fun b hb=>by
   have hbl:H b≠none:=by rw [s.layH.1 b hb];exact s.lay.live b hb
   refine ⟨by rw [hHs b hbl];exact hbl,fun hbb=>(by have:=(hbp b hbb).2.2.2.1;rw [hb] at this;cases this),fun hw=>?_⟩
   rcases hw with rfl | hw;exact hlay _ hb rfl
   ·exact s2.laidNo b hb hw)
  (by
   have:layH Hs=layH E.H0:=by
    rw [← s.layH.2];funext b;unfold Sh.layH;split;rename_i hb;exact hHs b (by rw [s.layH.1 b hb];exact s.lay.live b hb)
    rfl
   rw [this];exact s.lay.ok)
  ⟨g2,y0,rfl,rfl,h,ivs,hHl,hzl2,hol2⟩
 have e:(#[.func (.yield l) #[] #[]]++(⟨bs.map Zdg⟩:Array Value))=⟨.func (.yield l) #[] #[]::bs.map Zdg⟩:=by simp
 rw [e];refine run.mono fun _ H' hk=>?_;obtain ⟨Z',W',hk⟩:=hk;rcases hk with ⟨g',y,rfl,rfl,hE,hv,hHl1,hzl,hol⟩ | ⟨e,code,st',g',rfl,rfl,hj,⟨r,hr1,hr2,hr3⟩,s',r',hq,hzl,hol⟩
 ·have s0:=hsim0 hv;refine ⟨rec,hHl1,by rw [hst];simp,?_⟩
  rw [hpe];have hE':fin y:=hE;rw [← hfin] at hE';have fin': ∀o:Obj,Lc E st H g Q .normal ρ (H'.upd l o):=fun o=>by
   obtain ⟨s3,r3⟩:=s0.other (H':=H'.upd l o) (fun b hz=>upd_ne (by rintro rfl;exact hzl hz)) (fun i o hi hh=>upd_ne (fun e=>hol ⟨i,o,hi,hh,e.symm⟩)) (s0.keep.upd (.inr hEl))
   obtain ⟨_,_,_,rl⟩:=en.left hv (α':=(L.head st.α base idv y).α) r3;exact ⟨_,g',s3.unmark σ1,rc.trans rl,hE' hv.wf⟩
  exact fin' _
 ·have fin': ∀o:Obj,Lc E st H g Q e ρ (H'.upd l o):=fun o=>by
   obtain ⟨s3,r3⟩:=s'.other (H':=H'.upd l o) (fun b hz=>upd_ne (by rintro rfl;exact hzl hz)) (fun i o hi hh=>upd_ne (fun e=>hol ⟨i,o,hi,hh,e.symm⟩)) (s'.keep.upd (.inr hEl))
   exact ⟨st',g',s3,(rc.trans r').trans r3,hq⟩
  refine ⟨r,hr1,hr2,?_⟩;rw [hr3];cases e<;>simp only [Zfq,Option.some.injEq] at hj<;>first | (cases hj;done) | (subst hj;exact fin' _)
theorem Zbzc {F:Nat->St->Zba->Prop} {L:Nat->Bool} {n:Nat} {Q:Zba} {e:Exit} {st:St} (h: ∀l,e≠ .goto l):Zfj F L n Q e st=Q e st:=by
 cases n<;>cases e<;>first | rfl | exact absurd rfl (h _)
theorem Zcbl {F:Nat->St->Zba->Prop} {L:Nat->Bool} {n l:Nat} {Q:Zba} {st:St} (h:L l=false):Zfj F L n Q (.goto l) st=Q (.goto l) st:=by cases n<;>simp [Zfj,h]
theorem Zddk {F:Nat->St->Zba->Prop} {L:Nat->Bool} {n l:Nat} {Q:Zba} {st:St} (h:L l=true):Zfj F L (n+1) Q (.goto l) st=F l st (Zfj F L n Q):=by simp [Zfj,h]
theorem Zdlz {F:Nat->St->Zba->Prop} {L:Nat->Bool} {l:Nat} {Q:Zba} {st:St} (h:L l=true):Zfj F L 0 Q (.goto l) st=False:=by simp [Zfj,h]
theorem Zbrj {F:Nat->St->Zba->Prop} {FW:Nat->Env->Heap->Post->Prop} {L:Nat->Bool} (hF: ∀(l:Nat) {E:En} {st:St} {ρ:Env} {H:Heap} {g:Gh} {Q:Zba},Sim E st ρ H g->F l st Q->FW l ρ H (Lc E st H g Q))
  (hm: ∀(l:Nat) {Q Q':Post},(∀e ρ H,Q e ρ H->Q' e ρ H)->∀ρ H,FW l ρ H Q->FW l ρ H Q') {E:En} {st0:St} {H0:Heap} {g0:Gh} {Q:Zba} {QW:Post} (hQ: ∀(e:Exit) {st:St} {ρ:Env} {H:Heap} {g:Gh},Sim E st ρ H g->Rel st0 H0 g0 st H g->Q e st->QW e ρ H):
  ∀(n:Nat) (e:Exit) {st:St} {ρ:Env} {H:Heap} {g:Gh},Sim E st ρ H g->Rel st0 H0 g0 st H g->Zfj F L n Q e st->Zbi FW L n QW e ρ H:=by
 intro n;induction n with
 | zero=>
  intro e st ρ H g s r h;rcases Zjs e with ⟨l,rfl⟩ | he
  ·cases hl:L l with
   | true=>rw [Zdlz hl] at h;exact h.elim
   | false=>rw [Zcbl hl] at h;rw [Zjv hl];exact hQ _ s r h
  ·rw [Zbzc he] at h;rw [Zkf he];exact hQ _ s r h
 | succ n ih=>
  intro e st ρ H g s r h;rcases Zjs e with ⟨l,rfl⟩ | he
  ·cases hl:L l with
   | true=>
    rw [Zddk hl] at h;rw [Zbdq hl];refine hm l (fun e ρ' H' hk=>?_) _ _ (hF l s h);obtain ⟨st',g',s',r',hq⟩:=hk;exact ih e s' (r.trans r') hq
   | false=>rw [Zcbl hl] at h;rw [Zjv hl];exact hQ _ s r h
  rw [Zbzc he] at h;rw [Zkf he];exact hQ _ s r h
theorem Zbvn {B:St->Zba->Prop} {BW:Env->Heap->Post->Prop} (hB: ∀{E:En} {st:St} {ρ:Env} {H:Heap} {g:Gh} {Q:Zba},Sim E st ρ H g->B st Q->BW ρ H (Lc E st H g Q))
  (hm: ∀{Q Q':Post},(∀e ρ H,Q e ρ H->Q' e ρ H)->∀ρ H,BW ρ H Q->BW ρ H Q'): ∀(n:Nat) {E:En} {st:St} {ρ:Env} {H:Heap} {g:Gh} {Q:Zba} {st0:St} {H0:Heap} {g0:Gh},Sim E st ρ H g->Rel st0 H0 g0 st H g->Zbla B n st Q->Zfp BW n ρ H (Lc E st0 H0 g0 Q)
 | 0,_,_,_,_,_,_,_,_,_,_,_,h=>h.elim
 | n+1,E,st,ρ,H,g,Q,st0,H0,g0,s,r,h=>hm (fun e ρ' H' hk=>by
   obtain ⟨st',g',s',r',hq⟩:=hk;unfold Zmf at hq;cases hn:Zgi e with
   | true=>rw [Zcfh hn];simp only [hn] at hq;exact Zbvn hB hm n s' (r.trans r') hq
   | false=>rw [Zbkl hn];simp only [hn] at hq;exact ⟨st',g',s',r.trans r',hq⟩) _ _ (hB s h)
mutual
theorem Zgf {P:Program} {tab:Tab} (ht:Zlv P tab) {plan:PPlan}: ∀(c:Code) {E:En} {st:St} {ρ:Env} {H:Heap} {g:Gh} {Q:Zba},Sim E st ρ H g->Zbl P tab plan c st Q->Zd P plan.plan c ρ H (Lc E st H g Q)
 | .skip,E,st,ρ,H,g,Q,s,h=>by simp only [Zbl] at h;simp only [Zd];exact ⟨st,g,s,.refl _ _ _,h⟩
 | .label _,E,st,ρ,H,g,Q,s,h=>by simp only [Zbl] at h;simp only [Zd];exact ⟨st,g,s,.refl _ _ _,h⟩
 | .region id ops draw,E,st,ρ,H,g,Q,s,h=>by simp only [Zbl] at h;refine Zd.mono _ (fun e ρ' H' hk=>?_) _ _ (Zcuo ht.1 (loops:=plan.plan.loops) (unr:=plan.unr) s h);obtain ⟨rfl,hk⟩:=hk;exact hk
 | .seq a b,E,st,ρ,H,g,Q,s,h=>by
  simp only [Zbl] at h;simp only [Zd];refine Zd.mono a (fun e ρ' H' hk=>?_) _ _ (Zgf ht a s h);obtain ⟨st',g',s',r',hq⟩:=hk;cases e with
  | normal=>exact Zd.mono b (fun e ρ'' H'' hk=>hk.trans r') _ _ (Zgf ht b s' hq)
  | _=>exact ⟨st',g',s',r',hq⟩
 | .cond c x y,E,st,ρ,H,g,Q,s,h=>by
  simp only [Zbl] at h;simp only [Zd];have he:=Zkp s c;split at h;rename_i t hc;rw [hc] at he;simp only [SimV] at he;rw [he];exact IfB.mono h (fun h=>Zgf ht x s h) (fun h=>Zgf ht y s h)
  ·exact h.elim
 | .block id c,E,st,ρ,H,g,Q,s,h=>by
  simp only [Zbl] at h;simp only [Zd];refine Zd.mono c (fun e ρ' H' hk=>?_) _ _ (Zgf ht c s h);obtain ⟨st',g',s',r',hq⟩:=hk;cases e with
  | exit i=>
   simp only [Zcfs] at hq;simp only [Znd];split at hq;rename_i hb;rw [hb];exact ⟨st',g',s',r',hq⟩
   ·rename_i hb;rw [hb];exact ⟨st',g',s',r',hq⟩
  | _=>exact ⟨st',g',s',r',hq⟩
 | .exit id,E,st,ρ,H,g,Q,s,h=>by simp only [Zbl] at h;simp only [Zd];exact ⟨st,g,s,.refl _ _ _,h⟩
 | .goto l,E,st,ρ,H,g,Q,s,h=>by simp only [Zbl] at h;simp only [Zd];exact ⟨st,g,s,.refl _ _ _,h⟩
 | .ret,E,st,ρ,H,g,Q,s,h=>by simp only [Zbl] at h;simp only [Zd];exact ⟨st,g,s,.refl _ _ _,h⟩
 | .rangeFunc gf ps assign body,E,st,ρ,H,g,Q,s,h=>by
  simp only [Zbl] at h;simp only [Zd];have he:=Zkp s gf;split at h
  case h_2=>exact h.elim
  rename_i f caps hf;rw [hf] at he;simp only [SimV] at he;obtain ⟨vs,he,hcs⟩:=he;rw [he];split at h
  case h_2=>exact h.elim
  rename_i I hI;split at h
  case h_2=>exact h.elim
  rename_i c σ1 hin;obtain ⟨hpre,hr⟩:=h;refine ⟨rfl,fun nt d l rec hd hl hne hst hpe hps hra hrb _ hrnd=>?_⟩;exact Zdjz (fun s h=>Zgf ht assign s h) (fun s h=>Zgf ht body s h) (fun hq=>Zd.mono assign hq) (fun hq=>Zd.mono body hq) (ht.2.get hI) s hcs hin hpre hr hd hl hne hst hpe hps hra hrb hrnd
 | .refuse _,_,_,_,_,_,_,_,h=>by simp only [Zbl] at h
 | .loop c,E,st,ρ,H,g,Q,s,h=>by
  simp only [Zbl] at h;simp only [Zd];cases hu:Zgw (Zer c) plan.unr with
  | some n=>
   have hu':Zgw (Zer c) plan.plan.unr=some n:=hu;simp only [hu] at h;simp only [hu'];exact Zbvn (fun s h=>Zgf ht c s h) (fun hq=>Zd.mono c hq) n s (.refl _ _ _) h
  | none=>
   have hu':Zgw (Zer c) plan.plan.unr=none:=hu;simp only [hu] at h;simp only [hu'];exact Zbuk (fun s h=>Zgf ht c s h) (fun hq=>Zd.mono c hq) s h
 | .scope c,E,st,ρ,H,g,Q,s,h=>by
  simp only [Zbl] at h;simp only [Zd];have hF: ∀(l:Nat) {E:En} {st:St} {ρ:Env} {H:Heap} {g:Gh} {Q:Zba},Sim E st ρ H g->PFr P tab plan c l st Q->Zj P plan.plan c l ρ H (Lc E st H g Q):=fun l {E st ρ H g Q} s h=>Zboz ht c l s h;have hM:=fun (l:Nat) {Q Q':Post} (hq: ∀e ρ H,Q e ρ H->Q' e ρ H)=>Zj.mono (P:=P) (plan:=plan.plan) c l hq;cases hll:Zlz plan.plan c with
  | none=>
   simp only [hll] at h ⊢;refine Zd.mono c (fun e ρ' H' hk=>?_) _ _ (Zgf ht c s h);obtain ⟨st',g',s',r',hq⟩:=hk;exact Zbrj hF hM (fun e {st2 ρ2 H2 g2} s2 r2 hq=>⟨st2,g2,s2,r2,hq⟩) _ e s' r' hq
  | some l=>
   simp only [hll] at h ⊢;have hJ: ∀{st':St} {ρ':Env} {H':Heap} {g':Gh},Sim E st' ρ' H' g'->Rel st H g st' H' g'->Znu plan (Zez l) (fun st Q=>PFr P tab plan c l st (Zfj (fun l st Q=>PFr P tab plan c l st Q) (others c l) (nLbl c) Q)) (Zeg l) st' Q->
     Zcx plan.plan (Zez l) (fun ρ H Q=>Zj P plan.plan c l ρ H (Zbi (fun l ρ H Q=>Zj P plan.plan c l ρ H Q) (others c l) (nLbl c) Q)) (Zeg l) ρ' H' (Lc E st H g Q):=fun {st' ρ' H' g'} s' r' h=>by
    refine Zcx.mono (fun hq=>Zj.mono c l (Zbi.mono hM _ hq)) (fun e ρ2 H2 hk=>hk.trans r') ρ' H' (Zbuk (fun {E st ρ H g Q} s h=>?_) (fun hq=>Zj.mono c l (Zbi.mono hM _ hq)) s' h);refine Zj.mono c l (fun e ρ' H' hk=>?_) _ _ (hF l s h);obtain ⟨st',g',s',r',hq⟩:=hk;exact Zbrj hF hM (fun e {st2 ρ2 H2 g2} s2 r2 hq=>⟨st2,g2,s2,r2,hq⟩) _ e s' r' hq
   refine Zr.mono c l (fun e ρ' H' hk=>?_) _ _ (Zbnj ht c l s h);obtain ⟨st',g',s',r',hq⟩:=hk;unfold Zmf at hq;unfold Zcp;cases hn:Zgi e with
   | true=>simp only [hn] at hq ⊢;exact hJ s' r' hq
   | false=>
    simp only [hn] at hq ⊢;refine Zbrj hF hM (fun e {st2 ρ2 H2 g2} s2 r2 hq=>?_) _ e s' r' hq;cases hg:Zeg l e with
    | true=>simp only [hg] at hq ⊢;exact hJ s2 r2 hq
    | false=>simp only [hg] at hq ⊢;exact ⟨st2,g2,s2,r2,hq⟩
theorem Zboz {P:Program} {tab:Tab} (ht:Zlv P tab) {plan:PPlan}: ∀(c:Code) (l:Nat) {E:En} {st:St} {ρ:Env} {H:Heap} {g:Gh} {Q:Zba},Sim E st ρ H g->PFr P tab plan c l st Q->Zj P plan.plan c l ρ H (Lc E st H g Q)
 | .seq a b,l,E,st,ρ,H,g,Q,s,h=>by
  simp only [PFr] at h;simp only [Zj];cases hl:Zdx a l with
  | true=>
   simp only [hl] at h ⊢;refine Zj.mono a l (fun e ρ' H' hk=>?_) _ _ (Zboz ht a l s h);obtain ⟨st',g',s',r',hq⟩:=hk;cases e with
   | normal=>exact Zd.mono b (fun e ρ'' H'' hk=>hk.trans r') _ _ (Zgf ht b s' hq)
   | _=>exact ⟨st',g',s',r',hq⟩
  | false=>
   simp only [hl] at h ⊢;exact Zboz ht b l s h
 | .label l',l,E,st,ρ,H,g,Q,s,h=>by
  simp only [PFr] at h;simp only [Zj];cases hl:Nat.beq l' l with
  | true=>simp only [hl] at h ⊢;exact ⟨st,g,s,.refl _ _ _,h⟩
  | false=>simp only [hl] at h
 | .skip,_,_,_,_,_,_,_,_,h=>by simp only [PFr] at h
 | .region ..,_,_,_,_,_,_,_,_,h=>by simp only [PFr] at h
 | .cond ..,_,_,_,_,_,_,_,_,h=>by simp only [PFr] at h
 | .block ..,_,_,_,_,_,_,_,_,h=>by simp only [PFr] at h
 | .loop ..,_,_,_,_,_,_,_,_,h=>by simp only [PFr] at h
 | .rangeFunc ..,_,_,_,_,_,_,_,_,h=>by simp only [PFr] at h
 | .exit ..,_,_,_,_,_,_,_,_,h=>by simp only [PFr] at h
 | .scope ..,_,_,_,_,_,_,_,_,h=>by simp only [PFr] at h
 | .goto ..,_,_,_,_,_,_,_,_,h=>by simp only [PFr] at h
 | .ret,_,_,_,_,_,_,_,_,h=>by simp only [PFr] at h
 | .refuse ..,_,_,_,_,_,_,_,_,h=>by simp only [PFr] at h
theorem Zbnj {P:Program} {tab:Tab} (ht:Zlv P tab) {plan:PPlan}: ∀(c:Code) (l:Nat) {E:En} {st:St} {ρ:Env} {H:Heap} {g:Gh} {Q:Zba},Sim E st ρ H g->PBe P tab plan c l st Q->Zr P plan.plan c l ρ H (Lc E st H g Q)
 | .seq a b,l,E,st,ρ,H,g,Q,s,h=>by
  simp only [PBe] at h;simp only [Zr];cases hl:Zdx a l with
  | true=>simp only [hl] at h ⊢;exact Zbnj ht a l s h
  | false=>
   simp only [hl] at h ⊢;refine Zd.mono a (fun e ρ' H' hk=>?_) _ _ (Zgf ht a s h);obtain ⟨st',g',s',r',hq⟩:=hk;cases e with
   | normal=>exact Zr.mono b l (fun e ρ'' H'' hk=>hk.trans r') _ _ (Zbnj ht b l s' hq)
   | _=>exact ⟨st',g',s',r',hq⟩
 | .label l',l,E,st,ρ,H,g,Q,s,h=>by
  simp only [PBe] at h;simp only [Zr];cases hl:Nat.beq l' l with
  | true=>simp only [hl] at h ⊢;exact ⟨st,g,s,.refl _ _ _,h⟩
  | false=>simp only [hl] at h
 | .skip,_,_,_,_,_,_,_,_,h=>by simp only [PBe] at h
 | .region ..,_,_,_,_,_,_,_,_,h=>by simp only [PBe] at h
 | .cond ..,_,_,_,_,_,_,_,_,h=>by simp only [PBe] at h
 | .block ..,_,_,_,_,_,_,_,_,h=>by simp only [PBe] at h
 | .loop ..,_,_,_,_,_,_,_,_,h=>by simp only [PBe] at h
 | .rangeFunc ..,_,_,_,_,_,_,_,_,h=>by simp only [PBe] at h
 | .exit ..,_,_,_,_,_,_,_,_,h=>by simp only [PBe] at h
 | .scope ..,_,_,_,_,_,_,_,_,h=>by simp only [PBe] at h
 | .goto ..,_,_,_,_,_,_,_,_,h=>by simp only [PBe] at h
 | .ret,_,_,_,_,_,_,_,_,h=>by simp only [PBe] at h
 | .refuse ..,_,_,_,_,_,_,_,_,h=>by simp only [PBe] at h
end
end Go.Sh
end
section
namespace Go.Sh
variable [Laid]
def PRes (P:Program) (st:St):List ResultVar->List AV->(AV->Prop)->Prop
 | [],acc,K=>K (match acc with | [v]=>v | vs=> .tup vs)
 | .tmp t::rs,acc,K=>PRes P st rs (acc++[st.α t]) K
 | .cell a t::rs,acc,K=>ldP P st t (st.α a) fun v=>PRes P st rs (acc++[v]) K
def PRet (P:Program) (rs:List ResultVar) (K:AV->St->Prop):Zba:=fun e st=>match e with
 | .normal=>PRes P st rs [] fun v=>K v st
 | .ret=>PRes P st rs [] fun v=>K v st
 | _=>False
theorem Zbbj {P:Program} {E:En} {st:St} {ρ:Env} {H:Heap} {g:Gh} (s:Sim E st ρ H g) {R:Value->Prop}: ∀{rs:List ResultVar} {as:List AV} {vs:List Value} {K:AV->Prop},SimL g H st.σ.length as vs->PRes P st rs as K->
  (∀a v,SimV g H st.σ.length a v->K a->R v)->ResW P ρ H rs vs R
 | [],as,vs,K,hs,h,hk=>by
  simp only [PRes] at h;simp only [ResW];refine hk _ _ ?_ h;cases as with
  | nil=>cases vs with
   | nil=>simp only [SimV];exact ⟨[],rfl,hs⟩
   | cons=>simp only [SimL] at hs
  | cons a as=>cases vs with
   | nil=>simp only [SimL] at hs
   | cons v vs=>
    cases as with
    | nil=>cases vs with
     | nil=>simp only [SimL] at hs;exact hs.1
     | cons=>simp only [SimL] at hs;exact hs.2.elim
    | cons b as=>cases vs with
     | nil=>simp only [SimL] at hs;exact hs.2.elim
     | cons u vs=>simp only [SimV];exact ⟨_,rfl,hs⟩
 | .tmp t::rs,as,vs,K,hs,h,hk=>by simp only [PRes] at h;simp only [ResW];exact Zbbj s (hs.append (by simp only [SimL];exact ⟨s.tmp t,trivial⟩)) h hk
 | .cell a t::rs,as,vs,K,hs,h,hk=>by simp only [PRes] at h;simp only [ResW];refine Zpw s h (s.tmp a) fun x v hv hx=>?_;exact Zbbj s (hs.append (by simp only [SimL];exact ⟨hv,trivial⟩)) hx hk
theorem Sim.shut {E:En} {st:St} {ρ:Env} {H0 H H':Heap} {g:Gh} (s:Sim E st ρ H g) (h0: ∀b,E.Z0 b->H0 b≠none) (hE: ∀b,E.H0 b≠none->H0 b≠none) (hs:Shut H0 H H'):Sim E st ρ H' g∧Rel st H g st H' g:=by
 have sz: ∀b,g.Z b->H' b=H b:=fun b hb=>by rcases hs b with h | ⟨h1,h2,_⟩;exact h;rcases s.zc b hb with h | h;exact absurd h1 (h0 b h);exact absurd h2 (h _)
 have sE: ∀b,E.H0 b≠none->H' b=H b:=fun b hb=>by rcases hs b with h | ⟨h1,_,_⟩;exact h;exact absurd h1 (hE b hb)
 have hext:Ext st.σ.length g H g H':=⟨fun b hz=>⟨hz,sz b hz⟩,fun _ _=>rfl,fun _ _=>rfl⟩;have lv: ∀(i:Nat) (o:AObj),st.σ[i]? =some o->Has g i o->H' (g.B i)=H (g.B i):=fun i o hi hh=>by obtain ⟨c,T,hb⟩:=s.live hi hh;rcases hs (g.B i) with h | ⟨_,h2,_⟩;exact h;rw [hb] at h2;cases h2
 exact ⟨⟨fun t=>SimV.ext (Yh _) hext _ _ (s.tmp t),fun i o hi=>SimO.ext (Yh _) hext (Zbs hi) (lv i o hi) (s.obj i o hi),s.nz,s.dis,s.own,⟨fun b hb h=>(sE b h).trans (s.keep.same b hb h),fun b h=>by rw [sE b h];exact s.keep.live b h⟩,s.zsub,s.znew,fun b hz=>by rw [sz b hz];exact s.zlive b hz,s.lay,Zoy s.zc sz⟩,⟨Yh _,hext,fun i o hi _=>⟨hi,lv i o hi⟩⟩⟩
theorem FnP {P:Program} {f:FuncId} {fn:Func} {plan:PPlan} {c:Code} {tab:Tab} (k:Known P f fn plan.plan c) (ht:Zlv P tab) {args:List Value} (hlen:Nat.ble args.length fn.ntmps=true) {E:En} {st:St} {H:Heap} {g:Gh}
  (s:Sim E st (env0 args) H g) {K:AV->St->Prop} (h:Zbl P tab plan c st (PRet P fn.results.toList K)):
  FnW P f ⟨args⟩ H fun v H'=>∃a st' ρ' g',Sim E st' ρ' H' g'∧Rel st H g st' H' g'∧SimV g' H' st'.σ.length a v∧K a st':=by
 refine FnW.of_code k hlen (Zd.mono c (fun e ρ' H' hk=>?_) _ _ (Zgf ht c s h));obtain ⟨st',g',s',r',hq⟩:=hk;have fin: ∀(a:AV) (v:Value),SimV g' H' st'.σ.length a v->K a st'->∀H'',Shut H H' H''->∃a st' ρ' g',Sim E st' ρ' H'' g'∧Rel st H g st' H'' g'∧SimV g' H'' st'.σ.length a v∧K a st':=fun a v hv hka H'' hs=>by obtain ⟨s2,r2⟩:=s'.shut (fun b hb=>s.zlive b (s.zsub b hb)) (fun b hb=>s.keep.live b hb) hs;exact ⟨a,st',ρ',g',s2,r'.trans r2,SimV.ext (Yh _) r2.ext _ _ hv,hka⟩
 cases e<;>simp only [PRet] at hq<;>simp only [RetW]<;>first | exact hq.elim | skip
 exact Zbbj s' (as:=[]) (vs:=[]) (by simp only [SimL]) hq fin
 exact Zbbj s' (as:=[]) (vs:=[]) (by simp only [SimL]) hq fin
def frzP:List AObj->List Pk->List AV->Option (List AObj)
 | σ,[],[]=>some σ
 | σ,p::ps,a::as=>match Zcm p with
  | true=>frzP σ ps as
  | false=>match frzL σ (Zcn a) with
   | some σ'=>frzP σ' ps as
   | none=>none
 | _,_,_=>none
def Zen (σ:List AObj):(p:Pk)->AV->Option (PkT p×Option (Option Nat))
 | .int k,.int k' n=>match decide (k'=k) with
  | true=>some (n,none)
  | false=>none
 | .bool,.bool b=>some (b,none)
 | .str,.str s=>some (s,none)
 | .lst ks,a=>match rdL σ ks a with
  | some xs=>some (xs,none)
  | none=>none
 | .agg ks,.agg cs=>match unT ks (cs.map (Zfb σ)) with
  | some x=>some (x,none)
  | none=>none
 | .err,.err b=>some (b,none)
 | .fn f,.fn f' []=>match Nat.beq f' f with
  | true=>some ((),none)
  | false=>none
 | .nil,.nils=>some ((),none)
 | .own _ _,.nils=>some ([],some none)
 | .own T ks,.row id=>match σ[id]? with
  | some (.row T' false ks' xs)=>match Nat.beq T' T,Kd.decs ks' ks with
   | true,isTrue h=>some (Zdu h xs,some (some id))
   | _,_=>none
  | _=>none
 | _,_=>none
def Zdp (σ:List AObj):(ps:List Pk)->List AV->Option (PkTs ps×List (Option Nat))
 | [],[]=>some ((),[])
 | p::ps,a::as=>match Zen σ p a,Zdp σ ps as with
  | some (x,s),some (y,r)=>some ((x,y),match s with | some i=>i::r | none=>r)
  | _,_=>none
 | _,_=>none
def Froz (σ:List AObj) (as:List AV):Prop:=∀a∈as,∀id,a= .row id->∃ks xs,σ[id]? =some (.frz ks xs)
def Zbis (σ:List AObj):List Pk->List AV->Prop
 | p::ps,a::as=>(Zcm p=false->Froz σ (Zcn a))∧Zbis σ ps as
 | _,_=>True
theorem Zih {E:En} {ρ:Env} {H:Heap} {α:Nat->AV}: ∀(ps:List Pk) (as:List AV) (σ σ':List AObj) (g:Gh),Sim E ⟨α,σ⟩ ρ H g->frzP σ ps as=some σ'->
  ∃g',Sim E ⟨α,σ'⟩ ρ H g'∧Rel ⟨α,σ⟩ H g ⟨α,σ'⟩ H g'∧σ'.length=σ.length∧Zbis σ' ps as∧∀(id:Nat) (ks:List Kd) (xs:List (Tp ks)),σ[id]? =some (.frz ks xs)->σ'[id]? =some (.frz ks xs)
 | [],[],σ,σ',g,s,h=>by simp only [frzP,Option.some.injEq] at h;subst h;exact ⟨g,s,.refl _ _ _,rfl,trivial,fun _ _ _ h=>h⟩
 | [],_::_,_,_,_,_,h=>by simp only [frzP] at h;cases h
 | _::_,[],_,_,_,_,h=>by simp only [frzP] at h;cases h
 | p::ps,a::as,σ,σ',g,s,h=>by
  simp only [frzP] at h;split at h;rename_i hp;obtain ⟨g1,s1,r1,l1,f1,k1⟩:=Zih ps as σ σ' g s h;exact ⟨g1,s1,r1,l1,⟨(fun hp'=>by rw [hp] at hp';cases hp'),f1⟩,k1⟩
  split at h;rename_i σ1 hf;obtain ⟨g1,s1,r1,l1,f1,k1⟩:=Zbij (Zcn a) σ σ1 g s hf;obtain ⟨g2,s2,r2,l2,f2,k2⟩:=Zih ps as σ1 σ' g1 s1 h;refine ⟨g2,s2,r1.trans r2,l2.trans l1,⟨fun _ b hb id e=>?_,f2⟩,fun _ _ _ h=>k2 _ _ _ (k1 _ _ _ h)⟩;obtain ⟨ks,xs,h3⟩:=f1 b hb id e;exact ⟨ks,xs,k2 _ _ _ h3⟩;cases h
theorem Zdhe {E:En} {st:St} {ρ:Env} {H:Heap} {g:Gh} (s:Sim E st ρ H g) {ks:List Kd} {a:AV} {v:Value} {xs:List (Tp ks)} (h:rdL st.σ ks a=some xs) (hf: ∀id,a= .row id->∃ks xs,st.σ[id]? =some (.frz ks xs)) (hs:SimV g H st.σ.length a v):Zb g.Z H (.lst ks) xs v:=by
 unfold rdL at h;split at h;split at h;rename_i hk _;subst hk;cases h;simpa only [SimV,Zdu] using hs;cases h;cases h;simp only [SimV] at hs;simp only [Zb];exact ⟨none,0,0,hs,rfl,Yh _,YI _,fun h=>absurd h (by omega)⟩
 rename_i id;obtain ⟨ks2,xs2,ho⟩:=hf id rfl;rw [ho] at h;simp only at h;split at h;rename_i hk _;subst hk;cases h;simp only [SimV] at hs;rw [hs.2.1];exact s.obj id _ ho;cases h;cases h
theorem Zbca {g:Gh} {H:Heap} {N:Nat} {ks:List Kd} {x:Tp ks} {vs:List Value} (h:Ze g.Z H ks x (fun j=>vs[j]?)) (hl:vs.length=ks.length):SimL g H N (lvT ks x) vs:=by
 obtain ⟨us,h1,h2,h3⟩:=Znh (N:=N) h;have:us=vs:=by
  apply YGa
  intro i;rcases Ys i us.length with h | h;exact (h3 i h).symm;rw [Yf h,Yf (by omega)]
 rw [← this];exact h2
theorem Zdex {E:En} {st:St} {ρ:Env} {H:Heap} {g:Gh} (s:Sim E st ρ H g) {p:Pk} {a:AV} {v:Value} {x:PkT p} {r:Option (Option Nat)} (h:Zen st.σ p a=some (x,r)) (hs:SimV g H st.σ.length a v) (hf:Zcm p=false->Froz st.σ (Zcn a)):
  WfPk p x∧(Zcm p=false->r=none∧∀(g':Gh) (N:Nat),g'.Z=g.Z->SimV g' H N (pkA 0 p x) v)∧
  (∀T ks,p= .own T ks->∃i,r=some i∧((∃id,i=some id∧∃xs,st.σ[id]? =some (.row T false ks xs)∧HEq xs x∧v=g.V id)∨(i=none∧v= .slice none 0 0∧HEq x ([]:List (Tp ks))))):=by
 cases p with
 | int k0=>
  cases a<;>simp only [Zen] at h<;>first | (cases h;done) | skip
  split at h;rename_i hk;have:=of_decide_eq_true hk;subst this;cases h;simp only [SimV] at hs;exact ⟨hs.2,fun _=>⟨rfl,fun g' N _=>by simp only [pkA,SimV];exact hs⟩,fun T ks e=>by cases e⟩
  ·cases h
 | bool=>
  cases a<;>simp only [Zen] at h<;>first | (cases h;done) | skip
  cases h;simp only [SimV] at hs;exact ⟨trivial,fun _=>⟨rfl,fun g' N _=>by simp only [pkA,SimV];exact hs⟩,fun T ks e=>by cases e⟩
 | str=>
  cases a<;>simp only [Zen] at h<;>first | (cases h;done) | skip
  cases h;simp only [SimV] at hs;exact ⟨hs.2,fun _=>⟨rfl,fun g' N _=>by simp only [pkA,SimV];exact hs⟩,fun T ks e=>by cases e⟩
 | err=>
  cases a<;>simp only [Zen] at h<;>first | (cases h;done) | skip
  cases h;simp only [SimV] at hs;exact ⟨trivial,fun _=>⟨rfl,fun g' N _=>by simp only [pkA,SimV];exact hs⟩,fun T ks e=>by cases e⟩
 | nil=>
  cases a<;>simp only [Zen] at h<;>first | (cases h;done) | skip
  cases h;simp only [SimV] at hs;exact ⟨trivial,fun _=>⟨rfl,fun g' N _=>by simp only [pkA,SimV];exact hs⟩,fun T ks e=>by cases e⟩
 | fn f'=>
  cases a<;>simp only [Zen] at h<;>first | (cases h;done) | skip
  rename_i f2 caps;cases caps with
  | cons=>simp only [Zen] at h;cases h
  | nil=>
   simp only [Zen] at h;split at h
   ·rename_i hb;cases h;have:=Ye hb;subst this;simp only [SimV] at hs;obtain ⟨vs,rfl,hvs⟩:=hs;cases vs with
    | cons=>simp only [SimL] at hvs
    | nil=>exact ⟨trivial,fun _=>⟨rfl,fun g' N _=>by simp only [pkA,SimV];exact ⟨[],rfl,by simp only [SimL]⟩⟩,fun T ks e=>by cases e⟩
   ·cases h
 | lst ks'=>
  simp only [Zen] at h;split at h
  ·rename_i xs hrd;cases h;have hc:=Zdhe s hrd (fun id e=>hf rfl a (by rw [e];simp [Zcn]) id e) hs
   exact ⟨Zb.wf (.lst ks') x v hc,fun _=>⟨rfl,fun g' N hz=>by simp only [pkA,SimV];rw [hz];exact hc⟩,fun T ks e=>by cases e⟩
  ·cases h
 | agg ks'=>
  cases a<;>simp only [Zen] at h<;>first | (cases h;done) | skip
  split at h
  ·rename_i y hy;cases h;simp only [SimV] at hs;obtain ⟨vs,rfl,hs⟩:=hs;have h1:=Zbcf s (fun b hb id e=>hf rfl b (by simpa [Zcn] using hb) id e) hs
   have h2:=Zkv hy h1;have h3:=Zzd hy;have h4:=h1.len;refine ⟨Ze.wf _ _ _ h2,fun _=>⟨rfl,fun g' N hz=>?_⟩,fun T ks e=>by cases e⟩
   simp only [pkA,SimV];exact ⟨vs,rfl,Zbca (by rw [hz];exact h2) (by omega)⟩
  ·cases h
 | own T ks'=>
  cases a<;>simp only [Zen] at h<;>first | (cases h;done) | skip
  ·cases h;simp only [SimV] at hs;refine ⟨by simp only [WfPk,WfE];exact ⟨YI _,fun x hx=>by simp [asL] at hx⟩,(fun e=>by cases e),fun T ks e=>?_⟩
   cases e;exact ⟨none,rfl,.inr ⟨rfl,hs,HEq.rfl⟩⟩
  ·rename_i id;split at h
   ·rename_i T' ks2 xs ho;split at h
    ·rename_i _ _ hke hT _;have hT:=Ye hT;subst hT hke;cases h;simp only [SimV] at hs;refine ⟨?_,(fun e=>by cases e),fun T ks e=>?_⟩
     ·simp only [WfPk,WfE,Zdu];obtain ⟨a',n',c',h1,h2,h3,h4,hat⟩:=Zqh (T:=0) (N:=st.σ.length) (s.obj id _ ho);refine ⟨by simp only [asL];omega,fun x hx=>?_⟩
      obtain ⟨i,hi⟩:=Y3 hx;obtain ⟨_,_,hw3,_⟩:=hat i x hi;exact hw3
     cases e;exact ⟨some id,rfl,.inl ⟨id,rfl,xs,ho,HEq.rfl,hs.2.1⟩⟩
    cases h
   cases h
theorem Zkw {E:En} {st:St} {ρ:Env} {H:Heap} {g:Gh} (s:Sim E st ρ H g): ∀{ps:List Pk} {as:List AV} {vs:List Value} {x:PkTs ps} {src:List (Option Nat)},Zdp st.σ ps as=some (x,src)->SimL g H st.σ.length as vs->Zbis st.σ ps as->
  WfPs ps x∧(pksR ps x).length=src.length∧
  (∀(j:Nat) (o:AObj) (i:Option Nat),(pksR ps x)[j]? =some o->src[j]? =some i->(∃id,i=some id∧st.σ[id]? =some o∧isRo o=false∧(∃T ks xs,o= .row T false ks xs))∨(i=none∧∃T ks,o= .row T false ks []))∧
  ∀(g'':Gh) (N N'':Nat),Srcs g g'' N src->N+src.length <= N''->g''.Z=g.Z->SimL g'' H N'' (pksA N ps x) vs
 | [],[],[],x,src,h,hs,_=>by simp only [Zdp] at h;cases h;exact ⟨trivial,rfl,fun j o i hj=>by simp [pksR] at hj,fun g'' N N'' _ _ _=>by simp only [pksA,SimL]⟩
 | [],[],_::_,_,_,_,hs,_=>by simp only [SimL] at hs
 | [],_::_,_,_,_,h,_,_=>by simp only [Zdp] at h;cases h
 | _::_,[],_,_,_,h,_,_=>by simp only [Zdp] at h;cases h
 | _::_,_::_,[],_,_,_,hs,_=>by simp only [SimL] at hs
 | p::ps,a::as,v::vs,x,src,h,hs,hf=>by
  simp only [SimL] at hs;simp only [Zdp] at h;split at h
  ·rename_i x' r' y r hx hy;simp only [Option.some.injEq,Prod.mk.injEq] at h;obtain ⟨rfl,rfl⟩:=h;obtain ⟨w,hlen,hrow,hsim⟩:=Zkw s hy hs.2 hf.2;obtain ⟨w1,hval,hown⟩:=Zdex s hx hs.1 hf.1;have pl: ∀(p':Pk) (x':PkT p') (N:Nat),Zcm p'=false->pkA N p' x'=pkA 0 p' x':=fun p' x' N h=>by cases p'<;>first | rfl | cases h
   cases hp:Zcm p with
   | false=>
    obtain ⟨rfl,hv⟩:=hval hp;have e:pksR (p::ps) (x',y)=pksR ps y:=by cases p<;>first | rfl | cases hp
    refine ⟨⟨w1,w⟩,by rw [e];exact hlen,by rw [e];exact hrow,fun g'' N N'' h1 h2 h3=>?_⟩
    simp only [pksA,hp,SimL];rw [pl _ _ _ hp];exact ⟨hv g'' N'' h3,hsim g'' N N'' h1 h2 h3⟩
   | true=>
    obtain ⟨T,ks,rfl⟩: ∃T ks,p= .own T ks:=by cases p<;>first | (cases hp;done) | exact ⟨_,_,rfl⟩
    obtain ⟨i,rfl,hi⟩:=hown T ks rfl;refine ⟨⟨w1,w⟩,by simp [pksR,hlen],fun j o i' hj hi'=>?_,fun g'' N N'' h1 h2 h3=>?_⟩
    ·cases j with
     | zero=>
      simp [pksR] at hj;simp at hi';subst hj hi';rcases hi with ⟨id,rfl,xs,ho,he,_⟩ | ⟨rfl,_,he⟩;cases he;exact .inl ⟨id,rfl,ho,rfl,_,_,_,rfl⟩
      ·cases he;exact .inr ⟨rfl,T,ks,rfl⟩
     | succ j=>exact hrow j o i' (by simpa [pksR] using hj) (by simpa using hi')
    ·simp only [pksA,Zcm,SimL];simp only [List.length_cons] at h2;refine ⟨?_,hsim g'' (N+1) N'' h1.tail (by omega) h3⟩
     simp only [pkA,SimV];have hsl: ∃a n c,v= .slice a n c:=by
      rcases hi with ⟨id,rfl,xs,ho,he,hv⟩ | ⟨rfl,hv,_⟩;obtain ⟨a,n,c,h,_⟩:=s.obj id _ ho;exact ⟨a,n,c,by rw [hv,h]⟩
      exact ⟨none,0,0,hv⟩
     refine ⟨by omega,?_,hsl⟩
     rcases hi with ⟨id,rfl,xs,ho,he,hv⟩ | ⟨rfl,hv,_⟩;have:=(h1.hit 0 id rfl).1;simp only [Nat.add_zero] at this;rw [this,hv];have:=h1.nil 0 rfl;simp only [Nat.add_zero] at this;rw [this,hv]
  cases h
def outL (rs:List Pk) (a:AV):Option (List AV):=match rs with
 | [_]=>some [a]
 | _=>match a with
  | .tup as=>some as
  | _=>none
def outA:List AV->AV
 | [a]=>a
 | as=> .tup as
def outP (rs:List Pk) (st:St) (a:AV) (K:PkTs rs->Prop):Prop:=match outL rs a with
 | some as=>match frzP st.σ rs as with
  | some σ'=>match Zdp σ' rs as with
   | some (y,src)=>match Zdb (Zq src) with
    | true=>K y
    | false=>False
   | none=>False
  | none=>False
 | none=>False
def parS (ps:List Pk) (x:PkTs ps):St:=⟨fun i=>(pksA 0 ps x).getD i .undef,pksR ps x⟩
def FnQ (P:Program) (f:FuncId) (ps rs:List Pk) (q:PkTs ps->(PkTs rs->Prop)->Prop):Prop:=
 ∀(x:PkTs ps) (K:PkTs rs->Prop),q x K->∀(H:Heap) (g:Gh) (vs:List Value),vs.length=ps.length->Sim ⟨H,Zbc g (pksR ps x),g.Z⟩ (parS ps x) (env0 vs) H g->
  FnW P f ⟨vs⟩ H fun v H'=>∃a st' ρ' g',Sim ⟨H,Zbc g (pksR ps x),g.Z⟩ st' ρ' H' g'∧SimV g' H' st'.σ.length a v∧outP rs st' a K
theorem Zm {P:Program} {f:FuncId} {fn:Func} {plan:PPlan} {c:Code} {tab:Tab} {ps rs:List Pk} (k:Known P f fn plan.plan c) (ht:Zlv P tab) (hlen:Nat.ble ps.length fn.ntmps=true):
  FnQ P f ps rs fun x K=>Zbl P tab plan c (parS ps x) (PRet P fn.results.toList fun a st=>outP rs st a K):=by
 intro x K h H g vs hvs s;refine (FnP k ht (by rw [hvs];exact hlen) s h).mono fun v H' hk=>?_
 obtain ⟨a,st',ρ',g',h1,_,h3,h4⟩:=hk;exact ⟨a,st',ρ',g',h1,h3,h4⟩
theorem FnQ.of_eq {P:Program} {f:FuncId} {ps rs:List Pk} {q q':PkTs ps->(PkTs rs->Prop)->Prop} (h:FnQ P f ps rs q') (e:q=q'):FnQ P f ps rs q:=e▸h
theorem FnQ.mono {P:Program} {f:FuncId} {ps rs:List Pk} {q q':PkTs ps->(PkTs rs->Prop)->Prop} (h:FnQ P f ps rs q) (hq: ∀x K,q' x K->q x K):FnQ P f ps rs q':=
 fun x K hx=>h x K (hq x K hx)
def Zel:List Nat->Nat->List AObj->List AObj
 | _,_,[]=>[]
 | l,i,o::os=>(match memB i l with | true=> .gone | false=>o)::Zel l (i+1) os
theorem Zbop (l:List Nat): ∀(σ:List AObj) (i:Nat),(Zel l i σ).length=σ.length
 | [],_=>rfl
 | o::os,i=>by simp [Zel,Zbop l os]
theorem Zbpq (l:List Nat): ∀(σ:List AObj) (i j:Nat) (o:AObj),(Zel l i σ)[j]? =some o->(i+j∈l∧o= .gone)∨(i+j∉l∧σ[j]? =some o)
 | [],_,_,_,h=>by simp [Zel] at h
 | a::σ,i,0,o,h=>by
  simp only [Zel,List.getElem?_cons_zero,Option.some.injEq] at h;simp only [Nat.add_zero];cases hm:memB i l with
  | true=>rw [hm] at h;exact .inl ⟨Zcc.1 hm,h.symm⟩
  | false=>
   rw [hm] at h;exact .inr ⟨(fun hc=>by rw [Zcc.2 hc] at hm;cases hm),by simpa using h⟩
 | a::σ,i,j+1,o,h=>by
  simp only [Zel,List.getElem?_cons_succ] at h;have:=Zbpq l σ (i+1) j o h;have e:i+1+j=i+(j+1):=by omega
  rw [e] at this;simpa using this
theorem Zbkq (l:List Nat): ∀(σ:List AObj) (i j:Nat) (o:AObj),i+j∉l->σ[j]? =some o->(Zel l i σ)[j]? =some o
 | [],_,_,_,_,h=>by simp at h
 | a::σ,i,0,o,hn,h=>by
  simp only [Nat.add_zero] at hn;simp only [Zel,List.getElem?_cons_zero];cases hm:memB i l with
  | true=>exact absurd (Zcc.1 hm) hn
  | false=>simpa using h
 | a::σ,i,j+1,o,hn,h=>by
  simp only [Zel,List.getElem?_cons_succ];exact Zbkq l σ (i+1) j o (by
    have e:i+1+j=i+(j+1):=by omega
    rw [e];exact hn) (by simpa using h)
def Zbq (ps rs:List Pk) (q:PkTs ps->(PkTs rs->Prop)->Prop):Ct:=fun st args K=>
 match frzP st.σ ps args with
 | some σ1=>match Zdp σ1 ps args with
  | some (x,src)=>match Zdb (Zq src) with
   | true=>WfPs ps x->q x fun y=>WfPs rs y->K (outA (pksA st.σ.length rs y)) ⟨st.α,Zel (Zq src) 0 σ1++pksR rs y⟩
   | false=>False
  | none=>False
 | none=>False
theorem Zuk {g:Gh} {H:Heap} {N:Nat} {rs:List Pk} {a:AV} {v:Value} {as:List AV} (h:outL rs a=some as) (hl:as.length=rs.length) (hs:SimV g H N a v): ∃ws,SimL g H N as ws∧∀(g':Gh) (H':Heap) (N':Nat) (bs:List AV),bs.length=rs.length->SimL g' H' N' bs ws->SimV g' H' N' (outA bs) v:=by
 unfold outL at h;split at h
 ·cases h;refine ⟨[v],by simp only [SimL];exact ⟨hs,trivial⟩,fun g' H' N' bs hbl hb=>?_⟩
  cases bs with
  | nil=>simp only [SimL] at hb
  | cons b bs=>
   cases bs with
   | nil=>simp only [SimL] at hb;exact hb.1
   | cons=>simp only [SimL] at hb;exact hb.2.elim
 ·rename_i hne;split at h
  ·cases h;simp only [SimV] at hs;obtain ⟨ws,rfl,hs⟩:=hs;refine ⟨ws,hs,fun g' H' N' bs hbl hb=>?_⟩;have hsim:SimV g' H' N' (.tup bs) (.tuple ⟨ws⟩):=by simp only [SimV];exact ⟨ws,rfl,hb⟩
   cases bs with
   | nil=>exact hsim
   | cons b bs=>
    cases bs with
    | nil=>
     obtain ⟨r,hr⟩: ∃r,rs= [r]:=by
      cases rs with
      | nil=>simp at hbl
      | cons r rs=>
       cases rs with
       | nil=>exact ⟨r,rfl⟩
       | cons=>simp at hbl
     exact absurd hr (hne r)
    | cons=>exact hsim
  cases h
theorem Zkg {σ:List AObj}: ∀{ps:List Pk} {as:List AV} {r:PkTs ps×List (Option Nat)},Zdp σ ps as=some r->as.length=ps.length
 | [],[],_,_=>rfl
 | [],_::_,_,h=>by simp only [Zdp] at h;cases h
 | _::_,[],_,h=>by simp only [Zdp] at h;cases h
 | p::ps,a::as,r,h=>by simp only [Zdp] at h;split at h;rename_i hy;simp [Zkg hy];cases h
theorem Zla {g:Gh} {H:Heap} {N:Nat}: ∀{as:List AV} {vs:List Value},SimL g H N as vs->∀i,SimV g H N (as.getD i .undef) (vs.getD i undef)
 | [],[],_,i=>by simp [SimV]
 | [],_::_,h,_=>by simp only [SimL] at h
 | _::_,[],h,_=>by simp only [SimL] at h
 | a::as,v::vs,h,0=>by simp only [SimL] at h;simpa using h.1
 | a::as,v::vs,h,i+1=>by simp only [SimL] at h;simpa using Zla h.2 i
theorem Zbt {P:Program} {f:FuncId} {ps rs:List Pk} {q:PkTs ps->(PkTs rs->Prop)->Prop} (hq:FnQ P f ps rs q):Zk P f (Zbq ps rs q):=by
 intro E st ρ H g args vs K s hargs h;unfold Zbq at h;split at h
 case h_2=>exact h.elim
 rename_i σ1 hfr;split at h
 case h_2=>exact h.elim
 rename_i x src htk;split at h
 case h_2=>exact h.elim
 rename_i huq;obtain ⟨g1,s1,r1,l1,f1,_⟩:=Zih ps args st.σ σ1 g s hfr;have hargs1:=SimL.ext r1.len r1.ext _ _ hargs;obtain ⟨hw,hlen,hrow,hsim⟩:=Zkw s1 htk hargs1 f1;obtain ⟨g2,hZ2,_,hS2,hfin⟩:=s1.rehead (base:=[]) (rows:=pksR ps x) (src:=src) (YI _) hlen (fun id o ho=>by simp at ho) hrow (Zmp (Zje huq))
 have hsl:=hsim g2 0 (0+(pksR ps x).length) (by simpa using hS2) (by omega) hZ2
 have s2:Sim E (parS ps x) (env0 vs) H g2:=by
  have:=hfin [] (fun i=>(pksA 0 ps x).getD i .undef) (env0 vs) rfl (fun id o ho=>by simp at ho) (fun t=>by simpa [env0] using Zla hsl t)
  simpa [parS] using this
 have hvl:vs.length=ps.length:=by rw [← hargs.len,Zkg htk]
 refine (hq x _ (h hw) H g2 vs hvl s2.enter).mono fun v H' hk=>?_;obtain ⟨a,st',ρ',g',s',hav,hout⟩:=hk;unfold outP at hout;split at hout
 case h_2=>exact hout.elim
 rename_i as hol;split at hout
 case h_2=>exact hout.elim
 rename_i σ' hfr';split at hout
 case h_2=>exact hout.elim
 rename_i y src' htk';split at hout
 case h_2=>exact hout.elim
 rename_i huq';obtain ⟨g3,s3,r3,l3,f3,_⟩:=Zih rs as st'.σ σ' g' s' hfr';obtain ⟨ws,hws,hwsF⟩:=Zuk hol (Zkg htk') hav;have hws3:=SimL.ext r3.len r3.ext _ _ hws;obtain ⟨hw',hlen',hrow',hsim'⟩:=Zkw s3 htk' hws3 f3;have ownE: ∀b,Zbc g2 (pksR ps x) b->∃id∈Zq src,∃o,σ1[id]? =some o∧isRo o=false∧Has g1 id o∧b=g1.B id:=by
  rintro b ⟨i,o,hi,hh,rfl⟩;have hil:i<(pksR ps x).length:=Zbs hi;obtain ⟨k,hk⟩: ∃k,src[i]? =some k:=⟨src[i]'(by omega),by simp⟩
  rcases hrow i o k hi hk with ⟨id,rfl,h1,h2,T,ks,xs,rfl⟩ | ⟨rfl,T,ks,rfl⟩;have:=hS2.hit i id hk;simp only [List.length_nil,Yx] at this;refine ⟨id,Zmb hk,_,h1,h2,?_,this.2⟩;obtain ⟨a,n,c,h⟩:=hh;exact ⟨a,n,c,by rw [← this.1];exact h⟩
  have:=hS2.nil i hk;simp only [List.length_nil,Yx] at this;obtain ⟨a,n,c,h⟩:=hh;rw [this] at h;cases h
 have liveB: ∀(i:Nat) (o:AObj),σ1[i]? =some o->Has g1 i o->H (g1.B i)≠none:=fun i o hi hh=>by obtain ⟨c,T,hb⟩:=s1.live hi hh;rw [hb];simp
 have notOwned: ∀(i:Nat) (o:AObj),i∉Zq src->σ1[i]? =some o->Has g1 i o->¬Zbc g2 (pksR ps x) (g1.B i):=fun i o hn hi hh ho=>by obtain ⟨id,hid,o',h1,_,h2,h3⟩:=ownE _ ho;exact s1.dis i id o o' (fun e=>hn (e▸hid)) hi h1 hh h2 h3
 have zNotOwned: ∀b,g1.Z b->¬Zbc g2 (pksR ps x) b:=fun b hz ho=>by obtain ⟨id,_,o',h1,_,h2,rfl⟩:=ownE _ ho;exact s1.nz id o' h1 h2 hz
 have same: ∀b,H b≠none->¬Zbc g2 (pksR ps x) b->H' b=H b:=fun b hb ho=>s3.keep.same b ho hb
 let N:=σ1.length
 let g4:Gh:=⟨g3.Z,fun i=>if i<σ1.length then g1.B i else match src'[i - σ1.length]? with | some (some id)=>g3.B id | _=>0,fun i=>if i<σ1.length then g1.V i else match src'[i - σ1.length]? with | some (some id)=>g3.V id | _=> .slice none 0 0⟩
 have hext:Ext σ1.length g1 H g4 H':=⟨fun b hz=>⟨s3.zsub b (by show g2.Z b;rw [hZ2];exact hz),same b (s1.zlive b hz) (zNotOwned b hz)⟩,fun i hi=>if_pos hi,fun i hi=>if_pos hi⟩
 have hS4:Srcs g3 g4 σ1.length src':=by
  refine ⟨fun j id hj=>⟨?_,?_⟩,fun j hj=>?_⟩
  ·show (if σ1.length+j<σ1.length then _ else _)=_
   rw [if_neg (by omega),YN,hj]
  ·show (if σ1.length+j<σ1.length then _ else _)=_
   rw [if_neg (by omega),YN,hj]
  ·show (if σ1.length+j<σ1.length then _ else _)=_
   rw [if_neg (by omega),YN,hj]
 have hgl:=Zbop (Zq src) σ1 0;have hN4:(Zel (Zq src) 0 σ1++pksR rs y).length=σ1.length+(pksR rs y).length:=by simp [hgl]
 have parts: ∀(i:Nat) (o:AObj),(Zel (Zq src) 0 σ1++pksR rs y)[i]? =some o->(i<σ1.length∧((i∈Zq src∧o= .gone)∨(i∉Zq src∧σ1[i]? =some o)))∨(∃j,i=σ1.length+j∧(pksR rs y)[j]? =some o∧∃k,src'[j]? =some k):=by
  intro i o hi;rcases Ys i σ1.length with h | h
  ·rw [Yd (by omega)] at hi
   have:=Zbpq _ _ _ _ _ hi;simp only [Yx] at this;exact .inl ⟨h,this⟩
  ·rw [Yg (by omega),hgl] at hi
   have:i - σ1.length<(pksR rs y).length:=Zbs hi;exact .inr ⟨i - σ1.length,by omega,hi,src'[i - σ1.length]'(by omega),by simp⟩
 have newOld: ∀(j:Nat) (o:AObj) (k:Option Nat),(pksR rs y)[j]? =some o->src'[j]? =some k->Has g4 (σ1.length+j) o->∃id o',k=some id∧σ'[id]? =some o'∧Has g3 id o'∧g4.B (σ1.length+j)=g3.B id:=by
  intro j o k hj hk hh;rcases hrow' j o k hj hk with ⟨id,rfl,h1,_,T,ks,xs,rfl⟩ | ⟨rfl,T,ks,rfl⟩;obtain ⟨hv,hb⟩:=hS4.hit j id hk;obtain ⟨a,n,c,h⟩:=hh;exact ⟨id,_,rfl,h1,⟨a,n,c,by rw [← hv];exact h⟩,hb⟩
  obtain ⟨a,n,c,h⟩:=hh;rw [hS4.nil j hk] at h;cases h
 have newBlk: ∀id o',σ'[id]? =some o'->Has g3 id o'->∀(i:Nat) (o:AObj),i∉Zq src->σ1[i]? =some o->Has g1 i o->g1.B i≠g3.B id:=by
  intro id o' h1 h2 i o hn hi hh e;rcases s3.own id o' h1 h2 with h | h;exact notOwned i o hn hi hh (by rw [e];exact h)
  exact liveB i o hi hh (by rw [e];exact h)
 have hsl4:=hsim' g4 σ1.length (σ1.length+(pksR rs y).length) hS4 (by omega) rfl
 have Eown: ∀b,(Zbc g2 (pksR ps x) b∨H b=none)->E.O0 b∨E.H0 b=none:=fun b hb=>by rcases hb with h | h;obtain ⟨id,_,o',h1,_,h2,rfl⟩:=ownE _ h;exact s1.own id o' h1 h2;exact .inr (s1.keep.free h)
 have s4:Sim E ⟨st.α,Zel (Zq src) 0 σ1++pksR rs y⟩ ρ H' g4:=by
  refine ⟨fun t=>?_,fun i o hi=>?_,fun i o hi hh=>?_,fun i j oi oj hij hi hj hhi hhj=>?_,fun i o hi hh=>?_,⟨fun b hb h0=>?_,fun b h0=>?_⟩,fun b hz=>?_,fun b hz=>?_,fun b hz=>s3.zlive b hz,s.lay,fun b hz=>by
   rcases s3.zc b hz with h | h
   ·have h1:g1.Z b:=by have:g2.Z b:=h;rwa [hZ2] at this
    rcases s1.zc b h1 with h2 | h2;exact .inl h2
    ·exact .inr fun ds=>by rw [same b (s1.zlive b h1) (zNotOwned b h1)];exact h2 ds
   ·exact .inr h⟩
  simp only [hN4];exact SimV.ext (Yya _ _) hext _ _ (s1.tmp t);simp only [hN4];rcases parts i o hi with ⟨h1,⟨_,rfl⟩ | ⟨h2,h3⟩⟩ | ⟨j,rfl,h2,k,hk⟩;trivial;exact SimO.ext (Yya _ _) hext h1 (fun hh=>same _ (liveB i o h3 hh) (notOwned i o h2 h3 hh)) (s1.obj i o h3);rcases hrow' j o k h2 hk with ⟨id,rfl,h3,_,T,ks,xs,rfl⟩ | ⟨rfl,T,ks,rfl⟩;obtain ⟨hv,hb⟩:=hS4.hit j id hk;have:=s3.obj id _ h3;simp only [SimO] at this ⊢;rw [hv,hb];exact this;simp only [SimO];exact ⟨none,0,0,hS4.nil j hk,rfl,Yh _,YI _,.inl ⟨rfl,rfl⟩⟩
  ·rcases parts i o hi with ⟨h1,⟨_,rfl⟩ | ⟨h2,h3⟩⟩ | ⟨j,rfl,h2,k,hk⟩;exact hh.elim
   ·rw [hext.b i h1];have hh1:=(Has.ext hext h1).1 hh;intro hz;rcases s3.znew _ hz with h | h | h;exact s1.nz i o h3 hh1 (by have:g2.Z (g1.B i):=h;rwa [hZ2] at this)
    exact liveB i o h3 hh1 h;exact notOwned i o h2 h3 hh1 h
   obtain ⟨id,o',rfl,h3,h4,h5⟩:=newOld j o k h2 hk hh;rw [h5];exact s3.nz id o' h3 h4
  rcases parts i oi hi with ⟨h1,⟨_,rfl⟩ | ⟨h2,h3⟩⟩ | ⟨j1,rfl,h2,k,hk⟩;exact hhi.elim;rcases parts j oj hj with ⟨h4,⟨_,rfl⟩ | ⟨h5,h6⟩⟩ | ⟨j2,rfl,h5,k2,hk2⟩;exact hhj.elim;rw [hext.b i h1,hext.b j h4];exact s1.dis i j oi oj hij h3 h6 ((Has.ext hext h1).1 hhi) ((Has.ext hext h4).1 hhj);obtain ⟨id,o',rfl,h6,h7,h8⟩:=newOld j2 oj k2 h5 hk2 hhj;rw [hext.b i h1,h8];exact newBlk id o' h6 h7 i oi h2 h3 ((Has.ext hext h1).1 hhi);obtain ⟨id,o',rfl,h6,h7,h8⟩:=newOld j1 oi k h2 hk hhi;rcases parts j oj hj with ⟨h4,⟨_,rfl⟩ | ⟨h5,h9⟩⟩ | ⟨j2,rfl,h5,k2,hk2⟩;exact hhj.elim;rw [hext.b j h4,h8];exact fun e=>newBlk id o' h6 h7 j oj h5 h9 ((Has.ext hext h4).1 hhj) e.symm;obtain ⟨id2,o2,rfl,h9,h10,h11⟩:=newOld j2 oj k2 h5 hk2 hhj;rw [h8,h11];refine s3.dis id id2 o' o2 (fun e=>?_) h6 h9 h7 h10;subst e;exact hij (by rw [Zmp (Zje huq') j1 j2 id hk hk2])
  rcases parts i o hi with ⟨h1,⟨_,rfl⟩ | ⟨h2,h3⟩⟩ | ⟨j,rfl,h2,k,hk⟩;exact hh.elim;rw [hext.b i h1];exact s1.own i o h3 ((Has.ext hext h1).1 hh);obtain ⟨id,o',rfl,h3,h4,h5⟩:=newOld j o k h2 hk hh;rw [h5];exact Eown _ (s3.own id o' h3 h4)
  ·have hbl:=s1.keep.live b h0;rw [same b hbl fun ho=>by
    rcases Eown b (.inl ho) with h | h;exact hb h
    ·exact h0 h]
   exact s1.keep.same b hb h0
  exact s3.keep.live b (s1.keep.live b h0);exact s3.zsub b (by show g2.Z b;rw [hZ2];exact s1.zsub b hz)
  ·rcases s3.znew b hz with h | h | h;exact s1.znew b (by have:g2.Z b:=h;rwa [hZ2] at this)
   exact .inr (.inl (s1.keep.free h));rcases Eown b (.inl h) with h | h;exact .inr (.inr h);exact .inr (.inl h)
 have rel:Rel ⟨st.α,σ1⟩ H g1 ⟨st.α,Zel (Zq src) 0 σ1++pksR rs y⟩ H' g4:=by
  refine ⟨by simp only [hN4];omega,hext,fun id o ho hr=>?_⟩
  have hn:id∉Zq src:=fun hm=>by
   obtain ⟨j,hj⟩:=Znt hm;have hjl:j<(pksR ps x).length:=by rw [hlen];rcases Ys j src.length with h | h;exact h;rw [Yf h] at hj;cases hj
   rcases hrow j _ _ (Yc hjl) hj with ⟨id',e,h1,h2,_⟩ | ⟨e,_⟩;cases e;have ho':σ1[id]? =some o:=ho;rw [h1] at ho';cases ho';rw [h2] at hr;cases hr;cases e
  refine ⟨?_,fun hh=>same _ (liveB id o ho hh) (notOwned id o hn ho hh)⟩;rw [Yd (by rw [hgl];exact Zbs ho)]
  exact Zbkq _ _ 0 id o (by simpa using hn) ho
 refine ⟨_,_,g4,s4,r1.trans rel,?_,rfl,hout hw'⟩;simp only [hN4];have:=hwsF g4 H' _ (pksA σ1.length rs y) (Zgy _ _ _) hsl4;rw [← l1];exact this
def Zbel:Pk->Bool
 | .int _ | .bool | .str | .err=>true
 | _=>false
theorem Zbcq: ∀{ps:List Pk} {x:PkTs ps},(ps.all fun p=>!(Zcm p))=true->pksR ps x= []
 | [],_,_=>rfl
 | p::ps,x,h=>by
  simp only [List.all_cons,Ya,YF] at h;have:=Zbcq (x:=x.2) h.2;cases p<;>first | exact this | cases h.1
theorem Zcfb {rs:List Pk} (h:rs.all Zbel=true):(rs.all fun p=>!(Zcm p))=true:=by
 rw [Yp] at h ⊢;intro p hp;have:=h p hp;cases p<;>first | rfl | cases this
theorem Zbmw {g g':Gh} {H H':Heap} {N N' M M':Nat}: ∀{rs:List Pk} {y:PkTs rs} {ws:List Value},rs.all Zbel=true->SimL g H N (pksA M rs y) ws->SimL g' H' N' (pksA M' rs y) ws
 | [],_,[],_,_=>by simp only [pksA,SimL]
 | [],_,_::_,_,h=>by simp only [pksA,SimL] at h
 | _::_,_,[],_,h=>by simp only [pksA,SimL] at h
 | p::ps,y,w::ws,hs,h=>by
  simp only [List.all_cons,Ya] at hs;simp only [pksA,SimL] at h ⊢;have ho:Zcm p=false:=by cases p<;>first | rfl | cases hs.1
  rw [ho] at h ⊢;refine ⟨?_,Zbmw hs.2 h.2⟩;cases p<;>first | (cases hs.1;done) | (have:=h.1;simp only [pkA,SimV] at this ⊢;exact this)
theorem Sim.keepAll {E:En} {st:St} {ρ:Env} {H H':Heap} {g:Gh} (s:Sim E st ρ H g) (k:Keep Nil H H'):Sim E st ρ H' g∧Rel st H g st H' g:=by
 have same: ∀b,H b≠none->H' b=H b:=fun b hb=>k.same b (fun x=>x) hb;have hext:Ext st.σ.length g H g H':=⟨fun b hz=>⟨hz,same b (s.zlive b hz)⟩,fun _ _=>rfl,fun _ _=>rfl⟩;have lv: ∀(i:Nat) (o:AObj),st.σ[i]? =some o->Has g i o->H' (g.B i)=H (g.B i):=fun i o hi hh=>same _ (by
  obtain ⟨c,T,hb⟩:=s.live hi hh;rw [hb];simp)
 refine ⟨⟨fun t=>SimV.ext (Yh _) hext _ _ (s.tmp t),fun i o hi=>SimO.ext (Yh _) hext (Zbs hi) (lv i o hi) (s.obj i o hi),s.nz,s.dis,s.own,?_,s.zsub,s.znew,fun b hz=>k.live b (s.zlive b hz),s.lay,Zoy s.zc fun b hz=>(hext.z b hz).2⟩,⟨Yh _,hext,fun i o hi _=>⟨hi,lv i o hi⟩⟩⟩;exact s.keep.then k fun b hb=>hb.elim
def Zis (j:Nat) (l:List (Nat×Ct)):Ct:=fun st args K=>match args[j]? with
 | some (.fn g [])=>match ctOf g l with
  | some c=>c st args K
  | none=>False
 | _=>False
def Zsr (P:Program) (f:FuncId):List (Nat×Ct)->Prop
 | []=>True
 | (_,c)::l=>Zk P f c∧Zsr P f l
theorem Zsr.get {P:Program} {f:FuncId} {g:Nat} {c:Ct}: ∀{l:List (Nat×Ct)},Zsr P f l->ctOf g l=some c->Zk P f c
 | [],_,h=>by simp only [ctOf] at h;cases h
 | (k,c')::l,hl,h=>by simp only [ctOf] at h;split at h;cases h;exact hl.1;exact Zsr.get hl.2 h
theorem Zlg {P:Program} {f:FuncId} {j:Nat} {l:List (Nat×Ct)} (h:Zsr P f l):Zk P f (Zis j l):=by intro E st ρ H g args vs K s ha hk;unfold Zis at hk;split at hk;split at hk;rename_i c hc;exact h.get hc E st ρ H g args vs K s ha hk;exact hk.elim;exact hk.elim
end Go.Sh
end
section
namespace Go.Sh
variable [Laid]
theorem Sim.pick {E:En} {st:St} {ρ:Env} {H:Heap} {g:Gh} (s:Sim E st ρ H g) {os:List AObj} {src:List (Option Nat)} (hlen:os.length=src.length)
  (hr: ∀(j:Nat) (o:AObj) (i:Option Nat),os[j]? =some o->src[j]? =some i->(∃id o1,i=some id∧st.σ[id]? =some o1∧isRo o1=false∧((∃T ks xs,o= .row T false ks xs∧o1=o)∨(∃T cs cs1,o= .obj T false cs∧o1= .obj T false cs1)))∨(i=none∧∃T ks,o= .row T false ks []))
  (hd: ∀(j j' id:Nat),src[j]? =some (some id)->src[j']? =some (some id)->j=j'):
  ∃g'',g''.Z=g.Z∧Srcs g g'' 0 src∧
   ∀(α'':Nat->AV) (ρ'':Env),(∀(j:Nat) (T:TypeId) (cs:List AV) (id:Nat),os[j]? =some (.obj T false cs)->src[j]? =some (some id)->∃vs,H (g.B id)=some (.cells ⟨vs⟩ T (0,0))∧SimL g'' H os.length cs vs)->
    (∀t,SimV g'' H os.length (α'' t) (ρ'' t))->Sim E ⟨α'',os⟩ ρ'' H g'':=by
 let g'':Gh:=⟨g.Z,fun i=>match src[i]? with | some (some id)=>g.B id | _=>0,fun i=>match src[i]? with | some (some id)=>g.V id | _=> .slice none 0 0⟩
 have hS:Srcs g g'' 0 src:=by
  refine ⟨fun j id hj=>⟨?_,?_⟩,fun j hj=>?_⟩
  ·show (match src[0+j]? with | some (some id)=>g.V id | _=>_)=_
   rw [Yx,hj]
  ·show (match src[0+j]? with | some (some id)=>g.B id | _=>_)=_
   rw [Yx,hj]
  ·show (match src[0+j]? with | some (some id)=>g.V id | _=>_)=_
   rw [Yx,hj]
 refine ⟨g'',rfl,hS,fun α'' ρ'' hobj hα=>?_⟩;have part: ∀(j:Nat) (o:AObj),os[j]? =some o->∃k,src[j]? =some k:=fun j o hj=>by have:=Zbs hj;exact ⟨src[j]'(by omega),by simp⟩
 have old: ∀(j:Nat) (o:AObj),os[j]? =some o->Has g'' j o->∃id o1,src[j]? =some (some id)∧st.σ[id]? =some o1∧Has g id o1∧g''.B j=g.B id:=by
  intro j o hj hh;obtain ⟨k,hk⟩:=part j o hj;rcases hr j o k hj hk with ⟨id,o1,rfl,h1,h2,h3⟩ | ⟨rfl,T,ks,rfl⟩
  ·obtain ⟨hv,hb⟩:=hS.hit j id hk;rw [Yx] at hv hb;refine ⟨id,o1,hk,h1,?_,hb⟩;rcases h3 with ⟨T,ks,xs,rfl,rfl⟩ | ⟨T,cs,cs1,rfl,rfl⟩;obtain ⟨a,n,c,h⟩:=hh;exact ⟨a,n,c,by rw [← hv];exact h⟩
   trivial
  have:=hS.nil j hk;rw [Yx] at this;obtain ⟨a,n,c,h⟩:=hh;rw [this] at h;cases h
 refine ⟨hα,fun j o hj=>?_,fun j o hj hh=>?_,fun i j oi oj hij hi hj hhi hhj=>?_,fun j o hj hh=>?_,s.keep,s.zsub,s.znew,s.zlive,s.lay,s.zc⟩
 ·obtain ⟨k,hk⟩:=part j o hj;rcases hr j o k hj hk with ⟨id,o1,rfl,h1,h2,h3⟩ | ⟨rfl,T,ks,rfl⟩;obtain ⟨hv,hb⟩:=hS.hit j id hk;rw [Yx] at hv hb;rcases h3 with ⟨T,ks,xs,rfl,rfl⟩ | ⟨T,cs,cs1,rfl,rfl⟩;have:=s.obj id _ h1;simp only [SimO] at this ⊢;rw [hv,hb];exact this;obtain ⟨vs,h4,h5⟩:=hobj j T cs id hj hk;exact ⟨vs,by rw [hb];exact h4,h5⟩
  have:=hS.nil j hk;rw [Yx] at this;simp only [SimO];exact ⟨none,0,0,this,rfl,Yh _,YI _,.inl ⟨rfl,rfl⟩⟩
 obtain ⟨id,o1,_,h1,h2,h3⟩:=old j o hj hh;rw [h3];exact s.nz id o1 h1 h2;obtain ⟨id,o1,h0,h1,h2,h3⟩:=old i oi hi hhi;obtain ⟨id',o2,h4,h5,h6,h7⟩:=old j oj hj hhj;rw [h3,h7];refine s.dis id id' o1 o2 (fun e=>?_) h1 h5 h2 h6;subst e;exact hij (hd i j id h0 h4);obtain ⟨id,o1,_,h1,h2,h3⟩:=old j o hj hh;rw [h3];exact s.own id o1 h1 h2
def parO (T:TypeId) (cks:List PK) (ps:List Pk) (o:PTup cks) (x:PkTs ps):St:=
 ⟨fun i=>(AV.ptr 0 0::pksA (1+(Zu cks o).length) ps x).getD i .undef,.obj T false (avsY 1 cks o)::(Zu cks o++pksR ps x)⟩
def outO (T:TypeId) (cks:List PK) (rs:List Pk) (st:St) (a:AV) (K:PTup cks->PkTs rs->Prop):Prop:=match st.σ[(0:Nat)]? with
 | some (.obj T' false cs)=>match outL rs a with
  | some as=>match Nat.beq T' T,frzY st.σ cks cs with
   | true,some σ1=>match frzP σ1 rs as with
    | some σ2=>match Zgz σ2 cks cs,Zdp σ2 rs as with
     | some (o,s1),some (y,s2)=>match Zdb (Zq (s1++s2)) with
      | true=>K o y
      | false=>False
     | _,_=>False
    | none=>False
   | _,_=>False
  | none=>False
 | _=>False
def FnO (P:Program) (f:FuncId) (T:TypeId) (cks:List PK) (ps rs:List Pk) (q:PTup cks->PkTs ps->(PTup cks->PkTs rs->Prop)->Prop):Prop:=
 ∀(o:PTup cks) (x:PkTs ps) (K:PTup cks->PkTs rs->Prop),q o x K->∀(H:Heap) (g:Gh) (vs:List Value),vs.length=ps.length+1->Sim ⟨H,Zbc g (parO T cks ps o x).σ,g.Z⟩ (parO T cks ps o x) (env0 vs) H g->
  FnW P f ⟨vs⟩ H fun v H'=>∃a st' ρ' g',Sim ⟨H,Zbc g (parO T cks ps o x).σ,g.Z⟩ st' ρ' H' g'∧SimV g' H' st'.σ.length a v∧g'.B 0=g.B 0∧outO T cks rs st' a K
theorem Zbfg {P:Program} {f:FuncId} {fn:Func} {plan:PPlan} {c:Code} {tab:Tab} {T:TypeId} {cks:List PK} {ps rs:List Pk} (k:Known P f fn plan.plan c) (ht:Zlv P tab) (hlen:Nat.ble (ps.length+1) fn.ntmps=true):
  FnO P f T cks ps rs fun o x K=>Zbl P tab plan c (parO T cks ps o x) (PRet P fn.results.toList fun a st=>outO T cks rs st a K):=by
 intro o x K h H g vs hvs s;refine (FnP k ht (by rw [hvs];exact hlen) s h).mono fun v H' hk=>?_
 obtain ⟨a,st',ρ',g',h1,h2,h3,h4⟩:=hk;exact ⟨a,st',ρ',g',h1,h3,h2.ext.b 0 (by simp [parO]),h4⟩
theorem FnO.of_eq {P:Program} {f:FuncId} {T:TypeId} {cks:List PK} {ps rs:List Pk} {q q':PTup cks->PkTs ps->(PTup cks->PkTs rs->Prop)->Prop} (h:FnO P f T cks ps rs q') (e:q=q'):FnO P f T cks ps rs q:=e▸h
def Znl (T:TypeId) (cks:List PK) (ps rs:List Pk) (q:PTup cks->PkTs ps->(PTup cks->PkTs rs->Prop)->Prop):Ct:=fun st args K=>match args with
 | .ptr id 0::args=>match st.σ[id]? with
  | some (.obj T' false cs)=>match Nat.beq T' T,frzY st.σ cks cs with
   | true,some σ1=>match frzP σ1 ps args with
    | some σ2=>match Zgz σ2 cks cs,Zdp σ2 ps args with
     | some (o,s1),some (x,s2)=>match Zdb (Zq (s1++s2)) with
      | true=>WfY cks o->WfPs ps x->q o x fun o' y=>WfY cks o'->WfPs rs y->
        K (outA (pksA (st.σ.length+(Zu cks o').length) rs y)) ⟨st.α,(Zel (Zq (s1++s2)) 0 σ2).set id (.obj T false (avsY st.σ.length cks o'))++(Zu cks o'++pksR rs y)⟩
      | false=>False
     | _,_=>False
    | none=>False
   | _,_=>False
  | _=>False
 | _=>False
theorem Zbgv: ∀(ps:List Pk) (as:List AV) (σ σ':List AObj),frzP σ ps as=some σ'->∀{id:Nat} {T:TypeId} {r:Bool} {cs:List AV},σ[id]? =some (.obj T r cs)->σ'[id]? =some (.obj T r cs)
 | [],[],σ,σ',h,_,_,_,_,ho=>by simp only [frzP,Option.some.injEq] at h;subst h;exact ho
 | [],_::_,_,_,h,_,_,_,_,_=>by simp only [frzP] at h;cases h
 | _::_,[],_,_,h,_,_,_,_,_=>by simp only [frzP] at h;cases h
 | p::ps,a::as,σ,σ',h,_,_,_,_,ho=>by
  simp only [frzP] at h;split at h;exact Zbgv ps as σ σ' h ho
  ·split at h
   ·rename_i σ1 hf;refine Zbgv ps as σ1 σ' h ?_;have: ∀(l:List AV) (σ σ':List AObj),frzL σ l=some σ'->∀{id:Nat} {T:TypeId} {r:Bool} {cs:List AV},σ[id]? =some (.obj T r cs)->σ'[id]? =some (.obj T r cs):=by
     intro l;induction l with
     | nil=>intro σ σ' h _ _ _ _ ho;simp only [frzL,Option.some.injEq] at h;subst h;exact ho
     | cons a l ih=>
      intro σ σ' h _ _ _ _ ho;simp only [frzL] at h;split at h;rename_i σ2 hf2;exact ih σ2 σ' h (Zbwl hf2 ho);cases h
    exact this _ _ _ hf ho
   cases h
theorem Srcs.left {g g'':Gh} {N:Nat} {s1 s2:List (Option Nat)} (h:Srcs g g'' N (s1++s2)):Srcs g g'' N s1:=
 ⟨fun j id hj=>h.hit j id (by rw [Yd];exact hj;rcases Ys j s1.length with h | h;exact h;rw [Yf h] at hj;cases hj),fun j hj=>h.nil j (by rw [Yd];exact hj;rcases Ys j s1.length with h | h;exact h;rw [Yf h] at hj;cases hj)⟩
theorem Srcs.right {g g'':Gh} {N:Nat} {s1 s2:List (Option Nat)} (h:Srcs g g'' N (s1++s2)):Srcs g g'' (N+s1.length) s2:=
 ⟨fun j id hj=>by have:=h.hit (s1.length+j) id (by rw [Yg (by omega),YN];exact hj);rwa [YQ],fun j hj=>by have:=h.nil (s1.length+j) (by rw [Yg (by omega),YN];exact hj);rwa [YQ]⟩
theorem Zbed {P:Program} {f:FuncId} {T:TypeId} {cks:List PK} {ps rs:List Pk} {q:PTup cks->PkTs ps->(PTup cks->PkTs rs->Prop)->Prop} (hq:FnO P f T cks ps rs q):Zk P f (Znl T cks ps rs q):=by
 intro E st ρ H g args0 vs0 K s hargs0 h;unfold Znl at h;split at h
 case h_2=>exact h.elim
 rename_i id args;split at h
 case h_2=>exact h.elim
 rename_i T' cs hobj;split at h
 case h_2=>exact h.elim
 rename_i σ1 hT hfr1;have hT:=Ye hT;subst hT;split at h
 case h_2=>exact h.elim
 rename_i σ2 hfr2;split at h
 case h_2=>exact h.elim
 rename_i o s1 x s2 hrd htk;split at h
 case h_2=>exact h.elim
 rename_i huq;obtain ⟨g1,sm1,r1,l1,f1,k1⟩:=Zuv cks cs st.σ σ1 g s hfr1;obtain ⟨g2,sm2,r2,l2,f2,k2⟩:=Zih ps args σ1 σ2 g1 sm1 hfr2;have rel2:=r1.trans r2;have hobj2:σ2[id]? =some (.obj T' false cs):=Zbgv _ _ _ _ hfr2 (Zhg _ _ _ _ hfr1 hobj);have hl:σ2.length=st.σ.length:=l2.trans l1;cases vs0 with
 | nil=>simp only [SimL] at hargs0
 | cons v0 vs=>
 simp only [SimL] at hargs0;obtain ⟨hv0,hargs⟩:=hargs0;have hargs2:=SimL.ext rel2.len rel2.ext _ _ hargs;have hv02:=SimV.ext rel2.len rel2.ext _ _ hv0;obtain ⟨vcs,hblk,hvcs⟩:=sm2.obj id _ hobj2;obtain ⟨hw1,hlen1,hrow1,hsim1⟩:=Zva sm2 hrd hvcs (fun k ks' i id' h1 h2 h3=>by
  obtain ⟨ks,xs,h4⟩:=f1 k ks' i id' h1 h2 h3;exact ⟨ks,xs,k2 _ _ _ h4⟩)
 obtain ⟨hw2,hlen2,hrow2,hsim2⟩:=Zkw sm2 htk hargs2 f2;have hnd:=Zje huq;have hrowA: ∀(j:Nat) (o':AObj) (i:Option Nat),(Zu cks o++pksR ps x)[j]? =some o'->(s1++s2)[j]? =some i->(∃id,i=some id∧σ2[id]? =some o'∧isRo o'=false∧(∃T ks xs,o'= .row T false ks xs))∨(i=none∧∃T ks,o'= .row T false ks []):=by
  intro j o' i ho hi;rcases Ys j (Zu cks o).length with hj | hj
  ·rw [Yd hj] at ho;rw [Yd (by omega)] at hi
   exact hrow1 j o' i ho hi
  ·rw [Yg hj] at ho;rw [Yg (by omega),← hlen1] at hi
   exact hrow2 _ o' i ho hi
 have hsrcRow: ∀{id':Nat},id'∈Zq (s1++s2)->∃T ks xs,σ2[id']? =some (.row T false ks xs):=fun {id'} hm=>by
  obtain ⟨j,hj⟩:=Znt hm;have hjl:j<(Zu cks o++pksR ps x).length:=by rw [Yb,hlen1,hlen2,← Yb];rcases Ys j (s1++s2).length with h | h;exact h;rw [Yf h] at hj;cases hj
  rcases hrowA j _ _ (Yc hjl) hj with ⟨id'',e,h1,_,T,ks,xs,h2⟩ | ⟨e,_⟩;cases e;exact ⟨T,ks,xs,by rw [h1,h2]⟩
  cases e
 have hidn:id∉Zq (s1++s2):=fun hm=>by obtain ⟨T,ks,xs,h1⟩:=hsrcRow hm;rw [hobj2] at h1;cases h1
 obtain ⟨g3,hZ3,hS3,hfin⟩:=sm2.pick (os:=(parO T' cks ps o x).σ) (src:=some id::(s1++s2)) (by simp [parO,hlen1,hlen2]) (fun j o' i ho hi=>by
   cases j with
   | zero=>
    simp [parO] at ho hi;subst ho hi;exact .inl ⟨id,_,rfl,hobj2,rfl,.inr ⟨T',_,cs,rfl,rfl⟩⟩
   | succ j=>
    simp only [parO,List.getElem?_cons_succ] at ho hi;rcases hrowA j o' i ho hi with ⟨id',rfl,h1,h2,T,ks,xs,rfl⟩ | h;exact .inl ⟨id',_,rfl,h1,h2,.inl ⟨T,ks,xs,rfl,rfl⟩⟩
    ·exact .inr h)
  (Zmp (by simp only [Zq];exact Yt.2 ⟨hidn,hnd⟩))
 have hS3':Srcs g2 g3 1 (s1++s2):=hS3.tail;have hlenO:(parO T' cks ps o x).σ.length=1+(Zu cks o).length+(pksR ps x).length:=by simp [parO];omega
 have hslC:=hsim1 g3 1 (parO T' cks ps o x).σ.length hS3'.left (by rw [hlenO];omega) hZ3
 have hslP:=hsim2 g3 (1+(Zu cks o).length) (parO T' cks ps o x).σ.length (by rw [hlen1];exact hS3'.right) (by rw [hlenO];omega) hZ3
 have hB0:g3.B 0=g2.B id:=by have:=(hS3.hit 0 id rfl).2;simpa using this
 have hparm:SimL g3 H (parO T' cks ps o x).σ.length (AV.ptr 0 0::pksA (1+(Zu cks o).length) ps x) (v0::vs):=by simp only [SimL];refine ⟨?_,hslP⟩;simp only [SimV] at hv02 ⊢;exact ⟨by rw [hlenO];omega,by rw [hB0];exact hv02.2⟩
 have sO:Sim E (parO T' cks ps o x) (env0 (v0::vs)) H g3:=by
  refine hfin (parO T' cks ps o x).α (env0 (v0::vs)) (fun j T cs' id' hj hs'=>?_) (fun t=>?_)
  ·cases j with
   | zero=>
    simp [parO] at hj hs';obtain ⟨rfl,rfl⟩:=hj;subst hs';exact ⟨vcs,hblk,hslC⟩
   | succ j=>
    simp only [parO,List.getElem?_cons_succ] at hj hs';rcases hrowA j _ _ hj hs' with ⟨_,_,_,_,T,ks,xs,h⟩ | ⟨_,T,ks,h⟩<;>cases h
  exact Zla hparm t
 have hvl:(v0::vs).length=ps.length+1:=by rw [List.length_cons,← hargs.len,Zkg htk]
 refine (hq o x _ (h hw1 hw2) H g3 (v0::vs) hvl sO.enter).mono fun v H' hk=>?_;obtain ⟨a,st',ρ',g',s',hav,hB',hout⟩:=hk;unfold outO at hout;split at hout
 case h_2=>exact hout.elim
 rename_i T2 cs' hobj';split at hout
 case h_2=>exact hout.elim
 rename_i as hol;split at hout
 case h_2=>exact hout.elim
 rename_i τ1 hT2 hfr1';have hT2:=Ye hT2;subst hT2;split at hout
 case h_2=>exact hout.elim
 rename_i τ2 hfr2';split at hout
 case h_2=>exact hout.elim
 rename_i o' t1 y t2 hrd' htk';split at hout
 case h_2=>exact hout.elim
 rename_i huq';obtain ⟨g4,sn1,rn1,ln1,fn1,kn1⟩:=Zuv cks cs' st'.σ τ1 g' s' hfr1';obtain ⟨g5,sn2,rn2,ln2,fn2,_⟩:=Zih rs as τ1 τ2 g4 sn1 hfr2';have reln:=rn1.trans rn2;have hobjn:τ2[0]? =some (.obj T2 false cs'):=Zbgv _ _ _ _ hfr2' (Zhg _ _ _ _ hfr1' hobj');obtain ⟨ws,hws,hwsF⟩:=Zuk hol (Zkg htk') hav;have hws5:=SimL.ext reln.len reln.ext _ _ hws;obtain ⟨vcn,hblkn,hvcn⟩:=sn2.obj 0 _ hobjn;have hB5:g5.B 0=g2.B id:=by have h1:g5.B 0=g'.B 0:=reln.ext.b 0 (Zbs hobj');rw [h1,hB',hB0]
 rw [hB5] at hblkn;obtain ⟨hwn1,hlenn1,hrown1,hsimn1⟩:=Zva sn2 hrd' hvcn (fun k ks' i id' h1 h2 h3=>by
  obtain ⟨ks,xs,h4⟩:=fn1 k ks' i id' h1 h2 h3;obtain ⟨_,_,_,_,_,k5⟩:=Zih rs as τ1 τ2 g4 sn1 hfr2';exact ⟨ks,xs,k5 _ _ _ h4⟩)
 obtain ⟨hwn2,hlenn2,hrown2,hsimn2⟩:=Zkw sn2 htk' hws5 fn2;have hndn:=Zje huq';have ownE: ∀b,Zbc g3 (parO T2 cks ps o x).σ b->∃id',(id'=id∨id'∈Zq (s1++s2))∧∃o1,σ2[id']? =some o1∧Has g2 id' o1∧b=g2.B id':=by
  rintro b ⟨i,oi,hi,hh,rfl⟩;cases i with
  | zero=>exact ⟨id,.inl rfl,_,hobj2,trivial,hB0⟩
  | succ i=>
   simp only [parO,List.getElem?_cons_succ] at hi;have hil:i<(Zu cks o++pksR ps x).length:=Zbs hi;obtain ⟨k,hk⟩: ∃k,(s1++s2)[i]? =some k:=⟨(s1++s2)[i]'(by rw [Yb] at hil ⊢;omega),by simp⟩
   rcases hrowA i oi k hi hk with ⟨id',rfl,h1,h2,T,ks,xs,rfl⟩ | ⟨rfl,T,ks,rfl⟩;have hh':=hS3'.hit i id' hk;rw [Y7 1 i] at hh';refine ⟨id',.inr (Zmb hk),_,h1,?_,hh'.2⟩;obtain ⟨a,n,c,h⟩:=hh;exact ⟨a,n,c,by rw [← hh'.1];exact h⟩
   have hh':=hS3'.nil i hk;rw [Y7 1 i] at hh';obtain ⟨a,n,c,h⟩:=hh;rw [hh'] at h;cases h
 have liveB: ∀(i:Nat) (oi:AObj),σ2[i]? =some oi->Has g2 i oi->H (g2.B i)≠none:=fun i oi hi hh=>by obtain ⟨c,T,hb⟩:=sm2.live hi hh;rw [hb];simp
 have notOwned: ∀(i:Nat) (oi:AObj),i≠id->i∉Zq (s1++s2)->σ2[i]? =some oi->Has g2 i oi->¬Zbc g3 (parO T2 cks ps o x).σ (g2.B i):=fun i oi hne hn hi hh ho=>by obtain ⟨id',hid',o1,h1,h2,h3⟩:=ownE _ ho;refine sm2.dis i id' oi o1 (fun e=>?_) hi h1 hh h2 h3;subst e;rcases hid' with h | h;exact hne h;exact hn h
 have zNotOwned: ∀b,g2.Z b->¬Zbc g3 (parO T2 cks ps o x).σ b:=fun b hz ho=>by obtain ⟨id',_,o1,h1,h2,rfl⟩:=ownE _ ho;exact sm2.nz id' o1 h1 h2 hz
 have same: ∀b,H b≠none->¬Zbc g3 (parO T2 cks ps o x).σ b->H' b=H b:=fun b hb ho=>sn2.keep.same b ho hb
 let rw':=Zu cks o'++pksR rs y
 let g6:Gh:=⟨g5.Z,fun i=>if i<σ2.length then g2.B i else match (t1++t2)[i - σ2.length]? with | some (some id)=>g5.B id | _=>0,fun i=>if i<σ2.length then g2.V i else match (t1++t2)[i - σ2.length]? with | some (some id)=>g5.V id | _=> .slice none 0 0⟩
 have hext:Ext σ2.length g2 H g6 H':=⟨fun b hz=>⟨sn2.zsub b (by show g3.Z b;rw [hZ3];exact hz),same b (sm2.zlive b hz) (zNotOwned b hz)⟩,fun i hi=>if_pos hi,fun i hi=>if_pos hi⟩
 have hS6:Srcs g5 g6 σ2.length (t1++t2):=by
  refine ⟨fun j id hj=>⟨?_,?_⟩,fun j hj=>?_⟩
  ·show (if σ2.length+j<σ2.length then _ else _)=_
   rw [if_neg (by omega),YN,hj]
  ·show (if σ2.length+j<σ2.length then _ else _)=_
   rw [if_neg (by omega),YN,hj]
  ·show (if σ2.length+j<σ2.length then _ else _)=_
   rw [if_neg (by omega),YN,hj]
 have hgl:=Zbop (Zq (s1++s2)) σ2 0
 let base:=(Zel (Zq (s1++s2)) 0 σ2).set id (.obj T2 false (avsY σ2.length cks o'))
 have hbl:base.length=σ2.length:=by simp [base,hgl]
 have hidl:=Zbs hobj2;have hN6:(base++(Zu cks o'++pksR rs y)).length=σ2.length+((Zu cks o').length+(pksR rs y).length):=by simp [hbl]
 have parts: ∀(i:Nat) (oi:AObj),(base++(Zu cks o'++pksR rs y))[i]? =some oi->(i<σ2.length∧((i∈Zq (s1++s2)∧oi= .gone)∨(i=id∧oi= .obj T2 false (avsY σ2.length cks o'))∨(i≠id∧i∉Zq (s1++s2)∧σ2[i]? =some oi)))∨
   (∃j,i=σ2.length+j∧(Zu cks o'++pksR rs y)[j]? =some oi∧∃k,(t1++t2)[j]? =some k):=by
  intro i oi hi;rcases Ys i σ2.length with h | h
  ·rw [Yd (by omega)] at hi
   refine .inl ⟨h,?_⟩;simp only [base,YA] at hi;by_cases e:id=i
   ·subst e;rw [if_pos rfl,if_pos (by omega)] at hi
    cases hi;exact .inr (.inl ⟨rfl,rfl⟩)
   rw [if_neg e] at hi;have:=Zbpq _ _ _ _ _ hi;simp only [Yx] at this;rcases this with ⟨h1,h2⟩ | ⟨h1,h2⟩;exact .inl ⟨h1,h2⟩;exact .inr (.inr ⟨fun e'=>e e'.symm,h1,h2⟩)
  ·rw [Yg (by omega),hbl] at hi
   have:i - σ2.length<(Zu cks o'++pksR rs y).length:=Zbs hi;rw [Yb] at this;exact .inr ⟨i - σ2.length,by omega,hi,(t1++t2)[i - σ2.length]'(by rw [Yb];omega),by simp⟩
 have hrowN: ∀(j:Nat) (oj:AObj) (i:Option Nat),(Zu cks o'++pksR rs y)[j]? =some oj->(t1++t2)[j]? =some i->(∃id,i=some id∧τ2[id]? =some oj∧isRo oj=false∧(∃T ks xs,oj= .row T false ks xs))∨(i=none∧∃T ks,oj= .row T false ks []):=by
  intro j oj i ho hi;rcases Ys j (Zu cks o').length with hj | hj
  ·rw [Yd hj] at ho;rw [Yd (by omega)] at hi
   exact hrown1 j oj i ho hi
  ·rw [Yg hj] at ho;rw [Yg (by omega),← hlenn1] at hi
   exact hrown2 _ oj i ho hi
 have newOld: ∀(j:Nat) (oj:AObj) (k:Option Nat),(Zu cks o'++pksR rs y)[j]? =some oj->(t1++t2)[j]? =some k->Has g6 (σ2.length+j) oj->∃id' o1,k=some id'∧id'≠0∧τ2[id']? =some o1∧Has g5 id' o1∧g6.B (σ2.length+j)=g5.B id':=by
  intro j oj k hj hk hh;rcases hrowN j oj k hj hk with ⟨id',rfl,h1,_,T,ks,xs,rfl⟩ | ⟨rfl,T,ks,rfl⟩
  ·obtain ⟨hv,hb⟩:=hS6.hit j id' hk;obtain ⟨a,n,c,h⟩:=hh;refine ⟨id',_,rfl,fun e=>?_,h1,⟨a,n,c,by rw [← hv];exact h⟩,hb⟩
   subst e;rw [hobjn] at h1;cases h1
  obtain ⟨a,n,c,h⟩:=hh;rw [hS6.nil j hk] at h;cases h
 have newBlk: ∀id' o1,id'≠0->τ2[id']? =some o1->Has g5 id' o1->∀(i:Nat) (oi:AObj),i∉Zq (s1++s2)->σ2[i]? =some oi->Has g2 i oi->g2.B i≠g5.B id':=by
  intro id' o1 h0 h1 h2 i oi hn hi hh e;by_cases hii:i=id;subst hii;rw [← hB5] at e;exact sn2.dis 0 id' _ o1 (fun e'=>h0 e'.symm) hobjn h1 trivial h2 e
  ·rcases sn2.own id' o1 h1 h2 with h | h;exact notOwned i oi hii hn hi hh (by rw [e];exact h)
   exact liveB i oi hi hh (by rw [e];exact h)
 have hN6':σ2.length+(t1++t2).length <= (base++(Zu cks o'++pksR rs y)).length:=by rw [hN6,Yb];omega
 have hslC6:=hsimn1 g6 σ2.length (base++(Zu cks o'++pksR rs y)).length hS6.left (by rw [Yb] at hN6';omega) rfl
 have hslP6:=hsimn2 g6 (σ2.length+(Zu cks o').length) (base++(Zu cks o'++pksR rs y)).length (by rw [hlenn1];exact hS6.right) (by rw [hN6];omega) rfl
 have Eown: ∀b,(Zbc g3 (parO T2 cks ps o x).σ b∨H b=none)->E.O0 b∨E.H0 b=none:=fun b hb=>by rcases hb with h | h;obtain ⟨id',_,o1,h1,h2,rfl⟩:=ownE _ h;exact sm2.own id' o1 h1 h2;exact .inr (sm2.keep.free h)
 have s6:Sim E ⟨st.α,base++(Zu cks o'++pksR rs y)⟩ ρ H' g6:=by
  refine ⟨fun t=>?_,fun i oi hi=>?_,fun i oi hi hh=>?_,fun i j oi oj hij hi hj hhi hhj=>?_,fun i oi hi hh=>?_,⟨fun b hb h0=>?_,fun b h0=>?_⟩,fun b hz=>?_,fun b hz=>?_,fun b hz=>sn2.zlive b hz,s.lay,fun b hz=>by
   rcases sn2.zc b hz with h | h
   ·have h1:g2.Z b:=by have:g3.Z b:=h;rwa [hZ3] at this
    rcases sm2.zc b h1 with h2 | h2;exact .inl h2
    ·exact .inr fun ds=>by rw [same b (sm2.zlive b h1) (zNotOwned b h1)];exact h2 ds
   ·exact .inr h⟩
  simp only [hN6];exact SimV.ext (Yya _ _) hext _ _ (sm2.tmp t)
  ·rcases parts i oi hi with ⟨h1,⟨_,rfl⟩ | ⟨rfl,rfl⟩ | ⟨h0,h2,h3⟩⟩ | ⟨j,rfl,h2,k,hk⟩;trivial;exact ⟨vcn,by rw [hext.b _ h1];exact hblkn,hslC6⟩
   simp only [hN6];exact SimO.ext (Yya _ _) hext h1 (fun hh=>same _ (liveB i oi h3 hh) (notOwned i oi h0 h2 h3 hh)) (sm2.obj i oi h3);rcases hrowN j oi k h2 hk with ⟨id',rfl,h3,_,T,ks,xs,rfl⟩ | ⟨rfl,T,ks,rfl⟩;obtain ⟨hv,hb⟩:=hS6.hit j id' hk;have:=sn2.obj id' _ h3;simp only [SimO] at this ⊢;rw [hv,hb];exact this;simp only [SimO];exact ⟨none,0,0,hS6.nil j hk,rfl,Yh _,YI _,.inl ⟨rfl,rfl⟩⟩
  ·rcases parts i oi hi with ⟨h1,⟨_,rfl⟩ | ⟨rfl,rfl⟩ | ⟨h0,h2,h3⟩⟩ | ⟨j,rfl,h2,k,hk⟩;exact hh.elim;rw [hext.b _ h1,← hB5];exact sn2.nz 0 _ hobjn trivial
   ·rw [hext.b i h1];have hh1:=(Has.ext hext h1).1 hh;intro hz;rcases sn2.znew _ hz with h | h | h;exact sm2.nz i oi h3 hh1 (by have:g3.Z (g2.B i):=h;rwa [hZ3] at this)
    exact liveB i oi h3 hh1 h;exact notOwned i oi h0 h2 h3 hh1 h
   obtain ⟨id',o1,rfl,h3,h4,h5,h6⟩:=newOld j oi k h2 hk hh;rw [h6];exact sn2.nz id' o1 h4 h5
  ·
   have asOld: ∀(i:Nat) (oi:AObj),(base++(Zu cks o'++pksR rs y))[i]? =some oi->Has g6 i oi->(i<σ2.length∧i∉Zq (s1++s2)∧∃o1,σ2[i]? =some o1∧Has g2 i o1)∨(∃j id' o1,i=σ2.length+j∧(t1++t2)[j]? =some (some id')∧id'≠0∧τ2[id']? =some o1∧Has g5 id' o1∧g6.B i=g5.B id'):=by intro i oi hi hh;rcases parts i oi hi with ⟨h1,⟨_,rfl⟩ | ⟨rfl,rfl⟩ | ⟨h0,h2,h3⟩⟩ | ⟨j,rfl,h2,k,hk⟩;exact hh.elim;exact .inl ⟨h1,hidn,_,hobj2,trivial⟩;exact .inl ⟨h1,h2,oi,h3,(Has.ext hext h1).1 hh⟩;obtain ⟨id',o1,rfl,h3,h4,h5,h6⟩:=newOld j oi k h2 hk hh;exact .inr ⟨j,id',o1,rfl,hk,h3,h4,h5,h6⟩
   rcases asOld i oi hi hhi with ⟨h1,h2,o1,h3,h4⟩ | ⟨j1,id1,o1,rfl,h2,h3,h4,h5,h6⟩;rcases asOld j oj hj hhj with ⟨h5,h6,o2,h7,h8⟩ | ⟨j2,id2,o2,rfl,h6,h7,h8,h9,h10⟩;rw [hext.b i h1,hext.b j h5];exact sm2.dis i j o1 o2 hij h3 h7 h4 h8;rw [hext.b i h1,h10];exact newBlk id2 o2 h7 h8 h9 i o1 h2 h3 h4;rcases asOld j oj hj hhj with ⟨h7,h8,o2,h9,h10⟩ | ⟨j2,id2,o2,rfl,h7,h8,h9,h10,h11⟩;rw [hext.b j h7,h6];exact fun e=>newBlk id1 o1 h3 h4 h5 j o2 h8 h9 h10 e.symm;rw [h6,h11];refine sn2.dis id1 id2 o1 o2 (fun e=>?_) h4 h9 h5 h10;subst e;exact hij (by rw [Zmp hndn j1 j2 id1 h2 h7])
  rcases parts i oi hi with ⟨h1,⟨_,rfl⟩ | ⟨rfl,rfl⟩ | ⟨h0,h2,h3⟩⟩ | ⟨j,rfl,h2,k,hk⟩;exact hh.elim;rw [hext.b _ h1];exact sm2.own _ _ hobj2 trivial;rw [hext.b i h1];exact sm2.own i oi h3 ((Has.ext hext h1).1 hh);obtain ⟨id',o1,rfl,h3,h4,h5,h6⟩:=newOld j oi k h2 hk hh;rw [h6];exact Eown _ (sn2.own id' o1 h4 h5)
  ·have hbl':=sm2.keep.live b h0;rw [same b hbl' fun ho=>by
    rcases Eown b (.inl ho) with h | h;exact hb h
    ·exact h0 h]
   exact sm2.keep.same b hb h0
  exact sn2.keep.live b (sm2.keep.live b h0);exact sn2.zsub b (by show g3.Z b;rw [hZ3];exact sm2.zsub b hz)
  ·rcases sn2.znew b hz with h | h | h;exact sm2.znew b (by have:g3.Z b:=h;rwa [hZ3] at this)
   exact .inr (.inl (sm2.keep.free h));rcases Eown b (.inl h) with h | h;exact .inr (.inr h);exact .inr (.inl h)
 have rel:Rel ⟨st.α,σ2⟩ H g2 ⟨st.α,base++(Zu cks o'++pksR rs y)⟩ H' g6:=by
  refine ⟨by rw [hN6];exact Yya _ _,hext,fun i oi ho hr=>?_⟩
  have ho':σ2[i]? =some oi:=ho;have hn:i∉Zq (s1++s2):=fun hm=>by obtain ⟨T,ks,xs,h1⟩:=hsrcRow hm;rw [ho'] at h1;cases h1;simp [isRo] at hr
  have hne:i≠id:=fun e=>by subst e;rw [hobj2] at ho';cases ho';simp [isRo] at hr
  refine ⟨?_,fun hh=>same _ (liveB i oi ho' hh) (notOwned i oi hne hn ho' hh)⟩;rw [Yd (by rw [hbl];exact Zbs ho')]
  simp only [base,YA];rw [if_neg (fun e=>hne e.symm)];exact Zbkq _ _ 0 i oi (by simpa using hn) ho'
 refine ⟨_,⟨st.α,(Zel (Zq (s1++s2)) 0 σ2).set id (.obj T2 false (avsY st.σ.length cks o'))++(Zu cks o'++pksR rs y)⟩,g6,?_,?_,?_,rfl,hout hwn1 hwn2⟩;rw [← hl];exact s6;rw [← hl];exact rel2.trans rel;rw [← hl];exact hwsF g6 H' _ (pksA (σ2.length+(Zu cks o').length) rs y) (Zgy _ _ _) hslP6
end Go.Sh
end
section
namespace Go.Sh
variable [Laid]
open Go.ChangeShapes Go.WideShapes Go.ChangeAt Go.RowKit
def alK:Kd->Nat
 | .int .i8=>1 | .int .u8=>1 | .int .i16=>2 | .int .u16=>2 | .int .i32=>4 | .int .u32=>4 | .int .i64=>8 | .int .u64=>8
 | .bool=>1 | .str=>8 | .lst _=>8
def szK:Kd->Nat
 | .int .i8=>1 | .int .u8=>1 | .int .i16=>2 | .int .u16=>2 | .int .i32=>4 | .int .u32=>4 | .int .i64=>8 | .int .u64=>8
 | .bool=>1 | .str=>16 | .lst _=>24
def layK:List Kd->Nat->Nat->Nat
 | [],off,al=>(off+al - 1)/al*al
 | k::ks,off,al=>layK ks ((off+alK k - 1)/alK k*alK k+szK k) (max al (alK k))
def Zbmy (ks:List Kd):Nat:=layK ks 0 1
mutual
def SzE:(k:Kd)->El k->Prop
 | .int _,_=>True
 | .bool,_=>True
 | .str,s=>s.length <= 140737488351232
 | .lst ks,xs=>(asL xs).length*Zbmy ks <= 140737488351232∧∀x,x∈asL xs->SzT ks x
def SzT:(ks:List Kd)->Tp ks->Prop
 | [],_=>True
 | k::ks,x=>SzE k (hdT ks x)∧SzT ks (tlT ks x)
end
def SzPk:(p:Pk)->PkT p->Prop
 | .int _,_=>True
 | .bool,_=>True
 | .str,s=>s.length <= 140737488351232
 | .lst ks,xs=>SzE (.lst ks) xs
 | .agg ks,x=>SzT ks x
 | .err,_=>True
 | .own _ ks,xs=>SzE (.lst ks) xs
 | .fn _,_=>True
 | .nil,_=>True
def SzPs:(ps:List Pk)->PkTs ps->Prop
 | [],_=>True
 | p::ps,x=>SzPk p x.1∧SzPs ps x.2
def Zrk (P:Program) (k:TypeId->Option (List Kd)):List Field->Nat->Option (List Kd)
 | [],_=>some []
 | f::fs,off=>match k f.type with
  | some ks=>match Nat.beq f.offset off&&Nat.beq (P.cellsOf f.type) ks.length,Zrk P k fs (off+ks.length) with
   | true,some r=>some (ks++r)
   | _,_=>none
  | none=>none
def kdL (P:Program):Nat->TypeId->Option (List Kd)
 | 0,_=>none
 | d+1,t=>match P.underlying t with
  | some (.int k)=>some [.int k]
  | some .bool=>some [.bool]
  | some .string=>some [.str]
  | some (.slice e)=>match kdL P d e with
   | some (k::ks)=>match Nat.beq (P.cellsOf e) (ks.length+1)&&Nat.ble (Zbmy (k::ks)) (P.bytesOf e) with
    | true=>some [.lst (k::ks)]
    | false=>none
   | _=>none
  | some (.struct fs)=>match Zrk P (kdL P d) fs.toList 0 with
   | some ks=>match Nat.beq (P.cellsOf t) ks.length with
    | true=>some ks
    | false=>none
   | none=>none
  | some (.array n e)=>match kdL P d e with
   | some ks=>match Nat.beq (P.cellsOf e) ks.length&&Nat.beq (P.cellsOf t) (n*ks.length) with
    | true=>some (List.replicate n ks).flatten
    | false=>none
   | none=>none
  | _=>none
theorem Ze.same {Z:Nat->Prop} {H:Heap}: ∀(ks:List Kd) (x:Tp ks) (f g:Nat->Option Value),(∀j,j<ks.length->f j=g j)->Ze Z H ks x f->Ze Z H ks x g
 | [],_,_,_,_,_=>by simp only [Ze]
 | k::ks,x,f,g,h,hc=>by simp only [Ze] at hc ⊢;obtain ⟨⟨v,hv,ho⟩,hr⟩:=hc;exact ⟨⟨v,by rw [← h 0 (by simp)];exact hv,ho⟩,Ze.same ks _ _ _ (fun j hj=>h (j+1) (by simp;omega)) hr⟩
theorem Zpd {Z:Nat->Prop} {H:Heap} {k:Kd} {x:El k} {v:Value} (h:Zb Z H k x v) (hz:SzE k x): ∃y:Tp [k],Ze Z H [k] y (fun j=>[v][j]?)∧SzT [k] y:=
 ⟨(mkT [] x ():Tp [k]),by simp only [Ze];exact ⟨⟨v,rfl,h⟩,trivial⟩,by simp only [SzT];exact ⟨hz,trivial⟩⟩
theorem Ze.cat {Z:Nat->Prop} {H:Heap}: ∀(ks ks':List Kd) (x:Tp ks) (x':Tp ks') (f:Nat->Option Value),Ze Z H ks x f->Ze Z H ks' x' (fun j=>f (ks.length+j))->SzT ks x->SzT ks' x'->∃y:Tp (ks++ks'),Ze Z H (ks++ks') y f∧SzT (ks++ks') y
 | [],ks',_,x',f,_,h,_,z=>⟨x',by simpa using h,z⟩
 | k::ks,ks',x,x',f,h1,h2,z1,z2=>by
  simp only [SzT] at z1;simp only [Ze] at h1;obtain ⟨⟨v,hv,ho⟩,hr⟩:=h1;obtain ⟨y,hy,hz⟩:=Ze.cat ks ks' (tlT ks x) x' (fun j=>f (j+1)) hr (Ze.same _ _ _ _ (fun j _=>by simp only [List.length_cons];congr 1;omega) h2) z1.2 z2
  refine ⟨(mkT (ks++ks') (hdT ks x) y:Tp (k::(ks++ks'))),?_,?_⟩
  rotate_left
  show SzT (k::(ks++ks')) _;simp only [SzT];rw [Zboe,Zbna];exact ⟨z1.1,hz⟩;show Ze Z H (k::(ks++ks')) _ f;simp only [Ze];rw [Zboe,Zbna];exact ⟨⟨v,hv,ho⟩,hy⟩
theorem Zcha {A:Type} {p:Nat->A->Prop}: ∀{n:Nat},(∀i,i<n->∃x,p i x)->∃xs:List A,xs.length=n∧∀i x,xs[i]? =some x->p i x
 | 0,_=>⟨[],rfl,fun i x h=>by simp at h⟩
 | n+1,h=>by
  obtain ⟨xs,hl,hx⟩:=Zcha (n:=n) fun i hi=>h i (by omega)
  obtain ⟨y,hy⟩:=h n (by omega)
  refine ⟨xs++[y],by simp [hl],fun i x hi=>?_⟩
  rcases Ys i n with hlt | hge
  ·rw [Yd (by omega)] at hi
   exact hx i x hi
  ·rw [Yg (by omega)] at hi
   have:i=n:=by have:=(YYa.1 hi).1;simp at this;omega
   subst this;simp [hl] at hi;subst hi;exact hy
theorem cells?_get {W:World} {base:Nat} {a:Addr} {n:Nat} {l:List Value} (h:W.cells? base a n=some l):l.length=n∧∀j,j<n->W.cell? (a.add j)=l[j]? :=by
 unfold World.cells? at h;split at h
 ·refine ⟨by simpa using mapM_some_length h,fun j hj=>?_⟩
  simpa using mapM_some_get h j j (by simp [hj])
 cases h
abbrev alive (H:Heap):Nat->Prop:=fun b=>H b≠none
theorem Zbov {k:IntKind} {n:Int} (h:(Lit.int k n).wf=true):InR k n:=by cases k<;>simp [Lit.wf,IntKind.min,IntKind.max,IntKind.signed,IntKind.bits] at h<;>simp only [InR,loI,hiI]<;>omega
theorem Zbpc {D:Type} {P:Program} {e:TypeId} {d:DataW D} {w:Nat}: ∀{l:List (DataW D)},d∈l->w∈d.weights P e->w∈DataW.weightsAll P e l
 | x::l,h,hw=>by simp only [DataW.weightsAll];rcases Yj.1 h with rfl | h;exact Yfa _ hw;exact Ysa _ (Zbpc h hw)
theorem Zbsm {D:Type} {P:Program} {w:Nat}: ∀{ts:List TypeId} {ds:List (DataW D)} {i:Nat} {t:TypeId} {d:DataW D},ts[i]? =some t->ds[i]? =some d->w∈d.weights P t->w∈DataW.weightsEach P ts ds
 | t0::ts,d0::ds,0,t,d,h1,h2,hw=>by simp at h1 h2;subst h1 h2;simp only [DataW.weightsEach];exact Yfa _ hw
 | t0::ts,d0::ds,i+1,t,d,h1,h2,hw=>by simp only [DataW.weightsEach];exact Ysa _ (Zbsm (i:=i) (by simpa using h1) (by simpa using h2) hw)
 | [],_,_,_,_,h,_,_=>by simp at h
 | _::_,[],_,_,_,_,h,_=>by simp at h
theorem Zsw {D:Type} {enc:TypeId×Value->D} {P:Program} {W:World} {sp:Nat->Bool} {held:Bool}: ∀(d:Nat) (t:TypeId) (ks:List Kd),kdL P d t=some ks->∀(fuel:Nat) (cs:List Value) (x:DataW D×List MemPlace),DataW.trod enc P W 0 sp held fuel t cs=some x->(∀n∈x.1.weights P t,n <= 140737488351232)->cs.length=ks.length∧∃y:Tp ks,Ze (alive (hp W)) (hp W) ks y (fun j=>cs[j]?)∧SzT ks y
 | 0,t,ks,h,_,_,_,_,_=>by simp only [kdL] at h;cases h
 | d+1,t,ks,h,fuel,cs,x,hx,hwt=>by
  simp only [kdL] at h;split at h
  ·rename_i k hu;cases h;obtain ⟨n,rfl,_,hw⟩:=DataW.trod_int hu hx;have hr:=Zbov hw;refine ⟨rfl,Zpd (k:= .int k) (x:=(ofI k n:El (.int k))) ?_ (by simp only [SzE])⟩
   simp only [Zb];exact ⟨by rw [Zbjc hr],WfI.ofI hr⟩
  ·rename_i hu;cases h;obtain ⟨b,rfl,_⟩:=DataW.trod_bool hu hx;refine ⟨rfl,Zpd (k:= .bool) (x:=(b:El .bool)) ?_ (by simp only [SzE])⟩
   simp only [Zb]
  ·rename_i hu;cases h;obtain ⟨s,rfl,hxx,hm⟩:=DataW.trod_string hu hx;have hsz:s.data.toList.length <= 140737488351232:=hwt _ (by rw [hxx];simp [DataW.weights])
   refine ⟨rfl,Zpd (k:= .str) (x:=(s.data.toList:El .str)) ?_ (by simp only [SzE];exact hsz)⟩
   simp only [Zb];exact ⟨rfl,by simpa [Zw,maxLen] using hm⟩
  ·rename_i e hu;split at h
   case h_2=>cases h
   rename_i k ks' hke;split at h
   case h_2=>cases h
   rename_i hsz;cases h;simp only [Ya] at hsz;have hby:=Yr hsz.2;have hsz:=Ye hsz.1;rcases DataW.trod_slice hu hx with ⟨rfl,_⟩ | ⟨a,len,cap,elems,rest,n,_,rfl,hxx,_,hlc,hcm,hlen,hel,_⟩
   ·refine ⟨rfl,Zpd (k:= .lst (k::ks')) (x:=([]:El (.lst (k::ks')))) ?_ (by simp only [SzE];exact ⟨by simp,fun x hx=>by simp at hx⟩)⟩
    simp only [Zb];exact ⟨none,0,0,rfl,rfl,Yh _,YI _,fun h=>by omega⟩
   ·rw [hxx] at hwt;simp only [DataW.weights,hu,Yz] at hwt;have hlw:len*Zbmy (k::ks') <= 140737488351232:=by have h1:=hwt _ Yk;refine Yoa (YKa (by omega) hby) h1
    have each: ∀i,i<len->∃l:List Value,l.length=ks'.length+1∧(∀j,j<ks'.length+1->W.cell? ((a.add (i*(ks'.length+1))).add j)=l[j]?)∧∃y:Tp (k::ks'),Ze (alive (hp W)) (hp W) (k::ks') y (fun j=>l[j]?)∧SzT (k::ks') y:=fun i hi=>by
     have he:=hel i hi;rw [Yc (by omega),hsz,Option.bind_eq_some_iff] at he
     obtain ⟨l,hl,hy⟩:=he;obtain ⟨h1,h2⟩:=cells?_get hl;exact ⟨l,h1,h2,(Zsw d e (k::ks') hke _ _ _ hy fun w hw=>hwt w (Yi _ (Yfa _ (Zbpc (YS.2 ⟨_,Yza _,rfl⟩) hw)))).2⟩
    by_cases h0:0<len
    ·obtain ⟨l0,hl0,hc0,_⟩:=each 0 h0;have hc1:=hc0 0 (by omega)
     rw [Yc (by omega),Y0a] at hc1
     have ha0: ∀a:Addr,(a.add 0).add 0=a:=fun a=>by simp [Addr.add]
     rw [ha0] at hc1;obtain ⟨hsp,c,T,fr,hb,_⟩:=cell_spot (H:=hp W) (by rw [Zng];exact hc1)
     obtain ⟨b,o,sp'⟩:=a;simp only at hsp hb;subst hsp;obtain ⟨xs,hxl,hxs⟩:=Zcha (n:=len) (p:=fun i (y:Tp (k::ks'))=>Ze (alive (hp W)) (hp W) (k::ks') y (fun j=>c[o+i*(k::ks').length+j]?)∧SzT (k::ks') y) fun i hi=>by
      obtain ⟨l,hl,hc,y,hy,hz⟩:=each i hi;refine ⟨y,Ze.same _ _ _ _ (fun j hj=>?_) hy,hz⟩;have hj':j<ks'.length+1:=by simpa using hj
      have h1:=hc j hj';rw [Yc (by omega)] at h1
      have hadd:((⟨b,o,none⟩:Addr).add (i*(ks'.length+1))).add j=⟨b,o+i*(ks'.length+1)+j,none⟩:=by rw [Zdj (a:=⟨b,o,none⟩) rfl (i*(ks'.length+1)),Zdj rfl]
      rw [hadd,← Zng] at h1;obtain ⟨_,c',T',fr',hb',hj''⟩:=cell_spot h1;simp only at hb' hj'';rw [hb] at hb';cases hb';rw [Yc (by omega)]
      simp only [List.length_cons];exact hj''.symm
     refine ⟨rfl,Zpd (k:= .lst (k::ks')) (x:=(xs:El (.lst (k::ks')))) ?_ (by simp only [SzE];exact ⟨by rw [show (asL (ks:=k::ks') xs).length=len from hxl];exact hlw,fun x hx=>by obtain ⟨i,hi⟩:=Y3 hx;exact (hxs i x hi).2⟩)⟩
     simp only [Zb];exact ⟨_,len,cap,rfl,hxl,hlc,by simpa [Zw,maxLen] using hcm,fun _=>⟨b,o,rfl,by rw [alive,hb];simp,c,T,fr,hb,fun i x hi=>(hxs i x hi).1⟩⟩
    ·have h0:len=0:=by omega
     subst h0;refine ⟨rfl,Zpd (k:= .lst (k::ks')) (x:=([]:El (.lst (k::ks')))) ?_ (by simp only [SzE];exact ⟨by simp,fun x hx=>by simp at hx⟩)⟩
     simp only [Zb];exact ⟨_,0,cap,rfl,rfl,hlc,by simpa [Zw,maxLen] using hcm,fun h=>by omega⟩
  ·rename_i fs hu;split at h
   case h_2=>cases h
   rename_i ks' hfs;split at h
   case h_2=>cases h
   rename_i hsz;cases h;have hsz:=Ye hsz;obtain ⟨xs,n,_,hxx,hcl,hxl,hf⟩:=DataW.trod_struct hu hx;rw [hxx] at hwt;simp only [DataW.weights,hu] at hwt;have hall: ∀f∈fs.toList,∃x,DataW.trod enc P W 0 sp held n f.type ((cs.drop f.offset).take (P.cellsOf f.type))=some x∧∀w∈x.1.weights P f.type,w <= 140737488351232:=fun f hf'=>by
    obtain ⟨i,hi,rfl⟩:=List.getElem_of_mem hf';have:=hf i fs[i] (by simp at hi;simp [hi])
    simp at hi;rw [Yc (by omega)] at this
    exact ⟨_,by simpa using this,fun w hw=>hwt w (Zbsm (i:=i) (t:=fs[i].type) (d:=(xs[i]'(by omega)).1) (by simp [hi]) (by rw [Yaa,Yc (by omega)];rfl) (by simpa using hw))⟩
   have key: ∀(l:List Field) (off:Nat) (ks:List Kd),(∀f∈l,f∈fs.toList)->Zrk P (kdL P d) l off=some ks->∃y:Tp ks,Ze (alive (hp W)) (hp W) ks y (fun j=>cs[off+j]?)∧SzT ks y:=by
    intro l;induction l with
    | nil=>intro off ks _ h;simp only [Zrk] at h;cases h;exact ⟨(),by simp only [Ze],by simp only [SzT]⟩
    | cons f l ih=>
     intro off ks hm h;simp only [Zrk] at h;split at h
     case h_2=>cases h
     rename_i k1 hk1;split at h
     case h_2=>cases h
     rename_i r hb hr;cases h;simp only [Ya] at hb;have hb1:=Ye hb.1;have hb2:=Ye hb.2;obtain ⟨x1,hx1,hw1⟩:=hall f (hm f (by simp))
     obtain ⟨_,y1,hy1,hz1⟩:=Zsw d f.type k1 hk1 _ _ _ hx1 hw1;obtain ⟨y2,hy2,hz2⟩:=ih (off+k1.length) r (fun f hf=>hm f (by simp [hf])) hr
     refine Ze.cat k1 r y1 y2 _ (Ze.same _ _ _ _ (fun j hj=>?_) hy1) (Ze.same _ _ _ _ (fun j _=>by rw [YQ]) hy2) hz1 hz2
     rw [Yca (by omega),YK,hb1]
   refine ⟨by omega,?_⟩
   obtain ⟨y,hy,hz⟩:=key fs.toList 0 ks (fun f hf=>hf) hfs;exact ⟨y,by simpa using hy,hz⟩
  ·rename_i n e hu;split at h
   case h_2=>cases h
   rename_i ks' hke;split at h
   case h_2=>cases h
   rename_i hsz;cases h;simp only [Ya] at hsz;have hs1:=Ye hsz.1;have hs2:=Ye hsz.2;obtain ⟨xs,m,_,hxx,hcl,hxl,hf⟩:=DataW.trod_array hu hx;rw [hxx] at hwt;simp only [DataW.weights,hu] at hwt;have key: ∀(k i:Nat),i+k=n->∃y:Tp (List.replicate k ks').flatten,Ze (alive (hp W)) (hp W) (List.replicate k ks').flatten y (fun j=>cs[i*ks'.length+j]?)∧SzT (List.replicate k ks').flatten y:=by
    intro k;induction k with
    | zero=>intro i _;exact ⟨(),by simp only [List.replicate_zero,List.flatten_nil,Ze],by simp only [List.replicate_zero,List.flatten_nil,SzT]⟩
    | succ k ih=>
     intro i hik;have h1:=hf i (by omega)
     rw [Yc (by omega),hs1] at h1
     obtain ⟨_,y1,hy1,hz1⟩:=Zsw d e ks' hke _ _ _ h1 fun w hw=>hwt w (Zbpc (YS.2 ⟨_,Yza _,rfl⟩) hw);obtain ⟨y2,hy2,hz2⟩:=ih (i+1) (by omega)
     have:=Ze.cat ks' (List.replicate k ks').flatten y1 y2 (fun j=>cs[i*ks'.length+j]?) (Ze.same _ _ _ _ (fun j hj=>by
      rw [Yca (by omega),YK]) hy1) (Ze.same _ _ _ _ (fun j _=>by rw [YJ,Nat.one_mul,YQ]) hy2) hz1 hz2
     simpa [List.replicate_succ] using this
   refine ⟨by rw [hcl,hs2];simp,?_⟩
   obtain ⟨y,hy,hz⟩:=key n 0 (by omega)
   exact ⟨y,by simpa using hy,hz⟩
  cases h
def pkL (P:Program) (t:TypeId):Option Pk:=match P.underlying t with
 | some (.int k)=>some (.int k)
 | some .bool=>some .bool
 | some .string=>some .str
 | some (.slice _)=>match kdL P 8 t with
  | some [.lst ks]=>some (.lst ks)
  | _=>none
 | some (.struct _)=>match kdL P 8 t with
  | some ks=>some (.agg ks)
  | none=>none
 | some (.array _ _)=>match kdL P 8 t with
  | some ks=>some (.agg ks)
  | none=>none
 | _=>none
def pksL (P:Program):List TypeId->Option (List Pk)
 | []=>some []
 | t::ts=>match pkL P t,pksL P ts with
  | some p,some ps=>some (p::ps)
  | _,_=>none
theorem Zyo {P:Program} {W:World} {base:Nat} {t:TypeId} {v:Value} (ht:(∃k,P.underlying t=some (.int k))∨P.underlying t=some .bool∨P.underlying t=some .string∨∃e,P.underlying t=some (.slice e))
  (h:Value.okWide P W .any base t v):v.cells.toList= [v]:=by
 rcases ht with ⟨k,ht⟩ | ht | ht | ⟨e,ht⟩<;>simp only [Value.okWide,ht,Cell.okWide,Cell.ok] at h<;>cases v<;>first | rfl | exact h.elim | simp_all [Value.cells]
theorem Zdgp {D:Type} {enc:TypeId×Value->D} {P:Program} {W:World} {sp:Nat->Bool} {held:Bool} {base:Nat} {t:TypeId} {p:Pk} (h:pkL P t=some p) {v:Value} {d:DataW D} {ps:List MemPlace} (hval:Value.okWide P W .any base t v)
  (hx:DataW.Trod enc P W 0 sp held t v d ps) (hwt: ∀n∈d.weights P t,n <= 140737488351232) {g:Gh} (hg:g.Z=alive (hp W)) (N:Nat):Zcm p=false∧∃x:PkT p,WfPk p x∧SzPk p x∧SimV g (hp W) N (pkA N p x) v:=by
 obtain ⟨fuel,hx⟩:=hx;unfold pkL at h;split at h;rename_i k hu;cases h;rw [Zyo (.inl ⟨_,hu⟩) hval] at hx;obtain ⟨n,h1,_,hw⟩:=DataW.trod_int hu hx;cases h1;exact ⟨rfl,n,Zbov hw,trivial,by simp only [pkA,SimV];exact ⟨by first | rfl | trivial,Zbov hw⟩⟩
 rename_i hu;cases h;rw [Zyo (.inr (.inl hu)) hval] at hx;obtain ⟨b,h1,_⟩:=DataW.trod_bool hu hx;cases h1;exact ⟨rfl,b,trivial,trivial,by simp only [pkA,SimV]⟩
 ·rename_i hu;cases h;rw [Zyo (.inr (.inr (.inl hu))) hval] at hx;obtain ⟨s,h1,hxx,hm⟩:=DataW.trod_string hu hx;cases h1;have hsz:s.data.toList.length <= 140737488351232:=hwt _ (by have:=(Prod.mk.inj hxx).1;subst this;simp [DataW.weights])
  have hm':s.data.toList.length <= Zw:=by simpa [Zw,maxLen] using hm
  exact ⟨rfl,s.data.toList,hm',hsz,by simp only [pkA,SimV];exact ⟨by first | rfl | trivial,hm'⟩⟩
 ·rename_i e hu;split at h
  case h_2=>cases h
  rename_i ks hk;cases h;rw [Zyo (.inr (.inr (.inr ⟨e,hu⟩))) hval] at hx;obtain ⟨_,y,hy,hz⟩:=Zsw 8 t _ hk _ _ _ hx hwt;simp only [SzT] at hz;have hw:=Ze.wf _ _ _ hy;simp only [Ze] at hy;obtain ⟨⟨v',hv',hc⟩,_⟩:=hy;simp at hv';subst hv';simp only [WfT] at hw;exact ⟨rfl,hdT [] y,hw.1,hz.1,by simp only [pkA,SimV];rw [hg];exact hc⟩
 all_goals
  first
  | (rename_i hu
     split at h
     case h_2=>cases h
     rename_i ks hk;cases h;simp only [Value.okWide,hu] at hval;obtain ⟨cs,rfl,hs,_⟩:=hval;obtain ⟨hl,y,hy,hz⟩:=Zsw 8 t _ hk _ _ _ hx hwt;have hw:=Ze.wf _ _ _ hy;rw [← hg] at hy;obtain ⟨vs,hvl,hsim,hv⟩:=Znh (N:=N) hy;refine ⟨rfl,y,hw,hz,?_⟩;simp only [pkA,SimV];refine ⟨vs,?_,hsim⟩;have:cs.toList=vs:=by
      apply YGa
      intro j;by_cases hj:j<vs.length;exact hv j hj;rw [Yf (by simp only [Value.cells] at hl;omega),Yf (by omega)]
     rw [← this])
  | cases h
theorem Zcfj {D:Type} {enc:TypeId×Value->D} {P:Program} {W:World} {sp:Nat->Bool} {held:Bool} {base:Nat} {g:Gh} (hg:g.Z=alive (hp W)) (N:Nat): ∀{ts:List TypeId} {ps:List Pk} (_:pksL P ts=some ps) {vs:List Value} {ds:List (DataW D)} {pl:List MemPlace},(∀(j:Nat) t v,ts[j]? =some t->vs[j]? =some v->Value.okWide P W .any base t v)->DataW.TrodAll enc P W 0 sp held ts vs ds pl->(∀n∈DataW.weightsEach P ts ds,n <= 140737488351232)->
  vs.length=ps.length∧∃x:PkTs ps,WfPs ps x∧SzPs ps x∧SimL g (hp W) N (pksA N ps x) vs∧pksR ps x= []
 | [],ps,h,vs,ds,pl,_,hx,_=>by
  simp only [pksL] at h;cases h;cases vs with
  | nil=>exact ⟨rfl,(),trivial,trivial,by simp only [pksA,SimL],rfl⟩
  | cons v vs=>simp only [DataW.TrodAll] at hx
 | t::ts,ps,h,vs,ds,pl,hval,hx,hwt=>by
  simp only [pksL] at h;split at h
  case h_2=>cases h
  rename_i p ps' hp' hps';cases h;obtain ⟨v,vs',d,ds',p1,q,rfl,rfl,rfl,h1,h2⟩:=trodAll_cons hx;simp only [DataW.weightsEach] at hwt;obtain ⟨ho,x,hw,hz,hs⟩:=Zdgp hp' (hval 0 t v rfl rfl) h1 (fun n hn=>hwt n (Yfa _ hn)) hg N;obtain ⟨hl,x',hw',hz',hs',hr⟩:=Zcfj hg N hps' (fun j t v h1 h2=>hval (j+1) t v (by simpa using h1) (by simpa using h2)) h2 (fun n hn=>hwt n (Ysa _ hn))
  refine ⟨by simp [hl],(x,x'),⟨hw,hw'⟩,⟨hz,hz'⟩,?_,?_⟩
  simp only [pksA,SimL];rw [ho];exact ⟨hs,hs'⟩
  ·cases p<;>simp only [Zcm] at ho<;>first | (cases ho;done) | exact hr
theorem Zcvj {D:Type} {enc:TypeId×Value->D} {P:Program} {f:FuncId} {ps:List Pk} {q:PkTs ps->(PkTs [.bool]->Prop)->Prop} (hq:FnQ P f ps [.bool] q) {ts:List TypeId} (hps:pksL P ts=some ps)
  (hall: ∀x,WfPs ps x->SzPs ps x->q x fun r=>r.1=true)
  {W:World} {sp:Nat->Bool} {held:Bool} {base:Nat} {vs:List Value} {ds:List (DataW D)} {pl:List MemPlace} (hval: ∀(j:Nat) t v,ts[j]? =some t->vs[j]? =some v->Value.okWide P W .any base t v) (hx:DataW.TrodAll enc P W 0 sp held ts vs ds pl) (hwt:(DataW.weightsEach P ts ds).all (· <= reachBytes)=true) (hlv: ∀b,Laid.blocks b=true->hp W b≠none) (hlo:Laid.ok (layH (hp W))):
  FnW P f ⟨vs⟩ (hp W) fun v H'=>v= .bool true∧Keep Nil (hp W) H':=by
 let g:Gh:=⟨alive (hp W),fun _=>0,fun _=> .bool false⟩
 obtain ⟨hl,x,hw,hz,hs,hr⟩:=Zcfj (g:=g) rfl 0 hps hval hx fun n hn=>of_decide_eq_true (Yp.1 hwt n hn);have s:Sim ⟨hp W,Zbc g (pksR ps x),g.Z⟩ (parS ps x) (env0 vs) (hp W) g:=by
  have hn:(parS ps x).σ= []:=hr;have none: ∀{i:Nat} {o:AObj},(parS ps x).σ[i]? =some o->False:=fun {i o} h=>by rw [hn] at h;simp at h
  exact
   {tmp:=fun t=>by rw [hn];simpa [parS,env0] using Zla hs t
    obj:=fun id o h=>(none h).elim
    nz:=fun id o h=>(none h).elim
    dis:=fun i j oi oj _ h=>(none h).elim
    own:=fun i o h=>(none h).elim
    keep:=Keep.refl _ _
    zsub:=fun _ h=>h
    znew:=fun _ h=> .inl h
    zlive:=fun _ h=>h
    lay:=⟨fun b hb ⟨i,o,h,_⟩=>none h,hlv,hlo⟩
    zc:=fun _ h=> .inl h }
 refine (hq x _ (hall x hw hz) (hp W) g vs hl s).mono fun v H' hk=>?_;obtain ⟨a,st',ρ',g',s',hav,hout⟩:=hk;refine ⟨?_,⟨fun b _ hb=>s'.keep.same b (fun ho=>by
  obtain ⟨i,o,hi,_⟩:=ho;rw [hr] at hi;simp at hi) hb,fun b hb=>s'.keep.live b hb⟩⟩
 unfold outP at hout;split at hout
 case h_2=>exact hout.elim
 rename_i as hol;split at hout
 case h_2=>exact hout.elim
 rename_i σ' hfr';split at hout
 case h_2=>exact hout.elim
 rename_i y src' htk';split at hout
 case h_2=>exact hout.elim
 have he:a= .bool y.1:=by
  unfold outL at hol;simp only [Option.some.injEq] at hol;subst hol;unfold Zdp Zen at htk';cases a<;>simp only [] at htk'<;>first | (cases htk';done) | skip
  unfold Zdp at htk';cases htk';rfl
 subst he;simp only [SimV] at hav;rw [hav,hout]
theorem Zcsr {C:Checked} {os:Os} {f:FuncId} {fn:Func} {s:ChangeSpec} {conds:List PathCond} {apart fresh handsOn:Bool} {H:Type} {enc:TypeId×Value->H} {tb:TypeId}
  (own:ownKnob C.prog.godebug=none) (started:os.Started) (noInit:C.prog.inits.idxOf? f=none) (hfn:C.prog.funcs[f]? =some fn)
  (witness: ∃(w:World) (tape:Tape) (i:Input),w.os=os∧(w.forCall tape i).Shaped C.prog∧i.vars= []∧Input.okWide C.prog (w.forCall tape i) .any w.heap.size f i∧
   s.pre6 enc C.prog fn conds apart (w.forCall tape i).memory i.args∧Assume.holds {} C.prog (lone (Frame.enter C.prog f i.args .normal) [] (w.forCall tape i)))
  (hl:laidOutB C.prog=true) (hpar:fn.params.toList.all (fun t=>C.prog.readableRec t&&decide (t<C.prog.types.size))=true) (hv:s.vars= []) (hrt:fn.resultTypes= #[tb]) (htb:C.prog.underlying tb=some .bool)
  (walk: ∀(W:World) (base:Nat) (args:Array Value) (ds:List (DataW H)) (p:List MemPlace),(∀(j:Nat) t v,fn.params[j]? =some t->args[j]? =some v->Value.okWide C.prog W .any base t v)->
   DataW.TrodAll enc C.prog W 0 (fun _=>true) true fn.params.toList args.toList ds p->(DataW.weightsEach C.prog fn.params.toList ds).all (· <= reachBytes)=true->s.fn H ds= { results:=[.lit (.bool true)],args:=ds }∧
   FnW C.prog f args (hp W) fun v H'=>v= .bool true∧Keep Nil (hp W) H'):
  ReturnsInHanded {} C os f .any (s.pre6 enc C.prog fn conds apart) (s.post enc C.prog fn apart fresh handsOn false):=by
 refine returnsInHanded_of_calls own started noInit witness ?_;intro w tape i _ _ _ hok hpre _;obtain ⟨_,_,_,fn',hfn',_,_,_,_,hval⟩:=hok;have e:fn'=fn:=Option.some.inj (hfn'.symm.trans hfn);subst e;obtain ⟨⟨ds,gs,before,hw,hc⟩,hz⟩:=hpre;have hwt:=hz.weights hw;have hW:=DataW.Whole.of_heap (w':=w.forCall tape i) (by rfl) hw
 have hW':=hW;obtain ⟨p,q,hA,hV,rfl,_,_⟩:=hW';have hV':=hV;rw [hv] at hV';obtain ⟨rfl,rfl⟩:=trodVars_none hV';have hvt:(OpenSpec.ofChange s).bare.plain.varTypes C.prog= []:=by have:(OpenSpec.ofChange s).bare.plain.vars= []:=hv;unfold DataSpec.varTypes;rw [this];rfl
 rw [hvt,Yv,Yv] at hwt;obtain ⟨hs,hf⟩:=walk (w.forCall tape i) w.heap.size i.args ds p hval hA hwt;refine (hf.2 (w.forCall tape i) rfl).mono fun e W' ⟨v,he,⟨hv',hk⟩,hr⟩=>?_;subst hv' he;exact ChangeSpec.post_blind (Zcyi hl hpar hv hrt htb hW (by rw [Yv];exact hs) (hk.below hr))
end Go.Sh
end
section
namespace Go.Sh
variable [Laid]
def Zlu (P:Program) (tab:Tab) (plan:PPlan) (c:Code) (n:Nat) (rs:List ResultVar):Ct:=fun st args K=>match Nat.ble args.length n with
 | true=>Zbl P tab plan c ⟨fun i=>args.getD i .undef,st.σ⟩ (PRet P rs fun a st'=>K a ⟨st.α,st'.σ⟩)
 | false=>False
theorem Zuw {P:Program} {f:FuncId} {fn:Func} {plan:PPlan} {c:Code} {tab:Tab} (k:Known P f fn plan.plan c) (ht:Zlv P tab):Zk P f (Zlu P tab plan c fn.ntmps fn.results.toList):=by
 intro E st ρ H g args vs K s hargs h;unfold Zlu at h;split at h
 case h_2=>exact h.elim
 rename_i hle;have s1:Sim E ⟨fun i=>args.getD i .undef,st.σ⟩ (env0 vs) H g:={ s with tmp:=fun t=>by simpa [env0] using Zla hargs t }
 refine (FnP k ht (args:=vs) (by rw [← hargs.len];exact hle) s1 h).mono fun v H' hk=>?_
 obtain ⟨a,st',ρ',g',s',r',hv,hka⟩:=hk;exact ⟨a,⟨st.α,st'.σ⟩,g',{ s' with tmp:=fun t=>SimV.ext r'.len r'.ext _ _ (s.tmp t) },⟨r'.len,r'.ext,r'.ro⟩,hv,rfl,hka⟩
end Go.Sh
end
section
namespace Go.Sh
variable [Laid]
def rdC (σ:List AObj) (ks:List Kd):AV->Option (List (Tp ks))
 | .osl id off n c=>match σ[id]? with
  | some (.obj _ _ cs)=>match Nat.ble (off+n*ks.length) cs.length&&Nat.ble n c&&Nat.ble c 1000000 with
   | true=>unTs ks n (((cs.drop off).take (n*ks.length)).map (Zfb σ))
   | false=>none
  | _=>none
 | a=>rdL σ ks a
def Zbpe (k:IntKind):AV->Option Int
 | .int k' n=>match decide (k'=k) with
  | true=>some n
  | false=>none
 | _=>none
def Zbif:AV->Option Bool
 | .bool b=>some b
 | _=>none
def Zbny:AV->Option (List UInt8)
 | .str s=>some s
 | _=>none
def Zbqg:AV->Option Bool
 | .err b=>some b
 | _=>none
def Zbjz:AV->Option (List AV)
 | .agg cs=>some cs
 | _=>none
def avFn (f:Nat):AV->Option Unit
 | .fn f' []=>match Nat.beq f' f with
  | true=>some ()
  | false=>none
 | _=>none
def Zbiz:AV->Option Unit
 | .nils=>some ()
 | _=>none
def rdP (σ:List AObj) (p:Pk) (a:AV):Option (PkT p):=match p with
 | .int k=>Zbpe k a
 | .bool=>Zbif a
 | .str=>Zbny a
 | .lst ks=>rdC σ ks a
 | .agg ks=>match Zbjz a with
  | some cs=>unT ks (cs.map (Zfb σ))
  | none=>none
 | .err=>Zbqg a
 | .fn f=>avFn f a
 | .nil=>Zbiz a
 | .own _ _=>none
def rdPs (σ:List AObj):(ps:List Pk)->List AV->Option (PkTs ps)
 | [],[]=>some ()
 | p::ps,a::as=>match rdP σ p a,rdPs σ ps as with
  | some x,some y=>some (x,y)
  | _,_=>none
 | _,_=>none
def gAll (H:Heap) (g:Gh):Gh:=⟨alive H,g.B,g.V⟩
theorem Zur {E:En} {st:St} {ρ:Env} {H:Heap} {g:Gh} (s:Sim E st ρ H g) (N:Nat):Ext N g H (gAll H g) H:=⟨fun b hb=>⟨s.zlive b hb,rfl⟩,fun _ _=>rfl,fun _ _=>rfl⟩
theorem Zcbq {E:En} {st:St} {ρ:Env} {H:Heap} {g:Gh} (s:Sim E st ρ H g) {T:TypeId} {ks:List Kd} {xs:List (Tp ks)} {v:Value} {b:Nat} (h:Zml g H T ks xs v b):Zb (alive H) H (.lst ks) xs v:=by obtain ⟨a,n,c,h1,h2,h3,h4,h5⟩:=h;simp only [Zb];refine ⟨a,n,c,h1,h2,h3,h4,fun h0=>?_⟩;rcases h5 with ⟨rfl,h6⟩ | ⟨o,h6,cs,T',hb,hs,hc⟩;omega;exact ⟨b,o,h6,by show H b≠none;rw [hb];simp,cs,T',_,hb,fun i x hx=>Ze.ext (Zur s 0).z _ _ _ (hc i x hx)⟩
theorem Zcnr {E:En} {st:St} {ρ:Env} {H:Heap} {g:Gh} (s:Sim E st ρ H g) {a:AV} {v:Value} (h:SimV g H st.σ.length a v):SimV (gAll H g) H st.σ.length (Zfb st.σ a) v:=by
 have h1:=SimV.ext (Yh _) (Zur s _) _ _ h;cases a<;>first | exact h1 | skip
 rename_i id;simp only [SimV] at h;obtain ⟨_,rfl,_⟩:=h;simp only [Zfb];split;rename_i ho;simp only [SimV];exact Zcbq (T:=0) s (s.obj id _ ho);rename_i ho;simp only [SimV];exact Zb.ext (Zur s 0).z _ _ _ (s.obj id _ ho);simp only [SimV]
theorem Zbmp {E:En} {st:St} {ρ:Env} {H:Heap} {g:Gh} (s:Sim E st ρ H g): ∀{as:List AV} {vs:List Value},SimL g H st.σ.length as vs->SimL (gAll H g) H st.σ.length (as.map (Zfb st.σ)) vs
 | [],[],_=>by simp only [YLa,SimL]
 | [],_::_,h=>by simp only [SimL] at h
 | _::_,[],h=>by simp only [SimL] at h
 | a::as,v::vs,h=>by simp only [SimL] at h;simp only [YG,SimL];exact ⟨Zcnr s h.1,Zbmp s h.2⟩
theorem Zdmg {E:En} {st:St} {ρ:Env} {H:Heap} {g:Gh} (s:Sim E st ρ H g) {ks:List Kd} {a:AV} {v:Value} {xs:List (Tp ks)} (h:rdL st.σ ks a=some xs) (hs:SimV g H st.σ.length a v):Zb (alive H) H (.lst ks) xs v:=by
 unfold rdL at h;split at h;split at h;rename_i hk _;subst hk;cases h;simp only [SimV] at hs;exact Zb.ext (Zur s 0).z _ _ _ hs;cases h;cases h;simp only [SimV] at hs;simp only [Zb];exact ⟨none,0,0,hs,rfl,Yh _,YI _,fun h=>absurd h (by omega)⟩
 rename_i id;simp only [SimV] at hs;obtain ⟨_,rfl,_⟩:=hs;split at h;rename_i T r ks' xs' ho;split at h;rename_i hk _;subst hk;cases h;exact Zcbq (T:=0) s (s.obj id _ ho);cases h;rename_i ks' xs' ho;split at h;rename_i hk _;subst hk;cases h;exact Zb.ext (Zur s 0).z _ _ _ (s.obj id _ ho);cases h;cases h;cases h
theorem Zcwp {E:En} {st:St} {ρ:Env} {H:Heap} {g:Gh} (s:Sim E st ρ H g) {ks:List Kd} {a:AV} {v:Value} {xs:List (Tp ks)} (h:rdC st.σ ks a=some xs) (hs:SimV g H st.σ.length a v):Zb (alive H) H (.lst ks) xs v:=by
 unfold rdC at h;split at h
 case h_2=>exact Zdmg s h hs
 rename_i id off n c;split at h
 case h_2=>cases h
 rename_i T r cs ho;split at h
 case h_2=>cases h
 rename_i hb;simp only [Ya] at hb;have hb1:=Yr hb.1.1;have hb2:=Yr hb.1.2;have hb3:=Yr hb.2;simp only [SimV] at hs;obtain ⟨hid,rfl⟩:=hs;obtain ⟨us,hB,hsl⟩:=s.obj id _ ho;have h2:=Zbmp s ((hsl.drop off).take (n*ks.length));obtain ⟨hxl,hol,hoc⟩:=Ztv h h2;simp only [Zb];refine ⟨_,n,c,rfl,hxl,hb2,by unfold Zw;omega,fun h0=>⟨g.B id,off,rfl,by show H (g.B id)≠none;rw [hB];simp,⟨us⟩,T,_,hB,fun i x hx=>Ze.congr (fun j hj=>?_) (hoc i x hx)⟩⟩
 have hi:i<n:=by rcases Ys i xs.length with h | h;omega;have:xs[i]? =none:=Yf h;have hx':xs[i]? =some x:=hx;rw [this] at hx';cases hx'
 have hmul:(i+1)*ks.length <= n*ks.length:=Yy _ (by omega)
 rw [YJ] at hmul;simp only [YE];rw [YU,if_pos (by omega),YK,YQ]
theorem Zcwd {E:En} {st:St} {ρ:Env} {H:Heap} {g:Gh} (s:Sim E st ρ H g) {p:Pk} {a:AV} {v:Value} {x:PkT p} (h:rdP st.σ p a=some x) (hs:SimV g H st.σ.length a v):WfPk p x∧Zcm p=false∧∀M N,SimV (gAll H g) H N (pkA M p x) v:=by
 cases p with
 | int k0=>
  have h:Zbpe k0 a=some x:=h;unfold Zbpe at h;split at h
  ·split at h;rename_i hk;have:=of_decide_eq_true hk;subst this;cases h;simp only [SimV] at hs;exact ⟨hs.2,rfl,fun M N=>by simp only [pkA,SimV];exact hs⟩
   cases h
  ·cases h
 | bool=>
  have h:Zbif a=some x:=h;unfold Zbif at h;split at h;cases h;simp only [SimV] at hs;exact ⟨trivial,rfl,fun M N=>by simp only [pkA,SimV];exact hs⟩
  ·cases h
 | str=>
  have h:Zbny a=some x:=h;unfold Zbny at h;split at h;cases h;simp only [SimV] at hs;exact ⟨hs.2,rfl,fun M N=>by simp only [pkA,SimV];exact hs⟩
  ·cases h
 | lst ks=>
  have:=Zcwp s h hs;exact ⟨Zb.wf _ _ _ this,rfl,fun M N=>by simp only [pkA,SimV];exact this⟩
 | agg ks=>
  have h:(match Zbjz a with
   | some cs=>unT ks (cs.map (Zfb st.σ))
   | none=>none)=some x:=h
  unfold Zbjz at h;cases a<;>first | (cases h;done) | skip
  simp only [SimV] at hs;obtain ⟨vs,rfl,hs⟩:=hs;have hc:=Zkv h (Zbmp s hs);have hl:=Zzd h;have hl2:=hs.len;simp only [Yz] at hl;refine ⟨Ze.wf _ _ _ hc,rfl,fun M N=>?_⟩;simp only [pkA,SimV];exact ⟨vs,rfl,Zbca hc (by omega)⟩
 | err=>
  have h:Zbqg a=some x:=h;unfold Zbqg at h;split at h;cases h;simp only [SimV] at hs;exact ⟨trivial,rfl,fun M N=>by simp only [pkA,SimV];exact hs⟩
  ·cases h
 | own T ks=>cases h
 | fn f'=>
  have h:avFn f' a=some x:=h;unfold avFn at h;split at h
  ·split at h
   ·rename_i hf;have:=Ye hf;subst this;simp only [SimV] at hs;obtain ⟨vs,hv,hvs⟩:=hs;refine ⟨trivial,rfl,fun M N=>?_⟩;simp only [pkA,SimV];cases vs with
    | nil=>exact ⟨[],hv,by simp only [SimL]⟩
    | cons=>simp only [SimL] at hvs
   cases h
  ·cases h
 | nil=>
  have h:Zbiz a=some x:=h;unfold Zbiz at h;split at h;simp only [SimV] at hs;exact ⟨trivial,rfl,fun M N=>by simp only [pkA,SimV];exact hs⟩
  cases h
theorem Zcba {E:En} {st:St} {ρ:Env} {H:Heap} {g:Gh} (s:Sim E st ρ H g): ∀{ps:List Pk} {as:List AV} {vs:List Value} {x:PkTs ps},rdPs st.σ ps as=some x->SimL g H st.σ.length as vs->
  WfPs ps x∧pksR ps x= []∧as.length=ps.length∧∀M N,SimL (gAll H g) H N (pksA M ps x) vs
 | [],[],[],_,_,_=>⟨trivial,rfl,rfl,fun _ _=>by simp only [pksA,SimL]⟩
 | [],[],_::_,_,_,h=>by simp only [SimL] at h
 | [],_::_,_,_,h,_=>by simp only [rdPs] at h;cases h
 | _::_,[],_,_,h,_=>by simp only [rdPs] at h;cases h
 | _::_,_::_,[],_,_,h=>by simp only [SimL] at h
 | p::ps,a::as,v::vs,x,h,hs=>by
  simp only [SimL] at hs;simp only [rdPs] at h;split at h
  ·rename_i y z hy hz;cases h;obtain ⟨h1,h2,h3⟩:=Zcwd s hy hs.1;obtain ⟨k1,k2,k3,k4⟩:=Zcba s hz hs.2;refine ⟨⟨h1,k1⟩,?_,by simp [k3],fun M N=>?_⟩
   ·cases p<;>first | exact k2 | (simp only [Zcm] at h2;cases h2)
   simp only [pksA,SimL,h2];exact ⟨h3 M N,k4 M N⟩
  cases h
def ctRd (ps rs:List Pk) (q:PkTs ps->(PkTs rs->Prop)->Prop):Ct:=fun st args K=>
 match rs.all Zbel,rdPs st.σ ps args with
 | true,some x=>WfPs ps x->q x fun y=>WfPs rs y->K (outA (pksA st.σ.length rs y)) st
 | _,_=>False
theorem Zbk {P:Program} {f:FuncId} {ps rs:List Pk} {q:PkTs ps->(PkTs rs->Prop)->Prop} (hq:FnQ P f ps rs q):Zk P f (ctRd ps rs q):=by
 intro E st ρ H g args vs K s hargs h;unfold ctRd at h;split at h
 case h_2=>exact h.elim
 rename_i x hrs htk;obtain ⟨hw,hR,hlen,hsim⟩:=Zcba s htk hargs
 let g2:Gh:=gAll H g
 have none: ∀{i:Nat} {o:AObj},(parS ps x).σ[i]? =some o->False:=fun {i o} h=>by have:(parS ps x).σ= []:=hR;rw [this] at h;simp at h
 have s2:Sim ⟨H,Zbc g2 (pksR ps x),g2.Z⟩ (parS ps x) (env0 vs) H g2:=
  {tmp:=fun t=>by have:(parS ps x).σ= []:=hR;rw [this];simpa [parS,env0] using Zla (hsim 0 0) t
   obj:=fun id o h=>(none h).elim
   nz:=fun id o h=>(none h).elim
   dis:=fun i j oi oj _ h=>(none h).elim
   own:=fun i o h=>(none h).elim
   keep:=Keep.refl _ _
   zsub:=fun _ h=>h
   znew:=fun _ h=> .inl h
   zlive:=fun _ h=>h
   lay:=by
    have e: ∀b,Zbc g2 (pksR ps x) b↔Zbc g ([]:List AObj) b:=fun b=>by rw [hR];exact ⟨fun ⟨i,o,h,_⟩=>by simp at h,fun ⟨i,o,h,_⟩=>by simp at h⟩
    refine ⟨fun b hb ho=>?_,fun b hb=>?_,?_⟩;obtain ⟨i,o,h,_⟩:=(e b).1 ho;simp at h;exact (s.layE (Z:=g.Z)).live b hb;exact (s.layE (Z:=g.Z)).ok
   zc:=fun _ h=> .inl h }
 have hvl:vs.length=ps.length:=by rw [← hargs.len,hlen]
 refine (hq x _ (h hw) H g2 vs hvl s2).mono fun v H' hk=>?_;obtain ⟨a,st',ρ',g',s',hav,hout⟩:=hk;unfold outP at hout;split at hout
 case h_2=>exact hout.elim
 rename_i as hol;split at hout
 case h_2=>exact hout.elim
 rename_i σ' hfr';split at hout
 case h_2=>exact hout.elim
 rename_i y src' htk';split at hout
 case h_2=>exact hout.elim
 obtain ⟨g3,s3,r3,l3,f3,_⟩:=Zih rs as st'.σ σ' g' s' hfr';obtain ⟨ws,hws,hwsF⟩:=Zuk hol (Zkg htk') hav;have hws3:=SimL.ext r3.len r3.ext _ _ hws;obtain ⟨hw',hlen',_,hsim'⟩:=Zkw s3 htk' hws3 f3;have hR':pksR rs y= []:=Zbcq (Zcfb hrs);have hsrc':src'= []:=Yl (by rw [← hlen',hR'];rfl)
 subst hsrc';have hsl':=hsim' g3 0 0 ⟨fun j id h=>by simp at h,fun j h=>by simp at h⟩ (by simp) rfl
 have kn:Keep Nil H H':=⟨fun b _ hb=>s3.keep.same b (fun ho=>by
  obtain ⟨i,o,hi,_⟩:=ho;rw [hR] at hi;simp at hi) hb,fun b hb=>s3.keep.live b hb⟩
 obtain ⟨sE,rE⟩:=s.keepAll kn;refine ⟨_,st,g,sE,rE,?_,rfl,hout hw'⟩;exact hwsF g H' _ _ (Zgy _ _ _) (Zbmw hrs hsl')
end Go.Sh
end
section
namespace Go.Sh
variable [Laid]
theorem Zcds {g:Gh} {H:Heap} {N:Nat}: ∀{as:List AV} {vs:List Value},as.length=vs.length->(∀i,i<as.length->SimV g H N (as.getD i .undef) (vs.getD i undef))->SimL g H N as vs
 | [],[],_,_=>by simp only [SimL]
 | [],_::_,h,_=>by simp at h
 | _::_,[],h,_=>by simp at h
 | a::as,v::vs,h,hs=>by simp only [SimL];exact ⟨by simpa using hs 0 (by simp),Zcds (by simpa using h) fun i hi=>by simpa using hs (i+1) (by simpa using hi)⟩
theorem Zcun {rs:List Pk} {as:List AV} (h:as.length=rs.length):outL rs (outA as)=some as:=by
 cases rs with
 | nil=>
  cases as with
  | nil=>rfl
  | cons=>simp at h
 | cons r rs=>
  cases as with
  | nil=>simp at h
  | cons a as=>
   cases rs with
   | nil=>
    cases as with
    | nil=>rfl
    | cons=>simp at h
   | cons r2 rs=>
    cases as with
    | nil=>simp at h
    | cons b as=>rfl
theorem Zbvc {E:En} {ps:List Pk} {x:PkTs ps} {vs:List Value} {H:Heap} {g:Gh} (s:Sim E (parS ps x) (env0 vs) H g) (hl:vs.length=ps.length):SimL g H (pksR ps x).length (pksA 0 ps x) vs:=by
 refine Zcds (by rw [Zgy];omega) fun i _=>?_
 have:=s.tmp i;simpa [parS,env0] using this
end Go.Sh
end
section
namespace Go.Sh
variable [Laid]
def gZ (Z:Nat->Prop):Gh:=⟨Z,fun _=>0,fun _=> .nilFunc⟩
theorem Zbyb {g:Gh} {H:Heap} {as:List AV} {vs:List Value} (h:SimL g H 0 as vs):SimL (gZ g.Z) H 0 as vs:=
 SimL.ext (g:=g) (g':=gZ g.Z) (Yh _) ⟨fun b hb=>⟨hb,rfl⟩,fun _ h=>absurd h (by omega),fun _ h=>absurd h (by omega)⟩ _ _ h
theorem FnQ.run {P:Program} {f:FuncId} {ps rs:List Pk} {q:PkTs ps->(PkTs rs->Prop)->Prop} (hq:FnQ P f ps rs q) (hrs:rs.all Zbel=true) {x:PkTs ps} (hps:pksR ps x= []) {vs:List Value} {H:Heap} {Z:Nat->Prop}
  (hs:SimL (gZ Z) H 0 (pksA 0 ps x) vs) (hz: ∀b,Z b->H b≠none) (hlay: ∀b,Laid.blocks b=true->H b≠none) (hlo:Laid.ok (layH H)) {K:PkTs rs->Prop} (h:q x K):
  FnW P f ⟨vs⟩ H fun v H'=>Keep Nil H H'∧∃y,K y∧WfPs rs y∧∀(N:Nat) (g:Gh),SimV g H' N (outA (pksA 0 rs y)) v:=by
 have hσ:(parS ps x).σ= []:=hps;have s2:Sim ⟨H,Zbc (gZ Z) (pksR ps x),(gZ Z).Z⟩ (parS ps x) (env0 vs) H (gZ Z):=by refine ⟨fun t=>?_,fun i o hi=>?_,fun i o hi=>?_,fun i j oi oj _ hi=>?_,fun i o hi=>?_,Keep.refl _ _,fun b hb=>hb,fun b hb=> .inl hb,hz,⟨fun b hb ho=>?_,hlay,hlo⟩,fun b hb=> .inl hb⟩;rw [hσ];simpa [parS,env0] using Zla hs t;rw [hσ] at hi;simp at hi;rw [hσ] at hi;simp at hi;rw [hσ] at hi;simp at hi;rw [hσ] at hi;simp at hi;obtain ⟨i,o,hi,_⟩:=ho;rw [hps] at hi;simp at hi
 have hvl:vs.length=ps.length:=by rw [← hs.len,Zgy]
 refine (hq x _ h H (gZ Z) vs hvl s2).mono fun v H' hk=>?_;obtain ⟨a,st',ρ',g',s',hav,hout⟩:=hk;unfold outP at hout;split at hout
 case h_2=>exact hout.elim
 rename_i as hol;split at hout
 case h_2=>exact hout.elim
 rename_i σ' hfr';split at hout
 case h_2=>exact hout.elim
 rename_i y src' htk';split at hout
 case h_2=>exact hout.elim
 obtain ⟨g3,s3,r3,l3,f3,_⟩:=Zih rs as st'.σ σ' g' s' hfr';obtain ⟨ws,hws,hwsF⟩:=Zuk hol (Zkg htk') hav;have hws3:=SimL.ext r3.len r3.ext _ _ hws;obtain ⟨hw',hlen',_,hsim'⟩:=Zkw s3 htk' hws3 f3;have hR':pksR rs y= []:=Zbcq (Zcfb hrs);have hsrc':src'= []:=Yl (by rw [← hlen',hR'];rfl)
 subst hsrc';have hsl':=hsim' g3 0 0 ⟨fun j id h=>by simp at h,fun j h=>by simp at h⟩ (by simp) rfl
 refine ⟨⟨fun b _ hb=>s3.keep.same b (fun ho=>by
  obtain ⟨i,o,hi,_⟩:=ho;rw [hps] at hi;simp at hi) hb,fun b hb=>s3.keep.live b hb⟩,y,hout,hw',fun N g=>?_⟩
 exact hwsF g H' _ _ (Zgy _ _ _) (Zbmw hrs hsl')
theorem Zdny {P:Program} {f:FuncId} {ps:List Pk} {ks:List Kd} {q:PkTs ps->(PkTs [.lst ks]->Prop)->Prop} (hks:Kd.decs ks ks=isTrue rfl) (hps: ∀x,pksR ps x= [])
  (h: ∀x K,q x K->∀(H:Heap) (Z:Nat->Prop) (vs:List Value),SimL (gZ Z) H 0 (pksA 0 ps x) vs->(∀b,Z b->H b≠none)->(∀b,Laid.blocks b=true->H b≠none)->Laid.ok (layH H)->
   FnW P f ⟨vs⟩ H fun v H'=>Keep Nil H H'∧∃(xs:List (Tp ks)) (Zn:Nat->Prop),(∀b,Zn b->H b=none∧∃c T r,H' b=some (.cells c T r))∧Zb (fun b=>Z b∨Zn b) H' (.lst ks) xs v∧K (xs,())):FnQ P f ps [.lst ks] q:=by
 intro x K hx H g vs hl s;have hσ:(parS ps x).σ= []:=hps x;have hsl:=Zbvc s hl;rw [hps x] at hsl;refine (h x K hx H g.Z vs (Zbyb hsl) s.zlive (fun b hb=>by rw [s.layH.1 b hb];exact s.lay.live b hb) (by rw [s.layH.2];exact s.lay.ok)).mono fun v H' hk=>?_
 obtain ⟨hk,xs,Zn,hzn,hc,hK⟩:=hk;obtain ⟨s',_⟩:=s.keepAll hk
 let g':Gh:=⟨fun b=>g.Z b∨Zn b,g.B,g.V⟩
 have ext': ∀N,Ext N g H' g' H':=fun N=>⟨fun b hb=>⟨.inl hb,rfl⟩,fun _ _=>rfl,fun _ _=>rfl⟩;refine ⟨.lst ks xs,parS ps x,env0 vs,g',⟨fun t=>SimV.ext (Yh _) (ext' _) _ _ (s'.tmp t),fun i o hi=>?_,fun i o hi=>?_,fun i j oi oj _ hi=>?_,fun i o hi=>?_,s'.keep,fun b hb=> .inl (s'.zsub b hb),fun b hb=>?_,fun b hb=>?_,s'.lay,fun b hb=>?_⟩,?_,?_⟩;rw [hσ] at hi;simp at hi;rw [hσ] at hi;simp at hi;rw [hσ] at hi;simp at hi;rw [hσ] at hi;simp at hi;rcases hb with hb | hb;exact s'.znew b hb;exact .inr (.inl (hzn b hb).1);rcases hb with hb | hb;exact s'.zlive b hb;obtain ⟨_,c,T,r,h⟩:=hzn b hb;rw [h];simp
 ·rcases hb with hb | hb;exact s'.zc b hb
  ·obtain ⟨_,c,T,r,h⟩:=hzn b hb;exact .inr fun ds e=>by rw [h] at e;cases e
 simp only [SimV];exact hc;simp only [outP,outL,frzP,Zcm,Zcn,frzL,frzO,Zdp,Zen,rdL,hks,Zdu,Zq,Zdb];exact hK
def Holds (Z:Nat->Prop) (H:Heap) (ks:List Kd) (ins:List Inn) (xss:List (List (Tp ks))):Prop:=
 ins.length=xss.length∧∀(j:Nat) (i:Inn) (xs:List (Tp ks)),ins[j]? =some i->xss[j]? =some xs->i.n=xs.length∧∀t x,xs[t]? =some x->Ze Z H ks x (fun q=>i.ys[t*ks.length+q]?)
theorem Holds.keep {Z:Nat->Prop} {H H':Heap} {ks:List Kd} {ins:List Inn} {xss:List (List (Tp ks))} (h:Holds Z H ks ins xss) (hz: ∀b,Z b->H' b=H b):Holds Z H' ks ins xss:=
 ⟨h.1,fun j i xs h1 h2=>⟨(h.2 j i xs h1 h2).1,fun t x ht=>Ze.ext (fun b hb=>⟨hb,hz b hb⟩) _ _ _ ((h.2 j i xs h1 h2).2 t x ht)⟩⟩
theorem Holds.push {Z:Nat->Prop} {H:Heap} {ks:List Kd} {ins:List Inn} {xss:List (List (Tp ks))} (h:Holds Z H ks ins xss) {i:Inn} {xs:List (Tp ks)} (h1:i.n=xs.length) (h2: ∀t x,xs[t]? =some x->Ze Z H ks x (fun q=>i.ys[t*ks.length+q]?)):Holds Z H ks (ins++[i]) (xss++[xs]):=by
 refine ⟨by simp [h.1],fun j i' xs' hj hx=>?_⟩
 have hl:=h.1;rcases Y9 j ins.length with hlt | rfl | hgt
 ·rw [Yd hlt] at hj;rw [Yd (by omega)] at hx
  exact h.2 j i' xs' hj hx
 ·rw [Yg (Yh _)] at hj;rw [Yg (by omega)] at hx
  simp [hl] at hj hx;subst hj hx;exact ⟨h1,h2⟩
 ·rw [Yf (by simp;omega)] at hj;cases hj
theorem Holds.set {Z:Nat->Prop} {H:Heap} {ks:List Kd} {ins:List Inn} {xss:List (List (Tp ks))} (h:Holds Z H ks ins xss) {k:Nat} {i:Inn} {xs:List (Tp ks)} (h1:i.n=xs.length) (h2: ∀t x,xs[t]? =some x->Ze Z H ks x (fun q=>i.ys[t*ks.length+q]?)):Holds Z H ks (ins.set k i) (xss.set k xs):=by
 refine ⟨by simp [h.1],fun j i' xs' hj hx=>?_⟩
 rw [YA] at hj hx;split at hj
 ·rename_i hk;subst hk;split at hj
  ·rename_i hlt;rw [if_pos rfl,if_pos (by rw [← h.1];exact hlt)] at hx
   cases hj;cases hx;exact ⟨h1,h2⟩
  cases hj
 rename_i hk;rw [if_neg hk] at hx;exact h.2 j i' xs' hj hx
theorem Deep.frz {H0 H:Heap} {To Ti:TypeId} {sz:Nat} {ins:List Inn} {a:Option Addr} {c:Nat} {Z:Nat->Prop} {ks:List Kd} {xss:List (List (Tp ks))} (d:Deep H0 H To Ti sz ins a c) (h:Holds Z H ks ins xss) (hsz:sz=ks.length) (hlx: ∀xs,xs∈xss->xs.length <= Zw):
  ∃Zn:Nat->Prop,(∀b,Zn b->H0 b=none∧∃cc T r,H b=some (.cells cc T r))∧Zb (fun b=>Z b∨Zn b) H (.lst [.lst ks]) xss (.slice a ins.length c):=by
 refine ⟨fun b=>a=some ⟨b,0,none⟩∨∃(j:Nat) (i:Inn),ins[j]? =some i∧i.a=some ⟨b,0,none⟩,fun b hb=>?_,?_⟩;rcases hb with hb | ⟨j,i,hj,hb⟩;obtain ⟨rest,h1,_⟩:=d.out.blk hb;exact ⟨d.out.free hb,_,_,_,h1⟩;obtain ⟨rest,h1,_⟩:=(d.inn j i hj).blk hb;exact ⟨(d.inn j i hj).free hb,_,_,_,h1⟩
 ·simp only [Zb];refine ⟨a,ins.length,c,rfl,h.1.symm,d.out.le,d.capO,fun h0=>?_⟩;obtain ⟨m,hm⟩:=d.out.addr h0;obtain ⟨rest,hb,_⟩:=d.out.blk hm;refine ⟨m,0,hm,.inr (.inl hm),_,_,_,hb,fun j (xs:List (Tp ks)) hj=>?_⟩;have hlt:j<ins.length:=by rw [h.1];rcases Ys j xss.length with h | h;exact h;have hj':xss[j]? =some xs:=hj;rw [Yf h] at hj';cases hj'
  have hj':xss[j]? =some xs:=hj;obtain ⟨hn,hd⟩:=h.2 j _ xs (Yc hlt) hj';simp only [Ze,and_true];refine ⟨(ins[j]).val,?_,?_⟩
  ·simp only [List.length_cons,List.length_nil,Yx,Yta,Nat.add_zero,YE];rw [Yd (by simpa using hlt),Yaa,Yc hlt];rfl
  ·have own:=d.inn j _ (Yc hlt);simp only [Zb,hdT];refine ⟨(ins[j]).a,(ins[j]).n,(ins[j]).cap,rfl,hn.symm,own.le,d.capI j _ (Yc hlt),fun hn0=>?_⟩;obtain ⟨mi,hmi⟩:=own.addr hn0;obtain ⟨ri,hbi,_⟩:=own.blk hmi;refine ⟨mi,0,hmi,.inr (.inr ⟨j,_,Yc hlt,hmi⟩),_,_,_,hbi,fun t x ht=>?_⟩;refine Ze.ext (fun b hb=>⟨.inl hb,rfl⟩) _ _ _ (Ze.congr (fun q hq=>?_) (hd t x ht));have htl:t<xs.length:=by rcases Ys t xs.length with h | h;exact h;have ht':xs[t]? =some x:=ht;rw [Yf h] at ht';cases ht'
   have hyl:=own.len;simp only [Yx,YE];rw [Yd];rw [hyl,hn,hsz];have:(t+1)*ks.length <= xs.length*ks.length:=Yy _ htl;rw [Ypa] at this;omega
end Go.Sh
end
section
namespace Go.Sh
theorem Zln {H0 H H2:Heap} (k:Keep Nil H0 H) (hs:Shut H0 H H2):Keep Nil H0 H2:=
 ⟨fun b hb ha=>by
  rcases hs b with e | ⟨e,_,_⟩;rw [e];exact k.same b hb ha
  ·exact absurd e ha,fun b ha=>by
  rcases hs b with e | ⟨e,_,_⟩;rw [e];exact k.live b ha
  ·exact absurd e ha⟩
theorem Zbhz {H0 H H2:Heap} {b:Nat} {T:TypeId} {c:Array Value} (h:Blk H b T c) (hs:Shut H0 H H2):Blk H2 b T c:=by rcases hs b with e | ⟨_,e,_⟩;exact h.same e;unfold Blk at h;rw [h] at e;cases e
def Zbiy (b:Nat):Nat->List Value->Heap->(Heap->Prop)->Prop
 | _,[],H,K=>K H
 | o,v::vs,H,K=>Zc H ⟨b,o,none⟩ v fun H'=>Zbiy b (o+1) vs H' K
theorem Zkd {b:Nat} {T:TypeId} {K:Heap->Prop}: ∀(vs:List Value) (o:Nat) (pre old:List Value) (H:Heap),Blk H b T ⟨pre++old⟩->pre.length=o->old.length=vs.length->(∀v∈vs,Zv v=true)->
  (∀H',Blk H' b T ⟨pre++vs⟩->(∀x,x≠b->H' x=H x)->K H')->Zbiy b o vs H K
 | [],o,pre,old,H,hb,_,hl,_,hk=>by have:old= []:=Yl hl;subst this;exact hk H hb fun _ _=>rfl
 | v::vs,o,pre,[],H,_,_,hl,_,_=>by simp at hl
 | v::vs,o,pre,w::old,H,hb,ho,hl,hp,hk=>by
  simp only [Zbiy];refine Zc.blk hb (by simp;omega) (hp v Yk) ?_
  have e:(⟨pre++w::old⟩:Array Value).setIfInBounds o v=⟨(pre++[v])++old⟩:=by
   apply Y2;simp only [YEa];rw [Y8a _ _ (by omega),show o - pre.length=0 by omega]
   simp
  rw [e];refine Zkd vs (o+1) (pre++[v]) old _ Blk.upd_eq (by simp [ho]) (by simpa using hl) (fun x hx=>hp x (Yi _ hx)) fun H' h1 h2=>?_
  refine hk H' (by simpa using h1) fun x hx=>?_
  rw [h2 x hx,Sh.upd_ne hx]
theorem Zrn {Z:Nat->Prop} {H:Heap} {ks:List Kd}:Zb Z H (.lst ks) ([]:List (Tp ks)) (.slice none 0 0):=by simp only [Zb];exact ⟨none,0,0,rfl,rfl,Yh _,YI _,fun h=>absurd h (Nat.lt_irrefl _)⟩
end Go.Sh
end
section
namespace Go.Sh
variable [Laid]
theorem Zdcl: ∀(k:IntKind) (x:Zlm k),ofI k (toI k x)=x
 | .u8,x=>by simp [ofI,toI]
 | .u16,x=>by simp [ofI,toI]
 | .u32,x=>by simp [ofI,toI]
 | .u64,x=>by simp [ofI,toI]
 | .i8,_=>rfl
 | .i16,_=>rfl
 | .i32,_=>rfl
 | .i64,_=>rfl
theorem Zdpf: ∀(k:Kd) (x:El k),unE k (lvE k x)=some x
 | .int k,x=>by simp only [lvE,unE,decide_true];exact congrArg some (Zdcl k x)
 | .bool,_=>rfl
 | .str,_=>rfl
 | .lst ks,xs=>by
  simp only [lvE,unE];cases h:Kd.decs ks ks with
  | isTrue e=>rfl
  | isFalse e=>exact absurd rfl e
theorem Zdhj (σ:List AObj): ∀(k:Kd) (x:El k),Zfb σ (lvE k x)=lvE k x
 | .int _,_=>rfl
 | .bool,_=>rfl
 | .str,_=>rfl
 | .lst _,_=>rfl
theorem Zcrr {k:Kd}: ∀(ks:List Kd) (x:Tp (k::ks)),mkT ks (hdT ks x) (tlT ks x)=x
 | [],_=>rfl
 | _::_,_=>rfl
theorem Zcaq (σ:List AObj): ∀(ks:List Kd) (x:Tp ks),unT ks ((lvT ks x).map (Zfb σ))=some x
 | [],_=>rfl
 | k::ks,x=>by simp only [lvT,YG,Zdhj,unT,Zdpf,Zcaq σ ks];rw [Zcrr]
theorem Zbya (σ:List AObj): ∀(ks:List Kd) (x:Tp ks),frzL σ (lvT ks x)=some σ
 | [],_=>rfl
 | k::ks,x=>by
  have e:frzO σ (lvE k (hdT ks x))=some σ:=by cases k<;>rfl
  simp only [lvT,frzL,e,Zbya σ ks]
theorem Zceh {σ:List AObj}: ∀{rs:List Pk} {y:PkTs rs} {M:Nat},(rs.all fun p=>!(Zcm p))=true->frzP σ rs (pksA M rs y)=some σ
 | [],_,_,_=>rfl
 | r::rs,y,M,h=>by
  simp only [List.all_cons,Ya] at h;have ih:=Zceh (σ:=σ) (rs:=rs) (y:=y.2) (M:=M) h.2;cases r<;>simp only [Zcm] at h<;>first | (simp at h;done) | skip
  case agg ks=>
   have e:frzL σ (lvT ks y.1)=some σ:=Zbya σ ks y.1;simp only [pksA,frzP,Zcm,pkA,Zcn];rw [e];exact ih
  all_goals
   simp only [pksA,frzP,Zcm,pkA,Zcn,frzL,frzO];exact ih
theorem Zcnf (σ:List AObj) (ks:List Kd) (xs:List (Tp ks)):rdL σ ks (.lst ks xs)=some xs:=by
 simp only [rdL];cases h:Kd.decs ks ks with
 | isTrue e=>rfl
 | isFalse e=>exact absurd rfl e
theorem Zcdo {σ:List AObj}: ∀{rs:List Pk} {y:PkTs rs} {M:Nat},(rs.all fun p=>!(Zcm p))=true->Zdp σ rs (pksA M rs y)=some (y,[])
 | [],_,_,_=>rfl
 | r::rs,y,M,h=>by
  simp only [List.all_cons,Ya] at h;have ih:=Zcdo (σ:=σ) (rs:=rs) (y:=y.2) (M:=M) h.2;cases r<;>simp only [Zcm] at h<;>first | (simp at h;done) | skip
  case lst ks=>
   have e:rdL σ ks (.lst ks y.1)=some y.1:=Zcnf σ ks y.1;simp only [pksA,Zdp,Zcm,pkA,Zen,ih];rw [e];rfl
  case agg ks=>
   have e:unT ks ((lvT ks y.1).map (Zfb σ))=some y.1:=Zcaq σ ks y.1;simp only [pksA,Zdp,Zcm,pkA,Zen,ih];rw [e];rfl
  all_goals
   simp only [pksA,Zdp,Zcm,pkA,Zen,decide_true,ih,Yua];try rfl
theorem Zdey {rs:List Pk} {st:St} {y:PkTs rs} {K:PkTs rs->Prop} {M:Nat} (h:(rs.all fun p=>!(Zcm p))=true) (k:K y):outP rs st (outA (pksA M rs y)) K:=by unfold outP;rw [Zcun (Zgy _ _ _)];simp only [Zceh h,Zcdo h,Zq,Zdb];exact k
def Zcd (H H':Heap) (Zn:Nat->Prop):Prop:=∀b,Zn b->H b=none∧H' b≠none∧∀ds,H' b≠some (.deferred ds)
theorem Zcd.none {H H':Heap}:Zcd H H' (fun _=>False):=fun _ h=>h.elim
theorem Zcd.later {S:Nat->Prop} {H H' H'':Heap} {Zn:Nat->Prop} (h:Zcd H H' Zn) (k:Keep S H' H'') (hs: ∀b,Zn b->¬S b):Zcd H H'' Zn:=fun b hb=>by obtain ⟨h1,h2,h3⟩:=h b hb;rw [k.same b (hs b hb) h2];exact ⟨h1,h2,h3⟩
theorem Zcd.early {S:Nat->Prop} {H H' H'':Heap} {Zn:Nat->Prop} (h:Zcd H' H'' Zn) (k:Keep S H H'):Zcd H H'' Zn:=fun b hb=>by obtain ⟨h1,h2,h3⟩:=h b hb;exact ⟨k.free h1,h2,h3⟩
theorem Zcd.both {H H':Heap} {Z1 Z2:Nat->Prop} (h1:Zcd H H' Z1) (h2:Zcd H H' Z2):Zcd H H' (fun b=>Z1 b∨Z2 b):=fun b hb=>hb.elim (h1 b) (h2 b)
theorem Zcd.shut {H0 H H' H'':Heap} {Zn:Nat->Prop} (h:Zcd H H' Zn) (hs:Shut H0 H' H''):Zcd H H'' Zn:=fun b hb=>by obtain ⟨h1,h2,h3⟩:=h b hb;rcases hs b with e | ⟨_,e,_⟩;rw [e];exact ⟨h1,h2,h3⟩;exact absurd e (h3 _)
theorem FnQ.runZ {P:Program} {f:FuncId} {ps rs:List Pk} {q:PkTs ps->(PkTs rs->Prop)->Prop} (hq:FnQ P f ps rs q) (hrs:(rs.all fun p=>!(Zcm p))=true) {x:PkTs ps} (hps:pksR ps x= []) {vs:List Value} {H:Heap} {Z:Nat->Prop}
  (hs:SimL (gZ Z) H 0 (pksA 0 ps x) vs) (hz: ∀b,Z b->H b≠none) (hlay: ∀b,Laid.blocks b=true->H b≠none) (hlo:Laid.ok (layH H)) {K:PkTs rs->Prop} (h:q x K):
  FnW P f ⟨vs⟩ H fun v H'=>Keep Nil H H'∧∃y Zn,K y∧WfPs rs y∧Zcd H H' Zn∧SimV (gZ fun b=>Z b∨Zn b) H' 0 (outA (pksA 0 rs y)) v:=by
 have hσ:(parS ps x).σ= []:=hps;have s2:Sim ⟨H,Zbc (gZ Z) (pksR ps x),(gZ Z).Z⟩ (parS ps x) (env0 vs) H (gZ Z):=by refine ⟨fun t=>?_,fun i o hi=>?_,fun i o hi=>?_,fun i j oi oj _ hi=>?_,fun i o hi=>?_,Keep.refl _ _,fun b hb=>hb,fun b hb=> .inl hb,hz,⟨fun b hb ho=>?_,hlay,hlo⟩,fun b hb=> .inl hb⟩;rw [hσ];simpa [parS,env0] using Zla hs t;rw [hσ] at hi;simp at hi;rw [hσ] at hi;simp at hi;rw [hσ] at hi;simp at hi;rw [hσ] at hi;simp at hi;obtain ⟨i,o,hi,_⟩:=ho;rw [hps] at hi;simp at hi
 have hvl:vs.length=ps.length:=by rw [← hs.len,Zgy]
 refine (hq x _ h H (gZ Z) vs hvl s2).mono fun v H' hk=>?_;obtain ⟨a,st',ρ',g',s',hav,hout⟩:=hk;unfold outP at hout;split at hout
 case h_2=>exact hout.elim
 rename_i as hol;split at hout
 case h_2=>exact hout.elim
 rename_i σ' hfr';split at hout
 case h_2=>exact hout.elim
 rename_i y src' htk';split at hout
 case h_2=>exact hout.elim
 obtain ⟨g3,s3,r3,l3,f3,_⟩:=Zih rs as st'.σ σ' g' s' hfr';obtain ⟨ws,hws,hwsF⟩:=Zuk hol (Zkg htk') hav;have hws3:=SimL.ext r3.len r3.ext _ _ hws;obtain ⟨hw',hlen',_,hsim'⟩:=Zkw s3 htk' hws3 f3;have hR':pksR rs y= []:=Zbcq hrs;have hsrc':src'= []:=Yl (by rw [← hlen',hR'];rfl)
 subst hsrc';have hsl':=hsim' g3 0 0 ⟨fun j id h=>by simp at h,fun j h=>by simp at h⟩ (by simp) rfl
 have noOwn: ∀b,¬Zbc (gZ Z) (pksR ps x) b:=fun b ho=>by obtain ⟨i,o,hi,_⟩:=ho;rw [hps] at hi;simp at hi
 refine ⟨⟨fun b _ hb=>s3.keep.same b (noOwn b) hb,fun b hb=>s3.keep.live b hb⟩,y,fun b=>g3.Z b∧H b=none,hout,hw',fun b hb=>⟨hb.2,s3.zlive b hb.1,?_⟩,?_⟩;rcases s3.zc b hb.1 with h | h;exact absurd hb.2 (hz b h);exact h
 ·have e:=SimL.ext (g:=g3) (g':=gZ fun b=>Z b∨(g3.Z b∧H b=none)) (H':=H') (N:=0) (N':=0) (Yh _) ⟨fun b hb=>⟨by
   rcases s3.znew b hb with h | h | h;exact .inl h;exact .inr ⟨hb,h⟩
   ·exact absurd h (noOwn b),rfl⟩,fun _ h=>absurd h (by omega),fun _ h=>absurd h (by omega)⟩ _ _ hsl'
  exact hwsF (gZ fun b=>Z b∨(g3.Z b∧H b=none)) H' _ _ (Zgy _ _ _) e
theorem Zciz {P:Program} {f:FuncId} {ps rs:List Pk} {q:PkTs ps->(PkTs rs->Prop)->Prop} (hrs:(rs.all fun p=>!(Zcm p))=true) (hps: ∀x,pksR ps x= [])
  (h: ∀x K,q x K->∀(H:Heap) (Z:Nat->Prop) (vs:List Value),SimL (gZ Z) H 0 (pksA 0 ps x) vs->(∀b,Z b->H b≠none)->(∀b,Laid.blocks b=true->H b≠none)->Laid.ok (layH H)->
   FnW P f ⟨vs⟩ H fun v H'=>Keep Nil H H'∧∃(y:PkTs rs) (Zn:Nat->Prop),K y∧Zcd H H' Zn∧SimV (gZ fun b=>Z b∨Zn b) H' 0 (outA (pksA 0 rs y)) v):FnQ P f ps rs q:=by
 intro x K hx H g vs hl s;have hσ:(parS ps x).σ= []:=hps x;have hsl:=Zbvc s hl;rw [hps x] at hsl;refine (h x K hx H g.Z vs (Zbyb hsl) s.zlive (fun b hb=>by rw [s.layH.1 b hb];exact s.lay.live b hb) (by rw [s.layH.2];exact s.lay.ok)).mono fun v H' hk=>?_
 obtain ⟨hk,y,Zn,hK,hzn,hc⟩:=hk;obtain ⟨s',_⟩:=s.keepAll hk
 let g':Gh:=⟨fun b=>g.Z b∨Zn b,g.B,g.V⟩
 have ext': ∀N,Ext N g H' g' H':=fun N=>⟨fun b hb=>⟨.inl hb,rfl⟩,fun _ _=>rfl,fun _ _=>rfl⟩;refine ⟨outA (pksA 0 rs y),parS ps x,env0 vs,g',⟨fun t=>SimV.ext (Yh _) (ext' _) _ _ (s'.tmp t),fun i o hi=>?_,fun i o hi=>?_,fun i j oi oj _ hi=>?_,fun i o hi=>?_,s'.keep,fun b hb=> .inl (s'.zsub b hb),fun b hb=>?_,fun b hb=>?_,s'.lay,fun b hb=>?_⟩,?_,?_⟩;rw [hσ] at hi;simp at hi;rw [hσ] at hi;simp at hi;rw [hσ] at hi;simp at hi;rw [hσ] at hi;simp at hi;rcases hb with hb | hb;exact s'.znew b hb;exact .inr (.inl (hzn b hb).1);rcases hb with hb | hb;exact s'.zlive b hb;exact (hzn b hb).2.1;rcases hb with hb | hb;exact s'.zc b hb;exact .inr (hzn b hb).2.2;exact SimV.ext (g:=gZ fun b=>g.Z b∨Zn b) (g':=g') (N:=0) (YI _) ⟨fun b hb=>⟨hb,rfl⟩,fun _ h=>absurd h (by omega),fun _ h=>absurd h (by omega)⟩ _ _ hc
 exact Zdey hrs hK
end Go.Sh
end
section
namespace Go.Sh
variable [Laid]
structure Looper (I:It) (Hs:Heap) (bs:List Nat) where
 J:(Nat->Prop)->(Nat->Prop)->List (PkTs I.ps)->Heap->Prop
 X:Exit->(Nat->Prop)->(Nat->Prop)->Heap->Prop
 stJ: ∀{Z W:Nat->Prop} {r:List (PkTs I.ps)} {H H':Heap},J Z W r H->(∀b,H b≠none->Z b∨W b∨(Hs b≠none∧b∉bs)->H' b=H b)->(∀b,H b≠none->H' b≠none)->J Z W r H'
 stX: ∀{e:Exit} {Z W:Nat->Prop} {H H':Heap},X e Z W H->(∀b,H b≠none->Z b∨W b∨(Hs b≠none∧b∉bs)->H' b=H b)->(∀b,H b≠none->H' b≠none)->X e Z W H'
 ndJ: ∀{Z W:Nat->Prop} {r:List (PkTs I.ps)} {H:Heap},J Z W r H->∀b,Z b∨W b->Hs b≠none∨∀ds,H b≠some (.deferred ds)
 ndX: ∀{e:Exit} {Z W:Nat->Prop} {H:Heap},X e Z W H->∀b,Z b∨W b->Hs b≠none∨∀ds,H b≠some (.deferred ds)
def After {I:It} {Hs:Heap} {bs:List Nat} (L:Looper I Hs bs) (Z W Zx:Nat->Prop) (r:List (PkTs I.ps)) (H1:Heap) (e:Exit) (H3:Heap):Prop:=
 (∀b,H1 b≠none->¬W b->H3 b=H1 b)∧(∀b,H1 b≠none->H3 b≠none)∧∃Z' W':Nat->Prop,(∀b,Z b∨Zx b->Z' b∧H3 b=H1 b)∧(∀b,W' b->W b∨H1 b=none)∧(∀b,Z' b->Z b∨Zx b∨W b∨H1 b=none)∧
  (∀b,Z' b∨W' b->H3 b≠none)∧(∀b,W' b->¬Z' b)∧((e= .normal∧L.J Z' W' r H3)∨((∃code,Zfq e=some (some code))∧L.X e Z' W' H3))
theorem Zmj {P:Program} {plan:Plan} {a b:Code} {ρ:Env} {H:Heap} {Q:Post} {K:Env->Heap->Prop} (h:Zd P plan a ρ H (Zev K Q)) (hk: ∀ρ' H',K ρ' H'->Zd P plan b ρ' H' Q):Zd P plan (.seq a b) ρ H Q:=by
 simp only [Zd];refine Zd.mono a (fun e ρ' H' he=>?_) _ _ h;cases e<;>simp only [Zev] at he<;>first | exact he.elim | exact hk _ _ he | exact he
theorem Zdhy {P:Program} {plan:Plan} {i:Nat} {c:Code} {ρ:Env} {H:Heap} {Q:Post} (h:Zd P plan c ρ H (Znd i Q)):Zd P plan (.block i c) ρ H Q:=by simp only [Zd];exact h
theorem Zbkb {P:Program} {ρ:Env} {H:Heap}: ∀(rs:List ResultVar) (acc:List Value),ResW P ρ H rs acc (fun _=>False)->False
 | [],_,h=>h
 | .tmp t::rs,acc,h=>Zbkb rs _ (by simpa only [ResW] using h)
 | .cell a t::rs,acc,h=>by simp only [ResW] at h;obtain ⟨v,hv,_⟩:=Zbj.read h;exact Zbkb rs _ hv
theorem Zcdi {P:Program} {K:Env->Heap->Prop} {rs:List ResultVar} {e:Exit} {ρ:Env} {H:Heap} (h:Zev K (RetW P rs fun _ _=>False) e ρ H):e= .normal∧K ρ H:=by
 cases e<;>simp only [Zev] at h<;>first | exact h.elim | exact ⟨rfl,h⟩ | exact (Zbkb _ _ h).elim
theorem Zbzu {Z:Nat->Prop} {H H':Heap} {as:List AV} {vs:List Value} (hz: ∀b,Z b->H' b=H b) (h:SimL ⟨Z,fun _=>0,fun _=> .nilFunc⟩ H 0 as vs):SimL ⟨Z,fun _=>0,fun _=> .nilFunc⟩ H' 0 as vs:=
 SimL.ext (Yh _) ⟨fun b hb=>⟨hb,hz b hb⟩,fun _ h=>absurd h (by omega),fun _ h=>absurd h (by omega)⟩ _ _ h
theorem Zdhz {P:Program} {plan:Plan} {g:Operand} {ps:Array Tmp} {assign body:Code} {ρ:Env} {H:Heap} {Q:Post} {f:FuncId} {I:It} (hI:ItOk P f I) {bs:List Nat} {us:List Value} {c:PTup I.kc} {Z0 W0:Nat->Prop}
  (hg:ev ρ g= .func (.func f) #[] ⟨bs.map Zdg⟩) (hpre:I.pre c) (hnd:bs.Nodup) (hlen:bs.length=us.length) (hval: ∀(i b:Nat) (v:Value),bs[i]? =some b->us[i]? =some v->∃T,H b=some (.cells ⟨[v]⟩ T (0,0)))
  (hus:SimL ⟨Z0,fun _=>0,fun _=> .nilFunc⟩ H 0 (avsY 0 I.kc c) us) (hwf:WfY I.kc c) (hz: ∀b,Z0 b->H b≠none) (hbz: ∀b∈bs,¬Z0 b∧¬W0 b) (hw: ∀b,W0 b->H b≠none∧¬Z0 b)
  (hlay: ∀b,Laid.blocks b=true->H b≠none∧b∉bs∧¬W0 b) (hlo:Laid.ok (layH H)) (L:Looper I H bs) (hJ:L.J Z0 W0 (I.xs c) H) (hpl:I.ps.length=ps.size) {S:List Value->Env->Prop}
  (hA: ∀(vs:List Value) (H1:Heap),vs.length=ps.size->Zd P plan assign (Zgr ps.toList vs ρ) H1 fun e ρ1 H2=>e= .normal∧H2=H1∧S vs ρ1)
  (hB: ∀(Z W Zx:Nat->Prop) (x:PkTs I.ps) (r:List (PkTs I.ps)) (H1:Heap) (vs:List Value) (ρ1:Env),S vs ρ1->L.J Z W (x::r) H1->Zjg Zx H1 I.ps x vs->(∀b,Zx b->Z b∨(¬W b∧(∃cs T q,H1 b=some (.cells cs T q))∧(b∈bs∨H b=none)))->
   Zd P plan body ρ1 H1 fun e _ H3=>After L Z W Zx r H1 e H3)
  (hE: ∀(Z W:Nat->Prop) (H':Heap),L.J Z W [] H'->Q .normal ρ H') (hX: ∀(e:Exit) (Z W:Nat->Prop) (H':Heap),L.X e Z W H'->Q e ρ H'):
  Zd P plan (.rangeFunc g ps assign body) ρ H Q:=by
 simp only [Zd];rw [hg];refine ⟨rfl,fun nt d l rec hd hl hne hst hpe hps hra hrb hT hrnd=>?_⟩;have hHs: ∀b,H b≠none->((H.upd d (.deferred (some []))).upd l (.loop rec)) b=H b:=fun b hb=>by rw [upd_ne (fun e=>hb (by rw [e];exact hl)),upd_ne (fun e=>hb (by rw [e];exact hd))]
 have hHl:((H.upd d (.deferred (some []))).upd l (.loop rec)) l=some (.loop rec):=upd_eq;have hHsn: ∀b,((H.upd d (.deferred (some []))).upd l (.loop rec)) b=none->H b=none:=fun b hb=>by by_cases e1:b=l;subst e1;rw [hHl] at hb;cases hb;rw [upd_ne e1] at hb;by_cases e2:b=d;subst e2;exact hd;rw [upd_ne e2] at hb;exact hb
 generalize hHe:(H.upd d (.deferred (some []))).upd l (.loop rec)=Hs at hHs hHl hHsn ⊢;have hbl: ∀b∈bs,H b≠none:=fun b hb=>by
  obtain ⟨i,hi⟩:=Y3 hb;have hil:i<us.length:=by rw [← hlen];rcases Ys i bs.length with h | h;exact h;rw [Yf h] at hi;cases hi
  obtain ⟨T,hT⟩:=hval i b _ hi (Yc hil);rw [hT];simp
 have agree: ∀{Z Wu:Nat->Prop} {Hc H2:Heap},(∀b,Hc b≠none->Z b∨(b=l∨Wu b)∨(Hs b≠none∧b∉bs)->H2 b=Hc b)->∀b,Hc b≠none->Z b∨Wu b∨(H b≠none∧b∉bs)->H2 b=Hc b:=fun {Z Wu Hc H2} hag b hb hc=>by rcases hc with h | h | h;exact hag b hb (.inl h);exact hag b hb (.inr (.inl (.inr h)));exact hag b hb (.inr (.inr ⟨by rw [hHs b h.1];exact h.1,h.2⟩))
 let C:Cons P l I.ps Hs bs:={
  J:=fun Z W r Hc=>∃Wu:Nat->Prop,W=(fun b=>b=l∨Wu b)∧L.J Z Wu r Hc∧Hc l=some (.loop rec)∧¬Z l∧¬Wu l
  X:=fun Z W Hc=>∃(Wu:Nat->Prop) (e:Exit) (code:Code) (r:Loop),W=(fun b=>b=l∨Wu b)∧Zfq e=some (some code)∧L.X e Z Wu Hc∧Hc l=some (.loop r)∧r.state≠ .busy∧r.pending=some code∧¬Z l∧¬Wu l
  stJ:=fun {Z W r Hc H2} hJ hag hlv=>by obtain ⟨Wu,rfl,hj,hl1,hzl,hwl⟩:=hJ;exact ⟨Wu,rfl,L.stJ hj (agree hag) hlv,by rw [hag l (by rw [hl1];simp) (.inr (.inl (.inl rfl)))];exact hl1,hzl,hwl⟩
  stX:=fun {Z W Hc H2} hX hag hlv=>by obtain ⟨Wu,e,code,r,rfl,hj,hx,hl1,h2,h3,hzl,hwl⟩:=hX;exact ⟨Wu,e,code,r,rfl,hj,L.stX hx (agree hag) hlv,by rw [hag l (by rw [hl1];simp) (.inr (.inl (.inl rfl)))];exact hl1,h2,h3,hzl,hwl⟩
  ndJ:=fun {Z W r Hc} hJ b hb=>by
   obtain ⟨Wu,rfl,hj,hl1,hzl,hwl⟩:=hJ;have key: ∀b,Z b∨Wu b->Hs b≠none∨∀ds,Hc b≠some (.deferred ds):=fun b hb=>(L.ndJ hj b hb).imp (fun h=>by rw [hHs b h];exact h) id
   rcases hb with hb | rfl | hb;exact key b (.inl hb)
   ·exact .inr fun ds e=>by rw [hl1] at e;cases e
   exact key b (.inr hb)
  ndX:=fun {Z W Hc} hX b hb=>by
   obtain ⟨Wu,e,code,r,rfl,hj,hx,hl1,h2,h3,hzl,hwl⟩:=hX;have key: ∀b,Z b∨Wu b->Hs b≠none∨∀ds,Hc b≠some (.deferred ds):=fun b hb=>(L.ndX hx b hb).imp (fun h=>by rw [hHs b h];exact h) id
   rcases hb with hb | rfl | hb;exact key b (.inl hb)
   ·exact .inr fun ds e=>by rw [hl1] at e;cases e
   exact key b (.inr hb)
  round:=fun {Z W Zx x r H1 ws} hJ hx hZx=>by
   obtain ⟨Wu,rfl,hj,hl1,hzl,hwl⟩:=hJ;have hwl2:ws.length=ps.size:=by have:=SimL.len hx;rw [Zgy] at this;rw [← this,hpl]
   have hxl: ¬Zx l:=fun h=>by rcases hZx l h with h | ⟨h,_⟩;exact hzl h;exact h (.inl rfl)
   have hln:H1 l≠none:=by rw [hl1];simp
   refine ⟨rec,hl1,hst,by rw [hps];exact hwl2,?_⟩
   rw [hps,hra,hrb];refine hrnd ws H1 _ hwl2 ?_;unfold Zsd;refine Zd.mono assign (fun e ρ1 Ha hk=>?_) _ _ (hA ws H1 hwl2);obtain ⟨rfl,rfl,hS⟩:=hk;simp only;refine ⟨rec,hl1,hst,?_⟩;have hne: ∀b,b≠l->(Ha.upd l (.loop { rec with state:= .busy })) b=Ha b:=fun b hb=>upd_ne hb
   have hbusy:(Ha.upd l (.loop { rec with state:= .busy })) l=some (.loop { rec with state:= .busy }):=upd_eq
   have hlv: ∀b,Ha b≠none->(Ha.upd l (.loop { rec with state:= .busy })) b≠none:=fun b hb=>by by_cases e:b=l;subst e;rw [hbusy];simp;rw [hne b e];exact hb
   have hnn: ∀b,(Ha.upd l (.loop { rec with state:= .busy })) b=none->Ha b=none:=fun b hb=>by by_cases e:b=l;subst e;rw [hbusy] at hb;cases hb;rw [hne b e] at hb;exact hb
   generalize Ha.upd l (.loop { rec with state:= .busy })=Hb at hne hbusy hlv hnn ⊢
   have hjb:L.J Z Wu (x::r) Hb:=L.stJ hj (fun b _ hc=>hne b fun e=>by
    subst e;rcases hc with h | h | h;exact hzl h;exact hwl h
    ·exact h.1 hl) hlv
   have hxb:Zjg Zx Hb I.ps x ws:=Zbzu (fun b hb=>hne b fun e=>hxl (e▸hb)) hx;refine Zd.mono body (fun e ρ2 Hc hk=>?_) _ _ (hB Z Wu Zx x r Hb ws ρ1 hS hjb hxb fun b hb=>?_)
   ·obtain ⟨k1,k2,Z',W',k3,k4,k5,k6,k7,hk⟩:=hk;have hlc:Hc l=some (.loop { rec with state:= .busy }):=by rw [k1 l (by rw [hbusy];simp) hwl];exact hbusy
    have hzl': ¬Z' l:=fun h=>by rcases k5 l h with h | h | h | h;exact hzl h;exact hxl h;exact hwl h;rw [hbusy] at h;cases h
    have hwl': ¬W' l:=fun h=>by rcases k4 l h with h | h;exact hwl h;rw [hbusy] at h;cases h
    unfold Zbln;refine ⟨_,hlc,?_⟩;have pack: ∀(rr:Loop) (Hd:Heap),Hd=Hc.upd l (.loop rr)->(∀b,Ha b≠none->¬(b=l∨Wu b)->Hd b=Ha b)∧(∀b,Ha b≠none->Hd b≠none)∧(∀b,Z b∨Zx b->Z' b∧Hd b=Ha b)∧(∀b,(b=l∨W' b)->(b=l∨Wu b)∨Ha b=none)∧
      (∀b,Z' b->Z b∨Zx b∨(b=l∨Wu b)∨Ha b=none)∧(∀b,Z' b∨(b=l∨W' b)->Hd b≠none)∧(∀b,(b=l∨W' b)->¬Z' b)∧Hd l=some (.loop rr)∧(∀b,Hc b≠none->Z' b∨W' b∨(H b≠none∧b∉bs)->Hd b=Hc b)∧(∀b,Hc b≠none->Hd b≠none):=by
     rintro rr Hd rfl;have dn: ∀b,b≠l->(Hc.upd l (.loop rr)) b=Hc b:=fun b hb=>upd_ne hb;have dl:(Hc.upd l (.loop rr)) l=some (.loop rr):=upd_eq;have dv: ∀b,Hc b≠none->(Hc.upd l (.loop rr)) b≠none:=fun b hb=>by by_cases e:b=l;subst e;rw [dl];simp;rw [dn b e];exact hb
     refine ⟨fun b hb hc=>?_,fun b hb=>dv b (k2 b (hlv b hb)),fun b hb=>?_,fun b hb=>?_,fun b hb=>?_,fun b hb=>?_,fun b hb=>?_,dl,fun b hb hc=>dn b fun e=>?_,dv⟩;have hbl:b≠l:=fun e=>hc (.inl e);rw [dn b hbl,k1 b (hlv b hb) (fun h=>hc (.inr h)),hne b hbl]
     ·have hbl:b≠l:=fun e=>by subst e;rcases hb with h | h;exact hzl h;exact hxl h
      obtain ⟨q1,q2⟩:=k3 b hb;exact ⟨q1,by rw [dn b hbl,q2,hne b hbl]⟩
     rcases hb with h | h;exact .inl (.inl h);rcases k4 b h with h | h;exact .inl (.inr h);exact .inr (hnn b h);rcases k5 b hb with h | h | h | h;exact .inl h;exact .inr (.inl h);exact .inr (.inr (.inl (.inr h)));exact .inr (.inr (.inr (hnn b h)));rcases hb with h | rfl | h;exact dv b (k6 b (.inl h));rw [dl];simp;exact dv b (k6 b (.inr h));rcases hb with rfl | h;exact hzl';exact k7 b h;subst e;rcases hc with h | h | h;exact hzl' h;exact hwl' h;exact h.1 hl
    rcases hk with ⟨rfl,hk⟩ | ⟨⟨code,hcode⟩,hk⟩;simp only [Zfq,Option.isNone,if_true];rw [Zcjk hst hpe];obtain ⟨q1,q2,q3,q4,q5,q6,q7,q8,q9,q10⟩:=pack rec _ rfl;exact ⟨q1,q2,Z',fun b=>b=l∨W' b,q3,q4,q5,q6,q7,.inl ⟨by trivial,W',rfl,L.stJ hk q9 q10,q8,hzl',hwl'⟩⟩
    rw [hcode];simp only [Option.isNone,Y8,if_false];obtain ⟨q1,q2,q3,q4,q5,q6,q7,q8,q9,q10⟩:=pack { ({ rec with state:= .busy }:Loop) with state:= .done,pending:=some code } _ rfl;exact ⟨q1,q2,Z',fun b=>b=l∨W' b,q3,q4,q5,q6,q7,.inr ⟨by trivial,W',e,code,_,rfl,hcode,L.stX hk q9 q10,q8,by simp,rfl,hzl',hwl'⟩⟩
   ·rcases hZx b hb with h | ⟨h1,⟨cs,T,q,h2⟩,h3⟩;exact .inl h
    ·refine .inr ⟨fun h=>h1 (.inr h),⟨cs,T,q,by rw [hne b fun e=>h1 (.inl e)];exact h2⟩,?_⟩
     rcases h3 with h3 | h3;exact .inl h3;exact .inr (hHsn b h3)
 }
 have hzl: ¬Z0 l:=fun h=>hz l h hl;have hwl: ¬W0 l:=fun h=>(hw l h).1 hl;have hJ0:L.J Z0 W0 (I.xs c) Hs:=L.stJ hJ (fun b hb _=>hHs b hb) (fun b hb=>by rw [hHs b hb];exact hb)
 have hlayE:layH Hs=layH H:=by
  funext b;unfold Sh.layH;cases hb:Laid.blocks b with
  | true=>exact hHs b (hlay b hb).1
  | false=>rfl
 have run:=hI Hs Z0 (fun b=>b=l∨W0 b) bs us c l C hpre hnd hlen (fun i b v h1 h2=>by
   obtain ⟨T,hT⟩:=hval i b v h1 h2;exact ⟨T,by rw [hHs b (by rw [hT];simp)];exact hT⟩)
  (Zbzu (fun b hb=>hHs b (hz b hb)) hus) hwf (fun b hb=>by rw [hHs b (hz b hb)];exact hz b hb) (fun b hb=>⟨(hbz b hb).1,fun h=>by
   rcases h with h | h;subst h;exact hbl b hb hl
   ·exact (hbz b hb).2 h⟩)
  (fun b hb=>by
   rcases hb with rfl | hb;exact ⟨by rw [hHl];simp,hzl⟩
   ·obtain ⟨h1,h2⟩:=hw b hb;exact ⟨by rw [hHs b h1];exact h1,h2⟩)
  (fun b hb=>by
   obtain ⟨h1,h2,h3⟩:=hlay b hb;refine ⟨by rw [hHs b h1];exact h1,h2,fun h=>?_⟩
   rcases h with h | h;subst h;exact h1 hl
   ·exact h3 h)
  (by rw [hlayE];exact hlo) ⟨W0,rfl,hJ0,hHl,hzl,hwl⟩
 have e0:(#[.func (.yield l) #[] #[]]++(⟨bs.map Zdg⟩:Array Value))=⟨.func (.yield l) #[] #[]::bs.map Zdg⟩:=by apply Y2;simp
 rw [e0];refine run.mono fun v H' hk=>?_;obtain ⟨Z',W',hk | hk⟩:=hk
 ·obtain ⟨Wu,rfl,hj,hl1,hzl',hwl'⟩:=hk;refine ⟨rec,hl1,by rw [hst];simp,?_⟩
  rw [hpe];refine hE Z' Wu _ (L.stJ hj (fun b hb hc=>upd_ne fun e=>?_) (fun b hb=>?_));subst e;rcases hc with h | h | h;exact hzl' h;exact hwl' h;exact h.1 hl;by_cases e:b=l;subst e;rw [upd_eq];simp;rw [upd_ne e];exact hb
 ·obtain ⟨Wu,e,code,r,rfl,hj,hx,hl1,h2,h3,hzl',hwl'⟩:=hk;refine ⟨r,hl1,h2,?_⟩;have hx':=L.stX hx (H':=H'.upd l (.loop { r with state:= .exhausted })) (fun b hb hc=>upd_ne fun e=>by
   subst e;rcases hc with h | h | h;exact hzl' h;exact hwl' h
   ·exact h.1 hl) (fun b hb=>by
   by_cases e:b=l;subst e;rw [upd_eq];simp
   ·rw [upd_ne e];exact hb)
  have hq:=hX e Z' Wu _ hx';generalize H'.upd l (.loop { r with state:= .exhausted })=H2 at hq ⊢
  generalize r.pending=pp at h3 ⊢;subst h3;cases e<;>simp only [Zfq,Option.some.injEq,reduceCtorEq] at hj<;>subst hj<;>exact hq
end Go.Sh
end
section
namespace Go.Sh
theorem ifT {b:Bool} {X Y:Prop} (h:b=true) (x:X):IfB b X Y:=by subst h;exact x
theorem ifF {b:Bool} {X Y:Prop} (h:b=false) (y:Y):IfB b X Y:=by subst h;exact y
theorem AtN.of {A:Type} {xs:List A} {i:Nat} {k:A->Prop} {x:A} (h:xs[i]? =some x) (hk:k x):AtN xs i k:=
 ⟨(YYa.1 h).1,fun y hy=>by rw [h] at hy;cases hy;exact hk⟩
theorem of_eq {T:Type} {next:T->Prop} {x y:T} (h:next x) (e:x=y):next y:=e▸h
theorem Zga {A B:Type} {K:A->B->Prop} {x y:A} {b:B} (h:K x b) (e:x=y):K y b:=e▸h
theorem Zh {n:Int} (h1: -9223372036854775808 <= n) (h2:n <= 9223372036854775807):IntKind.wrap .i64 n=n:=by unfold IntKind.wrap;simp [IntKind.bits,IntKind.signed];split<;>omega
theorem Zms (n:Int):IntKind.wrap .u8 n=n%256:=by simp [IntKind.wrap,IntKind.bits,IntKind.signed]
theorem Zbxy (n:Int):IntKind.wrap .u32 n=n%4294967296:=by simp [IntKind.wrap,IntKind.bits,IntKind.signed]
theorem Zcxq (n:Int):IntKind.wrap .u64 n=n%18446744073709551616:=by simp [IntKind.wrap,IntKind.bits,IntKind.signed]
theorem Zl.up {T:Type} {x0:T} {body:T->(T->Prop)->Prop} (n:Nat) (S:Nat->T) (P:Nat->Prop) (h0:x0=S 0) (hP:P 0)
  (hr: ∀i,i<n->P i->∀next:T->Prop,(P (i+1)->next (S (i+1)))->body (S i) next) (he:P n->∀next,body (S n) next):Zl T x0 body:=
 ⟨fun k x=>∃i,i <= n∧k=n - i∧x=S i∧P i,n,⟨0,by omega,by omega,h0,hP⟩,by
  rintro k x ⟨i,hi,rfl,rfl,hp⟩;by_cases h:i<n;exact hr i h hp _ (fun hp'=>⟨n - (i+1),by omega,i+1,by omega,rfl,rfl,hp'⟩)
  ·obtain rfl:i=n:=by omega
   exact he hp _⟩
theorem Zl.list {T A:Type} {x0:T} {body:T->(T->Prop)->Prop} (xs:List A) (S:List A->T) (P:List A->Prop) (h0:x0=S []) (hP:P [])
  (hr: ∀pre x post,xs=pre++x::post->P pre->∀next:T->Prop,(P (pre++[x])->next (S (pre++[x])))->body (S pre) next) (he:P xs->∀next,body (S xs) next):Zl T x0 body:=by
 refine Zl.up xs.length (fun i=>S (xs.take i)) (fun i=>P (xs.take i)) (by simpa using h0) (by simpa using hP) (fun i hi hp next hn=>?_) (by simpa using he)
 have e:xs.take (i+1)=xs.take i++[xs[i]]:=by rw [YFa,Yc hi];rfl
 refine hr (xs.take i) xs[i] (xs.drop (i+1)) ?_ hp next ?_
 rw [← YIa hi,Y4];rw [← e];exact hn
theorem Zbe {A:Type} {xs pre post:List A} {x:A} (h:xs=pre++x::post):xs[((pre.length:Nat):Int).toNat]? =some x:=by subst h;simp
theorem Zdc (x:UInt32):ofI .u32 (x.toNat:Int)=x:=by simp [ofI]
theorem Zl.over {T A:Type} {x0:T} {body:T->(T->Prop)->Prop} (xs:List A) (S:List A->T) (P:List A->Prop) (h0:x0=S []) (hP:P [])
  (hr: ∀pre x post,xs=pre++x::post->xs.length=pre.length+(post.length+1)->P pre->∀next:T->Prop,(P (pre++[x])->next (S (pre++[x])))->body (S pre) next) (he:P xs->∀next,body (S xs) next):Zl T x0 body:=
 Zl.list xs S P h0 hP (fun pre x post h=>hr pre x post h (by rw [h];simp)) he
theorem Zul (a:Nat):Int.fdiv (a:Int) 256=((a/256:Nat):Int):=by rw [Yqa _ (by decide)];rfl
theorem Zbsi (a:Nat):Int.fdiv (a:Int) 65536=((a/65536:Nat):Int):=by rw [Yqa _ (by decide)];rfl
theorem Zcik (a:Nat):Int.fdiv (a:Int) 16777216=((a/16777216:Nat):Int):=by rw [Yqa _ (by decide)];rfl
theorem Zcgs (a:Nat):Int.tdiv (a:Int) 256=((a/256:Nat):Int):=rfl
theorem Zbme (a:Nat):Int.tmod (a:Int) 256=((a%256:Nat):Int):=rfl
theorem Zbah (a:Nat):UInt8.ofNat (a%256)=UInt8.ofNat a:=by apply YSa.1;simp
theorem of8w (a:Nat):ofI .u8 (IntKind.wrap .u8 (a:Int))=UInt8.ofNat a:=by rw [Zms];show UInt8.ofNat ((a:Int)%256).toNat=_;rw [← Zbah a];congr 1
theorem wu32 {a:Nat} (h:a<4294967296):IntKind.wrap .u32 (a:Int)=(a:Int):=by rw [Zbxy];omega
theorem Zbrc (x:UInt32):x.toNat<4294967296:=Yda x
def be4 (n:Nat):List UInt8:=[UInt8.ofNat (n/16777216),UInt8.ofNat (n/65536),UInt8.ofNat (n/256),UInt8.ofNat n]
def be2 (n:Nat):List UInt8:=[UInt8.ofNat (n/256),UInt8.ofNat n]
theorem Zdz (n:Nat):(be4 n).length=4:=rfl
theorem Zoc (n:Nat):(be2 n).length=2:=rfl
end Go.Sh
end
section
namespace Go.Sh
theorem Zoz (w a:Nat) (h:a<2^w):BitVec.ofInt w (a:Int)=BitVec.ofNat w a:=by apply BitVec.eq_of_toNat_eq;rw [BitVec.toNat_ofInt,BitVec.toNat_ofNat];rw [← Int.natCast_emod,Int.toNat_natCast]
theorem Zccy (k:IntKind) (a b:Nat) (ha:a<2^k.bits) (hb:b<2^k.bits):Zhq k a b=k.wrap ((a&&& b:Nat):Int):=by unfold Zhq;rw [Zoz _ _ ha,Zoz _ _ hb,BitVec.toNat_and,BitVec.toNat_ofNat,BitVec.toNat_ofNat,YV ha,YV hb]
theorem Zix (k:IntKind) (a b:Nat) (ha:a<2^k.bits) (hb:b<2^k.bits):Zbz k a b=k.wrap ((a||| b:Nat):Int):=by unfold Zbz;rw [Zoz _ _ ha,Zoz _ _ hb,BitVec.toNat_or,BitVec.toNat_ofNat,BitVec.toNat_ofNat,YV ha,YV hb]
theorem Zmu {a:Nat} (h:a<18446744073709551616):a<2^IntKind.bits .i64:=YQa h (by decide)
theorem Zgs {a:Nat} (h:a<4294967296):a<2^IntKind.bits .u32:=YQa h (by decide)
theorem Zbgb {a:Nat} (h:a<256):a<2^IntKind.bits .u8:=YQa h (by decide)
theorem Zcqt (n a:Nat):a&&& 2^n=2^n*(a/2^n%2):=by
 apply Nat.eq_of_testBit_eq;intro i;rw [Yjb,Nat.testBit_two_pow,Nat.testBit_two_pow_mul];by_cases h:n=i;subst h;simp only [decide_true,Ygb,Yh,ge_iff_le,YUa,YT];rw [YMa];rw [YMa];simp
 ·rw [decide_eq_false h,YVa];by_cases h2:n <= i
  ·rw [decide_eq_true (by omega),YT,YMa]
   have:a/2^n%2/2^(i - n)=0:=by
    apply Nat.div_eq_of_lt;have h3:2^1 <= 2^(i - n):=YW (by decide) (by omega)
    omega
   rw [this];rfl
  rw [decide_eq_false (by omega),Yka]
theorem Ztm (n a b:Nat) (h:b<2^n):(2^n*a)||| b=2^n*a+b:=(Nat.two_pow_add_eq_or_of_lt h a).symm
theorem Ztk (a b:Nat) (h:b<256):(a*256)||| b=a*256+b:=by
 have:=Ztm 8 a b h;rw [show (2:Nat)^8=256 from rfl,Yla 256 a] at this;exact this
end Go.Sh
end
section
namespace Go.Sh
def valF (n:Nat) (x:UInt8):Nat:=10*n+(x.toNat - 48)
def val (s:List UInt8):Nat:=s.foldl valF 0
end Go.Sh
end
