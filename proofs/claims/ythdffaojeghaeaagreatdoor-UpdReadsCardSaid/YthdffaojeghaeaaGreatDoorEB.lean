/-
  Regions in which one new block stands in no order with calls:each place that it may have between them is looked at by itself.
-/
import Derived.Test.YthdffaojeghaeaaGreatDoorEA
import Derived.Scope
import Derived.ScopeJumps
set_option linter.all false
section
namespace Go.Sh
variable {D:List Deferred} {r:Option Nat}
theorem Zbkt: ∀(l r:List Nat),l.Nodup->(∀x∈l,x∈r)->l.length <= r.length
  | [],_,_,_=>Nat.zero_le _
  | x::l,r,hn,h=>by have hx:=h x List.mem_cons_self;have hn:=List.nodup_cons.1 hn;have:=Zbkt l (r.erase x) hn.2 fun y hy=>(List.mem_erase_of_ne (fun (e:y=x)=>hn.1 (e▸hy))).2 (h y (List.mem_cons_of_mem _ hy));rw [List.length_erase_of_mem hx] at this;have:=List.length_pos_of_mem hx;simp only [List.length_cons];omega
theorem Zcvf {P:Program} {S} {I:Heap->Prop} (hS:Zhn P S I) {n:Nat} {all:Array Oper} {Q:Exit->Act->World->Prop} {w0:World}
    (hin:all.toList.all (opIn n all)=true) (hpred:Zhv 0 all.toList=true) (R:List Nat->Env->Heap->Prop) (hQ: ∀ρ a w,Fits n D ρ a->R [] ρ (hp w)->Rest w0 w->Q .normal a w)
    (hstep: ∀(rem:List Nat) (ρ:Env) (H:Heap) (i:Nat) (o:Oper),R rem ρ H->rem.Nodup->i∈rem->all[i]? =some o->(∀e∈rem,Zy (masks all.toList []) e i=true->False)->
      ∃rem',rem'.Nodup∧(∀k,k∈rem'↔(k∈rem∧k≠i))∧((I H∧GW all S o ρ H fun ρ' H'=>I H'->R rem' ρ' H')∨GW all (OpW P) o ρ H fun ρ' H'=>R rem' ρ' H')):
    ∀(fuel:Nat) (listed:Array Bool) (rem:List Nat),listed.size=all.size->rem.Nodup->(∀i∈rem,i<all.size)->(∀i,i<all.size->(listed.getD i true=false↔i∈rem))->
      (∀i,i<all.size->listed.getD i true=true->∀j,Zy (masks all.toList []) j i=true->listed.getD j true=true)->rem.length <= fuel->
      ∀(ρ:Env) (a:Act) (w:World),Fits n D ρ a->Rest w0 w->R rem ρ (hp w)->wpAnyIn (Fw r) 0 P .any all Q fuel listed a w:=by
  have preds_ok: ∀i o,all[i]? =some o->∀p∈Zcs o,p<i:=fun i o hi p hp'=>by
    have:=Zov all.toList 0 hpred i o (by simpa using hi) p hp'
    omega
  have mem_ready: ∀(listed:Array Bool) (i:Nat) (o:Oper),all[i]? =some o->(i∈Region.ready .any all listed↔(listed.getD i true=false∧∀p∈Zcs o,listed.getD p false=true)):=by
    intro listed i o hi;unfold Region.ready;have hlt:i<all.size:=(Array.getElem?_eq_some_iff.1 hi).1;rw [List.mem_filter];simp only [List.mem_range,hlt,true_and,hi,Option.map_some,Option.getD_some,Bool.and_eq_true,Bool.not_eq_true'];refine and_congr_right fun _=>?_;rw [← Array.all_toList,List.all_eq_true];constructor
    . intro h p hp';simp only [Zcs,List.mem_filterMap] at hp';obtain ⟨e,he,hb⟩:=hp';have:=h e he;cases hbb:Region.binds .any e with
      | false=>rw [hbb] at hb;cases hb
      | true=>
        rw [hbb] at hb this;cases hb;simpa using this
    . intro h e he;cases hbb:Region.binds .any e with
      | false=>rfl
      | true=>
        have:=h e.on (by simp only [Zcs,List.mem_filterMap];exact ⟨e,he,by rw [hbb]⟩)
        simp only [Bool.not_true,Bool.false_or];exact this
  intro fuel;induction fuel with
  | zero=>
    intro listed rem hsz hnd hlt hmem hcl hlen ρ a w hf hr h;obtain rfl:rem= []:=List.eq_nil_of_length_eq_zero (by omega)
    refine ⟨?_,hQ ρ a w hf h hr⟩;cases hrd:Region.ready .any all listed with
    | nil=>rfl
    | cons i rs=>
      have hi:i∈Region.ready .any all listed:=by rw [hrd];exact List.mem_cons_self
      have hi':i<all.size:=by unfold Region.ready at hi;simpa using (List.mem_filter.1 hi).1
      have:=((mem_ready listed i all[i] (Array.getElem?_eq_getElem hi')).1 hi).1;exact absurd ((hmem i hi').1 this) (by simp)
  | succ fuel ih=>
    intro listed rem hsz hnd hlt hmem hcl hlen ρ a w hf hr h;refine ⟨fun hrd=>?_,fun i hi=>?_⟩
    ·
      have:rem= []:=by
        cases hl:rem with
        | nil=>rfl
        | cons x xs=>
          exfalso;have hne: ∃i,i∈rem∧∀j∈rem,i <= j:=by
            have: ∀l:List Nat,l≠[]->∃i,i∈l∧∀j∈l,i <= j:=by
              intro l;induction l with
              | nil=>intro h;exact absurd rfl h
              | cons x xs ih=>
                intro _;by_cases hx:xs= [];subst hx;exact ⟨x,by simp,by simp⟩
                . obtain ⟨i,hi,hm⟩:=ih hx;by_cases hle:x <= i;exact ⟨x,by simp,fun j hj=>by rcases List.mem_cons.1 hj with rfl | hj;omega;have:=hm j hj;omega⟩
                  exact ⟨i,by simp [hi],fun j hj=>by rcases List.mem_cons.1 hj with rfl | hj;omega;exact hm j hj⟩
            exact this rem (by rw [hl];simp)
          obtain ⟨i,hi,hmin⟩:=hne;have hi':=hlt i hi;have hio:all[i]? =some all[i]:=Array.getElem?_eq_getElem hi';have:i∈Region.ready .any all listed:=(mem_ready listed i _ hio).2 ⟨(hmem i hi').2 hi,fun p hp'=>by
            have hpi:=preds_ok i _ hio p hp';have hpn:p∉rem:=fun hp''=>by have:=hmin p hp'';omega
            have hps:p<all.size:=by omega
            cases hlp:listed.getD p true with
            | false=>exact absurd ((hmem p hps).1 hlp) hpn
            | true=>
              rw [Array.getD_eq_getD_getElem?,Array.getElem?_eq_getElem (by omega)] at hlp ⊢
              exact hlp⟩
          rw [hrd] at this;cases this
      subst this;exact hQ ρ a w hf h hr
    . have hi':i<all.size:=by unfold Region.ready at hi;simpa using (List.mem_filter.1 hi).1
      have hio:all[i]? =some all[i]:=Array.getElem?_eq_getElem hi';obtain ⟨hun,hprs⟩:=(mem_ready listed i _ hio).1 hi;have hir:i∈rem:=(hmem i hi').1 hun;have listed_of: ∀p,p<all.size->listed.getD p false=true->listed.getD p true=true:=fun p hps h=>by
        rw [Array.getD_eq_getD_getElem?,Array.getElem?_eq_getElem (by omega)] at h ⊢
        exact h
      have reach_listed: ∀e,Zy (masks all.toList []) e i=true->listed.getD e true=true:=fun e he=>by
        have hb:=Zsl all.toList [] i all[i] (by simp [hi']) e (by simpa [Zy] using he)
        obtain ⟨p,hp',hj⟩:=hb;have hpi:=preds_ok i _ hio p hp';have hpl:=listed_of p (by omega) (hprs p hp')
        rcases hj with rfl | hj;exact hpl;exact hcl p (by omega) hpl e hj
      have hin':opIn n all all[i]=true:=List.all_eq_true.1 hin _ (by simp)
      have getD_set: ∀k,k<all.size->(listed.setIfInBounds i true).getD k true=if k=i then true else listed.getD k true:=by intro k hks;simp only [Array.getD_eq_getD_getElem?,Array.getElem?_setIfInBounds];by_cases e:k=i;subst e;simp [hsz,hks];rw [if_neg (fun e'=>e e'.symm),if_neg e]
      have hcl2: ∀k,k<all.size->(listed.setIfInBounds i true).getD k true=true->∀j,Zy (masks all.toList []) j k=true->(listed.setIfInBounds i true).getD j true=true:=fun k hks hlk j hj=>by
        rw [getD_set k hks] at hlk;have hold:listed.getD j true=true->(listed.setIfInBounds i true).getD j true=true:=by intro h;simp only [Array.getD_eq_getD_getElem?,Array.getElem?_setIfInBounds] at h ⊢;by_cases e:i=j;subst e;simp [hsz,hi'];rw [if_neg e];exact h
        by_cases e:k=i;subst e;exact hold (reach_listed j hj);rw [if_neg e] at hlk;exact hold (hcl k hks hlk j hj)
      have unl: ∀e∈rem,Zy (masks all.toList []) e i=true->False:=fun e he hre=>by have h1:=reach_listed e hre;have h2:=(hmem e (hlt e he)).2 he;rw [h1] at h2;cases h2
      obtain ⟨rem',hnd',hm',hgo⟩:=hstep rem ρ (hp w) i _ h hnd hir hio unl;have hlen':rem'.length<rem.length:=by
        have:=Zbkt (i::rem') rem (List.nodup_cons.2 ⟨fun hc=>((hm' i).1 hc).2 rfl,hnd'⟩) (fun k hk=>by
          rcases List.mem_cons.1 hk with rfl | hk;exact hir
          . exact ((hm' k).1 hk).1)
        simp only [List.length_cons] at this;omega
      have hnext: ∀ρ' a' w',Fits n D ρ' a'->R rem' ρ' (hp w')->Rest w w'->wpAnyIn (Fw r) 0 P .any all Q fuel (listed.setIfInBounds i true) a' w':=fun ρ' a' w' hf' hR' hr'=>by
        refine ih _ rem' (by simp [hsz]) hnd' (fun k hk=>hlt k ((hm' k).1 hk).1) (fun k hks=>?_) hcl2 (by omega) ρ' a' w' hf' (hr.trans hr') hR'
        rw [getD_set k hks,hm' k];by_cases e:k=i;subst e;simp;rw [if_neg e,hmem k hks];simp [e]
      rcases hgo with ⟨hI,hg⟩ | hg;have hg':GWs all S [all[i]] ρ (hp w) (fun ρ' H'=>I H'->R rem' ρ' H'):=hg;exact Znf hS hio hin' hf hI hg' fun ρ' a' w' hf' hI' hk hr'=>hnext ρ' a' w' hf' (hk hI') hr';have hg':GWs all (OpW P) [all[i]] ρ (hp w) (fun ρ' H'=>R rem' ρ' H'):=hg;exact Znf (Zns P) hio hin' hf trivial hg' fun ρ' a' w' hf' _ hk hr'=>hnext ρ' a' w' hf' hk hr'
theorem Zng {P:Program} {S} {C:List Tmp} (hR:Ranked S (Zbq P C)) {all:Array Oper} {e i:Nat} {x y:Oper} (hx:all[e]? =some x) (hy:all[i]? =some y) (h:Zdr P C all (masks all.toList []) e i=true)
    (hn:Zy (masks all.toList []) e i=true->False):Znb all x y=true∧Zxw S x y:=by
  unfold Zdr at h;have hnr:Zy (masks all.toList []) e i=false:=by
    cases hre:Zy (masks all.toList []) e i with
    | false=>rfl
    | true=>exact (hn hre).elim
  have hx2:all.toList[e]? =some x:=by simpa using hx
  have hy2:all.toList[i]? =some y:=by simpa using hy
  rw [hnr,hx2,hy2] at h;simp only [Bool.false_or,Bool.and_eq_true] at h;refine ⟨h.1,hR.swaps ?_⟩;have hs:=h.2;generalize Zbq P C x=r at hs;generalize Zbq P C y=s at hs;unfold Zmk at hs;split at hs;exact .inl rfl
  . simp only [Bool.or_eq_true] at hs;rcases hs with hs | hs;exact .inr (.inl ⟨by omega,Nat.le_of_ble_eq_true hs⟩)
    exact .inr (.inr (.inr ⟨.inl rfl,.inr (Nat.eq_of_beq_eq_true hs)⟩))
  . have:=Nat.le_of_ble_eq_true hs;rcases Nat.lt_or_ge s 3 with h | h;exact .inr (.inl ⟨by omega,by omega⟩)
    exact .inr (.inr (.inl ⟨rfl,by omega⟩))
  simp only [Bool.or_eq_true] at hs;rcases hs with hs | hs;exact .inr (.inr (.inr ⟨.inr rfl,.inl (Nat.le_of_ble_eq_true hs)⟩));exact .inr (.inr (.inr ⟨.inr rfl,.inr (Nat.eq_of_beq_eq_true hs)⟩));cases hs
def Zxj (r:Nat):Bool:=match r with
  | 0 | 1 | 2 | 5=>false
  | _=>true
theorem Zcve {P:Program} {C:List Tmp} {all:Array Oper} {e i:Nat} {x:Oper} (hx:all[e]? =some x) (hs:Zxj (Zbq P C x)=true) (h:Zdr P C all (masks all.toList []) e i=true):Zy (masks all.toList []) e i=true:=by
  unfold Zdr at h;have hx2:all.toList[e]? =some x:=by simpa using hx
  rw [hx2] at h;cases hr:Zy (masks all.toList []) e i with
  | true=>rfl
  | false=>
    rw [hr] at h;simp only [Bool.false_or] at h;split at h;rename_i y' hxy hy;cases hxy;simp only [Bool.and_eq_true] at h;have h2:=h.2;generalize Zbq P C x=r at hs h2;unfold Zxj at hs;unfold Zmk at h2;split at h2<;>simp_all;cases h
def GTs (all:Array Oper) (S:Oper->Env->Heap->(Value->Heap->Prop)->Prop) (a:Nat) (post Y:List Nat) (K:Env->Heap->Prop):List Nat->Env->Heap->Prop
  | [],ρ,H=>GWs all S (Zh all (a::post)) ρ H K
  | h::t,ρ,H=>match memB h Y with
    | true=>GWs all S (Zh all (a::h::(t++post))) ρ H K∧GWs all S (Zh all [h]) ρ H fun ρ' H'=>GTs all S a post Y K t ρ' H'
    | false=>GWs all S (Zh all [h]) ρ H fun ρ' H'=>GTs all S a post Y K t ρ' H'
theorem Zfm {all:Array Oper} {i:Nat} {o:Oper} (h:all[i]? =some o) (l:List Nat):Zh all (i::l)=o::Zh all l:=by
  have:all.toList[i]? =some o:=by simpa using h
  unfold Zh;rw [List.filterMap_cons,this]
theorem Zoi (all:Array Oper) (l1 l2:List Nat):Zh all (l1++l2)=Zh all l1++Zh all l2:=by simp [Zh]
section
variable {P:Program} {S:Oper->Env->Heap->(Value->Heap->Prop)->Prop} {C:List Tmp} {all:Array Oper} {a:Nat} {Y:List Nat} {K:Env->Heap->Prop}
theorem GTs.mono (N:Nice S) {post:List Nat} {K':Env->Heap->Prop} (hk: ∀ρ H,K ρ H->K' ρ H): ∀(pre:List Nat) (ρ:Env) (H:Heap),GTs all S a post Y K pre ρ H->GTs all S a post Y K' pre ρ H
  | [],ρ,H,h=>GWs.mono N hk _ _ _ h
  | x::t,ρ,H,h=>by unfold GTs at h ⊢;split at h;exact ⟨GWs.mono N hk _ _ _ h.1,GWs.mono N (fun ρ H h=>GTs.mono N hk t ρ H h) _ _ _ h.2⟩;exact GWs.mono N (fun ρ H h=>GTs.mono N hk t ρ H h) _ _ _ h
theorem GTs.first (hR:Ranked S (Zbq P C)) {post:List Nat} {oa:Oper} (ha:all[a]? =some oa): ∀(pre:List Nat),(∀h∈pre,h<all.size)->(∀h∈pre,h∈Y∨Zdr P C all (masks all.toList []) h a=true)->(∀e∈pre,Zy (masks all.toList []) e a=true->False)->
    ∀(ρ:Env) (H:Heap),GTs all S a post Y K pre ρ H->GWs all S (Zh all (a::(pre++post))) ρ H K
  | [],_,_,_,ρ,H,h=>h
  | x::t,hlt,hp,hn,ρ,H,h=>by
    unfold GTs at h;split at h;exact h.1
    . rename_i hm;have hx:all[x]? =some (all[x]'(hlt x List.mem_cons_self)):=Array.getElem?_eq_getElem _;have hpx:Zdr P C all (masks all.toList []) x a=true:=by rcases hp x List.mem_cons_self with h | h;rw [Zca.2 h] at hm;cases hm;exact h
      obtain ⟨h1,h2⟩:=Zng hR hx ha hpx (hn x List.mem_cons_self);rw [Zfm hx] at h;have h3:GWs all S ([all[x]'(hlt x List.mem_cons_self)]++oa::Zh all (t++post)) ρ H K:=by refine GW.mono hR.toNice (fun ρ' H' h=>?_) h;have:=GTs.first hR ha t (fun h hh=>hlt h (List.mem_cons_of_mem _ hh)) (fun h hh=>hp h (List.mem_cons_of_mem _ hh)) (fun e he=>hn e (List.mem_cons_of_mem _ he)) ρ' H' h;rw [Zfm ha] at this;exact this
      have h4:=GWs.front hR.toNice _ _ (fun z hz=>by
        simp only [List.mem_singleton] at hz;subst hz;exact ⟨h1,h2⟩) ρ H h3
      rw [Zfm ha,List.cons_append,Zfm hx];exact h4
theorem GTs.ahead (hR:Ranked S (Zbq P C)) {post:List Nat} {i:Nat} {o:Oper} (hi:all[i]? =some o) (p2:List Nat): ∀(p1:List Nat),(∀h∈p1,h<all.size∧h∉Y∧Zdr P C all (masks all.toList []) h i=true∧(Zy (masks all.toList []) h i=true->False))->
    ∀(ρ:Env) (H:Heap),GTs all S a post Y K (p1++i::p2) ρ H->GW all S o ρ H fun ρ' H'=>GTs all S a post Y K (p1++p2) ρ' H'
  | [],_,ρ,H,h=>by
    simp only [List.nil_append] at h ⊢;unfold GTs at h;rw [Zfm hi] at h;split at h;exact h.2
    . exact h
  | x::t,hp,ρ,H,h=>by
    obtain ⟨hlt,hy,hpr,hn⟩:=hp x List.mem_cons_self;have hx:all[x]? =some (all[x]'hlt):=Array.getElem?_eq_getElem _;have hm:memB x Y=false:=by
      cases hm:memB x Y with
      | false=>rfl
      | true=>exact absurd (Zca.1 hm) hy
    simp only [List.cons_append] at h ⊢;unfold GTs at h;rw [hm,Zfm hx] at h;obtain ⟨h1,h2⟩:=Zng hR hx hi hpr hn;have h3:GW all S (all[x]'hlt) ρ H fun ρ' H'=>GW all S o ρ' H' fun ρ'' H''=>GTs all S a post Y K (t++p2) ρ'' H'':=
      GW.mono hR.toNice (fun ρ' H' h=>GTs.ahead hR hi p2 t (fun h hh=>hp h (List.mem_cons_of_mem _ hh)) ρ' H' h) h
    have h4:=GW.swap hR.toNice h1 h2 h3;refine GW.mono hR.toNice (fun ρ' H' h=>?_) h4;unfold GTs;rw [hm,Zfm hx];exact h
theorem GTs.behind (hR:Ranked S (Zbq P C)) {q1 q2:List Nat} {i:Nat} {o oa:Oper} (hi:all[i]? =some o) (ha:all[a]? =some oa) (hai:Zdr P C all (masks all.toList []) a i=true) (han:Zy (masks all.toList []) a i=true->False)
    (hq: ∀h∈q1,h<all.size∧Zdr P C all (masks all.toList []) h i=true∧(Zy (masks all.toList []) h i=true->False)): ∀(pre:List Nat),(∀h∈pre,h<all.size∧h∉Y∧Zdr P C all (masks all.toList []) h i=true∧(Zy (masks all.toList []) h i=true->False))->
    ∀(ρ:Env) (H:Heap),GTs all S a (q1++i::q2) Y K pre ρ H->GW all S o ρ H fun ρ' H'=>GTs all S a (q1++q2) Y K pre ρ' H'
  | [],_,ρ,H,h=>by
    unfold GTs at h;have e:Zh all (a::(q1++i::q2))=Zh all (a::q1)++o::Zh all q2:=by rw [← List.cons_append,Zoi,Zfm hi]
    rw [e] at h;have h2:=GWs.front hR.toNice _ _ (fun z hz=>by
      rw [Zfm ha] at hz;rcases List.mem_cons.1 hz with rfl | hz;exact Zng hR ha hi hai han
      . simp only [Zh,List.mem_filterMap] at hz;obtain ⟨e,he,hxe⟩:=hz;obtain ⟨_,h1,h2⟩:=hq e he;exact Zng hR (by simpa using hxe) hi h1 h2) ρ H h
    have e2:Zh all (a::q1)++Zh all q2=Zh all (a::(q1++q2)):=by rw [← Zoi,List.cons_append]
    rw [e2] at h2;exact h2
  | x::t,hp,ρ,H,h=>by
    obtain ⟨hlt,hy,hpr,hn⟩:=hp x List.mem_cons_self;have hx:all[x]? =some (all[x]'hlt):=Array.getElem?_eq_getElem _;have hm:memB x Y=false:=by
      cases hm:memB x Y with
      | false=>rfl
      | true=>exact absurd (Zca.1 hm) hy
    unfold GTs at h;rw [hm,Zfm hx] at h;obtain ⟨h1,h2⟩:=Zng hR hx hi hpr hn;have h3:GW all S (all[x]'hlt) ρ H fun ρ' H'=>GW all S o ρ' H' fun ρ'' H''=>GTs all S a (q1++q2) Y K t ρ'' H'':=
      GW.mono hR.toNice (fun ρ' H' h=>GTs.behind hR hi ha hai han hq t (fun h hh=>hp h (List.mem_cons_of_mem _ hh)) ρ' H' h) h
    have h4:=GW.swap hR.toNice h1 h2 h3;refine GW.mono hR.toNice (fun ρ' H' h=>?_) h4;unfold GTs;rw [hm,Zfm hx];exact h
end
def Zrh (P:Program) (C:List Tmp) (all:Array Oper) (a:Nat) (pre post zs Y:List Nat):Bool:=
  let M:=masks all.toList []
  let l:=a::(pre++post)++zs
  Zdb l&&Nat.beq l.length all.size&&(List.range all.size).all (memB · l)&&l.all (Nat.blt · all.size)&&Zhv 0 all.toList&&
  Zea P C all M (pre++post)&&pre.all (fun h=>memB h Y||Zdr P C all M h a)&&post.all (Zdr P C all M a ·)&&Y.all (fun y=>match all.toList[y]? with | some o=>Zxj (Zbq P C o) | none=>false)&&
  (a::(pre++post)).all (fun e=>zs.all (Zy M e ·))&&orderedB M zs
where orderedB (M:List Nat):List Nat->Bool
  | []=>true
  | e::l=>l.all (Zy M e ·)&&orderedB M l
theorem Zbti {M:List Nat}: ∀{l:List Nat},Zrh.orderedB M l=true->l.Pairwise (fun e z=>Zy M e z=true)
  | [],_=>List.Pairwise.nil
  | e::l,h=>by simp only [Zrh.orderedB,Bool.and_eq_true] at h;exact List.pairwise_cons.2 ⟨fun z hz=>List.all_eq_true.1 h.1 z hz,Zbti h.2⟩
theorem Zbxj: ∀{l:List Nat},Zdb l=true->l.Nodup
  | [],_=>List.nodup_nil
  | x::xs,h=>by simp only [Zdb,Bool.and_eq_true,Bool.not_eq_true'] at h;exact List.nodup_cons.2 ⟨fun hc=>(by rw [Zca.2 hc] at h;cases h.1),Zbxj h.2⟩
theorem Zbiz {P:Program} {S} {I:Heap->Prop} {C:List Tmp} (hS:Zhn P S I) (hR:Ranked S (Zbq P C)) (hm:P.follows .mixedOrders=true) {n id:Nat} {all:Array Oper} {av:Nat} {pre post zs Y:List Nat} {Q:Exit->Act->World->Prop} {K:Env->Heap->Prop}
    (hin:all.toList.all (opIn n all)=true) (hd:Zrh P C all av pre post zs Y=true) {ρ:Env} {a:Act} {w:World} (hf:Fits n D ρ a) (hI:I (hp w)) (h:GTs all S av post Y (fun ρ' H'=>GWs all (OpW P) (Zh all zs) ρ' H' K) pre ρ (hp w))
    (hQ: ∀ρ a w',Fits n D ρ a->K ρ (hp w')->Rest w w'->Q .normal a w'):(Code.region id all true).wpIn (Fw r) 0 P Q a w:=by
  simp only [Zrh,Bool.and_eq_true] at hd;obtain ⟨⟨⟨⟨⟨⟨⟨⟨⟨⟨h1,h2⟩,h0⟩,h3⟩,h4⟩,h5⟩,h6⟩,h7⟩,h8⟩,h9⟩,h10⟩:=hd;have hnd:=Zbxj h1;have h2':=Nat.eq_of_beq_eq_true h2;have hlt: ∀i∈av::(pre++post)++zs,i<all.size:=fun i hi=>by simpa using List.all_eq_true.1 h3 i hi
  have hall: ∀i,i<all.size->i∈av::(pre++post)++zs:=fun i hi=>Zca.1 (List.all_eq_true.1 h0 i (List.mem_range.2 hi));have hzs:=Zbti h10;have hrz: ∀e∈av::(pre++post),∀z∈zs,Zy (masks all.toList []) e z=true:=fun e he z hz=>List.all_eq_true.1 (List.all_eq_true.1 h9 e he) z hz;have hstr: ∀y∈Y,∀o,all[y]? =some o->Zxj (Zbq P C o)=true:=fun y hy o ho=>by
    have:=List.all_eq_true.1 h8 y hy;have ho2:all.toList[y]? =some o:=by simpa using ho
    rw [ho2] at this;exact this
  have hav:all[av]? =some (all[av]'(hlt av (by simp))):=Array.getElem?_eq_getElem _
  let R:List Nat->Env->Heap->Prop:=fun rem ρ H=>
    (∃l zs',rem=l++zs'∧(∀k∈l++zs',k∈av::(pre++post)++zs)∧Zea P C all (masks all.toList []) l=true∧(∀e∈l,∀z∈zs',Zy (masks all.toList []) e z=true)∧zs'.Pairwise (fun e z=>Zy (masks all.toList []) e z=true)∧(l= []∨I H)∧GWs all S (Zh all l) ρ H (fun ρ' H'=>GWs all (OpW P) (Zh all zs') ρ' H' K))∨
    (∃p q,rem=av::(p++q)++zs∧(∀k∈p,k∈pre)∧(∀k∈q,k∈post)∧Zea P C all (masks all.toList []) (p++q)=true∧I H∧GTs all S av q Y (fun ρ' H'=>GWs all (OpW P) (Zh all zs) ρ' H' K) p ρ H)
  refine wpIn_region_any hm ?_;refine Zcvf hS (w0:=w) hin h4 R (fun ρ a w' hf' hr hrest=>?_) (fun rem ρ H i o hRr hndr hir hio hun=>?_) all.size _ (av::(pre++post)++zs) (by simp) hnd hlt (fun i hi=>?_) (fun i hi hli=>?_) (by omega) ρ a _ hf ⟨rfl,rfl,rfl,fun _ _ h=>h,Nat.le_refl _⟩ (.inr ⟨pre,post,rfl,fun _ h=>h,fun _ h=>h,h5,hI,h⟩)
  rcases hr with ⟨l,zs',he,_,_,_,_,_,h⟩ | ⟨p,q,he,_⟩;obtain ⟨rfl,rfl⟩:=List.append_eq_nil_iff.1 he.symm;exact hQ ρ a w' hf' h hrest;simp at he
  . rcases hRr with ⟨l,zs',rfl,hsub,hpairs,hlz,hzs',hIl,hg⟩ | ⟨p,q,rfl,hpp,hqq,hpairs,hIH,hg⟩
    . rcases List.mem_append.1 hir with hil | hiz
      . obtain ⟨l1,l2,rfl⟩:=List.append_of_mem hil;obtain ⟨hp1,hp2⟩:=Zko l1 i l2 hpairs;have hI2:I H:=by rcases hIl with h | h;simp at h;exact h
        have hnd1:=List.nodup_append.1 hndr;have hnd':=List.nodup_append.1 hnd1.1;have hni1:i∉l1:=fun hc=>hnd'.2.2 i hc i (by simp) rfl
        have hni2:i∉l2:=(List.nodup_cons.1 hnd'.2.1).1;have hniz:i∉zs':=fun hc=>hnd1.2.2 i (by simp) i hc rfl
        refine ⟨(l1++l2)++zs',?_,fun k=>?_,.inl ⟨hI2,?_⟩⟩;refine List.nodup_append.2 ⟨List.nodup_append.2 ⟨hnd'.1,(List.nodup_cons.1 hnd'.2.1).2,fun x hx y hy=>hnd'.2.2 x hx y (by simp [hy])⟩,hnd1.2.1,fun x hx y hy=>hnd1.2.2 x (by simp only [List.mem_append,List.mem_cons] at hx ⊢;rcases hx with h | h;exact .inl h;exact .inr (.inr h)) y hy⟩
        simp only [List.mem_append,List.mem_cons];by_cases e:k=i;subst e;simp [hni1,hni2,hniz];simp [e]
        . rw [Zoi,Zfm hio] at hg;have hfr:=GWs.front hR.toNice _ _ (fun x hx=>by
            simp only [Zh,List.mem_filterMap] at hx;obtain ⟨e,he,hxe⟩:=hx;exact Zng hR (by simpa using hxe) hio (hp1 e he) (hun e (by simp [he]))) ρ H hg
          refine GW.mono hR.toNice (fun ρ' H' hk hI'=>?_) hfr;refine .inl ⟨l1++l2,zs',rfl,fun k hk=>hsub k (by simp only [List.mem_append,List.mem_cons] at hk ⊢;rcases hk with (h | h) | h;exact .inl (.inl h);exact .inl (.inr (.inr h));exact .inr h),hp2,fun e he z hz=>hlz e (by simp only [List.mem_append,List.mem_cons] at he ⊢;rcases he with h | h;exact .inl h;exact .inr (.inr h)) z hz,hzs',.inr hI',?_⟩
          rw [Zoi];exact hk
      . have hl0:l= []:=by
          cases hl:l with
          | nil=>rfl
          | cons e es=>subst hl;exact (hun e (by simp) (hlz e (by simp) i hiz)).elim
        subst hl0;obtain ⟨z1,zs2,rfl⟩:=List.append_of_mem hiz;have hz1:z1= []:=by
          cases hl:z1 with
          | nil=>rfl
          | cons e es=>subst hl;exact (hun e (by simp) ((List.pairwise_append.1 hzs').2.2 e (by simp) i (by simp))).elim
        subst hz1;simp only [List.nil_append] at hndr hg hzs' hsub;have hni:=(List.nodup_cons.1 hndr).1;refine ⟨zs2,(List.nodup_cons.1 hndr).2,fun k=>?_,.inr ?_⟩;simp only [List.nil_append,List.mem_cons];by_cases e:k=i;subst e;simp [hni];simp [e];have hg':GWs all (OpW P) (Zh all (i::zs2)) ρ H K:=hg;rw [Zfm hio] at hg';refine GW.mono (Zbm P) (fun ρ' H' hk=> .inl ⟨[],zs2,rfl,fun k hk=>hsub k (by simp at hk ⊢;exact .inr hk),rfl,fun e he=>by simp at he,(List.pairwise_cons.1 hzs').2,.inl rfl,hk⟩) hg'
    . have hpl: ∀k∈p++q,k∈pre++post:=fun k hk=>by rcases List.mem_append.1 hk with h | h;exact List.mem_append_left _ (hpp k h);exact List.mem_append_right _ (hqq k h)
      have hnd1:=List.nodup_append.1 hndr;have hnd2:=List.nodup_cons.1 hnd1.1;have hnd3:=List.nodup_append.1 hnd2.2;have ltp: ∀k∈p++q,k<all.size:=fun k hk=>hlt k (by have:=hpl k hk;simp only [List.cons_append,List.mem_cons,List.mem_append] at this ⊢;rcases this with h | h;exact .inr (.inl (.inl h));exact .inr (.inl (.inr h)))
      have noY: ∀(l1:List Nat),(∀e∈l1,e∈p++q∧Zdr P C all (masks all.toList []) e i=true)->∀e∈l1,e<all.size∧e∉Y∧Zdr P C all (masks all.toList []) e i=true∧(Zy (masks all.toList []) e i=true->False):=fun l1 h e he=>by
        have hn:=hun e (by simp only [List.cons_append,List.mem_cons,List.mem_append];have:=(h e he).1;rcases List.mem_append.1 this with h | h;exact .inr (.inl (.inl h));exact .inr (.inl (.inr h)))
        refine ⟨ltp e (h e he).1,fun hy=>?_,(h e he).2,hn⟩;have he2:all[e]? =some (all[e]'(ltp e (h e he).1)):=Array.getElem?_eq_getElem _;exact hn (Zcve he2 (hstr e hy _ he2) (h e he).2)
      simp only [List.cons_append,List.mem_cons] at hir;rcases hir with rfl | hir
      . rw [hav] at hio;cases hio;refine ⟨(p++q)++zs,?_,fun k=>?_,.inl ⟨hIH,?_⟩⟩;exact (List.nodup_cons.1 (by simpa using hndr)).2
        . have:=(List.nodup_cons.1 (by simpa using hndr:(i::((p++q)++zs)).Nodup)).1
          simp only [List.cons_append,List.mem_cons];by_cases e:k=i;subst e;simp only [this,true_or,ne_eq,not_true_eq_false,and_false];simp [e]
        . have h1:=GTs.first hR hav p (fun h hh=>ltp h (List.mem_append_left _ hh)) (fun h hh=>by
            have:=List.all_eq_true.1 h6 h (hpp h hh);simp only [Bool.or_eq_true] at this;exact this.imp Zca.1 (fun h=>h)) (fun e he=>hun e (by simp [he])) ρ H hg
          rw [Zfm hav] at h1;refine GW.mono hR.toNice (fun ρ' H' hk hI'=> .inl ⟨p++q,zs,rfl,fun k hk=>?_,hpairs,fun e he z hz=>hrz e (by have:=hpl e he;simp only [List.mem_cons];exact .inr this) z hz,hzs,.inr hI',hk⟩) h1
          rcases List.mem_append.1 hk with h | h;have:=hpl k h;simp only [List.cons_append,List.mem_cons,List.mem_append] at this ⊢;rcases this with h | h;exact .inr (.inl (.inl h));exact .inr (.inl (.inr h));simp [h]
      . rcases List.mem_append.1 hir with hir | hiz
        . have hna:i≠av:=fun e=>by subst e;exact hnd2.1 hir
          have hniz:i∉zs:=fun hc=>hnd1.2.2 i (by simp only [List.mem_cons];exact .inr hir) i hc rfl
          rcases List.mem_append.1 hir with hip | hiq
          . obtain ⟨p1,p2,rfl⟩:=List.append_of_mem hip;have hpairs2:Zea P C all (masks all.toList []) (p1++i::(p2++q))=true:=by simpa using hpairs
            obtain ⟨hp1,hp2⟩:=Zko p1 i (p2++q) hpairs2;have hnp:=List.nodup_append.1 hnd3.1;have hni1:i∉p1:=fun hc=>hnp.2.2 i hc i (by simp) rfl
            have hni2:i∉p2:=(List.nodup_cons.1 hnp.2.1).1;have hniq:i∉q:=fun hc=>hnd3.2.2 i (by simp) i hc rfl
            refine ⟨av::((p1++p2)++q)++zs,?_,fun k=>?_,.inl ⟨hIH,?_⟩⟩
            . have hsubl:List.Sublist (av::((p1++p2)++q)++zs) (av::((p1++i::p2)++q)++zs):=by refine List.Sublist.append (List.Sublist.cons_cons _ (List.Sublist.append (List.Sublist.append (List.Sublist.refl _) (List.sublist_cons_self _ _)) (List.Sublist.refl _))) (List.Sublist.refl _)
              exact hndr.sublist hsubl
            simp only [List.cons_append,List.mem_cons,List.mem_append];by_cases e:k=i;subst e;simp [hni1,hni2,hniq,hniz,hna];simp [e]
            . have h1:=GTs.ahead hR hio p2 p1 (noY p1 fun e he=>⟨by simp [he],hp1 e he⟩) ρ H hg
              refine GW.mono hR.toNice (fun ρ' H' hk hI'=> .inr ⟨p1++p2,q,rfl,fun k hk=>hpp k (by simp only [List.mem_append,List.mem_cons] at hk ⊢;rcases hk with h | h;exact .inl h;exact .inr (.inr h)),hqq,by simpa using hp2,hI',hk⟩) h1
          . obtain ⟨q1,q2,rfl⟩:=List.append_of_mem hiq;have hpairs2:Zea P C all (masks all.toList []) ((p++q1)++i::q2)=true:=by simpa using hpairs
            obtain ⟨hp1,hp2⟩:=Zko (p++q1) i q2 hpairs2;have hnp:=List.nodup_append.1 hnd3.2.1;have hni1:i∉q1:=fun hc=>hnp.2.2 i hc i (by simp) rfl
            have hni2:i∉q2:=(List.nodup_cons.1 hnp.2.1).1;have hnip:i∉p:=fun hc=>hnd3.2.2 i hc i (by simp) rfl
            have hqi:Zdr P C all (masks all.toList []) av i=true:=List.all_eq_true.1 h7 i (hqq i (by simp))
            refine ⟨av::(p++(q1++q2))++zs,?_,fun k=>?_,.inl ⟨hIH,?_⟩⟩
            . have hsubl:List.Sublist (av::(p++(q1++q2))++zs) (av::(p++(q1++i::q2))++zs):=by refine List.Sublist.append (List.Sublist.cons_cons _ (List.Sublist.append (List.Sublist.refl _) (List.Sublist.append (List.Sublist.refl _) (List.sublist_cons_self _ _)))) (List.Sublist.refl _)
              exact hndr.sublist hsubl
            simp only [List.cons_append,List.mem_cons,List.mem_append];by_cases e:k=i;subst e;simp [hni1,hni2,hnip,hniz,hna];simp [e]
            . have hn:=noY (p++q1) fun e he=>⟨by rcases List.mem_append.1 he with h | h<;>simp [h],hp1 e he⟩
              have h1:=GTs.behind hR hio hav hqi (hun av (by simp)) (fun h hh=>by have:=hn h (by simp [hh]);exact ⟨this.1,this.2.2⟩) p (fun h hh=>hn h (by simp [hh])) ρ H hg
              refine GW.mono hR.toNice (fun ρ' H' hk hI'=> .inr ⟨p,q1++q2,rfl,hpp,fun k hk=>hqq k (by simp only [List.mem_append,List.mem_cons] at hk ⊢;rcases hk with h | h;exact .inl h;exact .inr (.inr h)),by simpa using hp2,hI',hk⟩) h1
        exact (hun av (by simp) (hrz av (by simp) i hiz)).elim
  have:=hall i hi;simp only [Array.getD_eq_getD_getElem?];simp [hi,this];simpa using this;simp [Array.getD_eq_getD_getElem?,hi] at hli
end Go.Sh
end
section
namespace Go.Sh
variable {D:List Deferred} {r:Option Nat}
def Zbdo:Tmp:=1000000
def isSt (o:Oper):Bool:=match o.op with
  | .store _ _ _=>true
  | _=>false
def Zbag (all:Array Oper) (C:List Tmp):Bool:=
  (List.range all.size).all fun i=>match all.toList[i]? with
    | some o=>!(isSt o)||(List.range all.size).all fun j=>match all.toList[j]? with
      | some p=>!(inC C p)||Zy (masks all.toList []) j i
      | none=>true
    | none=>true
theorem Zbzg {all:Array Oper} {C:List Tmp} (h:Zbag all C=true) {i:Nat} (hi:i<all.size) (hs:isSt all[i]=true) {j:Nat} {o:Oper} (hj:all[j]? =some o) (hc:inC C o=true):Zy (masks all.toList []) j i=true:=by
  have h1:=List.all_eq_true.1 h i (List.mem_range.2 hi);have e1:all.toList[i]? =some all[i]:=by simp [hi]
  rw [e1] at h1;simp only [hs,Bool.not_true,Bool.false_or] at h1;have hjl:j<all.size:=(Array.getElem?_eq_some_iff.1 hj).1;have h2:=List.all_eq_true.1 h1 j (List.mem_range.2 hjl);have e2:all.toList[j]? =some o:=by simpa using hj
  rw [e2] at h2;simp only [hc,Bool.not_true,Bool.false_or] at h2;exact h2
def needs (all:Array Oper) (C:List Tmp) (l:List Nat):Prop:=∃k o,k∈l∧all[k]? =some o∧inC C o=true
def isPl (C:List Tmp) (o:Oper):Bool:=isSt o&& !(inC C o)
def Zkk (P:Program) (C:List Tmp) (bs:List Nat) (H0:Heap) (o:Oper) (ρ:Env) (H:Heap) (K:Value->Heap->Prop):Prop:=
  match isPl C o with
  | true=>OpW P o ρ H K
  | false=>Zcq P C bs H0 o ρ H K
theorem Zbtf {P:Program} {o:Oper} (h:isSt o=true):rank P o=3:=by unfold isSt at h;unfold rank;cases ho:o.op<;>rw [ho] at h<;>simp only at h ⊢ <;>cases h
theorem Zyi {C:List Tmp} {P:Program} {o:Oper} (h:isPl C o=true):Zbq P C o=3:=by unfold isPl at h;simp only [Bool.and_eq_true,Bool.not_eq_true'] at h;unfold Zbq;rw [h.2];exact Zbtf h.1
theorem Zbaa {P:Program} {C:List Tmp} {bs:List Nat} {H0:Heap} {o:Oper} (h:isPl C o=true):Zkk P C bs H0 o=OpW P o:=by funext ρ H K;unfold Zkk;rw [h]
theorem Zic {P:Program} {C:List Tmp} {bs:List Nat} {H0:Heap} {o:Oper} (h:isPl C o=false):Zkk P C bs H0 o=Zcq P C bs H0 o:=by funext ρ H K;unfold Zkk;rw [h]
theorem Zbca (P:Program) (C:List Tmp) (bs:List Nat) (H0:Heap):Ranked (Zkk P C bs H0) (Zbq P C) where
  mono:=by
    intro o ρ H K K' hk h;cases hs:isPl C o with
    | true=>rw [Zbaa hs] at h ⊢;exact OpW.mono hk h
    | false=>rw [Zic hs] at h ⊢;exact (Zek P C bs H0).mono _ _ _ _ _ hk h
  congr:=by
    intro o ρ ρ' H K hc h;cases hs:isPl C o with
    | true=>rw [Zbaa hs] at h ⊢;exact OpW.congr hc h
    | false=>rw [Zic hs] at h ⊢;exact (Zek P C bs H0).congr _ _ _ _ _ hc h
  pure0:=by
    intro o ρ hr;cases hs:isPl C o with
    | true=>rw [Zyi hs] at hr;cases hr
    | false=>rw [Zic hs];exact (Zek P C bs H0).pure0 _ _ hr
  read1:=by
    intro o ρ hr;cases hs:isPl C o with
    | true=>rw [Zyi hs] at hr;cases hr
    | false=>rw [Zic hs];exact (Zek P C bs H0).read1 _ _ hr
  ro5:=by
    intro o ρ hr;cases hs:isPl C o with
    | true=>rw [Zyi hs] at hr;cases hr
    | false=>rw [Zic hs];exact (Zek P C bs H0).ro5 _ _ hr
  new2:=by
    intro o ρ hr;cases hs:isPl C o with
    | true=>rw [Zyi hs] at hr;cases hr
    | false=>rw [Zic hs];exact (Zek P C bs H0).new2 _ _ hr
  mem3:=by
    intro o ρ obj H K hr h;cases hs:isPl C o with
    | true=>
      rw [Zbaa hs] at h ⊢;unfold isPl at hs;simp only [Bool.and_eq_true] at hs;exact OpW.mem3 (Zbtf hs.1) ρ obj H K h
    | false=>rw [Zic hs] at h ⊢;exact (Zek P C bs H0).mem3 _ _ _ _ _ hr h
structure SoundL (P:Program) (S:Oper->Env->Heap->(Value->Heap->Prop)->Prop) (I:Heap->Prop) (C:List Tmp):Prop where
  keep: ∀o ρ H K,I H->isSt o=false->S o ρ H K->SemW P (execOp (ev ρ) o) H (Zbt P fun v H'=>I H'∧K v H')
  free: ∀o ρ H K,inC C o=false->S o ρ H K->SemW P (execOp (ev ρ) o) H (Zbt P K)
  load: ∀o ρ H K,inC C o=true->S o ρ H K->isSt o=false
theorem Zcac (P:Program) (C:List Tmp) (bs:List Nat) (H0:Heap):SoundL P (Zkk P C bs H0) (Zcl bs H0) C where
  keep:=fun o ρ H K hI hs h=>by
    rw [Zic (by unfold isPl;rw [hs];rfl)] at h
    exact Zbhb P C bs H0 o ρ H K hI h
  free:=fun o ρ H K hc h=>by
    refine OpW.sem ?_;cases hs:isPl C o with
    | true=>rw [Zbaa hs] at h;exact h
    | false=>
      rw [Zic hs] at h;unfold Zcq at h;rw [hc] at h;simp only at h;split at h;exact OpW.mono (fun _ _ h=>h.2) h;exact h
  load:=fun o ρ H K hc h=>by
    rw [Zic (by unfold isPl;rw [hc];simp)] at h
    unfold Zcq at h;rw [hc] at h;simp only at h;unfold isSt;cases ho:o.op<;>rw [ho] at h<;>simp only at h ⊢
theorem Zcbt {P:Program} {S:Oper->Env->Heap->(Value->Heap->Prop)->Prop} {I J:Heap->Prop} {o:Oper} (hS: ∀ρ H K,I H->S o ρ H K->SemW P (execOp (ev ρ) o) H (Zbt P fun v H'=>J H'∧K v H')) {n:Nat} {all:Array Oper} {ρ:Env} {a:Act} {w:World} {K:Value->Heap->Prop} {next:Act->World->Prop} {Q:Exit->Act->World->Prop}
    (hin:opIn n all o=true) (hf:Fits n D ρ a) (hI:I (hp w)) (h:S o ρ (hp w) K) (hn: ∀v w',J (hp w')->K v (hp w')->Rest w w'->next (a.put o.dst v) w'):o.wpIn (Fw r) 0 P a w next Q:=by
  simp only [opIn,Bool.and_eq_true] at hin;obtain ⟨⟨⟨h1,h2⟩,h3⟩,h4⟩:=hin;have hsem:=hS ρ (hp w) K hI h;have hx:execOp a.eval o=execOp (ev ρ) o:=by
    refine execOp_congr o (fun cs b e=>by rw [e] at h4;cases h4) fun x hx=>Zxh hf x fun t ht=>?_
    have:t∈Zhu o:=List.mem_filterMap.2 ⟨x,by simpa using hx,by rw [ht]⟩
    have:=(List.all_eq_true.1 h1) t (Zvc this);simpa using this
  unfold Oper.wpIn;refine ⟨fun f _=>Zvt r f,?_⟩;rw [Oper.semAt_eq _ _ _ (fun c e=>by rw [e] at h4;cases h4),hx]
  obtain ⟨nx,w',hr,hk,hrest⟩:=SemW.sound _ w _ hsem;rw [hr];cases nx<;>simp only [Zbt] at hk
  case value v=>exact hn v w' hk.1 hk.2 hrest
  case skip=>exact hn undef w' hk.1 hk.2 hrest
  case enter f args=>
    rw [Oper.uponIn_enter];refine ⟨(fun h=>by cases h),(Zbat r (hk.2 w' rfl)).mono ?_⟩
    rintro e w'' ⟨v,rfl,hv,hrest'⟩;exact hn v w'' hv.1 hv.2 (hrest.trans hrest')
  case round l fn tmps assign body=>
    rw [Oper.uponIn_round];have h1:RoundIn (Fw r) (0 - 1) P l fn tmps assign body w' _:=hk w' rfl;refine ⟨(fun h=>by cases h),h1.mono ?_⟩
    rintro e w'' ⟨v,rfl,hv,hrest'⟩;exact hn v w'' hv.1 hv.2 (hrest.trans hrest')
theorem Zchk {P:Program} {S:Oper->Env->Heap->(Value->Heap->Prop)->Prop} {I J:Heap->Prop} {o:Oper} (hS: ∀ρ H K,I H->S o ρ H K->SemW P (execOp (ev ρ) o) H (Zbt P fun v H'=>J H'∧K v H')) (hJ: ∀H,I H->J H) {n:Nat} {all:Array Oper} {i:Nat} (hi:all[i]? =some o) {ρ:Env} {a:Act} {w:World} {K:Env->Heap->Prop} {next:Act->World->Prop} {Q:Exit->Act->World->Prop}
    (hin:opIn n all o=true) (hf:Fits n D ρ a) (hI:I (hp w)) (h:GW all S o ρ (hp w) K)
    (hn: ∀ρ' a' w',Fits n D ρ' a'->J (hp w')->K ρ' (hp w')->Rest w w'->next a' w'):wpOpIn (Fw r) 0 P all Q i next a w:=by
  have hd:Zqa n o.dst=true:=by simp only [opIn,Bool.and_eq_true] at hin;exact hin.1.1.2
  unfold wpOpIn;rw [hi];simp only;rw [Zbna hin hf];unfold GW at h;cases hw:Zey all o ρ with
  | true=>
    rw [hw] at h;simp only [if_true];exact (Zcbt hS hin hf hI h fun v w' hI' hk hr=>hn _ _ _ (hf.put o.dst v hd) hI' hk hr)
  | false=>
    rw [hw] at h;simp only [Bool.false_eq_true,if_false];exact ⟨fun f _=>Zvt r f,hn _ _ _ (hf.put o.dst undef hd) (hJ _ hI) h (.refl w)⟩
theorem Zcdq {P:Program} {S} {I:Heap->Prop} {C:List Tmp} (hS:SoundL P S I C) (hR:Ranked S (Zbq P C)) {n:Nat} {all:Array Oper} {Q:Exit->Act->World->Prop} {K:Env->Heap->Prop} {w0:World}
    (hin:all.toList.all (opIn n all)=true) (hpred:Zhv 0 all.toList=true) (hlate:Zbag all C=true) (hQ: ∀ρ a w,Fits n D ρ a->K ρ (hp w)->Rest w0 w->Q .normal a w):
    ∀(fuel:Nat) (listed:Array Bool) (l:List Nat),listed.size=all.size->l.Nodup->(∀i∈l,i<all.size)->(∀i,i<all.size->(listed.getD i true=false↔i∈l))->
      (∀i,i<all.size->listed.getD i true=true->∀j,Zy (masks all.toList []) j i=true->listed.getD j true=true)->
      Zea P C all (masks all.toList []) l=true->l.length <= fuel->
      ∀(ρ:Env) (a:Act) (w:World),Fits n D ρ a->(needs all C l->I (hp w))->Rest w0 w->GWs all S (Zh all l) ρ (hp w) K->wpAnyIn (Fw r) 0 P .any all Q fuel listed a w:=by
  have preds_ok: ∀i o,all[i]? =some o->∀p∈Zcs o,p<i:=fun i o hi p hp'=>by
    have:=Zov all.toList 0 hpred i o (by simpa using hi) p hp'
    omega
  have mem_ready: ∀(listed:Array Bool) (i:Nat) (o:Oper),all[i]? =some o->(i∈Region.ready .any all listed↔(listed.getD i true=false∧∀p∈Zcs o,listed.getD p false=true)):=by
    intro listed i o hi;unfold Region.ready;have hlt:i<all.size:=(Array.getElem?_eq_some_iff.1 hi).1;rw [List.mem_filter];simp only [List.mem_range,hlt,true_and,hi,Option.map_some,Option.getD_some,Bool.and_eq_true,Bool.not_eq_true'];refine and_congr_right fun _=>?_;rw [← Array.all_toList,List.all_eq_true];constructor
    . intro h p hp';simp only [Zcs,List.mem_filterMap] at hp';obtain ⟨e,he,hb⟩:=hp';have:=h e he;cases hbb:Region.binds .any e with
      | false=>rw [hbb] at hb;cases hb
      | true=>
        rw [hbb] at hb this;cases hb;simpa using this
    . intro h e he;cases hbb:Region.binds .any e with
      | false=>rfl
      | true=>
        have:=h e.on (by simp only [Zcs,List.mem_filterMap];exact ⟨e,he,by rw [hbb]⟩)
        simp only [Bool.not_true,Bool.false_or];exact this
  intro fuel;induction fuel with
  | zero=>
    intro listed l hsz hnd hlt hmem hcl hpairs hlen ρ a w hf hI hr h;obtain rfl:l= []:=List.eq_nil_of_length_eq_zero (by omega)
    refine ⟨?_,hQ ρ a w hf h hr⟩;cases hrd:Region.ready .any all listed with
    | nil=>rfl
    | cons i rs=>
      have hi:i∈Region.ready .any all listed:=by rw [hrd];exact List.mem_cons_self
      have hi':i<all.size:=by unfold Region.ready at hi;simpa using (List.mem_filter.1 hi).1
      have:=((mem_ready listed i all[i] (Array.getElem?_eq_getElem hi')).1 hi).1;exact absurd ((hmem i hi').1 this) (by simp)
  | succ fuel ih=>
    intro listed l hsz hnd hlt hmem hcl hpairs hlen ρ a w hf hI hr h;refine ⟨fun hrd=>?_,fun i hi=>?_⟩
    ·
      have:l= []:=by
        cases hl:l with
        | nil=>rfl
        | cons x xs=>
          exfalso;have hne: ∃i,i∈l∧∀j∈l,i <= j:=by
            have: ∀l:List Nat,l≠[]->∃i,i∈l∧∀j∈l,i <= j:=by
              intro l;induction l with
              | nil=>intro h;exact absurd rfl h
              | cons x xs ih=>
                intro _;by_cases hx:xs= [];subst hx;exact ⟨x,by simp,by simp⟩
                . obtain ⟨i,hi,hm⟩:=ih hx;by_cases hle:x <= i;exact ⟨x,by simp,fun j hj=>by rcases List.mem_cons.1 hj with rfl | hj;omega;have:=hm j hj;omega⟩
                  exact ⟨i,by simp [hi],fun j hj=>by rcases List.mem_cons.1 hj with rfl | hj;omega;exact hm j hj⟩
            exact this l (by rw [hl];simp)
          obtain ⟨i,hi,hmin⟩:=hne;have hi':=hlt i hi;have hio:all[i]? =some all[i]:=Array.getElem?_eq_getElem hi';have:i∈Region.ready .any all listed:=(mem_ready listed i _ hio).2 ⟨(hmem i hi').2 hi,fun p hp'=>by
            have hpi:=preds_ok i _ hio p hp';have hpn:p∉l:=fun hp''=>by have:=hmin p hp'';omega
            have hps:p<all.size:=by omega
            cases hlp:listed.getD p true with
            | false=>exact absurd ((hmem p hps).1 hlp) hpn
            | true=>
              rw [Array.getD_eq_getD_getElem?,Array.getElem?_eq_getElem (by omega)] at hlp ⊢
              exact hlp⟩
          rw [hrd] at this;cases this
      subst this;exact hQ ρ a w hf h hr
    . have hi':i<all.size:=by unfold Region.ready at hi;simpa using (List.mem_filter.1 hi).1
      have hio:all[i]? =some all[i]:=Array.getElem?_eq_getElem hi';obtain ⟨hun,hprs⟩:=(mem_ready listed i _ hio).1 hi;have hil:i∈l:=(hmem i hi').1 hun;obtain ⟨l1,l2,rfl⟩:=List.append_of_mem hil;obtain ⟨hp1,hp2⟩:=Zko l1 i l2 hpairs;have listed_of: ∀p,p<all.size->listed.getD p false=true->listed.getD p true=true:=fun p hps h=>by
        rw [Array.getD_eq_getD_getElem?,Array.getElem?_eq_getElem (by omega)] at h ⊢
        exact h
      have reach_listed: ∀e,Zy (masks all.toList []) e i=true->listed.getD e true=true:=fun e he=>by
        have hb:=Zsl all.toList [] i all[i] (by simp [hi']) e (by simpa [Zy] using he)
        obtain ⟨p,hp',hj⟩:=hb;have hpi:=preds_ok i _ hio p hp';have hpl:=listed_of p (by omega) (hprs p hp')
        rcases hj with rfl | hj;exact hpl;exact hcl p (by omega) hpl e hj
      have hfront:GWs all S (all[i]::(Zh all l1++Zh all l2)) ρ (hp w) K:=by
        have hsplit:Zh all (l1++i::l2)=Zh all l1++all[i]::Zh all l2:=by simp [Zh,List.filterMap_append,hi']
        rw [hsplit] at h;refine GWs.front hR.toNice _ _ (fun x hx=>?_) _ _ h;simp only [Zh,List.mem_filterMap] at hx;obtain ⟨e,he,hxe⟩:=hx;have hpe:=hp1 e he;unfold Zdr at hpe;have hnr:Zy (masks all.toList []) e i=false:=by
          cases hre:Zy (masks all.toList []) e i with
          | false=>rfl
          | true=>
            have h1:=reach_listed e hre;have h2:=(hmem e (hlt e (by simp [he]))).2 (by simp [he])
            rw [h1] at h2;cases h2
        rw [hnr] at hpe;have hi2:all.toList[i]? =some all[i]:=by simp [hi']
        rw [hxe,hi2] at hpe;simp only [Bool.false_or,Bool.and_eq_true] at hpe;refine ⟨hpe.1,hR.swaps ?_⟩;have hs:=hpe.2;generalize Zbq P C x=r at hs;generalize Zbq P C all[i]=s at hs;unfold Zmk at hs;split at hs;exact .inl rfl
        . simp only [Bool.or_eq_true] at hs;rcases hs with hs | hs;exact .inr (.inl ⟨by omega,Nat.le_of_ble_eq_true hs⟩)
          exact .inr (.inr (.inr ⟨.inl rfl,.inr (Nat.eq_of_beq_eq_true hs)⟩))
        . have:=Nat.le_of_ble_eq_true hs;rcases Nat.lt_or_ge s 3 with h | h;exact .inr (.inl ⟨by omega,by omega⟩)
          exact .inr (.inr (.inl ⟨rfl,by omega⟩))
        simp only [Bool.or_eq_true] at hs;rcases hs with hs | hs;exact .inr (.inr (.inr ⟨.inr rfl,.inl (Nat.le_of_ble_eq_true hs)⟩));exact .inr (.inr (.inr ⟨.inr rfl,.inr (Nat.eq_of_beq_eq_true hs)⟩));cases hs
      have hin':opIn n all all[i]=true:=List.all_eq_true.1 hin _ (by simp)
      have hJ: ∀(ρ:Env) (H:Heap) (K:Value->Heap->Prop),(needs all C (l1++i::l2)->I H)->S all[i] ρ H K->SemW P (execOp (ev ρ) all[i]) H (Zbt P fun v H'=>(needs all C (l1++l2)->I H')∧K v H'):=by
        intro ρ H K hJ hs;by_cases hn:needs all C (l1++l2)
        . have hnl:isSt all[i]=false:=by
            cases hst:isSt all[i] with
            | false=>rfl
            | true=>
              exfalso;obtain ⟨k,o,hk1,hk2,hk3⟩:=hn;have hkm:k∈l1++i::l2:=by simp only [List.mem_append,List.mem_cons] at hk1 ⊢;rcases hk1 with h | h;exact .inl h;exact .inr (.inr h)
              have hr:=Zbzg hlate hi' hst hk2 hk3;have h1:=reach_listed k hr;have h2:=(hmem k (hlt k hkm)).2 hkm;rw [h1] at h2;cases h2
          have hn2:needs all C (l1++i::l2):=by obtain ⟨k,o,hk1,hk2,hk3⟩:=hn;refine ⟨k,o,?_,hk2,hk3⟩;simp only [List.mem_append,List.mem_cons] at hk1 ⊢;rcases hk1 with h | h;exact .inl h;exact .inr (.inr h)
          exact SemW.mono _ _ _ _ (fun n H h=>Zbt.mono (fun _ _ h=>⟨fun _=>h.1,h.2⟩) n H h) (hS.keep _ ρ H K (hJ hn2) hnl hs)
        . cases hc:inC C all[i] with
          | true=>
            have hn2:needs all C (l1++i::l2):=⟨i,all[i],by simp,hio,hc⟩
            have hnl:isSt all[i]=false:=hS.load _ ρ H K hc hs;exact SemW.mono _ _ _ _ (fun n H h=>Zbt.mono (fun _ _ h=>⟨fun _=>h.1,h.2⟩) n H h) (hS.keep _ ρ H K (hJ hn2) hnl hs)
          | false=>exact SemW.mono _ _ _ _ (fun n H h=>Zbt.mono (fun _ _ h=>⟨fun hx=>absurd hx hn,h⟩) n H h) (hS.free _ ρ H K hc hs)
      refine Zchk hJ (fun H hj hx=>hj (by
        obtain ⟨k,o,hk1,hk2,hk3⟩:=hx;refine ⟨k,o,?_,hk2,hk3⟩;simp only [List.mem_append,List.mem_cons] at hk1 ⊢;rcases hk1 with h | h;exact .inl h
        . exact .inr (.inr h))) hio hin' hf hI hfront fun ρ' a' w' hf' hI' hk hr'=>?_
      have hnd':=List.nodup_append.1 hnd;have hni1:i∉l1:=fun hc=>hnd'.2.2 i hc i (by simp) rfl
      have hni2:i∉l2:=(List.nodup_cons.1 hnd'.2.1).1;have hopsj:Zh all l1++Zh all l2=Zh all (l1++l2):=by simp [Zh]
      rw [hopsj] at hk;have getD_set: ∀k,k<all.size->(listed.setIfInBounds i true).getD k true=if k=i then true else listed.getD k true:=by intro k hks;simp only [Array.getD_eq_getD_getElem?,Array.getElem?_setIfInBounds];by_cases e:k=i;subst e;simp [hsz,hks];rw [if_neg (fun e'=>e e'.symm),if_neg e]
      refine ih _ (l1++l2) (by simp [hsz]) ?_ (fun k hk'=>hlt k (by simp at hk' ⊢;rcases hk' with h | h;exact .inl h;exact .inr (.inr h))) (fun k hks=>?_) (fun k hks hlk j hj=>?_) hp2 (by simp at hlen ⊢;omega) ρ' a' w' hf' hI' (hr.trans hr') hk
      refine List.nodup_append.2 ⟨hnd'.1,(List.nodup_cons.1 hnd'.2.1).2,fun x hx y hy=>hnd'.2.2 x hx y (by simp [hy])⟩
      rw [getD_set k hks];by_cases e:k=i;subst e;simp [hni1,hni2];rw [if_neg e,hmem k hks];simp [e]
      . rw [getD_set k hks] at hlk;have hold:listed.getD j true=true->(listed.setIfInBounds i true).getD j true=true:=by intro h;simp only [Array.getD_eq_getD_getElem?,Array.getElem?_setIfInBounds] at h ⊢;by_cases e:i=j;subst e;simp [hsz,hi'];rw [if_neg e];exact h
        by_cases e:k=i;subst e;exact hold (reach_listed j hj);rw [if_neg e] at hlk;exact hold (hcl k hks hlk j hj)
theorem Zcno {P:Program} {S} {I:Heap->Prop} {all:Array Oper} {C:List Tmp} (hS:SoundL P S I C) (hR:Ranked S (Zbq P C)) (hlate:Zbag all C=true) (hm:P.follows .mixedOrders=true) {n id:Nat} {l:List Nat} {Q:Exit->Act->World->Prop} {K:Env->Heap->Prop}
    (hin:all.toList.all (opIn n all)=true) (hd:Zht P C all l=true) {ρ:Env} {a:Act} {w:World} (hf:Fits n D ρ a) (hI:I (hp w)) (h:GWs all S (Zh all l) ρ (hp w) K)
    (hQ: ∀ρ a w',Fits n D ρ a->K ρ (hp w')->Rest w w'->Q .normal a w'):(Code.region id all true).wpIn (Fw r) 0 P Q a w:=by
  simp only [Zht,Bool.and_eq_true] at hd;obtain ⟨⟨⟨⟨⟨h1,h2⟩,h0⟩,h3⟩,h4⟩,h5⟩:=hd;have h2':=Nat.eq_of_beq_eq_true h2;have hlt: ∀i∈l,i<all.size:=fun i hi=>by simpa using List.all_eq_true.1 h3 i hi
  have hnd:l.Nodup:=by
    clear h h0 h2 h2' h3 h4 h5 hlt;induction l with
    | nil=>simp
    | cons x xs ih=>
      simp only [Zdb,Bool.and_eq_true,Bool.not_eq_true'] at h1;refine List.nodup_cons.2 ⟨fun hc=>?_,ih h1.2⟩;rw [Zca.2 hc] at h1;cases h1.1
  have hall: ∀i,i<all.size->i∈l:=fun i hi=>Zca.1 (List.all_eq_true.1 h0 i (List.mem_range.2 hi));refine wpIn_region_any hm ?_;refine Zcdq hS hR (w0:=w) hin h4 hlate hQ all.size _ l (by simp) hnd hlt (fun i hi=>?_) (fun i hi hli=>?_) h5 (by omega) ρ a _ hf (fun _=>hI) ⟨rfl,rfl,rfl,fun _ _ h=>h,Nat.le_refl _⟩ h
  have:=hall i hi;simp [Array.getD_eq_getD_getElem?,hi,this];simp [Array.getD_eq_getD_getElem?,hi] at hli
end Go.Sh
end
section
namespace Go.Sh
inductive Kind where
  | int (k:IntKind) | bool | str | ptr | slice | any
def Tup:List Kind->Type
  | []=>Unit
  | .int _::ks=>Int×Tup ks
  | .bool::ks=>Bool×Tup ks
  | .str::ks=>ByteArray×Tup ks
  | .ptr::ks=>Option Addr×Tup ks
  | .slice::ks=>(Option Addr×Nat×Nat)×Tup ks
  | .any::ks=>Value×Tup ks
def enc:(ks:List Kind)->Tup ks->List Value
  | [],_=>[]
  | .int k::ks,x=> .int k x.1::enc ks x.2
  | .bool::ks,x=> .bool x.1::enc ks x.2
  | .str::ks,x=> .string x.1::enc ks x.2
  | .ptr::ks,x=> .pointer x.1::enc ks x.2
  | .slice::ks,x=> .slice x.1.1 x.1.2.1 x.1.2.2::enc ks x.2
  | .any::ks,x=>x.1::enc ks x.2
def dec:(ks:List Kind)->List Value->Option (Tup ks)
  | [],[]=>some ()
  | .int k::ks,.int k' n::vs=>match decide (k=k') with
    | true=>match dec ks vs with | some x=>some (n,x) | none=>none
    | false=>none
  | .bool::ks,.bool b::vs=>match dec ks vs with | some x=>some (b,x) | none=>none
  | .str::ks,.string b::vs=>match dec ks vs with | some x=>some (b,x) | none=>none
  | .ptr::ks,.pointer b::vs=>match dec ks vs with | some x=>some (b,x) | none=>none
  | .slice::ks,.slice a n c::vs=>match dec ks vs with | some x=>some ((a,n,c),x) | none=>none
  | .any::ks,v::vs=>match dec ks vs with | some x=>some (v,x) | none=>none
  | _,_=>none
theorem Zji: ∀(ks:List Kind) (vs:List Value) (x:Tup ks),dec ks vs=some x->enc ks x=vs
  | [],vs,x,h=>by
    cases vs with
    | nil=>rfl
    | cons v vs=>simp [dec] at h
  | k::ks,[],x,h=>by cases k<;>simp [dec] at h
  | .int k::ks,v::vs,x,h=>by
    cases v<;>simp only [dec] at h<;>first | (cases h;done) | skip
    split at h;rename_i hk;split at h;rename_i y hy;cases h;have:=Zji ks vs y hy;simp only [enc,this,of_decide_eq_true hk];cases h
    . cases h
  | .bool::ks,v::vs,x,h=>by
    cases v<;>simp only [dec] at h<;>first | (cases h;done) | skip
    split at h;rename_i y hy;cases h;simp only [enc,Zji ks vs y hy]
    . cases h
  | .str::ks,v::vs,x,h=>by
    cases v<;>simp only [dec] at h<;>first | (cases h;done) | skip
    split at h;rename_i y hy;cases h;simp only [enc,Zji ks vs y hy]
    . cases h
  | .ptr::ks,v::vs,x,h=>by
    cases v<;>simp only [dec] at h<;>first | (cases h;done) | skip
    split at h;rename_i y hy;cases h;simp only [enc,Zji ks vs y hy]
    . cases h
  | .slice::ks,v::vs,x,h=>by
    cases v<;>simp only [dec] at h<;>first | (cases h;done) | skip
    split at h;rename_i y hy;cases h;simp only [enc,Zji ks vs y hy]
    . cases h
  | .any::ks,v::vs,x,h=>by simp only [dec] at h;split at h;rename_i y hy;cases h;simp only [enc,Zji ks vs y hy];cases h
def Zgz:List Tmp->List Value->Env->Env
  | t::ts,v::vs,g=>put (Zgz ts vs g) (some t) v
  | _,_,g=>g
def Zin:List Tmp->Env->Env->Env
  | [],_,g=>g
  | t::ts,ρ,g=>put (Zin ts ρ g) (some t) (ρ t)
theorem Zbiq: ∀(ts:List Tmp) (vs:List Value) (ρ:Env),ts.map ρ=vs->Zgz ts vs ρ=ρ
  | [],_,ρ,_=>rfl
  | t::ts,[],ρ,h=>by simp at h
  | t::ts,v::vs,ρ,h=>by simp only [List.map_cons,List.cons.injEq] at h;rw [Zgz,Zbiq ts vs ρ h.2];exact Ziw h.1
theorem Zbpf: ∀(ts:List Tmp) (ρ0 ρ:Env),(∀f∈ts,ρ f=ρ0 f)->Zin ts ρ0 ρ=ρ
  | [],_,_,_=>rfl
  | t::ts,ρ0,ρ,h=>by rw [Zin,Zbpf ts ρ0 ρ (fun f hf=>h f (List.mem_cons_of_mem _ hf))];exact Ziw (h t List.mem_cons_self)
structure Tree where
  a:Nat
  pre0:List Nat
  pre1:List Nat
  post:List Nat
  zs:List Nat
  Y:List Nat
def Zys (id:Nat):List (Nat×Tree)->Option Tree
  | []=>none
  | (k,r)::l=>match Nat.beq id k with | true=>some r | false=>Zys id l
structure Plan where
  regs:List (Nat×List Nat×List Tmp)
  loops:List (Nat×List Tmp×List Kind×List Tmp)
  unr:List (Nat×Nat)
  trees:List (Nat×Tree)
def Zpv (id:Nat):List (Nat×List Nat×List Tmp)->Option (List Nat×List Tmp)
  | []=>none
  | (k,r)::l=>match Nat.beq id k with | true=>some r | false=>Zpv id l
def Zgd (id:Nat):List (Nat×List Tmp×List Kind×List Tmp)->Option (List Tmp×List Kind×List Tmp)
  | []=>none
  | (k,r)::l=>match Nat.beq id k with | true=>some r | false=>Zgd id l
def Zef:Code->Nat
  | .region id _ _=>id
  | .seq a _=>Zef a
  | .block _ c=>Zef c
  | .loop c=>Zef c
  | _=>1000000
def OpsT (all:Array Oper) (S:Oper->Env->Heap->(Value->Heap->Prop)->Prop) (a:Nat) (post Y:List Nat) (K:Env->Heap->Prop):List Nat->Env->Heap->Prop
  | [],ρ,H=>OpsL all S (Zh all (a::post)) ρ H K
  | h::t,ρ,H=>match memB h Y with
    | true=>OpsL all S (Zh all (a::h::(t++post))) ρ H K∧OpsL all S (Zh all [h]) ρ H fun ρ' H'=>OpsT all S a post Y K t ρ' H'
    | false=>OpsL all S (Zh all [h]) ρ H fun ρ' H'=>OpsT all S a post Y K t ρ' H'
def Zbaq (id:Nat) (regs:List (Nat×List Nat×List Tmp)):List Tmp:=match Zpv id regs with
  | some (_,C)=>C
  | none=>[]
def Zqt (P:Program) (plan:Plan) (id:Nat) (ops:Array Oper) (ρ:Env) (H:Heap) (K:Env->Heap->Prop):Prop:=
  match Zys id plan.trees with
  | some t=>(match Zbaq id plan.regs with
    | []=>OpsT ops (OpW P) t.a t.post t.Y (fun ρ' H'=>OpsL ops (OpW P) (Zh ops t.zs) ρ' H' K) (t.pre0++t.pre1) ρ H
    | c::C=>∃bs:List Nat,(∀b∈bs,∃o,H b=some o)∧OpsT ops (Zcq P (c::C) bs H) t.a t.post t.Y (fun ρ' H'=>OpsL ops (OpW P) (Zh ops t.zs) ρ' H' K) (t.pre0++t.pre1) ρ H)
  | none=>
  match Zpv id plan.regs with
  | none=>OpsL ops (OpW P) ops.toList ρ H K
  | some (l,[])=>OpsL ops (OpW P) (Zh ops l) ρ H K
  | some (l,c::C)=>match Nat.beq c Zbdo with
    | true=>∃bs:List Nat,(∀b∈bs,∃o,H b=some o)∧OpsL ops (Zkk P C bs H) (Zh ops l) ρ H K
    | false=>∃bs:List Nat,(∀b∈bs,∃o,H b=some o)∧OpsL ops (Zcq P (c::C) bs H) (Zh ops (l.take (Zdt ops l))) ρ H fun ρ' H'=>OpsL ops (OpW P) (Zh ops (l.drop (Zdt ops l))) ρ' H' K
abbrev Post:=Exit->Env->Heap->Prop
def Zbee (K:Env->Heap->Prop) (Q:Post):Post:=fun e ρ H=>match e with
  | .normal=>K ρ H
  | e=>Q e ρ H
def Zlj (id:Nat) (Q:Post):Post:=fun e ρ H=>match e with
  | .exit i=>match Nat.beq i id with | true=>Q .normal ρ H | false=>Q (.exit i) ρ H
  | e=>Q e ρ H
def Zgk (T:Type) (x0:T) (H:Heap) (body:T->Heap->(T->Heap->Prop)->Prop):Prop:=
  ∃(I:Nat->T->Heap->Prop) (k:Nat),I k x0 H∧∀k x H,I k x H->body x H fun x' H'=>∃k',k'<k∧I k' x' H'
def Zdu:Code->Nat->Bool
  | .seq a b,l=>Zdu a l||Zdu b l
  | .label l',l=>Nat.beq l' l
  | _,_=>false
def nLbl:Code->Nat
  | .seq a b=>nLbl a+nLbl b
  | .label _=>1
  | _=>0
def Zej (l:Nat):Nat:=2000000+l
def Zbcp:Code->Option Nat
  | .seq a b=>match Zbcp a with
    | some l=>some l
    | none=>Zbcp b
  | .label l=>some l
  | _=>none
def Zgj (id:Nat):List (Nat×Nat)->Option Nat
  | []=>none
  | (k,r)::l=>match Nat.beq id k with | true=>some r | false=>Zgj id l
def Zbkz (plan:Plan) (c:Code):Nat:=match Zbcp c with
  | some l=>(match Zgj (Zej l) plan.unr with
    | some n=>n
    | none=>nLbl c)
  | none=>nLbl c
def Zka (plan:Plan):Code->Option Nat
  | .seq a b=>match Zka plan a with
    | some l=>some l
    | none=>Zka plan b
  | .label l=>match Zgd (Zej l) plan.loops with
    | some _=>some l
    | none=>none
  | _=>none
def Zgu:Exit->Bool
  | .normal=>true
  | _=>false
def Zed (l:Nat):Exit->Bool
  | .goto l'=>Nat.beq l' l
  | _=>false
def Zcj (n:Exit->Bool) (K:Env->Heap->Prop) (Q:Post):Post:=fun e ρ H=>match n e with
  | true=>K ρ H
  | false=>Q e ρ H
def Zbe (F:Nat->Env->Heap->Post->Prop) (L:Nat->Bool):Nat->Post->Post
  | 0,Q=>fun e ρ H=>match e with
    | .goto l=>(match L l with
      | true=>False
      | false=>Q (.goto l) ρ H)
    | e=>Q e ρ H
  | n+1,Q=>fun e ρ H=>match e with
    | .goto l=>(match L l with
      | true=>F l ρ H (Zbe F L n Q)
      | false=>Q (.goto l) ρ H)
    | e=>Q e ρ H
def others (c:Code) (l:Nat):Nat->Bool:=fun l'=>Zdu c l'&& !(Nat.beq l' l)
def Zcm (plan:Plan) (key:Nat) (B:Env->Heap->Post->Prop) (nx:Exit->Bool) (ρ:Env) (H:Heap) (Q:Post):Prop:=
  match Zgd key plan.loops with
  | some (slots,ks,fixed)=>match dec ks (slots.map ρ) with
    | some x0=>Zgk (Tup ks) x0 H fun x H next=>∀g:Env,B (Zgz slots (enc ks x) (Zin fixed ρ g)) H
        (Zcj nx (fun ρ' H'=>match dec ks (slots.map ρ') with | some x'=>next x' H' | none=>False) Q)
    | none=>False
  | none=>False
def Zfw (B:Env->Heap->Post->Prop):Nat->Env->Heap->Post->Prop
  | 0,_,_,_=>False
  | n+1,ρ,H,Q=>B ρ H (Zcj Zgu (fun ρ' H'=>Zfw B n ρ' H' Q) Q)
structure TmpsOf (n:Nat) (ρ:Env) (a:Array Value):Prop where
  size:a.size=n
  tmp: ∀t,t<n->a.getD t undef=ρ t
def Zgo:List Tmp->List Value->Env->Env
  | t::ts,v::vs,ρ=>Zgo ts vs (put ρ (some t) v)
  | _,_,ρ=>ρ
def Zfr:Exit->Option (Option Code)
  | .normal=>some none
  | .ret=>some (some .ret)
  | .exit i=>some (some (.exit i))
  | .goto t=>some (some (.goto t))
  | _=>none
def Zbhx (l:Nat) (K:Value->Heap->Prop):Post:=fun e _ H=>∃r,H l=some (.loop r)∧(match Zfr e with
  | some j=>K (.bool j.isNone) (H.upd l (.loop { r with state:=if j.isNone then .ready else .done,pending:=j }))
  | none=>False)
def Zot (l:Nat) (A B:Env->Heap->Post->Prop) (ρ:Env) (H:Heap) (K:Value->Heap->Prop):Prop:=
  A ρ H fun e ρ1 H1=>match e with
    | .normal=>∃r,H1 l=some (.loop r)∧r.state= .ready∧B ρ1 (H1.upd l (.loop { r with state:= .busy })) (Zbhx l K)
    | _=>False
def EndC (l:Nat) (ρ:Env) (H:Heap) (Q:Post):Prop:=∃r,H l=some (.loop r)∧r.state≠ .busy∧(match r.pending with
  | none=>Q .normal ρ (H.upd l (.loop { r with state:= .exhausted }))
  | some .ret=>Q .ret ρ (H.upd l (.loop { r with state:= .exhausted }))
  | some (.exit i)=>Q (.exit i) ρ (H.upd l (.loop { r with state:= .exhausted }))
  | some (.goto t)=>Q (.goto t) ρ (H.upd l (.loop { r with state:= .exhausted }))
  | _=>False)
theorem EndC.mono {l:Nat} {ρ:Env} {H:Heap} {Q Q':Post} (hq: ∀e ρ H,Q e ρ H->Q' e ρ H) (h:EndC l ρ H Q):EndC l ρ H Q':=by
  obtain ⟨r,h1,h2,h3⟩:=h;refine ⟨r,h1,h2,?_⟩;split at h3<;>first | exact h3.elim | exact hq _ _ _ h3
mutual
def Zc (P:Program) (plan:Plan):Code->Env->Heap->Post->Prop
  | .skip,ρ,H,Q=>Q .normal ρ H
  | .label _,ρ,H,Q=>Q .normal ρ H
  | .region id ops draw,ρ,H,Q=>match draw with
    | true=>Zqt P plan id ops ρ H fun ρ' H'=>Q .normal ρ' H'
    | false=>OpsL ops (OpW P) ops.toList ρ H fun ρ' H'=>Q .normal ρ' H'
  | .seq a b,ρ,H,Q=>Zc P plan a ρ H (Zbee (fun ρ' H'=>Zc P plan b ρ' H' Q) Q)
  | .cond c x y,ρ,H,Q=>match ev ρ c with
    | .bool t=>IfB t (Zc P plan x ρ H Q) (Zc P plan y ρ H Q)
    | _=>False
  | .block id c,ρ,H,Q=>Zc P plan c ρ H (Zlj id Q)
  | .loop c,ρ,H,Q=>match Zgj (Zef c) plan.unr with
    | some n=>Zfw (fun ρ H Q=>Zc P plan c ρ H Q) n ρ H Q
    | none=>Zcm plan (Zef c) (fun ρ H Q=>Zc P plan c ρ H Q) Zgu ρ H Q
  | .scope c,ρ,H,Q=>match Zka plan c with
    | none=>Zc P plan c ρ H (Zbe (fun l ρ H Q=>Zi P plan c l ρ H Q) (Zdu c) (Zbkz plan c) Q)
    | some l=>Zl P plan c l ρ H (Zcj Zgu (Zcm plan (Zej l) (fun ρ H Q=>Zi P plan c l ρ H (Zbe (fun l ρ H Q=>Zi P plan c l ρ H Q) (others c l) (nLbl c) Q)) (Zed l) · · Q)
        (Zbe (fun l ρ H Q=>Zi P plan c l ρ H Q) (others c l) (nLbl c) (Zcj (Zed l) (Zcm plan (Zej l) (fun ρ H Q=>Zi P plan c l ρ H (Zbe (fun l ρ H Q=>Zi P plan c l ρ H Q) (others c l) (nLbl c) Q)) (Zed l) · · Q) Q)))
  | .exit id,ρ,H,Q=>Q (.exit id) ρ H
  | .goto l,ρ,H,Q=>Q (.goto l) ρ H
  | .ret,ρ,H,Q=>Q .ret ρ H
  | .rangeFunc g ps assign body,ρ,H,Q=>match ev ρ g with
    | .func (.func f) first caps=>first= #[]∧∀(nt d l:Nat) (rec:Loop),H d=none->H l=none->l≠d->rec.state= .ready->rec.pending=none->rec.params=ps->rec.assign=assign->rec.body=body->TmpsOf nt ρ rec.tmps->
        (∀(vs:List Value) (H1:Heap) (K:Value->Heap->Prop),vs.length=ps.size->Zot l (fun ρ H Q=>Zc P plan assign ρ H Q) (fun ρ H Q=>Zc P plan body ρ H Q) (Zgo ps.toList vs ρ) H1 K->RndW P l rec.fn (Zip ps.toList vs rec.tmps) assign body H1 K)->
        FnW P f (#[.func (.yield l) #[] #[]]++caps) ((H.upd d (.deferred (some []))).upd l (.loop rec)) fun _ H'=>EndC l ρ H' Q
    | _=>False
  | _,_,_,_=>False
def Zi (P:Program) (plan:Plan):Code->Nat->Env->Heap->Post->Prop
  | .seq a b,l,ρ,H,Q=>match Zdu a l with
    | true=>Zi P plan a l ρ H (Zbee (fun ρ' H'=>Zc P plan b ρ' H' Q) Q)
    | false=>Zi P plan b l ρ H Q
  | .label l',l,ρ,H,Q=>match Nat.beq l' l with
    | true=>Q .normal ρ H
    | false=>False
  | _,_,_,_,_=>False
def Zl (P:Program) (plan:Plan):Code->Nat->Env->Heap->Post->Prop
  | .seq a b,l,ρ,H,Q=>match Zdu a l with
    | true=>Zl P plan a l ρ H Q
    | false=>Zc P plan a ρ H (Zbee (fun ρ' H'=>Zl P plan b l ρ' H' Q) Q)
  | .label l',l,ρ,H,Q=>match Nat.beq l' l with
    | true=>Q .normal ρ H
    | false=>False
  | _,_,_,_,_=>False
end
def Zww (n:Nat):Operand->Bool
  | .tmp t=>Nat.blt t n
  | _=>true
def Zdw (plan:Plan) (f:Tmp):Code->Bool
  | .region _ ops _=>ops.toList.all fun o=>match o.dst with | some d=>!(Nat.beq d f) | none=>true
  | .seq a b=>Zdw plan f a&&Zdw plan f b
  | .cond _ a b=>Zdw plan f a&&Zdw plan f b
  | .block _ c=>Zdw plan f c
  | .loop c=>Zdw plan f c&&(match Zgj (Zef c) plan.unr with
    | some _=>true
    | none=>(match Zgd (Zef c) plan.loops with
      | some (slots,_,fixed)=>memB f fixed&& !(memB f slots)
      | none=>false))
  | .scope c=>Zdw plan f c&&(match Zka plan c with
    | some l=>(match Zgd (Zej l) plan.loops with
      | some (slots,_,fixed)=>memB f fixed&& !(memB f slots)
      | none=>false)
    | none=>true)
  | _=>true
def Zil (plan:Plan) (f:Tmp):Code->Bool
  | .seq a b=>match Nat.blt 0 (nLbl a) with
    | true=>Zil plan f a&&Zdw plan f b
    | false=>Zil plan f b
  | _=>true
theorem Zou {plan:Plan} {f:Tmp}: ∀(c:Code),Zdw plan f c=true->Zil plan f c=true
  | .seq a b,h=>by
    simp only [Zdw,Bool.and_eq_true] at h;simp only [Zil];split;rw [Zou a h.1,h.2];rfl
    . exact Zou b h.2
  | .skip,_ | .region ..,_ | .cond ..,_ | .block ..,_ | .loop ..,_ | .rangeFunc ..,_ | .exit ..,_ | .scope ..,_ | .goto ..,_ | .ret,_ | .refuse ..,_ | .label ..,_=>rfl
theorem Zbey: ∀{c:Code} {l:Nat},Zdu c l=true->0<nLbl c
  | .seq a b,l,h=>by
    simp only [Zdu,Bool.or_eq_true] at h;simp only [nLbl];rcases h with h | h;have:=Zbey h;omega
    . have:=Zbey h;omega
  | .label _,_,_=>by simp only [nLbl];omega
  | .skip,_,h | .region ..,_,h | .cond ..,_,h | .block ..,_,h | .loop ..,_,h | .rangeFunc ..,_,h | .exit ..,_,h | .scope ..,_,h | .goto ..,_,h | .ret,_,h | .refuse ..,_,h=>by simp only [Zdu] at h;cases h
theorem Zcsh {d f:Nat} (h:(!(Nat.beq d f))=true):d≠f:=fun e=>by subst e;rw [Nat.beq_refl] at h;cases h
theorem OpG.keeps {all:Array Oper} {S} (N:Nice S) {o:Oper} {f:Tmp} (hd: ∀d,o.dst=some d->d≠f) {ρ:Env} {H:Heap} {K:Env->Heap->Prop} (h:OpG all S o ρ H K):
    OpG all S o ρ H fun ρ' H'=>ρ' f=ρ f∧K ρ' H':=by
  have pf: ∀(ρ':Env) v,put ρ' o.dst v f=ρ' f:=fun ρ' v=>Zlc hd;unfold OpG at*;split at h;exact N.mono _ _ _ _ _ (fun v H' h=>⟨pf _ _,h⟩) h
  . split at h
    . split at h
      . rename_i want _ _ d _ _ b hr;cases b with
        | true=>
          simp only [IfB] at h ⊢;rw [Ziw hr] at h ⊢;cases want with
          | true=>exact N.mono _ _ _ _ _ (fun v H' h=>⟨pf _ _,h⟩) h
          | false=>exact ⟨pf _ _,h⟩
        | false=>
          simp only [IfB] at h ⊢;rw [Ziw hr] at h ⊢;cases want with
          | false=>exact N.mono _ _ _ _ _ (fun v H' h=>⟨pf _ _,h⟩) h
          | true=>exact ⟨pf _ _,h⟩
      exact ⟨pf _ _,h⟩
    exact ⟨pf _ _,h⟩
theorem OpG.mono {all:Array Oper} {S} (N:Nice S) {o:Oper} {ρ:Env} {H:Heap} {K K':Env->Heap->Prop} (hk: ∀ρ H,K ρ H->K' ρ H) (h:OpG all S o ρ H K):OpG all S o ρ H K':=by unfold OpG at*;split at h;exact N.mono _ _ _ _ _ (fun v H' h=>hk _ _ h) h;split at h;split at h;refine IfB.mono h (fun h=>?_) (fun h=>?_);split at h;exact N.mono _ _ _ _ _ (fun v H' h=>hk _ _ h) h;exact hk _ _ h;split at h;exact N.mono _ _ _ _ _ (fun v H' h=>hk _ _ h) h;exact hk _ _ h;exact hk _ _ h;exact hk _ _ h
theorem OpsL.mono {all:Array Oper} {S} (N:Nice S) {K K':Env->Heap->Prop} (hk: ∀ρ H,K ρ H->K' ρ H): ∀(l:List Oper) (ρ:Env) (H:Heap),OpsL all S l ρ H K->OpsL all S l ρ H K':=by
  intro l;induction l with
  | nil=>exact fun ρ H h=>hk _ _ h
  | cons o os ih=>exact fun ρ H h=>OpG.mono N (fun ρ H h=>ih ρ H h) h
theorem OpsL.keeps {all:Array Oper} {S} (N:Nice S) {f:Tmp} {K:Env->Heap->Prop}: ∀(l:List Oper),(∀o∈l,∀d,o.dst=some d->d≠f)->∀(ρ:Env) (H:Heap),OpsL all S l ρ H K->OpsL all S l ρ H fun ρ' H'=>ρ' f=ρ f∧K ρ' H':=by
  intro l;induction l with
  | nil=>exact fun _ ρ H h=>⟨rfl,h⟩
  | cons o os ih=>
    intro hd ρ H h;refine OpG.mono N (fun ρ1 H1 ⟨h1,h2⟩=>?_) (OpG.keeps N (hd o List.mem_cons_self) h);refine OpsL.mono N (fun ρ2 H2 ⟨h3,h4⟩=>⟨h3.trans h1,h4⟩) _ _ _ (ih (fun o ho=>hd o (List.mem_cons_of_mem _ ho)) ρ1 H1 h2)
theorem OpsT.mono {all:Array Oper} {S} (N:Nice S) {a:Nat} {post Y:List Nat} {K K':Env->Heap->Prop} (hk: ∀ρ H,K ρ H->K' ρ H): ∀(pre:List Nat) (ρ:Env) (H:Heap),OpsT all S a post Y K pre ρ H->OpsT all S a post Y K' pre ρ H
  | [],ρ,H,h=>OpsL.mono N hk _ _ _ h
  | x::t,ρ,H,h=>by unfold OpsT at h ⊢;split at h;exact ⟨OpsL.mono N hk _ _ _ h.1,OpsL.mono N (fun ρ H h=>OpsT.mono N hk t ρ H h) _ _ _ h.2⟩;exact OpsL.mono N (fun ρ H h=>OpsT.mono N hk t ρ H h) _ _ _ h
theorem OpsT.plain {all:Array Oper} {S} (N:Nice S) {a:Nat} {post Y:List Nat} {K K':Env->Heap->Prop} (hk: ∀ρ H,K ρ H->K' ρ H): ∀(pre:List Nat) (ρ:Env) (H:Heap),OpsT all S a post Y K pre ρ H->GTs all S a post Y K' pre ρ H
  | [],ρ,H,h=>OpsL.plain N _ _ _ (OpsL.mono N hk _ _ _ h)
  | x::t,ρ,H,h=>by unfold OpsT at h;unfold GTs;split at h;rename_i hm;(try rw [hm]);exact ⟨OpsL.plain N _ _ _ (OpsL.mono N hk _ _ _ h.1),OpsL.plain N _ _ _ (OpsL.mono N (fun ρ H h=>OpsT.plain N hk t ρ H h) _ _ _ h.2)⟩;rename_i hm;(try rw [hm]);exact OpsL.plain N _ _ _ (OpsL.mono N (fun ρ H h=>OpsT.plain N hk t ρ H h) _ _ _ h)
theorem atd {all:Array Oper} {f:Tmp} (hd: ∀o∈all.toList,∀d,o.dst=some d->d≠f) (l:List Nat): ∀o∈Zh all l,∀d,o.dst=some d->d≠f:=by intro o ho;simp only [Zh,List.mem_filterMap] at ho;obtain ⟨i,_,hi⟩:=ho;exact hd o (List.mem_of_getElem? hi)
theorem OpsT.keeps {all:Array Oper} {S} (N:Nice S) {f:Tmp} {a:Nat} {post Y:List Nat} {K:Env->Heap->Prop} (hd: ∀o∈all.toList,∀d,o.dst=some d->d≠f): ∀(pre:List Nat) (ρ:Env) (H:Heap),OpsT all S a post Y K pre ρ H->OpsT all S a post Y (fun ρ' H'=>ρ' f=ρ f∧K ρ' H') pre ρ H
  | [],ρ,H,h=>OpsL.keeps N _ (atd hd _) _ _ h
  | x::t,ρ,H,h=>by unfold OpsT at h ⊢;split at h;exact ⟨OpsL.keeps N _ (atd hd _) _ _ h.1,OpsL.mono N (fun ρ' H' h=>OpsT.mono N (fun ρ'' H'' h'=>⟨h'.1.trans h.1,h'.2⟩) _ _ _ (OpsT.keeps N hd t ρ' H' h.2)) _ _ _ (OpsL.keeps N _ (atd hd _) _ _ h.2)⟩;exact OpsL.mono N (fun ρ' H' h=>OpsT.mono N (fun ρ'' H'' h'=>⟨h'.1.trans h.1,h'.2⟩) _ _ _ (OpsT.keeps N hd t ρ' H' h.2)) _ _ _ (OpsL.keeps N _ (atd hd _) _ _ h)
theorem Zbje {n:Exit->Bool} {K:Env->Heap->Prop} {Q:Post} {e:Exit} {ρ:Env} {H:Heap} (h:n e=true):Zcj n K Q e ρ H=K ρ H:=by unfold Zcj;rw [h]
theorem Zbgd {n:Exit->Bool} {K:Env->Heap->Prop} {Q:Post} {e:Exit} {ρ:Env} {H:Heap} (h:n e=false):Zcj n K Q e ρ H=Q e ρ H:=by unfold Zcj;rw [h]
theorem Zcj.mono {n:Exit->Bool} {K K':Env->Heap->Prop} {Q Q':Post} (hk: ∀ρ H,K ρ H->K' ρ H) (hq: ∀e ρ H,Q e ρ H->Q' e ρ H) (e:Exit) (ρ:Env) (H:Heap) (h:Zcj n K Q e ρ H):Zcj n K' Q' e ρ H:=by unfold Zcj at h ⊢;split at h;exact hk _ _ h;exact hq _ _ _ h
theorem Zjq {F:Nat->Env->Heap->Post->Prop} {L:Nat->Bool} {n:Nat} {Q:Post} {e:Exit} {ρ:Env} {H:Heap} (h: ∀l,e≠ .goto l):Zbe F L n Q e ρ H=Q e ρ H:=by
  cases n<;>cases e<;>first | rfl | exact absurd rfl (h _)
theorem Zje {F:Nat->Env->Heap->Post->Prop} {L:Nat->Bool} {n l:Nat} {Q:Post} {ρ:Env} {H:Heap} (h:L l=false):Zbe F L n Q (.goto l) ρ H=Q (.goto l) ρ H:=by cases n<;>simp [Zbe,h]
theorem Zti {F:Nat->Env->Heap->Post->Prop} {L:Nat->Bool} {n l:Nat} {Q:Post} {ρ:Env} {H:Heap} (h:L l=true):Zbe F L (n+1) Q (.goto l) ρ H=F l ρ H (Zbe F L n Q):=by simp [Zbe,h]
theorem Zbbb {F:Nat->Env->Heap->Post->Prop} {L:Nat->Bool} {l:Nat} {Q:Post} {ρ:Env} {H:Heap} (h:L l=true):Zbe F L 0 Q (.goto l) ρ H=False:=by simp [Zbe,h]
theorem Zjg (e:Exit):(∃l,e= .goto l)∨∀l,e≠ .goto l:=by
  cases e<;>first | exact .inl ⟨_,rfl⟩ | exact .inr (fun l h=>by cases h)
theorem Zbe.mono {F:Nat->Env->Heap->Post->Prop} {L:Nat->Bool} (hF: ∀(l:Nat) {Q Q':Post},(∀e ρ H,Q e ρ H->Q' e ρ H)->∀ρ H,F l ρ H Q->F l ρ H Q'): ∀(n:Nat) {Q Q':Post} (_: ∀e ρ H,Q e ρ H->Q' e ρ H) (e:Exit) (ρ:Env) (H:Heap),Zbe F L n Q e ρ H->Zbe F L n Q' e ρ H:=by
  intro n;induction n with
  | zero=>
    intro Q Q' hq e ρ H h;rcases Zjg e with ⟨l,rfl⟩ | he
    . cases hl:L l with
      | true=>rw [Zbbb hl] at h;exact h.elim
      | false=>rw [Zje hl] at h ⊢;exact hq _ _ _ h
    . rw [Zjq he] at h ⊢;exact hq _ _ _ h
  | succ n ih=>
    intro Q Q' hq e ρ H h;rcases Zjg e with ⟨l,rfl⟩ | he
    . cases hl:L l with
      | true=>rw [Zti hl] at h ⊢;exact hF _ (ih hq) _ _ h
      | false=>rw [Zje hl] at h ⊢;exact hq _ _ _ h
    rw [Zjq he] at h ⊢;exact hq _ _ _ h
theorem Zcm.mono {plan:Plan} {key:Nat} {B:Env->Heap->Post->Prop} (hB: ∀{Q Q':Post},(∀e ρ H,Q e ρ H->Q' e ρ H)->∀ρ H,B ρ H Q->B ρ H Q') {nx:Exit->Bool} {Q Q':Post} (hq: ∀e ρ H,Q e ρ H->Q' e ρ H) (ρ:Env) (H:Heap) (h:Zcm plan key B nx ρ H Q):Zcm plan key B nx ρ H Q':=by unfold Zcm at h ⊢;split at h;split at h;obtain ⟨I,k,h0,hr⟩:=h;exact ⟨I,k,h0,fun k x H hI g=>hB (Zcj.mono (fun _ _ h=>h) hq) _ _ (hr k x H hI g)⟩;exact h.elim;exact h.elim
theorem Zfw.mono {B:Env->Heap->Post->Prop} (hB: ∀{Q Q':Post},(∀e ρ H,Q e ρ H->Q' e ρ H)->∀ρ H,B ρ H Q->B ρ H Q'): ∀(n:Nat) {Q Q':Post} (_: ∀e ρ H,Q e ρ H->Q' e ρ H) (ρ:Env) (H:Heap),Zfw B n ρ H Q->Zfw B n ρ H Q'
  | 0,_,_,_,_,_,h=>h.elim
  | n+1,_,_,hq,_,_,h=>hB (Zcj.mono (fun ρ H h=>Zfw.mono hB n hq ρ H h) hq) _ _ h
mutual
theorem Zc.mono {P:Program} {plan:Plan}: ∀(c:Code) {Q Q':Post} (_: ∀e ρ H,Q e ρ H->Q' e ρ H) (ρ:Env) (H:Heap),Zc P plan c ρ H Q->Zc P plan c ρ H Q'
  | .skip,_,_,hq,_,_,h=>by simp only [Zc] at h ⊢;exact hq _ _ _ h
  | .label _,_,_,hq,_,_,h=>by simp only [Zc] at h ⊢;exact hq _ _ _ h
  | .region id ops draw,Q,Q',hq,ρ,H,h=>by
    simp only [Zc] at h ⊢;cases draw with
    | false=>exact OpsL.mono (Zbm P) (fun ρ H h=>hq _ _ _ h) _ _ _ h
    | true=>
      simp only [Zqt] at h ⊢;split at h;split at h;exact OpsT.mono (Zbm P) (fun ρ H h=>OpsL.mono (Zbm P) (fun ρ H h=>hq _ _ _ h) _ _ _ h) _ _ _ h;rename_i c C _;obtain ⟨bs,hbs,h⟩:=h;exact ⟨bs,hbs,OpsT.mono (Zek P (c::C) bs H).toNice (fun ρ H h=>OpsL.mono (Zbm P) (fun ρ H h=>hq _ _ _ h) _ _ _ h) _ _ _ h⟩;split at h;exact OpsL.mono (Zbm P) (fun ρ H h=>hq _ _ _ h) _ _ _ h;exact OpsL.mono (Zbm P) (fun ρ H h=>hq _ _ _ h) _ _ _ h
      . rename_i l c C hp';split at h;obtain ⟨bs,hbs,h⟩:=h;exact ⟨bs,hbs,OpsL.mono (Zbca P C bs H).toNice (fun ρ H h=>hq _ _ _ h) _ _ _ h⟩
        . obtain ⟨bs,hbs,h⟩:=h;exact ⟨bs,hbs,OpsL.mono (Zek P (c::C) bs H).toNice (fun ρ H h=>OpsL.mono (Zbm P) (fun ρ H h=>hq _ _ _ h) _ _ _ h) _ _ _ h⟩
  | .seq a b,Q,Q',hq,ρ,H,h=>by
    simp only [Zc] at h ⊢;refine Zc.mono a (fun e ρ' H' h=>?_) ρ H h;cases e with
    | normal=>exact Zc.mono b hq ρ' H' h
    | _=>exact hq _ _ _ h
  | .cond c x y,Q,Q',hq,ρ,H,h=>by
    simp only [Zc] at h ⊢;split at h;exact IfB.mono h (Zc.mono x hq ρ H) (Zc.mono y hq ρ H)
    . exact h.elim
  | .block id c,Q,Q',hq,ρ,H,h=>by
    simp only [Zc] at h ⊢;refine Zc.mono c (fun e ρ' H' h=>?_) ρ H h;cases e with
    | exit i=>
      simp only [Zlj] at h ⊢;split at h;exact hq _ _ _ h
      . exact hq _ _ _ h
    | _=>exact hq _ _ _ h
  | .loop c,Q,Q',hq,ρ,H,h=>by
    simp only [Zc] at h ⊢;cases hu:Zgj (Zef c) plan.unr with
    | some n=>simp only [hu] at h ⊢;exact Zfw.mono (fun hq=>Zc.mono c hq) n hq ρ H h
    | none=>simp only [hu] at h ⊢;exact Zcm.mono (fun hq=>Zc.mono c hq) hq ρ H h
  | .scope c,Q,Q',hq,ρ,H,h=>by
    simp only [Zc] at h ⊢;split at h;exact Zc.mono c (Zbe.mono (fun l _ _ hq=>Zi.mono c l hq) _ hq) ρ H h
    . rename_i l hl;have hL:=fun ρ H=>Zcm.mono (plan:=plan) (key:=Zej l) (nx:=Zed l) (B:=fun ρ H Q=>Zi P plan c l ρ H (Zbe (fun l ρ H Q=>Zi P plan c l ρ H Q) (others c l) (nLbl c) Q)) (fun hq=>Zi.mono c l (Zbe.mono (fun l _ _ hq=>Zi.mono c l hq) _ hq)) hq ρ H;exact Zl.mono c l (Zcj.mono hL (Zbe.mono (fun l _ _ hq=>Zi.mono c l hq) _ (Zcj.mono hL hq))) ρ H h
  | .exit id,_,_,hq,_,_,h=>by simp only [Zc] at h ⊢;exact hq _ _ _ h
  | .goto id,_,_,hq,_,_,h=>by simp only [Zc] at h ⊢;exact hq _ _ _ h
  | .ret,_,_,hq,_,_,h=>by simp only [Zc] at h ⊢;exact hq _ _ _ h
  | .rangeFunc g ps assign body,Q,Q',hq,ρ,H,h=>by
    simp only [Zc] at h ⊢;split at h;exact ⟨h.1,fun nt d l rec h1 h2 h3 h4 h5 h6 h7 h8 h9 h10=>(h.2 nt d l rec h1 h2 h3 h4 h5 h6 h7 h8 h9 h10).mono fun _ _ hk=>hk.mono hq⟩
    . exact h.elim
  | .refuse _,_,_,_,_,_,h=>by simp only [Zc] at h
theorem Zi.mono {P:Program} {plan:Plan}: ∀(c:Code) (l:Nat) {Q Q':Post} (_: ∀e ρ H,Q e ρ H->Q' e ρ H) (ρ:Env) (H:Heap),Zi P plan c l ρ H Q->Zi P plan c l ρ H Q'
  | .seq a b,l,Q,Q',hq,ρ,H,h=>by
    simp only [Zi] at h ⊢;split at h
    . refine Zi.mono a l (fun e ρ' H' h=>?_) ρ H h;cases e with
      | normal=>exact Zc.mono b hq ρ' H' h
      | _=>exact hq _ _ _ h
    . exact Zi.mono b l hq ρ H h
  | .label l',l,Q,Q',hq,ρ,H,h=>by
    simp only [Zi] at h ⊢;split at h;exact hq _ _ _ h
    . exact h.elim
  | .skip,_,_,_,_,_,_,h=>by simp only [Zi] at h
  | .region ..,_,_,_,_,_,_,h=>by simp only [Zi] at h
  | .cond ..,_,_,_,_,_,_,h=>by simp only [Zi] at h
  | .block ..,_,_,_,_,_,_,h=>by simp only [Zi] at h
  | .loop ..,_,_,_,_,_,_,h=>by simp only [Zi] at h
  | .rangeFunc ..,_,_,_,_,_,_,h=>by simp only [Zi] at h
  | .exit ..,_,_,_,_,_,_,h=>by simp only [Zi] at h
  | .scope ..,_,_,_,_,_,_,h=>by simp only [Zi] at h
  | .goto ..,_,_,_,_,_,_,h=>by simp only [Zi] at h
  | .ret,_,_,_,_,_,_,h=>by simp only [Zi] at h
  | .refuse ..,_,_,_,_,_,_,h=>by simp only [Zi] at h
theorem Zl.mono {P:Program} {plan:Plan}: ∀(c:Code) (l:Nat) {Q Q':Post} (_: ∀e ρ H,Q e ρ H->Q' e ρ H) (ρ:Env) (H:Heap),Zl P plan c l ρ H Q->Zl P plan c l ρ H Q'
  | .seq a b,l,Q,Q',hq,ρ,H,h=>by
    simp only [Zl] at h ⊢;split at h;exact Zl.mono a l hq ρ H h
    . refine Zc.mono a (fun e ρ' H' h=>?_) ρ H h;cases e with
      | normal=>exact Zl.mono b l hq ρ' H' h
      | _=>exact hq _ _ _ h
  | .label l',l,Q,Q',hq,ρ,H,h=>by
    simp only [Zl] at h ⊢;split at h;exact hq _ _ _ h
    . exact h.elim
  | .skip,_,_,_,_,_,_,h=>by simp only [Zl] at h
  | .region ..,_,_,_,_,_,_,h=>by simp only [Zl] at h
  | .cond ..,_,_,_,_,_,_,h=>by simp only [Zl] at h
  | .block ..,_,_,_,_,_,_,h=>by simp only [Zl] at h
  | .loop ..,_,_,_,_,_,_,h=>by simp only [Zl] at h
  | .rangeFunc ..,_,_,_,_,_,_,h=>by simp only [Zl] at h
  | .exit ..,_,_,_,_,_,_,h=>by simp only [Zl] at h
  | .scope ..,_,_,_,_,_,_,h=>by simp only [Zl] at h
  | .goto ..,_,_,_,_,_,_,h=>by simp only [Zl] at h
  | .ret,_,_,_,_,_,_,h=>by simp only [Zl] at h
  | .refuse ..,_,_,_,_,_,_,h=>by simp only [Zl] at h
end
theorem Zbfi {f:Tmp}: ∀(ts:List Tmp) (vs:List Value) (g:Env),memB f ts=false->Zgz ts vs g f=g f
  | [],_,_,_=>rfl
  | _::_,[],_,_=>rfl
  | t::ts,v::vs,g,h=>by
    simp only [memB] at h;split at h;cases h
    . rename_i hb;rw [Zgz,Zlc (fun e he heq=>by cases he;subst heq;rw [Nat.beq_refl] at hb;cases hb)]
      exact Zbfi ts vs g h
theorem Zbdm {f:Tmp}: ∀(ts:List Tmp) (ρ g:Env),memB f ts=true->Zin ts ρ g f=ρ f
  | [],_,_,h=>by cases h
  | t::ts,ρ,g,h=>by
    simp only [memB] at h;rw [Zin];split at h;rename_i hb;have:=Nat.eq_of_beq_eq_true hb;subst this;simp [put]
    . rename_i hb;rw [Zlc (fun e he heq=>by cases he;subst heq;rw [Nat.beq_refl] at hb;cases hb)]
      exact Zbdm ts ρ g h
theorem Zbe.keeps {F:Nat->Env->Heap->Post->Prop} {L:Nat->Bool} {f:Tmp} {v:Value} (hF: ∀(l:Nat) {Q:Post} ρ H,F l ρ H Q->F l ρ H fun e ρ' H'=>ρ' f=ρ f∧Q e ρ' H') (hM: ∀(l:Nat) {Q Q':Post},(∀e ρ H,Q e ρ H->Q' e ρ H)->∀ρ H,F l ρ H Q->F l ρ H Q'): ∀(n:Nat) {Q:Post} (e:Exit) (ρ:Env) (H:Heap),ρ f=v->Zbe F L n Q e ρ H->Zbe F L n (fun e ρ H=>ρ f=v∧Q e ρ H) e ρ H:=by
  intro n;induction n with
  | zero=>
    intro Q e ρ H hv h;rcases Zjg e with ⟨l,rfl⟩ | he
    . cases hl:L l with
      | true=>rw [Zbbb hl] at h;exact h.elim
      | false=>rw [Zje hl] at h ⊢;exact ⟨hv,h⟩
    . rw [Zjq he] at h ⊢;exact ⟨hv,h⟩
  | succ n ih=>
    intro Q e ρ H hv h;rcases Zjg e with ⟨l,rfl⟩ | he
    . cases hl:L l with
      | true=>rw [Zti hl] at h ⊢;exact hM _ (fun e ρ' H' h=>ih e ρ' H' (h.1.trans hv) h.2) _ _ (hF _ _ _ h)
      | false=>rw [Zje hl] at h ⊢;exact ⟨hv,h⟩
    rw [Zjq he] at h ⊢;exact ⟨hv,h⟩
theorem Zcm.keeps {plan:Plan} {key:Nat} {B:Env->Heap->Post->Prop} {f:Tmp} (hB: ∀{Q:Post} ρ H,B ρ H Q->B ρ H fun e ρ' H'=>ρ' f=ρ f∧Q e ρ' H') (hM: ∀{Q Q':Post},(∀e ρ H,Q e ρ H->Q' e ρ H)->∀ρ H,B ρ H Q->B ρ H Q')
    (hk:(match Zgd key plan.loops with
      | some (slots,_,fixed)=>memB f fixed&& !(memB f slots)
      | none=>false)=true) {nx:Exit->Bool} {Q:Post} (ρ:Env) (H:Heap) (h:Zcm plan key B nx ρ H Q):Zcm plan key B nx ρ H fun e ρ' H'=>ρ' f=ρ f∧Q e ρ' H':=by
  unfold Zcm at h ⊢;split at h;rename_i slots ks fixed hl;rw [hl] at hk;simp only [Bool.and_eq_true,Bool.not_eq_true'] at hk;split at h;obtain ⟨I,k,h0,hr⟩:=h;refine ⟨I,k,h0,fun k x H hI g=>hM (fun e ρ' H' h=>?_) _ _ (hB _ _ (hr k x H hI g))⟩;obtain ⟨h1,h⟩:=h;rw [Zbfi _ _ _ hk.2,Zbdm _ _ _ hk.1] at h1;unfold Zcj at h ⊢;split at h;exact h;exact ⟨h1,h⟩;exact h.elim;exact h.elim
theorem Zfw.keeps {B:Env->Heap->Post->Prop} {f:Tmp} {v:Value} (hB: ∀{Q:Post} ρ H,B ρ H Q->B ρ H fun e ρ' H'=>ρ' f=ρ f∧Q e ρ' H') (hM: ∀{Q Q':Post},(∀e ρ H,Q e ρ H->Q' e ρ H)->∀ρ H,B ρ H Q->B ρ H Q'): ∀(n:Nat) {Q:Post} (ρ:Env) (H:Heap),ρ f=v->Zfw B n ρ H Q->Zfw B n ρ H fun e ρ' H'=>ρ' f=v∧Q e ρ' H'
  | 0,_,_,_,_,h=>h.elim
  | n+1,Q,ρ,H,hv,h=>hM (fun e ρ' H' h=>by
      obtain ⟨h1,h⟩:=h;cases hn:Zgu e with
      | true=>rw [Zbje hn] at h ⊢;exact Zfw.keeps hB hM n ρ' H' (h1.trans hv) h
      | false=>rw [Zbgd hn] at h ⊢;exact ⟨h1.trans hv,h⟩) _ _ (hB _ _ h)
mutual
theorem Zc.keeps {P:Program} {plan:Plan} {f:Tmp}: ∀(c:Code),Zdw plan f c=true->∀{Q:Post} (ρ:Env) (H:Heap),Zc P plan c ρ H Q->Zc P plan c ρ H fun e ρ' H'=>ρ' f=ρ f∧Q e ρ' H'
  | .skip,_,_,_,_,h=>by simp only [Zc] at h ⊢;exact ⟨trivial,h⟩
  | .label _,_,_,_,_,h=>by simp only [Zc] at h ⊢;exact ⟨trivial,h⟩
  | .region id ops draw,hk,Q,ρ,H,h=>by
    simp only [Zdw] at hk;have hd: ∀o∈ops.toList,∀d,o.dst=some d->d≠f:=fun o ho d hd=>by have:=List.all_eq_true.1 hk o ho;rw [hd] at this;exact Zcsh this
    have hd2: ∀l,∀o∈Zh ops l,∀d,o.dst=some d->d≠f:=fun l o ho=>by simp only [Zh,List.mem_filterMap] at ho;obtain ⟨i,_,hi⟩:=ho;exact hd o (List.mem_of_getElem? hi)
    simp only [Zc] at h ⊢;cases draw with
    | false=>exact OpsL.keeps (Zbm P) _ hd _ _ h
    | true=>
      simp only [Zqt] at h ⊢;split at h;split at h;exact OpsT.mono (Zbm P) (fun ρ' H' h=>OpsL.mono (Zbm P) (fun ρ'' H'' h'=>⟨h'.1.trans h.1,h'.2⟩) _ _ _ (OpsL.keeps (Zbm P) _ (hd2 _) _ _ h.2)) _ _ _ (OpsT.keeps (Zbm P) hd _ _ _ h);rename_i c C _;obtain ⟨bs,hbs,h⟩:=h;have N:=(Zek P (c::C) bs H).toNice;exact ⟨bs,hbs,OpsT.mono N (fun ρ' H' h=>OpsL.mono (Zbm P) (fun ρ'' H'' h'=>⟨h'.1.trans h.1,h'.2⟩) _ _ _ (OpsL.keeps (Zbm P) _ (hd2 _) _ _ h.2)) _ _ _ (OpsT.keeps N hd _ _ _ h)⟩;split at h;exact OpsL.keeps (Zbm P) _ hd _ _ h;exact OpsL.keeps (Zbm P) _ (hd2 _) _ _ h
      . rename_i l c C hp';split at h;obtain ⟨bs,hbs,h⟩:=h;exact ⟨bs,hbs,OpsL.keeps (Zbca P C bs H).toNice _ (hd2 _) _ _ h⟩
        . obtain ⟨bs,hbs,h⟩:=h;exact ⟨bs,hbs,OpsL.mono (Zek P (c::C) bs H).toNice (fun ρ' H' h=>OpsL.mono (Zbm P) (fun ρ'' H'' h'=>⟨h'.1.trans h.1,h'.2⟩) _ _ _ (OpsL.keeps (Zbm P) _ (hd2 _) _ _ h.2)) _ _ _ (OpsL.keeps (Zek P (c::C) bs H).toNice _ (hd2 _) _ _ h)⟩
  | .seq a b,hk,Q,ρ,H,h=>by
    simp only [Zdw,Bool.and_eq_true] at hk;simp only [Zc] at h ⊢;refine Zc.mono a (fun e ρ' H' h=>?_) ρ H (Zc.keeps a hk.1 ρ H h);cases e with
    | normal=>exact Zc.mono b (fun e ρ'' H'' h'=>⟨h'.1.trans h.1,h'.2⟩) ρ' H' (Zc.keeps b hk.2 ρ' H' h.2)
    | _=>exact ⟨h.1,h.2⟩
  | .cond c x y,hk,Q,ρ,H,h=>by
    simp only [Zdw,Bool.and_eq_true] at hk;simp only [Zc] at h ⊢;split at h;exact IfB.mono h (Zc.keeps x hk.1 ρ H) (Zc.keeps y hk.2 ρ H)
    . exact h.elim
  | .block id c,hk,Q,ρ,H,h=>by
    simp only [Zdw] at hk;simp only [Zc] at h ⊢;refine Zc.mono c (fun e ρ' H' h=>?_) ρ H (Zc.keeps c hk ρ H h);cases e with
    | exit i=>
      obtain ⟨h1,h⟩:=h;simp only [Zlj] at h ⊢;split at h;exact ⟨h1,h⟩
      . exact ⟨h1,h⟩
    | _=>exact h
  | .loop c,hk,Q,ρ,H,h=>by
    simp only [Zdw,Bool.and_eq_true] at hk;obtain ⟨hk1,hk2⟩:=hk;simp only [Zc] at h ⊢;cases hu:Zgj (Zef c) plan.unr with
    | some n=>simp only [hu] at h ⊢;exact Zfw.keeps (fun ρ H h=>Zc.keeps c hk1 ρ H h) (fun hq=>Zc.mono c hq) n ρ H rfl h
    | none=>simp only [hu] at h hk2 ⊢;exact Zcm.keeps (fun ρ H h=>Zc.keeps c hk1 ρ H h) (fun hq=>Zc.mono c hq) hk2 ρ H h
  | .scope c,hk,Q,ρ,H,h=>by
    simp only [Zdw,Bool.and_eq_true] at hk;obtain ⟨hk1,hk2⟩:=hk;simp only [Zc] at h ⊢;have gk: ∀{n:Nat} (L:Nat->Bool) (v:Value) (Q:Post) (e:Exit) (ρ:Env) (H:Heap),ρ f=v->Zbe (fun l ρ H Q=>Zi P plan c l ρ H Q) L n Q e ρ H->Zbe (fun l ρ H Q=>Zi P plan c l ρ H Q) L n (fun e ρ H=>ρ f=v∧Q e ρ H) e ρ H:=fun {n} L v Q e ρ H=>Zbe.keeps (fun l _ ρ H h=>Zi.keeps c l (Zou c hk1) ρ H h) (fun l _ _ hq=>Zi.mono c l hq) n e ρ H;split at h;exact Zc.mono c (fun e ρ' H' h=>gk _ _ _ e ρ' H' h.1 h.2) ρ H (Zc.keeps c hk1 ρ H h)
    . rename_i l hl;rw [hl] at hk2;have hL: ∀ρ' H',ρ' f=ρ f->Zcm plan (Zej l) (fun ρ H Q=>Zi P plan c l ρ H (Zbe (fun l ρ H Q=>Zi P plan c l ρ H Q) (others c l) (nLbl c) Q)) (Zed l) ρ' H' Q->
          Zcm plan (Zej l) (fun ρ H Q=>Zi P plan c l ρ H (Zbe (fun l ρ H Q=>Zi P plan c l ρ H Q) (others c l) (nLbl c) Q)) (Zed l) ρ' H' fun e ρ' H'=>ρ' f=ρ f∧Q e ρ' H':=fun ρ' H' he h=>by
        rw [← he];exact Zcm.keeps (B:=fun ρ H Q=>Zi P plan c l ρ H (Zbe (fun l ρ H Q=>Zi P plan c l ρ H Q) (others c l) (nLbl c) Q)) (fun {Q} ρ H h=>Zi.mono c l (fun e ρ' H' h=>gk (others c l) (ρ f) Q e ρ' H' h.1 h.2) ρ H (Zi.keeps c l (Zou c hk1) ρ H h)) (fun hq=>Zi.mono c l (Zbe.mono (fun l _ _ hq=>Zi.mono c l hq) _ hq)) hk2 ρ' H' h
      refine Zl.mono c l (fun e ρ' H' h=>?_) ρ H (Zl.keeps c l hk1 ρ H h);obtain ⟨h1,h⟩:=h;unfold Zcj at h ⊢;split at h;exact hL _ _ h1 h
      . refine Zbe.mono (fun l _ _ hq=>Zi.mono c l hq) _ (fun e ρ' H' h=>?_) e ρ' H' (gk _ (ρ f) _ e ρ' H' h1 h);obtain ⟨h1,h⟩:=h;split at h;exact hL _ _ h1 h
        . exact ⟨h1,h⟩
  | .exit id,_,_,_,_,h=>by simp only [Zc] at h ⊢;exact ⟨trivial,h⟩
  | .goto id,_,_,_,_,h=>by simp only [Zc] at h ⊢;exact ⟨trivial,h⟩
  | .ret,_,_,_,_,h=>by simp only [Zc] at h ⊢;exact ⟨trivial,h⟩
  | .rangeFunc g ps assign body,_,Q,ρ,H,h=>by
    simp only [Zc] at h ⊢;split at h
    . refine ⟨h.1,fun nt d l rec h1 h2 h3 h4 h5 h6 h7 h8 h9 h10=>(h.2 nt d l rec h1 h2 h3 h4 h5 h6 h7 h8 h9 h10).mono fun _ H' hk=>?_⟩;obtain ⟨r,k1,k2,k3⟩:=hk;refine ⟨r,k1,k2,?_⟩;split at k3<;>first | exact k3.elim | exact ⟨rfl,k3⟩
    . exact h.elim
  | .refuse _,_,_,_,_,h=>by simp only [Zc] at h
theorem Zi.keeps {P:Program} {plan:Plan} {f:Tmp}: ∀(c:Code) (l:Nat),Zil plan f c=true->∀{Q:Post} (ρ:Env) (H:Heap),Zi P plan c l ρ H Q->Zi P plan c l ρ H fun e ρ' H'=>ρ' f=ρ f∧Q e ρ' H'
  | .seq a b,l,hk,Q,ρ,H,h=>by
    simp only [Zi] at h ⊢;split at h
    . rename_i hla;have hn:Nat.blt 0 (nLbl a)=true:=by have:=Zbey hla;simpa using this
      simp only [Zil,hn,Bool.and_eq_true] at hk;refine Zi.mono a l (fun e ρ' H' h=>?_) ρ H (Zi.keeps a l hk.1 ρ H h);cases e with
      | normal=>exact Zc.mono b (fun e ρ'' H'' h'=>⟨h'.1.trans h.1,h'.2⟩) ρ' H' (Zc.keeps b hk.2 ρ' H' h.2)
      | _=>exact ⟨h.1,h.2⟩
    . refine Zi.keeps b l ?_ ρ H h;simp only [Zil] at hk;split at hk;simp only [Bool.and_eq_true] at hk;exact Zou b hk.2
      . exact hk
  | .label l',l,hk,Q,ρ,H,h=>by
    simp only [Zi] at h ⊢;split at h;exact ⟨trivial,h⟩
    . exact h.elim
  | .skip,_,_,_,_,_,h=>by simp only [Zi] at h
  | .region ..,_,_,_,_,_,h=>by simp only [Zi] at h
  | .cond ..,_,_,_,_,_,h=>by simp only [Zi] at h
  | .block ..,_,_,_,_,_,h=>by simp only [Zi] at h
  | .loop ..,_,_,_,_,_,h=>by simp only [Zi] at h
  | .rangeFunc ..,_,_,_,_,_,h=>by simp only [Zi] at h
  | .exit ..,_,_,_,_,_,h=>by simp only [Zi] at h
  | .scope ..,_,_,_,_,_,h=>by simp only [Zi] at h
  | .goto ..,_,_,_,_,_,h=>by simp only [Zi] at h
  | .ret,_,_,_,_,_,h=>by simp only [Zi] at h
  | .refuse ..,_,_,_,_,_,h=>by simp only [Zi] at h
theorem Zl.keeps {P:Program} {plan:Plan} {f:Tmp}: ∀(c:Code) (l:Nat),Zdw plan f c=true->∀{Q:Post} (ρ:Env) (H:Heap),Zl P plan c l ρ H Q->Zl P plan c l ρ H fun e ρ' H'=>ρ' f=ρ f∧Q e ρ' H'
  | .seq a b,l,hk,Q,ρ,H,h=>by
    simp only [Zdw,Bool.and_eq_true] at hk;simp only [Zl] at h ⊢;split at h;exact Zl.keeps a l hk.1 ρ H h
    . refine Zc.mono a (fun e ρ' H' h=>?_) ρ H (Zc.keeps a hk.1 ρ H h);cases e with
      | normal=>exact Zl.mono b l (fun e ρ'' H'' h'=>⟨h'.1.trans h.1,h'.2⟩) ρ' H' (Zl.keeps b l hk.2 ρ' H' h.2)
      | _=>exact ⟨h.1,h.2⟩
  | .label l',l,hk,Q,ρ,H,h=>by
    simp only [Zl] at h ⊢;split at h;exact ⟨trivial,h⟩
    . exact h.elim
  | .skip,_,_,_,_,_,h=>by simp only [Zl] at h
  | .region ..,_,_,_,_,_,h=>by simp only [Zl] at h
  | .cond ..,_,_,_,_,_,h=>by simp only [Zl] at h
  | .block ..,_,_,_,_,_,h=>by simp only [Zl] at h
  | .loop ..,_,_,_,_,_,h=>by simp only [Zl] at h
  | .rangeFunc ..,_,_,_,_,_,h=>by simp only [Zl] at h
  | .exit ..,_,_,_,_,_,h=>by simp only [Zl] at h
  | .scope ..,_,_,_,_,_,h=>by simp only [Zl] at h
  | .goto ..,_,_,_,_,_,h=>by simp only [Zl] at h
  | .ret,_,_,_,_,_,h=>by simp only [Zl] at h
  | .refuse ..,_,_,_,_,_,h=>by simp only [Zl] at h
end
def codeOk (P:Program) (n:Nat) (plan:Plan) (r:Option Nat):Code->Bool
  | .region id ops draw=>ops.toList.all (opIn n ops)&&(match draw with
    | true=>(match Zys id plan.trees with
      | some t=>Zrh P (Zbaq id plan.regs) ops t.a (t.pre0++t.pre1) t.post t.zs t.Y
      | none=>(match Zpv id plan.regs with
        | none=>Zht P [] ops (List.range ops.size)
        | some (l,[])=>Zht P [] ops l
        | some (l,c::C)=>(match Nat.beq c Zbdo with
          | true=>Zht P C ops l&&Zbag ops C
          | false=>Zht P (c::C) ops l)))
    | false=>true)
  | .seq a b=>codeOk P n plan r a&&codeOk P n plan r b
  | .cond c x y=>Zww n c&&codeOk P n plan r x&&codeOk P n plan r y
  | .block _ c=>codeOk P n plan r c
  | .loop c=>codeOk P n plan r c&&(match Zgj (Zef c) plan.unr with
    | some _=>true
    | none=>(match Zgd (Zef c) plan.loops with
      | some (_,_,fixed)=>fixed.all fun f=>Zdw plan f c
      | none=>false))
  | .scope c=>r.isNone&&codeOk P n plan r c&&(match Zka plan c with
    | some l=>Zdu c l&&(match Zgd (Zej l) plan.loops with
      | some (_,_,fixed)=>fixed.all fun f=>Zil plan f c
      | none=>false)
    | none=>true)
  | .rangeFunc g ps assign body=>r.isNone&&Zww n g&&ps.toList.all (Nat.blt · n)&&codeOk P n plan (some 0) assign&&codeOk P n plan (some 0) body
  | _=>true
theorem Zjl {P:Program} {n:Nat} {plan:Plan} (l l':Nat): ∀c:Code,codeOk P n plan (some l) c=codeOk P n plan (some l') c
  | .region .. =>by simp only [codeOk]
  | .seq a b=>by simp only [codeOk,Zjl l l' a,Zjl l l' b]
  | .cond c a b=>by simp only [codeOk,Zjl l l' a,Zjl l l' b]
  | .block _ c=>by simp only [codeOk,Zjl l l' c]
  | .loop c=>by simp only [codeOk,Zjl l l' c]
  | .scope c=>by simp only [codeOk,Option.isNone_some,Bool.false_and]
  | .rangeFunc .. =>by simp only [codeOk,Option.isNone_some,Bool.false_and]
  | .skip=>rfl
  | .label _=>rfl
  | .exit _=>rfl
  | .goto _=>rfl
  | .ret=>rfl
  | .refuse _=>rfl
def Marks (D:List Deferred) (ws w:World):Prop:=ws.heap.size <= w.heap.size∧∃rs:List Nat,D=rs.map (fun r=>{ target:= .collected r,args:=#[] })∧rs.Nodup∧∀r∈rs,ws.heap[r]? =none∧w.heap[r]? =some (.deferred (some []))
theorem Marks.rest {D:List Deferred} {ws w w':World} (h:Marks D ws w) (r:Rest w w'):Marks D ws w':=by obtain ⟨h0,rs,h1,h2,h3⟩:=h;exact ⟨Nat.le_trans h0 r.size,rs,h1,h2,fun x hx=>⟨(h3 x hx).1,r.dfr _ _ (h3 x hx).2⟩⟩
theorem Marks.nil (w:World):Marks [] w w:=⟨Nat.le_refl _,[],rfl,.nil,by simp⟩
def Lift (n:Nat) (ws w0:World) (Q:Post):Exit->Act->World->Prop:=fun e a w=>∃ρ D,Fits n D ρ a∧Q e ρ (hp w)∧Rest w0 w∧Marks D ws w
theorem Zclm (all:Array Oper):Zh all (List.range all.size)=all.toList:=by
  unfold Zh;apply List.ext_getElem?
  intro k;have h:(List.range all.size).filterMap (fun i=>all.toList[i]?)=all.toList:=by
    have: ∀l:List Oper,(List.range l.length).filterMap (fun i=>l[i]?)=l:=by
      intro l;induction l with
      | nil=>rfl
      | cons x xs ih=>
        rw [List.length_cons,List.range_succ_eq_map,List.filterMap_cons];simp only [List.getElem?_cons_zero,List.filterMap_map];congr 1
    simpa using this all.toList
  rw [h]
theorem Zcgn (all:Array Oper) (k:Nat):((List.range all.size)[k]?).bind (fun i=>all[i]?)=all.toList[k]? :=by
  by_cases h:k<all.size;simp [h]
  . have h1:(List.range all.size)[k]? =none:=by simp;omega
    rw [h1];simp;omega
theorem Zcsu {r:Option Nat} {D:List Deferred} {ws:World} {P:Program} (hm:P.follows .mixedOrders=true) {plan:Plan} {n id:Nat} {ops:Array Oper} {draw:Bool} {Q:Post} {ρ:Env} {a:Act} {w:World}
    (hok:codeOk P n plan r (.region id ops draw)=true) (hf:Fits n D ρ a) (hmk:Marks D ws w) (h:Zc P plan (.region id ops draw) ρ (hp w) Q):(Code.region id ops draw).wpIn (Fw r) 0 P (Lift n ws w Q) a w:=by
  simp only [codeOk,Bool.and_eq_true] at hok;obtain ⟨hin,hdr⟩:=hok;cases draw with
  | false=>
    simp only [Zc] at h;refine wpIn_region ?_;exact Zcqa (Zns P) (w0:=w) hin (fun ρ' a' w' hf' _ hk hr=>⟨ρ',D,hf',hk,hr,hmk.rest hr⟩) _ _ (Zcgn ops) (by simp) ρ a w hf trivial (.refl w) (OpsL.plain (Zbm P) _ _ _ h)
  | true=>
    simp only [Zc,Zqt] at h;simp only at hdr;have c0:Zbq P []=rank P:=by funext o;unfold Zbq inC;cases o.dst<;>rfl
    split at h
    . rename_i t htr;rw [htr] at hdr;simp only at hdr;split at h;rename_i hC;rw [hC] at hdr;exact Zbiz (I:=fun _=>True) (C:=[]) (Zns P) (by rw [c0];exact Zbcu P) hm hin hdr hf trivial (OpsT.plain (Zbm P) (fun ρ H h=>OpsL.plain (Zbm P) _ _ _ h) _ _ _ h) (fun ρ' a' w' hf' hk hr=>⟨ρ',D,hf',hk,hr,hmk.rest hr⟩)
      rename_i c C hC;rw [hC] at hdr;obtain ⟨bs,hbs,h⟩:=h;have hR:=Zek P (c::C) bs (hp w);exact Zbiz (Zbhb P (c::C) bs (hp w)) hR hm hin hdr hf (fun b hb=>⟨hbs b hb,rfl⟩) (OpsT.plain hR.toNice (fun ρ H h=>OpsL.plain (Zbm P) _ _ _ h) _ _ _ h) (fun ρ' a' w' hf' hk hr=>⟨ρ',D,hf',hk,hr,hmk.rest hr⟩)
    rename_i htr;rw [htr] at hdr;simp only at hdr;split at h
    . rename_i hp';rw [hp'] at hdr;refine Zbju (I:=fun _=>True) (C:=[]) (Zns P) (by rw [c0];exact Zbcu P) hm hin hdr hf trivial (K:=fun ρ' H'=>Q .normal ρ' H') ?_ (fun ρ' a' w' hf' _ hk hr=>⟨ρ',D,hf',hk,hr,hmk.rest hr⟩)
      rw [Zclm];exact OpsL.plain (Zbm P) _ _ _ h
    rename_i l hp';rw [hp'] at hdr;exact Zbju (I:=fun _=>True) (C:=[]) (Zns P) (by rw [c0];exact Zbcu P) hm hin hdr hf trivial (OpsL.plain (Zbm P) _ _ _ h) (fun ρ' a' w' hf' _ hk hr=>⟨ρ',D,hf',hk,hr,hmk.rest hr⟩)
    rename_i l c C hp';rw [hp'] at hdr;simp only at hdr;split at h;rename_i hmk2;rw [hmk2] at hdr;simp only [Bool.and_eq_true] at hdr;obtain ⟨bs,hbs,h⟩:=h;have hR:=Zbca P C bs (hp w);exact Zcno (Zcac P C bs (hp w)) hR hdr.2 hm hin hdr.1 hf (fun b hb=>⟨hbs b hb,rfl⟩) (OpsL.plain hR.toNice _ _ _ h) (fun ρ' a' w' hf' hk hr=>⟨ρ',D,hf',hk,hr,hmk.rest hr⟩);rename_i hmk2;rw [hmk2] at hdr;obtain ⟨bs,hbs,h⟩:=h;have hR:=Zek P (c::C) bs (hp w);exact Zchb (Zbhb P (c::C) bs (hp w)) hR hm hin hdr hf (fun b hb=>⟨hbs b hb,rfl⟩) (OpsL.plain hR.toNice _ _ _ (OpsL.mono hR.toNice (fun ρ H h=>OpsL.plain (Zbm P) _ _ _ h) _ _ _ h)) (fun ρ' a' w' hf' hk hr=>⟨ρ',D,hf',hk,hr,hmk.rest hr⟩)
theorem wpIn_loop' {F:Fence} {m:Nat} {P:Program} {c:Code} {Q:Exit->Act->World->Prop} (Inv:Nat->Act->World->Prop)
    (round: ∀k a w,Inv k a w->c.wpIn F m P (Exit.then (fun a' w'=>∃k',k'<k∧Inv k' a' w') Q) a w) {k:Nat} {a:Act} {w:World} (h₀:Inv k a w):(Code.loop c).wpIn F m P Q a w:=by
  intro b kk cs hro hb hr;have key: ∀k a w,Inv k a w->∃e a' w',Q e a' w'∧ArrivesIn (Machine.fenced P F) P (lone (b.atR a (.code c:: .inLoop c::kk)) cs w) b kk cs e a' w':=by
    intro k;induction k using Nat.strongRecOn with
    | _ k ih=>
      intro a w hI;obtain ⟨e,a₁,w₁,hq,harr⟩:=round k a w hI b (.inLoop c::kk) cs hro hb hr;cases e with
      | normal=>
        obtain ⟨k',hlt,hI₁⟩:=hq;obtain ⟨e₂,a₂,w₂,hq₂,harr₂⟩:=ih k' hlt a₁ w₁ hI₁;exact ⟨e₂,a₂,w₂,hq₂,.of_steps (StepsIn.trans harr (.one (fenced_calm hb hr rfl) stepR_inLoop)) harr₂⟩
      | exit id=>exact ⟨_,a₁,w₁,hq,.pass (x:= .inLoop c) rfl (fun _ _=> .inl (by simp)) harr⟩
      | goto l=>exact ⟨_,a₁,w₁,hq,.pass (x:= .inLoop c) rfl (fun _ _=> .inl (by simp)) harr⟩
      | ret=>exact ⟨_,a₁,w₁,hq,.pass (x:= .inLoop c) rfl (fun _ _=> .inl (by simp)) harr⟩
      | panic ch=>exact ⟨_,a₁,w₁,hq,.pass (x:= .inLoop c) rfl (fun _ _=> .inl (by simp)) harr⟩
      | outgrown=>exact ⟨_,a₁,w₁,hq,.pass (x:= .inLoop c) rfl (fun _ _=> .inl (by simp)) harr⟩
  obtain ⟨e,a',w',hq,harr⟩:=key k a w h₀;exact ⟨e,a',w',hq,.of_steps (.one (fenced_calm hb hr rfl) stepR_loop) harr⟩
theorem Zbfv {plan:Plan} {key:Nat} {B:Env->Heap->Post->Prop} {nx:Exit->Bool} {ρ:Env} {H:Heap} {Q:Post} (hM: ∀{Q Q':Post},(∀e ρ H,Q e ρ H->Q' e ρ H)->∀ρ H,B ρ H Q->B ρ H Q')
    (hB: ∀f,(match Zgd key plan.loops with | some (_,_,fixed)=>memB f fixed | none=>false)=true->∀{Q:Post} ρ H,B ρ H Q->B ρ H fun e ρ' H'=>ρ' f=ρ f∧Q e ρ' H') (h:Zcm plan key B nx ρ H Q):
    ∃J:Nat->Env->Heap->Prop,(∃k,J k ρ H)∧∀k ρ' H',J k ρ' H'->B ρ' H' (Zcj nx (fun ρ'' H''=>∃k',k'<k∧J k' ρ'' H'') Q):=by
  unfold Zcm at h;split at h
  case h_2=>exact h.elim
  rename_i slots ks fixed hl;split at h
  case h_2=>exact h.elim
  rename_i x0 hx0;obtain ⟨I,k0,h0,hround⟩:=h;refine ⟨fun k ρ' H'=>∃x,(∀f∈fixed,ρ' f=ρ f)∧slots.map ρ'=enc ks x∧I k x H',⟨k0,x0,fun _ _=>rfl,(Zji _ _ _ hx0).symm,h0⟩,fun k ρ' H' hJ=>?_⟩;obtain ⟨x,hfx,hsl,hI⟩:=hJ;have hb:=hround k x _ hI ρ';have e1:Zgz slots (enc ks x) (Zin fixed ρ ρ')=ρ':=by rw [Zbpf fixed ρ ρ' hfx];exact Zbiq _ _ _ hsl
  rw [e1] at hb;have all: ∀(fs:List Tmp),(∀f∈fs,f∈fixed)->∀{Q:Post},B ρ' H' Q->B ρ' H' fun e ρ'' H''=>(∀f∈fs,ρ'' f=ρ' f)∧Q e ρ'' H'':=by
    intro fs;induction fs with
    | nil=>exact fun _ _ h=>hM (fun _ _ _ h=>⟨by simp,h⟩) _ _ h
    | cons f fs ih=>
      intro hfs Q h;have h1:=ih (fun f hf=>hfs f (List.mem_cons_of_mem _ hf)) h;have h2:=hB f (by rw [hl];exact Zca.2 (hfs f List.mem_cons_self)) ρ' H' h1
      refine hM (fun e ρ'' H'' h=>⟨fun g hg=>?_,h.2.2⟩) _ _ h2;rcases List.mem_cons.1 hg with rfl | hg;exact h.1;exact h.2.1 g hg
  refine hM (fun e ρ'' H'' h=>?_) _ _ (all fixed (fun _ h=>h) hb);obtain ⟨hkp,hq⟩:=h;unfold Zcj at hq ⊢;split at hq;split at hq;rename_i x' hx';obtain ⟨k',hlt,hI'⟩:=hq;exact ⟨k',hlt,x',fun f hf=>(hkp f hf).trans (hfx f hf),(Zji _ _ _ hx').symm,hI'⟩;exact hq.elim;exact hq
theorem Zbel {P:Program} {plan:Plan}: ∀(c:Code) (l:Nat) {Q1 Q:Post} (_: ∀e ρ H,e≠ .normal->Q1 e ρ H->Q e ρ H) (ρ:Env) (H:Heap),Zl P plan c l ρ H Q1->(∀ρ' H',Q1 .normal ρ' H'->Zi P plan c l ρ' H' Q)->Zc P plan c ρ H Q
  | .seq a b,l,Q1,Q,hq,ρ,H,h,hk=>by
    simp only [Zl] at h;simp only [Zc];split at h
    . rename_i hl;refine Zbel a l (Q1:=Q1) (fun e ρ H he h=>?_) ρ H h (fun ρ' H' h'=>?_)
      . have:=hq e ρ H he h;cases e<;>first | exact this | exact absurd rfl he
      have:=hk ρ' H' h';simp only [Zi,hl] at this;exact this
    . rename_i hl;refine Zc.mono a (fun e ρ' H' h=>?_) ρ H h;cases e with
      | normal=>
        refine Zbel b l hq ρ' H' h fun ρ' H' h'=>?_;have:=hk ρ' H' h';simp only [Zi,hl] at this;exact this
      | _=>exact hq _ _ _ (by simp) h
  | .label l',l,Q1,Q,hq,ρ,H,h,hk=>by
    simp only [Zl] at h;simp only [Zc];split at h;rename_i hl;have:=hk ρ H h;simp only [Zi,hl] at this;exact this
    . exact h.elim
  | .skip,_,_,_,_,_,_,h,_=>by simp only [Zl] at h
  | .region ..,_,_,_,_,_,_,h,_=>by simp only [Zl] at h
  | .cond ..,_,_,_,_,_,_,h,_=>by simp only [Zl] at h
  | .block ..,_,_,_,_,_,_,h,_=>by simp only [Zl] at h
  | .loop ..,_,_,_,_,_,_,h,_=>by simp only [Zl] at h
  | .rangeFunc ..,_,_,_,_,_,_,h,_=>by simp only [Zl] at h
  | .exit ..,_,_,_,_,_,_,h,_=>by simp only [Zl] at h
  | .scope ..,_,_,_,_,_,_,h,_=>by simp only [Zl] at h
  | .goto ..,_,_,_,_,_,_,h,_=>by simp only [Zl] at h
  | .ret,_,_,_,_,_,_,h,_=>by simp only [Zl] at h
  | .refuse ..,_,_,_,_,_,_,h,_=>by simp only [Zl] at h
theorem Zwk: ∀(c:Code) (l:Nat),Zdu c l=(findLabel c l).isSome
  | .seq a b,l=>by simp only [Zdu,findLabel];rw [Zwk a l,Zwk b l];cases findLabel a l<;>simp
  | .label l',l=>by
    simp only [Zdu,findLabel];cases h:Nat.beq l' l with
    | true=>rw [if_pos (by have:=Nat.eq_of_beq_eq_true h;simp [this])];rfl
    | false=>rw [if_neg (by
        intro e;have:l'=l:=by simpa using e
        subst this;rw [Nat.beq_refl] at h;cases h)];rfl
  | .skip,_=>rfl
  | .region ..,_=>rfl
  | .cond ..,_=>rfl
  | .block ..,_=>rfl
  | .loop ..,_=>rfl
  | .rangeFunc ..,_=>rfl
  | .exit ..,_=>rfl
  | .scope ..,_=>rfl
  | .goto ..,_=>rfl
  | .ret,_=>rfl
  | .refuse ..,_=>rfl
theorem Zbnn {n:Nat} {ρ:Env} {D:List Deferred} {a:Act} (h:Fits n D ρ a):TmpsOf n ρ a.tmps:=⟨h.size,h.tmp⟩
theorem Zbrk {n:Nat}: ∀(ts:List Tmp) (vs:List Value) {ρ:Env} {a:Array Value},ts.all (Nat.blt · n)=true->TmpsOf n ρ a->TmpsOf n (Zgo ts vs ρ) (Zip ts vs a)
  | [],_,_,_,_,h=>h
  | _::_,[],_,_,_,h=>h
  | t::ts,v::vs,ρ,a,ht,h=>by simp only [List.all_cons,Bool.and_eq_true] at ht;simp only [Zgo,Zip];refine Zbrk ts vs ht.2 ?_;have h1:Fits n [] ρ { tmps:=a,defers:=[] }:=⟨h.size,h.tmp,rfl⟩;have h2:=h1.put (some t) v ht.1;exact ⟨h2.size,h2.tmp⟩
theorem run_getLoop {P:Program} {w:World} {l:Nat} {r:Loop} (h:w.heap[l]? =some (.loop r)):(Instr.getLoop l).run P w= .ok r w:=by unfold Instr.getLoop;simp [Sem.run_bind,getObj,Sem.run,h]
theorem Zbhg {P:Program} {w:World} {l:Nat} {o o0:Obj} (h:w.heap[l]? =some o0) (hc:isC o0=false):(setObj l o).run P w= .ok () { w with heap:=w.heap.setIfInBounds l o }:=by
  unfold setObj;cases o0<;>first | (cases hc;done) | simp [Sem.run,h]
theorem Zcqs {P:Program} {n:Nat} {l:Nat} {fn:FuncId} {tmps:Array Value} {assign body:Code} {A B:Env->Heap->Post->Prop} {ρ:Env} {H:Heap} {K:Value->Heap->Prop} (hT:TmpsOf n ρ tmps)
    (hA: ∀{ρ:Env} {D:List Deferred} {a:Act} {ws w:World} {Q:Post},Fits n D ρ a->Marks D ws w->A ρ (hp w) Q->assign.wpIn (Fw (some l)) 0 P (Lift n ws w Q) a w)
    (hB: ∀{ρ:Env} {D:List Deferred} {a:Act} {ws w:World} {Q:Post},Fits n D ρ a->Marks D ws w->B ρ (hp w) Q->body.wpIn (Fw (some l)) 0 P (Lift n ws w Q) a w)
    (h:Zot l A B ρ H K):RndW P l fn tmps assign body H K:=by
  rintro w rfl;refine roundIn_of_wpIn (F:=Fence.wide) trivial ?_;have hf:Fits n [] ρ { tmps:=tmps,defers:=[] }:=⟨hT.size,hT.tmp,rfl⟩;refine wpIn_mono (hA hf (Marks.nil w) h) fun e a1 w1 hq=>?_;obtain ⟨ρ1,D1,hf1,hq,hr1,hm1⟩:=hq;cases e<;>simp only at hq<;>simp only [Exit.then]<;>first | exact hq.elim | skip
  obtain ⟨r,hl,hst,hb⟩:=hq;have hl:w1.heap[l]? =some (.loop r):=hl;refine ⟨{ w1 with heap:=w1.heap.setIfInBounds l (.loop { r with state:= .busy }) },?_,?_⟩
  unfold Instr.beginRound;simp only [Sem.run_bind,run_getLoop hl,Result.andThen_ok,Zbhg hl rfl,hst];rfl
  . rw [← Zoa w1 l _ _ hl] at hb;have hr2:=Zvu w1 l (.loop { r with state:= .busy }) _ hl rfl
    refine wpIn_mono (hB hf1 (hm1.rest hr2) hb) fun e a2 w2 hq=>?_;obtain ⟨ρ2,D2,hf2,⟨r',hl',hq⟩,hr3,_⟩:=hq;have hl':w2.heap[l]? =some (.loop r'):=hl';have fin: ∀j:Option Code,K (.bool j.isNone) ((hp w2).upd l (.loop { r' with state:=if j.isNone then .ready else .done,pending:=j }))->∃v w',(Instr.endRound l j).run P w2= .ok v w'∧∃u,Ending.returned v= .returned u∧K u (hp w')∧Rest w w':=by
      intro j hk;refine ⟨.bool j.isNone,{ w2 with heap:=w2.heap.setIfInBounds l (.loop { r' with state:=if j.isNone then .ready else .done,pending:=j }) },?_,_,rfl,?_,((hr1.trans hr2).trans hr3).trans (Zvu w2 l _ _ hl' rfl)⟩
      unfold Instr.endRound;simp only [Sem.run_bind,run_getLoop hl',Result.andThen_ok,Zbhg hl' rfl];rfl;rw [Zoa w2 l _ _ hl'];exact hk
    cases e<;>simp only [Zfr] at hq<;>simp only [roundPost]<;>first | exact hq.elim | exact fin _ hq
theorem Zbzv {P:Program} {n:Nat} {plan:Plan} {ws:World} {g:Operand} {ps:Array Tmp} {assign body:Code} {Q:Post} {ρ:Env} {D:List Deferred} {a:Act} {w:World}
    (hok:codeOk P n plan none (.rangeFunc g ps assign body)=true) (hf:Fits n D ρ a) (hmk:Marks D ws w) (h:Zc P plan (.rangeFunc g ps assign body) ρ (hp w) Q)
    (hA: ∀(l:Nat) {Q:Post} {ρ:Env} {D:List Deferred} {a:Act} {w:World} {ws:World},codeOk P n plan (some l) assign=true->Fits n D ρ a->Marks D ws w->Zc P plan assign ρ (hp w) Q->assign.wpIn (Fw (some l)) 0 P (Lift n ws w Q) a w)
    (hB: ∀(l:Nat) {Q:Post} {ρ:Env} {D:List Deferred} {a:Act} {w:World} {ws:World},codeOk P n plan (some l) body=true->Fits n D ρ a->Marks D ws w->Zc P plan body ρ (hp w) Q->body.wpIn (Fw (some l)) 0 P (Lift n ws w Q) a w):
    (Code.rangeFunc g ps assign body).wpIn (Fw none) 0 P (Lift n ws w Q) a w:=by
  simp only [codeOk,Option.isNone_none,Bool.true_and,Bool.and_eq_true] at hok;obtain ⟨⟨⟨hg,hps⟩,hokA⟩,hokB⟩:=hok;have he:a.eval g=ev ρ g:=Zxh hf g fun t ht=>by rw [ht] at hg;simpa [Zww] using hg
  simp only [Zc] at h;split at h
  case h_2=>exact h.elim
  rename_i f first caps hv
  obtain ⟨rfl,h⟩:=h;have hadd: ∀n0:Nat,n0=w.heap.size->hp w n0=none:=fun n0 e=>by subst e;exact Zbii w
  refine wpIn_rangeFunc fun fn _=>?_
  let lr:Loop:={ state:= .ready,pending:=none,fn,tmps:=a.tmps,params:=ps,assign,body,defers:=w.heap.size }
  let w1:World:={ w with heap:=(w.heap.push (.deferred (some []))).push (.loop lr) }
  have hF:=h n w.heap.size (w.heap.size+1) lr (Zbii w) (by simp [hp]) (by omega) rfl rfl rfl rfl rfl (Zbnn hf) (fun vs H1 K hvl hr=>?_)
  . have hw1:hp w1=((hp w).upd w.heap.size (.deferred (some []))).upd (w.heap.size+1) (.loop lr):=by
      have e1:=Zbby w (.deferred (some []));have e2:=Zbby { w with heap:=w.heap.push (.deferred (some [])) } (.loop lr)
      rw [e1] at e2;have e3:(w.heap.push (Obj.deferred (some []))).size=w.heap.size+1:=by simp
      rw [← e3];exact e2
    have hr1:Rest w w1:=(Zbfz w (.deferred (some []))).trans (Zbfz { w with heap:=w.heap.push (.deferred (some [])) } (.loop lr))
    refine ⟨w.heap.size+1,[{ target:= .collected w.heap.size,args:=#[] }],w1,{ target:= .fn (.func f) caps,args:=#[.func (.yield (w.heap.size+1)) #[] #[]] },w1,f,#[.func (.yield (w.heap.size+1)) #[] #[]]++caps,w1,?_,?_,fun _ _=>trivial,?_,fun h=>(by cases h),?_⟩
    simp [Instr.enterLoop,newObj,Sem.run_bind,Sem.run,Fw,Fence.wide,w1,lr,Result.andThen];exact ⟨rfl,rfl,rfl⟩
    . have:resolve a.eval (rangeCall g (w.heap.size+1)) 0=(pure { target:= .fn (.func f) caps,args:=#[.func (.yield (w.heap.size+1)) #[] #[]] }:Sem Deferred):=by unfold resolve rangeCall;simp only [he,hv,Deferred.ofValue];simp [Act.eval]
      rw [this];rfl
    . obtain ⟨fn',hf',hn',hb'⟩:=hF.1;have:(callFunc f (#[.func (.yield (w.heap.size+1)) #[] #[]]++caps)).run P w1= .ok (.enter f (#[.func (.yield (w.heap.size+1)) #[] #[]]++caps)) w1:=by
        have h1:fn'.name≠ "runtime.NumGoroutine" :=by simpa using hn'
        cases hbb:fn'.body with
        | none=>rw [hbb] at hb';cases hb'
        | some c0=>simp [callFunc,hf',h1,hbb,mark,program,Sem.run_bind,Sem.run]
      exact this
    . refine (Zbat none (hF.2 w1 hw1)).mono ?_;rintro e w3 ⟨v,rfl,hE,hr3⟩;obtain ⟨r,hl,hst,hq⟩:=hE;have hl:w3.heap[w.heap.size+1]? =some (.loop r):=hl;obtain ⟨w4,hw4⟩: ∃w4:World,w4= { w3 with heap:=w3.heap.setIfInBounds (w.heap.size+1) (.loop { r with state:= .exhausted }) }:=⟨_,rfl⟩;have hr4:Rest w3 w4:=by rw [hw4];exact Zvu w3 (w.heap.size+1) (.loop { r with state:= .exhausted }) _ hl rfl
      have hall:=(hr1.trans hr3).trans hr4;refine ⟨r.pending,w4,?_,?_⟩
      . unfold Instr.endLoop;have hb:(r.state== .busy)=false:=by cases hs:r.state<;>first | rfl | exact absurd hs hst
        simp only [Sem.run_bind,run_getLoop hl,Result.andThen_ok,hb,Bool.false_eq_true,if_false,Sem.run_pure,Zbhg hl rfl,hw4]
      . rw [← Zoa w3 _ _ _ hl,← hw4] at hq;have hm2:Marks ([{ target:= .collected w.heap.size,args:=#[] }]++D) ws w4:=by
          obtain ⟨h0,rs,h1,h2,h3⟩:=hmk;refine ⟨Nat.le_trans h0 hall.size,w.heap.size::rs,by rw [h1];rfl,List.nodup_cons.2 ⟨fun hc=>?_,h2⟩,fun x hx=>?_⟩
          have:=(h3 _ hc).2;simp at this
          . rcases List.mem_cons.1 hx with rfl | hx
            . refine ⟨by simp;omega,(hr3.trans hr4).dfr _ _ ?_⟩
              show ((w.heap.push (Obj.deferred (some []))).push (.loop lr))[w.heap.size]? =_;rw [Array.getElem?_push,if_neg (by simp),Array.getElem?_push,if_pos rfl]
            exact ⟨(h3 x hx).1,hall.dfr _ _ (h3 x hx).2⟩
        have hf2:Fits n ([{ target:= .collected w.heap.size,args:=#[] }]++D) ρ { a with defers:=[{ target:= .collected w.heap.size,args:=#[] }]++a.defers }:=⟨hf.size,hf.tmp,by rw [hf.defers]⟩
        split at hq;rename_i hp0;rw [hp0];exact ⟨ρ,_,hf2,hq,hall,hm2⟩;rename_i hp0;rw [hp0];exact wpIn_ret ⟨ρ,_,hf2,hq,hall,hm2⟩;rename_i hp0;rw [hp0];exact wpIn_exit ⟨ρ,_,hf2,hq,hall,hm2⟩;rename_i hp0;rw [hp0];exact wpIn_goto ⟨ρ,_,hf2,hq,hall,hm2⟩;exact hq.elim
  exact Zcqs (n:=n) (Zbrk ps.toList vs hps (Zbnn hf)) (fun {ρ D a ws w' Q} hf hm h=>hA (w.heap.size+1) (by rw [Zjl _ 0];exact hokA) hf hm h) (fun {ρ D a ws w' Q} hf hm h=>hB (w.heap.size+1) (by rw [Zjl _ 0];exact hokB) hf hm h) hr
mutual
theorem Zgw {P:Program} (hm:P.follows .mixedOrders=true) {plan:Plan} {n:Nat}: ∀(r:Option Nat) (c:Code) {Q:Post} {ρ:Env} {D:List Deferred} {a:Act} {ws w:World},
    codeOk P n plan r c=true->Fits n D ρ a->Marks D ws w->Zc P plan c ρ (hp w) Q->c.wpIn (Fw r) 0 P (Lift n ws w Q) a w
  | r,.skip,Q,ρ,D,a,ws,w,_,hf,hmk,h=>by simp only [Zc] at h;exact wpIn_skip ⟨ρ,D,hf,h,.refl w,hmk⟩
  | r,.label _,Q,ρ,D,a,ws,w,_,hf,hmk,h=>by simp only [Zc] at h;exact wpIn_label ⟨ρ,D,hf,h,.refl w,hmk⟩
  | r,.region id ops draw,Q,ρ,D,a,ws,w,hok,hf,hmk,h=>Zcsu hm hok hf hmk h
  | r,.seq x y,Q,ρ,D,a,ws,w,hok,hf,hmk,h=>by
    simp only [codeOk,Bool.and_eq_true] at hok;simp only [Zc] at h;refine wpIn_seq (wpIn_mono (Zgw hm r x hok.1 hf hmk h) fun e a' w' hq=>?_);obtain ⟨ρ',D',hf',hq,hr,hmk'⟩:=hq;cases e with
    | normal=>exact wpIn_mono (Zgw hm r y hok.2 hf' hmk' hq) fun e a'' w'' ⟨ρ'',D'',hf'',hq'',hr'',hmk''⟩=>⟨ρ'',D'',hf'',hq'',hr.trans hr'',hmk''⟩
    | _=>exact ⟨ρ',D',hf',hq,hr,hmk'⟩
  | r,.cond c x y,Q,ρ,D,a,ws,w,hok,hf,hmk,h=>by
    simp only [codeOk,Bool.and_eq_true] at hok;have he:a.eval c=ev ρ c:=Zxh hf c fun t ht=>by have:=hok.1.1;rw [ht] at this;simpa [Zww] using this
    simp only [Zc] at h;split at h;rename_i t ht;rw [ht] at he;rcases IfB.elim h with ⟨rfl,h⟩ | ⟨rfl,h⟩;exact wpIn_cond_true he (Zgw hm r x hok.1.2 hf hmk h);exact wpIn_cond_false he (Zgw hm r y hok.2 hf hmk h)
    . exact h.elim
  | r,.block id c,Q,ρ,D,a,ws,w,hok,hf,hmk,h=>by
    simp only [codeOk] at hok;simp only [Zc] at h;refine wpIn_block (wpIn_mono (Zgw hm r c hok hf hmk h) fun e a' w' hq=>?_);obtain ⟨ρ',D',hf',hq,hr,hmk'⟩:=hq;cases e with
    | exit i=>
      simp only [Zlj] at hq;simp only [Exit.inBlock];cases hb:Nat.beq i id with
      | true=>
        rw [hb] at hq;rw [if_pos (Nat.eq_of_beq_eq_true hb)];exact ⟨ρ',D',hf',hq,hr,hmk'⟩
      | false=>
        rw [hb] at hq;rw [if_neg (fun e=>by subst e;rw [Nat.beq_refl] at hb;cases hb)]
        exact ⟨ρ',D',hf',hq,hr,hmk'⟩
    | _=>exact ⟨ρ',D',hf',hq,hr,hmk'⟩
  | r,.loop c,Q,ρ,D,a,ws,w,hok,hf,hmk,h=>by
    simp only [codeOk,Bool.and_eq_true] at hok;obtain ⟨hok,hfix⟩:=hok;simp only [Zc] at h;cases hu:Zgj (Zef c) plan.unr with
    | some m=>
      simp only [hu] at h;refine wpIn_loop' (fun m a1 w1=>∃ρ D,Fits n D ρ a1∧Marks D ws w1∧Rest w w1∧Zfw (fun ρ H Q=>Zc P plan c ρ H Q) m ρ (hp w1) Q) (fun m a1 w1 hI=>?_) ⟨ρ,D,hf,hmk,.refl w,h⟩;obtain ⟨ρ1,D1,hf1,hmk1,hr1,h1⟩:=hI;cases m with
      | zero=>exact h1.elim
      | succ m=>
        refine wpIn_mono (Zgw hm r c hok hf1 hmk1 h1) fun e a2 w2 hq=>?_;obtain ⟨ρ2,D2,hf2,hq,hr2,hmk2⟩:=hq;cases e<;>simp only [Zcj,Zgu] at hq<;>simp only [Exit.then]
        case normal=>exact ⟨m,Nat.lt_succ_self m,ρ2,D2,hf2,hmk2,hr1.trans hr2,hq⟩
        all_goals exact ⟨ρ2,D2,hf2,hq,hr1.trans hr2,hmk2⟩
    | none=>
    simp only [hu] at h hfix;obtain ⟨J,⟨k,h0⟩,hJ⟩:=Zbfv (fun hq=>Zc.mono c hq) (fun f hf' {Q} ρ H h=>Zc.keeps c (by
      split at hf';rename_i hl';rw [hl'] at hfix;exact List.all_eq_true.1 hfix f (Zca.1 hf')
      . cases hf') ρ H h) h
    refine wpIn_loop' (fun k a' w'=>∃ρ' D',Fits n D' ρ' a'∧J k ρ' (hp w')∧Rest w w'∧Marks D' ws w') (fun k a' w' hI=>?_) ⟨ρ,D,hf,h0,.refl w,hmk⟩;obtain ⟨ρ',D',hf',hI,hr,hmk'⟩:=hI;refine wpIn_mono (Zgw hm r c hok hf' hmk' (hJ k ρ' _ hI)) fun e a'' w'' hq=>?_;obtain ⟨ρ'',D'',hf'',hq,hr'',hmk''⟩:=hq;unfold Zcj at hq;cases e<;>simp only [Zgu] at hq<;>simp only [Exit.then]
    case normal=>
      obtain ⟨k',hlt,hI'⟩:=hq;exact ⟨k',hlt,ρ'',D'',hf'',hI',hr.trans hr'',hmk''⟩
    all_goals exact ⟨ρ'',D'',hf'',hq,hr.trans hr'',hmk''⟩
  | some l0,.scope c,Q,ρ,D,a,ws,w,hok,hf,hmk,h=>by simp only [codeOk,Option.isNone_some,Bool.false_and] at hok;cases hok
  | none,.scope c,Q,ρ,D,a,ws,w,hok,hf,hmk,h=>by
    simp only [codeOk,Option.isNone_none,Bool.true_and,Bool.and_eq_true] at hok;obtain ⟨hok,hfix⟩:=hok;refine (wpIn_wide (n:=0)).2 ?_;intro b kk cs
    let Ft:Env->Act->World->Prop:=fun ρ' a1 w1=>∃D',Fits n D' ρ' a1∧Marks D' ws w1
    have mk: ∀{e:Exit} {ρ':Env} {a1:Act} {w1:World},Ft ρ' a1 w1->Q e ρ' (hp w1)->Rest w w1->Lift n ws w Q e a1 w1:=fun {e ρ' a1 w1} ⟨D',h1,h2⟩ h3 h4=>⟨ρ',D',h1,h3,h4,h2⟩
    let Fin:Exit->Act->World->Prop:=fun e a1 w1=>∀X,Arrives P X b (.inScope c::kk) cs e a1 w1->∃e' a' w',Lift n ws w Q e' a' w'∧Arrives P X b kk cs e' a' w'
    have out: ∀(e:Exit) ρ' a1 w1,(∀l,e= .goto l->Zdu c l=false)->Ft ρ' a1 w1->Rest w w1->Q e ρ' (hp w1)->Fin e a1 w1:=by
      intro e ρ' a1 w1 hl hf1 hr hq X hX;cases e with
      | normal=>exact ⟨.normal,a1,w1,mk hf1 hq hr,Steps.trans hX (.one step_inScope)⟩
      | exit id=>exact ⟨.exit id,a1,w1,mk hf1 hq hr,fun k' hk=>hX k' (by simp [exitTo,hk])⟩
      | goto l=>
        refine ⟨.goto l,a1,w1,mk hf1 hq hr,fun k' hk=>hX k' ?_⟩;have:findLabel c l=none:=by
          have:=hl l rfl;rw [Zwk] at this;cases hfl:findLabel c l with
          | none=>rfl
          | some _=>rw [hfl] at this;cases this
        simp [gotoIn,this,hk]
      | ret=>exact ⟨_,a1,w1,mk hf1 hq hr,hX⟩
      | panic ch=>exact ⟨_,a1,w1,mk hf1 hq hr,hX⟩
      | outgrown=>exact ⟨_,a1,w1,mk hf1 hq hr,hX⟩
    have jump: ∀(l:Nat) (Q':Post) ρ' a1 w1,Ft ρ' a1 w1->Rest w w1->Zi P plan c l ρ' (hp w1) Q'->(∀e ρ'' a2 w2,Ft ρ'' a2 w2->Rest w w2->Q' e ρ'' (hp w2)->Fin e a2 w2)->Fin (.goto l) a1 w1:=by
      intro l Q' ρ' a1 w1 hf1 hr h1 hfin X hX;obtain ⟨D1,hf1,hm1⟩:=hf1;obtain ⟨rest,hrest,hwp⟩:=Zbgz hm c l hok hf1 hm1 h1;have hwp:=(wpIn_wide (n:=0)).1 hwp;have hX:=hX (.code rest:: .inScope c::kk) (by simp [gotoIn,hrest])
      obtain ⟨e2,a2,w2,⟨ρ2,D2,hf2,hq2,hr2,hm2⟩,harr⟩:=hwp b (.inScope c::kk) cs;exact hfin e2 ρ2 a2 w2 ⟨D2,hf2,hm2⟩ (hr.trans hr2) hq2 X (.of_steps hX harr)
    have gfin: ∀(L:Nat->Bool) (Q0:Post),(∀(e:Exit) ρ' a1 w1,(∀l,e= .goto l->L l=false)->Ft ρ' a1 w1->Rest w w1->Q0 e ρ' (hp w1)->Fin e a1 w1)->
        ∀m (e:Exit) ρ' a1 w1,Ft ρ' a1 w1->Rest w w1->Zbe (fun l ρ H Q=>Zi P plan c l ρ H Q) L m Q0 e ρ' (hp w1)->Fin e a1 w1:=by
      intro L Q0 h0 m;induction m with
      | zero=>
        intro e ρ' a1 w1 hf1 hr h1;rcases Zjg e with ⟨l,rfl⟩ | he
        . cases hl:L l with
          | true=>rw [Zbbb hl] at h1;exact h1.elim
          | false=>rw [Zje hl] at h1;exact h0 _ _ _ _ (fun l' e=>by cases e;exact hl) hf1 hr h1
        . rw [Zjq he] at h1;exact h0 _ _ _ _ (fun l e=>absurd e (he l)) hf1 hr h1
      | succ m ih=>
        intro e ρ' a1 w1 hf1 hr h1;rcases Zjg e with ⟨l,rfl⟩ | he
        . cases hl:L l with
          | true=>rw [Zti hl] at h1;exact jump l _ ρ' a1 w1 hf1 hr h1 ih
          | false=>rw [Zje hl] at h1;exact h0 _ _ _ _ (fun l' e=>by cases e;exact hl) hf1 hr h1
        rw [Zjq he] at h1;exact h0 _ _ _ _ (fun l e=>absurd e (he l)) hf1 hr h1
    have close: ∀(Q2:Post),(∀e ρ' a1 w1,Ft ρ' a1 w1->Rest w w1->Q2 e ρ' (hp w1)->Fin e a1 w1)->Zc P plan c ρ (hp w) Q2->∃e a' w',Lift n ws w Q e a' w'∧Arrives P (lone (b.at a (.code (.scope c)::kk)) cs w) b kk cs e a' w':=by intro Q2 h2 hc;obtain ⟨e,a1,w1,⟨ρ1,D1,hf1,hq1,hr1,hm1⟩,harr⟩:=(wpIn_wide (n:=0)).1 (Zgw hm none c hok hf hmk hc) b (.inScope c::kk) cs;exact h2 e ρ1 a1 w1 ⟨D1,hf1,hm1⟩ hr1 hq1 _ (.of_steps (.one step_scope) harr)
    simp only [Zc] at h;split at h;exact close _ (fun e ρ' a1 w1=>gfin (Zdu c) Q out _ e ρ' a1 w1) h
    . rename_i l hl;rw [hl] at hfix;simp only [Bool.and_eq_true] at hfix;obtain ⟨hlab,hfix⟩:=hfix;have hfix: ∀f,(match Zgd (Zej l) plan.loops with | some (_,_,fixed)=>memB f fixed | none=>false)=true->Zil plan f c=true:=by intro f hf';split at hf';rename_i hl';rw [hl'] at hfix;exact List.all_eq_true.1 hfix f (Zca.1 hf');cases hf'
      have base: ∀(J:Env->Heap->Prop),(∀ρ' a1 w1,Ft ρ' a1 w1->Rest w w1->J ρ' (hp w1)->Fin (.goto l) a1 w1)->∀(e:Exit) ρ' a1 w1,(∀l',e= .goto l'->others c l l'=false)->Ft ρ' a1 w1->Rest w w1->Zcj (Zed l) J Q e ρ' (hp w1)->Fin e a1 w1:=by
        intro J hJ e ρ' a1 w1 he hf1 hr h1;unfold Zcj at h1;split at h1
        . rename_i hg;have:e= .goto l:=by
            cases e<;>simp only [Zed] at hg<;>first | (cases hg;done) | (rw [Nat.eq_of_beq_eq_true hg])
          subst this;exact hJ ρ' a1 w1 hf1 hr h1
        rename_i hg;refine out e ρ' a1 w1 (fun l' e'=>?_) hf1 hr h1;subst e';simp only [Zed] at hg;have:=he l' rfl;simpa [others,hg] using this
      have gk:=fun (l:Nat) {Q Q':Post} (hq: ∀e ρ H,Q e ρ H->Q' e ρ H)=>Zi.mono (P:=P) (plan:=plan) c l hq;have head: ∀ρ' a1 w1,Ft ρ' a1 w1->Rest w w1->Zcm plan (Zej l) (fun ρ H Q=>Zi P plan c l ρ H (Zbe (fun l ρ H Q=>Zi P plan c l ρ H Q) (others c l) (nLbl c) Q)) (Zed l) ρ' (hp w1) Q->
          ∃J:Nat->Env->Heap->Prop,(∃k,J k ρ' (hp w1))∧(∀k ρ'' H'',J k ρ'' H''->Zi P plan c l ρ'' H'' (Zbe (fun l ρ H Q=>Zi P plan c l ρ H Q) (others c l) (nLbl c) (Zcj (Zed l) (fun ρ3 H3=>∃k',k'<k∧J k' ρ3 H3) Q)))∧
            ∀k ρ'' a2 w2,Ft ρ'' a2 w2->Rest w w2->J k ρ'' (hp w2)->Fin (.goto l) a2 w2:=by
        intro ρ' a1 w1 hf1 hr h1;obtain ⟨J,h0,hJ⟩:=Zbfv (fun hq=>Zi.mono c l (Zbe.mono gk _ hq)) (fun f hf' {Q} ρ H h=>Zi.mono c l (fun e ρ' H' h=>Zbe.keeps (v:=ρ f) (fun l _ ρ H h=>Zi.keeps c l (hfix f hf') ρ H h) gk (nLbl c) e ρ' H' h.1 h.2) ρ H (Zi.keeps c l (hfix f hf') ρ H h)) h1;refine ⟨J,h0,hJ,fun k=>?_⟩;induction k using Nat.strongRecOn with
        | _ k ih=>
          intro ρ'' a2 w2 hf2 hr2 hJ2;refine jump l _ ρ'' a2 w2 hf2 hr2 (hJ k ρ'' _ hJ2) fun e ρ3 a3 w3 hf3 hr3 h3=>?_;refine gfin (others c l) _ (base _ fun ρ4 a4 w4 hf4 hr4 h4=>?_) _ e ρ3 a3 w3 hf3 hr3 h3;obtain ⟨k',hlt,h4⟩:=h4;exact ih k' hlt ρ4 a4 w4 hf4 hr4 h4
      have headF: ∀ρ' a1 w1,Ft ρ' a1 w1->Rest w w1->Zcm plan (Zej l) (fun ρ H Q=>Zi P plan c l ρ H (Zbe (fun l ρ H Q=>Zi P plan c l ρ H Q) (others c l) (nLbl c) Q)) (Zed l) ρ' (hp w1) Q->Fin (.goto l) a1 w1:=by intro ρ' a1 w1 hf1 hr h1;obtain ⟨J,⟨k,h0⟩,_,hJ⟩:=head ρ' a1 w1 hf1 hr h1;exact hJ k ρ' a1 w1 hf1 hr h0
      refine close (fun e ρ' H'=>∀a1 w1,H'=hp w1->Ft ρ' a1 w1->Rest w w1->Fin e a1 w1) (fun e ρ' a1 w1 hf1 hr h1=>h1 a1 w1 rfl hf1 hr) ?_;refine Zbel c l (fun e ρ' H' he h1 a1 w1 hH hf1 hr=>?_) ρ (hp w) h (fun ρ' H' h1=>?_)
      . subst hH;have hn:Zgu e=false:=by cases e<;>first | rfl | exact absurd rfl he
        rw [Zbgd hn] at h1;exact gfin (others c l) _ (base _ headF) _ e ρ' a1 w1 hf1 hr h1
      ·
        have h1:Zcm plan (Zej l) (fun ρ H Q=>Zi P plan c l ρ H (Zbe (fun l ρ H Q=>Zi P plan c l ρ H Q) (others c l) (nLbl c) Q)) (Zed l) ρ' H' Q:=h1;obtain ⟨J,⟨k,h0⟩,hJ⟩:=Zbfv (fun hq=>Zi.mono c l (Zbe.mono gk _ hq)) (fun f hf' {Q} ρ H h=>Zi.mono c l (fun e ρ' H' h=>Zbe.keeps (v:=ρ f) (fun l _ ρ H h=>Zi.keeps c l (hfix f hf') ρ H h) gk (nLbl c) e ρ' H' h.1 h.2) ρ H (Zi.keeps c l (hfix f hf') ρ H h)) h1;have hJF: ∀k ρ'' a2 w2,Ft ρ'' a2 w2->Rest w w2->J k ρ'' (hp w2)->Fin (.goto l) a2 w2:=by
          intro k;induction k using Nat.strongRecOn with
          | _ k ih=>
            intro ρ'' a2 w2 hf2 hr2 hJ2;refine jump l _ ρ'' a2 w2 hf2 hr2 (hJ k ρ'' _ hJ2) fun e ρ3 a3 w3 hf3 hr3 h3=>?_;refine gfin (others c l) _ (base _ fun ρ4 a4 w4 hf4 hr4 h4=>?_) _ e ρ3 a3 w3 hf3 hr3 h3;obtain ⟨k',hlt,h4⟩:=h4;exact ih k' hlt ρ4 a4 w4 hf4 hr4 h4
        refine Zi.mono c l (fun e ρ'' H'' h2 a2 w2 hH hf2 hr2=>?_) ρ' H' (hJ k ρ' H' h0);subst hH;exact gfin (others c l) _ (base _ fun ρ4 a4 w4 hf4 hr4 ⟨k',_,h4⟩=>hJF k' ρ4 a4 w4 hf4 hr4 h4) _ e ρ'' a2 w2 hf2 hr2 h2
  | r,.exit id,Q,ρ,D,a,ws,w,_,hf,hmk,h=>by simp only [Zc] at h;exact wpIn_exit ⟨ρ,D,hf,h,.refl w,hmk⟩
  | r,.ret,Q,ρ,D,a,ws,w,_,hf,hmk,h=>by simp only [Zc] at h;exact wpIn_ret ⟨ρ,D,hf,h,.refl w,hmk⟩
  | some l0,.rangeFunc g ps assign body,Q,ρ,D,a,ws,w,hok,hf,hmk,h=>by simp only [codeOk,Option.isNone_some,Bool.false_and] at hok;cases hok
  | none,.rangeFunc g ps assign body,Q,ρ,D,a,ws,w,hok,hf,hmk,h=>Zbzv hok hf hmk h (fun l {Q ρ D a w ws} hA hF hM hW=>Zgw hm (some l) assign hA hF hM hW) (fun l {Q ρ D a w ws} hB hF hM hW=>Zgw hm (some l) body hB hF hM hW)
  | r,.goto l,Q,ρ,D,a,ws,w,_,hf,hmk,h=>by simp only [Zc] at h;exact wpIn_goto ⟨ρ,D,hf,h,.refl w,hmk⟩
  | r,.refuse _,_,_,_,_,_,_,_,_,_,h=>by simp only [Zc] at h
theorem Zbgz {P:Program} (hm:P.follows .mixedOrders=true) {plan:Plan} {n:Nat}: ∀(c:Code) (l:Nat) {Q:Post} {ρ:Env} {D:List Deferred} {a:Act} {ws w:World},
    codeOk P n plan none c=true->Fits n D ρ a->Marks D ws w->Zi P plan c l ρ (hp w) Q->∃rest,findLabel c l=some rest∧rest.wpIn (Fw none) 0 P (Lift n ws w Q) a w
  | .seq x y,l,Q,ρ,D,a,ws,w,hok,hf,hmk,h=>by
    simp only [codeOk,Bool.and_eq_true] at hok;simp only [Zi] at h;split at h
    . obtain ⟨rest,hr,hwp⟩:=Zbgz hm x l hok.1 hf hmk h;refine ⟨.seq rest y,by simp [findLabel,hr],wpIn_seq (wpIn_mono hwp fun e a' w' hq=>?_)⟩
      obtain ⟨ρ',D',hf',hq,hr,hmk'⟩:=hq;cases e with
      | normal=>exact wpIn_mono (Zgw hm none y hok.2 hf' hmk' hq) fun e a'' w'' ⟨ρ'',D'',hf'',hq'',hr'',hmk''⟩=>⟨ρ'',D'',hf'',hq'',hr.trans hr'',hmk''⟩
      | _=>exact ⟨ρ',D',hf',hq,hr,hmk'⟩
    . rename_i hl;obtain ⟨rest,hr,hwp⟩:=Zbgz hm y l hok.2 hf hmk h;have:findLabel x l=none:=by
        rw [Zwk] at hl;cases hfl:findLabel x l with
        | none=>rfl
        | some _=>rw [hfl] at hl;cases hl
      exact ⟨rest,by simp [findLabel,this,hr],hwp⟩
  | .label l',l,Q,ρ,D,a,ws,w,_,hf,hmk,h=>by
    simp only [Zi] at h;split at h;rename_i hl;exact ⟨.skip,by simp [findLabel,Nat.eq_of_beq_eq_true hl],wpIn_skip ⟨ρ,D,hf,h,.refl w,hmk⟩⟩
    . exact h.elim
  | .skip,_,_,_,_,_,_,_,_,_,_,h=>by simp only [Zi] at h
  | .region ..,_,_,_,_,_,_,_,_,_,_,h=>by simp only [Zi] at h
  | .cond ..,_,_,_,_,_,_,_,_,_,_,h=>by simp only [Zi] at h
  | .block ..,_,_,_,_,_,_,_,_,_,_,h=>by simp only [Zi] at h
  | .loop ..,_,_,_,_,_,_,_,_,_,_,h=>by simp only [Zi] at h
  | .rangeFunc ..,_,_,_,_,_,_,_,_,_,_,h=>by simp only [Zi] at h
  | .exit ..,_,_,_,_,_,_,_,_,_,_,h=>by simp only [Zi] at h
  | .scope ..,_,_,_,_,_,_,_,_,_,_,h=>by simp only [Zi] at h
  | .goto ..,_,_,_,_,_,_,_,_,_,_,h=>by simp only [Zi] at h
  | .ret,_,_,_,_,_,_,_,_,_,_,h=>by simp only [Zi] at h
  | .refuse ..,_,_,_,_,_,_,_,_,_,_,h=>by simp only [Zi] at h
end
def ResW (P:Program) (ρ:Env) (H:Heap):List ResultVar->List Value->(Value->Prop)->Prop
  | [],acc,R=>R (match acc with | [v]=>v | vs=> .tuple ⟨vs⟩)
  | .tmp t::rs,acc,R=>ResW P ρ H rs (acc++[ρ t]) R
  | .cell a t::rs,acc,R=>Zbh P t (ρ a) H fun v _=>ResW P ρ H rs (acc++[v]) R
def RetW (P:Program) (rs:List ResultVar) (R:Value->Heap->Prop):Post:=fun e ρ H=>match e with
  | .normal=>ResW P ρ H rs [] fun v=>R v H
  | .ret=>ResW P ρ H rs [] fun v=>R v H
  | _=>False
theorem run_loadCellsFrom {P:Program} {w:World} {a:Addr}: ∀(n i:Nat) (acc:Array Value) (vs:List Value),vs.length=n->
    (∀j,j<vs.length->w.cell? (a.add (i+j))=vs[j]?)->(loadCellsFrom a i n acc).run P w= .ok ⟨acc.toList++vs⟩ w:=by
  intro n;induction n with
  | zero=>
    intro i acc vs hl _;obtain rfl:vs= []:=by simpa using hl
    simp [loadCellsFrom]
  | succ n ih=>
    intro i acc vs hl hc;cases vs with
    | nil=>simp at hl
    | cons v vs=>
      have h0:=hc 0 (by simp)
      simp only [Nat.add_zero,List.getElem?_cons_zero] at h0;have hr:(load (a.add i)).run P w= .ok v w:=by simp [load,Sem.run,h0]
      have:=ih (i+1) (acc.push v) vs (by simpa using hl) (fun j hj=>by
        have:=hc (j+1) (by simpa using hj)
        simpa [Nat.add_assoc,Nat.add_comm 1 j] using this)
      simp only [loadCellsFrom,Sem.run_bind,hr,Result.andThen_ok,this];simp
theorem Zbli {P:Program} {t:TypeId} {b:Bool} (w:World) (h:Zdp P t=some b):(isAgg t).run P w= .ok b w:=by
  unfold Zdp at h;cases hu:P.underlying t with
  | none=>rw [hu] at h;cases h
  | some d=>
    rw [hu] at h;unfold isAgg;rw [Sem.run_bind,run_underlying hu];cases d<;>simp at h<;>subst h<;>rfl
theorem Zcpy {P:Program} {t:TypeId} {i:TypeInfo} (w:World) (h:P.info? t=some i):(sizeOf t).run P w= .ok i.size w:=by simp [sizeOf,typeInfo,h]
theorem Zbh.run {P:Program} {t:TypeId} {v:Value} {w:World} {K:Value->Heap->Prop} (h:Zbh P t v (hp w) K): ∃a x,v= .pointer (some a)∧(loadVar t a).run P w= .ok x w∧K x (hp w):=by
  unfold Zbh at h;split at h
  . rename_i a;refine ⟨a,?_⟩;split at h;rename_i hb;obtain ⟨v,hv,hk⟩:=Zco.elim h;rw [Zmf] at hv;refine ⟨v,rfl,?_,hk⟩;unfold loadVar;rw [Sem.run_bind,Zbli w hb];simp [load,Sem.run,hv]
    . rename_i hb;obtain ⟨i,hi⟩:=Zbon hb;have hs:P.cellsOf t=i.size:=by simp [Program.cellsOf,hi]
      rw [hs] at h;have key: ∃cs:List Value,cs.length=i.size∧(∀j,j<cs.length->(hp w).cell (a.add j)=cs[j]?)∧K (.agg ⟨cs⟩) (hp w):=by
        split at h
        . rename_i hc;obtain ⟨vs,hl,hcs,hk⟩:=Zgr.elim _ _ _ h;refine ⟨vs,?_,fun j hj=>by simpa using hcs j hj,by simpa using hk⟩
          rw [hl];simp only [Bool.and_eq_true] at hc;exact Nat.eq_of_beq_eq_true hc.2
        exact h
      obtain ⟨cs,hl,hc,hk⟩:=key;refine ⟨.agg ⟨cs⟩,rfl,?_,hk⟩;unfold loadVar;rw [Sem.run_bind,Zbli w hb];have:=run_loadCellsFrom (P:=P) (w:=w) (a:=a) i.size 0 #[] cs hl (fun j hj=>by have:=hc j hj;rw [Zmf] at this;simpa using this)
      simp only [Result.andThen_ok,if_true,Sem.run_bind,Zcpy w hi,loadCells,this];simp
    exact h.elim
  exact h.elim
def Zbay (tmps:Array Value) (r:ResultVar):Sem Value:=match r with
  | .tmp t=>pure (tmps.getD t undef)
  | .cell b t=>do loadVar t (← asAddr (tmps.getD b undef))
theorem Zcef (fn:Func) (tmps:Array Value):results fn tmps=(do let vs ← fn.results.mapM (Zbay tmps);pure (if h:vs.size=1 then vs[0] else .tuple vs)):=rfl
theorem Zcdd {D:List Deferred} {P:Program} {fn:Func} {n:Nat} {ρ:Env} {a:Act} {w:World} {R:Value->Prop} (hf:Fits n D ρ a)
    (hin:fn.results.toList.all (fun r=>match r with | .tmp t=>Nat.blt t n | .cell t _=>Nat.blt t n)=true) (h:ResW P ρ (hp w) fn.results.toList [] R):
    ∃v,(results fn a.tmps).run P w= .ok v w∧R v:=by
  have key: ∀(rs:List ResultVar) (acc:List Value),rs.all (fun r=>match r with | .tmp t=>Nat.blt t n | .cell t _=>Nat.blt t n)=true->ResW P ρ (hp w) rs acc R->
      ∃vs,(rs.mapM (Zbay a.tmps)).run P w= .ok vs w∧R (match acc++vs with | [v]=>v | vs=> .tuple ⟨vs⟩):=by
    intro rs;induction rs with
    | nil=>intro acc _ h;exact ⟨[],by simp,by rw [List.append_nil];exact h⟩
    | cons r rs ih=>
      intro acc hin h;simp only [List.all_cons,Bool.and_eq_true] at hin;cases r with
      | tmp t=>
        obtain ⟨vs,hvs,hR⟩:=ih _ hin.2 h;have ht:t<n:=by simpa using hin.1
        refine ⟨ρ t::vs,?_,by simpa using hR⟩
        rw [List.mapM_cons,Sem.run_bind];simp only [Zbay,hf.tmp t ht,Sem.run_pure,Result.andThen_ok,Sem.run_bind,hvs]
      | cell b t=>
        have hb:b<n:=by simpa using hin.1
        simp only [ResW] at h;obtain ⟨ad,x,hx,hr,hk⟩:=Zbh.run h;obtain ⟨vs,hvs,hR⟩:=ih _ hin.2 hk;refine ⟨x::vs,?_,by simpa using hR⟩
        rw [List.mapM_cons,Sem.run_bind];have:(do loadVar t (← asAddr (a.tmps.getD b undef)):Sem Value).run P w= .ok x w:=by rw [hf.tmp b hb,hx,Sem.run_bind];simp [asAddr,hr]
        change ((do loadVar t (← asAddr (a.tmps.getD b undef)):Sem Value).run P w).andThen _=_
        simp only [this,Result.andThen_ok,Sem.run_bind,hvs,Sem.run_pure]
  obtain ⟨vs,hvs,hR⟩:=key _ [] hin h;refine ⟨_,?_,hR⟩;rw [Zcef,Array.mapM_eq_mapM_toList];simp only [Sem.run_bind,map_eq_pure_bind,hvs,Result.andThen_ok,Sem.run_pure];congr 1;cases vs with
  | nil=>rfl
  | cons v vs=>
    cases vs with
    | nil=>rfl
    | cons=>rfl
def env0 (args:List Value):Env:=fun i=>args.getD i undef
structure Known (P:Program) (f:FuncId) (fn:Func) (plan:Plan) (c:Code):Prop where
  isF:P.funcs[f]? =some fn
  body:fn.body=some c
  name:(fn.name== "runtime.NumGoroutine")=false
  mixed:P.follows .mixedOrders=true
  ok:codeOk P fn.ntmps plan none c=true
  res:fn.results.toList.all (fun r=>match r with | .tmp t=>Nat.blt t fn.ntmps | .cell t _=>Nat.blt t fn.ntmps)=true
def Shut (H0 H H':Heap):Prop:=∀b:Nat,H' b=H b∨(H0 b=none∧H b=some (.deferred (some []))∧H' b=some (.deferred none))
theorem Shut.refl (H0 H:Heap):Shut H0 H H:=fun _=> .inl rfl
theorem Shut.cell {H0 H H':Heap} (h:Shut H0 H H') (a:Addr):H'.cell a=H.cell a:=by unfold Heap.cell;rcases h a.block with e | ⟨_,e1,e2⟩;rw [e];rw [e1,e2]
theorem Zbdr {P:Program} {ρ:Env} {H0 H H':Heap} (hs:Shut H0 H H') {R:Value->Prop}: ∀{rs:List ResultVar} {acc:List Value},ResW P ρ H rs acc R->ResW P ρ H' rs acc R
  | [],_,h=>h
  | .tmp t::rs,acc,h=>by simp only [ResW] at h ⊢;exact Zbdr hs h
  | .cell a t::rs,acc,h=>by simp only [ResW] at h ⊢;obtain ⟨v,hk,hl⟩:=Zbh.read h;exact hl H' _ (fun _ _ p _ v hv=>by rw [hs.cell];exact hv) (Zbdr hs hk)
theorem run_takeDeferred {P:Program} {w:World} {r:Nat} (h:w.heap[r]? =some (.deferred (some []))):(Instr.takeDeferred r).run P w= .ok [] { w with heap:=w.heap.setIfInBounds r (.deferred none) }:=by unfold Instr.takeDeferred;simp [Sem.run_bind,getObj,setObj,Sem.run,h]
theorem Zbta {P:Program} {fn:Func} {tmps:Array Value} {R:Ending->World->Prop} {ws:World}: ∀(rs:List Nat) (w:World),rs.Nodup->(∀r∈rs,ws.heap[r]? =none∧w.heap[r]? =some (.deferred (some [])))->
    (∀w',Shut (hp ws) (hp w) (hp w')->w'.os=w.os->w'.tape=w.tape->w'.output=w.output->w'.heap.size=w.heap.size->∃v,(results fn tmps).run P w'= .ok v w'∧R (.returned v) w')->
    LeavesInM Fence.wide 0 P fn tmps R (rs.map fun r=>{ target:= .collected r,args:=#[] }) .returning w
  | [],w,_,_,h=>h w (Shut.refl _ _) rfl rfl rfl rfl
  | r::rs,w,hn,hr,h=>by
    simp only [List.map_cons,LeavesInM];obtain ⟨h0,h1⟩:=hr r (by simp)
    refine ⟨(fun h=>by cases h),.inl ⟨r,_,rfl,run_takeDeferred h1,?_⟩⟩
    have hq:=Zoa w r (.deferred none) _ h1;refine Zbta rs _ (List.nodup_cons.1 hn).2 (fun x hx=>⟨(hr x (by simp [hx])).1,?_⟩) fun w' hs e1 e2 e3 e4=>h w' (fun b=>?_) e1 e2 e3 (by rw [e4];simp)
    have hne:r≠x:=fun e=>(List.nodup_cons.1 hn).1 (e▸hx);show (w.heap.setIfInBounds r (Obj.deferred none))[x]? =_;rw [Array.getElem?_setIfInBounds,if_neg hne];exact (hr x (by simp [hx])).2
    . by_cases e:b=r
      . subst e;have h2:(hp { w with heap:=w.heap.setIfInBounds b (.deferred none) }) b=some (.deferred none):=by rw [hq];simp [Heap.upd]
        rcases hs b with h3 | ⟨_,h3,_⟩;exact .inr ⟨h0,h1,h3.trans h2⟩;rw [h2] at h3;cases h3
      . have h2:(hp { w with heap:=w.heap.setIfInBounds r (.deferred none) }) b=hp w b:=by rw [hq];simp [Heap.upd,e]
        rcases hs b with h3 | ⟨h3,h4,h5⟩;exact .inl (h3.trans h2);exact .inr ⟨h3,h2▸h4,h5⟩
def Zcsm (n:Nat) (args:List Value) (ρ:Env):Prop:=∀t,t<n->ρ t=env0 args t
theorem FnW.of_env {P:Program} {f:FuncId} {fn:Func} {plan:Plan} {c:Code} (k:Known P f fn plan c) {args:List Value} (hlen:Nat.ble args.length fn.ntmps=true) {H:Heap} {ρ:Env} (hρ:Zcsm fn.ntmps args ρ) {R:Value->Heap->Prop}
    (h:Zc P plan c ρ H (RetW P fn.results.toList fun v H'=>∀H'',Shut H H' H''->R v H'')):FnW P f ⟨args⟩ H R:=by
  refine ⟨⟨fn,k.isF,k.name,by rw [k.body];rfl⟩,?_⟩
  rintro w rfl;have hlen':=Nat.le_of_ble_eq_true hlen;refine callsIn_wide.1 (callsIn_of_wp_marks (n:=0) k.isF k.body trivial ?_);have hf:Fits fn.ntmps [] ρ { tmps:=(⟨args⟩:Array Value)++Array.replicate (fn.ntmps - (⟨args⟩:Array Value).size) undef,defers:=[] }:=by
    refine ⟨by simp;omega,fun t ht=>?_,rfl⟩
    rw [hρ t ht];simp only [env0,Array.getD_eq_getD_getElem?,List.getD_eq_getElem?_getD];rw [Array.getElem?_append];by_cases hlt:t<args.length;simp [hlt]
    . rw [if_neg (by simpa using hlt)]
      have:args[t]? =none:=by simp;omega
      rw [this];simp only [Array.getElem?_replicate];split<;>rfl
  refine wpIn_mono (Zgw k.mixed none c k.ok hf (Marks.nil w) h) fun e a w' hq=>?_;obtain ⟨ρ',D,hf',hq,hr,h0,rs,rfl,hn,hm⟩:=hq;have fin:ResW P ρ' (hp w') fn.results.toList [] (fun v=>∀H'',Shut (hp w) (hp w') H''->R v H'')->LeavesInM Fence.wide 0 P fn a.tmps (fun e w'=>∃v,e= .returned v∧R v (hp w')∧Rest w w') a.defers .returning w':=fun hq=>by
    rw [hf'.defers];refine Zbta (ws:=w) rs w' hn hm fun w'' hs e1 e2 e3 e4=>?_;obtain ⟨v,hv,hR⟩:=Zcdd (w:=w'') hf' k.res (Zbdr hs hq);refine ⟨v,hv,v,rfl,hR _ hs,⟨e1.trans hr.os,e2.trans hr.tape,e3.trans hr.output,fun b ds hb=>?_,by rw [e4];exact hr.size⟩⟩
    have h1:=hr.dfr b ds hb;rcases hs b with h2 | ⟨h2,_,_⟩;have h2':w''.heap[b]? =w'.heap[b]? :=h2;rw [h2'];exact h1;have h2':w.heap[b]? =none:=h2;rw [h2'] at hb;cases hb
  cases e with
  | normal=>exact fin hq
  | ret=>exact fin hq
  | _=>exact hq.elim
theorem FnW.of_code {P:Program} {f:FuncId} {fn:Func} {plan:Plan} {c:Code} (k:Known P f fn plan c) {args:List Value} (hlen:Nat.ble args.length fn.ntmps=true) {H:Heap} {R:Value->Heap->Prop}
    (h:Zc P plan c (env0 args) H (RetW P fn.results.toList fun v H'=>∀H'',Shut H H' H''->R v H'')):FnW P f ⟨args⟩ H R:=FnW.of_env k hlen (fun _ _=>rfl) h
end Go.Sh
end
section
namespace Go.Sh
def NewW (H:Heap) (o:Obj) (k:Nat->Heap->Prop):Prop:=∀n,H n=none->k n (H.upd n o)
def Zft (k:IntKind) (x y:Int):Int:=k.wrap (BitVec.ofInt k.bits x&&& BitVec.ofInt k.bits y).toNat
def Zga (k:IntKind) (x y:Int):Int:=k.wrap (BitVec.ofInt k.bits x||| BitVec.ofInt k.bits y).toNat
def Zbxb (k:IntKind) (x y:Int):Int:=k.wrap (BitVec.ofInt k.bits x^^^BitVec.ofInt k.bits y).toNat
def Znz (k:IntKind) (x y:Int):Int:=k.wrap (BitVec.ofInt k.bits x&&& ~~~(BitVec.ofInt k.bits y)).toNat
end Go.Sh
end
section
namespace Go.Sh
@[simp] theorem Zcvr {X Y:Prop}:IfB true X Y=X:=rfl
@[simp] theorem Zcvs {X Y:Prop}:IfB false X Y=Y:=rfl
@[simp] theorem Zth {a:Addr} {k:Addr->Prop}:NilP (some a) k=k a:=rfl
@[simp] theorem Zez {b o m s:Nat} {k:Addr->Prop}:elemAt ⟨b,o,none⟩ m s k=k ⟨b,o+m*s,none⟩:=rfl
theorem InB.intro {n:Int} {len:Nat} {k:Nat->Prop} (m:Nat) (hm:n=m) (h:m<len) (hk:k m):InB n len k:=by subst hm;exact ⟨by omega,by omega,hk⟩
theorem InC.intro {n:Int} {len:Nat} {k:Nat->Prop} (m:Nat) (hm:n=m) (h:m <= len) (hk:k m):InC n len k:=by subst hm;exact ⟨by omega,by omega,hk⟩
theorem Zyg {n:Int} (h1: -9223372036854775808 <= n) (h2:n <= 9223372036854775807):IntKind.wrap .i64 n=n:=IntWalk.i64_in n ⟨h1,h2⟩
def Blk (H:Heap) (b:Nat) (T:TypeId) (c:Array Value):Prop:=H b=some (.cells c T (0,0))
theorem Blk.some {H:Heap} {b:Nat} {T:TypeId} {c:Array Value} (h:Blk H b T c):H b≠none:=fun e=>by unfold Blk at h;rw [e] at h;cases h
theorem Blk.cell {H:Heap} {b:Nat} {T:TypeId} {c:Array Value} (h:Blk H b T c) (o:Nat):H.cell ⟨b,o,none⟩=c[o]? :=by unfold Blk at h;simp only [Heap.cell,h];rfl
theorem Blk.upd_eq {H:Heap} {b:Nat} {T:TypeId} {c:Array Value}:Blk (H.upd b (.cells c T (0,0))) b T c:=Sh.upd_eq
theorem Blk.same {H H':Heap} {b:Nat} {T:TypeId} {c:Array Value} (h:Blk H b T c) (e:H' b=H b):Blk H' b T c:=by unfold Blk;rw [e];exact h
structure Keep (S:Nat->Prop) (H H':Heap):Prop where
  same: ∀b,¬S b->H b≠none->H' b=H b
  live: ∀b,H b≠none->H' b≠none
def Nil:Nat->Prop:=fun _=>False
theorem Keep.refl (S:Nat->Prop) (H:Heap):Keep S H H:=⟨fun _ _ _=>rfl,fun _ h=>h⟩
theorem Keep.trans {S:Nat->Prop} {A B C:Heap} (h:Keep S A B) (k:Keep S B C):Keep S A C:=
  ⟨fun b hs hb=>(k.same b hs (h.live b hb)).trans (h.same b hs hb),fun b hb=>k.live b (h.live b hb)⟩
theorem Keep.mono {S S':Nat->Prop} {A B:Heap} (h:Keep S A B) (hs: ∀b,S b->S' b):Keep S' A B:=⟨fun b hb=>h.same b fun x=>hb (hs b x),h.live⟩
theorem Keep.then {S S':Nat->Prop} {A B C:Heap} (h:Keep S A B) (k:Keep S' B C) (hs: ∀b,S' b->S b∨A b=none):Keep S A C:=
  ⟨fun b hb ha=>(k.same b (fun x=>(hs b x).elim hb ha) (h.live b ha)).trans (h.same b hb ha),fun b hb=>k.live b (h.live b hb)⟩
theorem Keep.free {S:Nat->Prop} {A B:Heap} (h:Keep S A B) {n:Nat} (hn:B n=none):A n=none:=by
  cases ha:A n with
  | none=>rfl
  | some o=>exact absurd hn (h.live n (by rw [ha];simp))
theorem Keep.upd {S:Nat->Prop} {A B:Heap} (h:Keep S A B) {n:Nat} {o:Obj} (hn:S n∨A n=none):Keep S A (B.upd n o):=
  ⟨fun b hb ha=>by
    have hne:b≠n:=fun e=>by subst e;exact hn.elim hb ha
    rw [Sh.upd_ne hne];exact h.same b hb ha,fun b hb=>by
    by_cases e:b=n;subst e;rw [Sh.upd_eq];simp
    . rw [Sh.upd_ne e];exact h.live b hb⟩
theorem Keep.new {S:Nat->Prop} {A B:Heap} (h:Keep S A B) {n:Nat} {o:Obj} (hn:B n=none):Keep S A (B.upd n o):=h.upd (.inr (h.free hn))
theorem Keep.blk {S:Nat->Prop} {A B:Heap} (h:Keep S A B) {b:Nat} {T:TypeId} {c:Array Value} (hb:Blk A b T c) (hs: ¬S b):Blk B b T c:=hb.same (h.same b hs hb.some)
theorem NewW.intro {H:Heap} {o:Obj} {k:Nat->Heap->Prop} (h: ∀n,H n=none->k n (H.upd n o)):NewW H o k:=h
theorem Zb.blk {H:Heap} {b o:Nat} {v:Value} {K:Heap->Prop} {T:TypeId} {c:Array Value} (hb:Blk H b T c) (ho:o<c.size) (hv:Zbl v=true)
    (h:K (H.upd b (.cells (c.setIfInBounds o v) T (0,0)))):Zb H ⟨b,o,none⟩ v K:=by
  unfold Zb;rw [hv];exact ⟨c,T,0,0,hb,ho,by simp,h⟩
def Reads (H:Heap) (base:Option Addr) (k:Nat) (xs:List Value):Prop:=
  xs.length=k∧match base with
  | none=>k=0
  | some a=>0<k->a.spot=none∧∃c T fr,H a.block=some (.cells c T fr)∧∀j,j<k->c[a.off+j]? =xs[j]?
theorem Reads.len {H:Heap} {base:Option Addr} {k:Nat} {xs:List Value} (h:Reads H base k xs):xs.length=k:=h.1
theorem Reads.nil {H:Heap}:Reads H Option.none 0 []:=⟨rfl,rfl⟩
theorem Reads.blk {H:Heap} {b o:Nat} {k:Nat} {xs:List Value} {T:TypeId} {c:Array Value} (hb:Blk H b T c) (hl:xs.length=k) (h: ∀j,j<k->c[o+j]? =xs[j]?):Reads H (some ⟨b,o,Option.none⟩) k xs:=
  ⟨hl,fun _=>⟨rfl,c,T,_,hb,h⟩⟩
theorem Reads.keep {S:Nat->Prop} {H H':Heap} {base:Option Addr} {k:Nat} {xs:List Value} (h:Reads H base k xs) (hk:Keep S H H') (hs: ∀a,base=some a->¬S a.block):Reads H' base k xs:=by
  cases base with
  | none=>exact h
  | some a=>
    refine ⟨h.1,fun h0=>?_⟩;obtain ⟨hsp,c,T,fr,hb,hc⟩:=h.2 h0;exact ⟨hsp,c,T,fr,by rw [hk.same _ (hs a rfl) (by rw [hb];simp)];exact hb,hc⟩
theorem Reads.take {H:Heap} {base:Option Addr} {k:Nat} {xs:List Value} (h:Reads H base k xs) {m:Nat} (hm:m <= k):Reads H base m (xs.take m):=by
  cases base with
  | none=>
    obtain ⟨hl,hk⟩:=h;exact ⟨by simp only [List.length_take];omega,by simp only at hk ⊢;omega⟩
  | some a=>
    obtain ⟨hl,h⟩:=h;refine ⟨by simp only [List.length_take];omega,fun (h0:0<m)=>?_⟩
    obtain ⟨hsp,c,T,fr,hb,hc⟩:=h (Nat.lt_of_lt_of_le h0 hm);refine ⟨hsp,c,T,fr,hb,fun j hj=>?_⟩;rw [hc j (by omega),List.getElem?_take_of_lt hj]
theorem Zblt {P:Program} {H:Heap} {a:Addr} {k:Nat} {xs:List Value} {K:Array Value->Heap->Prop} (h:Reads H (some a) k xs) (hk:K ⟨xs⟩ H):SemW P (loadCells a k) H K:=by
  obtain ⟨hl,h⟩:=h;refine Zbjp k 0 #[] xs hl (fun j hj=>?_) (by simpa using hk)
  obtain ⟨hsp,c,T,fr,hb,hc⟩:=h (show 0<k by omega)
  rw [Nat.zero_add,Zcv hsp];simp only [Heap.cell,hb];exact hc j (by omega)
theorem Zsg {P:Program} {H:Heap} {base:Option Addr} {size n cl cap:Nat} {xs:List Value} {K:Array Value->Heap->Prop} (h:Reads H base (n*size) xs) (hk:K ⟨xs⟩ H):
    SemW P (Builtin.firstCells size n (.slice base cl cap)) H K:=by
  cases base with
  | none=>
    obtain ⟨hl,h0⟩:=h;obtain rfl:xs= []:=by apply List.eq_nil_of_length_eq_zero;simp only at h0;omega
    exact hk
  | some a=>exact Zblt h hk
def putRow (c:Array Value):Nat->List Value->Array Value
  | _,[]=>c
  | o,v::vs=>putRow (c.setIfInBounds o v) (o+1) vs
theorem Zvy: ∀(vs:List Value) (c:Array Value) (o:Nat),(putRow c o vs).size=c.size
  | [],_,_=>rfl
  | v::vs,c,o=>by rw [putRow,Zvy vs];simp
theorem Zik: ∀(vs:List Value) (c:Array Value) (o j:Nat),o+vs.length <= c.size->(putRow c o vs)[j]? =if o <= j∧j<o+vs.length then vs[j - o]? else c[j]?
  | [],c,o,j,_=>by simp only [putRow];rw [if_neg (by simp only [List.length_nil];omega)]
  | v::vs,c,o,j,h=>by
    simp only [List.length_cons] at h;rw [putRow,Zik vs _ (o+1) j (by simp;omega)]
    by_cases h1:j=o
    . subst h1;rw [if_neg (by omega),if_pos (by simp),Array.getElem?_setIfInBounds_self_of_lt (by omega)]
      simp
    . by_cases h2:o+1 <= j∧j<o+1+vs.length
      . rw [if_pos h2,if_pos (by simp;omega)]
        have:j - o=(j - (o+1))+1:=by omega
        rw [this,List.getElem?_cons_succ]
      rw [if_neg h2,if_neg (by simp;omega),Array.getElem?_setIfInBounds_ne (fun e=>h1 e.symm)]
theorem Zbkm {P:Program} {b:Nat} {T:TypeId} {K:Unit->Heap->Prop} {o:Nat}: ∀(vs:List Value) (i:Nat) (H:Heap) (c:Array Value),Blk H b T c->(∀v∈vs,Zbl v=true)->o+i+vs.length <= c.size->
    (∀H',Blk H' b T (putRow c (o+i) vs)->(∀b',b'≠b->H' b'=H b')->K () H')->SemW P (storeCells ⟨b,o,none⟩ vs i) H K:=by
  intro vs;induction vs with
  | nil=>exact fun i H c hb _ _ hk=>hk H hb fun _ _=>rfl
  | cons v vs ih=>
    intro i H c hb hv hl hk;simp only [List.length_cons] at hl;unfold storeCells;refine (SemW.bind _ _ _ _).2 ?_;have ha:(⟨b,o,none⟩:Addr).add i=⟨b,o+i,none⟩:=Zcv rfl i;rw [ha];have hst:Zb H ⟨b,o+i,none⟩ v (fun H1=>SemW P (storeCells ⟨b,o,none⟩ vs (i+1)) H1 K):=by
      refine Zb.blk hb (by omega) (hv v List.mem_cons_self) ?_
      refine ih (i+1) _ _ Blk.upd_eq (fun v hv'=>hv v (List.mem_cons_of_mem _ hv')) (by simp;omega) fun H' hb' ho=>?_
      refine hk H' (by simpa [putRow,Nat.add_assoc] using hb') fun b' hne=>?_
      rw [ho b' hne,Sh.upd_ne hne]
    obtain ⟨h1,h2,h3,h4⟩:=Zb.elim hst;exact ⟨h1,h2,h3,h4⟩
theorem Zbsq (newLen:Nat): ∀(r c:Nat),c <= newLen+newLen/4+192->Builtin.growBy newLen r c <= newLen+newLen/4+192
  | 0,c,h=>h
  | r+1,c,h=>by unfold Builtin.growBy;split;exact h;exact Zbsq newLen r _ (by omega)
theorem Zbln (need cap:Nat) (h:cap<need):Builtin.nextslicecap need cap <= 2*need+192:=by
  unfold Builtin.nextslicecap;split;omega
  . split;omega
    . have:=Zbsq need 4 cap (by omega);omega
theorem Zos (n:Nat) (z:Array Value):Builtin.zeroCells z n=⟨repL n z.toList⟩:=Zbet n z
theorem Zbgl (need old:Nat) (e:TypeId) (t:Nat):need <= (Question.appendCap need old e).cut t:=by simp only [Question.cut];omega
theorem Zbhn (need old:Nat) (e:TypeId) (t:Nat) (h:need <= 9223372036854775807):(Question.appendCap need old e).cut t <= 9223372036854775807:=by
  simp only [Question.cut];have:=Nat.mod_lt t (show 2^63 - need>0 by omega)
  omega
theorem AppW.intro2 {P:Program} {st xt t e xe:TypeId} {base xb:Option Addr} {sLen sCap n xc sz by_:Nat} {old new z:List Value} {H:Heap} {K:Value->Heap->Prop} {it:TypeInfo}
    (hu:P.underlying st=some (.slice e)) (hx:P.underlying xt=some (.slice xe)) (hi:P.info? e=some it) (hsz:it.size=sz) (hby:it.bytes=by_) (hb0:by_≠0) (hz:Zcx P e=some z)
    (hzl:z.length=sz) (hold:Reads H base (sLen*sz) old) (hnew:Reads H xb (n*sz) new) (hfit:(2*(sLen+n)+192)*by_ <= 2^48∨(sCap=0∧(sLen+n)*by_ <= 2^48))
    (hin:sLen+n <= sCap->match base with
      | none=>n=0∧K (.slice none (sLen+n) sCap) H
      | some a=>a.spot=none∧∃c T,Blk H a.block T c∧a.off+sCap*sz <= c.size∧(∀v∈new,Zbl v=true)∧
          ∀H',Blk H' a.block T (putRow c (a.off+sLen*sz) new)->(∀b,b≠a.block->H' b=H b)->K (.slice (some a) (sLen+n) sCap) H')
    (hout:sCap<sLen+n->∀m cap,H m=none->sLen+n <= cap->cap <= 9223372036854775807->K (.slice (some ⟨m,0,none⟩) (sLen+n) cap) (H.upd m (.cells ⟨old++new++repL (cap - (sLen+n)) z⟩ e))):
    AppW P #[st,xt] t [.slice base sLen sCap,.slice xb n xc] H K:=by
  unfold AppW Builtin.append_;have hsize:szOf P e=some sz:=by unfold szOf;rw [hi,← hsz]
  refine (SemW.bind _ _ _ _).2 (Zq hu ?_);refine (SemW.bind _ _ _ _).2 (Zdi hsize ?_);refine (SemW.bind _ _ _ _).2 ?_;refine (SemW.bind _ _ _ _).2 ?_;change SemW P (underlying xt) H _;refine Zq hx ?_;change SemW P (if sLen+n <= sCap then _ else _) H K
  by_cases hc:sLen+n <= sCap
  . rw [if_pos hc];refine (SemW.bind _ _ _ _).2 ?_;change SemW P (Builtin.firstCells sz n (.slice xb n xc)) H _;refine Zsg hnew ?_;have h:=hin hc;cases base with
    | none=>exact h.2
    | some a=>
      obtain ⟨hsp,c,T,hb,hlen,hpl,hk⟩:=h;change SemW P (storeCells (a.add (sLen*sz)) new>>= fun _=>pure (.slice (some a) (sLen+n) sCap)) H K;refine (SemW.bind _ _ _ _).2 ?_;rw [Zcv hsp];have hl2:=hnew.1;have hmul:(sLen+n)*sz <= sCap*sz:=Nat.mul_le_mul_right sz hc;rw [Nat.add_mul] at hmul;refine Zbkm new 0 H c hb hpl (by omega) fun H' hb' ho=>?_
      exact hk H' hb' ho
  . rw [if_neg hc];have hcap:sCap<sLen+n:=by omega
    have ht: ∀(K':TypeInfo->Heap->Prop),K' it H->SemW P (typeInfo e) H K':=fun K' hk=>by
      unfold typeInfo;refine (SemW.bind _ _ _ _).2 ?_;change SemW P (match P.info? e with | some i=>pure i | none=>stuck "no such type") H K'
      rw [hi];exact hk
    change SemW P (typeInfo e>>= _) H K;refine (SemW.bind _ _ _ _).2 (ht _ ?_);rw [hby];rw [if_neg (by simp [hb0])]
    change SemW P (typeInfo e>>= _) H K;refine (SemW.bind _ _ _ _).2 (ht _ ?_);rw [hby];have hfit': ¬(Builtin.nextslicecap (sLen+n) sCap*by_>2^48):=by
      rcases hfit with h | ⟨h0,h⟩;have h1:=Zbln (sLen+n) sCap hcap;have h2:Builtin.nextslicecap (sLen+n) sCap*by_ <= (2*(sLen+n)+192)*by_:=Nat.mul_le_mul_right by_ h1;omega
      . subst h0;have h1:Builtin.nextslicecap (sLen+n) 0=sLen+n:=by unfold Builtin.nextslicecap;rw [if_pos (by omega)]
        rw [h1];omega
    rw [if_neg hfit'];refine (SemW.bind _ _ _ _).2 ⟨fun hq=>(by cases hq),fun _ tape=>?_⟩
    have hge:=Zbgl (sLen+n) sCap e tape;have hnm:sLen+n <= 9223372036854775807:=by
      have hone:sLen+n <= (sLen+n)*by_:=Nat.le_mul_of_pos_right _ (Nat.pos_of_ne_zero hb0);rcases hfit with h | ⟨_,h⟩
      . have h5:sLen+n <= (2*(sLen+n)+192)*by_:=Nat.le_trans hone (Nat.mul_le_mul_right by_ (by omega))
        omega
      omega
    have hcl:=Zbhn (sLen+n) sCap e tape hnm;generalize (Question.appendCap (sLen+n) sCap e).cut tape=cap at hge hcl;change SemW P (typeInfo e>>= _) H K;refine (SemW.bind _ _ _ _).2 (ht _ ?_);have room: ∀(k:Nat) (s:Sem Value),SemW P s H K->SemW P (do askRoom k;s) H K:=fun k s hs=>by unfold askRoom;split<;>exact hs
    refine room _ _ ?_;refine (SemW.bind _ _ _ _).2 (Zsg hold ?_);refine (SemW.bind _ _ _ _).2 ?_;change SemW P (Builtin.firstCells sz n (.slice xb n xc)) H _;refine Zsg hnew ?_;change SemW P (zeroValue e>>= _) H K;refine (SemW.bind _ _ _ _).2 (Zhq hz fun v hv=>?_);change SemW P (newRow e (⟨old⟩++⟨new⟩++Builtin.zeroCells v.cells (cap - (sLen+n)))>>= _) H K;refine (SemW.bind _ _ _ _).2 (Zjd fun m hm=>?_);have he:((⟨old⟩:Array Value)++⟨new⟩++Builtin.zeroCells v.cells (cap - (sLen+n)))=⟨old++new++repL (cap - (sLen+n)) z⟩:=by rw [Zos,hv];apply Array.ext';simp
    rw [he];exact hout hcap m cap hm hge hcl
theorem Zij.intro {P:Program} {t e:TypeId} {l c:Nat} {z:List Value} {H:Heap} {K:Value->Heap->Prop} {it:TypeInfo}
    (hu:P.underlying t=some (.slice e)) (hi:P.info? e=some it) (hz:Zcx P e=some z) (hzl:z.length=it.size) (hlc:l <= c) (hc:c <= 9223372036854775807) (hfit:it.bytes*c <= 2^48)
    (hk: ∀m,H m=none->K (.slice (some ⟨m,0,none⟩) l c) (H.upd m (.cells ⟨repL c z⟩ e))):Zij P t (.int .i64 l) (.int .i64 c) H K:=by
  unfold Zij Instr.makeSlice;have hsize:szOf P e=some it.size:=by unfold szOf;rw [hi]
  refine (SemW.bind _ _ _ _).2 (Zq hu ?_);have ht: ∀(K':TypeInfo->Heap->Prop),K' it H->SemW P (typeInfo e) H K':=fun K' hk=>by
    unfold typeInfo;refine (SemW.bind _ _ _ _).2 ?_;change SemW P (match P.info? e with | some i=>pure i | none=>stuck "no such type") H K'
    rw [hi];exact hk
  change SemW P (typeInfo e>>= _) H K;refine (SemW.bind _ _ _ _).2 (ht _ ?_);have wl:IntKind.i64.wrap (l:Int)=l:=Zyg (by omega) (by omega)
  have wc:IntKind.i64.wrap (c:Int)=c:=Zyg (by omega) (by omega)
  rw [wl,wc]
  have hno:(((decide ((c:Int)<0)||decide ((it.bytes:Int)*(c:Int)>2^48))||decide ((l:Int)<0))||decide ((l:Int)>(c:Int)))=false:=by
    have h1:((it.bytes*c:Nat):Int) <= 2^48:=by exact_mod_cast hfit
    rw [Int.natCast_mul] at h1;simp only [Bool.or_eq_false_iff,decide_eq_false_iff_not];exact ⟨⟨⟨by omega,by omega⟩,by omega⟩,by omega⟩
  have push: ∀(b:Bool) (x y:Sem Value),b=false->SemW P y H K->SemW P (if b=true then x else y) H K:=fun b x y hb hy=>by subst hb;exact hy
  refine push _ _ _ hno ?_;have room: ∀(k:Nat) (s:Sem Value),SemW P s H K->SemW P (do askRoom k;s) H K:=fun k s hs=>by unfold askRoom;split<;>exact hs
  refine room _ _ ?_;refine (SemW.bind _ _ _ _).2 (Zdi hsize ?_);have fin: ∀zero:Array Value,zero=⟨z⟩∨(c*it.size=0∧zero= #[])->SemW P (do
      let a ← newRow e ((Array.range ((c:Int).toNat*it.size)).map (zero[· %zero.size]!))
      pure (Value.slice (some a) (l:Int).toNat (c:Int).toNat)) H K:=by
    intro zero hzero;refine (SemW.bind _ _ _ _).2 (Zjd fun m hm=>?_);have hrep:((Array.range ((c:Int).toNat*it.size)).map fun i=>zero[i%zero.size]!)=⟨repL c z⟩:=by
      rw [Int.toNat_natCast];rcases hzero with rfl | ⟨h0,rfl⟩;rw [← hzl];exact Zbet c ⟨z⟩
      . rw [h0];have hr:repL c z= []:=by apply List.eq_nil_of_length_eq_zero;rw [Zgm,hzl];exact h0
        rw [hr];simp
    change K (.slice (some ⟨m,0,none⟩) (l:Int).toNat (c:Int).toNat) (H.upd m (.cells ((Array.range ((c:Int).toNat*it.size)).map fun i=>zero[i%zero.size]!) e));rw [hrep];exact hk m hm
  have n0:(c:Int).toNat=c:=Int.toNat_natCast c;by_cases h0:(c:Int).toNat*it.size=0
  . have:=fin #[] (.inr ⟨by rw [← n0];exact h0,rfl⟩)
    rw [if_pos h0];exact this
  rw [if_neg h0];refine (SemW.bind _ _ _ _).2 (Zhq hz fun v hv=>?_);have:=fin ⟨z⟩ (.inl rfl);rw [← hv] at this;exact this
theorem Zgf.intro {P:Program} {st xt t e:TypeId} {b o dLen dCap:Nat} {xb:Option Addr} {n xc sz:Nat} {new:List Value} {H:Heap} {K:Value->Heap->Prop} {T:TypeId} {c:Array Value}
    (hu:P.underlying st=some (.slice e)) (hsz:szOf P e=some sz) (hb:Blk H b T c) (hfit:o+dLen*sz <= c.size) (hnew:Reads H xb (min n dLen*sz) new) (hpl: ∀v∈new,Zbl v=true)
    (hk: ∀H',Blk H' b T (putRow c o new)->(∀b',b'≠b->H' b'=H b')->K (.int .i64 (min n dLen:Nat)) H'):
    Zgf P #[st,xt] t [.slice (some ⟨b,o,none⟩) dLen dCap,.slice xb n xc] H K:=by
  unfold Zgf Builtin.copy_;refine (SemW.bind _ _ _ _).2 (Zq hu ?_);change SemW P (sizeOf e>>= _) H K;refine (SemW.bind _ _ _ _).2 (Zdi hsz ?_);refine (SemW.bind _ _ _ _).2 ?_;change SemW P (Builtin.firstCells sz (Nat.min n dLen) (.slice xb n xc)) H _;refine Zsg hnew ?_;change SemW P (storeCells ⟨b,o,none⟩ new>>= fun _=>pure (goInt ((Nat.min n dLen:Nat):Int))) H K;refine (SemW.bind _ _ _ _).2 ?_;have hl:=hnew.1;have hm:min n dLen*sz <= dLen*sz:=Nat.mul_le_mul_right sz (Nat.min_le_right _ _);refine Zbkm new 0 H c hb hpl (by omega) fun H' hb' ho=>?_
  exact hk H' hb' ho
def bstr (bs:List UInt8):ByteArray:=⟨bs.toArray⟩
theorem Zcfg (bs:List UInt8):(bstr bs).toList=bs:=by rw [ByteArray.toList_eq];simp [bstr]
theorem Zcvc {P:Program} {H:Heap} {K:ByteArray->Heap->Prop}: ∀(bs:List UInt8) (s:ByteArray),K ⟨s.data++bs.toArray⟩ H->
    SemW P (forIn (bs.map fun x=>Value.int .u8 x.toNat) s fun c r=>(match c with
        | .int .u8 n=>pure (ForInStep.yield (r.push (UInt8.ofNat n.toNat)))
        | _=>do
          stuck "bytesToString: byte expected"
          pure (ForInStep.yield r):Sem (ForInStep ByteArray))) H K:=by
  intro bs;induction bs with
  | nil=>intro s h;simpa [pure,SemW] using h
  | cons x xs ih=>
    intro s h;rw [List.map_cons,List.forIn_cons];refine (SemW.bind _ _ _ _).2 ?_;change SemW P (forIn (xs.map fun x=>Value.int .u8 x.toNat) (s.push (UInt8.ofNat ((x.toNat:Int)).toNat)) _) H K;have hx:UInt8.ofNat ((x.toNat:Int)).toNat=x:=by simp
    rw [hx];refine ih (s.push x) ?_;have:(⟨(s.push x).data++xs.toArray⟩:ByteArray)=⟨s.data++(x::xs).toArray⟩:=by
      have:(s.push x).data=s.data.push x:=by cases s;rfl
      rw [this];congr 1;apply Array.ext';simp
    rw [this];exact h
theorem StrW.intro {P:Program} {s d e:TypeId} {a:Option Addr} {n c:Nat} {bs:List UInt8} {H:Heap} {K:Value->Heap->Prop} (hs:P.underlying s=some (.slice e)) (hd:P.underlying d=some .string) (he:P.underlying e=some (.int .u8))
    (hr:Reads H a n (bs.map fun x=> .int .u8 x.toNat)) (hk:K (.string (bstr bs)) H):SemW P (convert s d (.slice a n c)) H K:=by
  unfold convert;refine (SemW.bind _ _ _ _).2 (Zq hs ?_);refine (SemW.bind _ _ _ _).2 (Zq hd ?_);change SemW P (underlying e>>= _) H K;refine (SemW.bind _ _ _ _).2 (Zq he ?_);change SemW P (Conv.bytesToString (.slice a n c)) H K;unfold Conv.bytesToString;cases a with
  | none=>
    obtain ⟨hl,h0⟩:=hr;simp only at h0;subst h0;have:bs= []:=by simpa using hl
    subst this;exact hk
  | some a=>
    change SemW P (loadCells a n>>= _) H K;refine (SemW.bind _ _ _ _).2 (Zblt hr ?_);have h:=Zcvc (P:=P) (H:=H) (K:=fun s H'=>K (.string s) H') bs ByteArray.empty (by simpa [bstr] using hk)
    simp only [← Array.forIn_toList];exact (SemW.bind _ _ _ _).2 h
end Go.Sh
end
section
namespace Go.Sh
def Own (H0 H:Heap) (a:Option Addr) (n cap sz:Nat) (T:TypeId) (xs:List Value):Prop:=
  xs.length=n*sz∧n <= cap∧((a=none∧n=0∧cap=0)∨∃m rest,a=some ⟨m,0,none⟩∧H0 m=none∧Blk H m T ⟨xs++rest⟩∧rest.length=(cap - n)*sz)
theorem Own.nil {H0 H:Heap} {sz:Nat} {T:TypeId}:Own H0 H none 0 0 sz T []:=⟨by simp,Nat.le_refl _,.inl ⟨rfl,rfl,rfl⟩⟩
theorem Own.start {H0 H:Heap} {m sz:Nat} {T:TypeId} (h0:H0 m=none) (hb:Blk H m T ⟨[]⟩):Own H0 H (some ⟨m,0,none⟩) 0 0 sz T []:=⟨by simp,Nat.le_refl _,.inr ⟨m,[],rfl,h0,hb,by simp⟩⟩
theorem Own.row {H0 H:Heap} {m n sz:Nat} {T:TypeId} {xs:List Value} (h0:H0 m=none) (hb:Blk H m T ⟨xs⟩) (hl:xs.length=n*sz):Own H0 H (some ⟨m,0,none⟩) n n sz T xs:=
  ⟨hl,Nat.le_refl _,.inr ⟨m,[],rfl,h0,by simpa using hb,by simp⟩⟩
theorem Own.len {H0 H:Heap} {a:Option Addr} {n cap sz:Nat} {T:TypeId} {xs:List Value} (h:Own H0 H a n cap sz T xs):xs.length=n*sz:=h.1
theorem Own.le {H0 H:Heap} {a:Option Addr} {n cap sz:Nat} {T:TypeId} {xs:List Value} (h:Own H0 H a n cap sz T xs):n <= cap:=h.2.1
theorem Own.free {H0 H:Heap} {a:Option Addr} {n cap sz:Nat} {T:TypeId} {xs:List Value} (h:Own H0 H a n cap sz T xs) {b:Nat} (hb:a=some ⟨b,0,none⟩):H0 b=none:=by rcases h.2.2 with ⟨rfl,_⟩ | ⟨m,rest,rfl,h0,_⟩;cases hb;cases hb;exact h0
theorem Own.live {H0 H:Heap} {a:Option Addr} {n cap sz:Nat} {T:TypeId} {xs:List Value} (h:Own H0 H a n cap sz T xs) {b:Nat} (hb:a=some ⟨b,0,none⟩): ∃c,Blk H b T c:=by rcases h.2.2 with ⟨rfl,_⟩ | ⟨m,rest,rfl,h0,hB,_⟩;cases hb;cases hb;exact ⟨_,hB⟩
theorem Own.reads {H0 H:Heap} {a:Option Addr} {n cap sz:Nat} {T:TypeId} {xs:List Value} (h:Own H0 H a n cap sz T xs):Reads H a (n*sz) xs:=by
  obtain ⟨hl,hc,hr⟩:=h;rcases hr with ⟨rfl,rfl,rfl⟩ | ⟨m,rest,rfl,h0,hb,hr⟩;exact ⟨hl,by simp⟩
  refine Reads.blk hb hl fun j hj=>?_;simp [List.getElem?_append,hl,hj]
theorem Own.keep {H0 H H':Heap} {a:Option Addr} {n cap sz:Nat} {T:TypeId} {xs:List Value} {S:Nat->Prop} (h:Own H0 H a n cap sz T xs) (k:Keep S H H') (hs: ∀b,a=some ⟨b,0,none⟩->¬S b):Own H0 H' a n cap sz T xs:=by obtain ⟨hl,hc,hr⟩:=h;refine ⟨hl,hc,?_⟩;rcases hr with h | ⟨m,rest,rfl,h0,hb,hr⟩;exact .inl h;exact .inr ⟨m,rest,rfl,h0,k.blk hb (hs m rfl),hr⟩
theorem Own.mono {H0 H1 H:Heap} {a:Option Addr} {n cap sz:Nat} {T:TypeId} {xs:List Value} {S:Nat->Prop} (h:Own H1 H a n cap sz T xs) (k:Keep S H0 H1):Own H0 H a n cap sz T xs:=by obtain ⟨hl,hc,hr⟩:=h;refine ⟨hl,hc,?_⟩;rcases hr with h | ⟨m,rest,rfl,h0,hb,hr⟩;exact .inl h;exact .inr ⟨m,rest,rfl,k.free h0,hb,hr⟩
theorem Own.then {H0 H H':Heap} {a:Option Addr} {n cap sz:Nat} {T:TypeId} {xs:List Value} {S:Nat->Prop} (h:Own H0 H a n cap sz T xs) (k0:Keep S H0 H) (k:Keep (fun b=>a=some ⟨b,0,none⟩) H H'):Keep S H0 H':=
  k0.then k fun _ hb=> .inr (h.free hb)
theorem Zhj {P:Program} {st xt t e xe:TypeId} {H0 H:Heap} {a xb:Option Addr} {n cap k xc sz by_:Nat} {xs new z:List Value} {K:Value->Heap->Prop} {it:TypeInfo} {S:Nat->Prop}
    (hu:P.underlying st=some (.slice e)) (hx:P.underlying xt=some (.slice xe)) (hi:P.info? e=some it) (hsz:it.size=sz) (hby:it.bytes=by_) (hb0:by_≠0) (hz:Zcx P e=some z) (hzl:z.length=sz)
    (ho:Own H0 H a n cap sz e xs) (k0:Keep S H0 H) (hnew:Reads H xb (k*sz) new) (hpl: ∀v∈new,Zbl v=true) (hfit:(2*(n+k)+192)*by_ <= 2^48)
    (h: ∀a' cap' H',(cap <= 9223372036854775807->cap' <= 9223372036854775807)->Own H0 H' a' (n+k) cap' sz e (xs++new)->(∀b,a'=some ⟨b,0,none⟩->a=some ⟨b,0,none⟩∨H b=none)->Keep (fun b=>a=some ⟨b,0,none⟩) H H'->Keep S H0 H'->K (.slice a' (n+k) cap') H'):
    AppW P #[st,xt] t [.slice a n cap,.slice xb k xc] H K:=by
  have hold:=ho.reads;have hmul:(n+k)*sz=n*sz+k*sz:=Nat.add_mul _ _ _;have hnl:=hnew.len;have hxl:=ho.len;refine AppW.intro2 (n:=k) (sLen:=n) (sCap:=cap) (sz:=sz) (by_:=by_) hu hx hi hsz hby hb0 hz hzl hold hnew (.inl hfit) ?_ ?_
  . intro hle;have ho2:=ho;obtain ⟨hl,hc,hr⟩:=ho2;rcases hr with ⟨rfl,rfl,rfl⟩ | ⟨m,rest,rfl,h0,hb,hr⟩
    . have hk:k=0:=by omega
      subst hk;have hn:new= []:=List.eq_nil_of_length_eq_zero (by simpa using hnl)
      subst hn;have hx0:xs= []:=List.eq_nil_of_length_eq_zero (by simpa using hl)
      subst hx0;exact ⟨rfl,h none 0 H (fun _=>by omega) Own.nil (fun _ h=> .inl h) (Keep.refl _ _) k0⟩
    . have hcap:cap*sz=n*sz+(cap - n)*sz:=by rw [← Nat.add_mul,Nat.add_sub_cancel' hc]
      have hcap2:(cap - n)*sz=k*sz+(cap - (n+k))*sz:=by rw [← Nat.add_mul];congr 1;omega
      refine ⟨rfl,_,_,hb,by simp only [List.size_toArray,List.length_append];omega,hpl,fun H' hb' hoth=>?_⟩
      have hrow:putRow (⟨xs++rest⟩:Array Value) (0+n*sz) new=⟨(xs++new)++rest.drop (k*sz)⟩:=by
        apply Array.ext_getElem?
        intro j;rw [Zik _ _ _ _ (by simp only [List.size_toArray,List.length_append];omega)]
        simp only [List.getElem?_toArray];by_cases h1:j<n*sz;rw [if_neg (by omega),List.getElem?_append_left (by omega),List.append_assoc,List.getElem?_append_left (by omega)]
        . by_cases h2:j<n*sz+k*sz
          . rw [if_pos (by omega),List.append_assoc,List.getElem?_append_right (by omega),List.getElem?_append_left (by omega)]
            congr 1;omega
          . rw [if_neg (by omega),List.getElem?_append_right (by omega),List.getElem?_append_right (by simp only [List.length_append];omega),List.getElem?_drop]
            congr 1;simp only [List.length_append];omega
      rw [hrow] at hb'
      have kk:Keep (fun b=>(some ⟨m,0,none⟩:Option Addr)=some ⟨b,0,none⟩) H H':=⟨fun b hb1 _=>hoth b fun e=>hb1 (by rw [e]),fun b hb1=>by
        by_cases e:b=m;subst e;exact hb'.some
        . rw [hoth b e];exact hb1⟩
      refine h _ _ _ (fun h=>h) ⟨by simp only [List.length_append];omega,hle,.inr ⟨m,_,rfl,h0,hb',by simp only [List.length_drop];omega⟩⟩ (fun _ h=> .inl h) kk (ho.then k0 kk)
  . intro hlt m cap' hm hcap' hcb;have hrl:(repL (cap' - (n+k)) z).length=(cap' - (n+k))*sz:=by rw [Zgm,hzl]
    refine h _ _ _ (fun _=>hcb) ⟨by simp only [List.length_append];omega,hcap',.inr ⟨m,_,rfl,k0.free hm,Blk.upd_eq,hrl⟩⟩ (fun b hb=> .inr (by cases hb;exact hm)) ((Keep.refl _ _).new hm) (k0.new hm)
end Go.Sh
end
section
namespace Go.Sh
theorem Own.blk {H0 H:Heap} {a:Option Addr} {n cap sz:Nat} {T:TypeId} {xs:List Value} (h:Own H0 H a n cap sz T xs) {b:Nat} (hb:a=some ⟨b,0,none⟩): ∃rest,Blk H b T ⟨xs++rest⟩∧rest.length=(cap - n)*sz:=by rcases h.2.2 with ⟨rfl,_⟩ | ⟨m,rest,rfl,_,hB,hr⟩;cases hb;cases hb;exact ⟨rest,hB,hr⟩
theorem Own.addr {H0 H:Heap} {a:Option Addr} {n cap sz:Nat} {T:TypeId} {xs:List Value} (h:Own H0 H a n cap sz T xs) (hn:0<n): ∃m,a=some ⟨m,0,none⟩:=by rcases h.2.2 with ⟨_,h0,_⟩ | ⟨m,rest,rfl,_⟩;omega;exact ⟨m,rfl⟩
structure Inn where
  a:Option Addr
  n:Nat
  cap:Nat
  ys:List Value
def Inn.val (i:Inn):Value:= .slice i.a i.n i.cap
structure Deep (H0 H:Heap) (To Ti:TypeId) (sz:Nat) (ins:List Inn) (a:Option Addr) (c:Nat):Prop where
  out:Own H0 H a ins.length c 1 To (ins.map Inn.val)
  inn: ∀(j:Nat) (i:Inn),ins[j]? =some i->Own H0 H i.a i.n i.cap sz Ti i.ys
  dis: ∀(j j':Nat) (i i':Inn) (b:Nat),j≠j'->ins[j]? =some i->ins[j']? =some i'->i.a=some ⟨b,0,none⟩->i'.a≠some ⟨b,0,none⟩
  capO:c <= 9223372036854775807
  capI: ∀(j:Nat) (i:Inn),ins[j]? =some i->i.cap <= 9223372036854775807
end Go.Sh
end
section
namespace Go.Sh
def cL:Code->Code
  | .seq a _=>a
  | c=>c
def cR:Code->Code
  | .seq _ b=>b
  | c=>c
def cK:Code->Code
  | .block _ c=>c
  | c=>c
def cA:Code->Code
  | .rangeFunc _ _ a _=>a
  | c=>c
def cB:Code->Code
  | .rangeFunc _ _ _ b=>b
  | c=>c
def Zbit (t:Tmp):Code->Bool
  | .cond (.tmp t') _ .skip=>Nat.beq t' t
  | _=>false
theorem Zcuo {t:Tmp} {c:Code} (h:Zbit t c=true): ∃x,c= .cond (.tmp t) x .skip:=by unfold Zbit at h;split at h;rw [Nat.eq_of_beq_eq_true h];exact ⟨_,rfl⟩;cases h
def Zer (K:Env->Heap->Prop) (Q:Post):Post:=fun e ρ H=>match e with
  | .normal=>K ρ H
  | .ret=>Q .ret ρ H
  | _=>False
end Go.Sh
end
section
namespace Go.Sh
theorem Zcei {P:Program} {f:FuncId} {fn:Func} {e:Array Value->Sem Value} {args:Array Value} {H:Heap} {K:Value->Heap->Prop} (hf:P.funcs[f]? =some fn) (hname:(fn.name== "runtime.NumGoroutine")=false) (hb:fn.body.isNone=true) (hn:Extern.findNext fn=none) (he:Extern.find fn=some e)
    (h:SemW P (e args) H K):ExtW P f args H K:=by
  unfold ExtW callFunc;refine (SemW.bind _ _ _ _).2 ?_;change SemW P (match P.funcs[f]? with | none=>_ | some fn=>_) H _
  rw [hf];change SemW P (if (fn.name== "runtime.NumGoroutine")=true then _ else if fn.body.isNone=true then _ else pure (Next.enter f args)) H _
  rw [if_neg (by rw [hname];simp),if_pos hb]
  rw [hn,he];show SemW P (e args>>= fun v=>pure (Next.value v)) H _;exact (SemW.bind _ _ _ _).2 h
theorem Zuc {H:Heap} {b o:Nat} {T:TypeId} {c:Array Value} (h:Blk H b T c):H.frozen ⟨b,o,none⟩=false:=by unfold Heap.frozen;have h':H.map b=some (.cells c T (0,0)):=h;simp only [h'];simp
theorem Zbri {H:Heap} {b:Nat} {T:TypeId} {c:Array Value} (h:Blk H b T c):H.shape b=some (T,c.size):=by unfold Heap.shape;have h':H.map b=some (.cells c T (0,0)):=h;simp only [h']
theorem Zcro {P:Program} {tS tR e:TypeId} {size:Nat} {H:Heap} {K:Value->Heap->Prop} (hu:P.underlying tS=some (.slice e)) (hsz:szOf P e=some size) {ab ao bb bo la ca lb cb:Nat} {TA TB:TypeId} {cA cB:Array Value}
    (hA:Blk H ab TA cA) (hB:Blk H bb TB cB) (hne:ab≠bb) (hk:K (.bool false) H):SemW P (Extern.SlicesOverlaps.overlaps #[tS,tS] #[tR] #[.slice (some ⟨ab,ao,none⟩) la ca,.slice (some ⟨bb,bo,none⟩) lb cb]) H K:=by
  show SemW P (underlying tS>>= _) H K;refine (SemW.bind _ _ _ _).2 (Zq hu ?_);show SemW P (sizeOf e>>= _) H K;refine (SemW.bind _ _ _ _).2 (Zdi hsz ?_);show SemW P (if la=0∨lb=0∨size=0 then pure (Value.bool false) else _) H K
  by_cases h0:la=0∨lb=0∨size=0;rw [if_pos h0];exact hk
  . rw [if_neg h0];have hnb:(ab !=bb)=true:=by simpa using hne
    have hnb':(ab==bb)=false:=by simpa using hne
    refine ⟨⟨_,hA⟩,?_⟩;rw [Zuc hA];refine ⟨⟨_,hB⟩,?_⟩;rw [Zuc hB];show SemW P (if (((ab !=bb)&&false)&&false)=true then _ else _) H K
    rw [if_neg (by simp)]
    show SemW P (if (ab !=bb)=true then _ else _) H K
    rw [if_pos hnb];have view: ∀{b:Nat} {o:Nat} {T:TypeId} {c:Array Value} (hb:Blk H b T c) {K':Unit->Heap->Prop},K' () H->SemW P (noView ⟨b,o,none⟩) H K':=fun {b o T c} hb {K'} hk'=>by refine ⟨⟨_,hb⟩,?_⟩;rw [Zbri hb];exact hk'
    refine (SemW.bind _ _ _ _).2 (view hA ?_);refine (SemW.bind _ _ _ _).2 (view hB ?_);refine (SemW.bind _ _ _ _).2 ?_;show SemW P (mayBeOne _ _) H _;have str: ∀{b:Nat} {o:Nat} {T:TypeId} {c:Array Value} (hb:Blk H b T c) {K':Bool->Heap->Prop},K' false H->SemW P (stringish ⟨b,o,none⟩) H K':=fun {b o T c} hb {K'} hk'=>by refine ⟨⟨_,hb⟩,?_⟩;rw [Zuc hb];refine ⟨⟨_,hb⟩,?_⟩;rw [Zbri hb];refine ⟨⟨_,hb⟩,?_⟩;rw [Zuc hb];exact hk'
    refine (SemW.bind _ _ _ _).2 (str hA ?_);refine (SemW.bind _ _ _ _).2 (str hB ?_);refine ⟨⟨_,hA⟩,?_⟩;refine ⟨⟨_,hB⟩,?_⟩;show SemW P (pure (Value.bool ((ab==bb)&&_&&_))) H K;rw [hnb'];exact hk
theorem AppW.zerosGrow {P:Program} {st xt t e:TypeId} {base:Option Addr} {sLen sCap n by_ sz:Nat} {k:IntKind} {old z:List Value} {H:Heap} {K:Value->Heap->Prop} {it:TypeInfo}
    (hu:P.underlying st=some (.slice e)) (hx:P.underlying xt=some (.int k)) (hi:P.info? e=some it) (hsz:it.size=sz) (hby:it.bytes=by_) (hz:Zcx P e=some z) (hzl:z.length=sz) (hb0:0<by_) (hb1:by_ <= 100000) (hs0:0<sz) (hn0:0<n) (hn:sLen+n <= 100000000)
    (hold:Reads H base (sLen*sz) old) (hcap:sCap<sLen+n)
    (h: ∀m cap,H m=none->sLen+n <= cap->cap <= 9223372036854775807->K (.slice (some ⟨m,0,none⟩) (sLen+n) cap) (H.upd m (.cells ⟨old++repL n z++repL (cap - (sLen+n)) z⟩ e))):
    AppW P #[st,xt] t [.slice base sLen sCap,.int .i64 n] H K:=by
  subst hsz hby
  unfold AppW Builtin.append_;have hsize:szOf P e=some it.size:=by unfold szOf;rw [hi]
  refine (SemW.bind _ _ _ _).2 (Zq hu ?_);refine (SemW.bind _ _ _ _).2 (Zdi hsize ?_);have ht: ∀(K':TypeInfo->Heap->Prop),K' it H->SemW P (typeInfo e) H K':=fun K' hk=>by
    unfold typeInfo;refine (SemW.bind _ _ _ _).2 ?_;change SemW P (match P.info? e with | some i=>pure i | none=>stuck "no such type") H K'
    rw [hi];exact hk
  refine (SemW.bind _ _ _ _).2 ?_;refine (SemW.bind _ _ _ _).2 ?_;change SemW P (underlying xt) H _;refine Zq hx ?_;have wn:IntKind.i64.wrap (n:Int)=n:=Zyg (by omega) (by omega)
  have hmul:n*it.bytes <= 100000000*100000:=Nat.mul_le_mul (by omega) hb1
  have hmulI:(n:Int)*(it.bytes:Int)=((n*it.bytes:Nat):Int):=by rw [Int.natCast_mul]
  have room: ∀(k:Nat) (s:Sem Value),SemW P s H K->SemW P (do askRoom k;s) H K:=fun k s hs=>by unfold askRoom;split<;>exact hs
  show SemW P (if IntKind.i64.wrap (n:Int)<0 then _ else _) H _
  rw [wn,if_neg (by omega)]
  show SemW P (typeInfo e>>= _) H _;refine (SemW.bind _ _ _ _).2 (ht _ ?_);show SemW P (if (n:Int)*(it.bytes:Int)>2^48 then _ else _) H _
  rw [if_neg (by rw [hmulI];omega)]
  show SemW P (if sLen+(n:Int).toNat <= sCap then _ else _) H K
  rw [if_neg (by omega)]
  have e0:(n:Int).toNat=n:=by omega
  rw [e0];show SemW P (typeInfo e>>= _) H K;refine (SemW.bind _ _ _ _).2 (ht _ ?_);rw [if_neg (by
    have hm:IntKind.i64.max=9223372036854775807:=rfl;rw [hm];omega)]
  show SemW P (typeInfo e>>= _) H K;refine (SemW.bind _ _ _ _).2 (ht _ ?_);have hfit': ¬(Builtin.nextslicecap (sLen+n) sCap*it.bytes>2^48):=by have h1:=Zbln (sLen+n) sCap hcap;have h2:Builtin.nextslicecap (sLen+n) sCap*it.bytes <= (2*(sLen+n)+192)*100000:=Nat.mul_le_mul h1 hb1;omega
  rw [if_neg hfit'];show SemW P (choose (.appendCap (sLen+n) sCap e)>>= _) H K;refine (SemW.bind _ _ _ _).2 ⟨fun hq=>(by cases hq),fun _ tape=>?_⟩
  have hge:=Zbgl (sLen+n) sCap e tape;have hle:=Zbhn (sLen+n) sCap e tape (by omega)
  generalize (Question.appendCap (sLen+n) sCap e).cut tape=cap at hge hle;show SemW P (typeInfo e>>= _) H K;refine (SemW.bind _ _ _ _).2 (ht _ ?_);refine room _ _ ?_;refine (SemW.bind _ _ _ _).2 (Zsg hold ?_);show SemW P ((if n*it.size=0 then pure #[] else do pure (Builtin.zeroCells (← zeroValue e).cells n))>>= _) H K
  rw [if_neg (by
    have:0<n*it.size:=Nat.mul_pos hn0 hs0;omega)]
  refine (SemW.bind _ _ _ _).2 ?_;refine (SemW.bind _ _ _ _).2 (Zhq hz fun v hv=>?_);show SemW P (zeroValue e>>= _) H K;refine (SemW.bind _ _ _ _).2 (Zhq hz fun v' hv'=>?_);show SemW P (newRow e (⟨old⟩++Builtin.zeroCells v.cells n++Builtin.zeroCells v'.cells (cap - (sLen+n)))>>= _) H K;refine (SemW.bind _ _ _ _).2 (Zjd fun m hm=>?_);have he:((⟨old⟩:Array Value)++Builtin.zeroCells v.cells n++Builtin.zeroCells v'.cells (cap - (sLen+n)))=⟨old++repL n z++repL (cap - (sLen+n)) z⟩:=by rw [Zos,Zos,hv,hv'];apply Array.ext';simp
  rw [he];exact h m cap hm hge hle
end Go.Sh
end
