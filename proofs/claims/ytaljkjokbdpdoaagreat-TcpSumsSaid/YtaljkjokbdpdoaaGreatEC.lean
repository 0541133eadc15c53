/-
  Maps from numbers to numbers,over the heap.
-/
import Derived.Test.YtaljkjokbdpdoaaGreatEB
import Derived.ProofKit
import Derived.WideKeyArgs
import Derived.Handed
import Derived.ChangeSlices
set_option linter.all false
section
namespace Go.Sh
structure MapTy (P:Program) (t kt el:TypeId):Prop where
  und:P.underlying t=some (.map kt el)
  key:P.underlying kt=some (.int .i64)
  zero: ∃it,P.info? el=some it∧it.zero=some (.int .i64 0)
section
variable {P:Program} {t kt el:TypeId} {H:Heap}
theorem Zbud (hk:P.underlying kt=some (.int .i64)) {k:Int} {emp:Bool} {K:Unit->Heap->Prop} (h:K () H):SemW P (Instr.checkKey emp 10000 kt (.int .i64 k)) H K:=by unfold Instr.checkKey;exact (SemW.bind _ _ _ _).2 (Zp hk h)
theorem Zbil {el:TypeId} {it:TypeInfo} {z:Value} {K:Value->Heap->Prop} (h1:P.info? el=some it) (h2:it.zero=some z) (hk:K z H):SemW P (zeroValue el) H K:=by
  unfold zeroValue typeInfo;show SemW P ((match P.info? el with | some d=>pure d | none=>stuck "no such type")>>= fun i=>match i.zero with | some v=>pure v | none=>unsupported (.resourceLimit "a value of more than 2^22 cells")) H K
  rw [h1];show SemW P (match it.zero with | some v=>pure v | none=>unsupported (.resourceLimit "a value of more than 2^22 cells")) H K
  rw [h2];exact hk
end
end Go.Sh
end
section
namespace Go.Sh
section
variable {P:Program} {t kt el:TypeId} {H:Heap}
theorem RgG (hu:P.underlying t=some (.map kt el)) {b:Nat} {es:Array MapEntry} {ck:Nat} {K:Value->Heap->Prop} (hm:H b=some (.map es ck))
    (h: ∀n,H n=none->K (.pointer (some ⟨n,0,none⟩)) (H.upd n (.mapIter (some b) ck #[] ck))):SemW P (Instr.range t (.map (some b))) H K:=by
  unfold Instr.range;refine (SemW.bind _ _ _ _).2 (Zp hu ?_);refine (SemW.bind _ _ _ _).2 ?_;show SemW P (getObj b>>= _) H _;refine (SemW.bind _ _ _ _).2 ⟨_,hm,rfl,?_⟩;intro n hn;exact h n hn
theorem NxG {b it:Nat} {es:List MapEntry} {ck:Nat} {seen:List Nat} {ty:TypeId} {K:Value->Heap->Prop} (hi:H it=some (.mapIter (some b) ck ⟨seen⟩ ck)) (hm:H b=some (.map ⟨es⟩ ck)) (hb: ∀e∈es,e.born<ck)
    (hover:(∀e∈es,e.born∈seen)->K (.tuple #[.bool false]) H)
    (hstep: ∀e∈es,e.born∉seen->K (.tuple #[.bool true,e.key,e.val]) (H.upd it (.mapIter (some b) ck ⟨seen++[e.born]⟩ ck))):
    SemW P (Instr.next (.pointer (some ⟨it,0,none⟩)) false ty) H K:=by
  unfold Instr.next;show SemW P (getObj it>>= _) H K;refine (SemW.bind _ _ _ _).2 ⟨_,hi,rfl,?_⟩;show SemW P (getObj b>>= _) H K;refine (SemW.bind _ _ _ _).2 ⟨_,hm,rfl,?_⟩;have hno:(!(⟨seen⟩:Array Nat).isEmpty&& !(⟨es⟩:Array MapEntry).isEmpty&&(⟨es⟩:Array MapEntry).all (·.born≥ck))=false:=by
    cases es with
    | nil=>simp
    | cons e es=>
      have:=hb e List.mem_cons_self;have h2: ¬ck <= e.born:=by omega
      simp [h2]
  show SemW P (if (!(⟨seen⟩:Array Nat).isEmpty&& !(⟨es⟩:Array MapEntry).isEmpty&&(⟨es⟩:Array MapEntry).all (·.born≥ck))=true then _ else _) H K
  rw [hno,if_neg (by simp)]
  obtain ⟨L,hL⟩: ∃L:List MapEntry,L=es.filter fun e=>!(seen.contains e.born):=⟨_,rfl⟩;have hleft:(⟨es⟩:Array MapEntry).filter (fun e=>!(⟨seen⟩:Array Nat).contains e.born)=⟨L⟩:=by apply Array.ext';rw [Array.toList_filter,hL];apply List.filter_congr;intro e _;congr 1;rw [Bool.eq_iff_iff];simp
  have hold:(⟨L⟩:Array MapEntry).filter (fun e=>decide (e.born<ck))=⟨L⟩:=by apply Array.ext';rw [Array.toList_filter,List.filter_eq_self];intro m hmm;have he:m∈L:=hmm;rw [hL] at he;exact decide_eq_true (hb m (List.mem_filter.1 he).1)
  have hnew:(⟨L⟩:Array MapEntry).filter (fun e=>decide (e.born≥ck))=⟨[]⟩:=by apply Array.ext';rw [Array.toList_filter,List.filter_eq_nil_iff];intro m hmm;have he:m∈L:=hmm;rw [hL] at he;have:=hb m (List.mem_filter.1 he).1;simp;omega
  have hC:((if (⟨L⟩:Array MapEntry).isEmpty=true then #[none] else #[])++Array.map some ((⟨L⟩:Array MapEntry)++(⟨[]⟩:Array MapEntry)):Array (Option MapEntry))=⟨if L= [] then [none] else L.map fun e=>some e⟩:=by
    apply Array.ext';cases L with
    | nil=>simp
    | cons x L=>simp
  simp only [hleft,hold,hnew,hC];refine (SemW.bind _ _ _ _).2 ?_;by_cases h0:L= []
  . have over:K (.tuple #[.bool false]) H:=hover fun e he=>by rw [hL,List.filter_eq_nil_iff] at h0;simpa using h0 e he
    rw [if_pos h0];refine ⟨fun _=>over,fun _ t=>?_⟩;have h1:(Question.mapNext 1).cut t=0:=by show t%1=0;omega
    show SemW P (match (⟨[none]⟩:Array (Option MapEntry))[(Question.mapNext 1).cut t]? with
        | some (some e)=>(do setObj it (.mapIter (some b) ck ((⟨seen⟩:Array Nat).push e.born) ck);pure (.tuple #[.bool true,e.key,e.val]))
        | some none=>pure (.tuple #[.bool false])
        | none=>stuck "Next: no such candidate") H K
    rw [h1];exact over
  . have hpos:0<L.length:=List.length_pos_iff.2 h0;rw [if_neg h0];have key: ∀i:Nat,i<L.length->SemW P (match (⟨L.map fun e=>some e⟩:Array (Option MapEntry))[i]? with
        | some (some e)=>(do setObj it (.mapIter (some b) ck ((⟨seen⟩:Array Nat).push e.born) ck);pure (.tuple #[.bool true,e.key,e.val]))
        | some none=>pure (.tuple #[.bool false])
        | none=>stuck "Next: no such candidate") H K:=by
      intro i hi2;have hm2:L[i]∈es.filter (fun e=>!(seen.contains e.born)):=by rw [← hL];exact List.getElem_mem hi2
      have h2:=List.mem_filter.1 hm2;have he:(⟨L.map fun e=>some e⟩:Array (Option MapEntry))[i]? =some (some L[i]):=by simp [hi2]
      rw [he];refine (SemW.bind _ _ _ _).2 ⟨⟨_,hi,rfl,rfl⟩,?_⟩;have hp:(⟨seen⟩:Array Nat).push L[i].born=⟨seen++[L[i].born]⟩:=by apply Array.ext';simp
      rw [hp];exact hstep _ h2.1 (by simpa using h2.2)
    refine ⟨fun _=>key 0 hpos,fun _ t=>?_⟩;refine key _ ?_;show t%(⟨L.map fun e=>some e⟩:Array (Option MapEntry)).size<L.length;rw [show (⟨L.map fun e=>some e⟩:Array (Option MapEntry)).size=L.length by simp]
    exact Nat.mod_lt _ hpos
theorem EnG {b it:Nat} {es:List MapEntry} {ck:Nat} {seen:List Nat} {e:MapEntry} {K:Value->Heap->Prop} (hi:H it=some (.mapIter (some b) ck ⟨seen++[e.born]⟩ ck)) (hm:H b=some (.map ⟨es⟩ ck)) (he:e∈es) (hd: ∀x∈es,x.born=e.born->x=e)
    (h:K (.tuple #[e.key,e.val]) H):SemW P (Instr.entry (.pointer (some ⟨it,0,none⟩))) H K:=by
  unfold Instr.entry;show SemW P (getObj it>>= _) H K;refine (SemW.bind _ _ _ _).2 ⟨_,hi,rfl,?_⟩;have hb:(⟨seen++[e.born]⟩:Array Nat).back? =some e.born:=by simp [Array.back?]
  dsimp only [SemW];rw [hb];show SemW P (getObj b>>= _) H K;refine (SemW.bind _ _ _ _).2 ⟨_,hm,rfl,?_⟩;have hf:(⟨es⟩:Array MapEntry).find? (fun x=>x.born==e.born)=some e:=by
    rw [← Array.find?_toList];show (es).find? (fun x=>x.born==e.born)=some e;clear h hm hi;induction es with
    | nil=>cases he
    | cons x es ih=>
      simp only [List.find?_cons];by_cases hx:x.born=e.born;have:=hd x List.mem_cons_self hx;subst this;simp
      . have h1:(x.born==e.born)=false:=by simp [hx]
        rw [h1];refine ih ?_ fun y hy=>hd y (List.mem_cons_of_mem _ hy);rcases List.mem_cons.1 he with rfl | he;exact absurd rfl hx;exact he
  have hne:(ck !=ck)=false:=by simp
  show SemW P (if (ck !=ck)=true then _ else _) H K
  rw [hne,if_neg (by simp)]
  rw [hf];exact h
end
end Go.Sh
end
section
namespace Go.Pc
open Go.Sh
theorem Zbax {P:Program} {plan:Plan} {a b:Code} {ρ:Env} {H:Heap} {Q:Post} {K:Env->Heap->Prop} (h:Ze P plan a ρ H (Zet K Q)) (hk: ∀ρ' H',K ρ' H'->Ze P plan b ρ' H' Q):Ze P plan (.seq a b) ρ H Q:=by
  simp only [Ze];refine Ze.mono a (fun e ρ' H' he=>?_) _ _ h;cases e<;>simp only [Zet] at he<;>first | exact he.elim | exact hk _ _ he | exact he
theorem Zbtm {P:Program} {plan:Plan} {i:Nat} {c:Code} {ρ:Env} {H:Heap} {Q:Post} (h:Ze P plan c ρ H (Zjh i Q)):Ze P plan (.block i c) ρ H Q:=by simp only [Ze];exact h
theorem Zbal {P:Program} {ρ:Env} {H:Heap}: ∀(rs:List ResultVar) (acc:List Value),ResW P ρ H rs acc (fun _=>False)->False
  | [],_,h=>h
  | .tmp t::rs,acc,h=>Zbal rs _ (by simpa only [ResW] using h)
  | .cell a t::rs,acc,h=>by simp only [ResW] at h;obtain ⟨v,hv,_⟩:=Zz.read h;exact Zbal rs _ hv
theorem Zbhc {P:Program} {K:Env->Heap->Prop} {rs:List ResultVar} {e:Exit} {ρ:Env} {H:Heap} (h:Zet K (RetW P rs fun _ _=>False) e ρ H):e= .normal∧K ρ H:=by
  cases e<;>simp only [Zet] at h<;>first | exact h.elim | exact ⟨rfl,h⟩ | exact (Zbal _ _ h).elim
theorem put2 {ρ:Env} {d1 d2:Tmp} {v1 v2:Value} (h1:ρ d1=v1) (h2:ρ d2=v2):put (put ρ (some d1) v1) (some d2) v2=ρ:=by rw [Zgm h1,Zgm h2]
theorem Zk {H0 H H2:Heap} (k:Keep Nil H0 H) (hs:Shut H0 H H2):Keep Nil H0 H2:=
  ⟨fun b hb ha=>by
    rcases hs b with e | ⟨e,_,_⟩;rw [e];exact k.same b hb ha
    . exact absurd e ha,fun b ha=>by
    rcases hs b with e | ⟨e,_,_⟩;rw [e];exact k.live b ha
    . exact absurd e ha⟩
theorem Zcb {H0 H H2:Heap} {b:Nat} {T:TypeId} {c:Array Value} (h:Blk H b T c) (hs:Shut H0 H H2):Blk H2 b T c:=by rcases hs b with e | ⟨_,e,_⟩;exact h.same e;unfold Blk at h;rw [h] at e;cases e
theorem Zbn {H0 H1 H H2:Heap} {a:Option Addr} {n cap sz:Nat} {T:TypeId} {xs:List Value} (h:Sh.Own H0 H a n cap sz T xs) (hs:Shut H1 H H2):Sh.Own H0 H2 a n cap sz T xs:=by obtain ⟨h1,h2,h3⟩:=h;refine ⟨h1,h2,?_⟩;rcases h3 with h | ⟨m,rest,e,h0,hb,hr⟩;exact .inl h;exact .inr ⟨m,rest,e,h0,Zcb hb hs,hr⟩
theorem ifT {b:Bool} {X Y:Prop} (h:b=true) (x:X):IfB b X Y:=by subst h;exact x
theorem ifF {b:Bool} {X Y:Prop} (h:b=false) (y:Y):IfB b X Y:=by subst h;exact y
end Go.Pc
end
section
namespace Go.Sh
structure KeyTy (P:Program) (kt:TypeId) {κ:Type} [DecidableEq κ] (kv:κ->Value):Prop where
  chk: ∀(a:κ) (e:Bool) (H:Heap) (K:Unit->Heap->Prop),K () H->SemW P (Instr.checkKey e 10000 kt (kv a)) H K
  eq: ∀a b:κ,Zfj P 6 kt (kv a) (kv b)=some (decide (a=b))
  now: ∀a b:κ,∀d r,P.underlying kt=some d->Instr.sameNow d (kv a) (kv b)=some r->r=decide (a=b)
  und: ∃d,P.underlying kt=some d
structure MapG (P:Program) (t kt el:TypeId) (z:Value):Prop where
  und:P.underlying t=some (.map kt el)
  zero: ∃it,P.info? el=some it∧it.zero=some z
section
variable {κ:Type} [DecidableEq κ] {kv:κ->Value}
abbrev Gv (κ:Type):=κ×Value×Nat
def entG (kv:κ->Value) (e:Gv κ):MapEntry:={ key:=kv e.1,val:=e.2.1,born:=e.2.2 }
def MapB (kv:κ->Value) (H:Heap) (b:Nat) (es:List (Gv κ)) (ck:Nat):Prop:=H b=some (.map ⟨es.map (entG kv)⟩ ck)
theorem MapB.same {H H':Heap} {b:Nat} {es:List (Gv κ)} {ck:Nat} (h:MapB kv H b es ck) (e:H' b=H b):MapB kv H' b es ck:=by unfold MapB at h ⊢;rw [e];exact h
theorem MapB.some {H:Heap} {b:Nat} {es:List (Gv κ)} {ck:Nat} (h:MapB kv H b es ck):H b≠none:=by unfold MapB at h;rw [h];simp
theorem MapB.keep {S:Nat->Prop} {H H':Heap} {b:Nat} {es:List (Gv κ)} {ck:Nat} (h:MapB kv H b es ck) (k:Keep S H H') (hs: ¬S b):MapB kv H' b es ck:=h.same (k.same b hs h.some)
def getG (k:κ):List (Gv κ)->Option Value
  | []=>none
  | e::es=>if k=e.1 then some e.2.1 else getG k es
def idxG (k:κ):List (Gv κ)->Nat->Option (Nat×Value)
  | [],_=>none
  | e::es,i=>if k=e.1 then some (i,e.2.1) else idxG k es (i+1)
def eraG (k:κ):List (Gv κ)->List (Gv κ)
  | []=>[]
  | e::es=>if k=e.1 then es else e::eraG k es
theorem Zqm (k:κ): ∀(es:List (Gv κ)) (i:Nat),(idxG k es i).map (·.2)=getG k es
  | [],_=>rfl
  | e::es,i=>by unfold idxG getG;split;rfl;exact Zqm k es (i+1)
theorem Zbfl (k:κ): ∀(es:List (Gv κ)) (i j:Nat) (v:Value),idxG k es i=some (j,v)->∃d,j=i+d∧(es.map (entG kv)).eraseIdx d=(eraG k es).map (entG kv)
  | [],_,_,_,h=>by cases h
  | e::es,i,j,v,h=>by
    unfold idxG at h;unfold eraG;split at h;rename_i hk;cases h;exact ⟨0,rfl,by rw [if_pos hk];rfl⟩
    rename_i hk;obtain ⟨d,e1,e2⟩:=Zbfl k es (i+1) j v h;exact ⟨d+1,by omega,by rw [if_neg hk];simp only [List.map_cons,List.eraseIdx_cons_succ,e2]⟩
theorem Zben (k:κ): ∀(es:List (Gv κ)),getG k es=none->eraG k es=es
  | [],_=>rfl
  | e::es,h=>by unfold getG at h;unfold eraG;split at h;cases h;rename_i hk;rw [if_neg hk,Zben k es h]
variable {P:Program} {t kt el:TypeId} {H:Heap} {z:Value}
theorem Zbev (T:KeyTy P kt kv) {d:TypeDesc} (hd:P.underlying kt=some d) (k:κ): ∀(es:List (Gv κ)) (i:Nat) (w:Option (Nat×Value)),Instr.findNow d (kv k) (es.map (entG kv)) i=some w->w=idxG k es i
  | [],i,w,h=>by cases h;rfl
  | e::es,i,w,h=>by simp only [List.map_cons,Instr.findNow] at h;have hs:=T.now k e.1 d;unfold idxG;split at h;rename_i h1;cases h;have:=hs true hd h1;rw [if_pos (of_decide_eq_true this.symm)];rfl;rename_i h1;have:=hs false hd h1;rw [if_neg (of_decide_eq_false this.symm)];exact Zbev T hd k es (i+1) w h;cases h
theorem Zbeu (T:KeyTy P kt kv) (k:κ): ∀(es:List (Gv κ)) (i:Nat) (K:Option (Nat×Value)->Heap->Prop),K (idxG k es i) H->SemW P (Instr.findAsking kt (kv k) (es.map (entG kv)) i) H K
  | [],i,K,h=>h
  | e::es,i,K,h=>by
    unfold idxG at h;simp only [List.map_cons];unfold Instr.findAsking;refine (SemW.bind _ _ _ _).2 ?_;refine Zbii 6 Op.maxDepth (by unfold Op.maxDepth;omega) kt (kv k) (entG kv e).key (decide (k=e.1)) H _ (T.eq k e.1) ?_
    by_cases hk:k=e.1;rw [if_pos hk] at h;rw [decide_eq_true hk];exact h;rw [if_neg hk] at h;rw [decide_eq_false hk];exact Zbeu T k es (i+1) K h
theorem Zyr (T:KeyTy P kt kv) {k:κ} {es:List (Gv κ)} {K:Option (Nat×Value)->Heap->Prop} (h:K (idxG k es 0) H):SemW P (Instr.findKey kt (kv k) (es.map (entG kv))) H K:=by obtain ⟨d,hd⟩:=T.und;unfold Instr.findKey;refine (SemW.bind _ _ _ _).2 (Zp hd ?_);split;rename_i w hw;rw [← Zbev T hd k es 0 w hw] at h;exact h;exact Zbeu T k es 0 K h
theorem LkG (T:KeyTy P kt kv) (M:MapG P t kt el z) {b:Nat} {es:List (Gv κ)} {ck:Nat} {k:κ} {K:Value->Heap->Prop} (hm:MapB kv H b es ck)
    (h:K ((getG k es).getD z) H):SemW P (Instr.lookup t (.map (some b)) (kv k) false) H K:=by
  obtain ⟨it,hi,hz⟩:=M.zero;unfold Instr.lookup;refine (SemW.bind _ _ _ _).2 (Zp M.und ?_);refine (SemW.bind _ _ _ _).2 ?_;refine ⟨_,hm,rfl,?_⟩;refine (SemW.bind _ _ _ _).2 ?_;show SemW P (Instr.checkKey _ 10000 kt (kv k)>>= _) H _;refine (SemW.bind _ _ _ _).2 (T.chk _ _ _ _ ?_);refine (SemW.bind _ _ _ _).2 (Zyr T ?_);have hg:=Zqm k es 0;cases hf:idxG k es 0 with
  | some p=>
    rw [hf] at hg;have hg:getG k es=some p.2:=hg.symm;rw [hg] at h;exact h
  | none=>
    rw [hf] at hg;have hg:getG k es=none:=hg.symm;rw [hg] at h;show SemW P (zeroValue el>>= _) H _;exact (SemW.bind _ _ _ _).2 (Zbil hi hz h)
theorem DelG (T:KeyTy P kt kv) (M:MapG P t kt el z) {b:Nat} {es:List (Gv κ)} {ck:Nat} {k:κ} {K:Value->Heap->Prop} {tys:List TypeId} {ty:TypeId} (hm:MapB kv H b es ck)
    (h: ∀H',H'=H.upd b (.map ⟨(eraG k es).map (entG kv)⟩ ck)->K (.tuple #[]) H'):SemW P (Builtin.delete_ ⟨t::tys⟩ ty ⟨[.map (some b),kv k]⟩) H K:=by
  unfold Builtin.delete_;show SemW P (underlying t>>= _) H K;refine (SemW.bind _ _ _ _).2 (Zp M.und ?_);show SemW P (getObj b>>= _) H K;refine (SemW.bind _ _ _ _).2 ⟨_,hm,rfl,?_⟩;show SemW P (Instr.checkKey _ 10000 kt (kv k)>>= _) H K;refine (SemW.bind _ _ _ _).2 (T.chk _ _ _ _ ?_);refine (SemW.bind _ _ _ _).2 (Zyr T ?_);have hg:=Zqm k es 0;cases hf:idxG k es 0 with
  | some p=>
    obtain ⟨d,e1,e2⟩:=Zbfl (kv:=kv) k es 0 p.1 p.2 hf;refine (SemW.bind _ _ _ _).2 ⟨⟨_,hm,rfl,rfl⟩,?_⟩;have e:(⟨es.map (entG kv)⟩:Array MapEntry).eraseIdxIfInBounds p.1=⟨(eraG k es).map (entG kv)⟩:=by rw [e1,Nat.zero_add,← e2];apply Array.ext';simp
    rw [e];exact h _ rfl
  | none=>
    rw [hf] at hg;have hg:getG k es=none:=hg.symm;refine (SemW.bind _ _ _ _).2 ⟨⟨_,hm,rfl,rfl⟩,?_⟩;rw [Zben k es hg] at h;exact h _ rfl
theorem LenG (M:MapG P t kt el z) {b:Nat} {es:List (Gv κ)} {ck:Nat} {ty:TypeId} {K:Value->Heap->Prop} (hm:MapB kv H b es ck) (h:K (.int .i64 es.length) H):SemW P (Builtin.len_ #[t] ty ⟨[.map (some b)]⟩) H K:=by
  unfold Builtin.len_;show SemW P (underlying t>>= _) H K;refine (SemW.bind _ _ _ _).2 (Zp M.und ?_);show SemW P (getObj b>>= _) H K;refine (SemW.bind _ _ _ _).2 ⟨_,hm,rfl,?_⟩;have e:(⟨es.map (entG kv)⟩:Array MapEntry).size=es.length:=by simp
  show K (.int .i64 ((⟨es.map (entG kv)⟩:Array MapEntry).size:Int)) H;rw [e];exact h
theorem MeG (T:KeyTy P kt kv) (M:MapG P t kt el z) {b:Nat} {es:List (Gv κ)} {ck:Nat} {k:κ} {K:Value->Heap->Prop} (hm:MapB kv H b es ck) (hn:getG k es=none)
    (h: ∀H',H'=H.upd b (.map ⟨(es++[(k,z,ck)]).map (entG kv)⟩ (ck+1))->K (.tuple #[z,.int .i64 ck]) H'):SemW P (Instr.mapEntry t (.map (some b)) (kv k)) H K:=by
  obtain ⟨it,hi,hz⟩:=M.zero;unfold Instr.mapEntry;refine (SemW.bind _ _ _ _).2 (Zp M.und ?_);refine (SemW.bind _ _ _ _).2 ?_;refine ⟨_,hm,rfl,?_⟩;refine (SemW.bind _ _ _ _).2 (T.chk _ _ _ _ ?_);refine (SemW.bind _ _ _ _).2 (Zyr T ?_);have hg:=Zqm k es 0;rw [hn] at hg;cases hf:idxG k es 0 with
  | some p=>rw [hf] at hg;cases hg
  | none=>
    show SemW P (zeroValue el>>= _) H _;refine (SemW.bind _ _ _ _).2 (Zbil hi hz ?_);refine (SemW.bind _ _ _ _).2 ⟨⟨_,hm,rfl,rfl⟩,?_⟩;have e:(⟨es.map (entG kv)⟩:Array MapEntry).push { key:=kv k,val:=z,born:=ck }=⟨(es++[(k,z,ck)]).map (entG kv)⟩:=by apply Array.ext';simp [entG]
    rw [e];exact h _ rfl
theorem EsG {b:Nat} {es:List (Gv κ)} {ck ck':Nat} {k:κ} {v x:Value} {K:Value->Heap->Prop} (hm:MapB kv H b (es++[(k,v,ck)]) ck') (hb: ∀e∈es,e.2.2<ck)
    (h: ∀H',H'=H.upd b (.map ⟨(es++[(k,x,ck)]).map (entG kv)⟩ ck')->K undef H'):EsW P t (.map (some b)) (.int .i64 ck) x H K:=by
  unfold EsW;refine (SemW.bind _ _ _ _).2 ?_;unfold Instr.entryStore;refine (SemW.bind _ _ _ _).2 ⟨_,hm,rfl,?_⟩;show SemW P (asInt (.int .i64 ck)>>= _) H _;refine (SemW.bind _ _ _ _).2 ?_;have hfind:(⟨(es++[(k,v,ck)]).map (entG kv)⟩:Array MapEntry).findIdx? (fun e=>(e.born:Int)==(ck:Int))=some es.length:=by
    show (((es++[(k,v,ck)]).map (entG kv)).toArray).findIdx? (fun e=>(e.born:Int)==(ck:Int))=_;rw [List.findIdx?_toArray];rw [List.map_append,List.findIdx?_append];have h0:(es.map (entG kv)).findIdx? (fun e=>(e.born:Int)==(ck:Int))=none:=by rw [List.findIdx?_eq_none_iff];intro e he;obtain ⟨e0,h0,rfl⟩:=List.mem_map.1 he;have:=hb e0 h0;simp [entG];omega
    rw [h0];simp [entG]
  show SemW P (match (⟨(es++[(k,v,ck)]).map (entG kv)⟩:Array MapEntry).findIdx? (fun e=>(e.born:Int)==(ck:Int)) with
    | some i=>setObj b (.map ((⟨(es++[(k,v,ck)]).map (entG kv)⟩:Array MapEntry).modify i fun e=>{ e with val:=x }) ck')
    | none=>unsupported (.noEntry "instr/MapEntry.the entry is gone")) H _
  rw [hfind];refine ⟨⟨_,hm,rfl,rfl⟩,?_⟩;have e:(⟨(es++[(k,v,ck)]).map (entG kv)⟩:Array MapEntry).modify es.length (fun e=>{ e with val:=x })=⟨(es++[(k,x,ck)]).map (entG kv)⟩:=by
    apply Array.ext';rw [Array.toList_modify];simp only [List.map_append,List.map_cons,List.map_nil];apply List.ext_getElem?
    intro i;rw [List.getElem?_modify];by_cases hi:i<es.length
    . rw [List.getElem?_append_left (by simpa using hi),List.getElem?_append_left (by simpa using hi)]
      have hne: ¬es.length=i:=by omega
      simp [hne]
    . rw [List.getElem?_append_right (by simp;omega),List.getElem?_append_right (by simp;omega)]
      simp only [List.length_map];by_cases h2:i=es.length;subst h2;simp [entG]
      . have:i - es.length≠0:=by omega
        obtain ⟨m,hm2⟩: ∃m,i - es.length=m+1:=⟨i - es.length - 1,by omega⟩
        rw [hm2];simp
  show K undef (H.upd b (.map ((⟨(es++[(k,v,ck)]).map (entG kv)⟩:Array MapEntry).modify es.length fun e=>{ e with val:=x }) ck'))
  rw [e];exact h _ rfl
end
theorem Zbwf {P:Program} {kt:TypeId} (hk:P.underlying kt=some (.int .i64)):KeyTy P kt (fun a:Int=>Value.int .i64 a):=
  ⟨fun a e H K h=>Zbud hk h,fun a b=>by
    unfold Zfj;rw [hk];show some (a==b)=some (decide (a=b));congr 1,fun a b d r hd h=>by
    rw [hk] at hd;cases hd;simp only [Instr.sameNow,if_true,Option.some.injEq] at h;rw [← h,Bool.eq_iff_iff];simp,⟨_,hk⟩⟩
end Go.Sh
end
section
namespace Go.Sh
open Go.ChangeShapes Go.WideShapes Go.ChangeAt Go.RowKit
theorem Keep.below {W W':World} (h:Keep Nil (hp W) (hp W')) (r:Rest W W'):Below W.heap.size W W':=by
  refine ⟨r.os,r.tape,r.output,?_,fun k hk=>h.same k (fun x=>x) ?_⟩
  . cases hs:W.heap.size with
    | zero=>omega
    | succ n=>
      have hlive:=h.live n (by change W.heap[n]? ≠none;rw [Array.getElem?_eq_getElem (by omega)];simp)
      have:n<W'.heap.size:=by apply Classical.byContradiction;intro hn;exact hlive (Array.getElem?_eq_none (by omega))
      omega
  change W.heap[k]? ≠none;rw [Array.getElem?_eq_getElem hk];simp
theorem Zccp {H:Type} {enc:TypeId×Value->H} {P:Program} (hl:laidOutB P=true) {W W':World} {sp:Nat->Bool}: ∀{ts:List TypeId} {vs:List Value} {ds:List (DataW H)} {ps:List MemPlace},
    ts.all (fun t=>P.readableRec t&&decide (t<P.types.size))=true->DataW.TrodAll enc P W 0 (fun _=>true) true ts vs ds ps->(∀p∈ps,W.sameAt W' p)->(∀p∈ps,sp p.block=true)->
    DataW.TrodAll enc P W' 0 sp true ts vs ds ps:=by
  intro ts;induction ts with
  | nil=>
    intro vs ds ps _ h _ _;cases vs<;>cases ds<;>first | exact h | exact h.elim
  | cons t ts ih=>
    intro vs ds ps ha h hs hp;obtain ⟨v,vs',d,ds',p,q,rfl,rfl,rfl,h1,h2⟩:=trodAll_cons h;simp only [List.all_cons,Bool.and_eq_true,decide_eq_true_eq] at ha;exact ⟨p,q,WideElems.Trod_stays hl ha.1.1 ha.1.2 h1 (fun x hx=>hs x (List.mem_append_left _ hx)) (fun x hx=>hp x (List.mem_append_left _ hx)),
      ih (by simpa using ha.2) h2 (fun x hx=>hs x (List.mem_append_right _ hx)) (fun x hx=>hp x (List.mem_append_right _ hx)),rfl⟩
theorem Zbyb {H:Type} {enc:TypeId×Value->H} {P:Program} {f:Func} {s:ChangeSpec} {apart fresh handsOn:Bool} {W W':World} {args:Array Value} {ds gs:List (DataW H)} {before:List MemPlace} {tb:TypeId}
    (hl:laidOutB P=true) (hpar:f.params.toList.all (fun t=>P.readableRec t&&decide (t<P.types.size))=true) (hv:s.vars= []) (hrt:f.resultTypes= #[tb]) (htb:P.underlying tb=some .bool)
    (hW:DataW.Whole enc P f.params.toList s.vars apart W args.toList ds gs before)
    (hs:s.fn H (ds++gs)= { results:=[.lit (.bool true)],args:=ds }) (hb:Below W.heap.size W W'):s.post enc P f apart fresh handsOn false W args (.bool true) W':=by
  have hlt:=hW.lt;have hW':=hW;obtain ⟨p,q,hA,hV,rfl,_,_⟩:=hW';have hV':=hV;rw [hv] at hV';obtain ⟨rfl,rfl⟩:=trodVars_none hV';rw [List.append_nil] at hlt hW;refine ⟨ds,[],p,[],p,[],hW,?_,?_,?_,?_,fun h=>by cases h⟩
  rw [hs,hrt];exact trodAll_mk1 (shut_bool htb true);rw [hs];exact Zccp hl hpar hA (fun x hx=>hb.same (hlt x hx)) (fun x hx=>by simpa using hlt x hx)
  rw [hs,hv];rfl
  . exact World.keptBut_mono (fun x hx=>⟨hx,.inr (.inl hx)⟩) (hb.frame (· ∈p))
theorem lifted {C:Checked} {os:Os} {f:FuncId} {fn:Func} {s:ChangeSpec} {conds:List PathCond} {apart fresh handsOn:Bool} {H:Type} {enc:TypeId×Value->H} {tb:TypeId}
    (own:ownKnob C.prog.godebug=none) (started:os.Started) (noInit:C.prog.inits.idxOf? f=none) (hfn:C.prog.funcs[f]? =some fn)
    (witness: ∃(w:World) (tape:Tape) (i:Input),w.os=os∧(w.forCall tape i).Shaped C.prog∧i.vars= []∧Input.okWide C.prog (w.forCall tape i) .any w.heap.size f i∧
      s.pre6 enc C.prog fn conds apart (w.forCall tape i).memory i.args∧Assume.holds {} C.prog (lone (Frame.enter C.prog f i.args .normal) [] (w.forCall tape i)))
    (hl:laidOutB C.prog=true) (hpar:fn.params.toList.all (fun t=>C.prog.readableRec t&&decide (t<C.prog.types.size))=true) (hv:s.vars= []) (hrt:fn.resultTypes= #[tb]) (htb:C.prog.underlying tb=some .bool)
    (walk: ∀(W:World) (base:Nat) (args:Array Value) (ds:List (DataW H)) (p:List MemPlace),(∀(j:Nat) t v,fn.params[j]? =some t->args[j]? =some v->Value.okWide C.prog W .any base t v)->
      DataW.TrodAll enc C.prog W 0 (fun _=>true) true fn.params.toList args.toList ds p->s.fn H ds= { results:=[.lit (.bool true)],args:=ds }∧
      FnW C.prog f args (hp W) fun v H'=>v= .bool true∧Keep Nil (hp W) H'):
    ReturnsInHanded {} C os f .any (s.pre6 enc C.prog fn conds apart) (s.post enc C.prog fn apart fresh handsOn false):=by
  refine returnsInHanded_of_change own started noInit hfn witness ?_;intro W base args ds gs before hval hW _ _;have hW':=hW;obtain ⟨p,q,hA,hV,rfl,_,_⟩:=hW';have hV':=hV;rw [hv] at hV';obtain ⟨rfl,rfl⟩:=trodVars_none hV';obtain ⟨hs,hf⟩:=walk W base args ds p hval hA;refine (hf.2 W rfl).mono fun e W' ⟨v,he,⟨hv',hk⟩,hr⟩=>?_;subst hv';exact ⟨_,he,Zbyb hl hpar hv hrt htb hW (by rw [List.append_nil];exact hs) (hk.below hr)⟩
theorem cell_spot {H:Heap} {a:Addr} {v:Value} (h:H.cell a=some v):a.spot=none∧∃c T fr,H a.block=some (.cells c T fr)∧c[a.off]? =some v:=by
  unfold Heap.cell at h;split at h
  . rename_i c T fr hb;cases hs:a.spot with
    | none=>rw [hs] at h;exact ⟨rfl,c,T,fr,hb,h⟩
    | some x=>rw [hs] at h;cases h
  cases h
theorem Zccq {H:Type} {enc:TypeId×Value->H} {P:Program} {W:World} {t e:TypeId} {fuel:Nat} {cs:List Value} {x:DataW H×List MemPlace} (ht:P.underlying t=some (.slice e)) (he:P.underlying e=some (.int .u8)) (hc:P.cellsOf e=1)
    (h:DataW.trod enc P W 0 (fun _=>true) true fuel t cs=some x):
    ∃(a:Option Addr) (n c:Nat) (bs:List UInt8),cs= [.slice a n c]∧n <= c∧c <= maxLen∧Reads (hp W) a n (bs.map fun x=> .int .u8 x.toNat):=by
  rcases open_ints ht he hc h with ⟨h1,_⟩ | ⟨a,n0,c0,zs,h1,_,hlc,hcm,hz,_,hcell,hwf⟩;exact ⟨none,0,0,[],h1,Nat.le_refl _,Nat.zero_le _,Reads.nil⟩
  . simp only [if_true] at hz;refine ⟨_,_,_,(zs.take n0).map fun z=>UInt8.ofNat z.toNat,h1,hlc,hcm,?_,fun h0=>?_⟩;simp;omega
    . obtain ⟨hsp,_⟩:=cell_spot (H:=hp W) (hcell 0 (by omega))
      refine ⟨by simpa [Addr.add] using hsp,?_⟩
      replace hsp:a.spot=none:=by simpa [Addr.add] using hsp
      have hcell': ∀i,i<zs.length->(hp W).cell ⟨a.block,a.off+i,Option.none⟩=some (.int .u8 (zs.getD i 0)):=fun i hi=>by rw [← Zdj hsp,Zkc];exact hcell i hi
      obtain ⟨_,c,T,fr,hb,_⟩:=cell_spot (hcell' 0 (by omega))
      refine ⟨c,T,fr,hb,fun j hj=>?_⟩;obtain ⟨_,c',T',fr',hb',hj'⟩:=cell_spot (hcell' j (by omega))
      rw [hb] at hb';cases hb';change c[a.off+j]? =_ at hj';rw [hj'];have hlen:j<zs.length:=by omega
      have hw:=hwf zs[j] (List.getElem_mem hlen);have hr:0 <= zs[j]∧zs[j]<256:=by have hm:IntKind.u8.min=0:=rfl;have hM:IntKind.u8.max=255:=rfl;simp [Lit.wf,hm,hM] at hw;omega
      have e1:zs.getD j 0=zs[j]:=by simp [hlen]
      rw [e1];rw [List.getElem?_map,List.getElem?_map,List.getElem?_take_of_lt hj,List.getElem?_eq_getElem hlen];simp only [Option.map_some];congr 2;simp only [UInt8.toNat_ofNat'];omega
theorem Zmx {l:List Value} {o:Nat} {v:Value} (h:(l.drop o).take 1= [v]):l[o]? =some v:=by
  have:((l.drop o).take 1)[0]? =some v:=by rw [h];rfl
  rw [List.getElem?_take_of_lt (by omega),List.getElem?_drop] at this
  exact this
end Go.Sh
end
