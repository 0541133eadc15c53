/-
 Values that are built of new blocks alone:frozen parts of the heap,and rows that grow.
-/
import Derived.Test.YtlkdgfolbllngaaGreatDoorWA
import Derived.Test.YtlkdgfolbllngaaGreatDoorGA
import Derived.Test.YtlkdgfolbllngaaGreatDoorBI
import Derived.Test.YtlkdgfolbllngaaGreatDoorGB
set_option linter.all false
section
set_option maxRecDepth 100000
namespace Go.Proofs.YtlkdgfolbllngaaGreatDoor
open Go.Sh Go.Pc
section
variable {H0 F F' H H' H1:Heap} {α:Type}
structure Fr (H0 F H:Heap):Prop where
 k:Keep Nil H0 H
 fr:Keep Nil F H
 nw: ∀b,F b≠none->H0 b=none
 cells: ∀b,F b≠none->∃c T f,F b=some (.cells c T f)
structure Lq (H0 F H:Heap) (q:Nat) (T:TypeId) (vs:List Value):Prop where
 nw:H0 q=none
 nf:F q=none
 blk:Blk H q T ⟨vs⟩
structure Gq (P:Heap->List Value->α->Prop) (sz:Nat) (Tq:TypeId) (H0 F H:Heap) (a:Option Addr) (n cap:Nat) (xs:List α):Prop where
 ex: ∃vs:List (List Value),Sh.Own H0 H a n cap sz Tq vs.flatten∧vs.length=n∧∀(i:Nat) (v:List Value) (x:α),vs[i]? =some v->xs[i]? =some x->P F v x
 len:xs.length=n
 nf: ∀y,a=some ⟨y,0,none⟩->F y=none
end
end Go.Proofs.YtlkdgfolbllngaaGreatDoor
end
section
set_option maxRecDepth 100000
namespace Go.Proofs.YtlkdgfolbllngaaGreatDoor
open Go.Sh Go.Pc
section
variable {F H0 H H':Heap} {v:List Value} {α:Type}
def bw:Nat->Nat
 | 0=>7
 | d+1=>12+5*bw d
theorem Zbiw: ∀{l:List Cd},(∀c∈l,cdR c)->cdRs l
 | [],_=>by simp only [cdRs]
 | c::l,h=>by simp only [cdRs];exact ⟨h c List.mem_cons_self,Zbiw fun x hx=>h x (List.mem_cons_of_mem _ hx)⟩
end
end Go.Proofs.YtlkdgfolbllngaaGreatDoor
end
section
set_option maxRecDepth 100000
namespace Go.Proofs.YtlkdgfolbllngaaGreatDoor
open Go.Sh Go.Pc
def bs:Nat->Nat
 | 0=>0
 | d+1=>5*(bw 5+20+2*bs d)
section
variable {F H0 H H':Heap} {v:List Value}
theorem Zxe: ∀{l:List Sm},(∀c∈l,smR c)->smRs l
 | [],_=>by simp only [smRs]
 | c::l,h=>by simp only [smRs];exact ⟨h c List.mem_cons_self,Zxe fun x hx=>h x (List.mem_cons_of_mem _ hx)⟩
end
end Go.Proofs.YtlkdgfolbllngaaGreatDoor
end
section
namespace Go.Proofs.YtlkdgfolbllngaaGreatDoor
open Go.Sh
theorem Zbge (a:Nat):txt a=Lib.join [Lib.decDigits (a/16777216%256),Lib.decDigits (a/65536%256),Lib.decDigits (a/256%256),Lib.decDigits (a%256)] [46]:=by unfold txt;rw [Zgf,Zgf,Zgf,Zgf]
theorem Zbpb (a:Nat) (h:a<4294967296):prs (txt a)=(a,0):=by
 have hno: ∀u:Nat,(46:UInt8)∉Lib.decDigits u:=fun u=>Znb (Or.inl (by decide))
 have hs:spl 46 (txt a)= [Lib.decDigits (a/16777216%256),Lib.decDigits (a/65536%256),Lib.decDigits (a/256%256),Lib.decDigits (a%256)]:=by
  rw [Zbge];have e:Lib.join [Lib.decDigits (a/16777216%256),Lib.decDigits (a/65536%256),Lib.decDigits (a/256%256),Lib.decDigits (a%256)] [46]=Lib.decDigits (a/16777216%256)++46::(Lib.decDigits (a/65536%256)++46::(Lib.decDigits (a/256%256)++46::Lib.decDigits (a%256))):=by simp [Lib.join,List.intercalate,List.intersperse]
  rw [e,Zir (hno _),Zir (hno _),Zir (hno _),Zon (hno _)]
 have ho: ∀n:Nat,Zcw (Lib.decDigits (n%256))=true:=fun n=>Zkc.2 ⟨by rw [Zds];omega,by rw [Zds]⟩
 unfold prs;rw [hs,if_pos ⟨rfl,by simp only [List.all_cons,List.all_nil,ho,Bool.and_true]⟩]
 simp only [pv,List.foldl_cons,List.foldl_nil,Zds];congr 1;omega
theorem Zbqw (a:Nat):(47:UInt8)∉txt a:=by
 rw [Zbge];have hno: ∀u:Nat,(47:UInt8)∉Lib.decDigits u:=fun u=>Znb (Or.inl (by decide))
 have e:Lib.join [Lib.decDigits (a/16777216%256),Lib.decDigits (a/65536%256),Lib.decDigits (a/256%256),Lib.decDigits (a%256)] [46]=Lib.decDigits (a/16777216%256)++46::(Lib.decDigits (a/65536%256)++46::(Lib.decDigits (a/256%256)++46::Lib.decDigits (a%256))):=by simp [Lib.join,List.intercalate,List.intersperse]
 rw [e];simp only [List.mem_append,List.mem_cons,hno,false_or,or_false];decide
theorem Zcdw {a n:Nat} (ha:a<4294967296) (hr:right a (n:Int)=true):pfx (pfT a n)=some (a,n):=by
 have hn:n <= 32:=by have:=(Zwt.1 hr).2.1;omega
 unfold pfx pfT;rw [Zir (Zbqw a),Zon (Znb (Or.inl (by decide)))]
 simp only;rw [Zbpb a ha,Zds,if_pos ⟨rfl,Zen.2 ⟨by rw [Zds];omega,by rw [Zds]⟩,hr⟩]
theorem Zcdt (a n:Nat) (hn:n <= 99):(pfT a n).length <= 18:=by
 have h1:=Zsp a;have h2:=Zlh (u:=n) (k:=1) (by omega)
 unfold pfT;simp only [List.length_append,List.length_cons];omega
def Zke (t:Tok):Tok:=Zko t 0
def TkOk (t:Tok):Prop:=(∃c,Zgv c=true∧Zke t=(6,[c],0,0,0,0))∨(t.2.1≠[]∧t.2.1.all Zbm=true∧word t.2.1=some (Zke t))
theorem Zbrs {w:List UInt8} {t:Tok} (h:word w=some t):Zke t=t∧t.2.1=w:=by unfold word at h;split at h;split at h;cases h;exact ⟨rfl,rfl⟩;cases h;split at h;split at h;cases h;exact ⟨rfl,rfl⟩;cases h;split at h;split at h;cases h;exact ⟨rfl,rfl⟩;cases h;split at h;split at h;cases h;exact ⟨rfl,rfl⟩;cases h;split at h;cases h;exact ⟨rfl,rfl⟩;cases h
theorem Zbqs {p:UInt8->Bool}: ∀l:List UInt8,(l.takeWhile p).all p=true
 | []=>rfl
 | x::l=>by rw [List.takeWhile_cons];split;rename_i h;rw [List.all_cons,h,Zbqs l];rfl;rfl
theorem Zbqt {p:UInt8->Bool} {c:UInt8} {r:List UInt8} (hc:p c=false): ∀w:List UInt8,w.all p=true->(w++c::r).takeWhile p=w∧(w++c::r).dropWhile p=c::r
 | [],_=>by simp only [List.nil_append,List.takeWhile_cons,List.dropWhile_cons,hc];exact ⟨rfl,rfl⟩
 | x::w,h=>by rw [List.all_cons,Bool.and_eq_true] at h;obtain ⟨h1,h2⟩:=Zbqt (r:=r) hc w h.2;rw [List.cons_append,List.takeWhile_cons,if_pos h.1,List.dropWhile_cons,if_pos h.1,h1,h2];exact ⟨rfl,rfl⟩
theorem Zbqu {p:UInt8->Bool}: ∀w:List UInt8,w.all p=true->w.takeWhile p=w∧w.dropWhile p= []
 | [],_=>⟨rfl,rfl⟩
 | x::w,h=>by rw [List.all_cons,Bool.and_eq_true] at h;obtain ⟨h1,h2⟩:=Zbqu w h.2;rw [List.takeWhile_cons,if_pos h.1,List.dropWhile_cons,if_pos h.1,h1,h2];exact ⟨rfl,rfl⟩
theorem Zcdk (x:UInt8) (h:Zbm x=true):x≠10∧¬(x=32∨x=9)∧x≠35∧Zgv x=false:=by
 have: ∀x:UInt8,Zbm x=true->x≠10∧¬(x=32∨x=9)∧x≠35∧Zgv x=false:=Zja (by decide+kernel)
 exact this x h
theorem Zchh (x:UInt8) (h:Zgv x=true):x≠10∧¬(x=32∨x=9)∧x≠35:=by
 have: ∀x:UInt8,Zgv x=true->x≠10∧¬(x=32∨x=9)∧x≠35:=Zja (by decide+kernel)
 exact this x h
def wm:List (List UInt8)->Nat
 | []=>0
 | w::ws=>w.length+1+wm ws
theorem Zhb: ∀a b:List (List UInt8),wm (a++b)=wm a+wm b
 | [],b=>by simp [wm]
 | x::a,b=>by show x.length+1+wm (a++b)=x.length+1+wm a+wm b;rw [Zhb a b];omega
abbrev txs (l:List Tok):List (List UInt8):=l.map fun t=>t.2.1
theorem Zcjf {p:UInt8->Bool} (l:List UInt8):(l.takeWhile p).length+(l.dropWhile p).length=l.length:=by rw [← List.length_append,List.takeWhile_append_dropWhile]
theorem Zcbw: ∀(k:Nat) (s:List UInt8) (line:Int) (l:List Tok),s.length <= k->(∀t∈l,TkOk t)->(∀t∈(lex s line l).1,TkOk t)∧wm (txs (lex s line l).1) <= wm (txs l)+2*s.length:=by
 intro k;induction k with
 | zero=>
  intro s line l h hl;rw [show s= [] from List.eq_nil_of_length_eq_zero (by omega),Zlw];exact ⟨hl,Nat.le_add_right _ _⟩
 | succ k ih=>
  intro s line l h hl;cases s with
  | nil=>rw [Zlw];exact ⟨hl,Nat.le_add_right _ _⟩
  | cons c r=>
   simp only [List.length_cons] at h;rw [Zob];have hr: ∀(p:UInt8->Bool),(r.dropWhile p).length <= r.length:=fun p=>Znd r;have up: ∀(u:List UInt8) (line:Int),u.length <= r.length->(∀t∈(lex u line l).1,TkOk t)∧wm (txs (lex u line l).1) <= wm (txs l)+2*(c::r).length:=fun u line hu=>by
    have h1:=ih u line l (by omega) hl
    simp only [List.length_cons];exact ⟨h1.1,by omega⟩
   have hp: ∀(t:Tok) (u:List UInt8),u.length <= k->t.2.1.length+u.length <= r.length+1->1 <= t.2.1.length->TkOk (Zko t line)->(∀t'∈(Zfl l line (lex u line) t).1,TkOk t')∧wm (txs (Zfl l line (lex u line) t).1) <= wm (txs l)+2*(c::r).length:=fun t u hu hu2 h1 ht=>by
    unfold Zfl;split;exact ⟨fun t' ht'=>(by cases ht'),Nat.zero_le _⟩
    ·have h2:=ih u line (l++[Zko t line]) hu fun t' ht'=>by rcases List.mem_append.1 ht' with h | h;exact hl _ h;rw [List.mem_singleton] at h;rw [h];exact ht
     refine ⟨h2.1,?_⟩;have h3:=h2.2;simp only [txs,List.map_append,List.map_cons,List.map_nil] at h3 ⊢;rw [Zhb] at h3;have e:wm [(Zko t line).2.1]=t.2.1.length+1:=rfl;rw [e] at h3;simp only [List.length_cons];omega
   have no:(∀t∈(([],line,240):LexR).1,TkOk t)∧wm (txs (([],line,240):LexR).1) <= wm (txs l)+2*(c::r).length:=⟨fun t ht=>(by cases ht),Nat.zero_le _⟩
   split;exact up _ _ (Nat.le_refl _);split;exact up _ _ (Nat.le_refl _);split;split;exact up _ _ (hr _);exact no;split;rename_i hc;exact hp _ _ (by omega) (by show 1+r.length <= _;omega) (Nat.le_refl 1) (.inl ⟨c,hc,rfl⟩)
   split
   ·rename_i hc;have hne:(c::r).takeWhile Zbm≠[]:=by rw [List.takeWhile_cons,if_pos hc];simp
    have hall:=Zbqs (p:=Zbm) (c::r);have hlen:=Zcjf (p:=Zbm) (c::r);rw [List.dropWhile_cons,if_pos hc] at hlen;simp only [List.length_cons] at hlen;split
    ·rename_i t hw;obtain ⟨h1,h2⟩:=Zbrs hw;have h3:1 <= t.2.1.length:=by rw [h2];exact List.length_pos_iff.2 hne
     refine hp _ _ (by have:=hr Zbm;omega) (by rw [h2];omega) h3 (.inr ?_)
     show t.2.1≠[]∧t.2.1.all Zbm=true∧word t.2.1=some (Zke t);rw [h2,h1];exact ⟨hne,hall,hw⟩
    exact no
   exact no
def jnT:List Tok->List UInt8
 | []=>[]
 | x::r=>x.2.1++r.flatMap fun y=>32::y.2.1
theorem Zbly: ∀l:List Tok,Lib.join (txs l) [32]=jnT l
 | []=>rfl
 | [x]=>by simp [Lib.join,jnT,List.intercalate,List.intersperse]
 | x::y::r=>by
  have ih:=Zbly (y::r);have e:Lib.join (txs (x::y::r)) [32]=x.2.1++([32]++Lib.join (txs (y::r)) [32]):=by simp [Lib.join,List.intercalate,List.intersperse]
  rw [e,ih];simp [jnT]
theorem Zbmn {t:Tok} (ht:TkOk t) {rest:List UInt8} (hb:rest= []∨∃q,rest=32::q) (line:Int) (l:List Tok) (hl:l.length<4096):lex (t.2.1++rest) line l=lex rest line (l++[Zko (Zke t) line]):=by
 rcases ht with ht | ht
 ·obtain ⟨c,hc,he⟩:=ht;obtain ⟨h1,h2,h3⟩:=Zchh c hc;have hw:t.2.1= [c]:=by have:=congrArg (fun t:Tok=>t.2.1) he;exact this
  rw [hw,he];show lex (c::rest) line l=_;rw [Zob,if_neg h1,if_neg h2,if_neg h3,if_pos hc];unfold Zfl;rw [if_neg (by omega)]
 ·obtain ⟨hne,hall,hw⟩:=ht;have hta:(t.2.1++rest).takeWhile Zbm=t.2.1∧(t.2.1++rest).dropWhile Zbm=rest:=by rcases hb with rfl | ⟨q,rfl⟩;rw [List.append_nil];have h:=List.all_eq_true.1 hall;exact Zbqu _ hall;exact Zbqt (by decide) t.2.1 hall
  generalize t.2.1=w at*;cases w with
  | nil=>exact absurd rfl hne
  | cons c w=>
   rw [List.all_cons,Bool.and_eq_true] at hall;obtain ⟨h1,h2,h3,h4⟩:=Zcdk c hall.1;have hdr:(w++rest).dropWhile Zbm=rest:=by have:=hta.2;rwa [List.cons_append,List.dropWhile_cons,if_pos hall.1] at this
   rw [List.cons_append,Zob,if_neg h1,if_neg h2,if_neg h3,if_neg (by rw [h4];decide),if_pos hall.1,← List.cons_append,hta.1,hw,hdr]
   dsimp only;unfold Zfl;rw [if_neg (by omega)]
theorem Zbmm: ∀(r:List Tok) (acc:List Tok),(∀t∈r,TkOk t)->acc.length+r.length <= 4096->lex (r.flatMap fun y=>32::y.2.1) 1 acc=(acc++r.map fun t=>Zko (Zke t) 1,0,0)
 | [],acc,_,_=>by show lex [] 1 acc=_;rw [Zlw];simp
 | y::r,acc,h,hl=>by
  simp only [List.length_cons] at hl;have sp:(r.flatMap fun y:Tok=>32::y.2.1)= []∨∃q,(r.flatMap fun y:Tok=>32::y.2.1)=32::q:=by
   cases r with
   | nil=>exact .inl rfl
   | cons y r=>exact .inr ⟨_,rfl⟩
  show lex (32::(y.2.1++r.flatMap fun y=>32::y.2.1)) 1 acc=_;rw [Zob,if_neg (by decide),if_pos (.inl rfl),Zbmn (h y List.mem_cons_self) sp 1 acc (by omega),Zbmm r _ (fun t ht=>h t (List.mem_cons_of_mem _ ht)) (by rw [List.length_append,List.length_singleton];omega)]
  simp
theorem Zcbt (l:List Tok) (h: ∀t∈l,TkOk t) (hl:l.length <= 4096):lex (jnT l) 1 []=(l.map fun t=>Zko (Zke t) 1,0,0):=by
 cases l with
 | nil=>exact Zlw _ _
 | cons x r=>
  have sp:(r.flatMap fun y:Tok=>32::y.2.1)= []∨∃q,(r.flatMap fun y:Tok=>32::y.2.1)=32::q:=by
   cases r with
   | nil=>exact .inl rfl
   | cons y r=>exact .inr ⟨_,rfl⟩
  show lex (x.2.1++r.flatMap fun y=>32::y.2.1) 1 []=_;simp only [List.length_cons] at hl;rw [Zbmn (h x List.mem_cons_self) sp 1 [] (by simp),Zbmm r _ (fun t ht=>h t (List.mem_cons_of_mem _ ht)) (by simp;omega)]
  simp
theorem Zbde: ∀ws:List (List UInt8),(Lib.join ws [32]).length <= wm ws
 | []=>Nat.le_refl 0
 | [x]=>by simp [Lib.join,List.intercalate,List.intersperse,wm]
 | x::y::r=>by
  have ih:=Zbde (y::r);have e:Lib.join (x::y::r) [32]=x++([32]++Lib.join (y::r) [32]):=by simp [Lib.join,List.intercalate,List.intersperse]
  rw [e];simp only [List.length_append,List.length_singleton];show _ <= x.length+1+wm (y::r);omega
def GW (w:List UInt8):Prop:=∃t:Tok,TkOk t∧t.2.1=w
theorem Zbli: ∀ws:List (List UInt8),(∀w∈ws,GW w)->∃l:List Tok,txs l=ws∧∀t∈l,TkOk t
 | [],_=>⟨[],rfl,fun t h=>(by cases h)⟩
 | w::ws,h=>by
  obtain ⟨t,ht,rfl⟩:=h w List.mem_cons_self;obtain ⟨l,e,hl⟩:=Zbli ws fun w hw=>h w (List.mem_cons_of_mem _ hw);refine ⟨t::l,by simp only [txs,List.map_cons] at e ⊢;rw [e],fun u hu=>?_⟩
  rcases List.mem_cons.1 hu with rfl | hu;exact ht;exact hl u hu
theorem Zbzs {w:List UInt8} (h:GW w):1 <= w.length:=by
 obtain ⟨t,ht | ht,rfl⟩:=h
 ·obtain ⟨c,_,e⟩:=ht;have hw:t.2.1= [c]:=by have:=congrArg (fun t:Tok=>t.2.1) e;exact this
  rw [hw];exact Nat.le_refl 1
 exact List.length_pos_iff.2 ht.1
theorem Zcbx {ws:List (List UInt8)} (h: ∀w∈ws,GW w) (hn:ws.length <= 4096): ∃l:List Tok,lex (Lib.join ws [32]) 1 []=(l,0,0)∧txs l=ws∧∀t∈l,TkOk t:=by obtain ⟨l,rfl,hl⟩:=Zbli ws h;rw [Zbly];simp only [txs,List.length_map] at hn;refine ⟨_,Zcbt l hl hn,?_,fun t ht=>?_⟩;simp only [txs,List.map_map];exact List.map_congr_left fun t _=>rfl;obtain ⟨u,hu,rfl⟩:=List.mem_map.1 ht;exact hl u hu
end Go.Proofs.YtlkdgfolbllngaaGreatDoor
end
section
namespace Go.Proofs.YtlkdgfolbllngaaGreatDoor
open Go.Sh
def nR (n:Int):Prop:=0 <= n∧n <= 4294967295
def pxR (pa pl:Int):Prop:=u32R pa∧right pa.toNat pl=true
theorem Znc (n:Nat):(Lib.decDigits n).all Zhn=true:=by
 have hc:canon (Lib.decDigits n):=Zbaq.2 (by rw [Zds])
 rw [List.all_eq_true];intro x hx;have:=hc.2.1 x hx;unfold Zhn;rw [decide_eq_true this.1,decide_eq_true this.2];rfl
theorem Zbyp (n:Nat):Lib.decDigits n≠[]:=(Zbaq.2 (show Lib.decDigits (val (Lib.decDigits n))=Lib.decDigits n by rw [Zds])).1
theorem Zwm (x:UInt8) (h:Zhn x=true):Zbm x=true:=by unfold Zbm;rw [h];rfl
theorem Zbrq (n:Nat) (h:n <= 4294967295):word (Lib.decDigits n)=some (2,Lib.decDigits n,(n:Int),0,0,0):=by unfold word;rw [if_pos (Znc n),if_pos (Zen.2 ⟨by rw [Zds];exact h,by rw [Zds]⟩),Zds]
theorem Znu {w:List UInt8} {u:Tok} (h1:w≠[]) (h2:w.all Zbm=true) (h3:word w=some u):GW w:=by obtain ⟨e,e2⟩:=Zbrs h3;refine ⟨u,.inr ?_,e2⟩;rw [e2,e];exact ⟨h1,h2,h3⟩
theorem Zbzu (n:Nat) (h:n <= 4294967295):GW (Lib.decDigits n):=Znu (Zbyp n) (List.all_eq_true.2 fun x hx=>Zwm x (List.all_eq_true.1 (Znc n) x hx)) (Zbrq n h)
theorem Zbdv {w:List UInt8} {p:UInt8->Bool} {x:UInt8} (hx:x∈w) (hp:p x=false): ¬w.all p=true:=fun h=>by have:=List.all_eq_true.1 h x hx;rw [hp] at this;cases this
theorem Zbrp (a b:Nat) (ha:a <= 65535) (hb:b <= 65535):word (Lib.decDigits a++58::Lib.decDigits b)=some (5,Lib.decDigits a++58::Lib.decDigits b,((65536*a+b:Nat):Int),0,0,0):=by
 have hm:(58:UInt8)∈Lib.decDigits a++58::Lib.decDigits b:=by simp
 have h47:(47:UInt8)∉Lib.decDigits a++58::Lib.decDigits b:=by
  have hno: ∀u:Nat,(47:UInt8)∉Lib.decDigits u:=fun u=>Znb (Or.inl (by decide))
  simp only [List.mem_append,List.mem_cons,hno,false_or,or_false];decide
 unfold word;rw [if_neg (Zbdv hm (by decide)),if_neg h47,if_pos hm,Zbja (Znb (Or.inr (by decide))),if_pos ⟨Zen.2 ⟨by rw [Zds];exact ha,by rw [Zds]⟩,Zen.2 ⟨by rw [Zds];exact hb,by rw [Zds]⟩⟩,Zds,Zds]
theorem Zbzq (a b:Nat) (ha:a <= 65535) (hb:b <= 65535):GW (Lib.decDigits a++58::Lib.decDigits b):=Znu (by simp) (by
 rw [List.all_append,List.all_cons,List.all_eq_true.2 fun x hx=>Zwm x (List.all_eq_true.1 (Znc a) x hx),List.all_eq_true.2 fun x hx=>Zwm x (List.all_eq_true.1 (Znc b) x hx)];decide) (Zbrp a b ha hb)
theorem Zbgd (a:Nat):txt a=Lib.decDigits (a/16777216%256)++46::(Lib.decDigits (a/65536%256)++46::(Lib.decDigits (a/256%256)++46::Lib.decDigits (a%256))):=by rw [Zbge];simp [Lib.join,List.intercalate,List.intersperse]
theorem Zbgc (a:Nat):(txt a).all (fun x=>Zhn x||x==46)=true:=by
 have h: ∀n:Nat,(Lib.decDigits n).all (fun x=>Zhn x||x==46)=true:=fun n=>List.all_eq_true.2 fun x hx=>by rw [List.all_eq_true.1 (Znc n) x hx];rfl
 rw [Zbgd];simp only [List.all_append,List.all_cons,h];decide
theorem Zbqv (a:Nat):(46:UInt8)∈txt a:=by rw [Zbgd];simp
theorem Zcjm (a:Nat):(58:UInt8)∉txt a:=by
 have hno: ∀u:Nat,(58:UInt8)∉Lib.decDigits u:=fun u=>Znb (Or.inr (by decide))
 rw [Zbgd];simp only [List.mem_append,List.mem_cons,hno,false_or,or_false];decide
theorem Zbjw: ∀x:UInt8,(Zhn x||x==46)=true->Zbm x=true:=Zja (by decide+kernel)
theorem Zbrt (a:Nat) (h:a<4294967296):word (txt a)=some (3,txt a,(a:Int),0,0,0):=by unfold word;rw [if_neg (Zbdv (Zbqv a) (by decide)),if_neg (Zbqw a),if_neg (Zcjm a),if_pos (Zbgc a),Zbpb a h,if_pos rfl]
theorem Zcjn (a:Nat):txt a≠[]:=fun e=>by have:=Zbqv a;rw [e] at this;cases this
theorem Zbzv (a:Nat) (h:a<4294967296):GW (txt a):=Znu (Zcjn a) (List.all_eq_true.2 fun x hx=>Zbjw x (List.all_eq_true.1 (Zbgc a) x hx)) (Zbrt a h)
theorem Zoi {pa pl:Int} (h:pxR pa pl):pxT pa pl=pfT pa.toNat pl.toNat∧0 <= pl∧pl <= 32∧(UInt32.ofNat pa.toNat).toNat=pa.toNat:=by
 obtain ⟨h1,h2⟩:=h;have hr:=Zwt.1 h2;have e:(UInt32.ofNat pa.toNat).toNat=pa.toNat:=UInt32.toNat_ofNat_of_lt' (by show pa.toNat<4294967296;have:=h1.2;have:=h1.1;omega)
 refine ⟨?_,hr.1,hr.2.1,e⟩;unfold pxT pT;rw [e,if_pos h2]
theorem Zbom (a n:Nat):(47:UInt8)∈pfT a n:=by unfold pfT;simp
theorem Zbrr {pa pl:Int} (h:pxR pa pl):word (pxT pa pl)=some (4,pxT pa pl,0,UInt32.ofNat pa.toNat,pl,0):=by
 obtain ⟨e,h0,h1,h2⟩:=Zoi h;have hr:right pa.toNat (pl.toNat:Int)=true:=by
  rw [show (pl.toNat:Int)=pl by omega];exact h.2
 have hlt:pa.toNat<4294967296:=by have:=h.1.2;have:=h.1.1;omega
 rw [e];unfold word;rw [if_neg (Zbdv (Zbom _ _) (by decide)),if_pos (Zbom _ _),Zcdw hlt hr]
 simp only;rw [show (pl.toNat:Int)=pl by omega]
theorem Zblh {pa pl:Int} (h:pxR pa pl):GW (pxT pa pl):=Znu (by rw [(Zoi h).1];unfold pfT;simp) (by
 rw [(Zoi h).1];unfold pfT;rw [List.all_append,List.all_cons,List.all_eq_true.2 fun x hx=>Zbjw x (List.all_eq_true.1 (Zbgc _) x hx),List.all_eq_true.2 fun x hx=>Zwm x (List.all_eq_true.1 (Znc _) x hx)];decide) (Zbrr h)
theorem Zbdd {n:Int} (h:nR n):Lib.itoa n=Lib.decDigits n.toNat:=by have:=Zgf n.toNat;rwa [show ((n.toNat:Nat):Int)=n by have:=h.1;omega] at this
theorem Zbax {n:Int} (h:nR n):Zel n=Lib.decDigits (n.toNat/65536)++58::Lib.decDigits (n.toNat%65536):=by
 have h0:=h.1;unfold Zel;have e1:Int.tdiv n 65536=((n.toNat/65536:Nat):Int):=by rw [Int.tdiv_eq_ediv_of_nonneg h0];omega
 have e2:Int.tmod n 65536=((n.toNat%65536:Nat):Int):=by rw [Int.tmod_eq_emod_of_nonneg h0];omega
 rw [e1,e2,Zgf,Zgf]
theorem Zsn {t u:Tok} (h:TkOk t) (hw:word t.2.1=some u):Zke t=u:=by
 rcases h with ⟨c,hc,e⟩ | ⟨_,_,h⟩
 ·have ht:t.2.1= [c]:=by have:=congrArg (fun t:Tok=>t.2.1) e;exact this
  rw [ht] at hw;have hn: ∀c:UInt8,Zgv c=true->word [c]=none:=by intro c hc;unfold Zgv at hc;simp only [Bool.or_eq_true,beq_iff_eq] at hc;rcases hc with (((rfl | rfl) | rfl) | rfl) | rfl<;>rfl
  rw [hn c hc] at hw;cases hw
 rw [h] at hw;injection hw
theorem tk_1 {t:Tok} (h:TkOk t) {n:Int} (e:t.2.1=Lib.itoa n) (hn:nR n):t.1=2∧t.2.2.1=n:=by
 have:=Zsn h (u:=(2,Lib.itoa n,n,0,0,0)) (by
  rw [e,Zbdd hn,Zbrq _ (by have:=hn.1;have:=hn.2;omega)]
  rw [show ((n.toNat:Nat):Int)=n by have:=hn.1;omega])
 have h1:=congrArg (fun t:Tok=>t.1) this;have h2:=congrArg (fun t:Tok=>t.2.2.1) this;exact ⟨h1,h2⟩
theorem tk_5 {t:Tok} (h:TkOk t) {n:Int} (e:t.2.1=Zel n) (hn:nR n):t.1=5∧t.2.2.1=n:=by
 have:=Zsn h (u:=(5,Zel n,n,0,0,0)) (by
  rw [e,Zbax hn,Zbrp _ _ (by have:=hn.1;have:=hn.2;omega) (by omega)]
  rw [show ((65536*(n.toNat/65536)+n.toNat%65536:Nat):Int)=n by have:=hn.1;omega])
 have h1:=congrArg (fun t:Tok=>t.1) this;have h2:=congrArg (fun t:Tok=>t.2.2.1) this;exact ⟨h1,h2⟩
theorem tk_3 {t:Tok} (h:TkOk t) {n:Int} (e:t.2.1=txt n.toNat) (hn:u32R n):t.1=3∧t.2.2.1=n:=by
 have:=Zsn h (u:=(3,txt n.toNat,n,0,0,0)) (by
  rw [e,Zbrt _ (by have:=hn.1;have:=hn.2;omega)]
  rw [show ((n.toNat:Nat):Int)=n by have:=hn.1;omega])
 have h1:=congrArg (fun t:Tok=>t.1) this;have h2:=congrArg (fun t:Tok=>t.2.2.1) this;exact ⟨h1,h2⟩
theorem tk_4 {t:Tok} (h:TkOk t) {pa pl:Int} (e:t.2.1=pxT pa pl) (hn:pxR pa pl):t.1=4∧(t.2.2.2.1.toNat:Int)=pa∧t.2.2.2.2.1=pl:=by
 have:=Zsn h (u:=(4,pxT pa pl,0,UInt32.ofNat pa.toNat,pl,0)) (by rw [e,Zbrr hn])
 have h1:=congrArg (fun t:Tok=>t.1) this;have h2:=congrArg (fun t:Tok=>t.2.2.2.1) this;have h3:=congrArg (fun t:Tok=>t.2.2.2.2.1) this;have h2:t.2.2.2.1=UInt32.ofNat pa.toNat:=h2;refine ⟨h1,?_,h3⟩;rw [h2,(Zoi hn).2.2.2];have:=hn.1.1;omega
def NmR (w:List UInt8):Prop:=word w=some (1,w,0,0,0,0)∧w≠[]∧w.all Zbm=true
theorem Zcjb {t:Tok} (h:TkOk t) {w:List UInt8} (e:t.2.1=w) (hn:NmR w):t.1=1:=by
 have:=Zsn h (u:=(1,w,0,0,0,0)) (by rw [e];exact hn.1)
 have h1:=congrArg (fun t:Tok=>t.1) this;exact h1
theorem Zvh {w:List UInt8} (h:NmR w):GW w:=Znu h.2.1 h.2.2 h.1
def At (l:List Tok) (i:Nat) (ws:W8):Prop:=txs (l.drop i)=ws
section
variable {l:List Tok} {i:Nat} {w:List UInt8} {ws r:W8}
theorem At.hd (h:At l i (w::r)): ∃t,l[i]? =some t∧t.2.1=w∧At l (i+1) r:=by unfold At at h;have h0:=congrArg (fun x=>x[0]?) h;simp only [txs,List.getElem?_map,List.getElem?_drop,Nat.add_zero,List.getElem?_cons_zero,Option.map_eq_some_iff] at h0;obtain ⟨t,ht,e⟩:=h0;refine ⟨t,ht,e,?_⟩;unfold At;have h1:=congrArg (List.drop 1) h;simp only [txs] at h1 ⊢;rw [← List.map_drop,List.drop_drop] at h1;exact h1
theorem At.tl (h:At l i (w::r)):At l (i+1) r:=by obtain ⟨_,_,_,h⟩:=h.hd;exact h
theorem At.skip: ∀{ws:W8} {i:Nat},At l i (ws++r)->At l (i+ws.length) r
 | [],i,h=>h
 | x::ws,i,h=>by
  have:=At.skip (ws:=ws) (At.tl (w:=x) h);rw [List.length_cons,show i+(ws.length+1)=i+1+ws.length by omega]
  exact this
theorem At.yes (h:At l i (w::r)):isT l w i=true:=by obtain ⟨t,ht,e,_⟩:=h.hd;unfold isT;rw [ht];simp [e]
theorem At.no (h:At l i (w::r)) (s:List UInt8) (hne:w≠s): ¬isT l s i=true:=by obtain ⟨t,ht,e,_⟩:=h.hd;unfold isT;rw [ht];show ¬(t.2.1==s)=true;rw [e];simpa using hne
theorem At.lt (h:At l i (w::r)):i<l.length:=by obtain ⟨t,ht,_⟩:=h.hd;exact (List.getElem?_eq_some_iff.1 ht).1
theorem At.len (h:At l i ws) (hi:i <= l.length):i+ws.length=l.length:=by have:=congrArg List.length h;simp only [txs,List.length_map,List.length_drop] at this;omega
variable (hl: ∀t∈l,TkOk t)
include hl
theorem At.tok (h:At l i (w::r)): ∃t,l[i]? =some t∧t.2.1=w∧TkOk t:=by obtain ⟨t,ht,e,_⟩:=h.hd;obtain ⟨hi,e2⟩:=List.getElem?_eq_some_iff.1 ht;exact ⟨t,ht,e,e2▸hl _ (List.getElem_mem hi)⟩
theorem At.num {n:Int} (h:At l i (Lib.itoa n::r)) (hn:nR n):numS l 2 i= .ok (n,i+1):=by obtain ⟨t,ht,e,hk⟩:=h.tok hl;obtain ⟨h1,h2⟩:=tk_1 hk e hn;unfold numS tokS;rw [ht];simp only [h1,if_true,bS,h2]
theorem At.com {n:Int} (h:At l i (Zel n::r)) (hn:nR n):numS l 5 i= .ok (n,i+1):=by obtain ⟨t,ht,e,hk⟩:=h.tok hl;obtain ⟨h1,h2⟩:=tk_5 hk e hn;unfold numS tokS;rw [ht];simp only [h1,if_true,bS,h2]
theorem At.adr {n:Int} (h:At l i (txt n.toNat::r)) (hn:u32R n):numS l 3 i= .ok (n,i+1):=by obtain ⟨t,ht,e,hk⟩:=h.tok hl;obtain ⟨h1,h2⟩:=tk_3 hk e hn;unfold numS tokS;rw [ht];simp only [h1,if_true,bS,h2]
theorem At.px {pa pl:Int} (h:At l i (pxT pa pl::r)) (hn:pxR pa pl): ∃t:Tok,tokS l 4 i= .ok (t,i+1)∧(t.2.2.2.1.toNat:Int)=pa∧t.2.2.2.2.1=pl:=by obtain ⟨t,ht,e,hk⟩:=h.tok hl;obtain ⟨h1,h2,h3⟩:=tk_4 hk e hn;refine ⟨t,?_,h2,h3⟩;unfold tokS;rw [ht];simp only [h1,if_true]
theorem At.name (h:At l i (w::r)) (hn:NmR w):txtS l 1 i= .ok (w,i+1):=by obtain ⟨t,ht,e,hk⟩:=h.tok hl;have h1:=Zcjb hk e hn;unfold txtS tokS;rw [ht];simp only [h1,if_true,bS,e]
omit hl in
theorem At.want (h:At l i (w::r)):Zcv l w i= .ok ((),i+1):=by unfold Zcv;rw [if_pos h.yes]
end
end Go.Proofs.YtlkdgfolbllngaaGreatDoor
end
section
namespace Go.Proofs.YtlkdgfolbllngaaGreatDoor
open Go.Sh
def okL (op pa pl n:Int):Prop:=(op=4∧pxR pa pl∧nR n)∨(op=5∧pxR pa pl∧n=0)∨((op=6∨op=7∨op=8∨op=9∨op=10∨op=12)∧pa=0∧pl=0∧nR n)∨(op=11∧pa=0∧pl=0∧(n=0∨n=1∨n=2))
mutual
def okK:Cd->Prop
 | .mk op l pa pl n=>(((op=1∨op=2)∧2 <= l.length∧pa=0∧pl=0∧n=0)∨(op=3∧l.length=1∧pa=0∧pl=0∧n=0)∨(l= []∧okL op pa pl n))∧okKs l
def okKs:List Cd->Prop
 | []=>True
 | c::cs=>okK c∧okKs cs
end
mutual
def dC:Cd->Int->Nat
 | .mk op l pa pl n,lv=>if op=1 then (if lv≥2 then 1 else 0)+dCs l 2 else if op=2 then (if lv≥1 then 1 else 0)+dCs l 1 else if op=3 then 1+dCs l 2 else 0
def dCs:List Cd->Int->Nat
 | [],_=>0
 | c::cs,lv=>max (dC c lv) (dCs cs lv)
end
theorem Zwg: ∀{l:List Cd},okKs l->∀c∈l,okK c
 | [],_,c,h=>by cases h
 | d::l,h,c,hc=>by simp only [okKs] at h;rcases List.mem_cons.1 hc with rfl | hc;exact h.1;exact Zwg h.2 c hc
theorem Zbbj: ∀{l:List Cd} {lv:Int} {c:Cd},c∈l->dC c lv <= dCs l lv
 | [],_,c,h=>by cases h
 | d::l,lv,c,hc=>by simp only [dCs];rcases List.mem_cons.1 hc with rfl | hc;exact Nat.le_max_left _ _;exact Nat.le_trans (Zbbj hc) (Nat.le_max_right _ _)
theorem Zbnt {op pa pl n:Int} (h:okL op pa pl n):4 <= op∧op <= 12:=by rcases h with ⟨rfl,_⟩ | ⟨rfl,_⟩ | ⟨h,_⟩ | ⟨rfl,_⟩<;>omega
section
variable {l:List Tok} (hl: ∀t∈l,TkOk t) {i:Nat} {rest:W8} {nx:List UInt8} {op pa pl n:Int}
include hl
theorem Zcdn {w:List UInt8} {k:Int} (hw:(w=Zey∧k=6)∨(w=Zfo∧k=7)∨(w=Zbe∧k=8)∨(w=Zgm∧k=9)) (hn:nR n) (h:At l i (w::Lib.itoa n::rest)):Zhr l i= .ok (.mk k [] 0 0 n,i+2):=by
 have e: ∀k:Int,Zff l k 2 (i+1)= .ok (.mk k [] 0 0 n,i+2):=fun k=>by unfold Zff;rw [h.tl.num hl hn];rfl
 unfold Zhr;rcases hw with ⟨rfl,rfl⟩ | ⟨rfl,rfl⟩ | ⟨rfl,rfl⟩ | ⟨rfl,rfl⟩;rw [if_pos h.yes,e];rw [if_neg (h.no Zey (by decide)),if_pos h.yes,e]
 rw [if_neg (h.no Zey (by decide)),if_neg (h.no Zfo (by decide)),if_pos h.yes,e]
 rw [if_neg (h.no Zey (by decide)),if_neg (h.no Zfo (by decide)),if_neg (h.no Zbe (by decide)),if_pos h.yes,e]
theorem Zcbs (hok:okL op pa pl n) (h:At l i (Zfx op pa pl n++rest)):Zcz l i= .ok (.mk op [] pa pl n,i+(Zfx op pa pl n).length):=by
 have path: ∀(w:List UInt8) (k:Int),((w=Zey∧k=6)∨(w=Zfo∧k=7)∨(w=Zbe∧k=8)∨(w=Zgm∧k=9))->nR n->At l i (Zbv::w::Lib.itoa n::rest)->Zcz l i= .ok (.mk k [] 0 0 n,i+3):=fun w k hw hn h=>by unfold Zcz;rw [if_neg (h.no Zdi (by decide)),if_pos h.yes,Zcdn hl hw hn h.tl]
 rcases hok with ⟨rfl,hp,hn⟩ | ⟨rfl,hp,rfl⟩ | ⟨hop,rfl,rfl,hn⟩ | ⟨rfl,rfl,rfl,hn⟩
 ·have h:At l i (Zdi::w_in::pxT pa pl::w_le::Lib.itoa n::rest):=h;show Zcz l i= .ok (_,i+5);obtain ⟨t,ht,h1,h2⟩:=h.tl.tl.px hl hp;unfold Zcz;rw [if_pos h.yes];unfold Zhu;rw [if_neg (h.tl.no w_is (by decide)),h.tl.want]
  simp only [bS];rw [ht];simp only;rw [if_pos h.tl.tl.tl.yes,h.tl.tl.tl.tl.num hl hn,h1,h2]
 have h:At l i (Zdi::w_is::pxT pa pl::rest):=h;show Zcz l i= .ok (_,i+3);obtain ⟨t,ht,h1,h2⟩:=h.tl.tl.px hl hp;unfold Zcz;rw [if_pos h.yes];unfold Zhu;rw [if_pos h.tl.yes,ht];simp only [bS];rw [h1,h2]
 ·rcases hop with rfl | rfl | rfl | rfl | rfl | rfl;exact path Zey 6 (.inl ⟨rfl,rfl⟩) hn h;exact path Zfo 7 (.inr (.inl ⟨rfl,rfl⟩)) hn h;exact path Zbe 8 (.inr (.inr (.inl ⟨rfl,rfl⟩))) hn h;exact path Zgm 9 (.inr (.inr (.inr ⟨rfl,rfl⟩))) hn h
  ·have h:At l i (Zdh::Zel n::rest):=h;show Zcz l i= .ok (_,i+2);unfold Zcz Zff;rw [if_neg (h.no Zdi (by decide)),if_neg (h.no Zbv (by decide)),if_pos h.yes,h.tl.com hl hn];rfl
  ·have h:At l i (Zbj::Zjn::Lib.itoa n::rest):=h;show Zcz l i= .ok (_,i+3);unfold Zcz Zff;rw [if_neg (h.no Zdi (by decide)),if_neg (h.no Zbv (by decide)),if_neg (h.no Zdh (by decide)),if_neg (h.no Zbe (by decide)),if_pos h.yes,h.tl.want]
   simp only [bS];rw [h.tl.tl.num hl hn]
 ·have go: ∀(w:List UInt8),At l i (Zbe::w::rest)->Zcz l i=Zfj l (i+1):=fun w h=>by unfold Zcz;rw [if_neg (h.no Zdi (by decide)),if_neg (h.no Zbv (by decide)),if_neg (h.no Zdh (by decide)),if_pos h.yes]
  rcases hn with rfl | rfl | rfl;have h:At l i (Zbe::Zgl::rest):=h;rw [go _ h];show Zfj l (i+1)= .ok (_,i+2);unfold Zfj;rw [if_pos h.tl.yes];have h:At l i (Zbe::Zha::rest):=h;rw [go _ h];show Zfj l (i+1)= .ok (_,i+2);unfold Zfj;rw [if_neg (h.tl.no Zgl (by decide)),if_pos h.tl.yes]
  have h:At l i (Zbe::Zhy::rest):=h;rw [go _ h];show Zfj l (i+1)= .ok (_,i+2);unfold Zfj;rw [if_neg (h.tl.no Zgl (by decide)),if_neg (h.tl.no Zha (by decide)),if_pos h.tl.yes]
omit hl in
theorem Zcbr (hok:okL op pa pl n): ∃w ws,Zfx op pa pl n=w::ws∧w≠Zgz∧w≠w_lp:=by
 rcases hok with ⟨rfl,hp,hn⟩ | ⟨rfl,hp,rfl⟩ | ⟨hop,rfl,rfl,hn⟩ | ⟨rfl,rfl,rfl,hn⟩;exact ⟨_,_,rfl,by decide,by decide⟩
 exact ⟨_,_,rfl,by decide,by decide⟩
 rcases hop with rfl | rfl | rfl | rfl | rfl | rfl<;>exact ⟨_,_,rfl,by decide,by decide⟩
 exact ⟨_,_,rfl,by decide,by decide⟩
omit hl in
theorem Zbnh {one:Nat->Rs Cd} {w:List UInt8} {inner:Int} {N:List UInt8->Prop} (hw:N w) (hnx:N nx) (hne:nx≠w): ∀(cs:List Cd) (f i:Nat),(∀c∈cs,∀(i:Nat) (nx:List UInt8) (rest:W8),N nx->At l i (wC c inner++nx::rest)->one i= .ok (c,i+(wC c inner).length))->
  At l i (wCs cs [w] inner false++nx::rest)->cs.length<f->Zfs l one w f i= .ok (cs,i+(wCs cs [w] inner false).length)
 | [],0,i,_,h,hf=>by simp at hf
 | [],f+1,i,_,h,hf=>by simp only [wCs,List.nil_append] at h;unfold Zfs;rw [if_neg (h.no w hne)];simp [wCs]
 | c::cs,0,i,_,h,hf=>by simp at hf
 | c::cs,f+1,i,hone,h,hf=>by
  simp only [wCs,Bool.false_eq_true,if_false,List.append_assoc,List.singleton_append,List.cons_append,List.nil_append] at h ⊢;unfold Zfs;rw [if_pos h.yes];have h1:=h.tl;have hn: ∃(nx':List UInt8) (rest':W8),N nx'∧wCs cs [w] inner false++nx::rest=nx'::rest':=by
   cases cs with
   | nil=>exact ⟨nx,rest,hnx,rfl⟩
   | cons d cs=>exact ⟨w,wC d inner++(wCs cs [w] inner false++nx::rest),hw,by simp only [wCs,Bool.false_eq_true,if_false,List.append_assoc,List.singleton_append,List.cons_append,List.nil_append]⟩
  obtain ⟨nx',rest',hn1,hn2⟩:=hn;have h2:=h1;rw [hn2] at h2;rw [hone c List.mem_cons_self _ _ _ hn1 h2];simp only [bS];rw [Zbnh hw hnx hne cs f _ (fun d hd=>hone d (List.mem_cons_of_mem _ hd)) h1.skip (by simp at hf;omega)]
  simp only [List.length_append,List.length_cons];rw [show i+1+(wC c inner).length+(wCs cs [w] inner false).length=i+((wC c inner).length+(wCs cs [w] inner false).length+1) by omega]
omit hl in
theorem Zbrh {w:List UInt8} {inner:Int}: ∀cs:List Cd,cs.length <= (wCs cs [w] inner false).length
 | []=>Nat.zero_le _
 | c::cs=>by have:=Zbrh (w:=w) (inner:=inner) cs;simp only [wCs,Bool.false_eq_true,if_false,List.length_append,List.length_cons,List.length_nil];omega
omit hl in
theorem Zvy {one:Nat->Rs Cd} {w:List UInt8} {inner:Int} {N:List UInt8->Prop} (hw:N w) (hnx:N nx) (hne:nx≠w) {op:Int} {c:Cd} {cs:List Cd} (hone: ∀d∈c::cs,∀(i:Nat) (nx:List UInt8) (rest:W8),N nx->At l i (wC d inner++nx::rest)->one i= .ok (d,i+(wC d inner).length))
  (h:At l i (wC c inner++(wCs cs [w] inner false++nx::rest))):Zii l one w op i= .ok (Zkg op c cs,i+((wC c inner).length+(wCs cs [w] inner false).length)):=by
 have hn: ∃(nx':List UInt8) (rest':W8),N nx'∧wCs cs [w] inner false++nx::rest=nx'::rest':=by
  cases cs with
  | nil=>exact ⟨nx,rest,hnx,rfl⟩
  | cons d cs=>exact ⟨w,wC d inner++(wCs cs [w] inner false++nx::rest),hw,by simp only [wCs,Bool.false_eq_true,if_false,List.append_assoc,List.singleton_append,List.cons_append,List.nil_append]⟩
 obtain ⟨nx',rest',hn1,hn2⟩:=hn;have h2:=h;rw [hn2] at h2;have h3:=h.skip;unfold Zii;rw [hone c List.mem_cons_self _ _ _ hn1 h2];simp only [bS];have hlen:=congrArg List.length h3;have hge:=Zbrh (w:=w) (inner:=inner) cs;simp only [txs,List.length_map,List.length_drop,List.length_append,List.length_cons] at hlen;rw [Zbnh hw hnx hne cs _ _ (fun d hd=>hone d (List.mem_cons_of_mem _ hd)) h3 (by omega)]
 simp only [Nat.add_assoc]
def Zlb (l:List Tok) (c:Cd):Prop:=∀(d i:Nat) (rest:W8),d+dC c 2 <= 24->At l i (wC c 2++rest)->oneS l (25 - d) d i= .ok (c,i+(wC c 2).length)
def Zpt (l:List Tok) (c:Cd):Prop:=∀(d i:Nat) (nx:List UInt8) (rest:W8),d+dC c 1 <= 24->nx≠Zfm->At l i (wC c 1++nx::rest)->allW l (oneS l (25 - d) d) i= .ok (c,i+(wC c 1).length)
def Zmm (l:List Tok) (c:Cd):Prop:=∀(d i:Nat) (nx:List UInt8) (rest:W8),d+dC c 0 <= 24->nx≠Zfm->nx≠w_or->At l i (wC c 0++nx::rest)->anyW l (oneS l (25 - d) d) i= .ok (c,i+(wC c 0).length)
omit hl in
theorem Zzy {c:Cd} (h1:Zlb l c) (e:wC c 1=wC c 2) (ed:dC c 1=dC c 2):Zpt l c:=by
 intro d i nx rest hd hnx h;rw [e] at h ⊢;rw [ed] at hd;have:=Zvy (l:=l) (N:=fun _=>True) (one:=oneS l (25 - d) d) (w:=Zfm) (inner:=2) (op:=1) (c:=c) (cs:=[]) (nx:=nx) (rest:=rest) (i:=i) trivial trivial hnx (fun d' hd' i nx rest _ h=>by
  rw [List.mem_singleton.1 hd'] at h ⊢;exact h1 d i _ hd h) (by simpa [wCs] using h)
 simpa [allW,Zkg,wCs] using this
omit hl in
theorem Zzz {c:Cd} (h1:Zpt l c) (e:wC c 0=wC c 1) (ed:dC c 0=dC c 1):Zmm l c:=by
 intro d i nx rest hd hnx hno h;rw [e] at h ⊢;rw [ed] at hd
 have:=Zvy (l:=l) (N:=fun w=>w≠Zfm) (one:=allW l (oneS l (25 - d) d)) (w:=w_or) (inner:=1) (op:=2) (c:=c) (cs:=[]) (nx:=nx) (rest:=rest) (i:=i) (by decide) hnx hno (fun d' hd' i nx rest hn h=>by
  rw [List.mem_singleton.1 hd'] at h ⊢;exact h1 d i _ _ hd hn h) (by simpa [wCs] using h)
 simpa [anyW,Zkg,wCs] using this
omit hl in
theorem Zboh {c:Cd} (h0:Zmm l c) (e:wC c 2= [w_lp]++(wC c 0++[w_rp])) (ed:dC c 2=1+dC c 0):Zlb l c:=by
 intro d i rest hd h;rw [e] at h ⊢;simp only [List.append_assoc,List.singleton_append,List.cons_append,List.nil_append] at h;rw [show 25 - d=(24 - d)+1 by omega]
 unfold oneS;rw [if_neg (h.no Zgz (by decide)),if_pos h.yes,if_neg (show ¬d=24 by omega)]
 have h1:=h0 (d+1) (i+1) w_rp rest (by omega) (by decide) (by decide) h.tl
 rw [show 25 - (d+1)=24 - d by omega] at h1
 rw [h1];simp only [bS];rw [h.tl.skip.want];simp only [List.length_append,List.length_cons,List.length_nil];rw [show i+1+(wC c 0).length+1=i+(0+1+((wC c 0).length+(0+1))) by omega]
theorem Zbjc: ∀(k:Nat) (c:Cd),SizeOf.sizeOf c <= k->okK c->Zlb l c∧Zpt l c∧Zmm l c
 | 0,.mk op cs pa pl n,hk,_=>by simp at hk
 | k+1,.mk op cs pa pl n,hk,hok=>by
  simp only [Cd.mk.sizeOf_spec] at hk;simp only [okK] at hok;obtain ⟨hok,hcs⟩:=hok;have mem: ∀c∈cs,Zlb l c∧Zpt l c∧Zmm l c:=fun c hc=>Zbjc k c (by have:=List.sizeOf_lt_of_mem hc;omega) (Zwg hcs c hc)
  rcases hok with ⟨h12,hlen,rfl,rfl,rfl⟩ | ⟨rfl,hlen,rfl,rfl,rfl⟩ | ⟨rfl,hL⟩
  ·obtain ⟨c0,c1,cs,rfl⟩: ∃c0 c1 cs',cs=c0::c1::cs':=by
    match cs,hlen with
    | c0::c1::cs,_=>exact ⟨c0,c1,cs,rfl⟩
   rcases h12 with rfl | rfl
   ·
    have hall:Zpt l (.mk 1 (c0::c1::cs) 0 0 0):=by
     intro d i nx rest hd hnx h;have e1:wC (.mk 1 (c0::c1::cs) 0 0 0) 1=wC c0 2++wCs (c1::cs) [Zfm] 2 false:=by
      rw [wC,if_pos rfl,if_neg (by decide),if_neg (by decide)]
      simp [wCs]
     rw [e1] at h ⊢;rw [List.append_assoc] at h;have hd:d+dCs (c0::c1::cs) 2 <= 24:=by simpa [dC] using hd
     have:=Zvy (l:=l) (N:=fun _=>True) (one:=oneS l (25 - d) d) (w:=Zfm) (inner:=2) (op:=1) (c:=c0) (cs:=c1::cs) (nx:=nx) (rest:=rest) (i:=i) trivial trivial hnx (fun d' hd' i nx rest _ h=>(mem d' hd').1 d i _ (by have:=Zbbj (lv:=2) hd';omega) h) h
     rw [List.length_append];exact this
    have hany:Zmm l (.mk 1 (c0::c1::cs) 0 0 0):=Zzz hall (by rw [wC,wC];simp) (by simp [dC])
    exact ⟨Zboh hany (by rw [wC,wC];simp) (by simp [dC]),hall,hany⟩
   ·
    have hany:Zmm l (.mk 2 (c0::c1::cs) 0 0 0):=by
     intro d i nx rest hd hnx hno h;have e1:wC (.mk 2 (c0::c1::cs) 0 0 0) 0=wC c0 1++wCs (c1::cs) [w_or] 1 false:=by
      rw [wC,if_neg (by decide),if_pos rfl,if_neg (by decide),if_neg (by decide)]
      simp [wCs]
     rw [e1] at h ⊢;rw [List.append_assoc] at h;have hd:d+dCs (c0::c1::cs) 1 <= 24:=by simpa [dC] using hd
     have:=Zvy (l:=l) (N:=fun w=>w≠Zfm) (one:=allW l (oneS l (25 - d) d)) (w:=w_or) (inner:=1) (op:=2) (c:=c0) (cs:=c1::cs) (nx:=nx) (rest:=rest) (i:=i) (by decide) hnx hno (fun d' hd' i nx rest hn h=>(mem d' hd').2.1 d i _ _ (by have:=Zbbj (lv:=1) hd';omega) hn h) h
     rw [List.length_append];exact this
    have hone:Zlb l (.mk 2 (c0::c1::cs) 0 0 0):=Zboh hany (by rw [wC,wC];simp) (by simp [dC])
    exact ⟨hone,Zzy hone (by rw [wC,wC];simp) (by simp [dC]),hany⟩
  ·obtain ⟨c0,rfl⟩: ∃c0,cs= [c0]:=by
    match cs,hlen with
    | [c0],_=>exact ⟨c0,rfl⟩
   have ew: ∀lv:Int,wC (.mk 3 [c0] 0 0 0) lv=Zgz::wC c0 2:=fun lv=>by rw [wC];simp [wCs]
   have hone:Zlb l (.mk 3 [c0] 0 0 0):=by
    intro d i rest hd h;rw [ew] at h ⊢;have hd:d+(1+dC c0 2) <= 24:=by simpa [dC,dCs] using hd
    rw [show 25 - d=(24 - d)+1 by omega]
    unfold oneS;rw [if_pos (At.yes (r:=wC c0 2++rest) h),if_neg (show ¬d=24 by omega)]
    have h1:=(mem c0 (List.mem_singleton.2 rfl)).1 (d+1) (i+1) rest (by omega) (At.tl (w:=Zgz) h)
    rw [show 25 - (d+1)=24 - d by omega] at h1
    rw [h1];simp only [bS,List.length_cons];rw [show i+1+(wC c0 2).length=i+((wC c0 2).length+1) by omega]
   have hall:=Zzy hone (by rw [ew,ew]) (by simp [dC])
   exact ⟨hone,hall,Zzz hall (by rw [ew,ew]) (by simp [dC])⟩
  ·have hop:=Zbnt hL;have ew: ∀lv:Int,wC (.mk op [] pa pl n) lv=Zfx op pa pl n:=fun lv=>by rw [wC,if_neg (by omega),if_neg (by omega),if_neg (by omega)]
   have ed: ∀lv:Int,dC (.mk op [] pa pl n) lv=0:=fun lv=>by rw [dC,if_neg (by omega),if_neg (by omega),if_neg (by omega)]
   have hone:Zlb l (.mk op [] pa pl n):=by
    intro d i rest hd h;rw [ew] at h ⊢;obtain ⟨w,ws,e,h1,h2⟩:=Zcbr hL;have h':=h;rw [e] at h';have hd':d <= 24:=by omega
    rw [show 25 - d=(24 - d)+1 by omega]
    unfold oneS;rw [if_neg (At.no (r:=ws++rest) h' Zgz h1),if_neg (At.no (r:=ws++rest) h' w_lp h2)];exact Zcbs hl hL h
   have hall:=Zzy hone (by rw [ew,ew]) (by rw [ed,ed])
   exact ⟨hone,hall,Zzz hall (by rw [ew,ew]) (by rw [ed,ed])⟩
theorem Zbxa {c:Cd} (hok:okK c) {d:Nat} (hd:d+dC c 0 <= 24) (h1:nx≠Zfm) (h2:nx≠w_or) (h:At l i (wC c 0++nx::rest)):anyS l d i= .ok (c,i+(wC c 0).length):=
 (Zbjc hl _ c (Nat.le_refl _) hok).2.2 d i nx rest hd h1 h2 h
end
end Go.Proofs.YtlkdgfolbllngaaGreatDoor
end
section
namespace Go.Proofs.YtlkdgfolbllngaaGreatDoor
open Go.Sh
abbrev c0Z:Cd:= .mk 0 [] 0 0 0
def okP (op n m:Int):Prop:=((op=2∨op=3∨op=9)∧n=0∧m=0)∨(op=4∧nR n∧nR m)∨((op=5∨op=6∨op=7∨op=8)∧nR n∧m=0)
mutual
def okQ:Sm->Prop
 | .mk op c th el n m=>((op=1∧okK c∧n=0∧m=0)∨(c=c0Z∧th= []∧el= []∧okP op n m))∧(okQs th∧okQs el)
def okQs:List Sm->Prop
 | []=>True
 | s::l=>okQ s∧okQs l
end
mutual
def dS:Sm->Nat
 | .mk op c th el n m=>if op=1 then max (dC c 0) (max (1+dSs th) (if el.length=0 then 0 else 1+dSs el)) else 0
def dSs:List Sm->Nat
 | []=>0
 | s::l=>max (dS s) (dSs l)
end
theorem Zoe {op n m:Int} (h:okP op n m):2 <= op∧op <= 9:=by rcases h with ⟨h,_⟩ | ⟨rfl,_⟩ | ⟨h,_⟩<;>omega
theorem Zst {op n m:Int} {c:Cd} {th el:List Sm} (h:2 <= op∧op <= 9):wS (.mk op c th el n m)= [Zep op]++(Zef op n m++[w_sc]):=by rw [wS,if_neg (by omega),if_neg (by omega)]
theorem Zxz {n m:Int} {c:Cd} {th el:List Sm}:wS (.mk 1 c th el n m)= [w_if]++(wC c 0++(([w_lb]++(wSs th++[w_rb]))++(if el.length=0 then [] else [Zfy]++([w_lb]++(wSs el++[w_rb]))))):=by rw [wS,if_pos rfl]
theorem Zbni {op:Int} (h:2 <= op∧op <= 9):Zep op≠w_if∧Zep op≠w_rb∧Zep op≠Zfy:=by
 have:op=2∨op=3∨op=4∨op=5∨op=6∨op=7∨op=8∨op=9:=by omega
 rcases this with rfl | rfl | rfl | rfl | rfl | rfl | rfl | rfl<;>decide
theorem Zbfr {s:Sm} (h:okQ s): ∃w ws,wS s=w::ws∧w≠w_rb∧w≠Zfy:=by
 obtain ⟨op,c,th,el,n,m⟩:=s;simp only [okQ] at h;rcases h.1 with ⟨rfl,_⟩ | ⟨_,_,_,h⟩;exact ⟨_,_,Zxz,by decide,by decide⟩
 have:=Zoe h;exact ⟨_,_,Zst this,(Zbni this).2⟩
theorem Zil: ∀{l:List Sm},okQs l->∀c∈l,okQ c
 | [],_,c,h=>by cases h
 | d::l,h,c,hc=>by simp only [okQs] at h;rcases List.mem_cons.1 hc with rfl | hc;exact h.1;exact Zil h.2 c hc
theorem Zbgj: ∀ss:List Sm,okQs ss->ss.length <= (wSs ss).length
 | [],_=>Nat.zero_le _
 | s::ss,h=>by simp only [okQs] at h;have:=Zbgj ss h.2;obtain ⟨w,ws,e,_⟩:=Zbfr h.1;simp only [wSs,e,List.length_append,List.length_cons];omega
section
variable {l:List Tok} (hl: ∀t∈l,TkOk t) {i:Nat} {rest:W8} {nx:List UInt8} {op n m:Int}
theorem Zhj {α:Type} {x:α} (h:At l i (w_sc::rest)):endS l x i= .ok (x,i+1):=by unfold endS;rw [h.want];rfl
include hl
theorem Zcee (hok:okP op n m) (h:At l i (wS (.mk op c0Z [] [] n m)++rest)):Zki l i= .ok (.mk op c0Z [] [] n m,i+(wS (.mk op c0Z [] [] n m)).length):=by
 have hop:=Zoe hok;rw [Zst hop] at h ⊢;unfold Zki;rcases hok with ⟨rfl | rfl | rfl,rfl,rfl⟩ | ⟨rfl,hn,hm⟩ | ⟨rfl | rfl | rfl | rfl,hn,rfl⟩;have h:At l i (Zdt::w_sc::rest):=h;rw [if_pos h.yes,Zhj h.tl];rfl
 ·have h:At l i (Zce::w_sc::rest):=h;rw [if_neg (h.no Zdt (by decide)),if_pos h.yes,Zhj h.tl];rfl
 ·have h:At l i (Zfn::w_sc::rest):=h;rw [if_neg (h.no Zdt (by decide)),if_neg (h.no Zce (by decide)),if_neg (h.no Zco (by decide)),if_neg (h.no Zcu (by decide)),if_neg (h.no Zbj (by decide)),if_neg (h.no Zee (by decide)),if_neg (h.no Zes (by decide)),if_pos h.yes,Zhj h.tl];rfl
 ·have h:At l i (Zco::Lib.itoa n::Lib.itoa m::w_sc::rest):=h;rw [if_neg (h.no Zdt (by decide)),if_neg (h.no Zce (by decide)),if_pos h.yes,h.tl.num hl hn]
  simp only [bS];rw [h.tl.tl.num hl hm];simp only;rw [Zhj h.tl.tl.tl];rfl
 ·have h:At l i (Zcu::Lib.itoa n::w_sc::rest):=h;rw [if_neg (h.no Zdt (by decide)),if_neg (h.no Zce (by decide)),if_neg (h.no Zco (by decide)),if_pos h.yes,h.tl.num hl hn]
  simp only [bS];rw [Zhj h.tl.tl];rfl
 ·have h:At l i (Zbj::Lib.itoa n::w_sc::rest):=h;rw [if_neg (h.no Zdt (by decide)),if_neg (h.no Zce (by decide)),if_neg (h.no Zco (by decide)),if_neg (h.no Zcu (by decide)),if_pos h.yes,h.tl.num hl hn]
  simp only [bS];rw [Zhj h.tl.tl];rfl
 ·have h:At l i (Zee::Zel n::w_sc::rest):=h;rw [if_neg (h.no Zdt (by decide)),if_neg (h.no Zce (by decide)),if_neg (h.no Zco (by decide)),if_neg (h.no Zcu (by decide)),if_neg (h.no Zbj (by decide)),if_pos h.yes,h.tl.com hl hn]
  simp only [bS];rw [Zhj h.tl.tl];rfl
 ·have h:At l i (Zes::Zel n::w_sc::rest):=h;rw [if_neg (h.no Zdt (by decide)),if_neg (h.no Zce (by decide)),if_neg (h.no Zco (by decide)),if_neg (h.no Zcu (by decide)),if_neg (h.no Zbj (by decide)),if_neg (h.no Zee (by decide)),if_pos h.yes,h.tl.com hl hn]
  simp only [bS];rw [Zhj h.tl.tl];rfl
omit hl in
def Zpy (l:List Tok) (s:Sm):Prop:=∀(d i:Nat) (nx:List UInt8) (rest:W8),d+dS s <= 24->nx≠Zfy->At l i (wS s++nx::rest)->smS l (25 - d) d i= .ok (s,i+(wS s).length)
omit hl in
theorem Zbfd {d:Nat}: ∀(ss:List Sm) (f i:Nat),(∀s∈ss,Zpy l s)->okQs ss->d+dSs ss <= 24->At l i (wSs ss++w_rb::rest)->ss.length<f->Zer l (smS l (25 - d) d) f i= .ok (ss,i+((wSs ss).length+1))
 | [],0,i,_,_,_,h,hf=>by simp at hf
 | [],f+1,i,_,_,_,h,hf=>by simp only [wSs,List.nil_append] at h;unfold Zer;rw [if_pos h.yes];simp [wSs]
 | s::ss,0,i,_,_,_,h,hf=>by simp at hf
 | s::ss,f+1,i,hs,hok,hd,h,hf=>by
  simp only [wSs,List.append_assoc] at h ⊢;simp only [okQs] at hok;simp only [dSs] at hd;obtain ⟨w,ws,e,h1,h2⟩:=Zbfr hok.1;have h':=h;rw [e] at h';unfold Zer;rw [if_neg (At.no (r:=ws++(wSs ss++w_rb::rest)) h' w_rb h1)];have hn: ∃(nx':List UInt8) (rest':W8),nx'≠Zfy∧wSs ss++w_rb::rest=nx'::rest':=by
   cases ss with
   | nil=>exact ⟨w_rb,rest,by decide,rfl⟩
   | cons t ss=>
    simp only [okQs] at hok;obtain ⟨w,ws,e,h1,h2⟩:=Zbfr hok.2.1;exact ⟨w,ws++(wSs ss++w_rb::rest),h2,by simp only [wSs,e,List.append_assoc,List.cons_append]⟩
  obtain ⟨nx',rest',hn1,hn2⟩:=hn;have h3:=h;rw [hn2] at h3;rw [hs s List.mem_cons_self d i nx' rest' (by omega) hn1 h3]
  simp only [bS];rw [Zbfd ss f _ (fun t ht=>hs t (List.mem_cons_of_mem _ ht)) hok.2 (by omega) h.skip (by simp at hf;omega)]
  simp only [List.length_append,Nat.add_assoc]
omit hl in
theorem Zblo {ss:List Sm} {d:Nat} (hs: ∀s∈ss,Zpy l s) (hok:okQs ss) (hd:d+(1+dSs ss) <= 24) (h:At l i (w_lb::(wSs ss++w_rb::rest))):Zfr l (smS l (25 - (d+1)) (d+1)) d i= .ok (ss,i+((wSs ss).length+2)):=by
 unfold Zfr;have hlen:=congrArg List.length h.tl;have hge:=Zbgj ss hok;simp only [txs,List.length_map,List.length_drop,List.length_append,List.length_cons] at hlen;rw [if_pos h.yes,if_neg (by omega),Zbfd ss _ _ hs hok (by omega) h.tl (by omega)]
 rw [show i+1+((wSs ss).length+1)=i+((wSs ss).length+2) by omega]
theorem Zbfs: ∀(k:Nat) (s:Sm),SizeOf.sizeOf s <= k->okQ s->Zpy l s
 | 0,.mk op c th el n m,hk,_=>by simp at hk
 | k+1,.mk op c th el n m,hk,hok=>by
  simp only [Sm.mk.sizeOf_spec] at hk;simp only [okQ] at hok;obtain ⟨hok,hth,hel⟩:=hok;have m1: ∀s∈th,Zpy l s:=fun s hs=>Zbfs k s (by have:=List.sizeOf_lt_of_mem hs;omega) (Zil hth s hs)
  have m2: ∀s∈el,Zpy l s:=fun s hs=>Zbfs k s (by have:=List.sizeOf_lt_of_mem hs;omega) (Zil hel s hs)
  intro d i nx rest hd hnx h;rcases hok with ⟨rfl,hc,rfl,rfl⟩ | ⟨rfl,rfl,rfl,hp⟩
  ·simp only [dS,if_true] at hd;rw [Zxz] at h ⊢;simp only [List.append_assoc,List.singleton_append,List.cons_append,List.nil_append] at h;rw [show 25 - d=(24 - d)+1 by omega]
   unfold smS Zhw;have h1:=h.tl;have h2:=At.tl h1.skip;rw [if_pos h.yes,Zbxa hl hc (d:=d) (by omega) (by decide) (by decide) h1]
   simp only [bS];have hi:=Zblo (d:=d) m1 hth (by omega) h1.skip
   rw [show 25 - (d+1)=24 - d by omega] at hi
   rw [hi];simp only;have h3:=At.tl h2.skip;cases el with
   | nil=>
    simp only [List.length_nil,if_true,List.nil_append] at h3;unfold Zli;have h4:At l (i+1+(wC c 0).length+((wSs th).length+2)) (nx::rest):=by
     rw [show i+1+(wC c 0).length+((wSs th).length+2)=i+1+(wC c 0).length+1+(wSs th).length+1 by omega]
     exact h3
    rw [if_neg (h4.no Zfy hnx)];simp only [List.length_append,List.length_cons,List.length_nil,if_true,Except.ok.injEq,Prod.mk.injEq,true_and];omega
   | cons e es=>
    simp only [List.length_cons,Nat.add_one_ne_zero,if_false] at h3 hd ⊢;simp only [List.append_assoc,List.singleton_append,List.cons_append,List.nil_append] at h3;unfold Zli;have h4:At l (i+1+(wC c 0).length+((wSs th).length+2)) (Zfy::w_lb::(wSs (e::es)++w_rb::nx::rest)):=by
     rw [show i+1+(wC c 0).length+((wSs th).length+2)=i+1+(wC c 0).length+1+(wSs th).length+1 by omega]
     exact h3
    have hi2:=Zblo (d:=d) m2 hel (by omega) h4.tl
    rw [show 25 - (d+1)=24 - d by omega] at hi2
    rw [if_pos h4.yes,hi2];simp only [List.length_append,List.length_cons,List.length_nil,Except.ok.injEq,Prod.mk.injEq,true_and];omega
  ·have hop:=Zoe hp;have hd':d <= 24:=by omega
   have h0:=h;rw [Zst hop] at h0;rw [show 25 - d=(24 - d)+1 by omega]
   unfold smS Zhw;rw [if_neg (At.no (w:=Zep op) (r:=Zef op n m++[w_sc]++nx::rest) (by simpa using h0) w_if (Zbni hop).1)]
   exact Zcee hl hp h
theorem Zbxk {ss:List Sm} (hok:okQs ss) (hd:dSs ss <= 24) (h:At l i (wSs ss++w_rb::rest)):Zmv l 0 i= .ok (ss,i+((wSs ss).length+1)):=by have hlen:=congrArg List.length h;have hge:=Zbgj ss hok;simp only [txs,List.length_map,List.length_drop,List.length_append,List.length_cons] at hlen;unfold Zmv;exact Zbfd ss _ _ (fun s hs=>Zbfs hl _ s (Nat.le_refl _) (Zil hok s hs)) hok (by omega) h (by omega)
end
end Go.Proofs.YtlkdgfolbllngaaGreatDoor
end
section
namespace Go.Proofs.YtlkdgfolbllngaaGreatDoor
open Go.Sh
structure okPe (p:Pr):Prop where
 nm:NmR p.name
 addr:u32R p.addr
 as_:nR p.as_
 max:nR p.max
 in_:p.in_= []∨NmR p.in_
 out:p.out= []∨NmR p.out
structure okPo (p:Pl):Prop where
 nm:NmR p.name
 l:okQs p.l
 d:dSs p.l <= 24
structure okSp (sp:Sp):Prop where
 as_:nR sp.as_
 router:u32R sp.router
 hold:nR sp.hold
 retry:nR sp.retry
 grace:nR sp.grace
 pols: ∀p∈sp.pols,okPo p
 peers: ∀p∈sp.peers,okPe p
section
variable {l:List Tok} (hl: ∀t∈l,TkOk t) {i:Nat} {rest:W8} {nx:List UInt8} {op n m:Int}
theorem Zgq {α β:Type} {x:α} {i:Nat} {f:α->Nat->Rs β}:bS (.ok (x,i)) f=f x i:=rfl
theorem Zwd {α:Type} {w:List UInt8} {f:Nat->Rs α} {x:α} {r:W8} (h:At l i (w::r)):mayS l w f x i=f (i+1):=by unfold mayS;rw [if_pos h.yes]
theorem Zwc {α:Type} {w s:List UInt8} {f:Nat->Rs α} {x:α} {r:W8} (h:At l i (s::r)) (hne:s≠w):mayS l w f x i= .ok (x,i):=by unfold mayS;rw [if_neg (h.no w hne)]
theorem wrap_u32 {n:Int} (h:u32R n):IntKind.wrap .u32 n=n:=by obtain ⟨h0,h1⟩:=h;unfold IntKind.wrap;simp only [IntKind.bits,IntKind.signed];show n%_=n;exact Int.emod_eq_of_lt h0 (by simpa using h1)
include hl
theorem Zcds {p:Pr} (hp:okPe p) (h:At l i (wPr p++rest)):Zhs l (i+1)= .ok (p,i+(wPr p).length):=by
 obtain ⟨nm,ad,as_,wt,mx,i_,o_⟩:=p;obtain ⟨h1,h2,h3,h4,h5,h6⟩:=hp;dsimp only at h1 h2 h3 h4 h5 h6;have hlen:(wPr ⟨nm,ad,as_,wt,mx,i_,o_⟩).length=5+(if wt=true then 1 else 0)+(if mx>0 then 2 else 0)+(if i_= [] then 0 else 2)+(if o_= [] then 0 else 2)+1:=by unfold wPr;dsimp only;simp only [List.length_append,List.length_cons,List.length_nil];cases wt<;>by_cases hm:mx>0<;>by_cases hi:i_= []<;>by_cases ho:o_= []<;>simp [hm,hi,ho]
 rw [hlen];unfold wPr at h;dsimp only at h;simp only [List.append_assoc,List.singleton_append,List.cons_append,List.nil_append] at h;have a1:=h.tl;have a2:=a1.tl;have a3:=a2.tl;have a4:=a3.tl;have a5:=a4.tl;unfold Zhs;rw [a1.name hl h1,Zgq,a2.adr hl h2,Zgq,a3.want,Zgq,a4.num hl h3,Zgq];have fin: ∀{x:Pr} {j:Nat},At l j (w_sc::rest)->x=⟨nm,ad,as_,wt,mx,i_,o_⟩->endS l x j= .ok (⟨nm,ad,as_,wt,mx,i_,o_⟩,j+1):=fun {x j} h e=>by rw [Zhj h,e]
 have er:(⟨nm,IntKind.wrap .u32 ad,IntKind.wrap .u32 as_,wt,mx,i_,o_⟩:Pr)=⟨nm,ad,as_,wt,mx,i_,o_⟩:=by rw [wrap_u32 h2,wrap_u32 ⟨h3.1,by have:=h3.2;omega⟩]
 have out: ∀j:Nat,At l j ((if o_= [] then [] else [Zcn,o_])++w_sc::rest)->(bS (mayS l Zcn (txtS l 1) [] j) fun o k=>endS l (⟨nm,IntKind.wrap .u32 ad,IntKind.wrap .u32 as_,wt,mx,i_,o⟩:Pr) k)= .ok (⟨nm,ad,as_,wt,mx,i_,o_⟩,j+(if o_= [] then 0 else 2)+1):=fun j h=>by
  by_cases ho:o_= []
  ·rw [if_pos ho] at h ⊢;rw [Zwc (s:=w_sc) h (by decide),Zgq]
   rw [fin h (by rw [← er,ho])]
  rw [if_neg ho] at h ⊢;rw [Zwd (r:=o_::w_sc::rest) h,At.name hl (At.tl (w:=Zcn) h) (h6.resolve_left ho),Zgq];rw [fin (At.tl (At.tl (w:=Zcn) h)) er]
 have inn: ∀j:Nat,At l j ((if i_= [] then [] else [w_in,i_])++((if o_= [] then [] else [Zcn,o_])++w_sc::rest))->(bS (mayS l w_in (txtS l 1) [] j) fun x k=>bS (mayS l Zcn (txtS l 1) [] k) fun o k=>endS l (⟨nm,IntKind.wrap .u32 ad,IntKind.wrap .u32 as_,wt,mx,x,o⟩:Pr) k)= .ok (⟨nm,ad,as_,wt,mx,i_,o_⟩,j+(if i_= [] then 0 else 2)+(if o_= [] then 0 else 2)+1):=fun j h=>by
  by_cases hi:i_= []
  ·rw [if_pos hi] at h ⊢;have hn: ∃s r,(if o_= [] then [] else [Zcn,o_])++w_sc::rest=s::r∧s≠w_in:=by
    by_cases ho:o_= [];rw [if_pos ho];exact ⟨_,_,rfl,by decide⟩
    rw [if_neg ho];exact ⟨_,_,rfl,by decide⟩
   obtain ⟨s,r,e1,e2⟩:=hn;have h':=h;rw [List.nil_append,e1] at h';rw [Zwc h' e2];have:=out j h;rw [hi] at this;rw [Zgq,hi];exact this
  ·rw [if_neg hi] at h ⊢;have t1:=At.tl (w:=w_in) h;rw [Zwd (r:=i_::((if o_= [] then [] else [Zcn,o_])++w_sc::rest)) h,At.name hl t1 (h5.resolve_left hi),Zgq]
   exact out _ t1.tl
 have mxx: ∀j:Nat,At l j ((if mx>0 then [Zfz,Lib.itoa mx] else [])++((if i_= [] then [] else [w_in,i_])++((if o_= [] then [] else [Zcn,o_])++w_sc::rest)))->(bS (mayS l Zfz (numS l 2) 0 j) fun y k=>bS (mayS l w_in (txtS l 1) [] k) fun x k=>bS (mayS l Zcn (txtS l 1) [] k) fun o k=>endS l (⟨nm,IntKind.wrap .u32 ad,IntKind.wrap .u32 as_,wt,y,x,o⟩:Pr) k)= .ok (⟨nm,ad,as_,wt,mx,i_,o_⟩,j+(if mx>0 then 2 else 0)+(if i_= [] then 0 else 2)+(if o_= [] then 0 else 2)+1):=fun j h=>by
  by_cases hm:mx>0
  ·rw [if_pos hm] at h ⊢;have t1:=At.tl (w:=Zfz) h;rw [Zwd (r:=Lib.itoa mx::((if i_= [] then [] else [w_in,i_])++((if o_= [] then [] else [Zcn,o_])++w_sc::rest))) h,At.num hl t1 h4,Zgq]
   exact inn _ t1.tl
  ·rw [if_neg hm] at h ⊢;have hm0:mx=0:=by have:=h4.1;omega
   have hn: ∃s r,(if i_= [] then [] else [w_in,i_])++((if o_= [] then [] else [Zcn,o_])++w_sc::rest)=s::r∧s≠Zfz:=by
    by_cases hi:i_= []
    ·by_cases ho:o_= [];rw [if_pos hi,if_pos ho];exact ⟨_,_,rfl,by decide⟩
     rw [if_pos hi,if_neg ho];exact ⟨_,_,rfl,by decide⟩
    rw [if_neg hi];exact ⟨_,_,rfl,by decide⟩
   obtain ⟨s,r,e1,e2⟩:=hn;have h':=h;rw [List.nil_append,e1] at h';rw [Zwc h' e2];have:=inn j h;rw [hm0] at this;rw [Zgq,hm0];exact this
 cases wt with
 | true=>
  simp only [if_true] at a5 ⊢;have t1:=At.tl (w:=Zit) a5;rw [Zwd (r:=(if mx>0 then [Zfz,Lib.itoa mx] else [])++((if i_= [] then [] else [w_in,i_])++((if o_= [] then [] else [Zcn,o_])++w_sc::rest))) a5,Zgq]
  rw [mxx _ t1];rw [show i+1+1+1+1+1+1=i+(5+1) by omega]
  simp only [Nat.add_assoc]
 | false=>
  simp only [Bool.false_eq_true,if_false,List.nil_append] at a5 ⊢;have hn: ∃s r,(if mx>0 then [Zfz,Lib.itoa mx] else [])++((if i_= [] then [] else [w_in,i_])++((if o_= [] then [] else [Zcn,o_])++w_sc::rest))=s::r∧s≠Zit:=by
   by_cases hm:mx>0;rw [if_pos hm];exact ⟨_,_,rfl,by decide⟩
   by_cases hi:i_= []
   ·by_cases ho:o_= [];rw [if_neg hm,if_pos hi,if_pos ho];exact ⟨_,_,rfl,by decide⟩
    rw [if_neg hm,if_pos hi,if_neg ho];exact ⟨_,_,rfl,by decide⟩
   rw [if_neg hm,if_neg hi];exact ⟨_,_,rfl,by decide⟩
  obtain ⟨s,r,e1,e2⟩:=hn;have h':=a5;rw [e1] at h';rw [Zwc h' e2,Zgq];rw [mxx _ a5];rw [show i+1+1+1+1+1=i+(5+0) by omega]
  simp only [Nat.add_assoc]
theorem Zcaj {s:Sp} {p:Pr} (hp:okPe p) (h:At l i (wPr p++rest)):Zcl l s i= .ok ({ s with peers:=s.peers++[p] },i+(wPr p).length):=by
 have h0: ∃r,At l i (Zbx::r):=⟨_,by unfold wPr at h;simpa using h⟩
 obtain ⟨r,h0⟩:=h0;unfold Zcl;rw [if_neg (h0.no Zcr (by decide)),if_pos h0.yes,Zcds hl hp h]
 rfl
theorem Zcak {s:Sp} {p:Pl} (hp:okPo p) (h:At l i (wPl p++rest)):Zcl l s i= .ok ({ s with pols:=s.pols++[p] },i+(wPl p).length):=by unfold wPl wB at h ⊢;simp only [List.append_assoc,List.singleton_append,List.cons_append,List.nil_append] at h;unfold Zcl;rw [if_pos h.yes,h.tl.name hl hp.nm];simp only [bS];rw [h.tl.tl.want];simp only;rw [Zbxk hl hp.l hp.d h.tl.tl.tl];simp only [Except.ok.injEq,Prod.mk.injEq,List.length_append,List.length_cons,List.length_nil,true_and];omega
omit hl in
theorem Zlu {s s':Sp} {j f:Nat} (h:Zcl l s i= .ok (s',j)) (hi:i<l.length) (hij:i<j) (hf:l.length - i<f): ∃f',l.length - j<f'∧Zcx l f s i=Zcx l f' s' j:=by
 cases f with
 | zero=>omega
 | succ f=>
  refine ⟨f,by omega,?_⟩
  rw [Zcx];rw [if_pos hi,h]
theorem Zblv: ∀(ps:List Pl) (s:Sp) (i f:Nat),(∀p∈ps,okPo p)->At l i (wPls ps++rest)->l.length - i<f->∃f',l.length - (i+(wPls ps).length)<f'∧Zcx l f s i=Zcx l f' { s with pols:=s.pols++ps } (i+(wPls ps).length)
 | [],s,i,f,_,_,hf=>⟨f,hf,by simp [wPls]⟩
 | p::ps,s,i,f,hp,h,hf=>by
  simp only [wPls,List.append_assoc] at h ⊢;have hlt:i<l.length:=by have h':=h;unfold wPl at h';exact At.lt (w:=Zcr) h'
  obtain ⟨f1,h1,e1⟩:=Zlu (Zcak hl (hp p List.mem_cons_self) h (s:=s)) hlt (by unfold wPl;simp) hf
  obtain ⟨f2,h2,e2⟩:=Zblv ps _ _ f1 (fun q hq=>hp q (List.mem_cons_of_mem _ hq)) h.skip h1;refine ⟨f2,?_,?_⟩;simp only [List.length_append];omega;rw [e1,e2];simp only [List.append_assoc,List.singleton_append,List.length_append,Nat.add_assoc]
theorem Zblu: ∀(ps:List Pr) (s:Sp) (i f:Nat),(∀p∈ps,okPe p)->At l i (wPrs ps++rest)->l.length - i<f->∃f',l.length - (i+(wPrs ps).length)<f'∧Zcx l f s i=Zcx l f' { s with peers:=s.peers++ps } (i+(wPrs ps).length)
 | [],s,i,f,_,_,hf=>⟨f,hf,by simp [wPrs]⟩
 | p::ps,s,i,f,hp,h,hf=>by
  simp only [wPrs,List.append_assoc] at h ⊢;have hlt:i<l.length:=by have h':=h;unfold wPr at h';exact At.lt (w:=Zbx) h'
  obtain ⟨f1,h1,e1⟩:=Zlu (Zcaj hl (hp p List.mem_cons_self) h (s:=s)) hlt (by unfold wPr;simp) hf
  obtain ⟨f2,h2,e2⟩:=Zblu ps _ _ f1 (fun q hq=>hp q (List.mem_cons_of_mem _ hq)) h.skip h1;refine ⟨f2,?_,?_⟩;simp only [List.length_append];omega;rw [e1,e2];simp only [List.append_assoc,List.singleton_append,List.length_append,Nat.add_assoc]
theorem Zxa {g:Int->Sp} (hn:nR n) (h:At l i (Lib.itoa n::w_sc::rest)):setS l 2 g i= .ok (g n,i+2):=by unfold setS;rw [h.num hl hn];simp only [bS];rw [Zhj h.tl]
theorem Zche {g:Int->Sp} (hn:u32R n) (h:At l i (txt n.toNat::w_sc::rest)):setS l 3 g i= .ok (g n,i+2):=by unfold setS;rw [h.adr hl hn];simp only [bS];rw [Zhj h.tl]
theorem Zchn {sp:Sp} (ho:okSp sp) (h:At l 0 (wSp sp)):Zcx l (l.length+1) Zhv 0= .ok sp:=by
 obtain ⟨as_,ro,ho_,re,gr,pols,peers⟩:=sp;obtain ⟨h1,h2,h3,h4,h5,h6,h7⟩:=ho;dsimp only at h1 h2 h3 h4 h5 h6 h7;unfold wSp Zhx at h;dsimp only at h;simp only [List.append_assoc,List.singleton_append,List.cons_append,List.nil_append] at h;have s1:Zcl l Zhv 0= .ok (⟨as_,0,90,30,0,[],[]⟩,3):=by
  unfold Zcl;rw [if_neg (h.no Zcr (by decide)),if_neg (h.no Zbx (by decide)),if_pos h.yes,Zxa hl h1 h.tl]
  rw [wrap_u32 ⟨h1.1,by have:=h1.2;omega⟩];rfl
 obtain ⟨f1,l1,e1⟩:=Zlu s1 h.lt (by omega) (show l.length - 0<l.length+1 by omega)
 have a:=h.tl.tl.tl;have s2:Zcl l ⟨as_,0,90,30,0,[],[]⟩ 3= .ok (⟨as_,ro,90,30,0,[],[]⟩,6):=by
  unfold Zcl;rw [if_neg (a.no Zcr (by decide)),if_neg (a.no Zbx (by decide)),if_neg (a.no Zcs (by decide)),if_pos a.yes,Zche hl h2 a.tl]
  rw [wrap_u32 h2]
 obtain ⟨f2,l2,e2⟩:=Zlu s2 a.lt (by omega) l1
 have b:=a.tl.tl.tl;have s3:Zcl l ⟨as_,ro,90,30,0,[],[]⟩ 6= .ok (⟨as_,ro,ho_,30,0,[],[]⟩,9):=by unfold Zcl;rw [if_neg (b.no Zcr (by decide)),if_neg (b.no Zbx (by decide)),if_neg (b.no Zcs (by decide)),if_neg (b.no Zda (by decide)),if_pos b.yes,Zxa hl h3 b.tl]
 obtain ⟨f3,l3,e3⟩:=Zlu s3 b.lt (by omega) l2
 have c:=b.tl.tl.tl;have s4:Zcl l ⟨as_,ro,ho_,30,0,[],[]⟩ 9= .ok (⟨as_,ro,ho_,re,0,[],[]⟩,12):=by unfold Zcl;rw [if_neg (c.no Zcr (by decide)),if_neg (c.no Zbx (by decide)),if_neg (c.no Zcs (by decide)),if_neg (c.no Zda (by decide)),if_neg (c.no Zdv (by decide)),if_pos c.yes,Zxa hl h4 c.tl]
 obtain ⟨f4,l4,e4⟩:=Zlu s4 c.lt (by omega) l3
 have d:=c.tl.tl.tl;rw [e1,e2,e3,e4];have tail: ∀(f i:Nat),l.length - i<f->At l i (wPls pols++wPrs peers)->i <= l.length->Zcx l f ⟨as_,ro,ho_,re,gr,[],[]⟩ i= .ok ⟨as_,ro,ho_,re,gr,pols,peers⟩:=fun f i hf h hi=>by
  obtain ⟨f5,l5,e5⟩:=Zblv hl pols ⟨as_,ro,ho_,re,gr,[],[]⟩ i f h6 h hf;have h8:At l (i+(wPls pols).length) (wPrs peers++[]):=by rw [List.append_nil];exact h.skip
  obtain ⟨f6,l6,e6⟩:=Zblu hl peers ⟨as_,ro,ho_,re,gr,[]++pols,[]⟩ _ f5 h7 h8 l5;rw [e5,e6];have hend:=h.len hi;simp only [List.length_append] at hend;cases f6 with
  | zero=>omega
  | succ f6=>
   rw [Zcx,if_neg (by omega)]
   simp
 by_cases hg:gr>0
 ·rw [if_pos hg] at d;simp only [List.append_assoc,List.singleton_append,List.cons_append,List.nil_append] at d;have s5:Zcl l ⟨as_,ro,ho_,re,0,[],[]⟩ 12= .ok (⟨as_,ro,ho_,re,gr,[],[]⟩,15):=by unfold Zcl;rw [if_neg (d.no Zcr (by decide)),if_neg (d.no Zbx (by decide)),if_neg (d.no Zcs (by decide)),if_neg (d.no Zda (by decide)),if_neg (d.no Zdv (by decide)),if_neg (d.no Zej (by decide)),if_pos d.yes,Zxa hl h5 d.tl]
  obtain ⟨f5,l5,e5⟩:=Zlu s5 d.lt (by omega) l4
  rw [e5];exact tail f5 15 l5 d.tl.tl.tl (by have:=d.tl.tl.lt;omega)
 ·rw [if_neg hg,List.nil_append] at d;have hg0:gr=0:=by have:=h5.1;omega
  have:=tail f4 12 l4 d (by have:=c.tl.tl.lt;omega)
  rw [hg0] at this ⊢;exact this
end
theorem Zciz {sp:Sp} (ho:okSp sp) (hw: ∀w∈wSp sp,GW w) (hn:(wSp sp).length <= 4096) (hb:wm (wSp sp) <= 65536):Zdr (Zdg sp)= .ok sp:=by
 have hlen:=Zbde (wSp sp);obtain ⟨l,e,ht,hk⟩:=Zcbx hw hn;unfold Zdr lexR Zdg;rw [if_neg (show ¬65536<(Lib.join (wSp sp) [32]).length by omega),e,if_neg (fun h=>h rfl)]
 exact Zbkj (Zchn hk ho (by unfold At;rw [List.drop_zero];exact ht))
end Go.Proofs.YtlkdgfolbllngaaGreatDoor
end
section
namespace Go.Proofs.YtlkdgfolbllngaaGreatDoor
open Go.Sh
theorem Zcjz {w:List UInt8} {u:Tok} (h:word w=some u):(u.1=2∧nR u.2.2.1)∨(u.1=4∧right u.2.2.2.1.toNat u.2.2.2.2.1=true)∨(u.1=5∧nR u.2.2.1)∨(u.1=3∧nR u.2.2.1)∨(u.1=1∧u=(1,w,0,0,0,0)∧w.length <= 32):=by
 unfold word at h;split at h
 ·split at h;rename_i hn;cases h;have:=(Zen.1 hn).1;exact .inl ⟨rfl,Int.natCast_nonneg _,by show ((val w:Nat):Int) <= 4294967295;omega⟩
  cases h
 split at h
 ·split at h
  ·rename_i r hr;cases h;obtain ⟨a,n⟩:=r;obtain ⟨p,q,_,_,_,h4,h5,h6⟩:=Zcdv hr;subst h5 h6;refine .inr (.inl ⟨rfl,?_⟩);show right (UInt32.ofNat (prs p).1).toNat ((val q:Nat):Int)=true;rw [UInt32.toNat_ofNat_of_lt' (by exact Zben p)]
   exact h4
  cases h
 split at h
 ·split at h
  ·rename_i n hn;cases h;refine .inr (.inr (.inl ⟨rfl,Int.natCast_nonneg _,?_⟩));show (n:Int) <= 4294967295;unfold comm at hn;split at hn
   ·split at hn
    ·rename_i hab;injection hn with hn
     have h1:=(Zen.1 hab.1).1;have h2:=(Zen.1 hab.2).1;omega
    cases hn
   cases hn
  cases h
 split at h
 ·split at h;cases h;have:=Zben w;exact .inr (.inr (.inr (.inl ⟨rfl,Int.natCast_nonneg _,by show (((prs w).1:Nat):Int) <= 4294967295;omega⟩)))
  cases h
 split at h;rename_i hh;cases h;exact .inr (.inr (.inr (.inr ⟨rfl,rfl,hh.2.2⟩)));cases h
theorem Zbfx {t:Tok} (h:TkOk t):t.1=6∨(t.1=2∧nR t.2.2.1)∨(t.1=4∧right t.2.2.2.1.toNat t.2.2.2.2.1=true)∨(t.1=5∧nR t.2.2.1)∨(t.1=3∧nR t.2.2.1)∨(t.1=1∧NmR t.2.1∧t.2.1.length <= 32):=by rcases h with ⟨c,_,e⟩ | ⟨h1,h2,h⟩;exact .inl (congrArg (fun t:Tok=>t.1) e);rcases Zcjz h with h | h | h | h | ⟨h3,h4,h5⟩;exact .inr (.inl h);exact .inr (.inr (.inl h));exact .inr (.inr (.inr (.inl h)));exact .inr (.inr (.inr (.inr (.inl h))));exact .inr (.inr (.inr (.inr (.inr ⟨h3,⟨h4▸h,h1,h2⟩,h5⟩))))
theorem Zeu {n:Int} (h:nR n):(Lib.itoa n).length <= 10:=by rw [Zbdd h];exact Zlh (u:=n.toNat) (k:=9) (by have:=h.1;have:=h.2;omega)
theorem Zbjb {n:Int} (h:nR n):(Zel n).length <= 11:=by
 rw [Zbax h];have h1:=Zlh (u:=n.toNat/65536) (k:=4) (by have:=h.1;have:=h.2;omega)
 have h2:=Zlh (u:=n.toNat%65536) (k:=4) (by omega)
 simp only [List.length_append,List.length_cons];omega
theorem Zbpg {pa pl:Int} (h:pxR pa pl):(pxT pa pl).length <= 18:=by obtain ⟨e,h0,h1,_⟩:=Zoi h;rw [e];exact Zcdt _ _ (by omega)
theorem Zbg {α β:Type} {r:Rs α} {f:α->Nat->Rs β} {y:β×Nat} (h:bS r f= .ok y): ∃x i,r= .ok (x,i)∧f x i= .ok y:=by unfold bS at h;split at h;exact ⟨_,_,rfl,h⟩;cases h
def Sz (l:List Tok) (ws:W8) (i j:Nat):Prop:=i <= j∧j <= l.length∧ws.length <= 2*(j - i)∧wm ws <= 33*(j - i)
section
variable {l:List Tok} (hl: ∀t∈l,TkOk t) {i j k d:Nat} {c:Cd} {s:List UInt8} {ws us:W8} {n:Int}
theorem Sz.nil (h:i <= l.length):Sz l [] i i:=⟨Nat.le_refl _,h,Nat.zero_le _,Nat.zero_le _⟩
theorem Sz.app (h1:Sz l ws i j) (h2:Sz l us j k):Sz l (ws++us) i k:=by
 obtain ⟨a1,a2,a3,a4⟩:=h1;obtain ⟨b1,b2,b3,b4⟩:=h2;refine ⟨by omega,b2,?_,?_⟩
 rw [List.length_append];omega;rw [Zhb];omega
theorem Sz.one (h:i<l.length) (hs:s.length <= 32):Sz l [s] i (i+1):=⟨by omega,h,by simp only [List.length_singleton];omega,by show s.length+1+0 <= _;omega⟩
theorem Sz.le (h:Sz l ws i j) (h1:us.length <= ws.length) (h2:wm us <= wm ws):Sz l us i j:=by obtain ⟨a1,a2,a3,a4⟩:=h;exact ⟨a1,a2,by omega,by omega⟩
theorem Sz.more (h:Sz l ws i j) (hk:j <= k) (hkl:k <= l.length):Sz l ws i k:=by obtain ⟨a1,a2,a3,a4⟩:=h;exact ⟨by omega,hkl,by omega,by omega⟩
theorem Zck (h:isT l s i=true):i<l.length:=by unfold isT at h;split at h;rename_i t ht;exact (List.getElem?_eq_some_iff.1 ht).1;cases h
theorem Zpc {x:Unit} (h:Zcv l s i= .ok (x,j)):i<l.length∧j=i+1:=by unfold Zcv at h;split at h;rename_i e;cases h;exact ⟨Zck e,rfl⟩;cases h
include hl
theorem Zbgb {kd:Int} {t:Tok} (h:tokS l kd i= .ok (t,j)):i<l.length∧j=i+1∧t.1=kd∧TkOk t:=by unfold tokS at h;split at h;rename_i u hu;split at h;rename_i e;cases h;obtain ⟨hi,e2⟩:=List.getElem?_eq_some_iff.1 hu;exact ⟨hi,rfl,e,e2▸hl _ (List.getElem_mem hi)⟩;cases h;cases h
theorem Zik {kd:Int} (hk:kd=2∨kd=3∨kd=5) (h:numS l kd i= .ok (n,j)):i<l.length∧j=i+1∧nR n:=by obtain ⟨t,m,h1,h2⟩:=Zbg h;obtain ⟨a,rfl,b,c⟩:=Zbgb hl h1;cases h2;refine ⟨a,rfl,?_⟩;rcases Zbfx c with h | h | h | h | h | h;omega;exact h.2;omega;exact h.2;exact h.2;omega
theorem Zbgf {w:List UInt8} (h:txtS l 1 i= .ok (w,j)):i<l.length∧j=i+1∧NmR w∧w.length <= 32:=by obtain ⟨t,m,h1,h2⟩:=Zbg h;obtain ⟨a,rfl,b,c⟩:=Zbgb hl h1;cases h2;refine ⟨a,rfl,?_⟩;rcases Zbfx c with h | h | h | h | h | h;omega;omega;omega;omega;omega;exact h.2
theorem px_g {t:Tok} (h:tokS l 4 i= .ok (t,j)):i<l.length∧j=i+1∧pxR (t.2.2.2.1.toNat:Int) t.2.2.2.2.1:=by
 obtain ⟨a,rfl,b,c⟩:=Zbgb hl h;refine ⟨a,rfl,⟨by omega,by have:=UInt32.toNat_lt t.2.2.2.1;omega⟩,?_⟩
 rw [Int.toNat_natCast];rcases Zbfx c with h | h | h | h | h | h;omega;omega;exact h.2;omega;omega;omega
theorem Zmz {op kd:Int} (hk:kd=2∨kd=3∨kd=5) (h:Zff l op kd i= .ok (c,j)): ∃n,c= .mk op [] 0 0 n∧nR n∧i<l.length∧j=i+1:=by obtain ⟨n,m,h1,h2⟩:=Zbg h;obtain ⟨a,rfl,b⟩:=Zik hl hk h1;cases h2;exact ⟨n,rfl,b,a,rfl⟩
theorem Zciw (h:Zcz l i= .ok (c,j)): ∃op pa pl n,c= .mk op [] pa pl n∧okL op pa pl n∧Sz l (Zfx op pa pl n) i j:=by
 unfold Zcz at h;split at h
 ·rename_i e;have e:=Zck e;unfold Zhu at h;split at h
  ·obtain ⟨t,m,h1,h2⟩:=Zbg h;obtain ⟨a,rfl,b⟩:=px_g hl h1;cases h2;have:=Zbpg b;refine ⟨5,_,_,0,rfl,.inr (.inl ⟨rfl,b,rfl⟩),by omega,by omega,by show 3 <= _;omega,?_⟩
   show 7+(3+((pxT _ _).length+1+0)) <= _;omega
  ·obtain ⟨_,m,h1,h2⟩:=Zbg h;obtain ⟨a,rfl⟩:=Zpc h1;obtain ⟨t,m,h3,h4⟩:=Zbg h2;obtain ⟨a2,rfl,b⟩:=px_g hl h3;have:=Zbpg b;split at h4
   ·rename_i e2;obtain ⟨n,m,h5,h6⟩:=Zbg h4;obtain ⟨a3,rfl,bn⟩:=Zik hl (.inl rfl) h5;cases h6;have:=Zeu bn;refine ⟨4,_,_,n,rfl,.inl ⟨rfl,b,bn⟩,by omega,by omega,by show 5 <= _;omega,?_⟩
    show 7+(3+((pxT _ _).length+1+(3+((Lib.itoa n).length+1+0)))) <= _;omega
   ·cases h4;have bn:nR 32:=⟨by omega,by omega⟩
    refine ⟨4,_,_,32,rfl,.inl ⟨rfl,b,bn⟩,by omega,by omega,by show 5 <= _;omega,?_⟩
    have:=Zeu bn;show 7+(3+((pxT _ _).length+1+(3+((Lib.itoa 32).length+1+0)))) <= _;omega
 have two: ∀{op n:Int} {w0:List UInt8} {p:List UInt8} {j:Nat},i+1<l.length->w0.length <= 32->p.length <= 32->j=i+2->Sz l [w0,p] i j:=fun {op n w0 p j} h1 h2 h3 h4=>by subst h4;exact (Sz.one (by omega) h2).app (Sz.one h1 h3)
 have three: ∀{w0 w1 p:List UInt8} {j:Nat},i+2<l.length->w0.length <= 32->w1.length <= 32->p.length <= 32->j=i+3->Sz l [w0,w1,p] i j:=fun {w0 w1 p j} h1 h2 h3 h4 h5=>by subst h5;exact (Sz.one (by omega) h2).app ((Sz.one (by omega) h3).app (Sz.one h1 h4))
 split at h
 ·rename_i e;have e:=Zck e;unfold Zhr at h;split at h;obtain ⟨n,rfl,b,a,rfl⟩:=Zmz hl (.inl rfl) h;exact ⟨6,0,0,n,rfl,.inr (.inr (.inl ⟨by omega,rfl,rfl,b⟩)),three a (by decide) (by decide) (by have:=Zeu b;omega) rfl⟩
  split at h;obtain ⟨n,rfl,b,a,rfl⟩:=Zmz hl (.inl rfl) h;exact ⟨7,0,0,n,rfl,.inr (.inr (.inl ⟨by omega,rfl,rfl,b⟩)),three a (by decide) (by decide) (by have:=Zeu b;omega) rfl⟩
  split at h;obtain ⟨n,rfl,b,a,rfl⟩:=Zmz hl (.inl rfl) h;exact ⟨8,0,0,n,rfl,.inr (.inr (.inl ⟨by omega,rfl,rfl,b⟩)),three a (by decide) (by decide) (by have:=Zeu b;omega) rfl⟩
  split at h;obtain ⟨n,rfl,b,a,rfl⟩:=Zmz hl (.inl rfl) h;exact ⟨9,0,0,n,rfl,.inr (.inr (.inl ⟨by omega,rfl,rfl,b⟩)),three a (by decide) (by decide) (by have:=Zeu b;omega) rfl⟩
  cases h
 split at h;rename_i e;have e:=Zck e;obtain ⟨n,rfl,b,a,rfl⟩:=Zmz hl (.inr (.inr rfl)) h;exact ⟨10,0,0,n,rfl,.inr (.inr (.inl ⟨by omega,rfl,rfl,b⟩)),two (op:=0) (n:=0) a (by decide) (by have:=Zbjb b;omega) rfl⟩
 split at h
 ·rename_i e;have e:=Zck e;unfold Zfj at h;split at h;rename_i e2;cases h;exact ⟨11,0,0,0,rfl,.inr (.inr (.inr ⟨rfl,rfl,rfl,.inl rfl⟩)),two (op:=0) (n:=0) (Zck e2) (by decide) (by decide) rfl⟩
  split at h;rename_i e2;cases h;exact ⟨11,0,0,1,rfl,.inr (.inr (.inr ⟨rfl,rfl,rfl,.inr (.inl rfl)⟩)),two (op:=0) (n:=0) (Zck e2) (by decide) (by decide) rfl⟩
  split at h;rename_i e2;cases h;exact ⟨11,0,0,2,rfl,.inr (.inr (.inr ⟨rfl,rfl,rfl,.inr (.inr rfl)⟩)),two (op:=0) (n:=0) (Zck e2) (by decide) (by decide) rfl⟩
  cases h
 split at h;rename_i e;have e:=Zck e;obtain ⟨_,m,h1,h2⟩:=Zbg h;obtain ⟨a,rfl⟩:=Zpc h1;obtain ⟨n,rfl,b,a,rfl⟩:=Zmz hl (.inl rfl) h2;exact ⟨12,0,0,n,rfl,.inr (.inr (.inl ⟨by omega,rfl,rfl,b⟩)),three a (by decide) (by decide) (by have:=Zeu b;omega) rfl⟩
 cases h
omit hl
theorem Zccd (c:Cd):(wC c 2).length <= (wC c 0).length+2∧wm (wC c 2) <= wm (wC c 0)+4∧dC c 2 <= dC c 0+1:=by obtain ⟨op,cs,pa,pl,n⟩:=c;by_cases h1:op=1;subst h1;refine ⟨?_,?_,?_⟩<;>simp [wC,dC,Zhb,wm]<;>omega;by_cases h2:op=2;subst h2;refine ⟨?_,?_,?_⟩<;>simp [wC,dC,Zhb,wm]<;>omega;refine ⟨?_,?_,?_⟩<;>simp [wC,dC,h1,h2]
theorem Zccf (c:Cd):(wC c 1).length <= (wC c 2).length∧wm (wC c 1) <= wm (wC c 2)∧dC c 1 <= dC c 2:=by obtain ⟨op,cs,pa,pl,n⟩:=c;by_cases h1:op=1;subst h1;refine ⟨?_,?_,?_⟩<;>simp [wC,dC,Zhb,wm]<;>omega;by_cases h2:op=2;subst h2;refine ⟨?_,?_,?_⟩<;>simp [wC,dC,Zhb,wm]<;>omega;refine ⟨?_,?_,?_⟩<;>simp [wC,dC,h1,h2]
theorem Zcce (c:Cd):(wC c 0).length <= (wC c 1).length∧wm (wC c 0) <= wm (wC c 1)∧dC c 0 <= dC c 1:=by obtain ⟨op,cs,pa,pl,n⟩:=c;by_cases h1:op=1;subst h1;refine ⟨?_,?_,?_⟩<;>simp [wC,dC,Zhb,wm]<;>omega;by_cases h2:op=2;subst h2;refine ⟨?_,?_,?_⟩<;>simp [wC,dC,Zhb,wm]<;>omega;refine ⟨?_,?_,?_⟩<;>simp [wC,dC,h1,h2]
def GdC (l:List Tok) (d:Nat) (lv:Int) (c:Cd) (i j:Nat):Prop:=okK c∧d+dC c lv <= 24∧Sz l (wC c lv) i j
theorem Zbng {one:Nat->Rs Cd} {w:List UInt8} {inner:Int} (hd:d <= 24) (hw:w.length <= 32) (hone: ∀i c j,one i= .ok (c,j)->GdC l d inner c i j): ∀(f i:Nat) (cs:List Cd) (j:Nat),i <= l.length->Zfs l one w f i= .ok (cs,j)->okKs cs∧d+dCs cs inner <= 24∧Sz l (wCs cs [w] inner false) i j
 | 0,i,cs,j,_,h=>by cases h
 | f+1,i,cs,j,hi,h=>by unfold Zfs at h;split at h;rename_i e;have e:=Zck e;obtain ⟨c,m,h1,h2⟩:=Zbg h;obtain ⟨cs',k,h3,h4⟩:=Zbg h2;cases h4;obtain ⟨g1,g2,g3⟩:=hone _ _ _ h1;obtain ⟨g4,g5,g6⟩:=Zbng hd hw hone f m cs' _ g3.2.1 h3;refine ⟨⟨g1,g4⟩,?_,?_⟩;simp only [dCs];omega;simp only [wCs,Bool.false_eq_true,if_false];exact (Sz.one e hw).app (g3.app g6);cases h;exact ⟨trivial,by simp only [dCs];omega,Sz.nil hi⟩
theorem Zbmp {one:Nat->Rs Cd} {w:List UInt8} {inner op:Int} (hd:d <= 24) (hw:w.length <= 32) (hone: ∀i c j,one i= .ok (c,j)->GdC l d inner c i j) (h:Zii l one w op i= .ok (c,j)):
  ∃c0 cs,c=Zkg op c0 cs∧okK c0∧okKs cs∧d+dC c0 inner <= 24∧d+dCs cs inner <= 24∧Sz l (wC c0 inner++wCs cs [w] inner false) i j:=by
 obtain ⟨c0,m,h1,h2⟩:=Zbg h;obtain ⟨cs,k,h3,h4⟩:=Zbg h2;cases h4;obtain ⟨g1,g2,g3⟩:=hone _ _ _ h1;obtain ⟨g4,g5,g6⟩:=Zbng hd hw hone _ m cs _ g3.2.1 h3;exact ⟨c0,cs,rfl,g1,g4,g2,g5,g3.app g6⟩
theorem Zbwv {one:Nat->Rs Cd} (hd:d <= 24) (hone: ∀i c j,one i= .ok (c,j)->GdC l d 2 c i j) (h:allW l one i= .ok (c,j)):GdC l d 1 c i j:=by
 obtain ⟨c0,cs,rfl,h1,h2,h3,h4,h5⟩:=Zbmp (w:=Zfm) (inner:=2) (op:=1) hd (by decide) hone h
 cases cs with
 | nil=>
  have:=Zccf c0;simp only [wCs,List.append_nil] at h5;exact ⟨h1,by show d+dC c0 1 <= 24;omega,h5.le this.1 this.2.1⟩
 | cons c1 cs=>
  refine ⟨?_,?_,?_⟩;show okK (.mk 1 (c0::c1::cs) 0 0 0);rw [okKs] at h2;rw [okK,okKs,okKs];exact ⟨.inl ⟨.inl rfl,by simp,rfl,rfl,rfl⟩,h1,h2⟩
  ·show d+dC (.mk 1 (c0::c1::cs) 0 0 0) 1 <= 24;rw [dC,if_pos rfl,if_neg (by decide),dCs]
   omega
  ·show Sz l (wC (.mk 1 (c0::c1::cs) 0 0 0) 1) i j;have e1:wC (.mk 1 (c0::c1::cs) 0 0 0) 1=wC c0 2++wCs (c1::cs) [Zfm] 2 false:=by
    rw [wC,if_pos rfl,if_neg (by decide),if_neg (by decide)]
    simp [wCs]
   rw [e1];exact h5
theorem Zbic {one:Nat->Rs Cd} (hd:d <= 24) (hone: ∀i c j,one i= .ok (c,j)->GdC l d 2 c i j) (h:anyW l one i= .ok (c,j)):GdC l d 0 c i j:=by
 obtain ⟨c0,cs,rfl,h1,h2,h3,h4,h5⟩:=Zbmp (w:=w_or) (inner:=1) (op:=2) hd (by decide) (fun i c j h=>Zbwv hd hone h) h
 cases cs with
 | nil=>
  have:=Zcce c0;simp only [wCs,List.append_nil] at h5;exact ⟨h1,by show d+dC c0 0 <= 24;omega,h5.le this.1 this.2.1⟩
 | cons c1 cs=>
  refine ⟨?_,?_,?_⟩;show okK (.mk 2 (c0::c1::cs) 0 0 0);rw [okKs] at h2;rw [okK,okKs,okKs];exact ⟨.inl ⟨.inr rfl,by simp,rfl,rfl,rfl⟩,h1,h2⟩
  ·show d+dC (.mk 2 (c0::c1::cs) 0 0 0) 0 <= 24;rw [dC,if_neg (by decide),if_pos rfl,if_neg (by decide),dCs]
   omega
  ·show Sz l (wC (.mk 2 (c0::c1::cs) 0 0 0) 0) i j;have e1:wC (.mk 2 (c0::c1::cs) 0 0 0) 0=wC c0 1++wCs (c1::cs) [w_or] 1 false:=by
    rw [wC,if_neg (by decide),if_pos rfl,if_neg (by decide),if_neg (by decide)]
    simp [wCs]
   rw [e1];exact h5
include hl
theorem Zbeb: ∀(f d i:Nat) (c:Cd) (j:Nat),d <= 24->oneS l f d i= .ok (c,j)->GdC l d 2 c i j
 | 0,d,i,c,j,_,h=>by cases h
 | f+1,d,i,c,j,hd,h=>by
  unfold oneS at h;split at h
  ·rename_i e;have e:=Zck e;split at h;cases h
   ·rename_i hd4;obtain ⟨c0,m,h1,h2⟩:=Zbg h;cases h2;obtain ⟨g1,g2,g3⟩:=Zbeb f (d+1) _ _ _ (by omega) h1
    refine ⟨?_,?_,?_⟩;rw [okK,okKs,okKs];exact ⟨.inr (.inl ⟨rfl,rfl,rfl,rfl,rfl⟩),g1,trivial⟩
    ·rw [dC,if_neg (by decide),if_neg (by decide),if_pos rfl,dCs,dCs]
     omega
    ·have ew:wC (.mk 3 [c0] 0 0 0) 2= [Zgz]++wC c0 2:=by rw [wC];simp [wCs]
     rw [ew];exact (Sz.one e (by decide)).app g3
  split at h
  ·rename_i e;have e:=Zck e;split at h;cases h
   ·rename_i hd4;obtain ⟨c0,m,h1,h2⟩:=Zbg h;obtain ⟨_,k,h3,h4⟩:=Zbg h2;cases h4;obtain ⟨a,rfl⟩:=Zpc h3;obtain ⟨g1,g2,g3⟩:=Zbic (by omega) (fun i c j h=>Zbeb f (d+1) i c j (by omega) h) h1
    obtain ⟨v1,v2,v3⟩:=Zccd c;obtain ⟨s1,s2,s3,s4⟩:=g3;exact ⟨g1,by omega,by omega,by omega,by omega,by omega⟩
  ·obtain ⟨op,pa,pl,n,rfl,h1,h2⟩:=Zciw hl h;have hop:=Zbnt h1;refine ⟨?_,?_,?_⟩;rw [okK,okKs];exact ⟨.inr (.inr ⟨rfl,h1⟩),trivial⟩
   ·rw [dC,if_neg (by omega),if_neg (by omega),if_neg (by omega)]
    omega
   ·rw [wC,if_neg (by omega),if_neg (by omega),if_neg (by omega)]
    exact h2
theorem Zbwz (hd:d <= 24) (h:anyS l d i= .ok (c,j)):GdC l d 0 c i j:=Zbic hd (fun i c j h=>Zbeb hl _ d i c j hd h) h
omit hl in
def GdS (l:List Tok) (d:Nat) (s:Sm) (i j:Nat):Prop:=okQ s∧d+dS s <= 24∧Sz l (wS s) i j
omit hl in
theorem Zju {α:Type} {x y:α} (h:endS l x i= .ok (y,j)):y=x∧i<l.length∧j=i+1:=by obtain ⟨_,m,h1,h2⟩:=Zbg h;obtain ⟨a,rfl⟩:=Zpc h1;cases h2;exact ⟨rfl,a,rfl⟩
theorem Zced {s:Sm} (hd:d <= 24) (h:Zki l i= .ok (s,j)):GdS l d s i j:=by
 have mk: ∀{op n m:Int} {j:Nat},okP op n m->Sz l ([Zep op]++(Zef op n m++[w_sc])) i j->GdS l d (.mk op c0Z [] [] n m) i j:=fun {op n m j} h1 h2=>by
  have hop:=Zoe h1;refine ⟨?_,?_,?_⟩;rw [okQ,okQs];exact ⟨.inr ⟨rfl,rfl,rfl,h1⟩,trivial,trivial⟩
  ·rw [dS,if_neg (by omega)];omega
  rw [Zst hop];exact h2
 unfold Zki at h;split at h;rename_i e;have e:=Zck e;obtain ⟨rfl,a,rfl⟩:=Zju h;exact mk (.inl ⟨by omega,rfl,rfl⟩) ((Sz.one e (by decide)).app ((Sz.nil (by omega)).app (Sz.one a (by decide))))
 split at h;rename_i e;have e:=Zck e;obtain ⟨rfl,a,rfl⟩:=Zju h;exact mk (.inl ⟨by omega,rfl,rfl⟩) ((Sz.one e (by decide)).app ((Sz.nil (by omega)).app (Sz.one a (by decide))))
 split at h;rename_i e;have e:=Zck e;obtain ⟨n,k,h1,h2⟩:=Zbg h;obtain ⟨a1,rfl,b1⟩:=Zik hl (.inl rfl) h1;obtain ⟨m,k,h3,h4⟩:=Zbg h2;obtain ⟨a2,rfl,b2⟩:=Zik hl (.inl rfl) h3;obtain ⟨rfl,a,rfl⟩:=Zju h4;have l1:=Zeu b1;have l2:=Zeu b2;exact mk (.inr (.inl ⟨rfl,b1,b2⟩)) ((Sz.one e (by decide)).app (((Sz.one a1 (by omega)).app (Sz.one a2 (by omega))).app (Sz.one a (by decide))))
 have onen: ∀{op:Int} {k j:Nat} {s:Sm},(op=5∨op=6)->i<l.length->(bS (numS l 2 (i+1)) fun n j=>endS l (.mk op c0Z [] [] n 0) j)= .ok (s,j)->GdS l d s i j:=fun {op k j s} hop e h=>by
  obtain ⟨n,k,h1,h2⟩:=Zbg h;obtain ⟨a1,rfl,b1⟩:=Zik hl (.inl rfl) h1;obtain ⟨rfl,a,rfl⟩:=Zju h2;have l1:=Zeu b1;have ea:Zef op n 0= [Lib.itoa n]:=by rcases hop with rfl | rfl<;>rfl
  have en:(Zep op).length <= 32:=by rcases hop with rfl | rfl<;>decide
  exact mk (.inr (.inr ⟨by omega,b1,rfl⟩)) ((Sz.one e en).app ((ea▸Sz.one a1 (by omega)).app (Sz.one a (by decide))))
 have onec: ∀{op:Int} {k j:Nat} {s:Sm},(op=7∨op=8)->i<l.length->(bS (numS l 5 (i+1)) fun n j=>endS l (.mk op c0Z [] [] n 0) j)= .ok (s,j)->GdS l d s i j:=fun {op k j s} hop e h=>by
  obtain ⟨n,k,h1,h2⟩:=Zbg h;obtain ⟨a1,rfl,b1⟩:=Zik hl (.inr (.inr rfl)) h1;obtain ⟨rfl,a,rfl⟩:=Zju h2;have l1:=Zbjb b1;have ea:Zef op n 0= [Zel n]:=by rcases hop with rfl | rfl<;>rfl
  have en:(Zep op).length <= 32:=by rcases hop with rfl | rfl<;>decide
  exact mk (.inr (.inr ⟨by omega,b1,rfl⟩)) ((Sz.one e en).app ((ea▸Sz.one a1 (by omega)).app (Sz.one a (by decide))))
 split at h;rename_i e;exact onen (k:=0) (.inl rfl) (Zck e) h;split at h;rename_i e;exact onen (k:=0) (.inr rfl) (Zck e) h;split at h;rename_i e;exact onec (k:=0) (.inl rfl) (Zck e) h;split at h;rename_i e;exact onec (k:=0) (.inr rfl) (Zck e) h;split at h;rename_i e;have e:=Zck e;obtain ⟨rfl,a,rfl⟩:=Zju h;exact mk (.inl ⟨by omega,rfl,rfl⟩) ((Sz.one e (by decide)).app ((Sz.nil (by omega)).app (Sz.one a (by decide))))
 cases h
omit hl in
theorem Zbfb {stmt:Nat->Rs Sm} (hd:d <= 24) (hs: ∀i s j,stmt i= .ok (s,j)->GdS l d s i j): ∀(f i:Nat) (ss:List Sm) (j:Nat),Zer l stmt f i= .ok (ss,j)->okQs ss∧d+dSs ss <= 24∧Sz l (wSs ss++[w_rb]) i j
 | 0,i,ss,j,h=>by cases h
 | f+1,i,ss,j,h=>by
  unfold Zer at h;split at h;rename_i e;cases h;exact ⟨trivial,by simp only [dSs];omega,Sz.one (Zck e) (by decide)⟩
  ·obtain ⟨s,m,h1,h2⟩:=Zbg h;obtain ⟨ss',k,h3,h4⟩:=Zbg h2;cases h4;obtain ⟨g1,g2,g3⟩:=hs _ _ _ h1;obtain ⟨g4,g5,g6⟩:=Zbfb hd hs f m ss' _ h3;refine ⟨⟨g1,g4⟩,by simp only [dSs];omega,?_⟩
   simp only [wSs,List.append_assoc];exact g3.app g6
omit hl in
theorem Zbln {stmt:Nat->Rs Sm} {ss:List Sm} (hs:d+1 <= 24->∀i s j,stmt i= .ok (s,j)->GdS l (d+1) s i j) (hd:d <= 24) (h:Zfr l stmt d i= .ok (ss,j)):okQs ss∧d+(1+dSs ss) <= 24∧Sz l ([w_lb]++(wSs ss++[w_rb])) i j:=by
 unfold Zfr at h;split at h
 ·rename_i e;split at h;cases h
  ·obtain ⟨g1,g2,g3⟩:=Zbfb (d:=d+1) (by omega) (hs (by omega)) _ _ _ _ h
   exact ⟨g1,by omega,(Sz.one (Zck e) (by decide)).app g3⟩
 cases h
theorem sm_g: ∀(f d i:Nat) (s:Sm) (j:Nat),d <= 24->smS l f d i= .ok (s,j)->GdS l d s i j
 | 0,d,i,s,j,_,h=>by cases h
 | f+1,d,i,s,j,hd,h=>by
  unfold smS Zhw at h;split at h
  ·rename_i e;have e:=Zck e;obtain ⟨c,m,h1,h2⟩:=Zbg h;obtain ⟨t,m2,h3,h4⟩:=Zbg h2;obtain ⟨el,m3,h5,h6⟩:=Zbg h4;cases h6;obtain ⟨g1,g2,g3⟩:=Zbwz hl hd h1;have hst:d+1 <= 24->∀i s j,smS l f (d+1) i= .ok (s,j)->GdS l (d+1) s i j:=fun hd1 i s j h=>sm_g f (d+1) i s j hd1 h;obtain ⟨g4,g5,g6⟩:=Zbln hst hd h3;have hel:okQs el∧(el.length=0∨d+(1+dSs el) <= 24)∧Sz l (if el.length=0 then [] else [Zfy]++([w_lb]++(wSs el++[w_rb]))) m2 j:=by
    unfold Zli at h5;split at h5
    ·rename_i e2;obtain ⟨g7,g8,g9⟩:=Zbln hst hd h5;refine ⟨g7,.inr g8,?_⟩;have e2:=Zck e2;have g:=(Sz.one e2 (s:=Zfy) (by decide)).app g9
     split;exact ⟨g.1,g.2.1,Nat.zero_le _,Nat.zero_le _⟩;exact g
    cases h5;exact ⟨trivial,.inl rfl,by rw [if_pos (by rfl)];exact Sz.nil g6.2.1⟩
   refine ⟨?_,?_,?_⟩;rw [okQ];exact ⟨.inl ⟨rfl,g1,rfl,rfl⟩,g4,hel.1⟩;rw [dS,if_pos rfl];rcases hel.2.1 with h0 | h0;rw [if_pos h0];omega;split<;>omega;rw [Zxz];exact (Sz.one e (by decide)).app (g3.app (g6.app hel.2.2))
  exact Zced hl hd h
theorem Zbxj {ss:List Sm} (h:Zmv l 0 i= .ok (ss,j)):okQs ss∧dSs ss <= 24∧Sz l (wSs ss++[w_rb]) i j:=by
 obtain ⟨g1,g2,g3⟩:=Zbfb (d:=0) (by omega) (fun i s j h=>sm_g hl _ 0 i s j (by omega) h) _ _ _ _ h
 exact ⟨g1,by omega,g3⟩
end
end Go.Proofs.YtlkdgfolbllngaaGreatDoor
end
section
namespace Go.Proofs.YtlkdgfolbllngaaGreatDoor
open Go.Sh
def GWs (ws:W8):Prop:=∀w∈ws,GW w
theorem GWs.nil:GWs []:=fun w h=>by cases h
theorem GWs.cons {w:List UInt8} {ws:W8} (h:GW w) (hs:GWs ws):GWs (w::ws):=fun u hu=>by rcases List.mem_cons.1 hu with rfl | hu;exact h;exact hs u hu
theorem GWs.app {ws us:W8} (h:GWs ws) (hs:GWs us):GWs (ws++us):=fun u hu=>by rcases List.mem_append.1 hu with hu | hu;exact h u hu;exact hs u hu
theorem GWs.one {w:List UInt8} (h:GW w):GWs [w]:=GWs.cons h GWs.nil
def kws:W8:=[Zgz,w_or,Zfm,w_is,w_in,w_le,Zdi,Zbv,Zdh,Zbe,Zbj,Zey,Zfo,Zgm,Zgl,Zha,Zhy,Zjn,w_if,Zfy,Zdt,Zce,Zco,Zcu,Zee,Zes,Zfn,w_as,Zit,Zfz,Zcn,Zcr,Zbx,Zcs,Zda,Zdv,Zej,Zdu]
theorem Zdz {w:List UInt8} (h:w∈kws):GW w:=by simp only [kws,List.mem_cons,List.not_mem_nil,or_false] at h;rcases h with rfl | rfl | rfl | rfl | rfl | rfl | rfl | rfl | rfl | rfl | rfl | rfl | rfl | rfl | rfl | rfl | rfl | rfl | rfl | rfl | rfl | rfl | rfl | rfl | rfl | rfl | rfl | rfl | rfl | rfl | rfl | rfl | rfl | rfl | rfl | rfl | rfl | rfl<;>exact Znu (by decide) (by decide) rfl
theorem Zif {c:UInt8} (h:Zgv c=true):GW [c]:=⟨(6,[c],0,0,0,0),.inl ⟨c,h,rfl⟩,rfl⟩
theorem Zet {n:Int} (h:nR n):GW (Lib.itoa n):=by rw [Zbdd h];exact Zbzu _ (by have:=h.1;have:=h.2;omega)
theorem Zbcv {n:Int} (h:nR n):GW (Zel n):=by rw [Zbax h];exact Zbzq _ _ (by have:=h.1;have:=h.2;omega) (by omega)
theorem Zblg {n:Int} (h:u32R n):GW (txt n.toNat):=Zbzv _ (by have:=h.1;have:=h.2;omega)
theorem Zbzr {op pa pl n:Int} (h:okL op pa pl n):GWs (Zfx op pa pl n):=by
 have kk: ∀{w:List UInt8},w∈kws->GW w:=Zdz;rcases h with ⟨rfl,hp,hn⟩ | ⟨rfl,hp,rfl⟩ | ⟨hop,rfl,rfl,hn⟩ | ⟨rfl,rfl,rfl,hn⟩;exact GWs.cons (kk (by decide)) (GWs.cons (kk (by decide)) (GWs.cons (Zblh hp) (GWs.cons (kk (by decide)) (GWs.one (Zet hn)))))
 exact GWs.cons (kk (by decide)) (GWs.cons (kk (by decide)) (GWs.one (Zblh hp)))
 ·rcases hop with rfl | rfl | rfl | rfl | rfl | rfl;exact GWs.cons (w:=Zbv) (kk (by decide)) (GWs.cons (w:=Zey) (kk (by decide)) (GWs.one (Zet hn)))
  exact GWs.cons (w:=Zbv) (kk (by decide)) (GWs.cons (w:=Zfo) (kk (by decide)) (GWs.one (Zet hn)))
  exact GWs.cons (w:=Zbv) (kk (by decide)) (GWs.cons (w:=Zbe) (kk (by decide)) (GWs.one (Zet hn)))
  exact GWs.cons (w:=Zbv) (kk (by decide)) (GWs.cons (w:=Zgm) (kk (by decide)) (GWs.one (Zet hn)))
  exact GWs.cons (w:=Zdh) (kk (by decide)) (GWs.one (Zbcv hn))
  exact GWs.cons (w:=Zbj) (kk (by decide)) (GWs.cons (w:=Zjn) (kk (by decide)) (GWs.one (Zet hn)))
 ·rcases hn with rfl | rfl | rfl;exact GWs.cons (w:=Zbe) (kk (by decide)) (GWs.one (w:=Zgl) (kk (by decide)))
  exact GWs.cons (w:=Zbe) (kk (by decide)) (GWs.one (w:=Zha) (kk (by decide)))
  exact GWs.cons (w:=Zbe) (kk (by decide)) (GWs.one (w:=Zhy) (kk (by decide)))
theorem Zvf {b:W8} {inner:Int} (hb:GWs b): ∀(cs:List Cd) (f:Bool),(∀c∈cs,∀lv,GWs (wC c lv))->GWs (wCs cs b inner f)
 | [],f,_=>by rw [wCs];exact GWs.nil
 | c::cs,f,h=>by rw [wCs];refine GWs.app ?_ ((h c List.mem_cons_self _).app (Zvf hb cs false fun d hd=>h d (List.mem_cons_of_mem _ hd)));split;exact GWs.nil;exact hb
theorem gw_C: ∀(k:Nat) (c:Cd),SizeOf.sizeOf c <= k->okK c->∀lv,GWs (wC c lv)
 | 0,.mk op cs pa pl n,hk,_=>by simp at hk
 | k+1,.mk op cs pa pl n,hk,hok=>fun lv=>by
  simp only [Cd.mk.sizeOf_spec] at hk;rw [okK] at hok;obtain ⟨hok,hcs⟩:=hok;have mem: ∀c∈cs,∀lv,GWs (wC c lv):=fun c hc=>gw_C k c (by have:=List.sizeOf_lt_of_mem hc;omega) (Zwg hcs c hc)
  have hif: ∀{p:Prop} [Decidable p] {c:UInt8},Zgv c=true->GWs (if p then [[c]] else []):=fun {p _ c} h=>by split;exact GWs.one (Zif h);exact GWs.nil
  rw [wC];split;exact (hif (by decide)).app ((Zvf (GWs.one (Zdz (by decide))) cs _ mem).app (hif (by decide)))
  split;exact (hif (by decide)).app ((Zvf (GWs.one (Zdz (by decide))) cs _ mem).app (hif (by decide)))
  split;exact GWs.cons (Zdz (by decide)) (Zvf GWs.nil cs _ mem)
  rcases hok with ⟨h,_⟩ | ⟨h,_⟩ | ⟨_,h⟩;omega;omega;exact Zbzr h
theorem Zvg: ∀ss:List Sm,(∀s∈ss,GWs (wS s))->GWs (wSs ss)
 | [],_=>by rw [wSs];exact GWs.nil
 | s::ss,h=>by rw [wSs];exact (h s List.mem_cons_self).app (Zvg ss fun t ht=>h t (List.mem_cons_of_mem _ ht))
theorem Zbzt {op:Int} (h:2 <= op∧op <= 9):GW (Zep op):=by
 have:op=2∨op=3∨op=4∨op=5∨op=6∨op=7∨op=8∨op=9:=by omega
 rcases this with rfl | rfl | rfl | rfl | rfl | rfl | rfl | rfl<;>exact Zdz (by decide)
theorem Zbzp {op n m:Int} (h:okP op n m):GWs (Zef op n m):=by rcases h with ⟨rfl | rfl | rfl,rfl,rfl⟩ | ⟨rfl,hn,hm⟩ | ⟨rfl | rfl | rfl | rfl,hn,rfl⟩;exact GWs.nil;exact GWs.nil;exact GWs.nil;exact GWs.cons (Zet hn) (GWs.one (Zet hm));exact GWs.one (Zet hn);exact GWs.one (Zet hn);exact GWs.one (Zbcv hn);exact GWs.one (Zbcv hn)
theorem gw_S: ∀(k:Nat) (s:Sm),SizeOf.sizeOf s <= k->okQ s->GWs (wS s)
 | 0,.mk op c th el n m,hk,_=>by simp at hk
 | k+1,.mk op c th el n m,hk,hok=>by
  simp only [Sm.mk.sizeOf_spec] at hk;rw [okQ] at hok;obtain ⟨hok,hth,hel⟩:=hok;have m1:=Zvg th fun s hs=>gw_S k s (by have:=List.sizeOf_lt_of_mem hs;omega) (Zil hth s hs)
  have m2:=Zvg el fun s hs=>gw_S k s (by have:=List.sizeOf_lt_of_mem hs;omega) (Zil hel s hs)
  rcases hok with ⟨rfl,hc,_⟩ | ⟨rfl,rfl,rfl,hp⟩
  ·rw [Zxz];refine (GWs.one (Zdz (by decide))).app ((gw_C _ c (Nat.le_refl _) hc 0).app (((GWs.one (Zif (by decide))).app (m1.app (GWs.one (Zif (by decide))))).app ?_))
   split;exact GWs.nil;exact (GWs.one (Zdz (by decide))).app ((GWs.one (Zif (by decide))).app (m2.app (GWs.one (Zif (by decide)))))
  rw [Zst (Zoe hp)];exact (GWs.one (Zbzt (Zoe hp))).app ((Zbzp hp).app (GWs.one (Zif (by decide))))
theorem Zbzm {p:Pl} (h:okPo p):GWs (wPl p):=by unfold wPl wB;exact (GWs.cons (Zdz (by decide)) (GWs.one (Zvh h.nm))).app ((GWs.one (Zif (by decide))).app ((Zvg p.l fun s hs=>gw_S _ s (Nat.le_refl _) (Zil h.l s hs)).app (GWs.one (Zif (by decide)))))
theorem Zbzn {p:Pr} (h:okPe p):GWs (wPr p):=by
 unfold wPr;refine (GWs.cons (Zdz (by decide)) (GWs.cons (Zvh h.nm) (GWs.cons (Zblg h.addr) (GWs.one (Zdz (by decide)))))).app ((GWs.one (Zet h.as_)).app (GWs.app ?_ (GWs.app ?_ (GWs.app ?_ (GWs.app ?_ (GWs.one (Zif (by decide))))))))
 ·split;exact GWs.one (Zdz (by decide))
  exact GWs.nil
 ·split;exact (GWs.one (Zdz (by decide))).app (GWs.one (Zet h.max))
  exact GWs.nil
 split;exact GWs.nil;rename_i hne;exact GWs.cons (Zdz (by decide)) (GWs.one (Zvh (h.in_.resolve_left hne)))
 split;exact GWs.nil;rename_i hne;exact GWs.cons (Zdz (by decide)) (GWs.one (Zvh (h.out.resolve_left hne)))
theorem Zble: ∀ps:List Pl,(∀p∈ps,okPo p)->GWs (wPls ps)
 | [],_=>GWs.nil
 | p::ps,h=>(Zbzm (h p List.mem_cons_self)).app (Zble ps fun q hq=>h q (List.mem_cons_of_mem _ hq))
theorem Zblf: ∀ps:List Pr,(∀p∈ps,okPe p)->GWs (wPrs ps)
 | [],_=>GWs.nil
 | p::ps,h=>(Zbzn (h p List.mem_cons_self)).app (Zblf ps fun q hq=>h q (List.mem_cons_of_mem _ hq))
theorem Zbzo {sp:Sp} (h:okSp sp):GWs (wSp sp):=by
 have sc:GW w_sc:=Zif (by decide)
 unfold wSp Zhx;refine (GWs.cons (Zdz (by decide)) (GWs.cons (Zet h.as_) (GWs.cons sc (GWs.cons (Zdz (by decide)) (GWs.cons (Zblg h.router) (GWs.cons sc (GWs.cons (Zdz (by decide)) (GWs.cons (Zet h.hold) (GWs.cons sc (GWs.cons (Zdz (by decide)) (GWs.cons (Zet h.retry) (GWs.one sc)))))))))))).app (GWs.app ?_ ((Zble _ h.pols).app (Zblf _ h.peers)))
 split;exact GWs.cons (Zdz (by decide)) (GWs.cons (Zet h.grace) (GWs.one sc))
 exact GWs.nil
theorem Zjj {n:Int} (h:nR n):i64R n:=⟨by have:=h.1;omega,by have:=h.2;omega⟩
theorem Zbiu: ∀(k:Nat) (c:Cd),SizeOf.sizeOf c <= k->okK c->cdR c
 | 0,.mk op cs pa pl n,hk,_=>by simp at hk
 | k+1,.mk op cs pa pl n,hk,hok=>by
  simp only [Cd.mk.sizeOf_spec] at hk;rw [okK] at hok;obtain ⟨hok,hcs⟩:=hok;have z:u32R 0∧i64R 0∧i64R 0:=⟨⟨by omega,by omega⟩,⟨by omega,by omega⟩,⟨by omega,by omega⟩⟩
  rw [cdR];refine ⟨?_,Zbiw fun c hc=>Zbiu k c (by have:=List.sizeOf_lt_of_mem hc;omega) (Zwg hcs c hc)⟩
  have px:pxR pa pl->u32R pa∧i64R pl:=fun h=>by obtain ⟨_,h0,h1,_⟩:=Zoi h;exact ⟨h.1,by omega,by omega⟩
  rcases hok with ⟨_,_,rfl,rfl,rfl⟩ | ⟨_,_,rfl,rfl,rfl⟩ | ⟨_,⟨_,hp,hn⟩ | ⟨_,hp,rfl⟩ | ⟨_,rfl,rfl,hn⟩ | ⟨_,rfl,rfl,hn⟩⟩;exact z;exact z;exact ⟨(px hp).1,(px hp).2,Zjj hn⟩;exact ⟨(px hp).1,(px hp).2,z.2.2⟩;exact ⟨z.1,z.2.1,Zjj hn⟩;exact ⟨z.1,z.2.1,⟨by omega,by omega⟩⟩
theorem Zbfq: ∀(k:Nat) (s:Sm),SizeOf.sizeOf s <= k->okQ s->smR s
 | 0,.mk op c th el n m,hk,_=>by simp at hk
 | k+1,.mk op c th el n m,hk,hok=>by
  simp only [Sm.mk.sizeOf_spec] at hk;rw [okQ] at hok;obtain ⟨hok,hth,hel⟩:=hok;have z:i64R 0:=⟨by omega,by omega⟩
  rw [smR];refine ⟨?_,Zxe fun s hs=>Zbfq k s (by have:=List.sizeOf_lt_of_mem hs;omega) (Zil hth s hs),Zxe fun s hs=>Zbfq k s (by have:=List.sizeOf_lt_of_mem hs;omega) (Zil hel s hs)⟩
  rcases hok with ⟨_,hc,rfl,rfl⟩ | ⟨rfl,_,_,hp⟩;exact ⟨Zbiu _ c (Nat.le_refl _) hc,z,z⟩
  ·refine ⟨?_,?_⟩;rw [cdR,cdRs];exact ⟨⟨⟨by omega,by omega⟩,z,z⟩,trivial⟩
   rcases hp with ⟨_,rfl,rfl⟩ | ⟨_,hn,hm⟩ | ⟨_,hn,rfl⟩;exact ⟨z,z⟩;exact ⟨Zjj hn,Zjj hm⟩;exact ⟨Zjj hn,z⟩
theorem Zchm {sp:Sp} (h:okSp sp):spR sp:=
 ⟨⟨h.as_.1,by have:=h.as_.2;omega⟩,h.router,Zjj h.hold,Zjj h.retry,Zjj h.grace,fun p hp=>Zxe fun s hs=>Zbfq _ s (Nat.le_refl _) (Zil (h.pols p hp).l s hs),fun p hp=>⟨(h.peers p hp).addr,⟨(h.peers p hp).as_.1,by have:=(h.peers p hp).as_.2;omega⟩,Zjj (h.peers p hp).max⟩⟩
theorem Zbri: ∀(ps qs:List Pl),wPls (ps++qs)=wPls ps++wPls qs
 | [],qs=>rfl
 | p::ps,qs=>by show wPl p++wPls (ps++qs)=wPl p++wPls ps++wPls qs;rw [Zbri ps qs,List.append_assoc]
theorem Zbrj: ∀(ps qs:List Pr),wPrs (ps++qs)=wPrs ps++wPrs qs
 | [],qs=>rfl
 | p::ps,qs=>by show wPr p++wPrs (ps++qs)=wPr p++wPrs ps++wPrs qs;rw [Zbrj ps qs,List.append_assoc]
structure ItQ (s:Sp) (i:Nat):Prop where
 ok:okSp s
 n:(wPls s.pols).length+(wPrs s.peers).length <= 2*i
 b:wm (wPls s.pols)+wm (wPrs s.peers) <= 33*i
section
variable {l:List Tok} (hl: ∀t∈l,TkOk t) {i j k d:Nat} {s:List UInt8} {ws us:W8} {n:Int}
theorem Zbdr {α:Type} {w:List UInt8} {f:Nat->Rs α} {x y:α} (h:mayS l w f x i= .ok (y,j)):(i<l.length∧f (i+1)= .ok (y,j))∨(y=x∧j=i):=by unfold mayS at h;split at h;rename_i e;exact .inl ⟨Zck e,h⟩;cases h;exact .inr ⟨rfl,rfl⟩
include hl
theorem Zcdq {p:Pr} (hi:i<l.length) (h:Zhs l (i+1)= .ok (p,j)):okPe p∧Sz l (wPr p) i j:=by
 unfold Zhs at h;obtain ⟨nm,k1,h1,h⟩:=Zbg h;obtain ⟨a1,rfl,b1,c1⟩:=Zbgf hl h1;obtain ⟨ad,k2,h2,h⟩:=Zbg h;obtain ⟨a2,rfl,b2⟩:=Zik hl (.inr (.inl rfl)) h2;obtain ⟨_,k3,h3,h⟩:=Zbg h;obtain ⟨a3,rfl⟩:=Zpc h3;obtain ⟨as_,k4,h4,h⟩:=Zbg h;obtain ⟨a4,rfl,b4⟩:=Zik hl (.inl rfl) h4;obtain ⟨wt,k5,h5,h⟩:=Zbg h;obtain ⟨mx,k6,h6,h⟩:=Zbg h;obtain ⟨i_,k7,h7,h⟩:=Zbg h;obtain ⟨o_,k8,h8,h⟩:=Zbg h;obtain ⟨rfl,a9,rfl⟩:=Zju h;have u2:u32R ad:=⟨b2.1,by have:=b2.2;omega⟩
 have u4:u32R as_:=⟨b4.1,by have:=b4.2;omega⟩
 have tl:=Zsp ad.toNat;have il:=Zeu b4;have z5:Sz l (if wt=true then [Zit] else []) (i+1+1+1+1+1) k5:=by
  rcases Zbdr h5 with ⟨x,h⟩ | ⟨rfl,rfl⟩;cases h;exact Sz.one x (by decide)
  exact Sz.nil (by omega)
 have z6:Sz l (if mx>0 then [Zfz]++[Lib.itoa mx] else []) k5 k6∧nR mx:=by
  rcases Zbdr h6 with ⟨x,h⟩ | ⟨rfl,rfl⟩
  ·obtain ⟨x2,rfl,b6⟩:=Zik hl (.inl rfl) h;have:=Zeu b6;refine ⟨?_,b6⟩;split;exact (Sz.one x (by decide)).app (Sz.one x2 (by omega))
   exact (Sz.nil z5.2.1).more (by omega) (by omega)
  exact ⟨Sz.nil z5.2.1,by omega,by omega⟩
 have side: ∀{w x:List UInt8} {a b:Nat},w.length <= 32->a <= l.length->mayS l w (txtS l 1) [] a= .ok (x,b)->Sz l (if x= [] then [] else [w,x]) a b∧(x= []∨NmR x):=fun {w x a b} hw ha h=>by
  rcases Zbdr h with ⟨x1,h⟩ | ⟨rfl,rfl⟩
  ·obtain ⟨x2,rfl,b6,c6⟩:=Zbgf hl h;refine ⟨?_,.inr b6⟩;split;exact (Sz.nil ha).more (by omega) (by omega)
   exact (Sz.one x1 hw).app (Sz.one x2 c6)
  exact ⟨by rw [if_pos rfl];exact Sz.nil ha,.inl rfl⟩
 obtain ⟨z7,n7⟩:=side (by decide) z6.1.2.1 h7
 obtain ⟨z8,n8⟩:=side (by decide) z7.2.1 h8
 rw [wrap_u32 u2,wrap_u32 u4];refine ⟨⟨b1,u2,b4,z6.2,n7,n8⟩,?_⟩;unfold wPr;dsimp only;exact ((Sz.one hi (by decide)).app ((Sz.one a1 c1).app ((Sz.one a2 (by omega)).app (Sz.one a3 (by decide))))).app ((Sz.one a4 (by omega)).app (z5.app (z6.1.app (z7.app (z8.app (Sz.one a9 (by decide)))))))
theorem Zsf {kd:Int} {g:Int->Sp} {s':Sp} (hk:kd=2∨kd=3) (h:setS l kd g i= .ok (s',j)): ∃n,nR n∧s'=g n∧j=i+2∧j <= l.length:=by
 obtain ⟨n,k,h1,h2⟩:=Zbg h;obtain ⟨a,rfl,b⟩:=Zik hl (by omega) h1
 obtain ⟨rfl,a2,rfl⟩:=Zju h2;exact ⟨n,b,rfl,rfl,a2⟩
theorem Zcai {s s':Sp} (hi:i<l.length) (hs:ItQ s i) (h:Zcl l s i= .ok (s',j)):ItQ s' j∧j <= l.length:=by
 obtain ⟨ok,hn,hb⟩:=hs;have pp: ∀{n:Int} {j:Nat} {s':Sp},j=i+1+2->s'.pols=s.pols->s'.peers=s.peers->okSp s'->ItQ s' j:=fun {n j s'} e e1 e2 ho=>⟨ho,by rw [e1,e2];omega,by rw [e1,e2];omega⟩
 unfold Zcl at h;split at h
 ·rename_i e;obtain ⟨nm,k1,h1,h⟩:=Zbg h;obtain ⟨a1,rfl,b1,c1⟩:=Zbgf hl h1;obtain ⟨_,k2,h2,h⟩:=Zbg h;obtain ⟨a2,rfl⟩:=Zpc h2;obtain ⟨b,k3,h3,h⟩:=Zbg h;cases h;obtain ⟨g1,g2,g3⟩:=Zbxj hl h3;have hz:=((Sz.one hi (s:=Zcr) (by decide)).app (Sz.one a1 c1)).app ((Sz.one a2 (s:=w_lb) (by decide)).app g3)
  have hw:wPls (s.pols++[⟨nm,b⟩])=wPls s.pols++wPl ⟨nm,b⟩:=by rw [Zbri];simp [wPls]
  obtain ⟨z1,z2,z3,z4⟩:=hz;have z3:(wPl ⟨nm,b⟩).length <= 2*(j - i):=z3;have z4:wm (wPl ⟨nm,b⟩) <= 33*(j - i):=z4;refine ⟨⟨⟨ok.as_,ok.router,ok.hold,ok.retry,ok.grace,fun p hp=>?_,ok.peers⟩,?_,?_⟩,z2⟩;rcases List.mem_append.1 hp with hp | hp;exact ok.pols p hp;rw [List.mem_singleton.1 hp];exact ⟨b1,g1,g2⟩;dsimp only;rw [hw,List.length_append];omega;dsimp only;rw [hw,Zhb];omega
 split at h
 ·obtain ⟨p,k1,h1,h⟩:=Zbg h;cases h;obtain ⟨g1,z1,z2,z3,z4⟩:=Zcdq hl hi h1;have hw:wPrs (s.peers++[p])=wPrs s.peers++wPr p:=by rw [Zbrj];simp [wPrs]
  refine ⟨⟨⟨ok.as_,ok.router,ok.hold,ok.retry,ok.grace,ok.pols,fun q hq=>?_⟩,?_,?_⟩,z2⟩;rcases List.mem_append.1 hq with hq | hq;exact ok.peers q hq;rw [List.mem_singleton.1 hq];exact g1;dsimp only;rw [hw,List.length_append];omega;dsimp only;rw [hw,Zhb];omega
 split at h
 ·obtain ⟨n,b,rfl,e,f⟩:=Zsf hl (.inl rfl) h;have u:u32R n:=⟨b.1,by have:=b.2;omega⟩
  rw [wrap_u32 u];exact ⟨pp (n:=0) e rfl rfl ⟨b,ok.router,ok.hold,ok.retry,ok.grace,ok.pols,ok.peers⟩,f⟩
 split at h
 ·obtain ⟨n,b,rfl,e,f⟩:=Zsf hl (.inr rfl) h;have u:u32R n:=⟨b.1,by have:=b.2;omega⟩
  rw [wrap_u32 u];exact ⟨pp (n:=0) e rfl rfl ⟨ok.as_,u,ok.hold,ok.retry,ok.grace,ok.pols,ok.peers⟩,f⟩
 split at h;obtain ⟨n,b,rfl,e,f⟩:=Zsf hl (.inl rfl) h;exact ⟨pp (n:=0) e rfl rfl ⟨ok.as_,ok.router,b,ok.retry,ok.grace,ok.pols,ok.peers⟩,f⟩;split at h;obtain ⟨n,b,rfl,e,f⟩:=Zsf hl (.inl rfl) h;exact ⟨pp (n:=0) e rfl rfl ⟨ok.as_,ok.router,ok.hold,b,ok.grace,ok.pols,ok.peers⟩,f⟩;split at h;obtain ⟨n,b,rfl,e,f⟩:=Zsf hl (.inl rfl) h;exact ⟨pp (n:=0) e rfl rfl ⟨ok.as_,ok.router,ok.hold,ok.retry,b,ok.pols,ok.peers⟩,f⟩;cases h
theorem Zblt: ∀(f i:Nat) (s sp:Sp),i <= l.length->ItQ s i->Zcx l f s i= .ok sp->ItQ sp l.length
 | 0,i,s,sp,_,_,h=>by cases h
 | f+1,i,s,sp,hi,hs,h=>by rw [Zcx] at h;split at h;rename_i e;split at h;rename_i t j h1;obtain ⟨g1,g2⟩:=Zcai hl e hs h1;exact Zblt f j t sp g2 g1 h;cases h;cases h;exact ⟨hs.ok,by have:=hs.n;omega,by have:=hs.b;omega⟩
end
theorem Zbqq: ∀l:List Tok,(∀t∈l,TkOk t)->2*l.length <= wm (txs l)
 | [],_=>Nat.zero_le _
 | t::l,h=>by have h1:=Zbqq l fun u hu=>h u (List.mem_cons_of_mem _ hu);have h2:=Zbzs ⟨t,h t List.mem_cons_self,rfl⟩;show 2*(l.length+1) <= t.2.1.length+1+wm (txs l);omega
theorem Zcdi {s:List UInt8} {sp:Sp} (h:Zdr s= .ok sp) (hs:s.length <= 1500):okSp sp∧wm (wSp sp) <= 65536∧Zdr (Zdg sp)= .ok sp:=by
 unfold Zdr lexR at h;rw [if_neg (show ¬65536<s.length by omega)] at h
 obtain ⟨hk,hm⟩:=Zcbw s.length s 1 [] (Nat.le_refl _) (fun t h=>by cases h)
 generalize lex s 1 []=r at h hk hm;obtain ⟨l,i,e⟩:=r;dsimp only at h hk hm;have hm:wm (txs l) <= 0+2*s.length:=hm;split at h;cases h;have hl:=Zbqq l hk;have hit:ItQ sp l.length:=by
  unfold finS at h;split at h
  ·rename_i sp' h1;cases h;have z:nR 0:=⟨by omega,by omega⟩
   exact Zblt hk _ 0 Zhv sp (Nat.zero_le _) ⟨⟨z,⟨by show (0:Int) <= 0;omega,by show (0:Int)<4294967296;omega⟩,⟨by show (0:Int) <= 90;omega,by show (90:Int) <= 4294967295;omega⟩,⟨by show (0:Int) <= 30;omega,by show (30:Int) <= 4294967295;omega⟩,z,fun p hp=>(by cases hp),fun p hp=>(by cases hp)⟩,Nat.le_refl 0,Nat.le_refl 0⟩ h1
  cases h
 obtain ⟨ok,hn,hb⟩:=hit;have l1:=Zeu ok.as_;have l2:=Zsp sp.router.toNat;have l3:=Zeu ok.hold;have l4:=Zeu ok.retry;have l5:=Zeu ok.grace;have hg:(if sp.grace>0 then [Zdu,Lib.itoa sp.grace,w_sc] else []).length <= 3∧wm (if sp.grace>0 then [Zdu,Lib.itoa sp.grace,w_sc] else []) <= 40:=by split;refine ⟨Nat.le_refl 3,?_⟩;show 9+((Lib.itoa sp.grace).length+1+2) <= 40;omega;exact ⟨Nat.zero_le _,Nat.zero_le _⟩
 have hh:(Zhx sp).length=12∧wm (Zhx sp) <= 200:=by refine ⟨rfl,?_⟩;show 7+((Lib.itoa sp.as_).length+1+(2+(7+((txt sp.router.toNat).length+1+(2+(5+((Lib.itoa sp.hold).length+1+(2+(6+((Lib.itoa sp.retry).length+1+2)))))))))) <= 200;omega
 have hcount:(wSp sp).length <= 4096:=by unfold wSp;simp only [List.length_append];omega
 have hbytes:wm (wSp sp) <= 65536:=by unfold wSp;simp only [Zhb];omega
 exact ⟨ok,hbytes,Zciz ok (Zbzo ok) hcount hbytes⟩
theorem Zbro: ∀{ws:W8} {w:List UInt8},w∈ws->w.length <= wm ws
 | [],w,h=>by cases h
 | x::ws,w,h=>by show w.length <= x.length+1+wm ws;rcases List.mem_cons.1 h with rfl | h;omega;have:=Zbro h;omega
theorem Zbrn: ∀ws:W8,ws.length <= wm ws
 | []=>Nat.zero_le _
 | x::ws=>by have:=Zbrn ws;show ws.length+1 <= x.length+1+wm ws;omega
end Go.Proofs.YtlkdgfolbllngaaGreatDoor
end
section
set_option maxRecDepth 100000
namespace Go.Proofs.YtlkdgfolbllngaaGreatDoor
open Go.Sh Go.Pc
section
variable {F H H1 H':Heap}
theorem Zchf (s:List UInt8):FnW Tryz.prog Zbci ⟨[.string (bstr s)]⟩ H fun v H'=>H'=H∧∃t:List UInt8,(t.length <= 1500∨t.length=65537)∧v= .string (bstr t):=by
 refine Zcnk (bstr s) ?_;unfold Zbvz;have hsz:(bstr s).size=s.length:=by show s.toArray.size=_;simp
 rw [hsz];refine IfB.intro (fun e=>?_) fun e=>?_
 ·have e:=of_decide_eq_true e;refine InC.intro 65537 rfl (by omega) fun H2 hs2=>⟨Zxb hs2,s.take 65537,.inr (by rw [List.length_take];omega),?_⟩
  rw [Zty s (Nat.zero_le _)];rfl
 ·have e:=of_decide_eq_false e;refine InC.intro (min s.length 1500) (by omega) (by omega) fun H2 hs2=>⟨Zxb hs2,s.take (min s.length 1500),.inl (by rw [List.length_take];omega),?_⟩
  rw [Zty s (Nat.zero_le _)];rfl
theorem Zboi {H0 H1:Heap} {v1:Value} {t:List UInt8} (p:ParR H0 t v1 H1): ∃(sp:Sp) (F:Heap) (vs:List Value) (ln e:Int),v1= .tuple ⟨[.agg ⟨vs⟩,.int .i64 ln,.int .i64 e]⟩∧SpV F vs sp∧Keep Nil F H1∧((Zdr t= .ok sp∧e=0)∨((∃z,Zdr t= .error z)∧e≠0)):=by
 obtain ⟨k,p⟩:=p;cases hp:Zdr t with
 | ok sp=>
  rw [hp] at p;obtain ⟨F,vs,rfl,hv,fr,_,_⟩:=p;exact ⟨sp,F,vs,0,0,rfl,hv,fr,.inl ⟨rfl,rfl⟩⟩
 | error z=>
  obtain ⟨ln,e⟩:=z;rw [hp] at p;obtain ⟨rfl,h⟩:=p;exact ⟨Zbfu,emp,spZ,ln,e,rfl,SpV.zero,Zbjx,.inr ⟨⟨_,rfl⟩,h⟩⟩
theorem Zciy (sp:Sp):0<(Zdg sp).length:=by
 unfold Zdg wSp Zhx;have e: ∀(x y:List UInt8) (r:List (List UInt8)),Lib.join (x::y::r) [32]=x++([32]++Lib.join (y::r) [32]):=fun x y r=>by simp [Lib.join,List.intercalate,List.intersperse]
 rw [List.cons_append,List.cons_append,e];simp only [List.length_append,List.length_cons];omega
theorem Zcja (hy:Lyd H) (s:List UInt8):FnW Tryz.prog Zbby ⟨[.string (bstr s)]⟩ H fun v H'=>v= .bool true∧Keep Nil H H':=by
 refine Zclr (bstr s) ?_;unfold Zbto;refine (Zcka hy).mono ?_;rintro _ H1 ⟨rfl,k1⟩;refine ⟨_,rfl,ifF rfl ((Zchf s).mono ?_)⟩;rintro _ _ ⟨rfl,t,ht,rfl⟩;refine ⟨_,rfl,(Zyw (hy.keep k1) (by omega)).mono ?_⟩
 rintro v1 H2 p1;have k2:=p1.1;obtain ⟨sp1,F1,vs1,ln1,e1,rfl,hv1,fr1,c1⟩:=Zboi p1;have hv1':=hv1;obtain ⟨a1,b1,ac1,bc1,rfl,_⟩:=hv1'.ex;refine ⟨_,_,_,_,_,_,_,_,_,_,_,_,_,rfl,newB fun q H3 hq bq k3=>st7s bq fun H4 bq4 k4=>?_⟩;have k24:Keep Nil H2 H4:=k3.then k4 fun y hy=> .inr (hy▸hq);have k04:=(k1.trans k2).trans k24;have fr4:=fr1.trans k24;have done: ∀{H5:Heap},Keep Nil H H5->Zth q true H5 fun v H1=>∀H2,Shut H H1 H2->v= .bool true∧Keep Nil H H2:=fun {H5} k=>by unfold Zth;exact ifT rfl fun H6 hs=>⟨rfl,Zi k hs⟩
 refine IfB.intro (fun _=>done k04) fun e0=>?_;have e0:e1=0:=by simpa using e0
 obtain ⟨hp,_⟩:=c1.resolve_right fun h=>h.2 e0;have ht2:t.length <= 1500:=by
  rcases ht with h | h;exact h
  ·unfold Zdr lexR at hp;rw [if_pos (show 65536<t.length by omega),if_pos (show (([],0,3):LexR).2.2≠0 by decide)] at hp
   cases hp
 obtain ⟨ok,hwm,hrt⟩:=Zcdi hp ht2;have hjw:=Zbde (wSp sp1);have hln:=Zbrn (wSp sp1);refine ld7s bq4 ((Zbiy hv1 fr4).mono ?_);rintro _ H5 ⟨rfl,k5⟩;have k05:=k04.trans k5;refine ⟨_,rfl,?_⟩;by_cases hc:chkE sp1=0
 case neg=>
  rw [show ((chkE sp1:Int) !=0)=true by simpa using hc]
  exact done k05
 rw [show ((chkE sp1:Int) !=0)=false by simpa using hc]
 unfold Zth;have bq5:=k5.blk bq4 id;have fr5:=fr4.trans k5;refine ifF rfl (ld7s bq5 ((Zcep (hy.keep k05) hv1 fr5 (Zchm ok) (by omega) (by show (Lib.join (wSp sp1) [32]).length <= _;omega) (fun x hx=>by have:=Zbro hx;omega) fun k=>Zbiy hv1 k).mono ?_))
 rintro v6 H6 ⟨k6,h6⟩;have h6:v6= .tuple ⟨[.string (bstr (Zdg sp1)),.int .i64 0]⟩:=by rcases h6 with ⟨h,_⟩ | ⟨_,h,_⟩ | ⟨_,_,h⟩;exact absurd hc h;exact absurd hrt h;exact h
 subst h6;have k06:=k05.trans k6;refine ⟨_,_,rfl,(Zyw (hy.keep k06) (by show (Lib.join (wSp sp1) [32]).length <= _;omega)).mono ?_⟩
 rintro v7 H7 p7;have k7:=p7.1;obtain ⟨sp2,F2,vs2,ln2,e2,rfl,hv2,fr2,c2⟩:=Zboi p7;rw [hrt] at c2;obtain ⟨rfl,rfl⟩:sp2=sp1∧e2=0:=by rcases c2 with ⟨h,h2⟩ | ⟨⟨z,h⟩,_⟩;cases h;exact ⟨rfl,h2⟩;cases h
 have hv2':=hv2;obtain ⟨a2,b2,ac2,bc2,rfl,_⟩:=hv2'.ex;refine ⟨_,_,_,_,_,_,_,_,_,_,_,_,_,rfl,newB fun r H8 hr br k8=>st7s br fun H9 br9 k9=>?_⟩;have bq7:=k7.blk (k6.blk bq5 id) id;have hqr:q≠r:=fun e=>by subst e;exact bq7.some hr
 have bq9:=k9.blk (k8.blk bq7 id) hqr;have k79:Keep Nil H7 H9:=k8.then k9 fun y hy=> .inr (hy▸hr);have k09:=(k06.trans k7).trans k79;refine ifT rfl (ifT rfl (ld7s bq9 (ld7s br9 ((Zcgl hv1 hv2 (((fr5.trans k6).trans k7).trans k79) (fr2.trans k79)).mono ?_))));rintro _ H10 ⟨rfl,k10⟩;refine ⟨_,rfl,ifT rfl fun H11 hs=>⟨?_,Zi (k09.trans k10) hs⟩⟩;have:=Zciy sp2;have e:(bstr (Zdg sp2)).size=(Zdg sp2).length:=by show (Zdg sp2).toArray.size=_;simp
 rw [e,decide_eq_true (by omega)]
end
abbrev Zbtp:List Pk:=[Pk.str]
abbrev Zclq:List Pk:=[Pk.bool]
theorem Zclp:FnQ Tryz.prog Zbby Zbtp Zclq (fun x K=>K (true,())):=
 Zbzc rfl (fun x=>rfl) fun x K hK H Z vs hs hz hlive hok=>by
  obtain ⟨s,u⟩:=x
  match vs,hs with
  | [v],hs=>
   simp only [pksA,pkA,SimL,SimV] at hs;obtain ⟨⟨rfl,hl⟩,_⟩:=hs;refine (Zcja ⟨hlive,hok⟩ s).mono ?_;rintro _ H' ⟨rfl,k⟩;refine ⟨k,(true,()),fun _=>False,hK,Zpw.none,?_⟩;simp only [pksA,pkA,outA,SimV]
end Go.Proofs.YtlkdgfolbllngaaGreatDoor
end
