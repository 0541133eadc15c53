/-
set_option linter.all false
  Layer 15 in plain terms:segments,joints,outboxes,connections,and what calls make of them.
-/
set_option linter.all false
section
noncomputable section
namespace Go.Conn
structure Sg where
  src:Int
  dst:Int
  seq:Nat
  ack:Nat
  flags:Int
  win:Int
  urg:Int
  big:Int
  data:List Int
def i16 (n:Int):Bool:=decide (0 <= n)&&decide (n <= 65535)
def Sg.fits (s:Sg):Bool:=i16 s.src&&i16 s.dst&&i16 s.win&&i16 s.urg&&i16 s.big&&decide (0 <= s.flags)&&decide (s.flags<64)
def Sg.can (s:Sg):Bool:=s.fits&&decide (s.data.length <= 65495)
def bitB (f:Int) (b:Nat):Bool:=decide (f.toNat/2^b%2=1)
def Sg.has (s:Sg) (b:Nat):Bool:=bitB s.flags b
def Sg.fin (s:Sg):Bool:=s.has 0
def Sg.syn (s:Sg):Bool:=s.has 1
def Sg.rst (s:Sg):Bool:=s.has 2
def Sg.acks (s:Sg):Bool:=s.has 4
def Sg.span (s:Sg):Nat:=s.data.length+(if s.syn then 1 else 0)+(if s.fin then 1 else 0)
noncomputable def addN (a n:Nat):Nat:=Classical.choose (⟨_,rfl⟩: ∃x,x=(a+n)%4294967296)
theorem Zde (a n:Nat):addN a n=(a+n)%4294967296:=Classical.choose_spec (⟨_,rfl⟩: ∃x,x=(a+n)%4294967296)
noncomputable def wayN (a b:Nat):Nat:=Classical.choose (⟨_,rfl⟩: ∃x,x=(b+4294967296 - a)%4294967296)
theorem Zfq (a b:Nat):wayN a b=(b+4294967296 - a)%4294967296:=Classical.choose_spec (⟨_,rfl⟩: ∃x,x=(b+4294967296 - a)%4294967296)
def Zlg (a b:Nat):Bool:=decide (wayN a b≠0)&&decide (wayN a b<2147483648)
def Sg.reset (s:Sg):Option Sg:=
  if s.rst then none else if s.acks then some ⟨s.dst,s.src,s.ack,0,4,0,0,0,[]⟩ else some ⟨s.dst,s.src,0,addN s.seq s.span,20,0,0,0,[]⟩
def Zei (a from_ size:Nat):Bool:=decide (size <= 65535)&&decide (wayN from_ a<size)
def Zcy (next size from_ n:Nat):Bool:=
  if 65535<size∨1073741824<n then false
  else if n=0∧size=0 then decide (from_=next)
  else if n=0 then Zei from_ next size
  else Zei from_ next size||Zei (addN from_ (n - 1)) next size
def Zbm (next size from_ n:Nat):Nat×Nat:=
  if 65535<size∨1073741824<n then (0,0)
  else if wayN next from_<size then (0,min n (size - wayN next from_))
  else if n <= wayN from_ next∨size=0 then (0,0)
  else (wayN from_ next,min (n - wayN from_ next) size)
structure Jn where
  next:Nat
  rdy:List Int
  held:Nat->Option Int
def Jn.win (j:Jn):Nat:=4096 - j.rdy.length
def Jn.hold (j:Jn) (behind:Nat) (b:List Int):Jn:={ j with held:=fun i=>(j.held i).or (if behind <= i then b[i - behind]? else none) }
def Jn.step (j:Jn) (x:Int):Jn:=⟨addN j.next 1,j.rdy++[x],fun i=>j.held (i+1)⟩
def Jn.move:Nat->Jn->Jn
  | 0,j=>j
  | f+1,j=>match j.held 0 with
    | some x=>(j.step x).move f
    | none=>j
def Jn.add (j:Jn) (at_:Nat) (b:List Int):Jn:=
  if 65536<b.length then j else
  let t:=Zbm j.next j.win at_ b.length
  (j.hold (wayN j.next (addN at_ t.1)) ((b.drop t.1).take t.2)).move 4096
def Jn.read (j:Jn) (n:Nat):List Int×Jn:=(j.rdy.take n,{ j with rdy:=j.rdy.drop n })
structure Jn.Ok (j:Jn):Prop where
  next:j.next<4294967296
  len:j.rdy.length <= 4096
  held: ∀i,j.held i≠none->i+j.rdy.length<4096
structure Cn where
  st:Nat
  src:Int
  dst:Int
  first:Nat
  una:Nat
  data:List Int
  sent:Nat
  win:Nat
  big:Nat
  tries:Nat
  inn:Option Jn
  shut:Bool
  bye:Bool
  sure:Bool
  got:Bool
structure Cn.Ok (c:Cn):Prop where
  st:c.st <= 9
  first:c.first<4294967296
  una:c.una<4294967296
  len:c.data.length <= 4096
  sent:c.sent <= c.data.length
  win:c.win <= 65535
  big:1 <= c.big∧c.big <= 1460
  tries:c.tries <= 8
  inn: ∀j,c.inn=some j->j.Ok
  some:2 <= c.st->c.inn≠none
  got:c.got=true->c.inn≠none
def Cn.wants (c:Cn):Nat:=match c.inn with
  | none=>if c.got then 1 else 0
  | some j=>if c.got then addN j.next 1 else j.next
def Cn.onext (c:Cn):Nat:=addN c.una c.sent
def Cn.last (c:Cn):Nat:=if c.bye then addN c.onext 1 else c.onext
def Cn.room (c:Cn):Nat:=match c.inn with
  | none=>4096
  | some j=>j.win
def Cn.mk' (c:Cn) (at_:Nat) (flags:Int) (b:List Int):Sg:=⟨c.src,c.dst,at_,c.wants,flags,c.room,0,0,b⟩
def Cn.hello (c:Cn):Sg:={ c.mk' c.first (if c.st=2 then 18 else if c.st=1 then 2 else 0) [] with big:=1460 }
def Cn.nod (c:Cn):Sg:=c.mk' c.last 16 []
def Cn.fin (c:Cn):Sg:=c.mk' c.onext 17 []
def Cn.fresh (c:Cn) (most:Nat):Cn:={ c with una:=addN c.first 1,data:=[],sent:=0,win:=0,big:=most,tries:=0 }
def greatest (s:Sg):Nat:=if s.big=0 then 536 else min s.big.toNat 1460
def Cn.begin (c:Cn) (s:Sg):Cn:={ c.fresh (greatest s) with inn:=some ⟨addN s.seq 1,[],fun _=>none⟩ }
def Cn.may (c:Cn):Nat:=min (min c.big (c.data.length - c.sent)) (c.win - c.sent)
def Cn.piece (c:Cn) (n:Nat):Sg:=c.mk' c.onext 24 ((c.data.drop c.sent).take n)
def Cn.sends:Nat->Cn->List Sg×Cn
  | 0,c=>([],c)
  | f+1,c=>if c.may=0 then ([],c) else
    let r:=Cn.sends f { c with sent:=c.sent+c.may }
    (c.piece c.may::r.1,r.2)
def Cn.byes (c:Cn):List Sg×Cn:=if c.shut&& !c.bye&&decide (c.sent=c.data.length) then ([c.fin],{ c with bye:=true }) else ([],c)
def Cn.flush (c:Cn):List Sg×Cn:=
  if c.st=3∨c.st=4∨c.st=6∨c.st=7∨c.st=8 then
    let a:=Cn.sends 4097 c
    let b:=a.2.byes
    (a.1++b.1,b.2)
  else ([],c)
def Cn.news (c:Cn):Cn:={ c with tries:=0 }
def Cn.ackd (c:Cn) (ack:Nat) (win:Nat):Option (Nat×Cn):=
  let n:=wayN c.una ack
  if c.sent<n then none
  else some (n,{ c with win:=win,una:=addN c.una n,data:=c.data.drop n,sent:=c.sent - n,tries:=if n=0 then c.tries else 0 })
def pick {α:Type}:Option (Nat×α)->α->α
  | some (_,e),_=>e
  | none,z=>z
theorem Zzy {α:Type} {p:α->Prop}: ∀{o:Option (Nat×α)} {z:α},(∀n d,o=some (n,d)->p d)->p z->p (pick o z)
  | some (n,d),_,h1,_=>h1 n d rfl
  | none,_,_,h2=>h2
def Cn.welcome (c:Cn) (s:Sg):Cn:=pick (Cn.ackd { c with st:=3,tries:=0 } s.ack s.win.toNat) { c with st:=3,tries:=0 }
def Cn.finished (c:Cn):Cn:=if c.sure then c else
  { c with sure:=true,st:=if c.st=4 then 5 else if c.st=7 then 9 else if c.st=8 then 0 else c.st }
def Cn.quiet (c:Cn) (s:Sg):Cn:=if s.win=0 then { c with tries:=0 } else c
def lastN:Option (Nat×Cn)->Cn->Cn
  | some (n,d),c=>if 0<n∨c.sure=false then d.news else d
  | none,c=>c
def ackG:Option (Nat×Cn)->Cn->Sg->Bool×Cn
  | some (_,d),_,s=>(true,d.quiet s)
  | none,c,s=>if c.bye&&decide (s.ack=c.last) then (true,((lastN (c.ackd c.onext s.win.toNat) c).finished).quiet s) else (Zlg s.ack c.una,c)
def Cn.acknowledged (c:Cn) (s:Sg):Bool×Cn:=ackG (c.ackd s.ack s.win.toNat) c s
def Cn.joined (c:Cn) (s:Sg) (k:Jn):Cn:=
  if s.fin&&decide (addN s.seq s.data.length=k.next) then { c with inn:=some k,got:=true,st:=if c.st=3 then 6 else if c.st=4 then 7 else 9 } else { c with inn:=some k }
def Zbbe:Option Jn->Cn->Sg->Cn
  | none,c,_=>c
  | some j,c,s=>if c.st=3∨c.st=4∨c.st=5 then c.joined s (j.add s.seq s.data) else c
def Cn.takes (c:Cn) (s:Sg):Cn:=Zbbe c.inn c s
abbrev Ans:=List Sg×Int×Cn
def Cn.lost (c:Cn):Ans:=([],151,{ c with st:=0 })
def Cn.refuse (s:Sg):List Sg:=match s.reset with
  | some r=>[r]
  | none=>[]
def Cn.answer (c:Cn) (s:Sg):Ans:=
  if s.acks&&decide (s.ack≠addN c.first 1) then (Cn.refuse s,0,c)
  else if s.rst then (if s.acks then c.lost else ([],0,c))
  else if !s.syn then ([],0,c)
  else
    let d:=c.begin s
    if !s.acks then
      let e:={ d with st:=2 }
      ([e.hello],0,e)
    else
      let f:=(d.welcome s).flush
      (if f.1= [] then [f.2.nod] else f.1,0,f.2)
def Cn.rest (c:Cn) (s:Sg):Ans:=
  if c.st=0 then ([],0,c)
  else
    let f:=(c.takes s).flush
    (if f.1= []∧s.span≠0 then [f.2.nod] else f.1,0,f.2)
def Zbwb:Option Jn->Nat
  | some j=>j.win
  | none=>0
def Cn.jwin (c:Cn):Nat:=Zbwb c.inn
def Cn.take (c:Cn) (s:Sg):Ans:=
  let ok:=Zcy c.wants c.jwin s.seq s.span
  if !ok&&s.rst then ([],0,c)
  else if !ok||(s.syn&& !s.rst)||(s.rst&&decide (s.seq≠c.wants)) then ([c.nod],0,c)
  else if s.rst then c.lost
  else if !s.acks then ([],0,c)
  else if c.st≠2 then
    (let a:=c.acknowledged s
     if a.1 then a.2.rest s else ([a.2.nod],0,a.2))
  else if s.ack≠addN c.first 1 then (Cn.refuse s,0,c)
  else (c.welcome s).rest s
def Cn.Take (c:Cn) (s:Sg):Ans:=
  if !s.can then ([],2,c)
  else if c.st=0 then ([],150,c)
  else if c.st=1 then c.answer s
  else c.take s
def Zrl:Option Jn->Cn->Nat->List Int×List Sg×Cn
  | none,c,_=>([],[],c)
  | some j,c,n=>(j.rdy.take n,if j.win=0∧0<(j.read n).2.win∧3 <= c.st∧c.st <= 5 then [Cn.nod { c with inn:=some (j.read n).2 }] else [],{ c with inn:=some (j.read n).2 })
def Cn.read (c:Cn) (n:Nat):List Int×List Sg×Cn:=Zrl c.inn c n
def Cn.again (c:Cn):Ans:=
  if c.st=9 then ([],0,{ c with st:=0 })
  else if c.st=1∨c.st=2 then (if c.tries=8 then c.lost else let d:={ c with tries:=c.tries+1 };([d.hello],0,d))
  else if 0<c.sent then (if c.tries=8 then c.lost else ([c.mk' c.una 24 (c.data.take (min c.sent c.big))],0,{ c with tries:=c.tries+1 }))
  else if c.bye&& !c.sure then (if c.tries=8 then c.lost else ([c.fin],0,{ c with tries:=c.tries+1 }))
  else if 0<c.win∨c.data= [] then c.lost
  else ([c.piece 1],0,{ c with sent:=c.sent+1 })
def Cn.new (src dst:Int) (first:Nat):Cn:=⟨0,src,dst,first,addN first 1,[],0,0,536,0,none,false,false,false,false⟩
def Zbf (n:Int):Bool:=decide (1 <= n)&&decide (n <= 65535)
def dial (src dst:Int) (first:Nat):List Sg×Cn:=([Cn.hello { Cn.new src dst first with st:=1 }],{ Cn.new src dst first with st:=1 })
def accept (s:Sg) (first:Nat):List Sg×Cn:=let c:=({ Cn.new s.dst s.src first with st:=2 }:Cn).begin s;([c.hello],c)
end Go.Conn
end
section
namespace Go.Conn
theorem Zle {a n:Nat} (h:a+n<4294967296):addN a n=a+n:=(Zde a n).trans (Nat.mod_eq_of_lt h)
theorem Zbb (a n:Nat):addN a n<4294967296:=by rw [Zde];exact Nat.mod_lt _ (by decide)
theorem Znb {a b:Nat} (h:a <= b) (hb:b<4294967296):wayN a b=b - a:=by rw [Zfq];omega
def lim:Nat:=2147483648
theorem Zld {a n:Nat} (h:a+n<lim):addN a n=a+n:=(Zde a n).trans (Nat.mod_eq_of_lt (Nat.lt_trans h (by decide)))
structure JHears (isn:Nat) (w:List Int) (j:Jn) (rd:List Int) (N:Nat):Prop where
  le:N <= w.length
  next:j.next=isn+1+N
  rdy:rd++j.rdy=w.take N
  held: ∀i x,j.held i=some x->w[N+i]? =some x
def Piece (isn:Nat) (w:List Int) (at_:Nat) (b:List Int):Prop:=b= []∨∃p,at_=isn+1+p∧p+b.length <= w.length∧∀t,t<b.length->b[t]? =w[p+t]?
theorem JHears.move {isn:Nat} {w rd:List Int}: ∀(f:Nat) {j:Jn} {N:Nat},JHears isn w j rd N->isn+w.length+1<4294967296->∃N',N <= N'∧JHears isn w (j.move f) rd N'
  | 0,j,N,h,_=>⟨N,Nat.le_refl _,h⟩
  | f+1,j,N,h,hb=>by
    unfold Jn.move;cases hx:j.held 0 with
    | none=>exact ⟨N,Nat.le_refl _,h⟩
    | some x=>
      have hw:=h.held 0 x hx;rw [Nat.add_zero] at hw;have hlt:N<w.length:=(List.getElem?_eq_some_iff.1 hw).1;have h2:JHears isn w (j.step x) rd (N+1):=
        { le:=hlt
          next:=by
            show addN j.next 1=_;rw [Zle (by rw [h.next];omega),h.next];omega
          rdy:=by show rd++(j.rdy++[x])=_;rw [← List.append_assoc,h.rdy,List.take_add_one,hw];rfl
          held:=fun i y hy=>by
            have:=h.held (i+1) y hy;rw [← this];congr 1;omega }
      obtain ⟨N',h3,h4⟩:=JHears.move f h2 hb;exact ⟨N',by omega,h4⟩
theorem Zry (next size at_ n:Nat):Zbm next size at_ n=(0,0)∨(wayN next at_<size∧Zbm next size at_ n=(0,min n (size - wayN next at_)))∨
    (¬wayN next at_<size∧wayN at_ next<n∧size≠0∧Zbm next size at_ n=(wayN at_ next,min (n - wayN at_ next) size)):=by
  unfold Zbm;by_cases h1:65535<size∨1073741824<n;rw [if_pos h1];exact .inl rfl
  . rw [if_neg h1];by_cases h2:wayN next at_<size
    rw [if_pos h2];exact .inr (.inl ⟨h2,rfl⟩)
    . rw [if_neg h2];by_cases h3:n <= wayN at_ next∨size=0
      rw [if_pos h3];exact .inl rfl;rw [if_neg h3];exact .inr (.inr ⟨h2,by omega,by omega,rfl⟩)
theorem Zcco {next size at_ n isn N p:Nat} (hs:size <= 4096) (hn:n <= 65536) (h1:next=isn+1+N) (h2:at_=isn+1+p) (hN:isn+1+N<2147483648) (hp:isn+1+p+n<2147483648) (hm:0<(Zbm next size at_ n).2):
    (Zbm next size at_ n).1+(Zbm next size at_ n).2 <= n∧N <= p+(Zbm next size at_ n).1∧wayN next (addN at_ (Zbm next size at_ n).1)=p+(Zbm next size at_ n).1 - N:=by
  subst h1 h2;have e1:N <= p->wayN (isn+1+N) (isn+1+p)=p - N:=fun hc=>by rw [Znb (by omega) (by omega)];omega
  have e2:p<N->65536 <= wayN (isn+1+N) (isn+1+p):=fun hc=>by rw [Zfq];omega
  have e3:p<N->wayN (isn+1+p) (isn+1+N)=N - p:=fun hc=>by rw [Znb (by omega) (by omega)];omega
  have e4:N <= p->p≠N->65536 <= wayN (isn+1+p) (isn+1+N):=fun hc he=>by rw [Zfq];omega
  have e5:p=N->wayN (isn+1+p) (isn+1+N)=0:=fun he=>by rw [Znb (by omega) (by omega)];omega
  have e6:addN (isn+1+p) 0=isn+1+p:=by rw [Zle (by omega)];omega
  rcases Zry (isn+1+N) size (isn+1+p) n with h | ⟨hi,h⟩ | ⟨hi,ho,hs0,h⟩;rw [h] at hm;simp at hm
  . rw [h];simp only;by_cases hc:N <= p;rw [e1 hc] at hi ⊢;rw [e6,e1 hc];omega
    . have:=e2 (by omega)
      omega
  . rw [h];simp only;by_cases hc:N <= p;by_cases he:p=N;rw [e1 hc] at hi;omega;have:=e4 hc he;omega
    . rw [e3 (by omega)] at ho ⊢
      have e7:addN (isn+1+p) (N - p)=isn+1+N:=by rw [Zle (by omega)];omega
      have e8:wayN (isn+1+N) (isn+1+N)=0:=by rw [Znb (by omega) (by omega)];omega
      rw [e7,e8];omega
theorem JHears.add {isn:Nat} {w rd:List Int} {j:Jn} {N at_:Nat} {b:List Int} (h:JHears isn w j rd N) (hp:Piece isn w at_ b) (hb:isn+1+w.length<2147483648): ∃N',N <= N'∧JHears isn w (j.add at_ b) rd N':=by
  unfold Jn.add;by_cases hl:65536<b.length;rw [if_pos hl];exact ⟨N,Nat.le_refl _,h⟩
  . rw [if_neg hl];refine JHears.move _ ?_ (by omega)
    refine ⟨h.le,h.next,h.rdy,fun i x hx=>?_⟩;simp only [Jn.hold] at hx;cases ho:j.held i with
    | some y=>rw [ho,Option.some_or] at hx;cases hx;exact h.held i _ ho
    | none=>
      rw [ho,Option.none_or] at hx;split at hx
      . rename_i hle;obtain ⟨hlt,_⟩:=List.getElem?_eq_some_iff.1 hx;rw [List.length_take,List.length_drop] at hlt;rcases hp with rfl | ⟨p,hat,hpl,hget⟩;simp at hlt
        . have hle2:=h.le;have hw:j.win <= 4096:=by unfold Jn.win;omega
          obtain ⟨q1,q2,q3⟩:=Zcco (next:=j.next) (size:=j.win) (at_:=at_) (n:=b.length) hw (by omega) h.next hat (by omega) (by omega) (by omega)
          rw [q3] at hle hx hlt;rw [List.getElem?_take_of_lt (by omega),List.getElem?_drop,hget _ (by omega)] at hx
          rw [← hx];congr 1;omega
      cases hx
theorem JHears.read {isn:Nat} {w rd:List Int} {j:Jn} {N:Nat} (h:JHears isn w j rd N) (n:Nat):JHears isn w (j.read n).2 (rd++(j.read n).1) N:=
  ⟨h.le,h.next,by
    show (rd++j.rdy.take n)++j.rdy.drop n=_;rw [List.append_assoc,List.take_append_drop,h.rdy],h.held⟩
theorem JHears.grow {isn:Nat} {w rd:List Int} {j:Jn} {N:Nat} (h:JHears isn w j rd N) (x:List Int):JHears isn (w++x) j rd N:=
  ⟨by rw [List.length_append];have:=h.le;omega,h.next,by rw [h.rdy,List.take_append_of_le_length h.le],fun i y hy=>by
    have:=h.held i y hy;rw [List.getElem?_append_left (List.getElem?_eq_some_iff.1 this).1];exact this⟩
theorem Piece.grow {isn:Nat} {w:List Int} {at_:Nat} {b:List Int} (h:Piece isn w at_ b) (x:List Int):Piece isn (w++x) at_ b:=by rcases h with h | ⟨p,h1,h2,h3⟩;exact .inl h;exact .inr ⟨p,h1,by rw [List.length_append];omega,fun t ht=>by rw [h3 t ht,List.getElem?_append_left (by omega)]⟩
end Go.Conn
end
section
namespace Go.Conn
structure Gen (isn:Nat) (w:List Int) (ended:Bool) (s:Sg):Prop where
  syn:s.syn=true->s.seq=isn∧s.data= []∧s.fin=false
  piece:s.syn=false->Piece isn w s.seq s.data
  fin:s.fin=true->ended=true∧s.seq+s.data.length=isn+1+w.length
structure Side (isn:Nat) (w:List Int) (c:Cn):Prop where
  first:c.first=isn
  una: ∃U,U <= w.length∧c.una=isn+1+U∧c.data=w.drop U
  sent:c.sent <= c.data.length
  early:c.st=1∨c.st=2->w= []
  shut:c.shut=true->c.st≠3∧c.st≠6∧c.st≠1∧c.st≠2
  bye:c.bye=true->c.shut=true∧c.sent=c.data.length
structure Hears (isn:Nat) (w:List Int) (ended:Bool) (c:Cn) (rd:List Int):Prop where
  nil:c.inn=none->rd= []∧c.got=false
  one:c.st=1->c.inn=none
  jn: ∀j,c.inn=some j->∃N,JHears isn w j rd N∧(c.got=true->N=w.length∧ended=true)
theorem bits:bitB 16 0=false∧bitB 16 1=false∧bitB 4 0=false∧bitB 4 1=false∧bitB 20 0=false∧bitB 20 1=false∧bitB 24 0=false∧bitB 24 1=false∧bitB 17 1=false∧bitB 18 0=false∧bitB 2 0=false∧bitB 0 0=false∧bitB 0 1=false:=by decide
theorem Gen.plain {isn:Nat} {w:List Int} {e:Bool} {s:Sg} (h1:s.syn=false) (h2:s.fin=false) (h3:s.data= []):Gen isn w e s:=
  ⟨fun h=>by (rw [h1] at h;cases h),fun _=> .inl h3,fun h=>by (rw [h2] at h;cases h)⟩
theorem Gen.nod {isn:Nat} {w:List Int} {e:Bool} (c:Cn):Gen isn w e c.nod:=Gen.plain (show bitB 16 1=false by decide) (show bitB 16 0=false by decide) rfl
theorem Gen.refuse {isn:Nat} {w:List Int} {e:Bool} (s:Sg): ∀o∈Cn.refuse s,Gen isn w e o:=by
  intro o ho;unfold Cn.refuse at ho;cases hr:s.reset with
  | none=>rw [hr] at ho;cases ho
  | some r=>
    rw [hr] at ho;rw [List.mem_singleton.1 ho];unfold Sg.reset at hr;split at hr;cases hr
    . split at hr;cases hr;exact Gen.plain (show bitB 4 1=false by decide) (show bitB 4 0=false by decide) rfl
      cases hr;exact Gen.plain (show bitB 20 1=false by decide) (show bitB 20 0=false by decide) rfl
theorem Gen.hello {isn:Nat} {w:List Int} {e:Bool} {c:Cn} (h:c.first=isn):Gen isn w e c.hello:=by
  have hf:c.hello.fin=false:=by
    show bitB (if c.st=2 then 18 else if c.st=1 then 2 else 0) 0=false
    split;decide;split<;>decide
  exact ⟨fun _=>⟨h,rfl,hf⟩,fun hs=> .inl rfl,fun h2=>by rw [hf] at h2;cases h2⟩
theorem Gen.grow {isn:Nat} {w:List Int} {s:Sg} (h:Gen isn w false s) (x:List Int) (e:Bool):Gen isn (w++x) e s:=
  ⟨h.syn,fun hs=>(h.piece hs).grow x,fun hf=>by have:=(h.fin hf).1;cases this⟩
theorem Gen.ends {isn:Nat} {w:List Int} {e:Bool} {s:Sg} (h:Gen isn w e s):Gen isn w true s:=⟨h.syn,h.piece,fun hf=>⟨rfl,(h.fin hf).2⟩⟩
theorem Hears.grow {isn:Nat} {w rd:List Int} {c:Cn} (h:Hears isn w false c rd) (x:List Int):Hears isn (w++x) false c rd:=
  ⟨h.nil,h.one,fun j hj=>by
    obtain ⟨N,h1,h2⟩:=h.jn j hj;exact ⟨N,h1.grow x,fun hg=>by have:=(h2 hg).2;cases this⟩⟩
theorem Hears.ends {isn:Nat} {w rd:List Int} {c:Cn} {e:Bool} (h:Hears isn w e c rd):Hears isn w true c rd:=
  ⟨h.nil,h.one,fun j hj=>by
    obtain ⟨N,h1,h2⟩:=h.jn j hj;exact ⟨N,h1,fun hg=>⟨(h2 hg).1,rfl⟩⟩⟩
section
variable {isn:Nat} {w:List Int} {c:Cn}
theorem Side.onext (h:Side isn w c) (hb:isn+1+w.length<lim): ∃U,U <= w.length∧c.data=w.drop U∧c.una=isn+1+U∧c.onext=isn+1+U+c.sent∧U+c.data.length=w.length:=by
  obtain ⟨U,h1,h2,h3⟩:=h.una;have hs:=h.sent;have hl:c.data.length=w.length - U:=by rw [h3,List.length_drop]
  refine ⟨U,h1,h3,h2,?_,by omega⟩
  unfold Cn.onext;rw [h2,Zld (by omega)]
theorem Side.piece (h:Side isn w c) (hb:isn+1+w.length<lim) (n:Nat) {e:Bool}:Gen isn w e (c.piece n):=by
  obtain ⟨U,h1,h2,h3,h4,h5⟩:=h.onext hb;have hs:=h.sent;have b1:(c.piece n).syn=false:=show bitB 24 1=false by decide
  have b0:(c.piece n).fin=false:=show bitB 24 0=false by decide
  refine ⟨(fun hs=>by rw [b1] at hs;cases hs),fun _=> .inr ⟨U+c.sent,by show c.onext=_;rw [h4];omega,?_,fun t ht=>?_⟩,(fun hf=>by rw [b0] at hf;cases hf)⟩
  show U+c.sent+((c.data.drop c.sent).take n).length <= _;rw [List.length_take,List.length_drop];omega
  . show ((c.data.drop c.sent).take n)[t]? =_;have ht':t<((c.data.drop c.sent).take n).length:=ht;rw [List.length_take,List.length_drop] at ht';rw [List.getElem?_take_of_lt (by omega),List.getElem?_drop,h2,List.getElem?_drop]
    congr 1;omega
theorem Side.first_ (h:Side isn w c) (hb:isn+1+w.length<lim) (n:Nat) {e:Bool}:Gen isn w e (c.mk' c.una 24 (c.data.take n)):=by
  obtain ⟨U,h1,h2,h3,h4,h5⟩:=h.onext hb;have b1:(c.mk' c.una 24 (c.data.take n)).syn=false:=show bitB 24 1=false by decide
  have b0:(c.mk' c.una 24 (c.data.take n)).fin=false:=show bitB 24 0=false by decide
  refine ⟨(fun hs=>by rw [b1] at hs;cases hs),fun _=> .inr ⟨U,h3,?_,fun t ht=>?_⟩,(fun hf=>by rw [b0] at hf;cases hf)⟩
  show U+(c.data.take n).length <= _;rw [List.length_take];omega;show (c.data.take n)[t]? =_;have ht':t<(c.data.take n).length:=ht;rw [List.length_take] at ht';rw [List.getElem?_take_of_lt (by omega),h2,List.getElem?_drop]
theorem Side.fin_ (h:Side isn w c) (hb:isn+1+w.length<lim) (hs:c.sent=c.data.length) (he:c.shut=true):Gen isn w c.shut c.fin:=by
  obtain ⟨U,h1,h2,h3,h4,h5⟩:=h.onext hb;have b1:c.fin.syn=false:=show bitB 17 1=false by decide
  refine ⟨(fun hs=>by rw [b1] at hs;cases hs),fun _=> .inl rfl,fun _=>⟨he,?_⟩⟩
  show c.onext+0=_;rw [h4,hs];omega
structure Like (c d:Cn):Prop where
  st:d.st=c.st
  first:d.first=c.first
  una:d.una=c.una
  data:d.data=c.data
  inn:d.inn=c.inn
  shut:d.shut=c.shut
  got:d.got=c.got
theorem Like.refl (c:Cn):Like c c:=⟨rfl,rfl,rfl,rfl,rfl,rfl,rfl⟩
theorem Like.trans {a b c:Cn} (h:Like a b) (k:Like b c):Like a c:=⟨k.st.trans h.st,k.first.trans h.first,k.una.trans h.una,k.data.trans h.data,k.inn.trans h.inn,k.shut.trans h.shut,k.got.trans h.got⟩
theorem Cn.may_le (c:Cn):c.sent <= c.data.length->c.sent+c.may <= c.data.length:=by unfold Cn.may;omega
theorem Side.like {d:Cn} (h:Side isn w c) (l:Like c d) (hs:d.sent <= d.data.length) (hb:d.bye=true->d.shut=true∧d.sent=d.data.length):Side isn w d:=
  ⟨by rw [l.first];exact h.first,by rw [l.una,l.data];exact h.una,hs,by rw [l.st];exact h.early,by rw [l.st,l.shut];exact h.shut,hb⟩
theorem Side.sends {e:Bool} (hb:isn+1+w.length<lim): ∀(f:Nat) {c:Cn},Side isn w c->(∀o∈(c.sends f).1,Gen isn w e o)∧Side isn w (c.sends f).2∧Like c (c.sends f).2
  | 0,c,h=>⟨(fun o ho=>by cases ho),h,Like.refl c⟩
  | f+1,c,h=>by
    unfold Cn.sends;by_cases h0:c.may=0;rw [if_pos h0];exact ⟨(fun o ho=>by cases ho),h,Like.refl c⟩
    . rw [if_neg h0];have h2:Side isn w { c with sent:=c.sent+c.may }:=h.like ⟨rfl,rfl,rfl,rfl,rfl,rfl,rfl⟩ (c.may_le h.sent) (fun x=>absurd (by have:=(h.bye x).2;unfold Cn.may;omega:c.may=0) h0)
      obtain ⟨q1,q2,q3⟩:=Side.sends (e:=e) hb f h2;have q4:Like c { c with sent:=c.sent+c.may }:=⟨rfl,rfl,rfl,rfl,rfl,rfl,rfl⟩
      refine ⟨fun o ho=>?_,q2,q4.trans q3⟩;rcases List.mem_cons.1 ho with rfl | ho;exact h.piece hb _;exact q1 o ho
theorem Side.flush (h:Side isn w c) (hb:isn+1+w.length<lim):(∀o∈c.flush.1,Gen isn w c.shut o)∧Side isn w c.flush.2∧Like c c.flush.2:=by
  unfold Cn.flush;split
  . obtain ⟨q1,q2,q3⟩:=Side.sends (e:=c.shut) hb 4097 h;have q4:(∀o∈(c.sends 4097).2.byes.1,Gen isn w c.shut o)∧Side isn w (c.sends 4097).2.byes.2∧Like (c.sends 4097).2 (c.sends 4097).2.byes.2:=by generalize (c.sends 4097).2=d at q2 q3 ⊢;unfold Cn.byes;by_cases hc:(d.shut&& !d.bye&&decide (d.sent=d.data.length))=true;rw [if_pos hc];simp only [Bool.and_eq_true,decide_eq_true_eq] at hc;refine ⟨fun o ho=>?_,q2.like ⟨rfl,rfl,rfl,rfl,rfl,rfl,rfl⟩ q2.sent (fun _=>⟨hc.1.1,hc.2⟩),⟨rfl,rfl,rfl,rfl,rfl,rfl,rfl⟩⟩;rw [List.mem_singleton.1 ho,← q3.shut];exact q2.fin_ hb hc.2 hc.1.1;rw [if_neg hc];exact ⟨(fun o ho=>by cases ho),q2,Like.refl d⟩
    refine ⟨fun o ho=>?_,q4.2.1,q3.trans q4.2.2⟩;rcases List.mem_append.1 ho with ho | ho;exact q1 o ho;exact q4.1 o ho
  exact ⟨(fun o ho=>by cases ho),h,Like.refl c⟩
theorem Side.ackd (h:Side isn w c) (hb:isn+1+w.length<lim) {a win n:Nat} {d:Cn} (hd:c.ackd a win=some (n,d)):Side isn w d∧d.st=c.st∧d.inn=c.inn∧d.shut=c.shut∧d.got=c.got∧d.first=c.first:=by
  unfold Cn.ackd at hd;simp only at hd;split at hd;cases hd
  . rename_i hn;simp only [Option.some.injEq,Prod.mk.injEq] at hd;obtain ⟨rfl,rfl⟩:=hd;obtain ⟨U,h1,h2,h3⟩:=h.una;have hs:=h.sent;have hl:c.data.length=w.length - U:=by rw [h3,List.length_drop]
    refine ⟨⟨h.first,⟨U+wayN c.una a,by omega,?_,?_⟩,?_,h.early,h.shut,fun x=>⟨(h.bye x).1,?_⟩⟩,rfl,rfl,rfl,rfl,rfl⟩
    . show addN c.una (wayN c.una a)=_;generalize wayN c.una a=n at hn ⊢;rw [Zld (by omega)];omega
    show c.data.drop _=_;rw [h3,List.drop_drop];show c.sent - _ <= (c.data.drop _).length;rw [List.length_drop];omega;show c.sent - _=(c.data.drop _).length;have:=(h.bye x).2;rw [List.length_drop];omega
theorem Side.welcome (h:Side isn w c) (hb:isn+1+w.length<lim) (hst:c.st=1∨c.st=2) (s:Sg):Side isn w (c.welcome s)∧(c.welcome s).inn=c.inn∧(c.welcome s).shut=c.shut∧(c.welcome s).got=c.got∧(c.welcome s).st=3:=by
  have hns: ¬c.shut=true:=fun hs=>by have h1:=(h.shut hs).2.2.1;have h2:=(h.shut hs).2.2.2;rcases hst with e | e;exact h1 e;exact h2 e
  have h3:Side isn w { c with st:=3,tries:=0 }:=⟨h.first,h.una,h.sent,(fun hc=>by rcases hc with e | e<;>cases e),(fun hs=>absurd hs hns),h.bye⟩
  refine Zzy (p:=fun d=>Side isn w d∧d.inn=c.inn∧d.shut=c.shut∧d.got=c.got∧d.st=3) (fun n d hd=>?_) ⟨h3,rfl,rfl,rfl,rfl⟩;obtain ⟨q1,q2,q3,q4,q5,_⟩:=h3.ackd hb hd;exact ⟨q1,q3,q4,q5,q2⟩
theorem Side.finished (h:Side isn w c):Side isn w c.finished∧c.finished.inn=c.inn∧c.finished.shut=c.shut∧c.finished.got=c.got∧c.finished.st≠1∨c.st=1:=by
  by_cases h1:c.st=1;exact .inr h1;refine .inl ?_;unfold Cn.finished;split;exact ⟨h,rfl,rfl,rfl,h1⟩;refine ⟨⟨h.first,h.una,h.sent,fun hc=>h.early ?_,fun hs=>?_,h.bye⟩,rfl,rfl,rfl,?_⟩;simp only at hc ⊢;split at hc;omega;split at hc;omega;split at hc;omega;exact hc;have:=h.shut hs;simp only;split;omega;split;omega;split;omega;exact this;simp only;split;omega;split;omega;split;omega;exact h1
end
end Go.Conn
end
section
namespace Go.Conn
section
variable {isn:Nat} {w:List Int} {c:Cn}
structure Deaf (c d:Cn):Prop where
  inn:d.inn=c.inn
  got:d.got=c.got
  st:d.st=1->c.st=1
theorem Deaf.refl (c:Cn):Deaf c c:=⟨rfl,rfl,id⟩
theorem Deaf.trans {a b c:Cn} (h:Deaf a b) (k:Deaf b c):Deaf a c:=⟨k.inn.trans h.inn,k.got.trans h.got,fun x=>h.st (k.st x)⟩
theorem Like.deaf {d:Cn} (h:Like c d):Deaf c d:=⟨h.inn,h.got,fun x=>by rw [← h.st];exact x⟩
theorem Hears.deaf {e:Bool} {rd:List Int} {d:Cn} (h:Hears isn w e c rd) (k:Deaf c d):Hears isn w e d rd:=
  ⟨by rw [k.inn,k.got];exact h.nil,fun x=>by rw [k.inn];exact h.one (k.st x),by rw [k.inn,k.got];exact h.jn⟩
theorem Side.quiet (h:Side isn w c) (s:Sg):Side isn w (c.quiet s)∧Deaf c (c.quiet s)∧(c.quiet s).shut=c.shut∧(c.quiet s).st=c.st:=by unfold Cn.quiet;split;exact ⟨⟨h.first,h.una,h.sent,h.early,h.shut,h.bye⟩,⟨rfl,rfl,id⟩,rfl,rfl⟩;exact ⟨h,Deaf.refl c,rfl,rfl⟩
theorem Side.fin2 (h:Side isn w c) (h1:c.st≠1):Side isn w c.finished∧Deaf c c.finished∧c.finished.shut=c.shut∧c.finished.st≠1∧c.finished.st≠2∨c.st=2:=by
  by_cases h2:c.st=2;exact .inr h2
  . refine .inl ?_;unfold Cn.finished;split;exact ⟨h,Deaf.refl c,rfl,h1,h2⟩
    . have e1: ∀k,k=(if c.st=4 then 5 else if c.st=7 then 9 else if c.st=8 then 0 else c.st)->k≠1∧k≠2∧(k=3->c.st=3)∧(k=6->c.st=6):=by
        intro k hk;subst hk;split;exact ⟨by decide,by decide,(fun h=>by cases h),(fun h=>by cases h)⟩
        . split;exact ⟨by decide,by decide,(fun h=>by cases h),(fun h=>by cases h)⟩
          . split;exact ⟨by decide,by decide,(fun h=>by cases h),(fun h=>by cases h)⟩
            exact ⟨h1,h2,id,id⟩
      obtain ⟨q1,q2,q3,q4⟩:=e1 _ rfl;refine ⟨⟨h.first,h.una,h.sent,fun hc=>?_,fun hs=>?_,h.bye⟩,⟨rfl,rfl,fun x=>absurd x q1⟩,rfl,q1,q2⟩;rcases hc with hc | hc;exact absurd hc q1;exact absurd hc q2;have:=h.shut hs;exact ⟨fun x=>this.1 (q3 x),fun x=>this.2.1 (q4 x),q1,q2⟩
theorem Side.news (h:Side isn w c):Side isn w c.news:=⟨h.first,h.una,h.sent,h.early,h.shut,h.bye⟩
theorem Side.acknowledged (h:Side isn w c) (hb:isn+1+w.length<lim) (h1:c.st≠1) (h2:c.st≠2) (s:Sg):
    Side isn w (c.acknowledged s).2∧Deaf c (c.acknowledged s).2∧(c.acknowledged s).2.shut=c.shut∧(c.acknowledged s).2.st≠1∧(c.acknowledged s).2.st≠2:=by
  unfold Cn.acknowledged;generalize ho:c.ackd s.ack s.win.toNat=o
  match o,ho with
  | some (n,d),ho=>
    obtain ⟨q1,q2,q3,q4,q5,_⟩:=h.ackd hb ho;obtain ⟨p1,p2,p3,p4⟩:=q1.quiet s;exact ⟨p1,Deaf.trans ⟨q3,q5,fun x=>by rw [← q2];exact x⟩ p2,p3.trans q4,(fun x=>h1 (by rw [← q2,← p4];exact x)),(fun x=>h2 (by rw [← q2,← p4];exact x))⟩
  | none,_=>
    simp only [ackG];split
    . have hl:Side isn w (lastN (c.ackd c.onext s.win.toNat) c)∧Deaf c (lastN (c.ackd c.onext s.win.toNat) c)∧(lastN (c.ackd c.onext s.win.toNat) c).shut=c.shut∧(lastN (c.ackd c.onext s.win.toNat) c).st=c.st:=by
        generalize ho:c.ackd c.onext s.win.toNat=o
        match o,ho with
        | some (n,d),ho=>
          obtain ⟨q1,q2,q3,q4,q5,_⟩:=h.ackd hb ho;simp only [lastN];split;exact ⟨q1.news,⟨q3,q5,fun x=>by rw [← q2];exact x⟩,q4,q2⟩
          . exact ⟨q1,⟨q3,q5,fun x=>by rw [← q2];exact x⟩,q4,q2⟩
        | none,_=>exact ⟨h,Deaf.refl c,rfl,rfl⟩
      generalize lastN (c.ackd c.onext s.win.toNat) c=d at hl;obtain ⟨l1,l2,l3,l4⟩:=hl;rcases l1.fin2 (by rw [l4];exact h1) with ⟨f1,f2,f3,f4,f5⟩ | f
      obtain ⟨p1,p2,p3,p4⟩:=f1.quiet s;exact ⟨p1,(l2.trans f2).trans p2,(p3.trans f3).trans l3,(fun x=>f4 (by rw [← p4];exact x)),(fun x=>f5 (by rw [← p4];exact x))⟩
      exact absurd (l4▸f) h2
    exact ⟨h,Deaf.refl c,rfl,h1,h2⟩
theorem Side.takes (h:Side isn w c) (h1:c.st≠1) (h2:c.st≠2) (s:Sg):Side isn w (c.takes s)∧(c.takes s).shut=c.shut∧(c.takes s).st≠1∧(c.takes s).st≠2:=by
  unfold Cn.takes;cases c.inn with
  | none=>exact ⟨h,rfl,h1,h2⟩
  | some j=>
    simp only [Zbbe];split
    . unfold Cn.joined;generalize j.add s.seq s.data=k;split
      . have e1: ∀k,k=(if c.st=3 then 6 else if c.st=4 then 7 else 9)->k≠1∧k≠2∧k≠3∧(k=6->c.st=3):=by
          intro k hk;subst hk;split;rename_i h3;exact ⟨by decide,by decide,by decide,fun _=>h3⟩
          . split;exact ⟨by decide,by decide,by decide,(fun h=>by cases h)⟩
            exact ⟨by decide,by decide,by decide,(fun h=>by cases h)⟩
        obtain ⟨q1,q2,q3,q4⟩:=e1 _ rfl;refine ⟨⟨h.first,h.una,h.sent,fun hc=>?_,fun hs=>?_,h.bye⟩,rfl,q1,q2⟩;rcases hc with hc | hc;exact absurd hc q1;exact absurd hc q2;exact ⟨q3,fun x=>(h.shut hs).1 (q4 x),q1,q2⟩
      exact ⟨⟨h.first,h.una,h.sent,h.early,h.shut,h.bye⟩,rfl,h1,h2⟩
    exact ⟨h,rfl,h1,h2⟩
structure Good (isn:Nat) (w:List Int) (c:Cn) (outs:List Sg) (d:Cn):Prop where
  outs: ∀o∈outs,Gen isn w c.shut o
  side:Side isn w d
  shut:d.shut=c.shut
theorem Good.none_ (h:Side isn w c):Good isn w c [] c:=⟨fun o ho=>(by cases ho),h,rfl⟩
theorem Side.dead (h:Side isn w c):Side isn w { c with st:=0 }:=
  ⟨h.first,h.una,h.sent,(fun x=>by rcases x with x | x<;>cases x),(fun _=>⟨(fun x=>by cases x),(fun x=>by cases x),(fun x=>by cases x),(fun x=>by cases x)⟩),h.bye⟩
theorem Good.lost (h:Side isn w c):Good isn w c c.lost.1 c.lost.2.2:=⟨fun o ho=>(by cases ho),h.dead,rfl⟩
theorem Good.flushed {c0:Cn} (h:Side isn w c) (hb:isn+1+w.length<lim) (hs:c.shut=c0.shut) (b:Bool):Good isn w c0 (if b=true then [c.flush.2.nod] else c.flush.1) c.flush.2:=by obtain ⟨q1,q2,q3⟩:=h.flush hb;refine ⟨fun o ho=>?_,q2,q3.shut.trans hs⟩;split at ho;rw [List.mem_singleton.1 ho];exact Gen.nod _;rw [← hs];exact q1 o ho
theorem Good.rest {c0:Cn} (h:Side isn w c) (hb:isn+1+w.length<lim) (hs:c.shut=c0.shut) (h1:c.st≠1) (h2:c.st≠2) (s:Sg):Good isn w c0 (c.rest s).1 (c.rest s).2.2:=by
  unfold Cn.rest;split;exact ⟨fun o ho=>(by cases ho),h,hs⟩
  obtain ⟨q1,q2,q3,q4⟩:=h.takes h1 h2 s;have:=Good.flushed (c0:=c0) q1 hb (q2.trans hs) (decide ((c.takes s).flush.1= []∧s.span≠0));simp only [decide_eq_true_eq] at this;exact this
theorem Good.answer (h:Side isn w c) (hb:isn+1+w.length<lim) (h1:c.st=1) (s:Sg):Good isn w c (c.answer s).1 (c.answer s).2.2:=by
  have hw:w= []:=h.early (.inl h1);have hns: ¬c.shut=true:=fun hs=>(h.shut hs).2.2.1 h1;have hbg: ∀k,k=1∨k=2->Side isn w { c.begin s with st:=k }:=fun k hk=>by
    refine ⟨h.first,⟨0,Nat.zero_le _,?_,by rw [hw];rfl⟩,Nat.le_refl _,fun _=>hw,fun hs=>absurd hs hns,fun x=>absurd (h.bye x).1 hns⟩
    show addN c.first 1=_;rw [h.first,Zld (by omega)]
  unfold Cn.answer;split;exact ⟨Gen.refuse s,h,rfl⟩
  . split;split;exact Good.lost h;exact Good.none_ h
    . split;exact Good.none_ h
      . split;refine ⟨fun o ho=>?_,hbg 2 (.inr rfl),rfl⟩;rw [List.mem_singleton.1 ho];exact Gen.hello (hbg 2 (.inr rfl)).first
        . have hb1:Side isn w (c.begin s):=by have:=hbg 1 (.inl rfl);exact ⟨this.first,this.una,this.sent,fun _=>hw,fun hs=>absurd hs hns,this.bye⟩
          obtain ⟨q1,q2,q3,q4,q5⟩:=hb1.welcome hb (.inl h1) s;have:=Good.flushed (c0:=c) q1 hb q3 (decide (((c.begin s).welcome s).flush.1= []));simp only [decide_eq_true_eq] at this;exact this
theorem Good.take (h:Side isn w c) (hb:isn+1+w.length<lim) (h1:c.st≠1) (s:Sg):Good isn w c (c.take s).1 (c.take s).2.2:=by
  have hn: ∀{d:Cn},Side isn w d->d.shut=c.shut->Good isn w c [d.nod] d:=fun hd hs=>⟨fun o ho=>(by rw [List.mem_singleton.1 ho];exact Gen.nod _),hd,hs⟩
  unfold Cn.take;simp only;split;exact Good.none_ h;split;exact hn h rfl;split;exact Good.lost h;split;exact Good.none_ h;split;rename_i h2;obtain ⟨q1,q2,q3,q4,q5⟩:=h.acknowledged hb h1 h2 s;split;exact Good.rest q1 hb q3 q4 q5 s;exact hn q1 q3;rename_i h2;have h2:c.st=2:=Classical.byContradiction h2;split;exact ⟨Gen.refuse s,h,rfl⟩;obtain ⟨q1,q2,q3,q4,q5⟩:=h.welcome hb (.inr h2) s;exact Good.rest q1 hb q3 (by rw [q5];decide) (by rw [q5];decide) s
theorem Good.Take (h:Side isn w c) (hb:isn+1+w.length<lim) (s:Sg):Good isn w c (c.Take s).1 (c.Take s).2.2:=by unfold Cn.Take;split;exact Good.none_ h;split;exact Good.none_ h;split;rename_i h1;exact Good.answer h hb h1 s;rename_i h1;exact Good.take h hb h1 s
end
end Go.Conn
end
section
namespace Go.Conn
section
variable {isn:Nat} {w rd:List Int} {c:Cn} {e:Bool} {s:Sg}
theorem Zbim: ∀(f:Nat) (c:Cn),Deaf c (c.sends f).2
  | 0,c=>Deaf.refl c
  | f+1,c=>by unfold Cn.sends;split;exact Deaf.refl c;exact Deaf.trans (b:={ c with sent:=c.sent+c.may }) ⟨rfl,rfl,id⟩ (Zbim f _)
theorem Zbts (d:Cn):Deaf d d.byes.2:=by unfold Cn.byes;split;exact ⟨rfl,rfl,id⟩;exact Deaf.refl d
theorem Zbez (c:Cn):Deaf c c.flush.2:=by unfold Cn.flush;split;exact (Zbim 4097 c).trans (Zbts _);exact Deaf.refl c
theorem Znz {c d:Cn} {a win n:Nat} (h:c.ackd a win=some (n,d)):Deaf c d∧d.st=c.st:=by unfold Cn.ackd at h;simp only at h;split at h;cases h;simp only [Option.some.injEq,Prod.mk.injEq] at h;obtain ⟨_,rfl⟩:=h;exact ⟨⟨rfl,rfl,id⟩,rfl⟩
theorem Zbjk (c:Cn) (s:Sg):Deaf c (c.welcome s)∧(c.welcome s).st=3:=by
  refine Zzy (p:=fun d=>Deaf c d∧d.st=3) (fun n d hd=>?_) ⟨⟨rfl,rfl,(fun x=>by cases x)⟩,rfl⟩
  obtain ⟨q1,q2⟩:=Znz hd;exact ⟨Deaf.trans (b:={ c with st:=3,tries:=0 }) ⟨rfl,rfl,(fun x=>by cases x)⟩ q1,q2⟩
theorem Zbuy (c:Cn):Deaf c c.finished:=by
  unfold Cn.finished;split;exact Deaf.refl c
  . refine ⟨rfl,rfl,fun x=>?_⟩;have x:(if c.st=4 then 5 else if c.st=7 then 9 else if c.st=8 then 0 else c.st)=1:=x
    split at x;cases x;split at x;cases x;split at x;cases x;exact x
theorem Zbhk (c:Cn) (s:Sg):Deaf c (c.quiet s):=by unfold Cn.quiet;split;exact ⟨rfl,rfl,id⟩;exact Deaf.refl c
theorem Zbwj (c:Cn) (a win:Nat):Deaf c (lastN (c.ackd a win) c):=by
  generalize ho:c.ackd a win=o
  match o,ho with
  | some (n,d),ho=>
    simp only [lastN];split;exact (Znz ho).1.trans ⟨rfl,rfl,id⟩
    . exact (Znz ho).1
  | none,_=>exact Deaf.refl c
theorem Zbdg (c:Cn) (s:Sg):Deaf c (c.acknowledged s).2:=by
  unfold Cn.acknowledged;generalize ho:c.ackd s.ack s.win.toNat=o
  match o,ho with
  | some (n,d),ho=>exact (Znz ho).1.trans (Zbhk d s)
  | none,_=>
    simp only [ackG];split;exact ((Zbwj c c.onext s.win.toNat).trans (Zbuy _)).trans (Zbhk _ s);exact Deaf.refl c
theorem Hears.takes (h:Hears isn w e c rd) (hb:isn+1+w.length<lim) (hg:Gen isn w e s) (hs:s.syn=false):Hears isn w e (c.takes s) rd:=by
  unfold Cn.takes;generalize hi:c.inn=i
  match i,hi with
  | none,_=>exact h
  | some j,hi=>
    simp only [Zbbe];split
    . rename_i hst;obtain ⟨N,h1,h2⟩:=h.jn j hi;obtain ⟨N',h3,h4⟩:=h1.add (hg.piece hs) hb;unfold Cn.joined;generalize j.add s.seq s.data=k at h4;have hle:=h4.le;split
      . rename_i hf;simp only [Bool.and_eq_true,decide_eq_true_eq] at hf;obtain ⟨f1,f2⟩:=hg.fin hf.1;refine ⟨(fun x=>by cases x),fun x=>?_,fun j' hj'=>?_⟩
        . have x:(if c.st=3 then 6 else if c.st=4 then 7 else 9)=1:=x
          split at x;cases x;split at x<;>cases x
        . cases hj';refine ⟨N',h4,fun _=>⟨?_,f1⟩⟩;have:=hf.2;rw [Zld (by omega),h4.next] at this
          omega
      . refine ⟨(fun x=>by cases x),fun x=>?_,fun j' hj'=>?_⟩
        have x:c.st=1:=x;rw [h.one x] at hi;cases hi;cases hj';refine ⟨N',h4,fun hgt=>⟨?_,(h2 hgt).2⟩⟩;have:=(h2 hgt).1;omega
    exact h
theorem Hears.rest (h:Hears isn w e c rd) (hb:isn+1+w.length<lim) (hg:Gen isn w e s) (hs:s.syn=false):Hears isn w e (c.rest s).2.2 rd:=by unfold Cn.rest;split;exact h;exact (h.takes hb hg hs).deaf (Zbez _)
theorem Hears.dead (h:Hears isn w e c rd):Hears isn w e { c with st:=0 } rd:=h.deaf ⟨rfl,rfl,(fun x=>by cases x)⟩
theorem Hears.answer (h:Hears isn w e c rd) (hb:isn+1+w.length<lim) (h1:c.st=1) (hg:Gen isn w e s):Hears isn w e (c.answer s).2.2 rd:=by
  have hn:=h.one h1;obtain ⟨r0,g0⟩:=h.nil hn;have hbg:s.syn=true->∀k,k≠1->Hears isn w e { c.begin s with st:=k } rd:=fun hs k hk=>by
    obtain ⟨q1,q2,q3⟩:=hg.syn hs;refine ⟨(fun x=>by cases x),fun x=>absurd x hk,fun j hj=>?_⟩
    cases hj;refine ⟨0,⟨Nat.zero_le _,?_,?_,(fun i x hx=>by cases hx)⟩,fun hgt=>?_⟩
    show addN s.seq 1=_;rw [q1,Zld (by omega)]
    rw [r0];rfl;have hgt:c.got=true:=hgt;rw [g0] at hgt;cases hgt
  unfold Cn.answer;split;exact h
  . split;split;exact h.dead;exact h
    . split;exact h
      . rename_i hsy;have hsy:s.syn=true:=by simpa using hsy
        split;exact hbg hsy 2 (by decide)
        . obtain ⟨q1,q2⟩:=Zbjk (c.begin s) s;have h3:=hbg hsy 3 (by decide)
          refine Hears.deaf (c:=(c.begin s).welcome s) ?_ (Zbez _);exact h3.deaf ⟨q1.inn,q1.got,(fun x=>by rw [q2] at x;cases x)⟩
def Comes (isn:Nat) (w:List Int) (e:Bool) (c:Cn) (s:Sg):Prop:=Gen isn w e s∨(c.st≠1∧Zcy c.wants c.jwin s.seq s.span=false)
theorem Hears.take (h:Hears isn w e c rd) (hb:isn+1+w.length<lim) (hg:Comes isn w e c s):Hears isn w e (c.take s).2.2 rd:=by
  unfold Cn.take;simp only;split;exact h
  . split;exact h
    . rename_i hok;simp only [Bool.or_eq_true,Bool.not_eq_true',Bool.and_eq_true,decide_eq_true_eq,not_or] at hok;have hgen:Gen isn w e s:=by rcases hg with hg | ⟨_,hg⟩;exact hg;exact absurd hg (by simpa using hok.1.1)
      split;exact h.dead
      . rename_i hr;have hsy:s.syn=false:=by
          have h1:=hok.1.2;cases hsyn:s.syn with
          | false=>rfl
          | true=>exact absurd ⟨hsyn,by simpa using hr⟩ h1
        split;exact h;split;split;exact (h.deaf (Zbdg c s)).rest hb hgen hsy;exact h.deaf (Zbdg c s);split;exact h;exact (h.deaf (Zbjk c s).1).rest hb hgen hsy
theorem Hears.Take (h:Hears isn w e c rd) (hb:isn+1+w.length<lim) (hg:Comes isn w e c s):Hears isn w e (c.Take s).2.2 rd:=by unfold Cn.Take;split;exact h;split;exact h;split;rename_i h1;rcases hg with hg | ⟨hg,_⟩;exact h.answer hb h1 hg;exact absurd h1 hg;exact h.take hb hg
end
end Go.Conn
end
section
namespace Go.Conn
section
variable {isn:Nat} {w rd:List Int} {c:Cn} {e:Bool} {s:Sg}
structure Did (isn:Nat) (w x:List Int) (c:Cn) (outs:List Sg) (d:Cn):Prop where
  side:Side isn (w++x) d
  outs: ∀o∈outs,Gen isn (w++x) d.shut o
  more:x≠[]->c.shut=false∧d.shut=false
  ends:c.shut=true->d.shut=true
theorem Good.did {outs:List Sg} {d:Cn} (h:Good isn w c outs d):Did isn w [] c outs d:=
  ⟨by rw [List.append_nil];exact h.side,fun o ho=>by rw [List.append_nil,h.shut];exact h.outs o ho,fun x=>absurd rfl x,fun x=>by rw [h.shut];exact x⟩
theorem Did.read (h:Side isn w c) (n:Nat):Did isn w [] c (c.read n).2.1 (c.read n).2.2:=by
  unfold Cn.read;cases c.inn with
  | none=>exact (Good.none_ h).did
  | some j=>
    simp only [Zrl];have hs:Side isn w { c with inn:=some (j.read n).2 }:=⟨h.first,h.una,h.sent,h.early,h.shut,h.bye⟩
    refine Good.did ⟨fun o ho=>?_,hs,rfl⟩;split at ho;rw [List.mem_singleton.1 ho];exact Gen.nod _;cases ho
theorem Hears.read (h:Hears isn w e c rd) (n:Nat):Hears isn w e (c.read n).2.2 (rd++(c.read n).1):=by
  unfold Cn.read;generalize hi:c.inn=i
  match i,hi with
  | none,hi=>
    simp only [Zrl,List.append_nil];exact h
  | some j,hi=>
    simp only [Zrl];obtain ⟨N,h1,h2⟩:=h.jn j hi;refine ⟨(fun x=>by cases x),fun x=>?_,fun j' hj'=>?_⟩
    have x:c.st=1:=x;rw [h.one x] at hi;cases hi;cases hj';exact ⟨N,h1.read n,h2⟩
theorem Good.again (h:Side isn w c) (hb:isn+1+w.length<lim) (h0:c.st≠0):Good isn w c c.again.1 c.again.2.2∧Deaf c c.again.2.2:=by
  have hl:Good isn w c c.lost.1 c.lost.2.2∧Deaf c c.lost.2.2:=⟨Good.lost h,⟨rfl,rfl,(fun x=>by cases x)⟩⟩
  have ht: ∀n,Side isn w { c with tries:=n }:=fun n=>⟨h.first,h.una,h.sent,h.early,h.shut,h.bye⟩
  unfold Cn.again;split;exact ⟨⟨(fun o ho=>by cases ho),h.dead,rfl⟩,⟨rfl,rfl,(fun x=>by cases x)⟩⟩
  . split;split;exact hl;refine ⟨⟨fun o ho=>?_,ht _,rfl⟩,⟨rfl,rfl,id⟩⟩;rw [List.mem_singleton.1 ho];exact Gen.hello h.first
    . split;split;exact hl;refine ⟨⟨fun o ho=>?_,ht _,rfl⟩,⟨rfl,rfl,id⟩⟩;rw [List.mem_singleton.1 ho];exact h.first_ hb _
      . split
        . rename_i hnb hby
          simp only [Bool.and_eq_true,Bool.not_eq_true'] at hby
          split;exact hl;refine ⟨⟨fun o ho=>?_,ht _,rfl⟩,⟨rfl,rfl,id⟩⟩;rw [List.mem_singleton.1 ho];obtain ⟨b1,b2⟩:=h.bye hby.1;exact h.fin_ hb b2 b1
        split;exact hl;rename_i hp;have hd:0<c.data.length:=List.length_pos_iff.2 fun x=>hp (.inr x);rename_i hns0 _;refine ⟨⟨fun o ho=>?_,⟨h.first,h.una,?_,h.early,h.shut,fun x=>?_⟩,rfl⟩,⟨rfl,rfl,id⟩⟩;rw [List.mem_singleton.1 ho];exact h.piece hb _;show c.sent+1 <= c.data.length;omega;have:=(h.bye x).2;omega
end
end Go.Conn
end
section
namespace Go.Conn
section
variable {isn:Nat} {w rd:List Int} {c:Cn} {e:Bool} {s:Sg}
theorem far {next size r n:Nat} (h1:next <= 2000000) (h2:size <= 4096) (h3:r<1000) (h4:n <= 200):Zcy next size (2147483648+r) n=false:=by
  have k1: ∀m,m <= 200->Zei (addN (2147483648+r) m) next size=false:=fun m hm=>by
    unfold Zei;rw [Zle (by omega),Znb (by omega) (by omega)]
    have: ¬(2147483648+r+m - next<size):=by omega
    rw [decide_eq_false this,Bool.and_false]
  have k0:Zei (2147483648+r) next size=false:=by
    have:=k1 0 (by omega)
    rwa [Zle (by omega)] at this
  unfold Zcy;split;rfl
  . split;exact decide_eq_false (by omega)
    . split;exact k0
      . rw [k0,k1 _ (by omega)];rfl
end
structure W2 where
  c0:Cn
  c1:Cn
  w0:List Int
  w1:List Int
  r0:List Int
  r1:List Int
  y0:List Sg
  y1:List Sg
def W2.turn (W:W2):W2:=⟨W.c1,W.c0,W.w1,W.w0,W.r1,W.r0,W.y1,W.y0⟩
structure W2.Inv (a b:Nat) (W:W2):Prop where
  s0:Side a W.w0 W.c0
  s1:Side b W.w1 W.c1
  h0:Hears b W.w1 W.c1.shut W.c0 W.r0
  h1:Hears a W.w0 W.c0.shut W.c1 W.r1
  g0: ∀s∈W.y0,Gen b W.w1 W.c1.shut s
  g1: ∀s∈W.y1,Gen a W.w0 W.c0.shut s
theorem W2.Inv.turn {a b:Nat} {W:W2} (h:W.Inv a b):W.turn.Inv b a:=⟨h.s1,h.s0,h.h1,h.h0,h.g1,h.g0⟩
theorem W2.Inv.step {a b:Nat} {W:W2} (h:W.Inv a b) {x rd:List Int} {outs ys:List Sg} {d:Cn} (hd:Did a W.w0 x W.c0 outs d) (hh:Hears b W.w1 W.c1.shut d rd) (hy: ∀s∈ys,s∈W.y0):
    W2.Inv a b ⟨d,W.c1,W.w0++x,W.w1,rd,W.r1,ys,W.y1++outs⟩:=by
  have key:Hears a (W.w0++x) d.shut W.c1 W.r1∧∀s,Gen a W.w0 W.c0.shut s->Gen a (W.w0++x) d.shut s:=by
    by_cases hx:x= []
    . subst hx;rw [List.append_nil];cases hs:W.c0.shut with
      | true=>
        have h1:=h.h1;rw [hs] at h1;rw [hd.ends hs];exact ⟨h1,fun s hs=>hs⟩
      | false=>
        have h1:=h.h1;rw [hs] at h1;cases d.shut with
        | true=>exact ⟨h1.ends,fun s hs=>hs.ends⟩
        | false=>exact ⟨h1,fun s hs=>hs⟩
    obtain ⟨q1,q2⟩:=hd.more hx;have h1:=h.h1;rw [q1] at h1 ⊢;rw [q2];exact ⟨h1.grow x,fun s hs=>hs.grow x false⟩
  refine ⟨hd.side,h.s1,hh,key.1,fun s hs=>h.g0 s (hy s hs),fun s hs=>?_⟩;rcases List.mem_append.1 hs with hs | hs;exact key.2 s (h.g1 s hs);exact hd.outs s hs
theorem fits {isn:Nat} {w rd:List Int} {c:Cn} {e:Bool} (h:Hears isn w e c rd):rd.length <= w.length∧rd=w.take rd.length∧(c.got=true->(∀j,c.inn=some j->j.rdy= [])->rd.length=w.length):=by
  cases hi:c.inn with
  | none=>
    obtain ⟨rfl,h2⟩:=h.nil hi;exact ⟨Nat.zero_le _,rfl,fun hg=>by rw [h2] at hg;cases hg⟩
  | some j=>
    obtain ⟨N,h1,h2⟩:=h.jn j hi;have hr:=h1.rdy;have hle:=h1.le;have hl:rd.length+j.rdy.length=N:=by have:=congrArg List.length hr;rw [List.length_append,List.length_take] at this;omega
    refine ⟨by omega,?_,fun hg hj=>?_⟩
    . have:=congrArg (List.take rd.length) hr;rw [List.take_append_of_le_length (Nat.le_refl _),List.take_length,List.take_take,Nat.min_eq_left (by omega)] at this
      exact this
    rw [hj j rfl,List.length_nil] at hl;have:=(h2 hg).1;omega
end Go.Conn
end
section
namespace Go.Conn
def upF {α:Type} (f:Nat->α) (k:Nat) (v:α):Nat->α:=fun i=>if i=k then v else f i
theorem Zce {α:Type} {f:Nat->α} {k:Nat} {v:α}:upF f k v k=v:=if_pos rfl
theorem Zdi {α:Type} {f:Nat->α} {k i:Nat} {v:α} (h:i≠k):upF f k v i=f i:=if_neg h
structure PW where
  c:Nat->Cn
  w:Nat->List Int
  r:Nat->List Int
  y:Nat->List Sg
def PW.two (W:PW):W2:=⟨W.c 0,W.c 1,W.w 0,W.w 1,W.r 0,W.r 1,W.y 0,W.y 1⟩
def PI (isn:Nat->Nat) (W:PW):Prop:=W.two.Inv (isn 0) (isn 1)
section
variable {isn:Nat->Nat} {W:PW} {k:Nat}
theorem Zeg (hk:k<2):k=0∨k=1:=by omega
theorem PI.side (h:PI isn W) (hk:k<2):Side (isn k) (W.w k) (W.c k):=by rcases Zeg hk with rfl | rfl;exact h.s0;exact h.s1
theorem PI.hears (h:PI isn W) (hk:k<2):Hears (isn (1 - k)) (W.w (1 - k)) (W.c (1 - k)).shut (W.c k) (W.r k):=by rcases Zeg hk with rfl | rfl;exact h.h0;exact h.h1
def PW.go (W:PW) (k:Nat) (d:Cn) (w rd:List Int) (ys outs:List Sg):PW:=⟨upF W.c k d,upF W.w k w,upF W.r k rd,fun i=>if i=k then ys else W.y i++outs⟩
theorem PI.go (h:PI isn W) (hk:k<2) {x rd:List Int} {outs ys:List Sg} {d:Cn} (hd:Did (isn k) (W.w k) x (W.c k) outs d) (hh:Hears (isn (1 - k)) (W.w (1 - k)) (W.c (1 - k)).shut d rd) (hy: ∀s∈ys,s∈W.y k):
    PI isn (W.go k d (W.w k++x) rd ys outs):=by
  rcases Zeg hk with rfl | rfl;exact W2.Inv.step (W:=W.two) h hd hh hy;exact (W2.Inv.step (W:=W.two.turn) (W2.Inv.turn h) hd hh hy).turn
theorem Zccx {α:Type} {f:Nat->α} {k:Nat}:upF f k (f k)=f:=funext fun i=>by unfold upF;split;rename_i e;rw [e];rfl
theorem PI.call (h:PI isn W) (hk:k<2) {x rd:List Int} {outs:List Sg} {d:Cn} (hd:Did (isn k) (W.w k) x (W.c k) outs d) (hh:Hears (isn (1 - k)) (W.w (1 - k)) (W.c (1 - k)).shut d rd):
    PI isn ⟨upF W.c k d,upF W.w k (W.w k++x),upF W.r k rd,upF W.y (1 - k) (W.y (1 - k)++outs)⟩:=by
  have:=h.go hk hd hh (ys:=W.y k) fun s hs=>hs;rcases Zeg hk with rfl | rfl<;>exact this
end
structure PB (W:PW) (n m:Nat):Prop where
  w: ∀k,k<2->(W.w k).length <= n
  y: ∀k,k<2->(W.y k).length <= m
end Go.Conn
end
section
noncomputable section
namespace Go.Conn
def rnd (n:Nat):Nat:=if n=0 then 0 else (n - 1)%65535+1
theorem Zmw (n:Nat):rnd n <= 65535:=by unfold rnd;split<;>omega
theorem Zbib {n:Nat} (h:n <= 65535):rnd n=n:=by unfold rnd;split<;>omega
theorem Zip (a b:Nat):rnd (rnd a+b)=rnd (a+b):=by
  unfold rnd;by_cases h:a=0;subst h;simp
  . rw [if_neg h,if_neg (by omega),if_neg (by omega)];omega
theorem Zbzz (n:Nat):rnd (n%65536+n/65536)=rnd n:=by
  unfold rnd;by_cases h:n=0;subst h;rfl
  . rw [if_neg h,if_neg (by omega)];omega
def isB (x:Int):Prop:=0 <= x∧x<256
def AllB (l:List Int):Prop:=∀x∈l,isB x
theorem AllB.nil:AllB []:=fun _ h=>by cases h
theorem AllB.app {a b:List Int} (h1:AllB a) (h2:AllB b):AllB (a++b):=fun x h=>(List.mem_append.1 h).elim (h1 x) (h2 x)
theorem AllB.get {l:List Int} (h:AllB l) {i:Nat} (hi:i<l.length):isB (l.getD i 0):=by rw [List.getD_eq_getElem?_getD,List.getElem?_eq_getElem hi];exact h _ (List.getElem_mem hi)
theorem AllB.drop {l:List Int} (h:AllB l) (n:Nat):AllB (l.drop n):=fun x hx=>h x (List.mem_of_mem_drop hx)
theorem AllB.take {l:List Int} (h:AllB l) (n:Nat):AllB (l.take n):=fun x hx=>h x (List.mem_of_mem_take hx)
def sumL:List Int->Nat
  | []=>0
  | [a]=>a.toNat*256
  | a::b::r=>a.toNat*256+b.toNat+sumL r
theorem Zbis: ∀(i:Nat) (l:List Int),2*i+1<l.length->sumL (l.take (2*(i+1)))=sumL (l.take (2*i))+((l.getD (2*i) 0).toNat*256+(l.getD (2*i+1) 0).toNat)
  | 0,a::b::r,_=>by simp [sumL]
  | i+1,a::b::r,h=>by
    have e1:2*(i+1+1)=2*(i+1)+1+1:=by omega
    have e2:2*(i+1)=2*i+1+1:=by omega
    have ih:=Zbis i r (by simp only [List.length_cons] at h;omega)
    rw [e1];simp only [List.take_succ_cons,sumL];rw [ih];rw [e2];simp only [List.take_succ_cons,sumL,List.getD_cons_succ];omega
  | 0,[],h=>by simp at h
  | 0,[_],h=>by simp at h
  | i+1,[],h=>by simp at h
  | i+1,[_],h=>by simp at h
theorem Zbir: ∀(k:Nat) (l:List Int),l.length=2*k+1->sumL l=sumL (l.take (2*k))+(l.getD (2*k) 0).toNat*256
  | 0,[a],_=>by simp [sumL]
  | k+1,a::b::r,h=>by
    have ih:=Zbir k r (by simp only [List.length_cons] at h;omega)
    have e2:2*(k+1)=2*k+1+1:=by omega
    rw [e2];simp only [List.take_succ_cons,sumL,List.getD_cons_succ];omega
  | 0,[],h=>by simp at h
  | 0,_::_::_,h=>by simp at h
  | k+1,[],h=>by simp at h
  | k+1,[_],h=>by simp at h
theorem Zbbb: ∀(l r:List Int),l.length%2=0->sumL (l++r)=sumL l+sumL r
  | [],r,_=>by simp [sumL]
  | [_],r,h=>by simp at h
  | a::b::l,r,h=>by
    have:=Zbbb l r (by simp only [List.length_cons] at h;omega)
    simp only [List.cons_append,sumL,this];omega
def addB (p:Nat) (l:List Int):Nat:=rnd (p+sumL l)
def Zhe (x y n:Nat):Nat:=rnd (x/65536+x%65536+y/65536+y%65536+6+n%65536)
def Zcr (x y:Nat) (l:List Int):Nat:=addB (Zhe x y l.length) l
theorem Zbyc (x y n:Nat):0<Zhe x y n:=by
  unfold Zhe rnd;rw [if_neg (by omega)];omega
def hi (n:Int):Int:=n/256%256
def lo (n:Int):Int:=n%256
theorem Zbfo (n:Int):isB (hi n):=by unfold isB hi;omega
theorem Zzh (n:Int):isB (lo n):=by unfold isB lo;omega
def optB (s:Sg):List Int:=if s.big=0 then [] else [2,4,hi s.big,lo s.big]
def Zs (s:Sg) (t:Nat):List Int:=
  [hi s.src,lo s.src,hi s.dst,lo s.dst,hi (s.seq/65536:Nat),lo (s.seq/65536:Nat),hi s.seq,lo s.seq,hi (s.ack/65536:Nat),lo (s.ack/65536:Nat),hi s.ack,lo s.ack,
    (if s.big=0 then 80 else 96),s.flags,hi s.win,lo s.win,hi t,lo t,hi s.urg,lo s.urg]++(optB s++s.data)
def Zga (x y:Nat) (s:Sg):List Int:=Zs s (65535 - Zcr x y (Zs s 0))
def outV (x y:Nat) (s:Sg):List Int:=if s.can then Zga x y s else []
theorem Zoe (s:Sg) (t:Nat):(Zs s t).length=20+(if s.big=0 then 0 else 4)+s.data.length:=by unfold Zs optB;split<;>simp<;>omega
theorem Zbcy {s:Sg} (hf:0 <= s.flags∧s.flags<64) (hd:AllB s.data) (t:Nat):AllB (Zs s t):=by
  unfold Zs;refine AllB.app (fun x hx=>?_) (AllB.app ?_ hd)
  . simp only [List.mem_cons,List.not_mem_nil,or_false] at hx;rcases hx with rfl | rfl | rfl | rfl | rfl | rfl | rfl | rfl | rfl | rfl | rfl | rfl | rfl | rfl | rfl | rfl | rfl | rfl | rfl | rfl<;>first | exact Zbfo _ | exact Zzh _ | skip
    unfold isB;split<;>omega;exact ⟨hf.1,by omega⟩
  . unfold optB;split;exact AllB.nil
    . intro x hx;simp only [List.mem_cons,List.not_mem_nil,or_false] at hx;rcases hx with rfl | rfl | rfl | rfl<;>first | exact Zbfo _ | exact Zzh _ | exact ⟨by omega,by omega⟩
theorem Zbtn (s:Sg): ∃A R:List Int,A.length=16∧∀t:Nat,Zs s t=A++(hi t::lo t::R):=
  ⟨[hi s.src,lo s.src,hi s.dst,lo s.dst,hi (s.seq/65536:Nat),lo (s.seq/65536:Nat),hi s.seq,lo s.seq,hi (s.ack/65536:Nat),lo (s.ack/65536:Nat),hi s.ack,lo s.ack,(if s.big=0 then 80 else 96),s.flags,hi s.win,lo s.win],[hi s.urg,lo s.urg]++(optB s++s.data),rfl,fun t=>rfl⟩
theorem hilo (t:Nat) (ht:t <= 65535):(hi (t:Int)).toNat*256+(lo (t:Int)).toNat=t:=by unfold hi lo;omega
theorem Zcbp (s:Sg) (t:Nat) (ht:t <= 65535):sumL (Zs s t)=sumL (Zs s 0)+t:=by
  obtain ⟨A,R,hA,h⟩:=Zbtn s;rw [h t,h 0,Zbbb _ _ (by omega),Zbbb _ _ (by omega)]
  simp only [sumL];have:=hilo t ht;have h0:=hilo 0 (by omega)
  omega
theorem Zcce (x y:Nat) (s:Sg):Zcr x y (Zga x y s)=65535:=by
  unfold Zga;have hl:(Zs s (65535 - Zcr x y (Zs s 0))).length=(Zs s 0).length:=by rw [Zoe,Zoe]
  have h1:Zcr x y (Zs s 0) <= 65535:=Zmw _;have key: ∀p S:Nat,0<p->rnd (p+(S+(65535 - rnd (p+S))))=65535:=by
    intro p S hp;unfold rnd;rw [if_neg (by omega),if_neg (by omega)];omega
  generalize ht:65535 - Zcr x y (Zs s 0)=t at hl ⊢;have h2:t <= 65535:=by omega
  have h3:Zcr x y (Zs s 0)=65535 - t:=by omega
  unfold Zcr addB at h3 ⊢;rw [hl,Zcbp s t h2];have:=key (Zhe x y (Zs s 0).length) (sumL (Zs s 0)) (Zbyc _ _ _);rw [h3,show 65535 - (65535 - t)=t by omega] at this
  exact this
def Zy (l:List Int) (i:Nat):Nat:=(l.getD i 0).toNat*256+(l.getD (i+1) 0).toNat
def Zdp (l:List Int) (i:Nat):Nat:=Zy l i*65536+Zy l (i+2)
def Zbj:Nat->List Int->Int->Option Int
  | 0,_,_=>none
  | f+1,o,n=>
    if o.length=0∨o.getD 0 0=0 then some n
    else if o.getD 0 0=1 then Zbj f (o.drop 1) n
    else if o.length<2∨o.getD 1 0<2∨(o.length:Int)<o.getD 1 0 then none
    else if o.getD 0 0=2 then (if o.getD 1 0≠4 then none else Zbj f (o.drop 4) (Zy o 2))
    else Zbj f (o.drop (o.getD 1 0).toNat) n
def Zu (b:List Int):Nat:=4*((b.getD 12 0).toNat/16)
def segB (b:List Int) (g:Int):Sg:=⟨Zy b 0,Zy b 2,Zdp b 4,Zdp b 8,b.getD 13 0%64,Zy b 14,Zy b 18,g,b.drop (Zu b)⟩
def Zcd (x y:Nat) (b:List Int):Option Sg:=
  if b.length<20∨Zu b<20∨b.length<Zu b∨Zcr x y b≠65535 then none
  else (Zbj (Zu b) ((b.drop 20).take (Zu b - 20)) 0).map (segB b)
theorem Zms {n:Int} (h0:0 <= n) (h1:n <= 65535):(((hi n).toNat*256+(lo n).toNat:Nat):Int)=n:=by unfold hi lo;omega
theorem Zbgp {n:Nat} (h1:n<4294967296):((hi (n/65536:Nat)).toNat*256+(lo (n/65536:Nat)).toNat)*65536+((hi n).toNat*256+(lo n).toNat)=n:=by unfold hi lo;omega
theorem Zmn {n:Int} (h:i16 n=true):0 <= n∧n <= 65535:=by unfold i16 at h;simp only [Bool.and_eq_true,decide_eq_true_eq] at h;exact h
theorem Zgc {s:Sg} (h:s.fits=true):(0 <= s.src∧s.src <= 65535)∧(0 <= s.dst∧s.dst <= 65535)∧(0 <= s.win∧s.win <= 65535)∧(0 <= s.urg∧s.urg <= 65535)∧(0 <= s.big∧s.big <= 65535)∧0 <= s.flags∧s.flags<64:=by unfold Sg.fits at h;simp only [Bool.and_eq_true,decide_eq_true_eq] at h;obtain ⟨⟨⟨⟨⟨⟨h1,h2⟩,h3⟩,h4⟩,h5⟩,h6⟩,h7⟩:=h;exact ⟨Zmn h1,Zmn h2,Zmn h3,Zmn h4,Zmn h5,h6,h7⟩
theorem Zcbc (s:Sg) (t:Nat):Zu (Zs s t)=if s.big=0 then 20 else 24:=by
  show 4*((if s.big=0 then (80:Int) else 96).toNat/16)=_
  split<;>rfl
theorem Zbho (x y:Nat) {s:Sg} (hf:s.fits=true) (h1:s.seq<4294967296) (h2:s.ack<4294967296):Zcd x y (Zga x y s)=some s:=by
  obtain ⟨f1,f2,f3,f4,f5,f6,f7⟩:=Zgc hf;have ht:=Zcce x y s;unfold Zga at ht ⊢;generalize 65535 - Zcr x y (Zs s 0)=t at ht ⊢;unfold Zcd;have hs:=Zcbc s t;have hl:=Zoe s t;rw [if_neg (by rw [hs,hl,ht];split<;>simp<;>omega)]
  have hseg: ∀g:Int,segB (Zs s t) g= { s with big:=g }:=by
    intro g;have e1:((Zy (Zs s t) 0:Nat):Int)=s.src:=Zms f1.1 f1.2;have e2:((Zy (Zs s t) 2:Nat):Int)=s.dst:=Zms f2.1 f2.2;have e3:Zdp (Zs s t) 4=s.seq:=Zbgp h1;have e4:Zdp (Zs s t) 8=s.ack:=Zbgp h2;have e5:(Zs s t).getD 13 0%64=s.flags:=by show s.flags%64=s.flags;omega
    have e6:((Zy (Zs s t) 14:Nat):Int)=s.win:=Zms f3.1 f3.2;have e7:((Zy (Zs s t) 18:Nat):Int)=s.urg:=Zms f4.1 f4.2;have e8:(Zs s t).drop (Zu (Zs s t))=s.data:=by rw [hs];unfold Zs optB;split<;>rfl
    unfold segB;rw [e1,e2,e3,e4,e5,e6,e7,e8]
  rw [hs];by_cases hb:s.big=0
  . have:Zbj 20 (List.take (20 - 20) (List.drop 20 (Zs s t))) 0=some 0:=by show Zbj (19+1) (List.take 0 _) 0=_;rw [List.take_zero];rfl
    rw [if_pos hb,this,Option.map_some,hseg,← hb]
  . rw [if_neg hb];have e:List.take (24 - 20) (List.drop 20 (Zs s t))= [2,4,hi s.big,lo s.big]:=by unfold Zs optB;simp only [if_neg hb];rfl
    rw [e];have:Zbj 24 [2,4,hi s.big,lo s.big] 0=some s.big:=by
      show Zbj (22+1+1) _ _=_;have k1: ∀f n,Zbj (f+1) [2,4,hi s.big,lo s.big] n=Zbj f [] ((Zy [2,4,hi s.big,lo s.big] 2:Nat):Int):=by
        intro f n;show (if _ then _ else _)=_
        rw [if_neg (by simp),if_neg (by simp),if_neg (by simp),if_pos (by simp),if_neg (by simp)];rfl
      rw [k1];have:((Zy [2,4,hi s.big,lo s.big] 2:Nat):Int)=s.big:=Zms f5.1 f5.2;rw [this];rfl
    rw [this,Option.map_some,hseg]
theorem Zgi {l:List Int} (h:AllB l) {i:Nat} (hi:i+1<l.length):Zy l i <= 65535:=by
  obtain ⟨a1,a2⟩:=h.get (show i<l.length by omega)
  obtain ⟨b1,b2⟩:=h.get hi;unfold Zy;omega
theorem Zbgo {l:List Int} (h:AllB l) {i:Nat} (hi:i+3<l.length):Zdp l i<4294967296:=by
  have:=Zgi h (show i+1<l.length by omega)
  have:=Zgi h (show i+2+1<l.length by omega)
  unfold Zdp;omega
theorem Zqk: ∀(f:Nat) (o:List Int) (n g:Int),AllB o->0 <= n->n <= 65535->Zbj f o n=some g->0 <= g∧g <= 65535
  | 0,_,_,_,_,_,_,h=>by cases h
  | f+1,o,n,g,ho,h0,h1,h=>by
    unfold Zbj at h;split at h;cases h;exact ⟨h0,h1⟩;split at h;exact Zqk f _ n g (ho.drop 1) h0 h1 h;split at h;cases h;split at h
    . split at h;cases h
      . rename_i hn hk _ h4;have h4:o.getD 1 0=4:=Classical.byContradiction h4;have:Zy o 2 <= 65535:=Zgi ho (by omega)
        exact Zqk f _ _ g (ho.drop 4) (by omega) (by omega) h
    exact Zqk f _ n g (ho.drop _) h0 h1 h
theorem Zbhp {x y:Nat} {b:List Int} {s:Sg} (hb:AllB b) (h:Zcd x y b=some s):s.fits=true∧s.seq<4294967296∧s.ack<4294967296∧AllB s.data∧s.data.length+20 <= b.length:=by
  unfold Zcd at h;split at h;cases h;rename_i hn;cases hg:Zbj (Zu b) ((b.drop 20).take (Zu b - 20)) 0 with
  | none=>rw [hg] at h;cases h
  | some g=>
    rw [hg] at h;cases h;obtain ⟨g0,g1⟩:=Zqk _ _ _ _ ((hb.drop 20).take _) (Int.le_refl 0) (by omega) hg
    have q1:=Zgi hb (show 0+1<b.length by omega)
    have q2:=Zgi hb (show 2+1<b.length by omega)
    have q3:=Zgi hb (show 14+1<b.length by omega)
    have q4:=Zgi hb (show 18+1<b.length by omega)
    refine ⟨?_,Zbgo hb (by omega),Zbgo hb (by omega),hb.drop _,?_⟩
    . have i: ∀{z:Int},0 <= z->z <= 65535->i16 z=true:=fun h1 h2=>by unfold i16;rw [decide_eq_true h1,decide_eq_true h2];rfl
      have f1:0 <= b.getD 13 0%64:=by omega
      have f2:b.getD 13 0%64<64:=by omega
      show (i16 (Zy b 0:Nat)&&i16 (Zy b 2:Nat)&&i16 (Zy b 14:Nat)&&i16 (Zy b 18:Nat)&&i16 g&&decide (0 <= b.getD 13 0%64)&&decide (b.getD 13 0%64<64))=true;rw [decide_eq_true f1,decide_eq_true f2,i (by omega) (by omega),i (by omega) (by omega),i (by omega) (by omega),i (by omega) (by omega),i g0 g1];rfl
    show (b.drop (Zu b)).length+20 <= b.length;rw [List.length_drop];omega
end Go.Conn
end
section
noncomputable section
namespace Go.Conn
structure Goes (g:Sg):Prop where
  can:g.can=true
  data:AllB g.data
  len:g.data.length <= 4096
structure JFine (j:Jn):Prop where
  rdy:AllB j.rdy
  held: ∀i x,j.held i=some x->isB x
structure Cn.Fine (c:Cn):Prop where
  src:i16 c.src=true
  dst:i16 c.dst=true
  data:AllB c.data
  len:c.data.length <= 4096
  inn: ∀j,c.inn=some j->JFine j
theorem Zge {z:Int} (h1:0 <= z) (h2:z <= 65535):i16 z=true:=by unfold i16;rw [decide_eq_true h1,decide_eq_true h2];rfl
theorem i0:i16 0=true:=by decide
theorem Zli {s:Sg} (h1:i16 s.src=true) (h2:i16 s.dst=true) (h3:i16 s.win=true) (h4:i16 s.urg=true) (h5:i16 s.big=true) (h6:0 <= s.flags) (h7:s.flags<64) (h8:s.data.length <= 65495):s.can=true:=by unfold Sg.can Sg.fits;rw [h1,h2,h3,h4,h5,decide_eq_true h6,decide_eq_true h7,decide_eq_true h8];rfl
theorem room_le (c:Cn):c.room <= 4096:=by unfold Cn.room;split;exact Nat.le_refl _;unfold Jn.win;omega
section
variable {c d:Cn} {s:Sg}
theorem Cn.Fine.mk' (h:c.Fine) (at_:Nat) {f:Int} {b:List Int} (h0:0 <= f) (h1:f<64) (hb:AllB b) (hl:b.length <= 4096):Goes (c.mk' at_ f b):=by have hr:=room_le c;exact ⟨Zli h.src h.dst (Zge (by show (0:Int) <= (c.room:Nat);omega) (by show ((c.room:Nat):Int) <= 65535;omega)) i0 i0 h0 h1 (by show b.length <= 65495;omega),hb,hl⟩
theorem Cn.Fine.hello (h:c.Fine):Goes c.hello:=by
  have hr:=room_le c;have hf: ∀n:Nat,(0:Int) <= (if n=2 then 18 else if n=1 then 2 else 0)∧(if n=2 then 18 else if n=1 then 2 else 0:Int)<64:=fun n=>by by_cases e:n=2;rw [if_pos e];omega;rw [if_neg e];by_cases e1:n=1;rw [if_pos e1];omega;rw [if_neg e1];omega
  exact ⟨Zli h.src h.dst (Zge (by show (0:Int) <= (c.room:Nat);omega) (by show ((c.room:Nat):Int) <= 65535;omega)) i0 (show i16 1460=true by decide) (hf c.st).1 (hf c.st).2 (by show 0 <= 65495;omega),AllB.nil,Nat.zero_le _⟩
theorem Cn.Fine.nod (h:c.Fine):Goes c.nod:=h.mk' _ (by decide) (by decide) AllB.nil (by show 0 <= 4096;omega)
theorem Cn.Fine.fin (h:c.Fine):Goes c.fin:=h.mk' _ (by decide) (by decide) AllB.nil (by show 0 <= 4096;omega)
theorem Cn.Fine.piece (h:c.Fine) (n:Nat):Goes (c.piece n):=h.mk' _ (by decide) (by decide) ((h.data.drop _).take _) (by have:=h.len;simp;omega)
theorem Cn.Fine.same (h:c.Fine) (e1:d.src=c.src) (e2:d.dst=c.dst) (e3:d.data=c.data) (e4:d.inn=c.inn):d.Fine:=
  ⟨by rw [e1];exact h.src,by rw [e2];exact h.dst,by rw [e3];exact h.data,by rw [e3];exact h.len,by rw [e4];exact h.inn⟩
def Zhp (l:List Sg) (d:Cn):Prop:=(∀g∈l,Goes g)∧d.Fine
theorem Cn.Fine.sends: ∀(f:Nat) {c:Cn},c.Fine->Zhp (c.sends f).1 (c.sends f).2∧(c.sends f).1.length <= f
  | 0,c,h=>⟨⟨(fun g hg=>by cases hg),h⟩,Nat.le_refl _⟩
  | f+1,c,h=>by
    unfold Cn.sends;by_cases e:c.may=0;rw [if_pos e];exact ⟨⟨(fun g hg=>by cases hg),h⟩,Nat.zero_le _⟩
    . rw [if_neg e];have h2:({ c with sent:=c.sent+c.may }:Cn).Fine:=h.same rfl rfl rfl rfl
      obtain ⟨⟨i1,i2⟩,i3⟩:=Cn.Fine.sends f h2;refine ⟨⟨fun g hg=>?_,i2⟩,by simp only [List.length_cons];omega⟩
      rcases List.mem_cons.1 hg with rfl | hg;exact h.piece _;exact i1 g hg
theorem Cn.Fine.byes (h:c.Fine):Zhp c.byes.1 c.byes.2∧c.byes.1.length <= 1:=by
  unfold Cn.byes;split;exact ⟨⟨fun g hg=>by rw [List.mem_singleton.1 hg];exact h.fin,h.same rfl rfl rfl rfl⟩,Nat.le_refl _⟩
  exact ⟨⟨(fun g hg=>by cases hg),h⟩,Nat.zero_le _⟩
theorem Cn.Fine.flush (h:c.Fine):Zhp c.flush.1 c.flush.2∧c.flush.1.length <= 4098:=by
  unfold Cn.flush;split
  . obtain ⟨⟨a1,a2⟩,a3⟩:=h.sends 4097;obtain ⟨⟨b1,b2⟩,b3⟩:=a2.byes;refine ⟨⟨fun g hg=>?_,b2⟩,by simp only [List.length_append];omega⟩
    rcases List.mem_append.1 hg with hg | hg;exact a1 g hg;exact b1 g hg
  exact ⟨⟨(fun g hg=>by cases hg),h⟩,Nat.zero_le _⟩
theorem JFine.new (n:Nat):JFine ⟨n,[],fun _=>none⟩:=⟨AllB.nil,fun _ _ h=>by cases h⟩
theorem JFine.hold {j:Jn} (h:JFine j) (b:Nat) {l:List Int} (hl:AllB l):JFine (j.hold b l):=by refine ⟨h.rdy,fun i x hx=>?_⟩;unfold Jn.hold at hx;simp only [Option.or_eq_some_iff] at hx;rcases hx with hx | ⟨_,hx⟩;exact h.held i x hx;split at hx;exact hl x (List.mem_of_getElem? hx);cases hx
theorem JFine.move: ∀(f:Nat) {j:Jn},JFine j->JFine (j.move f)
  | 0,_,h=>h
  | f+1,j,h=>by
    unfold Jn.move;cases e:j.held 0 with
    | none=>exact h
    | some x=>exact JFine.move f ⟨h.rdy.app fun y hy=>by rw [List.mem_singleton.1 hy];exact h.held 0 x e,fun i y hy=>h.held _ y hy⟩
theorem JFine.add {j:Jn} (h:JFine j) (a:Nat) {b:List Int} (hb:AllB b):JFine (j.add a b):=by unfold Jn.add;split;exact h;exact (h.hold _ ((hb.drop _).take _)).move _
theorem Cn.Fine.jn (h:c.Fine) {k:Jn} (hk:JFine k) (e1:d.src=c.src) (e2:d.dst=c.dst) (e3:d.data=c.data) (e4:d.inn=some k):d.Fine:=
  ⟨by rw [e1];exact h.src,by rw [e2];exact h.dst,by rw [e3];exact h.data,by rw [e3];exact h.len,fun j hj=>by rw [e4] at hj;cases hj;exact hk⟩
theorem Cn.Fine.begin_ (h:c.Fine) (s:Sg):(c.begin s).Fine:=
  ⟨h.src,h.dst,AllB.nil,Nat.zero_le _,fun j hj=>by cases hj;exact JFine.new _⟩
theorem Cn.Fine.ackd (h:c.Fine) {a w n:Nat} (e:c.ackd a w=some (n,d)):d.Fine:=by unfold Cn.ackd at e;simp only at e;split at e;cases e;cases e;exact ⟨h.src,h.dst,h.data.drop _,by have:=h.len;simp;omega,h.inn⟩
theorem Cn.Fine.welcome (h:c.Fine) (s:Sg):(c.welcome s).Fine:=by
  unfold Cn.welcome;have h3:({ c with st:=3,tries:=0 }:Cn).Fine:=h.same rfl rfl rfl rfl
  exact Zzy (p:=Cn.Fine) (fun n d e=>h3.ackd e) h3
theorem Cn.Fine.finished (h:c.Fine):c.finished.Fine:=by unfold Cn.finished;split;exact h;exact h.same rfl rfl rfl rfl
theorem Cn.Fine.quiet (h:c.Fine) (s:Sg):(c.quiet s).Fine:=by unfold Cn.quiet;split;exact h.same rfl rfl rfl rfl;exact h
theorem Cn.Fine.lastN (h:c.Fine) (a w:Nat):(lastN (c.ackd a w) c).Fine:=by
  cases e:c.ackd a w with
  | none=>exact h
  | some p=>
    obtain ⟨n,d⟩:=p;have hd:=h.ackd e;show (if 0<n∨c.sure=false then d.news else d).Fine
    split;exact hd.same rfl rfl rfl rfl;exact hd
theorem Cn.Fine.acknowledged (h:c.Fine) (s:Sg):(c.acknowledged s).2.Fine:=by
  unfold Cn.acknowledged;cases e:c.ackd s.ack s.win.toNat with
  | some p=>obtain ⟨n,d⟩:=p;exact (h.ackd e).quiet s
  | none=>
    show (if c.bye&&decide (s.ack=c.last) then (true,((Conn.lastN (c.ackd c.onext s.win.toNat) c).finished).quiet s) else (Zlg s.ack c.una,c)).2.Fine
    split;exact ((h.lastN _ _).finished).quiet s;exact h
theorem Cn.Fine.takes (h:c.Fine) (hs:AllB s.data):(c.takes s).Fine:=by
  unfold Cn.takes;cases e:c.inn with
  | none=>exact h
  | some j=>
    have hj:=(h.inn j e).add s.seq hs;show (if c.st=3∨c.st=4∨c.st=5 then c.joined s (j.add s.seq s.data) else c).Fine
    split;unfold Cn.joined;split;exact h.jn hj rfl rfl rfl rfl;exact h.jn hj rfl rfl rfl rfl;exact h
theorem Cn.Fine.lost (h:c.Fine):Zhp c.lost.1 c.lost.2.2:=⟨fun g hg=>(by cases hg),h.same rfl rfl rfl rfl⟩
theorem Zbhz (hs:s.fits=true): ∀g∈Cn.refuse s,Goes g:=by
  intro g hg;obtain ⟨f1,f2,_⟩:=Zgc hs;have i1:=Zge f1.1 f1.2;have i2:=Zge f2.1 f2.2;unfold Cn.refuse Sg.reset at hg;by_cases e1:s.rst=true;rw [if_pos e1] at hg;cases hg;rw [if_neg e1] at hg;by_cases e2:s.acks=true;rw [if_pos e2] at hg;rw [List.mem_singleton.1 hg];exact ⟨Zli i2 i1 i0 i0 i0 (show (0:Int) <= 4 by decide) (show (4:Int)<64 by decide) (Nat.zero_le _),AllB.nil,Nat.zero_le _⟩
  rw [if_neg e2] at hg;rw [List.mem_singleton.1 hg];exact ⟨Zli i2 i1 i0 i0 i0 (show (0:Int) <= 20 by decide) (show (20:Int)<64 by decide) (Nat.zero_le _),AllB.nil,Nat.zero_le _⟩
theorem Zbhy (s:Sg):(Cn.refuse s).length <= 1:=by unfold Cn.refuse;split<;>simp
def Zbk (a:Ans):Prop:=Zhp a.1 a.2.2∧a.1.length <= 4098
theorem Zbk.none_ (h:c.Fine) (e:Int):Zbk ([],e,c):=⟨⟨(fun g hg=>by cases hg),h⟩,Nat.zero_le _⟩
theorem Zbk.nod (h:c.Fine) (h2:d.Fine) (e:Int):Zbk ([c.nod],e,d):=⟨⟨fun g hg=>by rw [List.mem_singleton.1 hg];exact h.nod,h2⟩,by show 1 <= 4098;omega⟩
theorem Zbk.refuse (h:c.Fine) (hs:s.fits=true) (e:Int):Zbk (Cn.refuse s,e,c):=⟨⟨Zbhz hs,h⟩,Nat.le_trans (Zbhy s) (by omega)⟩
theorem Zbk.flushed (h:c.Fine) (p:Prop) [Decidable p]:Zbk (if p then [c.flush.2.nod] else c.flush.1,0,c.flush.2):=by obtain ⟨⟨h1,h2⟩,h3⟩:=h.flush;by_cases e:p;rw [if_pos e];exact Zbk.nod h2 h2 0;rw [if_neg e];exact ⟨⟨h1,h2⟩,h3⟩
theorem Zbk.lost (h:c.Fine):Zbk c.lost:=⟨h.lost,Nat.zero_le _⟩
theorem Cn.Fine.rest (h:c.Fine) (hs:AllB s.data):Zbk (c.rest s):=by unfold Cn.rest;split;exact Zbk.none_ h _;exact Zbk.flushed (h.takes hs) _
theorem Cn.Fine.answer (h:c.Fine) (hf:s.fits=true):Zbk (c.answer s):=by
  unfold Cn.answer;split;exact Zbk.refuse h hf _;split;split;exact Zbk.lost h;exact Zbk.none_ h _;split;exact Zbk.none_ h _;simp only;split
  . have hb:({ c.begin s with st:=2 }:Cn).Fine:=(h.begin_ s).same rfl rfl rfl rfl
    exact ⟨⟨fun g hg=>by rw [List.mem_singleton.1 hg];exact hb.hello,hb⟩,by show 1 <= 4098;omega⟩
  exact Zbk.flushed ((h.begin_ s).welcome s) _
theorem Cn.Fine.take (h:c.Fine) (hf:s.fits=true) (hs:AllB s.data):Zbk (c.take s):=by unfold Cn.take;simp only;split;exact Zbk.none_ h _;split;exact Zbk.nod h h _;split;exact Zbk.lost h;split;exact Zbk.none_ h _;split;split;exact (h.acknowledged s).rest hs;exact Zbk.nod (h.acknowledged s) (h.acknowledged s) _;split;exact Zbk.refuse h hf _;exact (h.welcome s).rest hs
theorem Cn.Fine.Take (h:c.Fine) (hf:s.fits=true) (hs:AllB s.data):Zbk (c.Take s):=by unfold Cn.Take;split;exact Zbk.none_ h _;split;exact Zbk.none_ h _;split;exact h.answer hf;exact h.take hf hs
theorem Cn.Fine.read (h:c.Fine) (n:Nat):(∀g∈(c.read n).2.1,Goes g)∧(c.read n).2.2.Fine∧AllB (c.read n).1∧(c.read n).2.1.length <= 1:=by
  unfold Cn.read;cases e:c.inn with
  | none=>exact ⟨(fun g hg=>by cases hg),h,AllB.nil,Nat.zero_le _⟩
  | some j=>
    have hj:=h.inn j e;have h2:({ c with inn:=some (j.read n).2 }:Cn).Fine:=h.jn (k:=(j.read n).2) ⟨hj.rdy.drop _,hj.held⟩ rfl rfl rfl rfl
    refine ⟨fun g hg=>?_,h2,hj.rdy.take _,?_⟩
    . change g∈(if j.win=0∧0<(j.read n).2.win∧3 <= c.st∧c.st <= 5 then [Cn.nod { c with inn:=some (j.read n).2 }] else []) at hg
      split at hg;rw [List.mem_singleton.1 hg];exact h2.nod;cases hg
    . show (if j.win=0∧0<(j.read n).2.win∧3 <= c.st∧c.st <= 5 then [Cn.nod { c with inn:=some (j.read n).2 }] else []).length <= 1
      split<;>simp
theorem Zbgj {src dst:Int} (first:Nat) (h1:i16 src=true) (h2:i16 dst=true):(Cn.new src dst first).Fine:=
  ⟨h1,h2,AllB.nil,Nat.zero_le _,fun j hj=>by cases hj⟩
theorem Zbel {src dst:Int} (first:Nat) (h1:i16 src=true) (h2:i16 dst=true):Zhp (dial src dst first).1 (dial src dst first).2:=by
  have h:({ Cn.new src dst first with st:=1 }:Cn).Fine:=(Zbgj first h1 h2).same rfl rfl rfl rfl
  exact ⟨fun g hg=>by rw [List.mem_singleton.1 hg];exact h.hello,h⟩
theorem Zbdd (hs:s.fits=true) (first:Nat):Zhp (accept s first).1 (accept s first).2:=by
  obtain ⟨f1,f2,_⟩:=Zgc hs;have h:(({ Cn.new s.dst s.src first with st:=2 }:Cn).begin s).Fine:=by
    have h2:({ Cn.new s.dst s.src first with st:=2 }:Cn).Fine:=(Zbgj first (Zge f2.1 f2.2) (Zge f1.1 f1.2)).same rfl rfl rfl rfl
    exact h2.begin_ s
  exact ⟨fun g hg=>by rw [List.mem_singleton.1 hg];exact h.hello,h⟩
end
end Go.Conn
end
section
noncomputable section
namespace Go.Conn
abbrev Key:=Int×Int×Int
structure En where
  k:Key
  id:Nat
  c:Cn
structure Stk where
  me:Nat
  seed:Nat
  ports:List Int
  l:List En
  count:Nat
  now:Int
def Cn.ready (c:Cn):Nat:=(c.inn.map fun j=>j.rdy.length).getD 0
def evs (id s0 r0:Nat) (c:Cn):List (Int×Int):=
  (if s0<3∧3 <= c.st then [(1,(id:Int))] else [])++((if r0<c.ready then [(2,(id:Int))] else [])++
    (if c.st=6∨c.st=7∨c.st=9 then (if s0 <= 5 then [(3,(id:Int))] else []) else if c.st=0 then [(4,(id:Int))] else []))
def Stk.first (S:Stk):Nat:=addN S.seed (64000*(S.count+1))
def Stk.byK (S:Stk) (k:Key):Option En:=S.l.find? fun e=>k=e.k
def Stk.byI (S:Stk) (i:Int):Option En:=S.l.find? fun e=>i=e.id
def Stk.add (S:Stk) (k:Key) (c:Cn):Stk:={ S with l:=S.l++[⟨k,S.count+1,c⟩],count:=S.count+1 }
def Zef (id:Nat) (c:Cn) (e:En):En:=if e.id=id then { e with c:=c } else e
def Stk.turn (S:Stk) (id:Nat) (c:Cn):Stk:={ S with l:=S.l.map (Zef id c) }
def Stk.gone (S:Stk) (id:Nat):Stk:={ S with l:=S.l.filter fun e=>e.id≠id }
def Stk.settle (S:Stk) (id:Nat) (c:Cn):Stk:=if c.st=0 then S.gone id else S
def Stk.at_ (S:Stk) (now:Int):Stk:={ S with now:=now }
def Stk.dials (S:Stk) (s:Sg):Bool:=S.ports.contains s.dst&&decide (s.span=1)&&Zbf s.src&&(s.syn&& !s.fin&& !s.rst&& !s.acks)
def Stk.stranger (S:Stk) (k:Key) (s:Sg):List Sg×Stk:=
  if S.dials s then (if 16 <= S.l.length then ([],S) else ((accept s S.first).1,S.add k (accept s S.first).2)) else (Cn.refuse s,S)
structure Took where
  outs:List Sg
  evs:List (Int×Int)
  S:Stk
def Stk.meet (S:Stk) (from_:Nat) (s:Sg):Took:=match S.byK ((from_:Int),s.src,s.dst) with
  | some e=>⟨(e.c.Take s).1,Conn.evs e.id e.c.st e.c.ready (e.c.Take s).2.2,(S.turn e.id (e.c.Take s).2.2).settle e.id (e.c.Take s).2.2⟩
  | none=>⟨(S.stranger ((from_:Int),s.src,s.dst) s).1,[],(S.stranger ((from_:Int),s.src,s.dst) s).2⟩
def Stk.take (S:Stk) (now:Int) (from_:Nat) (b:List Int):Took:=match Zcd from_ S.me b with
  | none=>⟨[],[],S.at_ now⟩
  | some s=>(S.at_ now).meet from_ s
structure Stk.Ok (S:Stk):Prop where
  me:S.me<4294967296
  seed:S.seed<4294967296
  ports: ∀p∈S.ports,Zbf p=true
  nports:S.ports.length <= 8
  now:0 <= S.now
  len:S.l.length <= 16
  ids:S.l.Pairwise fun a b=>a.id<b.id
  keys:(S.l.map (·.k)).Nodup
  le: ∀e∈S.l,1 <= e.id∧e.id <= S.count
  fine: ∀e∈S.l,e.c.Fine
section
variable {S:Stk}
theorem Zbiy (id:Nat) (c:Cn) (e:En):(Zef id c e).k=e.k:=by unfold Zef;split<;>rfl
theorem Zbbj (id:Nat) (c:Cn) (e:En):(Zef id c e).id=e.id:=by unfold Zef;split<;>rfl
theorem Zbdv {k:Key} {e:En} (h:S.byK k=some e):e∈S.l∧e.k=k:=by have:=List.find?_some h;exact ⟨List.mem_of_find?_eq_some h,(of_decide_eq_true this).symm⟩
theorem Zbtr {k:Key} (h:S.byK k=none): ∀e∈S.l,e.k≠k:=fun e he hk=>by have:=List.find?_eq_none.1 h e he;exact this (decide_eq_true hk.symm)
theorem Stk.Ok.one (h:S.Ok) {e e':En} (he:e∈S.l) (he':e'∈S.l) (hi:e.id=e'.id):e=e':=by
  have key: ∀{l:List En},(l.Pairwise fun a b=>a.id<b.id)->e∈l->e'∈l->e=e':=by
    intro l;induction l with
    | nil=>exact fun _ h=>absurd h List.not_mem_nil
    | cons x l ih=>
      intro hp h1 h2;obtain ⟨p1,p2⟩:=List.pairwise_cons.1 hp;rcases List.mem_cons.1 h1 with e1 | h1;rcases List.mem_cons.1 h2 with e2 | h2;rw [e1,e2];have:=p1 e' h2;rw [← e1] at this;omega;rcases List.mem_cons.1 h2 with e2 | h2;have:=p1 e h1;rw [← e2] at this;omega;exact ih p2 h1 h2
  exact key h.ids he he'
theorem Stk.Ok.oneK (h:S.Ok) {e e':En} (he:e∈S.l) (he':e'∈S.l) (hi:e.k=e'.k):e=e':=by
  have key: ∀{l:List En},(l.map (·.k)).Nodup->e∈l->e'∈l->e=e':=by
    intro l;induction l with
    | nil=>exact fun _ h=>absurd h List.not_mem_nil
    | cons x l ih=>
      intro hp h1 h2;obtain ⟨p1,p2⟩:=List.nodup_cons.1 hp;rcases List.mem_cons.1 h1 with e1 | h1;rcases List.mem_cons.1 h2 with e2 | h2;rw [e1,e2];exact absurd (List.mem_map.2 ⟨e',h2,by rw [← hi,e1]⟩) p1
      . rcases List.mem_cons.1 h2 with e2 | h2;exact absurd (List.mem_map.2 ⟨e,h1,by rw [hi,e2]⟩) p1
        exact ih p2 h1 h2
  exact key h.keys he he'
theorem Stk.Ok.at_ (h:S.Ok) {now:Int} (hn:0 <= now):(S.at_ now).Ok:=⟨h.me,h.seed,h.ports,h.nports,hn,h.len,h.ids,h.keys,h.le,h.fine⟩
theorem Stk.Ok.turn (h:S.Ok) (id:Nat) {c:Cn} (hc:c.Fine):(S.turn id c).Ok:=by refine ⟨h.me,h.seed,h.ports,h.nports,h.now,?_,?_,?_,fun e he=>?_,fun e he=>?_⟩;show (S.l.map (Zef id c)).length <= 16;rw [List.length_map];exact h.len;show (S.l.map (Zef id c)).Pairwise _;rw [List.pairwise_map];refine h.ids.imp fun {a b} hab=>?_;rw [Zbbj,Zbbj];exact hab;show ((S.l.map (Zef id c)).map (·.k)).Nodup;rw [List.map_map];have:((fun x:En=>x.k) ∘ Zef id c)=fun x=>x.k:=funext fun e=>Zbiy id c e;rw [this];exact h.keys;obtain ⟨e0,h0,rfl⟩:=List.mem_map.1 he;rw [Zbbj];exact h.le e0 h0;obtain ⟨e0,h0,rfl⟩:=List.mem_map.1 he;unfold Zef;split;exact hc;exact h.fine e0 h0
theorem Stk.Ok.gone (h:S.Ok) (id:Nat):(S.gone id).Ok:=
  ⟨h.me,h.seed,h.ports,h.nports,h.now,Nat.le_trans (List.length_filter_le _ _) h.len,h.ids.filter _,h.keys.sublist (List.filter_sublist.map _),fun e he=>h.le e (List.mem_filter.1 he).1,fun e he=>h.fine e (List.mem_filter.1 he).1⟩
theorem Stk.Ok.settle (h:S.Ok) (id:Nat) (c:Cn):(S.settle id c).Ok:=by unfold Stk.settle;split;exact h.gone id;exact h
theorem Stk.Ok.add (h:S.Ok) {k:Key} {c:Cn} (hc:c.Fine) (hk:S.byK k=none) (hl:S.l.length<16):(S.add k c).Ok:=by
  refine ⟨h.me,h.seed,h.ports,h.nports,h.now,?_,?_,?_,fun e he=>?_,fun e he=>?_⟩;show (S.l++[_]).length <= 16;rw [List.length_append];simp;omega;show (S.l++[_]).Pairwise _;rw [List.pairwise_append];refine ⟨h.ids,List.pairwise_singleton _ _,fun a ha b hb=>?_⟩;rw [List.mem_singleton.1 hb];have:=(h.le a ha).2;show a.id<S.count+1;omega
  . show ((S.l++[_]).map (fun e:En=>e.k)).Nodup;rw [List.map_append,List.nodup_append];refine ⟨h.keys,by simp,fun a ha b hb=>?_⟩
    obtain ⟨e,he,rfl⟩:=List.mem_map.1 ha;rw [List.mem_singleton.1 hb];exact Zbtr hk e he
  rcases List.mem_append.1 he with he | he;have:=h.le e he;exact ⟨this.1,Nat.le_succ_of_le this.2⟩;rw [List.mem_singleton.1 he];exact ⟨Nat.le_add_left 1 _,Nat.le_refl _⟩;rcases List.mem_append.1 he with he | he;exact h.fine e he;rw [List.mem_singleton.1 he];exact hc
theorem Stk.Ok.stranger (h:S.Ok) {k:Key} {s:Sg} (hk:S.byK k=none) (hs:s.fits=true):(S.stranger k s).2.Ok∧(∀g∈(S.stranger k s).1,Goes g)∧(S.stranger k s).1.length <= 1:=by
  unfold Stk.stranger;split
  . split;exact ⟨h,(fun g hg=>by cases hg),Nat.zero_le _⟩
    obtain ⟨a1,a2⟩:=Zbdd hs S.first;exact ⟨h.add a2 hk (by omega),a1,Nat.le_refl 1⟩
  exact ⟨h,Zbhz hs,Zbhy s⟩
theorem Stk.Ok.meet (h:S.Ok) (from_:Nat) {s:Sg} (hs:s.fits=true) (hd:AllB s.data):(S.meet from_ s).S.Ok∧(∀g∈(S.meet from_ s).outs,Goes g)∧(S.meet from_ s).outs.length <= 4098:=by
  unfold Stk.meet;cases e:S.byK ((from_:Int),s.src,s.dst) with
  | some x=>
    obtain ⟨⟨a1,a2⟩,a3⟩:=(h.fine x (Zbdv e).1).Take hs hd;exact ⟨(h.turn x.id a2).settle _ _,a1,a3⟩
  | none=>
    obtain ⟨a1,a2,a3⟩:=h.stranger e hs;exact ⟨a1,a2,Nat.le_trans a3 (by omega)⟩
theorem Stk.Ok.take (h:S.Ok) {now:Int} (hn:0 <= now) (from_:Nat) {b:List Int} (hb:AllB b):(S.take now from_ b).S.Ok∧(∀g∈(S.take now from_ b).outs,Goes g)∧(S.take now from_ b).outs.length <= 4098:=by
  unfold Stk.take;cases e:Zcd from_ S.me b with
  | none=>exact ⟨h.at_ hn,(fun g hg=>by cases hg),Nat.zero_le _⟩
  | some s=>
    obtain ⟨r1,r2,r3,r4,r5⟩:=Zbhp hb e;exact (h.at_ hn).meet from_ r1 r4
end
end Go.Conn
end
section
noncomputable section
namespace Go.Conn
structure LW where
  s:Nat->Stk
  y:Nat->List (List Int)
def adr (k:Nat):Nat:=10+k
def LW.one (W:LW) (now:Int) (k:Nat) (b:List Int):LW×List (Int×Int):=
  let t:=(W.s k).take now (adr (1 - k)) b
  (⟨upF W.s k t.S,upF W.y (1 - k) (W.y (1 - k)++t.outs.map (outV (W.s k).me (adr (1 - k))))⟩,t.evs)
def LW.more (now:Int) (k:Nat):List (List Int)->LW->LW×List (Int×Int)
  | [],W=>(W,[])
  | b::bs,W=>(((LW.more now k bs (W.one now k b).1)).1,(W.one now k b).2++(LW.more now k bs (W.one now k b).1).2)
def LW.come (W:LW) (now:Int) (k:Nat):LW×List (Int×Int):=LW.more now k (W.y k) { W with y:=upF W.y k [] }
def LW.start (a b:Nat):LW:=⟨fun k=>if k=0 then ⟨10,a,[],[],0,0⟩ else ⟨11,b,[179],[],0,0⟩,fun _=>[]⟩
def LW.put (W:LW) (k:Nat) (o:List (List Int)):LW:={ W with y:=upF W.y (1 - k) (W.y (1 - k)++o) }
end Go.Conn
end
section
noncomputable section
namespace Go.Conn
theorem Zfz (x a b:Nat):addN (addN x a) b=addN x (a+b):=by rw [Zde,Zde,Zde];omega
theorem Zvf {x:Nat} (h:x<4294967296):addN x 0=x:=by rw [Zde];omega
theorem Zccy {x n:Nat} (hx:x<4294967296) (hn:n<4294967296):wayN x (addN x n)=n:=by rw [Zde,Zfq];omega
theorem Zbbm {x:Nat} (hx:x<4294967296):wayN x x=0:=by rw [Zfq];omega
theorem Zbsp {w n sp:Nat} (hw:w<4294967296) (h0:0<n) (h1:n <= 4096) (hs:sp <= 100000):Zcy w n w sp=true:=by
  have hin:Zei w w n=true:=by
    unfold Zei;rw [Zbbm hw,decide_eq_true (by omega),decide_eq_true h0];rfl
  unfold Zcy;rw [if_neg (by omega)]
  by_cases e:sp=0
  . rw [if_neg (by omega),if_pos e];exact hin
  rw [if_neg (by omega),if_neg e,hin,Bool.true_or]
section
variable {c d:Cn} {s:Sg} {j:Jn}
theorem Zbde {n w:Nat} (hu:c.una<4294967296) (hn:n<4294967296) (hs:n <= c.sent):c.ackd (addN c.una n) w=some (n,{ c with win:=w,una:=addN c.una n,data:=c.data.drop n,sent:=c.sent - n,tries:=if n=0 then c.tries else 0 }):=by unfold Cn.ackd;simp only;rw [Zccy hu hn,if_neg (by omega)]
def Full (c:Cn):Prop:=c.sent=c.data.length∧(c.shut=true->c.bye=true)
theorem Full.may (h:Full c):c.may=0:=by unfold Cn.may;have:=h.1;omega
theorem Full.flush (h:Full c):c.flush=([],c):=by
  unfold Cn.flush;split
  . have hs:c.sends 4097=([],c):=by
      show (if c.may=0 then _ else _)=_
      rw [if_pos h.may]
    simp only [hs];have hb:c.byes=([],c):=by
      unfold Cn.byes;cases e:c.shut with
      | false=>rfl
      | true=>rw [h.2 e];rfl
    rw [hb];rfl
  rfl
theorem Zbgi: ∀(f:Nat) (d:List Int) (next:Nat) (rdy:List Int),next<4294967296->d.length <= f->(⟨next,rdy,fun i=>d[i]?⟩:Jn).move f=⟨addN next d.length,rdy++d,fun _=>none⟩
  | 0,[],next,rdy,hn,_=>by
    show (⟨next,rdy,_⟩:Jn)=_
    rw [List.append_nil];show _=(⟨addN next 0,rdy,_⟩:Jn)
    rw [Zvf hn];congr 1
  | 0,x::d,_,_,_,h=>by simp at h
  | f+1,[],next,rdy,hn,_=>by
    unfold Jn.move;simp only [List.getElem?_nil];rw [List.append_nil];show (⟨next,rdy,_⟩:Jn)=⟨addN next 0,rdy,_⟩
    rw [Zvf hn]
  | f+1,x::d,next,rdy,hn,h=>by
    show (Jn.step ⟨next,rdy,fun i=>(x::d)[i]?⟩ x).move f=_
    have e:Jn.step ⟨next,rdy,fun i=>(x::d)[i]?⟩ x=⟨addN next 1,rdy++[x],fun i=>d[i]?⟩:=by unfold Jn.step;congr 1
    rw [e,Zbgi f d (addN next 1) (rdy++[x]) (Zbb _ _) (by simp at h;omega),Zfz]
    congr 1;simp only [List.length_cons];congr 1;omega;simp
theorem Zbss {next:Nat} {rdy b:List Int} (hn:next<4294967296) (hl:rdy.length+b.length<4096):(⟨next,rdy,fun _=>none⟩:Jn).add next b=⟨addN next b.length,rdy++b,fun _=>none⟩:=by
  unfold Jn.add;rw [if_neg (by omega)]
  have hw:(⟨next,rdy,fun _=>none⟩:Jn).win=4096 - rdy.length:=rfl
  have ht:Zbm next (4096 - rdy.length) next b.length=(0,b.length):=by unfold Zbm;rw [if_neg (by omega),Zbbm hn,if_pos (by omega),Nat.min_eq_left (by omega)]
  simp only [hw,ht];rw [Zvf hn,Zbbm hn,List.drop_zero,List.take_length];have hh:(⟨next,rdy,fun _=>none⟩:Jn).hold 0 b=⟨next,rdy,fun i=>b[i]?⟩:=by unfold Jn.hold;congr 1
  rw [hh];exact Zbgi 4096 b next rdy hn (by omega)
end
def cnF (st:Nat) (src dst:Int) (A R:Nat) (D:List Int) (U win tries:Nat) (G:List Int) (N:Nat) (shut sure got:Bool):Cn:=
  ⟨st,src,dst,A,addN A (1+U),D.drop U,D.length - U,win,1460,tries,some ⟨addN R (1+N),G,fun _=>none⟩,shut,shut,sure,got⟩
section
variable {st:Nat} {src dst:Int} {A R:Nat} {D:List Int} {U win tries:Nat} {G:List Int} {N:Nat} {shut sure got:Bool}
theorem Zbed:Full (cnF st src dst A R D U win tries G N shut sure got):=⟨by show D.length - U=(D.drop U).length;rw [List.length_drop],fun h=>h⟩
theorem Zbug:(cnF st src dst A R D U win tries G N shut sure got).wants=addN R (1+N+if got then 1 else 0):=by
  unfold Cn.wants;show (if got then addN (addN R (1+N)) 1 else addN R (1+N))=_
  cases got;rfl;exact Zfz _ _ _
theorem Zbue (hU:U <= D.length):(cnF st src dst A R D U win tries G N shut sure got).last=addN A (1+D.length+if shut then 1 else 0):=by
  have ho:(cnF st src dst A R D U win tries G N shut sure got).onext=addN A (1+D.length):=by show addN (addN A (1+U)) (D.length - U)=_;rw [Zfz];congr 1;omega
  unfold Cn.last;rw [ho];show (if shut then addN (addN A (1+D.length)) 1 else addN A (1+D.length))=_
  cases shut;rfl;exact Zfz _ _ _
end
def sgm (src dst:Int) (q k:Nat) (fl:Int) (w:Nat) (d:List Int):Sg:=⟨src,dst,q,k,fl,w,0,0,d⟩
theorem Zcba {src dst:Int} {q k:Nat} {fl:Int} {w:Nat} {d:List Int} (h1:i16 src=true) (h2:i16 dst=true) (h3:0 <= fl) (h4:fl<64) (hw:w <= 4096) (hd:d.length <= 4096):(sgm src dst q k fl w d).can=true:=
  Zli h1 h2 (Zge (by show (0:Int) <= (w:Int);omega) (by show (w:Int) <= 65535;omega)) i0 i0 h3 h4 (by show d.length <= 65495;omega)
theorem fl16 {src dst:Int} {q k w:Nat} {d:List Int}:(sgm src dst q k 16 w d).acks=true∧(sgm src dst q k 16 w d).syn=false∧(sgm src dst q k 16 w d).rst=false∧(sgm src dst q k 16 w d).fin=false:=⟨show bitB 16 4=true by decide,show bitB 16 1=false by decide,show bitB 16 2=false by decide,show bitB 16 0=false by decide⟩
section
variable {st:Nat} {src dst:Int} {A R:Nat} {D:List Int} {U win tries:Nat} {G:List Int} {N:Nat} {shut sure got:Bool}
theorem Zbuf (hU:U <= D.length):(cnF st src dst A R D U win tries G N shut sure got).nod=sgm src dst (addN A (1+D.length+if shut then 1 else 0)) (addN R (1+N+if got then 1 else 0)) 16 (4096 - G.length) []:=by unfold Cn.nod Cn.mk';rw [Zbue hU,Zbug];rfl
end
end Go.Conn
end
section
noncomputable section
namespace Go.Conn
section
variable {st:Nat} {src dst:Int} {A R:Nat} {D:List Int} {U win tries:Nat} {G:List Int} {N:Nat} {shut sure got:Bool} {w:Nat}
end
end Go.Conn
end
section
noncomputable section
namespace Go.Conn
section
variable {st:Nat} {src dst:Int} {A R:Nat} {D E:List Int} {U win tries:Nat} {G:List Int} {N:Nat} {shut sure got:Bool} {w:Nat}
end
def two {α:Type} (z:Nat->α) (x0 x1:α):Nat->α:=fun k=>if k=0 then x0 else if k=1 then x1 else z k
theorem Zmz {α:Type} {z:Nat->α} {x0 x1 x:α}:upF (two z x0 x1) 0 x=two z x x1:=funext fun k=>by unfold upF two;by_cases h:k=0;rw [if_pos h,if_pos h];rw [if_neg h,if_neg h,if_neg h]
theorem Zkp {α:Type} {z:Nat->α} {x0 x1 x:α}:upF (two z x0 x1) 1 x=two z x0 x:=funext fun k=>by
  unfold upF two;by_cases h:k=1;rw [if_pos h,if_neg (by omega),if_pos h]
  rw [if_neg h];by_cases h0:k=0;rw [if_pos h0,if_pos h0];rw [if_neg h0,if_neg h0,if_neg h,if_neg h]
def stE (me seed:Nat) (ports:List Int) (k:Key) (c:Cn) (n:Int):Stk:=⟨me,seed,ports,[⟨k,1,c⟩],1,n⟩
structure Okg (src dst:Int) (g:Sg):Prop where
  can:g.can=true
  seq:g.seq<4294967296
  ack:g.ack<4294967296
  src:g.src=src
  dst:g.dst=dst
theorem Zbdy {g:Sg} (h:g.can=true):g.fits=true:=by
  unfold Sg.can at h;cases e:g.fits with
  | true=>rfl
  | false=>rw [e] at h;cases h
theorem Okg.read {src dst:Int} {g:Sg} (h:Okg src dst g) (x y:Nat):Zcd x y (outV x y g)=some g:=by unfold outV;rw [if_pos h.can];exact Zbho x y (Zbdy h.can) h.seq h.ack
theorem Zbiu {me seed fr:Nat} {ports:List Int} {src dst:Int} {c:Cn} {n now:Int} {g:Sg} (h:Okg src dst g):
    (stE me seed ports ((fr:Int),src,dst) c n).take now fr (outV fr me g)=⟨(c.Take g).1,evs 1 c.st c.ready (c.Take g).2.2,if (c.Take g).2.2.st=0 then ⟨me,seed,ports,[],1,now⟩ else stE me seed ports ((fr:Int),src,dst) (c.Take g).2.2 now⟩:=by
  unfold Stk.take;have hm:(stE me seed ports ((fr:Int),src,dst) c n).me=me:=rfl;rw [hm,h.read];simp only;unfold Stk.meet;have hb:((stE me seed ports ((fr:Int),src,dst) c n).at_ now).byK ((fr:Int),g.src,g.dst)=some ⟨((fr:Int),src,dst),1,c⟩:=by rw [h.src,h.dst];show List.find? _ [_]=_;rw [List.find?_cons];simp
  rw [hb];simp only;have ht:((stE me seed ports ((fr:Int),src,dst) c n).at_ now).turn 1 (c.Take g).2.2=stE me seed ports ((fr:Int),src,dst) (c.Take g).2.2 now:=rfl;rw [ht];unfold Stk.settle;by_cases e:(c.Take g).2.2.st=0;rw [if_pos e,if_pos e];rfl;rw [if_neg e,if_neg e]
end Go.Conn
end
section
set_option maxRecDepth 100000
noncomputable section
namespace Go.Conn
theorem okg {src dst:Int} {q k:Nat} {fl:Int} {w:Nat} {d:List Int} (h1:i16 src=true) (h2:i16 dst=true) (h3:0 <= fl) (h4:fl<64) (hw:w <= 4096) (hd:d.length <= 4096) (hq:q<4294967296) (hk:k<4294967296):Okg src dst (sgm src dst q k fl w d):=
  ⟨Zcba h1 h2 h3 h4 hw hd,hq,hk,rfl,rfl⟩
theorem Zbfk:i16 49153=true:=by decide
theorem Zbfj:i16 179=true:=by decide
def S0 (a:Nat) (c:Cn) (n:Int):Stk:=stE 10 a [] (11,179,49153) c n
def S1 (b:Nat) (c:Cn) (n:Int):Stk:=stE 11 b [179] (10,49153,179) c n
def zS (a b:Nat):Nat->Stk:=(LW.start a b).s
def lw (a b:Nat) (s0 s1:Stk) (y0 y1:List Sg):LW:=⟨two (zS a b) s0 s1,two (fun _=>[]) (y0.map (outV 11 10)) (y1.map (outV 10 11))⟩
section
variable {a b:Nat}
theorem Zcbj:LW.start a b=lw a b ⟨10,a,[],[],0,0⟩ ⟨11,b,[179],[],0,0⟩ [] []:=by
  show (⟨_,_⟩:LW)=⟨_,_⟩;congr 1
  . funext k;by_cases h:k=0;subst h;rfl
    . by_cases h1:k=1;subst h1;rfl
      . show (if k=0 then _ else _)=(if k=0 then _ else if k=1 then _ else (if k=0 then _ else _):Stk)
        rw [if_neg h,if_neg h,if_neg h1]
  . funext k;by_cases h:k=0;subst h;rfl
    . by_cases h1:k=1;subst h1;rfl
      . show []=(if k=0 then _ else if k=1 then _ else []:List (List Int))
        rw [if_neg h,if_neg h1]
theorem Zbwn {s0 s1:Stk} {y0 y1 g:List Sg}:(lw a b s0 s1 y0 y1).put 0 (g.map (outV 10 11))=lw a b s0 s1 y0 (y1++g):=by show (⟨two (zS a b) s0 s1,upF (two (fun _=>[]) (y0.map (outV 11 10)) (y1.map (outV 10 11))) 1 (y1.map (outV 10 11)++g.map (outV 10 11))⟩:LW)=_;rw [Zkp,← List.map_append];rfl
theorem Zbwo {s0 s1 s:Stk} {y0 y1:List Sg}:({ lw a b s0 s1 y0 y1 with s:=upF (lw a b s0 s1 y0 y1).s 0 s }:LW)=lw a b s s1 y0 y1:=by show (⟨upF (two (zS a b) s0 s1) 0 s,_⟩:LW)=_;rw [Zmz];rfl
def Zco (A:Nat):Sg:=⟨49153,179,A,0,2,4096,0,1460,[]⟩
def Zcg (A B:Nat):Sg:=⟨179,49153,B,addN A 1,18,4096,0,1460,[]⟩
def cD (A:Nat):Cn:=⟨1,49153,179,A,addN A 1,[],0,0,536,0,none,false,false,false,false⟩
def cA (A B:Nat):Cn:=⟨2,179,49153,B,addN B 1,[],0,0,1460,0,some ⟨addN A 1,[],fun _=>none⟩,false,false,false,false⟩
def c0g (A B:Nat):Cn:=cnF 3 49153 179 A B [] 0 4096 0 [] 0 false false false
def c1g (A B:Nat):Cn:=cnF 3 179 49153 B A [] 0 4096 0 [] 0 false false false
def nod0 (A B:Nat):Sg:=sgm 49153 179 (addN A 1) (addN B 1) 16 4096 []
variable {A B:Nat}
theorem Zbvg (hA:A<4294967296) (hB:B<4294967296):(cD A).Take (Zcg A B)=([nod0 A B],0,c0g A B):=by
  have hcan:(Zcg A B).can=true:=rfl;have hacks:(Zcg A B).acks=true:=show bitB 18 4=true by decide
  have hrst:(Zcg A B).rst=false:=show bitB 18 2=false by decide
  have hsyn:(Zcg A B).syn=true:=show bitB 18 1=true by decide
  unfold Cn.Take;rw [hcan,if_neg (by decide),if_neg (by show ¬1=0;decide),if_pos (show (cD A).st=1 from rfl)]
  unfold Cn.answer;have hk:decide ((Zcg A B).ack≠addN (cD A).first 1)=false:=decide_eq_false (fun h=>h rfl);rw [hacks,hrst,hsyn,hk,if_neg (by decide),if_neg (by decide),if_neg (by decide)]
  simp only;rw [if_neg (by decide)]
  have hw:((cD A).begin (Zcg A B)).welcome (Zcg A B)=c0g A B:=by
    unfold Cn.welcome;have hu:(Zcg A B).ack=addN (addN A 1) 0:=by rw [Zfz];rfl
    have h1:=Zbde (c:={ (cD A).begin (Zcg A B) with st:=3,tries:=0 }) (n:=0) (w:=4096) (Zbb _ _) (by decide) (Nat.zero_le _)
    rw [hu];show pick (Cn.ackd { (cD A).begin (Zcg A B) with st:=3,tries:=0 } (addN (Cn.una { (cD A).begin (Zcg A B) with st:=3,tries:=0 }) 0) 4096) _=_
    rw [h1];show (⟨3,49153,179,A,addN (addN A 1) 0,[],0,4096,1460,0,some ⟨addN B 1,[],fun _=>none⟩,false,false,false,false⟩:Cn)=_;rw [Zfz];rfl
  rw [hw];have hf:(c0g A B).flush=([],c0g A B):=Full.flush Zbed;rw [hf];show ([(c0g A B).nod],_,_)=_;have hn:(c0g A B).nod=nod0 A B:=by refine (Zbuf (Nat.zero_le _)).trans ?_;rfl
  rw [hn]
theorem Zbvh (hA:A<4294967296) (hB:B<4294967296):(cA A B).Take (nod0 A B)=([],0,c1g A B):=by
  obtain ⟨f1,f2,f3,f4⟩:=fl16 (src:=49153) (dst:=179) (q:=addN A 1) (k:=addN B 1) (w:=4096) (d:=[]);have hcan:(nod0 A B).can=true:=rfl;have f1:(nod0 A B).acks=true:=f1;have f2:(nod0 A B).syn=false:=f2;have f3:(nod0 A B).rst=false:=f3;have f4:(nod0 A B).fin=false:=f4;have hsp:(nod0 A B).span=0:=by unfold Sg.span;rw [f2,f4];rfl
  unfold Cn.Take;rw [hcan,if_neg (by decide),if_neg (by show ¬2=0;decide),if_neg (by show ¬2=1;decide)]
  unfold Cn.take;have hacc:Zcy (cA A B).wants (cA A B).jwin (nod0 A B).seq (nod0 A B).span=true:=by rw [hsp];exact Zbsp (Zbb A 1) (by show 0<4096;decide) (Nat.le_refl _) (by decide)
  simp only [hacc,f1,f2,f3];rw [if_neg (by simp),if_neg (by simp),if_neg (by simp),if_neg (by simp),if_neg (by show ¬2≠2;simp),if_neg (by show ¬addN B 1≠addN B 1;simp)]
  have hw:(cA A B).welcome (nod0 A B)=c1g A B:=by
    unfold Cn.welcome;have hu:(nod0 A B).ack=addN (addN B 1) 0:=by rw [Zfz];rfl
    have h1:=Zbde (c:={ cA A B with st:=3,tries:=0 }) (n:=0) (w:=4096) (Zbb _ _) (by decide) (Nat.zero_le _)
    rw [hu];show pick (Cn.ackd { cA A B with st:=3,tries:=0 } (addN (Cn.una { cA A B with st:=3,tries:=0 }) 0) 4096) _=_
    rw [h1];show (⟨3,179,49153,B,addN (addN B 1) 0,[],0,4096,1460,0,some ⟨addN A 1,[],fun _=>none⟩,false,false,false,false⟩:Cn)=_;rw [Zfz];rfl
  rw [hw];unfold Cn.rest;rw [if_neg (by show ¬3=0;decide)]
  have ht:(c1g A B).takes (nod0 A B)=c1g A B:=by
    show (if 3=3∨3=4∨3=5 then (c1g A B).joined (nod0 A B) ((⟨addN A (1+0),[],fun _=>none⟩:Jn).add (addN A 1) []) else c1g A B)=_
    rw [if_pos (.inl rfl),show addN A 1=addN A (1+0) from rfl,Zbss (Zbb _ _) (by decide)]
    unfold Cn.joined;rw [f4,Bool.false_and,if_neg (by decide),show addN (addN A (1+0)) ([]:List Int).length=addN A (1+0) from Zfz _ _ _]
    rfl
  simp only [ht];have hf:(c1g A B).flush=([],c1g A B):=Full.flush Zbed;rw [hf];show (if _ then _ else _,_,_)=_
  rw [if_neg (fun h=>h.2 hsp)]
end
end Go.Conn
end
section
set_option maxRecDepth 100000
noncomputable section
namespace Go.Conn
section
variable {a b:Nat}
theorem hand1 (ha:a<4294967296) (hb:b<4294967296):(lw a b (S0 a (cD (addN a 64000)) 0) ⟨11,b,[179],[],0,0⟩ [] [Zco (addN a 64000)]).come 0 1=(lw a b (S0 a (cD (addN a 64000)) 0) (S1 b (cA (addN a 64000) (addN b 64000)) 0) [Zcg (addN a 64000) (addN b 64000)] [],[]):=by
  have hok:Okg 49153 179 (Zco (addN a 64000)):=⟨rfl,Zbb _ _,(show 0<4294967296 by decide),rfl,rfl⟩
  have ht:(⟨11,b,[179],[],0,0⟩:Stk).take 0 10 (outV 10 11 (Zco (addN a 64000)))=⟨[Zcg (addN a 64000) (addN b 64000)],[],S1 b (cA (addN a 64000) (addN b 64000)) 0⟩:=by
    unfold Stk.take;show (match Zcd 10 11 (outV 10 11 (Zco (addN a 64000))) with | none=>_ | some s=>_)=_
    rw [hok.read];have g1:(Zco (addN a 64000)).syn=true:=show bitB 2 1=true by decide
    have g2:(Zco (addN a 64000)).fin=false:=show bitB 2 0=false by decide
    have g3:(Zco (addN a 64000)).rst=false:=show bitB 2 2=false by decide
    have g4:(Zco (addN a 64000)).acks=false:=show bitB 2 4=false by decide
    have hsp:(Zco (addN a 64000)).span=1:=by unfold Sg.span;rw [g1,g2];rfl
    have hd:(⟨11,b,[179],[],0,0⟩:Stk).dials (Zco (addN a 64000))=true:=by unfold Stk.dials;rw [g1,g2,g3,g4,hsp];rfl
    show (⟨((⟨11,b,[179],[],0,0⟩:Stk).stranger (10,49153,179) (Zco (addN a 64000))).1,[],((⟨11,b,[179],[],0,0⟩:Stk).stranger (10,49153,179) (Zco (addN a 64000))).2⟩:Took)=_;have hs:(⟨11,b,[179],[],0,0⟩:Stk).stranger (10,49153,179) (Zco (addN a 64000))=([Zcg (addN a 64000) (addN b 64000)],S1 b (cA (addN a 64000) (addN b 64000)) 0):=by
      unfold Stk.stranger;rw [hd,if_pos rfl,if_neg (by show ¬16 <= 0;decide)]
      rfl
    rw [hs]
  show (((⟨upF (two (zS a b) (S0 a (cD (addN a 64000)) 0) ⟨11,b,[179],[],0,0⟩) 1 ((⟨11,b,[179],[],0,0⟩:Stk).take 0 10 (outV 10 11 (Zco (addN a 64000)))).S,upF (upF (two (fun _=>[]) (([]:List Sg).map (outV 11 10)) ([Zco (addN a 64000)].map (outV 10 11))) 1 []) 0 ([]++((⟨11,b,[179],[],0,0⟩:Stk).take 0 10 (outV 10 11 (Zco (addN a 64000)))).outs.map (outV 11 10))⟩:LW)),((⟨11,b,[179],[],0,0⟩:Stk).take 0 10 (outV 10 11 (Zco (addN a 64000)))).evs++[])=_;rw [ht,Zkp,Zkp,Zmz];rfl
theorem hand2 (ha:a<4294967296) (hb:b<4294967296) {s1:Stk}:(lw a b (S0 a (cD (addN a 64000)) 0) s1 [Zcg (addN a 64000) (addN b 64000)] []).come 0 0=(lw a b (S0 a (c0g (addN a 64000) (addN b 64000)) 0) s1 [] [nod0 (addN a 64000) (addN b 64000)],[(1,1)]):=by
  have hok:Okg 179 49153 (Zcg (addN a 64000) (addN b 64000)):=⟨rfl,Zbb _ _,Zbb _ _,rfl,rfl⟩;have hT:=Zbiu (me:=10) (seed:=a) (fr:=11) (ports:=[]) (src:=179) (dst:=49153) (c:=cD (addN a 64000)) (n:=0) (now:=0) hok;rw [Zbvg (Zbb _ _) (Zbb _ _),if_neg (by show ¬3=0;decide)] at hT
  have hT:(S0 a (cD (addN a 64000)) 0).take 0 11 (outV 11 10 (Zcg (addN a 64000) (addN b 64000)))=⟨[nod0 (addN a 64000) (addN b 64000)],[(1,1)],S0 a (c0g (addN a 64000) (addN b 64000)) 0⟩:=hT;show (((⟨upF (two (zS a b) (S0 a (cD (addN a 64000)) 0) s1) 0 ((S0 a (cD (addN a 64000)) 0).take 0 11 (outV 11 10 (Zcg (addN a 64000) (addN b 64000)))).S,upF (upF (two (fun _=>[]) ([Zcg (addN a 64000) (addN b 64000)].map (outV 11 10)) (([]:List Sg).map (outV 10 11))) 0 []) 1 ([]++((S0 a (cD (addN a 64000)) 0).take 0 11 (outV 11 10 (Zcg (addN a 64000) (addN b 64000)))).outs.map (outV 10 11))⟩:LW)),((S0 a (cD (addN a 64000)) 0).take 0 11 (outV 11 10 (Zcg (addN a 64000) (addN b 64000)))).evs++[])=_;rw [hT,Zmz,Zmz,Zkp];rfl
theorem hand3 (ha:a<4294967296) (hb:b<4294967296) {s0:Stk}:(lw a b s0 (S1 b (cA (addN a 64000) (addN b 64000)) 0) [] [nod0 (addN a 64000) (addN b 64000)]).come 0 1=(lw a b s0 (S1 b (c1g (addN a 64000) (addN b 64000)) 0) [] [],[(1,1)]):=by
  have hok:Okg 49153 179 (nod0 (addN a 64000) (addN b 64000)):=okg Zbfk Zbfj (by decide) (by decide) (by decide) (by decide) (Zbb _ _) (Zbb _ _)
  have hT:=Zbiu (me:=11) (seed:=b) (fr:=10) (ports:=[179]) (src:=49153) (dst:=179) (c:=cA (addN a 64000) (addN b 64000)) (n:=0) (now:=0) hok;rw [Zbvh (Zbb _ _) (Zbb _ _),if_neg (by show ¬3=0;decide)] at hT
  have hT:(S1 b (cA (addN a 64000) (addN b 64000)) 0).take 0 10 (outV 10 11 (nod0 (addN a 64000) (addN b 64000)))=⟨[],[(1,1)],S1 b (c1g (addN a 64000) (addN b 64000)) 0⟩:=hT;show (((⟨upF (two (zS a b) s0 (S1 b (cA (addN a 64000) (addN b 64000)) 0)) 1 ((S1 b (cA (addN a 64000) (addN b 64000)) 0).take 0 10 (outV 10 11 (nod0 (addN a 64000) (addN b 64000)))).S,upF (upF (two (fun _=>[]) (([]:List Sg).map (outV 11 10)) ([nod0 (addN a 64000) (addN b 64000)].map (outV 10 11))) 1 []) 0 ([]++((S1 b (cA (addN a 64000) (addN b 64000)) 0).take 0 10 (outV 10 11 (nod0 (addN a 64000) (addN b 64000)))).outs.map (outV 11 10))⟩:LW)),((S1 b (cA (addN a 64000) (addN b 64000)) 0).take 0 10 (outV 10 11 (nod0 (addN a 64000) (addN b 64000)))).evs++[])=_;rw [hT,Zkp,Zkp,Zmz];rfl
end
section
variable {a b A B:Nat} {D E:List Int}
theorem e2 (X n:Nat):addN X (1+n+1)=addN X (2+n):=by congr 1;omega
def c0b (A B:Nat) (D E:List Int) (w t:Nat) (G:List Int):Cn:=cnF 5 49153 179 A B D D.length w t G E.length true true false
end
end Go.Conn
end
section
noncomputable section
namespace Go.Conn
structure Lone (S:Stk):Prop where
  ports:S.ports= []
  now:S.now=0
  key: ∀e∈S.l,e.k.1=9
section
variable {S:Stk}
theorem Zbdn (h:S.now=0):S.at_ 0=S:=by unfold Stk.at_;rw [← h]
theorem Lone.dials (h:Lone S) (s:Sg):S.dials s=false:=by unfold Stk.dials;rw [h.ports];rfl
theorem Lone.stranger (h:Lone S) (k:Key) (s:Sg):S.stranger k s=(Cn.refuse s,S):=by unfold Stk.stranger;rw [h.dials];rfl
theorem Lone.other (h:Lone S) {fr:Nat} (hf:fr≠9) (b:List Int):(S.take 0 fr b).S=S:=by
  unfold Stk.take;rw [Zbdn h.now];cases Zcd fr S.me b with
  | none=>rfl
  | some s=>
    simp only;unfold Stk.meet;cases e:S.byK ((fr:Int),s.src,s.dst) with
    | some x=>
      obtain ⟨h1,h2⟩:=Zbdv e;have:=h.key x h1;rw [h2] at this;exact absurd (by simp only at this;omega) hf
    | none=>
      simp only;rw [h.stranger]
theorem Lone.turn (h:Lone S) (id:Nat) (c:Cn):Lone (S.turn id c):=⟨h.ports,h.now,fun e he=>by
  obtain ⟨x,hx,rfl⟩:=List.mem_map.1 he;rw [Zbiy];exact h.key x hx⟩
theorem Lone.settle (h:Lone S) (id:Nat) (c:Cn):Lone (S.settle id c):=by unfold Stk.settle;split;exact ⟨h.ports,h.now,fun e he=>h.key e ((List.mem_filter.1 he).1)⟩;exact h
theorem Zcax (id:Nat) (c:Cn):(S.settle id c).count=S.count:=by unfold Stk.settle;split<;>rfl
theorem Lone.take (h:Lone S) (fr:Nat) (b:List Int):Lone (S.take 0 fr b).S∧(S.take 0 fr b).S.count=S.count:=by
  unfold Stk.take;rw [Zbdn h.now];cases Zcd fr S.me b with
  | none=>exact ⟨h,rfl⟩
  | some s=>
    simp only;unfold Stk.meet;cases e:S.byK ((fr:Int),s.src,s.dst) with
    | some x=>exact ⟨(h.turn _ _).settle _ _,by simp only;rw [Zcax];rfl⟩
    | none=>
      simp only;rw [h.stranger];exact ⟨h,rfl⟩
end
end Go.Conn
end
section
namespace Go.Conn
theorem Zbdu (s:Sg) (t:Nat):Zs { s with seq:=s.seq%4294967296,ack:=s.ack%4294967296 } t=Zs s t:=by
  have h1: ∀n:Nat,hi ((n%4294967296/65536:Nat):Int)=hi ((n/65536:Nat):Int):=fun n=>by unfold hi;omega
  have h2: ∀n:Nat,lo ((n%4294967296/65536:Nat):Int)=lo ((n/65536:Nat):Int):=fun n=>by unfold lo;omega
  have h3: ∀n:Nat,hi ((n%4294967296:Nat):Int)=hi ((n:Nat):Int):=fun n=>by unfold hi;omega
  have h4: ∀n:Nat,lo ((n%4294967296:Nat):Int)=lo ((n:Nat):Int):=fun n=>by unfold lo;omega
  unfold Zs;rw [h1,h2,h3,h4,h1,h2,h3,h4];rfl
theorem Zbyw (x y:Nat) {g:Sg} (h:g.can=true): ∃s,Zcd x y (outV x y g)=some s:=by
  unfold outV;rw [if_pos h];have e:Zga x y { g with seq:=g.seq%4294967296,ack:=g.ack%4294967296 }=Zga x y g:=by unfold Zga;rw [Zbdu,Zbdu]
  rw [← e];exact ⟨_,Zbho x y (s:={ g with seq:=g.seq%4294967296,ack:=g.ack%4294967296 }) (Zbdy h) (Nat.mod_lt _ (by decide)) (Nat.mod_lt _ (by decide))⟩
theorem Zcbn {ys:List Int} (h1:ys.Pairwise (· <= ·)) (h2:ys.Nodup):ys.Pairwise (· < ·):=by
  induction ys with
  | nil=>exact List.Pairwise.nil
  | cons a l ih=>
    rw [List.pairwise_cons] at h1 ⊢;rw [List.nodup_cons] at h2;refine ⟨fun x hx=>?_,ih h1.2 h2.2⟩;have:=h1.1 x hx;have:a≠x:=fun e=>h2.1 (e▸hx);omega
theorem Zcbm {ys:List Int} (h:ys.Pairwise (· < ·)) {j:Nat} (h1:1 <= j) (h2:j<ys.length):ys.getD (j - 1) 0<ys.getD j 0:=by
  rw [List.pairwise_iff_getElem] at h;have:=h (j - 1) j (by omega) h2 (by omega)
  rw [List.getD_eq_getElem?_getD,List.getD_eq_getElem?_getD,List.getElem?_eq_getElem h2,List.getElem?_eq_getElem (show j - 1<ys.length by omega)]
  exact this
theorem Zbvm {l:List En} (h:l.Pairwise fun a b=>a.id<b.id):(l.map fun e=>((e.id:Nat):Int)).Nodup:=by
  induction l with
  | nil=>exact List.nodup_nil
  | cons a l ih=>
    rw [List.pairwise_cons] at h;rw [List.map_cons,List.nodup_cons];refine ⟨fun hm=>?_,ih h.2⟩;obtain ⟨b,hb,e⟩:=List.mem_map.1 hm;have:=h.1 b hb;omega
end Go.Conn
end
