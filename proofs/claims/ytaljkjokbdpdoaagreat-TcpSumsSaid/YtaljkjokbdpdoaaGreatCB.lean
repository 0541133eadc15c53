/-
  Layer 15 over the heap:what may go out goes out.
-/
import Derived.Test.YtaljkjokbdpdoaaGreatCA
import Derived.Test.YtaljkjokbdpdoaaGreatBB
set_option linter.all false
section
set_option maxRecDepth 100000
namespace Go.Proofs.YtaljkjokbdpdoaaGreat
open Go.Sh Go.Pc Go.Conn
section
variable {H0 H H':Heap} {F0:Nat->Prop} {cb gc:Nat} {p:CP} {c:Cn} {now due:Int} {ga:Option Addr} {xs:List (Sg×Option Addr×Nat)} {l:List Sg}
theorem Zbup (h:c.Ok):({ c with st:=0 }:Cn).Ok:=⟨Nat.zero_le _,h.first,h.una,h.len,h.sent,h.win,h.big,h.tries,h.inn,fun (x:2 <= 0)=>absurd x (by decide),h.got⟩
theorem Zcck (h:c.Ok) {n:Nat} (hn:n <= 8):({ c with tries:=n }:Cn).Ok:=⟨h.st,h.first,h.una,h.len,h.sent,h.win,h.big,hn,h.inn,h.some,h.got⟩
theorem Zcat (h:c.Ok) {n:Nat} (hn:n <= c.data.length):({ c with sent:=n }:Cn).Ok:=⟨h.st,h.first,h.una,h.len,hn,h.win,h.big,h.tries,h.inn,h.some,h.got⟩
theorem Zbee (h:CIn H0 F0 H cb c now due l):FnW Tryz.prog Zpj ⟨[.pointer (some ⟨cb,0,none⟩)]⟩ H fun v H'=>v= .tuple ⟨[]⟩∧CIn H0 F0 H' cb { c with st:=0 } now due l:=by refine Zcgf cb ?_;unfold Zbme;obtain ⟨p,ga,gc,xs,h,rfl⟩:=h;exact stL h.rep.blk (by simp [cnL]) rfl fun H1 b1 k1=>fun H2 hs=>⟨rfl,p,ga,gc,xs,(h.put (c':={ c with st:=0 }) k1 b1 (Zbup h.rep.ok) rfl rfl h.rep.le).shut (S:=F0) h.keep hs,rfl⟩
theorem Zbeh (h:CIn H0 F0 H cb c now due l):FnW Tryz.prog Zpd ⟨[.pointer (some ⟨cb,0,none⟩)]⟩ H fun v H'=>v= .int .i64 151∧CIn H0 F0 H' cb { c with st:=0 } now due []:=by refine Zcfq cb ?_;unfold Zblx;have h0:=h;refine (Zbee h).mono ?_;rintro _ H1 ⟨rfl,p,ga,gc,xs,h,e⟩;refine ⟨rfl,stL h.rep.blk (by simp [cnL]) rfl fun H2 b2 k2=>fun H3 hs=>⟨rfl,p,none,0,[],CX.shut (S:=F0) ⟨h.rep.put k2 b2 h.rep.ok rfl rfl h.rep.le,h.kcb k2,h.sub,Outs.nil⟩ h0.keep hs,rfl⟩⟩
theorem CX.good {H':Heap} (h:CX H0 F0 H cb p ga gc c now due xs) {n:Nat} (hn:n <= 8) (he:EAt H' p.eb n) (k:Keep (fun x=>x=p.eb) H H'):CX H0 F0 H' cb { p with da:=p.da,dc:=p.dc,onow:=p.onow } ga gc { c with tries:=n } now due xs:=by have hne:=h.rep.out.ne;obtain ⟨on,unt,frm,hu,hb⟩:=h.rep.out.blk;have ok:=Zcck h.rep.ok hn;refine h.outT (da':=p.da) (dc':=p.dc) (onow':=p.onow) (c':={ c with tries:=n }) ⟨⟨ok.una,ok.len,ok.sent,ok.win,ok.big,ok.tries⟩,⟨on,unt,frm,hu,k.blk hb hne.1⟩,he,h.rep.out.data.keep k fun x hx e=>hne.2.2 (e▸hx)⟩ (Zv.est k) ok h.rep.le (fun _=>rfl) rfl
theorem CX.dueT {due':Int} (h:CX H0 F0 H cb p ga gc c now due xs) (k:Keep (fun x=>x=cb) H H') (hb:Blk H' cb Zem ⟨cnL c p.ob p.ip now due' ga xs.length gc⟩):CX H0 F0 H' cb p ga gc c now due' xs:=
  h.put k hb h.rep.ok rfl rfl h.rep.le
theorem Zvo (h:CIn H0 F0 H cb c now due l):FnW Tryz.prog Zlt ⟨[.pointer (some ⟨cb,0,none⟩)]⟩ H fun v H'=>v= .tuple ⟨[]⟩∧CIn H0 F0 H' cb c.news now (-1) l:=by
  refine Zcer cb ?_;unfold Zbld;obtain ⟨p,ga,gc,xs,h,rfl⟩:=h;refine stL h.rep.blk (by simp [cnL]) rfl fun H1 b1 k1=>?_
  have h1:=h.dueT (due':= -1) k1 b1;obtain ⟨on,unt,frm,hu,hb⟩:=h1.rep.out.blk;refine ⟨_,cellL h1.rep.blk 4 rfl,NilP.intro _ rfl ⟨_,cellL hb 0 rfl,(Zvw h1.rep.out.est).mono ?_⟩⟩;rintro _ H2 ⟨rfl,e2,k2⟩;exact ⟨rfl,fun H3 hs=>⟨rfl,_,ga,gc,xs,(h1.good (n:=0) (by omega) e2 k2).shut (S:=F0) h.keep hs,rfl⟩⟩
theorem Zbej (h:CIn H0 F0 H cb c now due l) (hi:c.inn≠none):FnW Tryz.prog Zpk ⟨[.pointer (some ⟨cb,0,none⟩)]⟩ H fun v H'=>v= .tuple ⟨[]⟩∧∃due',CIn H0 F0 H' cb { c with st:=9 } now due' l:=by refine Zcgg cb ?_;unfold Zbmf;obtain ⟨p,ga,gc,xs,h,rfl⟩:=h;have ok:=h.rep.ok;refine ⟨_,cellL h.rep.blk 10 rfl,stL h.rep.blk (by simp [cnL]) rfl fun H1 b1 k1=>stL b1 (by simp [cnL]) rfl fun H2 b2 k2=>fun H3 hs=>⟨rfl,_,p,ga,gc,xs,(h.put (c':={ c with st:=9 }) (k1.trans k2) b2 ⟨Nat.le_refl 9,ok.first,ok.una,ok.len,ok.sent,ok.win,ok.big,ok.tries,ok.inn,fun _=>hi,ok.got⟩ rfl rfl h.rep.le).shut (S:=F0) h.keep hs,rfl⟩⟩
theorem Zbum {gn:Nat} (h:CRep H cb p c now due ga gn gc):FnW Tryz.prog Zxq ⟨[.pointer (some ⟨cb,0,none⟩)]⟩ H fun v H'=>(∃b,v= .bool b)∧H'=H:=by
  refine Zcic cb ?_;unfold Zboa;have fin: ∀(b:Bool) H2,Shut H H H2->(∃b',Value.bool b= .bool b')∧H2=H:=fun b H2 hs=>⟨⟨_,rfl⟩,(Zf hs).symm⟩;have j2: ∀x,Zsy cb x H fun v H1=>∀H2,Shut H H1 H2->(∃b,v= .bool b)∧H2=H:=by intro x;unfold Zsy;refine IfB.intro (fun _=>fin _) fun _=>⟨_,cellL h.blk 4 rfl,(Zbgw h.out).mono ?_⟩;rintro _ _ ⟨rfl,e⟩;rw [e];exact ⟨_,rfl,fin _⟩
  have j1: ∀x,Zsx cb x H fun v H1=>∀H2,Shut H H1 H2->(∃b,v= .bool b)∧H2=H:=by intro x;unfold Zsx;refine IfB.intro (fun _=>fin _) fun _=>⟨_,cellL h.blk 4 rfl,(Zbxn h.out).mono ?_⟩;rintro _ _ ⟨rfl,e⟩;rw [e];refine ⟨_,rfl,IfB.intro (fun _=>⟨_,cellL h.blk 4 rfl,(Zbgx h.out).mono ?_⟩) fun _=>j2 _⟩;rintro _ _ ⟨rfl,e⟩;rw [e];exact ⟨_,rfl,j2 _⟩
  have j0: ∀x,Zsw cb x H fun v H1=>∀H2,Shut H H1 H2->(∃b,v= .bool b)∧H2=H:=by intro x;unfold Zsw;exact IfB.intro (fun _=>fin _) fun _=>⟨_,cellL h.blk 7 rfl,IfB.intro (fun _=>⟨_,cellL h.blk 8 rfl,j1 _⟩) fun _=>j1 _⟩
  exact ⟨_,cellL h.blk 0 rfl,IfB.intro (fun _=>j0 _) fun _=>⟨_,cellL h.blk 0 rfl,j0 _⟩⟩
structure Left (H0:Heap) (F0:Nat->Prop) (H:Heap) (cb:Nat) (c:Cn) (now:Int) (v:Value) (l:List Sg):Prop where
  ex: ∃p now' due ga gc xs,v= .slice ga xs.length gc∧xs.map (·.1)=l∧now' <= now∧CRep H cb p c now' due none 0 0∧(c.st=0->due= -1)∧Keep F0 H0 H∧(∀y,p.F cb y->F0 y∨H0 y=none)∧Outs H0 H (p.F cb) ga gc xs
theorem Zbuj (h:CIn H0 F0 H cb c now due l):FnW Tryz.prog Zjr ⟨[.pointer (some ⟨cb,0,none⟩)]⟩ H fun v H'=>Left H0 F0 H' cb c now v l:=by
  refine Zcib cb ?_;unfold Zbnz;have h0:=h;obtain ⟨p,ga,gc,xs,h,rfl⟩:=h;have j0: ∀(H1:Heap) (due':Int),(c.st=0->due'= -1)->CX H0 F0 H1 cb p ga gc c now due' xs->Zkw cb H1 fun v H1=>∀H2,Shut H H1 H2->Left H0 F0 H2 cb c now v (xs.map (·.1)):=by
    intro H1 due' hd h1;unfold Zkw;refine ⟨_,_,_,cellL h1.rep.blk 12 rfl,stL h1.rep.blk (by simp [cnL]) rfl fun H2 b2 k2=>fun H3 hs=>⟨p,now,due',ga,gc,xs,rfl,rfl,Int.le_refl _,?_,hd,?_,h.sub,?_⟩⟩
    exact (h1.rep.put k2 b2 h1.rep.ok rfl rfl h1.rep.le).shut hs;exact Zbay h.keep (h1.kcb k2) hs;exact (h1.outs.step k2 (fun y hy=> .inl (.inl hy)) fun y h=> .inl h).shut hs
  have j1: ∀x,(x=false->c.st≠0)->Zsv cb x H fun v H1=>∀H2,Shut H H1 H2->Left H0 F0 H2 cb c now v (xs.map (·.1)):=by
    intro x hx;unfold Zsv;refine IfB.intro (fun _=>stL h.rep.blk (by simp [cnL]) rfl fun H1 b1 k1=>j0 H1 (-1) (fun _=>rfl) (h.dueT k1 b1)) fun e=>?_
    refine ⟨_,cellL h.rep.blk 11 rfl,IfB.intro (fun _=>?_) fun _=>j0 H due (fun z=>absurd z (hx e)) h⟩;obtain ⟨kp1,kp2⟩:=Zcq h.rep.blk.some;refine ⟨[cb],kp1,List.mem_singleton.2 rfl,_,cellL h.rep.blk 10 rfl,_,cellL h.rep.blk 4 rfl,(Zbxm h.rep.out).mono ?_⟩;rintro _ _ ⟨⟨n,rfl⟩,e2⟩;rw [e2];exact ⟨_,rfl,kp2,stL h.rep.blk (by simp [cnL]) rfl fun H1 b1 k1=>j0 H1 _ (fun z=>absurd z (hx e)) (h.dueT k1 b1)⟩
  refine ⟨_,cellL h.rep.blk 0 rfl,IfB.intro (fun e=>j0 H due (fun z=>?_) h) fun e=>⟨_,cellL h.rep.blk 0 rfl,IfB.intro (fun e2=>j1 true fun z=>by cases z) fun e2=>(Zbum h.rep).mono ?_⟩⟩
  rw [z] at e;cases e;rintro _ _ ⟨⟨b,rfl⟩,e3⟩;rw [e3];refine ⟨_,rfl,j1 _ fun _ z=>?_⟩;rw [z] at e2;cases e2
theorem Zbvc {u:Value} {d:List Int} (h:CX H0 F0 H cb p ga gc c now due xs) (hk:Keep F0 H0 H) (hF: ∀y,p.F cb y->H y≠none) (f:Zfw H H' u d): ∃a cap,u= .slice a d.length cap∧∀s:Sg,s.data=d->s.seq<4294967296->s.ack<4294967296->SegD H0 H' (p.F cb) (s,a,cap):=by obtain ⟨a,cap,rfl,o⟩:=f;refine ⟨a,cap,rfl,fun s hs h1 h2=>⟨h1,h2,?_,fun x hx=>?_⟩⟩;show Reads H' a s.data.length (bv s.data);rw [hs];have:=o.reads;rwa [Nat.mul_one] at this;have hx:a=some x:=hx;rcases o.2.2 with ⟨e,_⟩ | ⟨m,rest,e,h0,hB,_⟩;rw [e] at hx;cases hx;rw [e] at hx;cases hx;exact ⟨hk.free h0,fun hy=>hF m hy h0,_,hB⟩
theorem Zcar {f:Nat} {c:Cn} (h:c.may≠0):Cn.sends (f+1) c=(c.piece c.may::(Cn.sends f { c with sent:=c.sent+c.may }).1,(Cn.sends f { c with sent:=c.sent+c.may }).2):=by
  show (if c.may=0 then _ else _)=_
  rw [if_neg h]
theorem Zcas {f:Nat} {c:Cn} (h:c.may=0):Cn.sends f c=([],c):=by
  cases f with
  | zero=>rfl
  | succ f=>
    show (if c.may=0 then _ else _)=_
    rw [if_pos h]
theorem Zbef (h:CIn H0 F0 H cb c now due l) (hl:l.length <= 1000):FnW Tryz.prog Zpn ⟨[.pointer (some ⟨cb,0,none⟩)]⟩ H fun v H'=>v= .tuple ⟨[]⟩∧CIn H0 F0 H' cb c.flush.2 now due (l++c.flush.1):=by
  refine Zchk cb ?_;unfold Zbnk;have h00:=h;have hok:c.Ok:=by obtain ⟨p,ga,gc,xs,h,e⟩:=h;exact h.rep.ok
  have hst: ∃due p,∃ga gn gc,CRep H cb p c now due ga gn gc:=by obtain ⟨p,ga,gc,xs,h,e⟩:=h;exact ⟨_,_,_,_,_,h.rep⟩
  have hlen:=hok.len;have hsent:=hok.sent;have loop:(c.st=3∨c.st=4∨c.st=6∨c.st=7∨c.st=8)->Zbbv cb H fun v H1=>∀H2,Shut H H1 H2->v= .tuple ⟨[]⟩∧CIn H0 F0 H2 cb c.flush.2 now due (l++c.flush.1):=by
    intro hc;have hfl:c.flush=((c.sends 4097).1++(c.sends 4097).2.byes.1,(c.sends 4097).2.byes.2):=by unfold Cn.flush;rw [if_pos hc]
    rw [hfl];unfold Zbbv;refine Zbo (fun k _ H1=>∃(c1:Cn) (l1:List Sg),CIn H0 F0 H1 cb c1 now due (l++l1)∧c1.data=c.data∧c1.data.length - c1.sent<k∧l1.length+k <= 4097∧(c.sends 4097).1=l1++(c1.sends k).1∧(c.sends 4097).2=(c1.sends k).2) 4097 ⟨c,[],by rw [List.append_nil];exact h00,rfl,by omega,Nat.le_refl _,rfl,rfl⟩ ?_
    rintro k _ H1 ⟨c1,l1,h1,hd,hk,hlk,e1,e2⟩ g;have h10:=h1;obtain ⟨p,ga,gc,xs,h1,ex⟩:=h1;have ok1:=h1.rep.ok;unfold Zbnj;refine ⟨_,cellL h1.rep.blk 4 rfl,_,cellL h1.rep.blk 10 rfl,(Zbxk h1.rep.out h1.rep.le).mono ?_⟩;have hmay:Zel c1.ob=c1.may:=rfl;rintro _ H2 (⟨h0,rfl,ho,s2⟩ | ⟨h0,u,rfl,fu,ho,s2⟩)
    . refine ⟨_,_,_,_,_,rfl,ifT rfl ?_⟩;have h2:=h1.outT (c':=c1) ho s2 ok1 (Int.le_refl _) (fun _=>rfl) rfl;have hm:c1.may=0:=h0;rw [Zcas hm] at e1 e2;simp only [List.append_nil] at e1;rw [e1,e2];have h20:CIn H0 F0 H2 cb c1 now due (l++l1):=⟨_,ga,gc,xs,h2,ex⟩;obtain ⟨kp1,kp2⟩:=Zcq h2.rep.blk.some;have no:c1.byes=([],c1)->∀H3,Shut H H2 H3->Value.tuple ⟨[]⟩=Value.tuple ⟨[]⟩∧CIn H0 F0 H3 cb c1.byes.2 now due (l++(l1++c1.byes.1)):=fun e H3 hs=>by rw [e];refine ⟨rfl,?_⟩;have:=h20.shut h00.keep hs;simpa using this
      refine ⟨[cb],kp1,_,cellL h2.rep.blk 6 rfl,IfB.intro (fun es=>⟨_,cellL h2.rep.blk 7 rfl,IfB.intro (fun eb=>⟨_,cellL h2.rep.blk 4 rfl,List.mem_singleton.2 rfl,_,cellL h2.rep.blk 4 rfl,(Zbgw h2.rep.out).mono ?_⟩) fun eb=>?_⟩) fun es=>?_⟩
      . rintro _ _ ⟨rfl,e⟩;rw [e];refine ⟨_,rfl,kp2,(Zbgx h2.rep.out).mono ?_⟩;rintro _ _ ⟨rfl,e⟩;rw [e];refine ⟨_,rfl,?_⟩;unfold Zkv;have hsh:c1.shut=true:=es
        have hby:c1.bye=false:=by cases hb:c1.bye with
          | false=>rfl
          | true=>rw [hb] at eb;cases eb
        refine IfB.intro (fun eq=>(Zbui h20 (by rw [List.length_append];omega)).mono ?_) fun eq=>no ?_
        . have eq:(c1.sent:Int)=(c1.data.length:Int):=eq_of_beq eq;rintro _ H3 ⟨rfl,p3,ga3,gc3,xs3,h3,ex3⟩;have hby2:c1.byes=([c1.fin],{ c1 with bye:=true }):=by unfold Cn.byes;rw [hsh,hby,if_pos (by simp;omega)]
          have ok3:=h3.rep.ok;refine ⟨rfl,stL h3.rep.blk (by simp [cnL]) rfl fun H4 b4 k4=>fun H5 hs=>⟨rfl,?_⟩⟩
          rw [hby2];refine CIn.shut ⟨p3,ga3,gc3,xs3,h3.put (c':={ c1 with bye:=true }) k4 b4 ⟨ok3.st,ok3.first,ok3.una,ok3.len,ok3.sent,ok3.win,ok3.big,ok3.tries,ok3.inn,ok3.some,ok3.got⟩ rfl rfl h3.rep.le,?_⟩ h00.keep hs
          rw [ex3];simp
        . have eq: ¬(c1.sent:Int)=(c1.data.length:Int):=fun e=>(by have:=beq_iff_eq.2 e;rw [show (((c1.ob.sent:Nat):Int)==((c1.ob.data.length:Nat):Int))=true from this] at eq;cases eq)
          unfold Cn.byes;rw [if_neg];simp;intro _ _;omega
      . unfold Zkv
        have hby:c1.bye=true:=by cases hb:c1.bye with
          | true=>rfl
          | false=>rw [hb] at eb;cases eb
        exact ifF rfl (no (by unfold Cn.byes;rw [hby];simp))
      unfold Zkv;have hsh:c1.shut=false:=es;exact ifF rfl (no (by unfold Cn.byes;rw [hsh];simp))
    . have hm:c1.may≠0:=by rw [← hmay];omega
      have hml:=Cn.may_le c1 ok1.sent;obtain ⟨a,cap,rfl,hseg⟩:=Zbvc h1 h1.keep (fun y hy=>h1.rep.live hy) fu;refine ⟨_,_,_,_,_,rfl,ifF rfl ?_⟩;have hs2:c1.sent+c1.may <= c1.data.length:=hml;have h2:=h1.outT (c':={ c1 with sent:=c1.sent+c1.may }) ho s2 (Zcat ok1 hs2) (Int.le_refl _) (fun _=>rfl) rfl
      have hpl:((c1.data.drop c1.sent).take c1.may).length=(List.take (Zel c1.ob) (List.drop c1.ob.sent c1.ob.data)).length:=rfl;obtain ⟨k',rfl⟩: ∃k',k=k'+1:=⟨k - 1,by omega⟩
      rw [Zcar hm] at e1 e2;simp only at e1 e2;refine (Zvq h2 (d:=(c1.data.drop c1.sent).take c1.may) (show c1.onext<4294967296 from Zbb _ _) hpl ?_ ?_).mono ?_
      exact hseg _ rfl (show c1.onext<4294967296 from Zbb _ _) (Zna h1.rep.inn)
      have:=congrArg List.length ex;simp at this;omega
      . rintro _ H3 ⟨gb,gc',rfl,h3⟩;refine ⟨_,rfl,k',by omega,_,l1++[c1.piece c1.may],⟨_,_,gc',_,h3,?_⟩,hd,?_,by simp;omega,by rw [e1];simp,e2⟩
        rw [List.map_append,ex];simp;rfl;show c1.data.length - (c1.sent+c1.may)<k';omega
  obtain ⟨_,_,_,_,_,hr⟩:=hst;have none_: ¬(c.st=3∨c.st=4∨c.st=6∨c.st=7∨c.st=8)->∀H2,Shut H H H2->Value.tuple ⟨[]⟩=Value.tuple ⟨[]⟩∧CIn H0 F0 H2 cb c.flush.2 now due (l++c.flush.1):=fun hc H2 hs=>by
    have:c.flush=([],c):=by unfold Cn.flush;rw [if_neg hc]
    rw [this,List.append_nil];exact ⟨rfl,h00.shut h00.keep hs⟩
  refine ⟨_,cellL hr.blk 0 rfl,?_⟩;unfold Zku;refine IfB.intro (fun e=>ifT e (loop (by have:(c.st:Int)=3:=(by simpa using e);omega))) fun e3=>IfB.intro (fun e=>ifT e (loop (by have:(c.st:Int)=4:=(by simpa using e);omega))) fun e4=>IfB.intro (fun e=>ifT e (loop (by have:(c.st:Int)=6:=(by simpa using e);omega))) fun e6=>IfB.intro (fun e=>ifT e (loop (by have:(c.st:Int)=7:=(by simpa using e);omega))) fun e7=>IfB.intro (fun e=>loop (by have:(c.st:Int)=8:=(by simpa using e);omega)) fun e8=>none_ ?_
  have a3: ¬(c.st:Int)=3:=by simpa using e3
  have a4: ¬(c.st:Int)=4:=by simpa using e4
  have a6: ¬(c.st:Int)=6:=by simpa using e6
  have a7: ¬(c.st:Int)=7:=by simpa using e7
  have a8: ¬(c.st:Int)=8:=by simpa using e8
  omega
end
end Go.Proofs.YtaljkjokbdpdoaaGreat
end
section
set_option maxRecDepth 100000
namespace Go.Proofs.YtaljkjokbdpdoaaGreat
open Go.Sh Go.Pc Go.Conn
structure CAt (H:Heap) (cb:Nat) (F:Nat->Prop) (c:Cn) (t:Int):Prop where
  ex: ∃p now due,CRep H cb p c now due none 0 0∧now <= t∧(c.st=0->due= -1)∧p.F cb=F
section
variable {H0 H H':Heap} {F0 F:Nat->Prop} {cb gc:Nat} {p:CP} {c:Cn} {now due t:Int} {ga:Option Addr} {xs:List (Sg×Option Addr×Nat)} {l:List Sg}
theorem CRep.cx (h:CRep H cb p c now due none 0 0):CX H (p.F cb) H cb p none 0 c now due []:=⟨h,Keep.refl _ _,fun y hy=> .inl hy,Outs.nil⟩
theorem CX.cin (h:CX H0 F0 H cb p ga gc c now due []):CIn H0 F0 H cb c now due []:=⟨p,ga,gc,[],h,rfl⟩
theorem CX.at_ (h:CX H0 F0 H cb p ga gc c now due xs) (ht:now <= t) {K:Heap->Prop} (hk: ∀H',CX H0 F0 H' cb p ga gc c t due xs->K H'):Za H ⟨cb,10,none⟩ (.int .i64 t) K:=
  stL h.rep.blk (by simp [cnL]) rfl fun H1 b1 k1=>hk H1 (h.put k1 b1 h.rep.ok rfl rfl (Int.le_trans h.rep.le ht))
theorem Left.same (h:CRep H cb p c now due none 0 0) (ht:now <= t) (hd:c.st=0->due= -1) {H1:Heap} (k:Keep Nil H H1):Left H (p.F cb) H1 cb c t (.slice none 0 0) []:=
  ⟨p,now,due,none,0,[],rfl,rfl,ht,h.keep k fun _ _ h=>h,hd,k.mono fun _ h=>h.elim,fun y hy=> .inl hy,Outs.nil⟩
theorem Left.shut {H1:Heap} {v:Value} (h:Left H0 F0 H cb c t v l) (k1:Keep F0 H0 H1) (hs:Shut H1 H H'):Left H0 F0 H' cb c t v l:=by obtain ⟨p,now',due,ga,gc,xs,h1,h2,h3,h4,h5,h6,h7,h8⟩:=h.ex;exact ⟨p,now',due,ga,gc,xs,h1,h2,h3,h4.shut hs,h5,Zbay k1 h6 hs,h7,h8.shut hs⟩
theorem Left.mono {t':Int} {v:Value} (h:Left H0 F0 H cb c t v l) (ht:t <= t'):Left H0 F0 H cb c t' v l:=by obtain ⟨p,now',due,ga,gc,xs,h1,h2,h3,h4⟩:=h.ex;exact ⟨p,now',due,ga,gc,xs,h1,h2,Int.le_trans h3 ht,h4⟩
theorem Zcbf {v:Value} (h:Left H0 F0 H cb c t v l): ∃a n cp,v= .slice a n cp:=by obtain ⟨p,now',due,ga,gc,xs,h1,_⟩:=h.ex;exact ⟨_,_,_,h1⟩
end
end Go.Proofs.YtaljkjokbdpdoaaGreat
end
section
set_option maxRecDepth 100000
namespace Go.Proofs.YtaljkjokbdpdoaaGreat
open Go.Sh Go.Pc Go.Conn
section
variable {H0 H H':Heap} {F0 F:Nat->Prop} {cb gc:Nat} {p:CP} {c:Cn} {now due t:Int} {ga:Option Addr} {xs:List (Sg×Option Addr×Nat)} {l:List Sg}
theorem Zvt {R:Value->Heap->Prop} (h:CIn H F H' cb c now due l) (hn:now <= t) (hk: ∀a n cp H2,Left H F H2 cb c t (.slice a n cp) l->R (.slice a n cp) H2):FnW Tryz.prog Zjr ⟨[.pointer (some ⟨cb,0,none⟩)]⟩ H' R:=by refine (Zbuj h).mono ?_;rintro v H2 h2;obtain ⟨a,n,cp,rfl⟩:=Zcbf h2;exact hk a n cp H2 (h2.mono hn)
end
end Go.Proofs.YtaljkjokbdpdoaaGreat
end
section
set_option maxRecDepth 100000
namespace Go.Proofs.YtaljkjokbdpdoaaGreat
open Go.Sh Go.Pc Go.Conn
structure SgArg (H:Heap) (F:Nat->Prop) (s:Sg) (a:Option Addr) (n:Nat):Prop where
  seq:s.seq<4294967296
  ack:s.ack<4294967296
  rd:Reads H a n (bv s.data)
  live: ∀x,a=some x->H x.block≠none∧¬F x.block
section
variable {H0 H H':Heap} {F0 F F1:Nat->Prop} {cb gc:Nat} {p:CP} {c:Cn} {now due t:Int} {ga:Option Addr} {xs:List (Sg×Option Addr×Nat)} {l:List Sg} {s:Sg} {a:Option Addr} {n cp:Nat}
theorem SgArg.len (h:SgArg H F s a n):s.data.length=n:=by have:=h.rd.len;simpa using this
theorem SgArg.step {S:Nat->Prop} (h:SgArg H F s a n) (k:Keep S H H') (hs: ∀y,S y->F y∨H y=none) (hf: ∀y,F1 y->F y∨H y=none):SgArg H' F1 s a n:=by
  have key: ∀x,a=some x->∀G:Nat->Prop,(∀y,G y->F y∨H y=none)->¬G x.block:=fun x hx G hG hg=>by rcases hG _ hg with e | e;exact (h.live x hx).2 e;exact (h.live x hx).1 e
  exact ⟨h.seq,h.ack,h.rd.keep k fun x hx=>key x hx S hs,fun x hx=>⟨k.live _ (h.live x hx).1,key x hx F1 hf⟩⟩
theorem CIn.base (h:CIn H0 F0 H cb c now due []): ∃p,CRep H cb p c now due none 0 0∧Keep F0 H0 H∧∀y,p.F cb y->F0 y∨H0 y=none:=by obtain ⟨p,ga,gc,xs,h,e⟩:=h;have:xs= []:=List.map_eq_nil_iff.1 e;subst this;obtain ⟨rfl,rfl⟩:=h.outs.non rfl;exact ⟨p,h.rep,h.keep,h.sub⟩
theorem CIn.rebase {H1:Heap} (h:CIn H1 F1 H cb c now due l) (k:Keep F0 H0 H1) (hs: ∀y,F1 y->F0 y∨H0 y=none):CIn H0 F0 H cb c now due l:=by obtain ⟨p,ga,gc,xs,h,e⟩:=h;refine ⟨p,ga,gc,xs,⟨h.rep,k.then h.keep hs,fun y hy=>?_,h.outs.own.mono k,h.outs.far,fun x hx=>?_,h.outs.non⟩,e⟩;rcases h.sub y hy with e | e;exact hs y e;exact .inr (k.free e);have hd:=h.outs.all x hx;exact ⟨hd.seq,hd.ack,hd.rd,fun a ha=>by obtain ⟨q1,q2⟩:=hd.new a ha;exact ⟨k.free q1,q2⟩⟩
theorem Zbea (h:s.can=true): ∃w:Nat,s.win=w∧w <= 65535∧s.win.toNat=w:=by unfold Sg.can Sg.fits i16 at h;simp only [Bool.and_eq_true,decide_eq_true_eq] at h;exact ⟨s.win.toNat,by omega,by omega,rfl⟩
theorem Zoh (h:s.can=true):0 <= s.flags∧s.flags<64:=by unfold Sg.can at h;simp only [Bool.and_eq_true] at h;exact Sg.fits_flags h.1
theorem Zbdx (h:s.can=true):0 <= s.big:=by unfold Sg.can Sg.fits i16 at h;simp only [Bool.and_eq_true,decide_eq_true_eq] at h;omega
theorem Zvl (h:s.can=true):s.data.length <= 65495:=by unfold Sg.can at h;simp only [Bool.and_eq_true,decide_eq_true_eq] at h;exact h.2
theorem Zbwz {d:Cn} (h:c.Ok) (ho:d.ob.Ok) (h1:d.st=c.st) (h2:d.first=c.first) (h3:d.inn=c.inn) (h4:d.got=c.got):d.Ok:=
  ⟨h1▸h.st,h2▸h.first,ho.una,ho.len,ho.sent,ho.win,ho.big,ho.tries,fun j hj=>h.inn j (h3▸hj),fun x=>by rw [h3];exact h.some (h1▸x),fun x=>by rw [h3];exact h.got (h4▸x)⟩
noncomputable def Cn.sureN (c:Cn) (n w:Nat):Cn:={ c with win:=w,una:=addN c.una n,data:=c.data.drop n,sent:=c.sent - n,tries:=if n=0 then c.tries else 0 }
theorem Zbdf {k w:Nat} (h:c.sent<wayN c.una k):c.ackd k w=none:=by unfold Cn.ackd;simp only;rw [if_pos h]
theorem Zoa {k w:Nat} (h:wayN c.una k <= c.sent):c.ackd k w=some (wayN c.una k,Cn.sureN c (wayN c.una k) w):=by unfold Cn.ackd;simp only;rw [if_neg (by omega)];rfl
theorem CX.ackT {k w:Nat} (h:CX H0 F0 H cb p ga gc c now due xs) (hk:k<4294967296) (hw:w <= 65535) {R:Value->Heap->Prop}
    (h1:c.sent<wayN c.una k->R (.tuple ⟨[.int .i64 0,.int .i64 2]⟩) H)
    (h2: ∀H' p',wayN c.una k <= c.sent->p'.ob=p.ob->p'.eb=p.eb->CX H0 F0 H' cb p' ga gc (Cn.sureN c (wayN c.una k) w) now due xs->Zv H H' p.ob p.eb p.da p'.da->R (.tuple ⟨[.int .i64 (wayN c.una k),.int .i64 0]⟩) H'):
    FnW Tryz.prog Zju ⟨[.pointer (some ⟨p.ob,0,none⟩),.int .i64 now,.int .u32 k,.int .i64 w]⟩ H R:=by
  refine (Zbxi h.rep.out h.rep.le hk hw).mono ?_;rintro _ H' (⟨hlt,rfl,e⟩ | ⟨hle,rfl,da',dc',ho,s⟩);rw [e];exact h1 hlt;exact h2 H' { p with da:=da',dc:=dc',onow:=now } hle rfl rfl (h.outT (c':=Cn.sureN c (wayN c.una k) w) ho s (Zbwz h.rep.ok ho.ok rfl rfl rfl rfl) (Int.le_refl _) (fun _=>rfl) rfl) s
theorem Zbjl (h:CRep H cb p c now due none 0 0) (hi:c.inn≠none) (hs:SgArg H (p.F cb) s a n) (hc:s.can=true):FnW Tryz.prog Zpe ⟨[.pointer (some ⟨cb,0,none⟩),.agg ⟨sgL s a n cp⟩]⟩ H fun v H'=>v= .tuple ⟨[]⟩∧∃due',CIn H (p.F cb) H' cb (c.welcome s) now due' []:=by
  refine Zcfr cb _ _ _ _ _ _ _ _ a n cp ?_;unfold Zbly;refine newB fun q H1 hq b1 k1=>?_;have r1:=h.keep k1 fun _ _ h=>h;have hqF: ¬p.F cb q:=fun e=>h.live e hq;have ok:=h.ok;have ok3:({ c with st:=3 }:Cn).Ok:=⟨by show 3 <= 9;omega,ok.first,ok.una,ok.len,ok.sent,ok.win,ok.big,ok.tries,ok.inn,fun _=>hi,ok.got⟩
  refine stL r1.blk (by simp [cnL]) rfl fun H2 b2 k2=>?_
  have h2:CX H1 (p.F cb) H2 cb p none 0 { c with st:=3 } now due []:=r1.cx.put k2 b2 ok3 rfl rfl r1.le
  refine (Zvo h2.cin).mono ?_;rintro _ H3 ⟨rfl,h3⟩;obtain ⟨p3,r3,k3,s3⟩:=h3.base;have b3:Blk H3 q Zm ⟨sgL s a n cp⟩:=k3.blk b1 hqF;obtain ⟨w,hw1,hw2,hw3⟩:=Zbea hc;have hsub: ∀y,p3.F cb y->p.F cb y∨H y=none:=fun y hy=>(s3 y hy).imp id fun e=>k1.free e;have k03:Keep (p.F cb) H H3:=(k1.mono fun _ h=>h.elim).trans k3;refine ⟨rfl,_,cellL r3.blk 4 rfl,_,cellL r3.blk 10 rfl,_,cellL b3 3 rfl,_,cellL b3 5 rfl,?_⟩;rw [hw1];have ew:c.welcome s=pick (Cn.ackd { c with st:=3,tries:=0 } s.ack w) { c with st:=3,tries:=0 }:=by unfold Cn.welcome;rw [hw3]
  have hsF: ∀y,p.F cb y->p.F cb y∨H y=none:=fun y hy=> .inl hy;have k01:Keep (p.F cb) H H1:=k1.mono fun _ h=>h.elim;refine CX.ackT r3.cx hs.ack hw2 (fun hlt=>⟨_,_,rfl,fun H4 hsh=>⟨rfl, -1,?_⟩⟩) fun H4 p4 hle _ _ h4 s4=>⟨_,_,rfl,fun H5 hsh=>⟨rfl, -1,?_⟩⟩
  . rw [ew,Zbdf (show ({ c with st:=3,tries:=0 }:Cn).sent<wayN ({ c with st:=3,tries:=0 }:Cn).una s.ack from hlt)]
    exact (h3.rebase k01 hsF).shut (Keep.refl _ _) hsh
  . rw [ew,Zoa (show wayN ({ c with st:=3,tries:=0 }:Cn).una s.ack <= ({ c with st:=3,tries:=0 }:Cn).sent from hle)]
    exact (h4.cin.rebase k03 hsub).shut (Keep.refl _ _) hsh
theorem Zbuz (h:CIn H0 F0 H cb c now due l):FnW Tryz.prog Zxe ⟨[.pointer (some ⟨cb,0,none⟩)]⟩ H fun v H'=>v= .tuple ⟨[]⟩∧∃due',CIn H0 F0 H' cb c.finished now due' l:=by
  refine Zchc cb ?_;unfold Zbnb;have h00:=h;obtain ⟨p,ga,gc,xs,h,rfl⟩:=h;have ok:=h.rep.ok;refine ⟨_,cellL h.rep.blk 8 rfl,IfB.intro (fun e H2 hs=>⟨rfl,due,?_⟩) fun e=>stL h.rep.blk (by simp [cnL]) rfl fun H1 b1 k1=>⟨_,cellL b1 0 rfl,?_⟩⟩
  . have:c.finished=c:=by unfold Cn.finished;rw [if_pos e]
    rw [this];exact h00.shut h00.keep hs
  have ef:c.finished= { c with sure:=true,st:=if c.st=4 then 5 else if c.st=7 then 9 else if c.st=8 then 0 else c.st }:=by unfold Cn.finished;rw [if_neg (by rw [e];decide)]
  have ok1:({ c with sure:=true }:Cn).Ok:=⟨ok.st,ok.first,ok.una,ok.len,ok.sent,ok.win,ok.big,ok.tries,ok.inn,ok.some,ok.got⟩
  have h1:CX H0 F0 H1 cb p ga gc { c with sure:=true } now due xs:=h.put k1 b1 ok1 rfl rfl h.rep.le
  refine IfB.intro (fun e4=>?_) fun e4=>IfB.intro (fun e7=>?_) fun e7=>IfB.intro (fun e8=>?_) fun e8=>?_
  . have e4:(c.st:Int)=4:=eq_of_beq e4;rw [ef,if_pos (by omega)]
    refine stL h1.rep.blk (by simp [cnL]) rfl fun H2 b2 k2=>fun H3 hs=>⟨rfl,due,p,ga,gc,xs,CX.shut (S:=F0) (h1.put (c':={ c with sure:=true,st:=5 }) k2 b2 ⟨by show 5 <= 9;omega,ok.first,ok.una,ok.len,ok.sent,ok.win,ok.big,ok.tries,ok.inn,fun _=>ok.some (by omega),ok.got⟩ rfl rfl h1.rep.le) h00.keep hs,rfl⟩
  . have n4: ¬c.st=4:=fun e=>by rw [e] at e4;cases e4
    have e7:(c.st:Int)=7:=eq_of_beq e7;rw [ef,if_neg n4,if_pos (by omega)]
    refine (Zbej ⟨p,ga,gc,xs,h1,rfl⟩ (ok.some (by omega))).mono ?_
    rintro _ H2 ⟨rfl,d2,h2⟩;exact ⟨rfl,fun H3 hs=>⟨rfl,d2,h2.shut h00.keep hs⟩⟩
  . have n4: ¬c.st=4:=fun e=>by rw [e] at e4;cases e4
    have n7: ¬c.st=7:=fun e=>by rw [e] at e7;cases e7
    have e8:(c.st:Int)=8:=eq_of_beq e8;rw [ef,if_neg n4,if_neg n7,if_pos (by omega)]
    refine (Zbee ⟨p,ga,gc,xs,h1,rfl⟩).mono ?_;rintro _ H2 ⟨rfl,h2⟩;exact ⟨rfl,fun H3 hs=>⟨rfl,due,h2.shut h00.keep hs⟩⟩
  . have n4: ¬c.st=4:=fun e=>by rw [e] at e4;cases e4
    have n7: ¬c.st=7:=fun e=>by rw [e] at e7;cases e7
    have n8: ¬c.st=8:=fun e=>by rw [e] at e8;cases e8
    rw [ef,if_neg n4,if_neg n7,if_neg n8];exact fun H2 hs=>⟨rfl,due,CIn.shut ⟨p,ga,gc,xs,h1,rfl⟩ h00.keep hs⟩
theorem Zbsu {x y:Nat} (hx:x<4294967296) (hy:y<4294967296):FnW Tryz.prog Zxf ⟨[.int .u32 x,.int .u32 y]⟩ H fun v H'=>v= .bool (Zlg x y)∧H'=H:=by refine Zchd x y ?_;unfold Zbnc;refine (Ziq hx hy).mono ?_;rintro _ _ ⟨rfl,e⟩;rw [e];refine ⟨_,rfl,fun H2 hs=>⟨?_,(Zf hs).symm⟩⟩;have hl:=Znc x y;unfold Zlg;rw [w32];congr 1;rw [← Bool.decide_and];exact decide_eq_decide.2 (by omega)
theorem Zccz (h:c.Ok):wayN c.una c.onext=c.sent:=by have:=h.una;have:=h.sent;have:=h.len;unfold Cn.onext;rw [Zfq,Zde];omega
theorem Zbsq (h:CRep H cb p c now due none 0 0) (hs:SgArg H (p.F cb) s a n) (hc:s.can=true):FnW Tryz.prog Zwh ⟨[.pointer (some ⟨cb,0,none⟩),.agg ⟨sgL s a n cp⟩]⟩ H fun v H'=>v= .bool (c.acknowledged s).1∧∃due',CIn H (p.F cb) H' cb (c.acknowledged s).2 now due' []:=by
  refine Zcev cb _ _ _ _ _ _ _ _ a n cp ?_;unfold Zblh;obtain ⟨w,hw1,hw2,hw3⟩:=Zbea hc;refine newB fun q H1 hq b1 k1=>?_;have r1:=h.keep k1 fun _ _ h=>h;have hqF: ¬p.F cb q:=fun e=>h.live e hq;have ok:=h.ok;have hsF: ∀y,p.F cb y->p.F cb y∨H y=none:=fun y hy=> .inl hy;have k01:Keep (p.F cb) H H1:=k1.mono fun _ h=>h.elim;have sret: ∀{H2:Heap} {d:Cn} {due':Int},CIn H1 (p.F cb) H2 cb d now due' []->∀{H3:Heap},Shut H H2 H3->CIn H (p.F cb) H3 cb d now due' []:=fun h2 H3 hsh=>(h2.rebase k01 hsF).shut (Keep.refl _ _) hsh;have j0: ∀(H2:Heap) (d:Cn) (due':Int),CIn H1 (p.F cb) H2 cb d now due' []->c.acknowledged s=(true,d.quiet s)->Znd cb q H2 fun v H1=>∀H2,Shut H H1 H2->v= .bool (c.acknowledged s).1∧∃due',CIn H (p.F cb) H2 cb (c.acknowledged s).2 now due' []:=by
    intro H2 d due' h2 e;rw [e];have h20:=h2;obtain ⟨p2,r2,k2,s2⟩:=h2.base;have b2:Blk H2 q Zm ⟨sgL s a n cp⟩:=k2.blk b1 hqF;unfold Znd;refine ⟨_,cellL b2 5 rfl,?_⟩;unfold Zblg Cn.quiet;obtain ⟨on,unt,frm,hu,hob⟩:=r2.out.blk;refine IfB.intro (fun e0=>⟨_,cellL r2.blk 4 rfl,NilP.intro _ rfl ⟨_,cellL hob 0 rfl,(Zvw r2.out.est).mono ?_⟩⟩) fun e0=>fun H3 hsh=>⟨rfl,due',?_⟩;have e0:s.win=0:=eq_of_beq e0;rw [if_pos e0];rintro _ H3 ⟨rfl,e3,k3⟩;refine ⟨rfl,fun H4 hsh=>⟨rfl,due',?_⟩⟩;exact sret ((r2.cx.good (n:=0) (by omega) e3 k3).cin.rebase k2 s2) hsh
    . have e0: ¬s.win=0:=fun e=>by rw [e] at e0;cases e0
      rw [if_neg e0];exact sret h20 hsh
  refine ⟨_,cellL r1.blk 4 rfl,_,cellL r1.blk 10 rfl,_,cellL b1 3 rfl,_,cellL b1 5 rfl,?_⟩;rw [hw1];have eack:c.acknowledged s=ackG (c.ackd s.ack w) c s:=by unfold Cn.acknowledged;rw [hw3]
  refine CX.ackT r1.cx hs.ack hw2 (fun hlt=>⟨_,_,rfl,ifF rfl ?_⟩) fun H2 p2 hle _ _ h2 s2=>⟨_,_,rfl,ifT rfl (IfB.intro (fun hp=>?_) fun hp=>?_)⟩
  . rw [Zbdf hlt] at eack;obtain ⟨kp1,kp2⟩:=Zcq b1.some;have hbq: ∃ob,H1 q=some ob:=⟨_,b1⟩;have hbc: ∃ob,H1 cb=some ob:=⟨_,r1.blk⟩;refine ⟨[q,cb],fun y hy=>?_,_,cellL r1.blk 7 rfl,?_⟩;simp only [List.mem_cons,List.not_mem_nil,or_false] at hy;rcases hy with rfl | rfl;exact hbq;exact hbc;have kp: ∀H2:Heap,H2 q=H1 q->H2 cb=H1 cb->Zb [q,cb] H1 H2:=fun H2 e1 e2 y hy=>by simp only [List.mem_cons,List.not_mem_nil,or_false] at hy;rcases hy with rfl | rfl;exact ⟨hbq,e1⟩;exact ⟨hbc,e2⟩
    have mem: ∀y,y∈[q,cb]->∃ob,H1 y=some ob:=fun y hy=>by simp only [List.mem_cons,List.not_mem_nil,or_false] at hy;rcases hy with rfl | rfl;exact hbq;exact hbc
    have no:(c.bye&&decide (s.ack=c.last))=false->Zkt cb q false H1 fun v H1=>∀H2,Shut H H1 H2->v= .bool (c.acknowledged s).1∧∃due',CIn H (p.F cb) H2 cb (c.acknowledged s).2 now due' []:=by
      intro hb;have e:c.acknowledged s=(Zlg s.ack c.una,c):=by rw [eack];show (if (c.bye&&decide (s.ack=c.last))=true then _ else _)=_;rw [hb];rfl
      rw [e];unfold Zkt;refine ifF rfl ⟨[q,cb],mem,by simp,_,cellL b1 3 rfl,_,cellL r1.blk 4 rfl,(Zbxl r1.out).mono ?_⟩
      rintro _ _ ⟨rfl,e⟩;rw [e];refine ⟨_,rfl,kp _ rfl rfl,(Zbsu hs.ack ok.una).mono ?_⟩;rintro _ _ ⟨rfl,e⟩;rw [e];exact ⟨_,rfl,fun H2 hsh=>⟨rfl,due,sret r1.cx.cin hsh⟩⟩
    have yes:c.bye=true->s.ack=c.last->Zkt cb q true H1 fun v H1=>∀H2,Shut H H1 H2->v= .bool (c.acknowledged s).1∧∃due',CIn H (p.F cb) H2 cb (c.acknowledged s).2 now due' []:=by
      intro hb hl;have hon:c.onext<4294967296:=Zbb _ _;have e:c.acknowledged s=(true,((lastN (c.ackd c.onext w) c).finished).quiet s):=by
        rw [eack];show (if (c.bye&&decide (s.ack=c.last))=true then _ else _)=_
        rw [hb,decide_eq_true hl,hw3];rfl
      have hway:=Zccz ok;rw [Zoa (by omega),hway] at e
      unfold Zkt;refine ifT rfl ⟨[q,cb],mem,by simp,_,cellL r1.blk 4 rfl,by simp,_,cellL r1.blk 10 rfl,_,cellL r1.blk 4 rfl,by simp,_,cellL b1 5 rfl,(Zra r1.out).mono ?_⟩
      rintro _ _ ⟨rfl,e9⟩;rw [e9];clear e9;refine ⟨_,rfl,kp _ rfl rfl,?_⟩;rw [hw1];have hon2:c.ob.onext=c.onext:=rfl;rw [hon2];refine CX.ackT r1.cx hon hw2 (fun hlt=>absurd hlt (by omega)) fun H2 p2 hle ho _ h2 s2=>⟨_,_,rfl,kp _ ?_ ?_,?_⟩
      exact h2.keep.same q hqF b1.some;exact s2.1.same cb (Zrb r1.out r1.blk) r1.blk.some;rw [hway] at h2 ⊢;have j4: ∀(H3:Heap) (d:Cn) (due':Int),CIn H1 (p.F cb) H3 cb d now due' []->d=lastN (some (c.sent,Cn.sureN c c.sent w)) c->Zsd cb q H3 fun v H1=>∀H2,Shut H H1 H2->v= .bool (c.acknowledged s).1∧∃due',CIn H (p.F cb) H2 cb (c.acknowledged s).2 now due' []:=by intro H3 d due' h3 ed;unfold Zsd;refine (Zbuz h3).mono ?_;rintro _ H4 ⟨rfl,d4,h4⟩;exact ⟨rfl,j0 H4 d.finished d4 h4 (by rw [e,ed])⟩
      have j3: ∀x:Bool,(x=true↔0<c.sent∨c.sure=false)->Zsc cb q x H2 fun v H1=>∀H2,Shut H H1 H2->v= .bool (c.acknowledged s).1∧∃due',CIn H (p.F cb) H2 cb (c.acknowledged s).2 now due' []:=by
        intro x hx;unfold Zsc;refine IfB.intro (fun ex=>(Zvo h2.cin).mono ?_) fun ex=>j4 H2 _ due h2.cin ?_;rintro _ H3 ⟨rfl,h3⟩;exact ⟨rfl,j4 H3 _ _ h3 (by rw [show lastN (some (c.sent,Cn.sureN c c.sent w)) c=if 0<c.sent∨c.sure=false then (Cn.sureN c c.sent w).news else Cn.sureN c c.sent w from rfl,if_pos (hx.1 ex)])⟩
        rw [show lastN (some (c.sent,Cn.sureN c c.sent w)) c=if 0<c.sent∨c.sure=false then (Cn.sureN c c.sent w).news else Cn.sureN c c.sent w from rfl,if_neg fun z=>by rw [hx.2 z] at ex;cases ex]
      refine IfB.intro (fun hp=>j3 _ ⟨fun _=> .inl ?_,fun _=>rfl⟩) fun hp=>⟨_,cellL h2.rep.blk 8 rfl,j3 _ ⟨fun z=> .inr ?_,fun z=>?_⟩⟩;have hp:=of_decide_eq_true hp;omega
      . show c.sure=false;have z:(!c.sure)=true:=z;cases hsu:c.sure with
        | false=>rfl
        | true=>rw [hsu] at z;cases z
      have hp:=of_decide_eq_false hp;rcases z with z | z;omega;show (!c.sure)=true;rw [z];rfl
    refine IfB.intro (fun hb=>⟨by simp,_,cellL b1 3 rfl,(Zbeg r1).mono ?_⟩) fun hb=>no (by rw [show c.bye=false from hb];rfl)
    have hb:c.bye=true:=hb;rintro _ _ ⟨rfl,e⟩;rw [e];refine ⟨_,rfl,kp _ rfl rfl,?_⟩;by_cases hl:s.ack=c.last;rw [hl];have:(((c.last:Nat):Int)==((c.last:Nat):Int))=true:=beq_iff_eq.2 rfl;rw [this];exact yes hb hl
    . have:(((s.ack:Nat):Int)==((c.last:Nat):Int))=false:=by rw [beq_eq_false_iff_ne];omega
      rw [this];exact no (by rw [decide_eq_false hl,Bool.and_false])
  . have hp:=of_decide_eq_true hp;rw [Zoa hle] at eack;refine (Zvo h2.cin).mono ?_;rintro _ H3 ⟨rfl,h3⟩;have en:(Cn.sureN c (wayN c.una s.ack) w).news=Cn.sureN c (wayN c.una s.ack) w:=by unfold Cn.news Cn.sureN;rw [if_neg (by omega)]
    rw [en] at h3;exact ⟨rfl,j0 H3 _ _ h3 eack⟩
  rw [Zoa hle] at eack;exact j0 H2 _ _ h2.cin eack
end
end Go.Proofs.YtaljkjokbdpdoaaGreat
end
section
set_option maxRecDepth 100000
namespace Go.Proofs.YtaljkjokbdpdoaaGreat
open Go.Sh Go.Pc Go.Conn
section
variable {H0 H H':Heap} {F0 F F1:Nat->Prop} {cb gc:Nat} {p:CP} {c:Cn} {now due t:Int} {ga:Option Addr} {xs:List (Sg×Option Addr×Nat)} {l:List Sg} {s:Sg} {a:Option Addr} {n cp:Nat}
theorem Zbuo (h:CRep H cb p c now due none 0 0) (hs:SgArg H (p.F cb) s a n) (hc:s.can=true):FnW Tryz.prog Zxo ⟨[.pointer (some ⟨cb,0,none⟩),.agg ⟨sgL s a n cp⟩]⟩ H fun v H'=>v= .tuple ⟨[]⟩∧∃due',CIn H (p.F cb) H' cb (c.takes s) now due' []:=by
  refine Zchz cb _ _ _ _ _ _ _ _ a n cp ?_;unfold Zbnv;have ok:=h.ok;have hsF: ∀y,p.F cb y->p.F cb y∨H y=none:=fun y hy=> .inl hy;obtain ⟨hf0,hf1⟩:=Zoh hc;have hcl:=Zvl hc;refine newB fun q H1 hq b1 k1=>?_;have r1:=h.keep k1 fun _ _ h=>h;have k01:Keep (p.F cb) H H1:=k1.mono fun _ h=>h.elim;have hqF: ¬p.F cb q:=fun e=>h.live e hq;have sret: ∀{H2:Heap} {d:Cn} {due':Int},CIn H1 (p.F cb) H2 cb d now due' []->∀{H3:Heap},Shut H H2 H3->CIn H (p.F cb) H3 cb d now due' []:=fun h2 H3 hsh=>(h2.rebase k01 hsF).shut (Keep.refl _ _) hsh;have yes:(c.st=3∨c.st=4∨c.st=5)->Ziv cb q true H1 fun v H1=>∀H2,Shut H H1 H2->v= .tuple ⟨[]⟩∧∃due',CIn H (p.F cb) H2 cb (c.takes s) now due' []:=by
    intro hst;have hi:=r1.inn;cases hj:c.inn with
    | none=>exact absurd hj (ok.some (by omega))
    | some j=>
      cases hp:p.jp with
      | none=>rw [hp,hj] at hi;exact hi.elim
      | some jq=>
        rw [hp,hj] at hi;have hJ:JRep H1 jq.jb jq.rb jq.hb jq.ra jq.rc jq.first j:=hi;have eip:p.ip=some ⟨jq.jb,0,none⟩:=by unfold CP.ip;rw [hp];rfl
        have et:c.takes s=c.joined s (j.add s.seq s.data):=by
          unfold Cn.takes;rw [hj];show (if c.st=3∨c.st=4∨c.st=5 then _ else _)=_
          rw [if_pos hst]
        rw [et];unfold Ziv;refine ifT rfl ?_;unfold Zbnu;have hs1:SgArg H1 (p.F cb) s a n:=hs.step k1 (fun _ h=>h.elim) hsF;have hJF: ∀y,JFt jq.jb jq.rb jq.hb jq.ra y->p.F cb y:=fun y hy=> .inr (.inr (by rw [hp];exact hy))
        refine ⟨_,cellL r1.blk 5 rfl,_,cellL b1 2 rfl,_,_,_,cellL b1 8 rfl,?_⟩;rw [eip];refine (Zbvv hJ hs.seq hs1.rd (fun x hx hF=>(hs1.live x hx).2 (hJF _ hF)) (by have:=hs.len;omega)).mono ?_
        rintro _ H2 ⟨⟨u,e,rfl⟩,ra',rc',first',hJ2,s2⟩;generalize hk:j.add s.seq s.data=k at*;have ok2:({ c with inn:=some k }:Cn).Ok:=⟨ok.st,ok.first,ok.una,ok.len,ok.sent,ok.win,ok.big,ok.tries,fun j' hj'=>(by cases hj';exact hJ2.ok),fun _=>by simp,fun _=>by simp⟩
        have h2:=r1.cx.jnT (j:=j) (j':=k) (c':={ c with inn:=some k }) hp hJ2 s2 ok2 (fun _=>rfl) rfl rfl
        have b2:Blk H2 q Zm ⟨sgL s a n cp⟩:=h2.keep.blk b1 hqF;have hbc: ∃ob,H2 cb=some ob:=⟨_,h2.rep.blk⟩;refine ⟨_,_,rfl,[cb],fun y hy=>by rw [List.mem_singleton.1 hy];exact hbc,ld9 b2 ((Zdo hf0 hf1 (Zod hf0 hf1).1).mono ?_)⟩
        rintro _ H3 ⟨rfl,k3⟩;have h3:=h2.nil k3;have b3:=k3.blk b2 id;have kp3:Zb [cb] H2 H3:=fun y hy=>by rw [List.mem_singleton.1 hy];exact ⟨hbc,k3.same cb id h2.rep.blk.some⟩
        have hfin:bitB s.flags 0=s.fin:=rfl;rw [hfin];have j2: ∀x:Bool,(x=false↔(s.fin&&decide (addN s.seq s.data.length=k.next))=true)->Zss cb x H3 fun v H1=>∀H2,Shut H H1 H2->v= .tuple ⟨[]⟩∧∃due',CIn H (p.F cb) H2 cb (c.joined s k) now due' []:=by
          intro x hx;unfold Zss;refine IfB.intro (fun e H4 hsh=>⟨rfl,due,?_⟩) fun e=>?_
          . have:c.joined s k= { c with inn:=some k }:=by unfold Cn.joined;rw [if_neg fun z=>by rw [hx.2 z] at e;cases e]
            rw [this];exact sret h3.cin hsh
          . have ej:c.joined s k= { c with inn:=some k,got:=true,st:=if c.st=3 then 6 else if c.st=4 then 7 else 9 }:=by unfold Cn.joined;rw [if_pos (hx.1 e)]
            rw [ej];have okg: ∀m,m <= 9->({ c with inn:=some k,got:=true,st:=m }:Cn).Ok:=fun m hm=>⟨hm,ok.first,ok.una,ok.len,ok.sent,ok.win,ok.big,ok.tries,ok2.inn,fun _=>by simp,fun _=>by simp⟩
            refine stL h3.rep.blk (by simp [cnL]) rfl fun H4 b4 k4=>⟨_,cellL b4 0 rfl,?_⟩
            have h4:CX H1 (p.F cb) H4 cb _ none 0 { c with inn:=some k,got:=true } now due []:=h3.put (c':={ c with inn:=some k,got:=true }) k4 b4 (okg c.st ok.st) rfl rfl h3.rep.le
            refine IfB.intro (fun e3=>?_) fun e3=>IfB.intro (fun e4=>?_) fun e4=>IfB.intro (fun e5=>?_) fun e5=>?_
            . have e3:(c.st:Int)=3:=eq_of_beq e3;rw [if_pos (by omega)]
              exact stL h4.rep.blk (by simp [cnL]) rfl fun H5 b5 k5=>fun H6 hsh=>⟨rfl,due,sret (h4.put (c':={ c with inn:=some k,got:=true,st:=6 }) k5 b5 (okg 6 (by omega)) rfl rfl h4.rep.le).cin hsh⟩
            . have n3: ¬c.st=3:=fun e=>by rw [e] at e3;cases e3
              have e4:(c.st:Int)=4:=eq_of_beq e4;rw [if_neg n3,if_pos (by omega)]
              exact stL h4.rep.blk (by simp [cnL]) rfl fun H5 b5 k5=>fun H6 hsh=>⟨rfl,due,sret (h4.put (c':={ c with inn:=some k,got:=true,st:=7 }) k5 b5 (okg 7 (by omega)) rfl rfl h4.rep.le).cin hsh⟩
            . have n3: ¬c.st=3:=fun e=>by rw [e] at e3;cases e3
              have n4: ¬c.st=4:=fun e=>by rw [e] at e4;cases e4
              rw [if_neg n3,if_neg n4];refine (Zbej h4.cin (by simp)).mono ?_
              rintro _ H5 ⟨rfl,d5,h5⟩;exact ⟨rfl,fun H6 hsh=>⟨rfl,d5,sret h5 hsh⟩⟩
            . have n3: ¬c.st=3:=fun e=>by rw [e] at e3;cases e3
              have n4: ¬c.st=4:=fun e=>by rw [e] at e4;cases e4
              have n5: ¬c.st=5:=fun e=>by rw [e] at e5;cases e5
              omega
        refine ⟨_,rfl,kp3,IfB.intro (fun ef=>j2 true ⟨(fun z=>by cases z),fun z=>?_⟩) fun ef=>⟨_,cellL b3 2 rfl,_,_,_,cellL b3 8 rfl,List.mem_singleton.2 rfl,_,cellL h2.rep.blk 5 rfl,(Zee hs.seq).mono ?_⟩⟩
        simp only [Bool.and_eq_true] at z;rw [z.1] at ef;cases ef
        . rintro _ _ ⟨rfl,e⟩;rw [e];clear e;refine ⟨_,rfl,kp3,(Zbfq h3.rep.inn).mono ?_⟩;rintro _ _ ⟨rfl,e⟩;rw [e];refine ⟨_,rfl,j2 _ ?_⟩
          have hfs:s.fin=true:=by cases e:s.fin with
            | true=>rfl
            | false=>rw [e] at ef;cases ef
          rw [hfs,Bool.true_and,decide_eq_true_eq,hs.len];show (((addN s.seq n:Nat):Int) !=((k.next:Nat):Int))=false↔_;rw [bne_eq_false_iff_eq];omega
  have no: ¬(c.st=3∨c.st=4∨c.st=5)->Ziv cb q false H1 fun v H1=>∀H2,Shut H H1 H2->v= .tuple ⟨[]⟩∧∃due',CIn H (p.F cb) H2 cb (c.takes s) now due' []:=by
    intro hst;unfold Ziv;refine ifF rfl fun H2 hsh=>⟨rfl,due,?_⟩;have:c.takes s=c:=by
      unfold Cn.takes;cases c.inn with
      | none=>rfl
      | some j=>
        show (if c.st=3∨c.st=4∨c.st=5 then _ else _)=_
        rw [if_neg hst]
    rw [this];exact sret r1.cx.cin hsh
  refine ⟨_,cellL r1.blk 0 rfl,IfB.intro (fun e=>?_) fun e3=>IfB.intro (fun e=>?_) fun e4=>?_⟩;rw [e];have:(c.st:Int)=3:=eq_of_beq e;exact yes (by omega)
  rw [e];have:(c.st:Int)=4:=eq_of_beq e;exact yes (by omega)
  . have n3: ¬c.st=3:=fun e=>by rw [e] at e3;cases e3
    have n4: ¬c.st=4:=fun e=>by rw [e] at e4;cases e4
    by_cases h5:c.st=5;rw [h5];exact yes (by omega)
    . have:(((c.st:Nat):Int)==5)=false:=by rw [beq_eq_false_iff_ne];omega
      rw [this];exact no (by omega)
theorem Zbsw (h:CRep H cb p c now due none 0 0) (h0:0 <= now) (h1:c.st=1) (hs:SgArg H (p.F cb) s a n) (hc:s.can=true):FnW Tryz.prog Zxy ⟨[.pointer (some ⟨cb,0,none⟩),.agg ⟨sgL s a n cp⟩]⟩ H fun v H'=>
    v= .int .i64 (c.answer s).2.1∧∃due',CIn H (p.F cb) H' cb (c.answer s).2.2 now due' (c.answer s).1:=by
  refine Zcjb cb _ _ _ _ _ _ _ _ a n cp ?_;unfold Zbpg;have ok:=h.ok;have hsF: ∀y,p.F cb y->p.F cb y∨H y=none:=fun y hy=> .inl hy;obtain ⟨hf0,hf1⟩:=Zoh hc;obtain ⟨bt0,bt1,bt2,bt4,_⟩:=Zod hf0 hf1;have hcl:=Zvl hc;have hln:=hs.len;refine newB fun q H1 hq b1 k1=>?_;have r1:=h.keep k1 fun _ _ h=>h;have hqF: ¬p.F cb q:=fun e=>h.live e hq;have hbq: ∃ob,H1 q=some ob:=⟨_,b1⟩;have mem: ∀y,y∈[q]->∃ob,H1 y=some ob:=fun y hy=>by rw [List.mem_singleton.1 hy];exact hbq
  have kp: ∀H2:Heap,Keep Nil H1 H2->Zb [q] H1 H2:=fun H2 k y hy=>by rw [List.mem_singleton.1 hy];exact ⟨hbq,k.same q id b1.some⟩
  have k01:Keep (p.F cb) H H1:=k1.mono fun _ h=>h.elim;have sret: ∀{H2:Heap} {d:Cn} {due':Int} {l:List Sg},CIn H1 (p.F cb) H2 cb d now due' l->∀{H3:Heap},Shut H H2 H3->CIn H (p.F cb) H3 cb d now due' l:=fun h2 H3 hsh=>(h2.rebase k01 hsF).shut (Keep.refl _ _) hsh;have j0: ∀(x:Bool) (H2:Heap),Keep Nil H1 H2->x=(s.acks&&decide (s.ack≠addN c.first 1))->Ztu cb q x H2 fun v H1=>∀H2,Shut H H1 H2->v= .int .i64 (c.answer s).2.1∧∃due',CIn H (p.F cb) H2 cb (c.answer s).2.2 now due' (c.answer s).1:=by
    intro x H2 k2 hx;have b2:=k2.blk b1 id;have h2:CIn H1 (p.F cb) H2 cb c now due []:=r1.cx.cin.nil k2;unfold Ztu;refine IfB.intro (fun ex=>ld9 b2 ((Zbei h2 hf0 hf1 hln (by omega) hs.seq hs.ack (by decide)).mono ?_)) fun ex=>ld9 b2 ((Zdo hf0 hf1 bt2).mono ?_)
    . rintro _ H3 ⟨rfl,h3⟩;have e:c.answer s=(Cn.refuse s,0,c):=by unfold Cn.answer;rw [← hx,if_pos ex]
      rw [e];exact ⟨rfl,fun H4 hsh=>⟨rfl,due,sret h3 hsh⟩⟩
    rw [ex] at hx;rintro _ H3 ⟨rfl,k3⟩;have b3:=k3.blk b2 id;have h3:=h2.nil k3;refine ⟨_,rfl,IfB.intro (fun er=>ld9 b3 ((Zdo hf0 hf1 bt4).mono ?_)) fun er=>ld9 b3 ((Zdo hf0 hf1 bt1).mono ?_)⟩
    . rintro _ H4 ⟨rfl,k4⟩;have h4:=h3.nil k4;have er:s.rst=true:=er;refine ⟨_,rfl,IfB.intro (fun ea=>fun H5 hsh=>?_) fun ea=>(Zbeh h4).mono ?_⟩
      . have ea:s.acks=false:=by
          have:(!s.acks)=true:=ea;cases e:s.acks with
          | false=>rfl
          | true=>rw [e] at this;cases this
        have e:c.answer s=([],0,c):=by unfold Cn.answer;rw [← hx,er,ea];rfl
        rw [e];exact ⟨rfl,due,sret h4 hsh⟩
      . have ea:s.acks=true:=by
          have:(!s.acks)=false:=ea;cases e:s.acks with
          | true=>rfl
          | false=>rw [e] at this;cases this
        have e:c.answer s=c.lost:=by unfold Cn.answer;rw [← hx,er,ea];rfl
        rw [e];rintro _ H5 ⟨rfl,h5⟩;exact ⟨_,rfl,fun H6 hsh=>⟨rfl,due,sret h5 hsh⟩⟩
    . rintro _ H4 ⟨rfl,k4⟩;have b4:=k4.blk b3 id;have h4:=h3.nil k4;have er:s.rst=false:=er;refine ⟨_,rfl,IfB.intro (fun ey=>fun H5 hsh=>?_) fun ey=>?_⟩
      . have ey:s.syn=false:=by
          have:(!s.syn)=true:=ey;cases e:s.syn with
          | false=>rfl
          | true=>rw [e] at this;cases this
        have e:c.answer s=([],0,c):=by unfold Cn.answer;rw [← hx,er,ey];rfl
        rw [e];exact ⟨rfl,due,sret h4 hsh⟩
      have ey:s.syn=true:=by
        have:(!s.syn)=false:=ey;cases e:s.syn with
        | true=>rfl
        | false=>rw [e] at this;cases this
      obtain ⟨p4,ga4,gc4,xs4,c4,ex4⟩:=h4;have hnx:xs4= []:=List.map_eq_nil_iff.1 ex4;subst hnx;refine ld9 b4 ((Zbuh c4 h0 (Zbdx hc) hs.seq).mono ?_);rintro _ H5 ⟨rfl,p5,c5⟩;have b5:Blk H5 q Zm ⟨sgL s a n cp⟩:=c5.keep.blk b1 hqF;refine ⟨rfl,ld9 b5 ((Zdo hf0 hf1 bt4).mono ?_)⟩;rintro _ H6 ⟨rfl,k6⟩;have c6:=c5.nil k6;have b6:=k6.blk b5 id;have ok6:=c6.rep.ok;refine ⟨_,rfl,IfB.intro (fun ea=>stL c6.rep.blk (by simp [cnL]) rfl fun H7 b7 k7=>?_) fun ea=>?_⟩
      . have ea:s.acks=false:=by
          have:(!s.acks)=true:=ea;cases e:s.acks with
          | false=>rfl
          | true=>rw [e] at this;cases this
        have e:c.answer s=([Cn.hello { c.begin s with st:=2 }],0,{ c.begin s with st:=2 }):=by unfold Cn.answer;rw [← hx,er,ey,ea];rfl
        rw [e];have ok7:({ c.begin s with st:=2 }:Cn).Ok:=⟨by show 2 <= 9;omega,ok6.first,ok6.una,ok6.len,ok6.sent,ok6.win,ok6.big,ok6.tries,ok6.inn,fun _=>by simp [Cn.begin],ok6.got⟩
        have c7:=c6.put (c':={ c.begin s with st:=2 }) k7 b7 ok7 rfl rfl c6.rep.le
        refine (Zvm c7.cin (by decide)).mono ?_
        rintro _ H8 ⟨rfl,h8⟩;exact ⟨rfl,fun H9 hsh=>⟨rfl,due,sret h8 hsh⟩⟩
      . have ea:s.acks=true:=by
          have:(!s.acks)=false:=ea;cases e:s.acks with
          | true=>rfl
          | false=>rw [e] at this;cases this
        have e:c.answer s=(if ((c.begin s).welcome s).flush.1= [] then [((c.begin s).welcome s).flush.2.nod] else ((c.begin s).welcome s).flush.1,0,((c.begin s).welcome s).flush.2):=by unfold Cn.answer;rw [← hx,er,ey,ea];rfl
        rw [e];obtain ⟨p6,r6,k16,s16⟩:=c6.cin.base;have hs6:SgArg H6 (p6.F cb) s a n:=(hs.step k1 (fun _ h=>h.elim) hsF).step k16 (fun y hy=> .inl hy) s16;refine ld9 b6 ((Zbjl r6 (by simp [Cn.begin]) hs6 hc).mono ?_)
        rintro _ H7 ⟨rfl,d7,h7⟩;refine ⟨rfl,(Zbef (h7.rebase k16 s16) (by decide)).mono ?_⟩
        rintro _ H8 ⟨rfl,h8⟩;rw [List.nil_append] at h8;have h80:=h8;obtain ⟨p8,ga8,gc8,xs8,c8,ex8⟩:=h8;refine ⟨rfl,_,_,_,cellL c8.rep.blk 12 rfl,?_⟩;unfold Zbch;refine IfB.intro (fun el=>(Zvp h80 ?_).mono ?_) fun el=>fun H9 hsh=>⟨rfl,d7,?_⟩;have el:(xs8.length:Int)=0:=eq_of_beq el;rw [← ex8];simp;omega
        . have el:(xs8.length:Int)=0:=eq_of_beq el;have hx8:xs8= []:=List.eq_nil_of_length_eq_zero (by omega)
          have ef:((c.begin s).welcome s).flush.1= []:=by rw [← ex8,hx8];rfl
          rw [if_pos ef];rintro _ H9 ⟨rfl,h9⟩;rw [ef,List.nil_append] at h9;exact ⟨rfl,fun H10 hsh=>⟨rfl,d7,sret h9 hsh⟩⟩
        . have ef: ¬((c.begin s).welcome s).flush.1= []:=fun e=>by rw [← ex8] at e;have:xs8= []:=List.map_eq_nil_iff.1 e;rw [this] at el;cases el
          rw [if_neg ef];exact sret h80 hsh
  refine ⟨[q],mem,ld9 b1 ((Zdo hf0 hf1 bt4).mono ?_)⟩;rintro _ H2 ⟨rfl,k2⟩;refine ⟨_,rfl,kp _ k2,IfB.intro (fun ea=>⟨List.mem_singleton.2 rfl,_,cellL b1 3 rfl,_,cellL (k2.blk r1.blk id) 3 rfl,(Zee (n:=1) ok.first).mono ?_⟩) fun ea=>j0 _ _ k2 ?_⟩;rintro _ _ ⟨rfl,e⟩;rw [e];refine ⟨_,rfl,kp _ k2,j0 _ _ k2 ?_⟩;have ea:s.acks=true:=ea;rw [ea,Bool.true_and];by_cases hl:s.ack=addN c.first 1;rw [hl];simp;rw [decide_eq_true hl];rw [bne_iff_ne];omega;have ea:s.acks=false:=ea;rw [ea];rfl
end
end Go.Proofs.YtaljkjokbdpdoaaGreat
end
section
set_option maxRecDepth 100000
namespace Go.Proofs.YtaljkjokbdpdoaaGreat
open Go.Sh Go.Pc Go.Conn
theorem notT {b:Bool} (h:(!b)=true):b=false:=by cases b with
  | false=>rfl
  | true=>cases h
theorem notF {b:Bool} (h:(!b)=false):b=true:=by cases b with
  | true=>rfl
  | false=>cases h
section
variable {H0 H H':Heap} {F0 F F1:Nat->Prop} {cb gc:Nat} {p:CP} {c:Cn} {now due t:Int} {ga:Option Addr} {xs:List (Sg×Option Addr×Nat)} {l:List Sg} {s:Sg} {a:Option Addr} {n cp:Nat}
theorem Zcbi (h:s.data.length <= 65495):s.span <= 65497:=by unfold Sg.span;split<;>split<;>omega
theorem Zcbx (h:CRep H cb p c now due none 0 0) (h2:2 <= c.st) (hs:SgArg H (p.F cb) s a n) (hc:s.can=true):FnW Tryz.prog Zxl ⟨[.pointer (some ⟨cb,0,none⟩),.agg ⟨sgL s a n cp⟩]⟩ H fun v H'=>
    v= .int .i64 (c.take s).2.1∧∃due',CIn H (p.F cb) H' cb (c.take s).2.2 now due' (c.take s).1:=by
  refine Zcie cb _ _ _ _ _ _ _ _ a n cp ?_;unfold Zboc;have ok:=h.ok;have hsF: ∀y,p.F cb y->p.F cb y∨H y=none:=fun y hy=> .inl hy;obtain ⟨hf0,hf1⟩:=Zoh hc;obtain ⟨bt0,bt1,bt2,bt4,_⟩:=Zod hf0 hf1;have hcl:=Zvl hc;have hln:=hs.len;have hspan:=Zcbi hcl;refine newB fun q H1 hq b1 k1=>?_;have r1:=h.keep k1 fun _ _ h=>h;have hqF: ¬p.F cb q:=fun e=>h.live e hq;have hs1:SgArg H1 (p.F cb) s a n:=hs.step k1 (fun _ h=>h.elim) hsF;have k01:Keep (p.F cb) H H1:=k1.mono fun _ h=>h.elim;have sret: ∀{H2:Heap} {d:Cn} {due':Int} {l:List Sg},CIn H1 (p.F cb) H2 cb d now due' l->∀{H3:Heap},Shut H H2 H3->CIn H (p.F cb) H3 cb d now due' l:=fun h2 H3 hsh=>(h2.rebase k01 hsF).shut (Keep.refl _ _) hsh;have hbq: ∃ob,H1 q=some ob:=⟨_,b1⟩;have hbc: ∃ob,H1 cb=some ob:=⟨_,r1.blk⟩;have mem: ∀y,y∈[q,cb]->∃ob,H1 y=some ob:=fun y hy=>by simp only [List.mem_cons,List.not_mem_nil,or_false] at hy;rcases hy with rfl | rfl;exact hbq;exact hbc
  have kp: ∀H2:Heap,Keep Nil H1 H2->Zb [q,cb] H1 H2:=fun H2 k y hy=>by simp only [List.mem_cons,List.not_mem_nil,or_false] at hy;rcases hy with rfl | rfl;exact ⟨hbq,k.same _ id b1.some⟩;exact ⟨hbc,k.same _ id r1.blk.some⟩
  have hi:=r1.inn;cases hj:c.inn with
  | none=>exact absurd hj (ok.some h2)
  | some j=>
    cases hp:p.jp with
    | none=>rw [hp,hj] at hi;exact hi.elim
    | some jq=>
      rw [hp,hj] at hi;have hJ:JRep H1 jq.jb jq.rb jq.hb jq.ra jq.rc jq.first j:=hi;have eip:p.ip=some ⟨jq.jb,0,none⟩:=by unfold CP.ip;rw [hp];rfl
      have hjw:c.jwin=j.win:=by unfold Cn.jwin;rw [hj];rfl
      have hwl:j.win <= 4096:=by unfold Jn.win;omega
      have hwt:=Zna r1.inn;refine ⟨[q,cb],mem,by simp,_,cellL r1.blk 5 rfl,by simp,_,cellL b1 2 rfl,by simp,ld9 b1 ((Zvr r1).mono ?_)⟩
      rintro _ _ ⟨rfl,e⟩;rw [e];clear e;refine ⟨_,rfl,kp _ (Keep.refl _ _),?_⟩;rw [eip];refine (Zzl hJ).mono ?_;rintro _ _ ⟨rfl,e⟩;rw [e];clear e;refine ⟨_,rfl,kp _ (Keep.refl _ _),(Znu hf0 hf1 hln (by omega)).mono ?_⟩
      rintro _ H2 ⟨rfl,k2⟩;refine ⟨_,rfl,kp _ k2,(Zcjs hwt hs.seq (by omega) (by omega)).mono ?_⟩
      rintro _ _ ⟨rfl,e⟩;rw [e];clear e;rw [← hjw];refine ⟨_,_,rfl,kp _ k2,?_⟩;have etk:c.take s=if !(Zcy c.wants c.jwin s.seq s.span)&&s.rst then ([],0,c)
          else if !(Zcy c.wants c.jwin s.seq s.span)||(s.syn&& !s.rst)||(s.rst&&decide (s.seq≠c.wants)) then ([c.nod],0,c)
          else if s.rst then c.lost
          else if !s.acks then ([],0,c)
          else if c.st≠2 then (if (c.acknowledged s).1 then (c.acknowledged s).2.rest s else ([(c.acknowledged s).2.nod],0,(c.acknowledged s).2))
          else if s.ack≠addN c.first 1 then (Cn.refuse s,0,c)
          else (c.welcome s).rest s:=rfl
      generalize hok:Zcy c.wants c.jwin s.seq s.span=okk at*;have j2: ∀(H3:Heap) (d:Cn) (due':Int),CIn H1 (p.F cb) H3 cb d now due' []->c.take s=([d.nod],0,d)->Zkx cb H3 fun v H1=>∀H2,Shut H H1 H2->v= .int .i64 (c.take s).2.1∧∃due',CIn H (p.F cb) H2 cb (c.take s).2.2 now due' (c.take s).1:=by
        intro H3 d due' h3 e;rw [e];unfold Zkx Zbcb;refine (Zvp h3 (by decide)).mono ?_
        rintro _ H4 ⟨rfl,h4⟩;exact ⟨rfl,fun H5 hsh=>⟨rfl,due',sret h4 hsh⟩⟩
      have j4: ∀(H3:Heap) (d:Cn) (due':Int),CIn H1 (p.F cb) H3 cb d now due' []->c.take s=d.rest s->Zta cb q H3 fun v H1=>∀H2,Shut H H1 H2->v= .int .i64 (c.take s).2.1∧∃due',CIn H (p.F cb) H2 cb (c.take s).2.2 now due' (c.take s).1:=by
        intro H3 d due' h3 e;rw [e];obtain ⟨p3,r3,k3,s3⟩:=h3.base;have b3:Blk H3 q Zm ⟨sgL s a n cp⟩:=k3.blk b1 hqF;unfold Zta;refine ⟨_,cellL r3.blk 0 rfl,IfB.intro (fun e0=>fun H4 hsh=>?_) fun e0=>ld9 b3 ((Zbuo r3 (hs1.step k3 (fun y hy=> .inl hy) s3) hc).mono ?_)⟩
        . have e0:(d.st:Int)=0:=eq_of_beq e0;have er:d.rest s=([],0,d):=by unfold Cn.rest;rw [if_pos (by omega)]
          rw [er];exact ⟨rfl,due',sret h3 hsh⟩
        . have n0: ¬d.st=0:=fun e=>by rw [e] at e0;cases e0
          have er:d.rest s=(if (d.takes s).flush.1= []∧s.span≠0 then [(d.takes s).flush.2.nod] else (d.takes s).flush.1,0,(d.takes s).flush.2):=by unfold Cn.rest;rw [if_neg n0]
          rw [er];rintro _ H4 ⟨rfl,d4,h4⟩;refine ⟨rfl,(Zbef (h4.rebase k3 s3) (by decide)).mono ?_⟩
          rintro _ H5 ⟨rfl,h5⟩;rw [List.nil_append] at h5;have h50:=h5;obtain ⟨p5,ga5,gc5,xs5,c5,ex5⟩:=h5;have b5:Blk H5 q Zm ⟨sgL s a n cp⟩:=c5.keep.blk b1 hqF;have j5: ∀(x:Bool) (H6:Heap),Keep Nil H5 H6->(x=false↔(d.takes s).flush.1= []∧s.span≠0)->Ztb cb x H6 fun v H1=>∀H2,Shut H H1 H2->v= .int .i64 0∧∃due',CIn H (p.F cb) H2 cb (d.takes s).flush.2 now due' (if (d.takes s).flush.1= []∧s.span≠0 then [(d.takes s).flush.2.nod] else (d.takes s).flush.1):=by
            intro x H6 k6 hx;have h6:=h50.nil k6;unfold Ztb;refine IfB.intro (fun ex=>fun H7 hsh=>⟨rfl,d4,?_⟩) fun ex=>?_
            . rw [if_neg fun z=>by rw [hx.2 z] at ex;cases ex]
              exact sret h6 hsh
            . have hz:=hx.1 ex;rw [if_pos hz];unfold Zkx Zbcb;refine (Zvp h6 (by rw [hz.1];decide)).mono ?_
              rintro _ H7 ⟨rfl,h7⟩;rw [hz.1,List.nil_append] at h7;exact ⟨rfl,fun H8 hsh=>⟨rfl,d4,sret h7 hsh⟩⟩
          refine ⟨rfl,_,_,_,cellL c5.rep.blk 12 rfl,IfB.intro (fun el=>j5 true H5 (Keep.refl _ _) ⟨(fun z=>by cases z),fun z=>?_⟩) fun el=>ld9 b5 ((Znu hf0 hf1 hln (by omega)).mono ?_)⟩
          have el:(0:Int)<(xs5.length:Int):=of_decide_eq_true el;have:xs5= []:=List.map_eq_nil_iff.1 (ex5.trans z.1);rw [this] at el;cases el
          . have el: ¬(0:Int)<(xs5.length:Int):=of_decide_eq_false el;have hx5:xs5= []:=List.eq_nil_of_length_eq_zero (by omega)
            have ef:(d.takes s).flush.1= []:=by rw [← ex5,hx5];rfl
            rintro _ H6 ⟨rfl,k6⟩;refine ⟨_,rfl,j5 _ H6 k6 ⟨fun z=>⟨ef,fun e=>?_⟩,fun z=>?_⟩⟩;rw [e] at z;cases z;rw [beq_eq_false_iff_ne];have:=z.2;omega
      have j1: ∀(x:Bool) (H3:Heap),Keep Nil H1 H3->(x=true↔(!okk||(s.syn&& !s.rst)||(s.rst&&decide (s.seq≠c.wants)))=true)->(!okk&&s.rst)=false->Zfs cb q x H3 fun v H1=>∀H2,Shut H H1 H2->v= .int .i64 (c.take s).2.1∧∃due',CIn H (p.F cb) H2 cb (c.take s).2.2 now due' (c.take s).1:=by
        intro x H3 k3 hx hnr;have h3:CIn H1 (p.F cb) H3 cb c now due []:=r1.cx.cin.nil k3;have b3:=k3.blk b1 id;rw [hnr] at etk;have etk:c.take s=if !okk||(s.syn&& !s.rst)||(s.rst&&decide (s.seq≠c.wants)) then ([c.nod],0,c)
          else if s.rst then c.lost
          else if !s.acks then ([],0,c)
          else if c.st≠2 then (if (c.acknowledged s).1 then (c.acknowledged s).2.rest s else ([(c.acknowledged s).2.nod],0,(c.acknowledged s).2))
          else if s.ack≠addN c.first 1 then (Cn.refuse s,0,c)
          else (c.welcome s).rest s:=etk
        unfold Zfs;refine IfB.intro (fun ex=>j2 H3 c due h3 (by rw [etk,if_pos (hx.1 ex)])) fun ex=>ld9 b3 ((Zdo hf0 hf1 bt2).mono ?_)
        rw [if_neg fun z=>by rw [hx.2 z] at ex;cases ex] at etk
        rintro _ H4 ⟨rfl,k4⟩;have h4:=h3.nil k4;have b4:=k4.blk b3 id;refine ⟨_,rfl,IfB.intro (fun er=>(Zbeh h4).mono ?_) fun er=>ld9 b4 ((Zdo hf0 hf1 bt4).mono ?_)⟩
        . rw [if_pos (show s.rst=true from er)] at etk
          rw [etk];rintro _ H5 ⟨rfl,h5⟩;exact ⟨_,rfl,fun H6 hsh=>⟨rfl,due,sret h5 hsh⟩⟩
        rw [show s.rst=false from er] at etk
        rintro _ H5 ⟨rfl,k5⟩;have h5:=h4.nil k5;have b5:=k5.blk b4 id;obtain ⟨p5,r5,k15,s15⟩:=h5.base;refine ⟨_,rfl,IfB.intro (fun ea=>fun H6 hsh=>?_) fun ea=>⟨_,cellL r5.blk 0 rfl,?_⟩⟩
        . rw [show s.acks=false from notT ea] at etk
          have etk:c.take s=([],0,c):=etk;rw [etk];exact ⟨rfl,due,sret h5 hsh⟩
        rw [show s.acks=true from notF ea] at etk
        have etk:c.take s=if c.st≠2 then (if (c.acknowledged s).1 then (c.acknowledged s).2.rest s else ([(c.acknowledged s).2.nod],0,(c.acknowledged s).2))
          else if s.ack≠addN c.first 1 then (Cn.refuse s,0,c)
          else (c.welcome s).rest s:=etk
        have hs5:SgArg H5 (p5.F cb) s a n:=hs1.step k15 (fun y hy=> .inl hy) s15;refine IfB.intro (fun e2=>ld9 b5 ((Zbsq r5 hs5 hc).mono ?_)) fun e2=>?_
        . have n2:c.st≠2:=fun e=>by rw [e] at e2;cases e2
          rw [if_pos n2] at etk;rintro _ H6 ⟨rfl,d6,h6⟩;have h6:=h6.rebase k15 s15;refine ⟨_,rfl,IfB.intro (fun eg=>j2 H6 _ _ h6 ?_) fun eg=>j4 H6 _ _ h6 ?_⟩;rw [etk,notT eg];rfl;rw [etk,notF eg];rfl
        . have e22:c.st=2:=by
            have: ¬(((c.st:Nat):Int)≠2):=fun e=>by rw [bne_iff_ne.2 e] at e2;cases e2
            omega
          rw [if_neg (fun z=>z e22)] at etk;have hb5: ∃ob,H5 q=some ob:=⟨_,b5⟩;refine ⟨[q],fun y hy=>by rw [List.mem_singleton.1 hy];exact hb5,List.mem_singleton.2 rfl,_,cellL b5 3 rfl,_,cellL r5.blk 3 rfl,(Zee (n:=1) ok.first).mono ?_⟩
          rintro _ _ ⟨rfl,e⟩;rw [e];clear e;refine ⟨_,rfl,fun y hy=>by rw [List.mem_singleton.1 hy];exact ⟨hb5,rfl⟩,IfB.intro (fun ek=>ld9 b5 ((Zbei h5 hf0 hf1 hln (by omega) hs.seq hs.ack (by decide)).mono ?_)) fun ek=>ld9 b5 ((Zbjl r5 (ok.some h2) hs5 hc).mono ?_)⟩
          . have ek:(s.ack:Int)≠((addN c.first 1:Nat):Int):=bne_iff_ne.1 ek;rw [if_pos (fun e=>ek (by rw [e]))] at etk
            rw [etk];rintro _ H6 ⟨rfl,h6⟩;exact ⟨rfl,fun H7 hsh=>⟨rfl,due,sret h6 hsh⟩⟩
          . have ek:s.ack=addN c.first 1:=by
              have: ¬((s.ack:Int)≠((addN c.first 1:Nat):Int)):=fun e=>by rw [bne_iff_ne.2 e] at ek;cases ek
              omega
            rw [if_neg (fun z=>z ek)] at etk;rintro _ H6 ⟨rfl,d6,h6⟩;exact ⟨rfl,j4 H6 _ _ (h6.rebase k15 s15) etk⟩
      have j0: ∀(x:Bool) (H3:Heap),Keep Nil H1 H3->x=(!okk&&s.rst)->Zsz cb q okk x H3 fun v H1=>∀H2,Shut H H1 H2->v= .int .i64 (c.take s).2.1∧∃due',CIn H (p.F cb) H2 cb (c.take s).2.2 now due' (c.take s).1:=by
        intro x H3 k3 hx;have h3:CIn H1 (p.F cb) H3 cb c now due []:=r1.cx.cin.nil k3;have b3:=k3.blk b1 id;have r3:=r1.keep k3 fun _ _ h=>h;unfold Zsz;refine IfB.intro (fun ex=>fun H4 hsh=>?_) fun ex=>?_
        . have:c.take s=([],0,c):=by rw [etk,← hx,if_pos ex]
          rw [this];exact ⟨rfl,due,sret h3 hsh⟩
        rw [ex] at hx;have hnr:=hx.symm;have hb3: ∃ob,H3 q=some ob:=⟨_,b3⟩;have kp3: ∀H4:Heap,Keep Nil H3 H4->Zb [q] H3 H4:=fun H4 k y hy=>by rw [List.mem_singleton.1 hy];exact ⟨hb3,k.same _ id b3.some⟩
        refine ⟨[q],fun y hy=>by rw [List.mem_singleton.1 hy];exact hb3,IfB.intro (fun eo=>j1 true H3 k3 ⟨fun _=>?_,fun _=>rfl⟩ hnr) fun eo=>ld9 b3 ((Zdo hf0 hf1 bt1).mono ?_)⟩
        rw [notT eo];rfl;have eo:=notF eo;rintro _ H4 ⟨rfl,k4⟩;have b4:=k4.blk b3 id;have r4:=r3.keep k4 fun _ _ h=>h;have tail: ∀(H5:Heap),Keep Nil H3 H5->(s.syn&& !s.rst)=false->FnW Tryz.prog Zcn ⟨[.agg ⟨sgL s a n cp⟩,.int .i64 4]⟩ H5 fun x41v H26=>∃x41:Bool,x41v=(Value.bool x41)∧Zb [q] H3 H26∧IfB x41
             (q∈[q]∧∃x44:Int,H3.cell ⟨q,2,none⟩=some (Value.int .u32 x44)∧
             FnW Tryz.prog Zig ⟨[(Value.pointer (some ⟨cb,0,none⟩))]⟩ H26 fun x46v H27=>
             ∃x46:Int,x46v=(Value.int .u32 x46)∧
             Zb [q] H3 H27∧Zfs cb q ((x44:Int) !=x46) H27 fun v H1=>∀H2,Shut H H1 H2->v= .int .i64 (c.take s).2.1∧∃due',CIn H (p.F cb) H2 cb (c.take s).2.2 now due' (c.take s).1)
             (Zfs cb q false H26 fun v H1=>∀H2,Shut H H1 H2->v= .int .i64 (c.take s).2.1∧∃due',CIn H (p.F cb) H2 cb (c.take s).2.2 now due' (c.take s).1):=by
          intro H5 k5 hsy;refine (Zdo hf0 hf1 bt2).mono ?_;rintro _ H6 ⟨rfl,k6⟩;have k36:=k5.trans k6;refine ⟨_,rfl,kp3 _ k36,IfB.intro (fun er=>⟨List.mem_singleton.2 rfl,_,cellL b3 2 rfl,(Zvr (r3.keep k36 fun _ _ h=>h)).mono ?_⟩) fun er=>j1 false H6 (k3.trans k36) ⟨(fun z=>by cases z),fun z=>?_⟩ hnr⟩
          . rintro _ _ ⟨rfl,e⟩;rw [e];clear e;refine ⟨_,rfl,kp3 _ k36,j1 _ H6 (k3.trans k36) ?_ hnr⟩;rw [eo,hsy,show s.rst=true from er,bne_iff_ne]
            simp;omega
          . rw [eo,hsy,show s.rst=false from er] at z;cases z
        refine ⟨_,rfl,kp3 _ k4,IfB.intro (fun ey=>ld9 b4 ((Zdo hf0 hf1 bt2).mono ?_)) fun ey=>ld9 b4 (tail H4 k4 (by rw [show s.syn=false from ey];rfl))⟩
        rintro _ H5 ⟨rfl,k5⟩;have b5:=k5.blk b4 id;refine ⟨_,rfl,kp3 _ (k4.trans k5),IfB.intro (fun er=>j1 true H5 ((k3.trans k4).trans k5) ⟨fun _=>?_,fun _=>rfl⟩ hnr) fun er=>ld9 b5 (tail H5 (k4.trans k5) ?_)⟩
        . rw [eo,show s.syn=true from ey,show s.rst=false from notT er];rfl
        rw [show s.rst=true from notF er,Bool.not_true,Bool.and_false]
      refine IfB.intro (fun eo=>ld9 (k2.blk b1 id) ((Zdo hf0 hf1 bt2).mono ?_)) fun eo=>j0 _ _ k2 (by rw [notF eo];rfl)
      rintro _ H3 ⟨rfl,k3⟩;exact ⟨_,rfl,j0 _ _ (k2.trans k3) (by rw [notT eo];rfl)⟩
theorem Zbsn (h:CAt H cb F c t) (h0:0 <= t) (hs:SgArg H F s a n):FnW Tryz.prog Zyj ⟨[.pointer (some ⟨cb,0,none⟩),.int .i64 t,.agg ⟨sgL s a n cp⟩]⟩ H fun v H'=>
    ∃u,v= .tuple ⟨[u,.int .i64 (c.Take s).2.1]⟩∧Left H F H' cb (c.Take s).2.2 t u (c.Take s).1:=by
  obtain ⟨p,now,due,hr,ht,hd,rfl⟩:=h.ex;refine Zckk cb t _ _ _ _ _ _ _ _ a n cp ?_;unfold Zbqy;have hsF: ∀y,p.F cb y->p.F cb y∨H y=none:=fun y hy=> .inl hy;refine newB fun q H1 hq b1 k1=>?_;have r1:=hr.keep k1 fun _ _ h=>h;have hqF: ¬p.F cb q:=fun e=>hr.live e hq;have hs1:SgArg H1 (p.F cb) s a n:=hs.step k1 (fun _ h=>h.elim) hsF;have k01:Keep (p.F cb) H H1:=k1.mono fun _ h=>h.elim;refine (Zbul r1 ht).mono ?_;rintro _ _ ⟨rfl,e⟩;rw [e];clear e;refine ⟨_,rfl,ifF rfl (ld9 b1 ((Zbdz hs1.rd).mono ?_))⟩;rintro _ H2 ⟨rfl,k2⟩;have r2:=r1.keep k2 fun _ _ h=>h;have k02:=k1.trans k2;refine ⟨_,rfl,IfB.intro (fun ec=>fun H3 hsh=>?_) fun ec=>⟨_,cellL r2.blk 0 rfl,IfB.intro (fun e0=>fun H3 hsh=>?_) fun e0=>?_⟩⟩
  . have e:c.Take s=([],2,c):=by unfold Cn.Take;rw [if_pos ec]
    rw [e];exact ⟨_,rfl,(Left.same hr ht hd k02).shut (Keep.refl _ _) hsh⟩
  . have e0:(c.st:Int)=0:=eq_of_beq e0;have e:c.Take s=([],150,c):=by unfold Cn.Take;rw [if_neg (by rw [ec];decide),if_pos (by omega)]
    rw [e];exact ⟨_,rfl,(Left.same hr ht hd k02).shut (Keep.refl _ _) hsh⟩
  have hc:=notF ec;have n0: ¬c.st=0:=fun e=>by rw [e] at e0;cases e0
  have b2:=k2.blk b1 id;have fin: ∀(H3:Heap) (z:Ans) (due':Int),c.Take s=z->CIn H1 (p.F cb) H3 cb z.2.2 t due' z.1->Zun cb z.2.1 H3 fun v H1=>∀H2,Shut H H1 H2->∃u,v= .tuple ⟨[u,.int .i64 (c.Take s).2.1]⟩∧Left H (p.F cb) H2 cb (c.Take s).2.2 t u (c.Take s).1:=by intro H3 z due' e h3;rw [e];unfold Zun;exact Zvt (h3.rebase k01 hsF) (Int.le_refl _) fun a n cp H4 h4=>⟨_,_,_,rfl,fun H5 hsh=>⟨_,rfl,h4.shut (Keep.refl _ _) hsh⟩⟩
  have step: ∀H3:Heap,CX H2 (p.F cb) H3 cb p none 0 c t due []->SgArg H3 (p.F cb) s a n∧Blk H3 q Zm ⟨sgL s a n cp⟩∧Keep (p.F cb) H1 H3:=fun H3 h3=>
    ⟨(hs1.step k2 (fun _ h=>h.elim) fun y hy=> .inl hy).step h3.keep (fun y hy=> .inl hy) fun y hy=> .inl hy,h3.keep.blk b2 hqF,(k2.mono fun _ h=>h.elim).trans h3.keep⟩
  refine IfB.intro (fun e1=>r2.cx.at_ ht fun H3 h3=>?_) fun e1=>r2.cx.at_ ht fun H3 h3=>?_
  . have e1:(c.st:Int)=1:=eq_of_beq e1;have e:c.Take s=c.answer s:=by unfold Cn.Take;rw [if_neg (by rw [ec];decide),if_neg n0,if_pos (by omega)]
    obtain ⟨hs3,b3,k3⟩:=step H3 h3;refine ld9 b3 ((Zbsw h3.rep h0 (by omega) hs3 hc).mono ?_)
    rintro _ H4 ⟨rfl,d4,h4⟩;exact ⟨_,rfl,fin H4 _ d4 e (h4.rebase k3 fun y hy=> .inl hy)⟩
  . have n1: ¬c.st=1:=fun e=>by rw [e] at e1;cases e1
    have e:c.Take s=c.take s:=by unfold Cn.Take;rw [if_neg (by rw [ec];decide),if_neg n0,if_neg n1]
    obtain ⟨hs3,b3,k3⟩:=step H3 h3;refine ld9 b3 ((Zcbx h3.rep (by omega) hs3 hc).mono ?_)
    rintro _ H4 ⟨rfl,d4,h4⟩;exact ⟨_,rfl,fin H4 _ d4 e (h4.rebase k3 fun y hy=> .inl hy)⟩
end
end Go.Proofs.YtaljkjokbdpdoaaGreat
end
section
set_option maxRecDepth 100000
namespace Go.Proofs.YtaljkjokbdpdoaaGreat
open Go.Sh Go.Pc Go.Conn
section
variable {H0 H H':Heap} {F0 F F1:Nat->Prop} {cb gc gn:Nat} {p:CP} {c:Cn} {now due t:Int} {ga:Option Addr} {xs:List (Sg×Option Addr×Nat)} {l:List Sg} {s:Sg} {a:Option Addr} {n cp:Nat}
theorem Zrg {z:Int}:FnW Tryz.prog Zjk ⟨[.int .i64 z]⟩ H fun v H'=>v= .bool (Zbf z)∧H'=H:=by
  refine Zcdx z ?_;unfold Zbkf;refine IfB.intro (fun h H2 hs=>⟨?_,(Zf hs).symm⟩) fun h H2 hs=>⟨?_,(Zf hs).symm⟩;have h:=of_decide_eq_true h;unfold Zbf;rw [decide_eq_true (by omega:(1:Int) <= z),Bool.true_and]
  have h:=of_decide_eq_false h;unfold Zbf;rw [decide_eq_false (by omega: ¬(1:Int) <= z),Bool.false_and]
theorem Zbwu {src dst:Int} {first:Nat} (hf:first<4294967296):(Cn.new src dst first).Ok:=
  ⟨Nat.zero_le _,hf,Zbb _ _,Nat.zero_le _,Nat.le_refl _,Nat.zero_le _,⟨by show 1 <= 536;omega,by show 536 <= 1460;omega⟩,Nat.zero_le _,(fun j hj=>by cases hj),(fun h=>absurd h (by show ¬2 <= 0;omega)),(fun h=>by cases h)⟩
theorem Zbdp {src dst:Int} {first:Nat} (h0:0 <= now) (hf:first<4294967296):FnW Tryz.prog Zoz ⟨[.int .i64 now,.int .i64 src,.int .i64 dst,.int .u32 first]⟩ H fun v H'=>
    ∃cb p,v= .pointer (some ⟨cb,0,none⟩)∧CX H Nil H' cb p none 0 (Cn.new src dst first) now (-1) []:=by
  refine Zcfm now src dst first ?_
  unfold Zblt;refine newB fun cb H1 hcb b1 k1=>?_;refine (Zyt (g:=536) b1 rfl rfl hf (by omega)).mono ?_
  rintro _ H2 ⟨rfl,ob,eb,b2,ho,k2,hn⟩;refine ⟨rfl,fun H3 hs=>⟨cb,⟨ob,eb,none,0,0,none⟩,rfl,?_⟩⟩;have k:Keep Nil H H2:=k1.then k2 fun y hy=> .inr (hy▸hcb);refine CX.shut (S:=Nil) ⟨⟨Zbwu hf,ho,h0,trivial,b2,fun y hy=>hy.elim⟩,k,fun y hy=>?_,Outs.nil⟩ (Keep.refl _ _) hs;rcases hy with rfl | hy | hy;exact .inr hcb;exact .inr (k1.free (hn y hy));exact hy.elim
theorem Zbuq {src dst:Int} {first:Nat} (h0:0 <= now) (hf:first<4294967296) (h1:Zbf src=true) (h2:Zbf dst=true):FnW Tryz.prog Zyi ⟨[.int .i64 now,.int .i64 src,.int .i64 dst,.int .u32 first]⟩ H fun v H'=>
    ∃cb u,v= .tuple ⟨[.pointer (some ⟨cb,0,none⟩),u,.int .i64 0]⟩∧Left H Nil H' cb (dial src dst first).2 now u (dial src dst first).1:=by
  refine Zcki now src dst first ?_
  unfold Zbqv;refine Zrg.mono ?_;rintro _ _ ⟨rfl,e⟩;rw [e,h1];clear e;refine ⟨_,rfl,ifF rfl (Zrg.mono ?_)⟩;rintro _ _ ⟨rfl,e⟩;rw [e,h2];clear e;refine ⟨_,rfl,ifF rfl ?_⟩;unfold Zum;refine ifF (decide_eq_false (by omega)) ((Zbdp h0 hf).mono ?_)
  rintro _ H1 ⟨cb,p,rfl,h1⟩;refine ⟨_,rfl,NilP.intro _ rfl (stL h1.rep.blk (by simp [cnL]) rfl fun H2 b2 k2=>?_)⟩
  have ok:=h1.rep.ok;have h2:=h1.put (c':={ Cn.new src dst first with st:=1 }) k2 b2 ⟨by show 1 <= 9;omega,ok.first,ok.una,ok.len,ok.sent,ok.win,ok.big,ok.tries,ok.inn,(fun h=>absurd h (by show ¬2 <= 1;omega)),ok.got⟩ rfl rfl h1.rep.le
  refine (Zvm h2.cin (by decide)).mono ?_
  rintro _ H3 ⟨rfl,h3⟩;refine ⟨rfl,Zvt h3 (Int.le_refl _) fun a n cp H4 h4=>⟨_,_,_,rfl,fun H5 hsh=>⟨cb,_,rfl,h4.shut (Keep.refl _ _) hsh⟩⟩⟩
theorem Zbth (hb:Blk H cb Zem ⟨cnL c p.ob none now due none 0 0⟩) (k0:Keep Nil H0 H) (hcb:H0 cb=none) (h0:0 <= now) (hf:c.first<4294967296) (hst:c.st <= 9) (hg:0 <= s.big) (hs:s.seq<4294967296):
    FnW Tryz.prog Zmk ⟨[.pointer (some ⟨cb,0,none⟩),.agg ⟨sgL s a n cp⟩]⟩ H fun v H'=>v= .tuple ⟨[]⟩∧∃p',CX H0 Nil H' cb p' none 0 (c.begin s) now due []:=by
  refine Zbsb cb _ _ _ _ _ _ _ _ a n cp ?_;unfold Zbcx;refine newB fun q H1 hq b1 k1=>⟨_,cellL b1 2 rfl,(Zee (n:=1) hs).mono ?_⟩;rintro _ _ ⟨rfl,e⟩;rw [e];refine ⟨_,rfl,(Zbfr _ (Zbb s.seq 1)).mono ?_⟩;rintro _ H2 ⟨jb,rb,hb',rfl,hj,k2,hn⟩;have c2:=k2.blk (k1.blk hb id) id;have k02:=(k0.trans k1).trans k2;refine ⟨_,_,rfl,stL c2 (by simp [cnL]) rfl fun H3 c3 k3=>?_⟩
  have hqc: ¬q=cb:=fun e=>hb.some (e▸hq);have b3:Blk H3 q Zm ⟨sgL s a n cp⟩:=k3.blk (k2.blk b1 id) hqc;have hjc: ∀y,JFt jb rb hb' none y->¬y=cb:=fun y hy e=>(k1.blk hb id).some (by rw [← e];exact hn y hy)
  have hj3:=hj.keep k3 hjc;refine ld9 b3 ((Zbfb hg).mono ?_);rintro _ H4 ⟨rfl,k4⟩;have hj4:=hj3.keep k4 fun _ _ h=>h;refine ⟨_,rfl,(Zyt (g:=greatest s) (k4.blk c3 id) rfl rfl hf (Zza hg)).mono ?_⟩;rintro _ H5 ⟨rfl,ob,eb,c5,ho,k5,hn5⟩;have k05:Keep Nil H0 H5:=((k02.then k3 fun y hy=> .inr (hy▸hcb)).trans k4).then k5 fun y hy=> .inr (hy▸hcb);refine ⟨rfl,fun H6 hsh=>⟨rfl,⟨ob,eb,none,0,0,some ⟨jb,rb,hb',none,0,0⟩⟩,CX.shut (S:=Nil) ⟨⟨⟨hst,hf,Zbb _ _,Nat.zero_le _,Nat.le_refl _,Nat.zero_le _,Zza hg,Nat.zero_le _,fun j hj'=>?_,fun _=>by simp [Cn.begin],fun _=>by simp [Cn.begin]⟩,ho,h0,?_,c5,fun y hy hO=>?_⟩,k05,fun y hy=>?_,Outs.nil⟩ k0 hsh⟩⟩
  cases hj';exact hj4.ok;exact hj4.keep k5 hjc;exact hj4.live hy (hn5 y hO);refine .inr ?_;rcases hy with rfl | hy | hy;exact hcb;exact ((k02.then k3 fun y hy=> .inr (hy▸hcb)).trans k4).free (hn5 y hy);exact (k0.trans k1).free (hn y hy)
theorem Zbso {first:Nat} (h0:0 <= now) (hf:first<4294967296) (hs:SgArg H Nil s a n) (hc:s.can=true) (h1:Zbf s.src=true) (h2:Zbf s.dst=true) (hy:s.syn=true) (ha:s.acks=false) (hr:s.rst=false) (hfi:s.fin=false) (hd:s.data= []):
    FnW Tryz.prog Zxt ⟨[.int .i64 now,.agg ⟨sgL s a n cp⟩,.int .u32 first]⟩ H fun v H'=>
    ∃cb u,v= .tuple ⟨[.pointer (some ⟨cb,0,none⟩),u,.int .i64 0]⟩∧Left H Nil H' cb (accept s first).2 now u (accept s first).1:=by
  refine Zcin now _ _ _ _ _ _ _ _ a n cp first ?_
  unfold Zboo;obtain ⟨hf0,hf1⟩:=Zoh hc;obtain ⟨bt0,bt1,bt2,bt4,bt21⟩:=Zod hf0 hf1;have hln:=hs.len;rw [hd] at hln;have hln:n=0:=hln.symm;refine newB fun q H1 hq b1 k1=>ld9 b1 ((Zdo hf0 hf1 bt1).mono ?_);rintro _ H2 ⟨rfl,k2⟩;have b2:=k2.blk b1 id;refine ⟨_,rfl,ifF (by rw [show bitB s.flags 1=true from hy];rfl) (ld9 b2 ((Zdo hf0 hf1 bt21).mono ?_))⟩
  rintro _ H3 ⟨rfl,k3⟩;have b3:=k3.blk b2 id;have k03:=(k1.trans k2).trans k3;refine ⟨_,rfl,ifF (by rw [show bitB s.flags 4=false from ha,show bitB s.flags 2=false from hr,show bitB s.flags 0=false from hfi];rfl) ⟨_,_,_,cellL b3 8 rfl,?_⟩⟩
  unfold Ztg;refine ld9 b3 ((Zbdz (hs.rd.keep k03 fun _ _ h=>h)).mono ?_);rintro _ H4 ⟨rfl,k4⟩;have b4:=k4.blk b3 id;have k04:=k03.trans k4;refine ⟨_,rfl,ifF (by rw [hc];rfl) ⟨_,cellL b4 0 rfl,Zrg.mono ?_⟩⟩
  rintro _ _ ⟨rfl,e⟩;rw [e,h1];clear e;refine ⟨_,rfl,ifF rfl ⟨_,cellL b4 1 rfl,Zrg.mono ?_⟩⟩;rintro _ _ ⟨rfl,e⟩;rw [e,h2];clear e;refine ⟨_,rfl,ifF rfl (ifF (decide_eq_false (by omega)) ?_)⟩
  unfold Zky;refine ifF (decide_eq_false (by rw [hln];omega)) ⟨_,cellL b4 1 rfl,_,cellL b4 0 rfl,(Zbdp h0 hf).mono ?_⟩
  rintro _ H5 ⟨cb,p,rfl,h5⟩;refine ⟨_,rfl,NilP.intro _ rfl (stL h5.rep.blk (by simp [cnL]) rfl fun H6 b6 k6=>?_)⟩
  have ok:=h5.rep.ok;have b5:Blk H5 q Zm ⟨sgL s a n cp⟩:=h5.keep.blk b4 id;have hqc: ¬q=cb:=fun e=>by have:=h5.sub cb (.inl rfl);rcases this with z | z;exact z;exact b4.some (e▸z)
  have b6':=k6.blk b5 hqc;have hcb:H cb=none:=k04.free ((h5.sub cb (.inl rfl)).elim (fun z=>z.elim) id);have k06:Keep Nil H H6:=(k04.trans h5.keep).then k6 fun y hy=> .inr (hy▸hcb);have hip:p.ip=none:=by
    have hi:=h5.rep.inn;unfold CP.ip;cases hj:p.jp with
    | none=>rfl
    | some j=>rw [hj] at hi;exact hi.elim
  rw [hip] at b6;refine ld9 b6' ((Zbth (H0:=H) (c:={ Cn.new s.dst s.src first with st:=2 }) b6 k06 hcb h0 hf (by show 2 <= 9;omega) (Zbdx hc) hs.seq).mono ?_)
  rintro _ H7 ⟨rfl,p',h7⟩;refine ⟨rfl,(Zvm h7.cin (by decide)).mono ?_⟩
  rintro _ H8 ⟨rfl,h8⟩;refine ⟨rfl,Zvt h8 (Int.le_refl _) fun a n cp H9 h9=>⟨_,_,_,rfl,fun H10 hsh=>⟨cb,_,rfl,h9.shut (Keep.refl _ _) hsh⟩⟩⟩
theorem Zbdb (h:CRep H cb p c now due ga gn gc):FnW Tryz.prog Zox ⟨[.pointer (some ⟨cb,0,none⟩)]⟩ H fun v H'=>v= .int .i64 c.st∧H'=H:=by refine Zcfg cb ?_;unfold Zblr;refine (Zvn h).mono ?_;rintro _ _ ⟨rfl,e⟩;rw [e];exact ⟨true,rfl,ifF rfl ⟨_,cellL h.blk 0 rfl,fun H2 hs=>⟨rfl,(Zf hs).symm⟩⟩⟩
end
end Go.Proofs.YtaljkjokbdpdoaaGreat
end
section
set_option maxRecDepth 100000
namespace Go.Pc
open Go.Sh
structure Reg (H0 H:Heap) (A:Nat->Nat->Prop):Prop where
  live: ∀i y,A i y->H y≠none
  new: ∀i y,A i y->H0 y=none
  apart: ∀i j,i≠j->∀y,A i y->¬A j y
def upA (A:Nat->Nat->Prop) (i:Nat) (X:Nat->Prop):Nat->Nat->Prop:=fun j=>if j=i then X else A j
theorem Zdt {A:Nat->Nat->Prop} {i:Nat} {X:Nat->Prop}:upA A i X i=X:=if_pos rfl
theorem Zbr {A:Nat->Nat->Prop} {i j:Nat} {X:Nat->Prop} (h:j≠i):upA A i X j=A j:=if_neg h
theorem Reg.keep {H0 H H':Heap} {A:Nat->Nat->Prop} {S:Nat->Prop} (h:Reg H0 H A) (k:Keep S H H'):Reg H0 H' A:=⟨fun i y hy=>k.live y (h.live i y hy),h.new,h.apart⟩
theorem Reg.step {H0 H H':Heap} {A:Nat->Nat->Prop} {i:Nat} {X S S0:Nat->Prop} (h:Reg H0 H A) (k0:Keep S0 H0 H) (k:Keep S H H') (h1: ∀y,X y->A i y∨H y=none) (h2: ∀y,X y->H' y≠none):Reg H0 H' (upA A i X):=by refine ⟨fun j y hy=>?_,fun j y hy=>?_,fun j l hjl y hy hz=>?_⟩;by_cases e:j=i;subst e;rw [Zdt] at hy;exact h2 y hy;rw [Zbr e] at hy;exact k.live y (h.live j y hy);by_cases e:j=i;subst e;rw [Zdt] at hy;rcases h1 y hy with e | e;exact h.new j y e;exact k0.free e;rw [Zbr e] at hy;exact h.new j y hy;by_cases ej:j=i;subst ej;rw [Zdt] at hy;have el:l≠j:=fun e=>hjl e.symm;rw [Zbr el] at hz;rcases h1 y hy with e | e;exact h.apart j l hjl y e hz;exact h.live l y hz e;rw [Zbr ej] at hy;by_cases el:l=i;subst el;rw [Zdt] at hz;rcases h1 y hz with e | e;exact h.apart j l hjl y hy e;exact h.live j y hy e;rw [Zbr el] at hz;exact h.apart j l hjl y hy hz
end Go.Pc
namespace Go.Conn
def Zlh (x:Int) (n:Nat):Nat:=((x%18446744073709551616)%n).toNat
theorem Zbdj (x:Int) {n:Nat} (h:0<n):Zlh x n<n:=by
  unfold Zlh;have h1:=Int.emod_nonneg (x%18446744073709551616) (b:=(n:Int)) (by omega)
  have h2:=Int.emod_lt_of_pos (x%18446744073709551616) (b:=(n:Int)) (by omega)
  omega
end Go.Conn
namespace Go.Proofs.YtaljkjokbdpdoaaGreat
open Go.Sh Go.Pc Go.Conn
section
variable {H:Heap}
theorem Zbdk (x:Int) {n:Nat} (h0:0<n) (h1:n<2^62):FnW Tryz.prog Zos ⟨[.int .i64 x,.int .i64 n]⟩ H fun v H'=>v= .int .i64 (Zlh x n)∧H'=H:=by
  refine Zcfb x n ?_;unfold Zblm;refine ifF (decide_eq_false (by omega)) ?_
  have hw:IntKind.wrap .u64 (n:Int)=n:=by change (n:Int)%18446744073709551616=n;omega
  have hx:IntKind.wrap .u64 x=x%18446744073709551616:=rfl;have h3:=Int.emod_nonneg x (b:=18446744073709551616) (by omega)
  have h4:Int.tmod (x%18446744073709551616) n=(Zlh x n:Nat):=by
    rw [Int.tmod_eq_emod_of_nonneg h3];unfold Zlh;have:=Int.emod_nonneg (x%18446744073709551616) (b:=(n:Int)) (by omega)
    omega
  have h5:=Zbdj x h0;refine ⟨by rw [hw];omega,?_⟩
  rw [hw,hx,h4,Zi (by omega) (by omega)]
  exact fun H2 hs=>⟨rfl,(Zf hs).symm⟩
end
end Go.Proofs.YtaljkjokbdpdoaaGreat
end
