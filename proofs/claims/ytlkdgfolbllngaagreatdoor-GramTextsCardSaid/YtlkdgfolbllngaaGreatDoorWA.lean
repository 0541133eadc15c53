/-
 The texts that are printed:numbers,addresses,prefixes,joined words;as contracts over the heap.
-/
import Derived.Test.YtlkdgfolbllngaaGreatDoorGA
import Derived.Test.YtlkdgfolbllngaaGreatDoorBA
import Derived.Test.YtlkdgfolbllngaaGreatDoorBI
import Derived.Test.YtlkdgfolbllngaaGreatDoorEB
import Derived.Test.YtlkdgfolbllngaaGreatDoorGB
set_option linter.all false
section
set_option maxRecDepth 100000
namespace Go.Proofs.YtlkdgfolbllngaaGreatDoor
open Go.Sh Go.Pc
theorem Zvn (n:Nat) (h:n<256):(Lib.itoa n).length <= 3:=by
 unfold Lib.itoa;rw [if_neg (by omega),Int.toNat_natCast]
 unfold Lib.decDigits;split;simp;unfold Lib.decDigits;split;simp;unfold Lib.decDigits;split;simp;omega
def txt (a:Nat):List UInt8:=Lib.join [Lib.itoa ((a/16777216%256:Nat):Int),Lib.itoa ((a/65536%256:Nat):Int),Lib.itoa ((a/256%256:Nat):Int),Lib.itoa ((a%256:Nat):Int)] [46]
theorem Zsp (a:Nat):(txt a).length <= 15:=by
 have h1:=Zvn (a/16777216%256) (by omega);have h2:=Zvn (a/65536%256) (by omega);have h3:=Zvn (a/256%256) (by omega);have h4:=Zvn (a%256) (by omega)
 simp only [txt,Lib.join,List.intercalate,List.intersperse,List.flatten_cons,List.flatten_nil,List.length_append,List.length_cons,List.length_nil];omega
theorem Zcix (a:Nat) (K:List UInt8->Prop) (h:a<4294967296) (hk:K (txt a)):Zvm a K:=by
 unfold Zvm;have hx: ∀s:Nat,s <= 24->IntKind.wrap .i64 (Zjc .u32 (Int.fdiv (a:Int) ((2:Int)^(min s 32))) 255)=((a/2^s%256:Nat):Int):=by
  intro s hs;have hd:a/2^s <= a:=Nat.div_le_self _ _
  rw [Nat.min_eq_left (by omega),show ((2:Int)^s)=((2^s:Nat):Int) by rw [Int.natCast_pow];rfl,Int.fdiv_eq_ediv_of_nonneg _ (Int.natCast_nonneg _),← Int.natCast_ediv,show (255:Int)=((255:Nat):Int) from rfl,Zbia .u32 _ _ (Zkf (by omega)) (Zkf (by decide)),Zbhz,wu32 (by omega),Zsu _ (by omega)]
 let L:List (List UInt8):=[Lib.itoa ((a/16777216%256:Nat):Int),Lib.itoa ((a/65536%256:Nat):Int),Lib.itoa ((a/256%256:Nat):Int),Lib.itoa ((a%256:Nat):Int)]
 refine Zdb.up 4 (fun i=>(L.take i,3 - (i:Int),())) (fun _=>True) rfl trivial (fun i hi _ next hn=>?_) (fun _ next=>?_)
 ·intro _;dsimp only [Zbcz];refine ifT (decide_eq_true (by omega)) ?_
  have e1:IntKind.wrap .i64 (8*(3 - (i:Int)))=((8*(3 - i):Nat):Int):=by rw [Zhz (by omega) (by omega)];omega
  have e2:IntKind.wrap .i64 (3 - (i:Int) - 1)=3 - ((i+1:Nat):Int):=by rw [Zhz (by omega) (by omega)];omega
  rw [e1,e2,Int.toNat_natCast,show IntKind.bits .u32=32 from rfl,hx _ (by omega)]
  refine ⟨by omega,fun _=>?_⟩
  unfold Zfv;intro _;refine ⟨by simp only [List.length_take,List.length_cons,List.length_nil];omega,of_eq (hn trivial) ?_⟩
  have hi4:i=0∨i=1∨i=2∨i=3:=by omega
  rcases hi4 with rfl | rfl | rfl | rfl;rfl;rfl;rfl;show (L,_,())=(L.take 3++[Lib.itoa ((a/1%256:Nat):Int)],_,());rw [Nat.div_one];rfl
 ·intro _;dsimp only [Zbcz];refine ifF (by decide) fun _=>?_
  unfold Zow;have:=Zsp a;exact ⟨by simp [L],by show (txt a).length <= _;omega,fun _=>hk⟩
def pfT (a n:Nat):List UInt8:=txt a++47::Lib.decDigits n
def pT (a:UInt32) (n:Int):List UInt8:=if right a.toNat n=true then pfT a.toNat n.toNat else []
theorem Zcku (a:UInt32) (n:Int) (K:List UInt8->Prop) (hk:K (pT a n)):Zbgr (a,n) K:=by
 unfold Zbgr;simp only [Zbea];have ha:=UInt32.toNat_lt a;refine fun _=>Zbpn a n _ fun _=>IfB.intro (fun h=>?_) (fun h=>?_)
 ·have h:right a.toNat n=false:=by simpa using h
  unfold pT at hk;rw [h] at hk;exact hk
 have h:right a.toNat n=true:=by simpa using h
 obtain ⟨h0,h32,_⟩:=Zwt.1 h;have hx: ∀s:Nat,s <= 24->IntKind.wrap .i64 (Zjc .u32 (Int.fdiv (a.toNat:Int) ((2:Int)^(min s 32))) 255)=((a.toNat/2^s%256:Nat):Int):=by
  intro s hs;have hd:a.toNat/2^s <= a.toNat:=Nat.div_le_self _ _
  rw [Nat.min_eq_left (by omega),show ((2:Int)^s)=((2^s:Nat):Int) by rw [Int.natCast_pow];rfl,Int.fdiv_eq_ediv_of_nonneg _ (Int.natCast_nonneg _),← Int.natCast_ediv,show (255:Int)=((255:Nat):Int) from rfl,Zbia .u32 _ _ (Zkf (by omega)) (Zkf (by decide)),Zbhz,wu32 (by omega),Zsu _ (by omega)]
 let L:List (List UInt8):=[Lib.itoa ((a.toNat/16777216%256:Nat):Int),Lib.itoa ((a.toNat/65536%256:Nat):Int),Lib.itoa ((a.toNat/256%256:Nat):Int),Lib.itoa ((a.toNat%256:Nat):Int)]
 refine Zdb.up 4 (fun i=>(L.take i,(i:Int),())) (fun _=>True) rfl trivial (fun i hi _ next hn=>?_) (fun _ next=>?_)
 ·intro _;dsimp only [Zbgq];refine ifT (decide_eq_true (by omega)) ?_
  have e1:IntKind.wrap .i64 (24 - IntKind.wrap .i64 (8*(i:Int)))=((24 - 8*i:Nat):Int):=by rw [Zhz (n:=8*(i:Int)) (by omega) (by omega),Zhz (by omega) (by omega)];omega
  have e2:IntKind.wrap .i64 ((i:Int)+1)=((i+1:Nat):Int):=by rw [Zhz (by omega) (by omega)];omega
  rw [e1,e2,Int.toNat_natCast,show IntKind.bits .u32=32 from rfl,hx _ (by omega)]
  refine ⟨by omega,fun _=>?_⟩
  unfold Zfv;intro _;refine ⟨by simp only [List.length_take,List.length_cons,List.length_nil];omega,of_eq (hn trivial) ?_⟩
  have hi4:i=0∨i=1∨i=2∨i=3:=by omega
  rcases hi4 with rfl | rfl | rfl | rfl;rfl;rfl;rfl;show (L,_,())=(L.take 3++[Lib.itoa ((a.toNat/1%256:Nat):Int)],_,());rw [Nat.div_one];rfl
 ·intro _;dsimp only [Zbgq];refine ifF (by decide) fun _=>?_
  unfold Zow;have hl:=Zsp a.toNat;obtain ⟨m,rfl⟩:=Int.eq_ofNat_of_zero_le h0;have hm:m <= 32:=by omega
  have hd:=Zlh (u:=m) (k:=1) (by omega)
  have e3:Lib.itoa (m:Int)=Lib.decDigits m:=Zgf m;refine ⟨by simp [L],by show (txt a.toNat).length <= _;omega,fun _=>⟨by show (txt a.toNat).length+_ <= _;unfold Zo;simp only [List.length_cons,List.length_nil];omega,fun _=>?_⟩⟩
  unfold Zfv;rw [e3];refine fun _=>⟨by show (txt a.toNat++_).length+_ <= _;unfold Zo;simp only [List.length_append,List.length_cons,List.length_nil];omega,of_eq hk ?_⟩
  unfold pT pfT;rw [if_pos h];show _=txt a.toNat++[47]++Lib.decDigits m;simp
section
variable {F H H1 H':Heap}
theorem Zlv (hy:Lyd H) {n:Int} (h0: -9223372036854775808 <= n) (h1:n <= 9223372036854775807):FnW Tryz.prog Zfg ⟨[.int .i64 n]⟩ H fun v H'=>v= .string (bstr (Lib.itoa n))∧Keep Nil H H':=by refine (FnQ.run (x:=(n,())) Zbql rfl rfl (Z:=fun _=>False) ?_ (fun _ h=>h.elim) hy.live hy.ok (K:=fun r=>r.1=Lib.itoa n) rfl).mono ?_;simp only [pksA,pkA,SimL,SimV,and_true];exact ⟨trivial,h0,h1⟩;rintro v H' ⟨k,⟨y,u⟩,h,_,hv⟩;have hv:=hv 0 (gZ fun _=>False);simp only [pksA,pkA,outA,SimV] at hv h;exact ⟨by rw [hv.1,h],k⟩
theorem ipF (hy:Lyd H) {a:Int} (h0:0 <= a) (h1:a<4294967296):FnW Tryz.prog Zqp ⟨[.int .u32 a]⟩ H fun v H'=>v= .string (bstr (txt a.toNat))∧Keep Nil H H':=by
 refine (FnQ.run (x:=(a,())) Zcae rfl rfl (Z:=fun _=>False) ?_ (fun _ h=>h.elim) hy.live hy.ok (K:=fun r=>r.1=txt a.toNat) ?_).mono ?_;simp only [pksA,pkA,SimL,SimV,and_true];exact ⟨trivial,h0,by show a <= 4294967295;omega⟩
 ·have e:a=((a.toNat:Nat):Int):=by omega
  show Zvm a _;rw [e];exact Zcix _ _ (by omega) rfl
 rintro v H' ⟨k,⟨y,u⟩,h,_,hv⟩;have hv:=hv 0 (gZ fun _=>False);simp only [pksA,pkA,outA,SimV] at hv h;exact ⟨by rw [hv.1,h],k⟩
def pxT (a n:Int):List UInt8:=pT (UInt32.ofNat a.toNat) n
theorem pxF (hy:Lyd H) {a n:Int} (h0:0 <= a) (h1:a<4294967296) (n0: -9223372036854775808 <= n) (n1:n <= 9223372036854775807):FnW Tryz.prog Zqs ⟨[.agg ⟨[.int .u32 a,.int .i64 n]⟩]⟩ H fun v H'=>v= .string (bstr (pxT a n))∧Keep Nil H H':=by
 refine (FnQ.run (x:=((UInt32.ofNat a.toNat,n),())) Zckv rfl rfl (Z:=fun _=>False) ?_ (fun _ h=>h.elim) hy.live hy.ok (K:=fun r=>r.1=pxT a n) (Zcku _ _ _ rfl)).mono ?_
 ·simp only [pksA,pkA,SimL,SimV,and_true];refine ⟨_,rfl,?_⟩;simp only [lvT,lvE,SimL,SimV,hdT,tlT,and_true];have e:((UInt32.ofNat a.toNat).toNat:Int)=a:=by
   rw [UInt32.toNat_ofNat_of_lt' (by show a.toNat<4294967296;omega)];omega
  have e1:toI .u32 (UInt32.ofNat a.toNat)=a:=e;rw [e1];exact ⟨⟨rfl,h0,by show a <= 4294967295;omega⟩,rfl,n0,n1⟩
 rintro v H' ⟨k,⟨y,u⟩,h,_,hv⟩;have hv:=hv 0 (gZ fun _=>False);simp only [pksA,pkA,outA,SimV] at hv h;exact ⟨by rw [hv.1,h],k⟩
end
end Go.Proofs.YtlkdgfolbllngaaGreatDoor
end
section
set_option maxRecDepth 100000
namespace Go.Proofs.YtlkdgfolbllngaaGreatDoor
open Go.Sh Go.Pc
def strV (w:List UInt8):Value:= .string (bstr w)
def Zia (H:Heap) (wb y:Nat):Prop:=∃n c,H.cell ⟨wb,0,none⟩=some (.slice (some ⟨y,0,none⟩) n c)
structure Wt (H0 H:Heap) (wb:Nat) (ws:List (List UInt8)):Prop where
 nw:H0 wb=none
 k:Keep Nil H0 H
 ex: ∃a c,Blk H wb Zbhx ⟨[.slice a ws.length c]⟩∧Sh.Own H0 H a ws.length c 1 Zm (ws.map strV)∧c <= 9223372036854775807
structure Wx (H H':Heap) (wb:Nat):Prop where
 kp:Keep (fun y=>y=wb∨Zia H wb y) H H'
 rw: ∀y,Zia H' wb y->Zia H wb y∨H y=none
structure Lc (He H:Heap) (wb q:Nat) (T:TypeId) (vs:List Value):Prop where
 nw:He q=none
 blk:Blk H q T ⟨vs⟩
 ne:q≠wb
 nr: ¬Zia H wb q
structure Wb (H0 He H:Heap) (wb:Nat) (ws:List (List UInt8)):Prop where
 k0:Keep Nil H0 He
 w:Wt H0 H wb ws
 x:Wx He H wb
section
variable {H0 He H H1 H2 H':Heap} {wb q:Nat} {ws l:List (List UInt8)} {T Tq:TypeId} {vs us:List Value}
theorem Wt.live (w:Wt H0 H wb ws):H wb≠none:=by obtain ⟨a,c,hb,_⟩:=w.ex;exact hb.some
theorem Wt.row (w:Wt H0 H wb ws) {y:Nat} (h:Zia H wb y):H y≠none∧H0 y=none∧y≠wb:=by obtain ⟨a,c,hb,ho,hcap⟩:=w.ex;obtain ⟨n,k,hc⟩:=h;rw [cellL hb 0 rfl] at hc;simp only [Option.some.injEq,Value.slice.injEq] at hc;obtain ⟨rfl,_⟩:=hc;obtain ⟨c2,hb2⟩:=ho.live rfl;refine ⟨hb2.some,ho.free rfl,fun e=>?_⟩;subst e;unfold Blk at hb hb2;rw [hb] at hb2;cases hb2
theorem Zwu (e:H'.cell ⟨wb,0,none⟩=H.cell ⟨wb,0,none⟩) {y:Nat}:Zia H' wb y↔Zia H wb y:=by unfold Zia;rw [e]
theorem Zbar {b:Nat} (h:H' b=H b) (o:Nat):H'.cell ⟨b,o,none⟩=H.cell ⟨b,o,none⟩:=by unfold Heap.cell;rw [h]
theorem Wt.rnil (w:Wt H0 H wb ws) (k:Keep Nil H H') {y:Nat}:Zia H' wb y↔Zia H wb y:=Zwu (Zbar (k.same wb id w.live) 0)
theorem Wt.nil (w:Wt H0 H wb ws) (k:Keep Nil H H'):Wt H0 H' wb ws:=by obtain ⟨a,c,hb,ho,hcap⟩:=w.ex;exact ⟨w.nw,w.k.trans k,a,c,k.blk hb id,ho.keep k fun _ _ h=>h,hcap⟩
theorem Wx.refl:Wx H H wb:=⟨Keep.refl _ _,fun _ h=> .inl h⟩
theorem Wx.trans (x1:Wx H H1 wb) (x2:Wx H1 H2 wb) (hl:H wb≠none):Wx H H2 wb:=by refine ⟨x1.kp.then x2.kp fun y hy=>?_,fun y hy=>(x2.rw y hy).elim (x1.rw y) fun e=> .inr (x1.kp.free e)⟩;rcases hy with rfl | hy;exact .inl (.inl rfl);exact (x1.rw y hy).imp .inr id
theorem Wx.nil (w:Wt H0 H wb ws) (k:Keep Nil H H'):Wx H H' wb:=⟨k.mono fun _ h=>h.elim,fun y hy=> .inl ((w.rnil k).1 hy)⟩
theorem Lc.new (b:Wb H0 He H wb ws) (hq:H q=none) (hb:Blk H' q T ⟨vs⟩) (k:Keep Nil H H'):Lc He H' wb q T vs:=
 ⟨b.x.kp.free hq,hb,fun e=>b.w.live (e▸hq),fun h=>(b.w.row ((b.w.rnil k).1 h)).1 hq⟩
theorem Lc.nil (c:Lc He H wb q T vs) (w:Wt H0 H wb ws) (k:Keep Nil H H'):Lc He H' wb q T vs:=⟨c.nw,k.blk c.blk id,c.ne,fun h=>c.nr ((w.rnil k).1 h)⟩
theorem Lc.call (c:Lc He H wb q T vs) (x:Wx H H' wb):Lc He H' wb q T vs:=
 ⟨c.nw,x.kp.blk c.blk fun h=>h.elim c.ne c.nr,c.ne,fun h=>(x.rw q h).elim c.nr fun e=>c.blk.some e⟩
theorem Wb.start (w:Wt H0 H wb ws):Wb H0 H H wb ws:=⟨w.k,w,Wx.refl⟩
theorem Wb.live (b:Wb H0 He H wb ws):He wb≠none∨He wb=none:=(Classical.em _).symm
theorem Wb.nil (b:Wb H0 He H wb ws) (k:Keep Nil H H') (hl:He wb≠none):Wb H0 He H' wb ws:=⟨b.k0,b.w.nil k,b.x.trans (Wx.nil b.w k) hl⟩
theorem Wb.call (b:Wb H0 He H wb ws) (w:Wt H0 H' wb l) (x:Wx H H' wb) (hl:He wb≠none):Wb H0 He H' wb l:=⟨b.k0,w,b.x.trans x hl⟩
theorem Wb.wr (b:Wb H0 He H wb ws) (c:Lc He H wb q T vs) (k:Keep (fun y=>y=q) H H'):Wb H0 He H' wb ws:=by have e:=Zbar (k.same wb (fun e=>c.ne e.symm) b.w.live) 0;refine ⟨b.k0,?_,⟨b.x.kp.then k fun y hy=> .inr (hy▸c.nw),fun y hy=>b.x.rw y ((Zwu e).1 hy)⟩⟩;obtain ⟨a,cp,hb,ho,hcap⟩:=b.w.ex;refine ⟨b.w.nw,b.w.k.then k fun y hy=> .inr (hy▸b.k0.free c.nw),a,cp,k.blk hb fun e=>c.ne e.symm,ho.keep k fun y hy e2=>c.nr ?_,hcap⟩;subst hy;exact e2▸⟨_,_,cellL hb 0 rfl⟩
theorem Lc.wr (b:Wb H0 He H wb ws) (c:Lc He H wb q T vs) (k:Keep (fun y=>y=q) H H') (hb:Blk H' q T ⟨us⟩):Lc He H' wb q T us:=
 ⟨c.nw,hb,c.ne,fun h=>c.nr ((Zwu (Zbar (k.same wb (fun e=>c.ne e.symm) b.w.live) 0)).1 h)⟩
theorem Zbqd {H0 H H2:Heap} (hs:Shut H0 H H2):Keep (fun b=>H b=some (.deferred (some []))) H H2:=
 ⟨fun b hb _=>(hs b).elim id fun h=>absurd h.2.1 hb,fun b hb=>by
  rcases hs b with e | ⟨_,_,e⟩;rw [e];exact hb
  ·rw [e];simp⟩
theorem Wt.shut {Hx:Heap} (w:Wt H0 H wb ws) (k:Keep Nil H0 Hx) (hs:Shut Hx H H'):Wt H0 H' wb ws:=by obtain ⟨a,c,hb,ho,hcap⟩:=w.ex;refine ⟨w.nw,⟨fun y hy hne=>?_,fun y hne=>?_⟩,a,c,Zol hb hs,ho.keep (Zbqd hs) fun y hy e=>?_,hcap⟩;rcases hs y with e | ⟨e,_,_⟩;rw [e];exact w.k.same y hy hne;exact absurd e (k.live y hne);exact (Zbqd hs).live y (w.k.live y hne);obtain ⟨c2,hb2⟩:=ho.live hy;unfold Blk at hb2;rw [hb2] at e;cases e
theorem Wb.shut (b:Wb H0 He H wb ws) (hl:He wb≠none) (hs:Shut He H H'):Wt H0 H' wb ws∧Wx He H' wb:=by refine ⟨b.w.shut b.k0 hs,⟨Zbqe b.x.kp hs,fun y hy=>b.x.rw y ((Zwu ?_).1 hy)⟩⟩;obtain ⟨a,c,hb,_⟩:=b.w.ex;rw [cellL hb 0 rfl,cellL (Zol hb hs) 0 rfl]
def WR (H0 H:Heap) (wb:Nat) (ws l:List (List UInt8)):Value->Heap->Prop:=fun v H'=>v= .tuple ⟨[]⟩∧Wt H0 H' wb (ws++l)∧Wx H H' wb
theorem Wb.ret (b:Wb H0 He H wb (ws++l)) (hl:He wb≠none): ∀H2,Shut He H H2->WR H0 He wb ws l (.tuple ⟨[]⟩) H2:=fun H2 hs=>⟨rfl,b.shut hl hs⟩
theorem Zbrb:Tryz.prog.underlying Ztw=some (.slice Zm):=by kernel_rfl
theorem Zcaa: ∃it,Tryz.prog.info? Zm=some it∧it.size=1∧it.bytes=16:=by
 have h:(Tryz.prog.info? Zm).map (fun i=>(i.size,i.bytes))=some (1,16):=by kernel_rfl
 cases hi:Tryz.prog.info? Zm with
 | none=>rw [hi] at h;cases h
 | some it=>
  rw [hi] at h;simp only [Option.map_some,Option.some.injEq,Prod.mk.injEq] at h;exact ⟨it,rfl,h.1,h.2⟩
theorem Zckm:Zdj Tryz.prog Zm=some [.string ⟨#[]⟩]:=by kernel_rfl
theorem Zbpv (w:Wt H0 H wb ws) (hr:Reads H (some ⟨q,0,none⟩) l.length (l.map strV)) (hb:ws.length+l.length <= 1000000000000) {R:Value->Heap->Prop} (hk: ∀H',Wt H0 H' wb (ws++l)->Wx H H' wb->R (.tuple ⟨[]⟩) H'):
  Zbho wb (some ⟨q,0,none⟩) l.length l.length H R:=by
 obtain ⟨a,c,hw,ho,hcap⟩:=w.ex;obtain ⟨it,hi,hsz,hby⟩:=Zcaa;unfold Zbho;refine ⟨a,ws.length,c,cellL hw 0 rfl,Zbof (S:=Nil) Zbrb Zbrb hi hsz hby (by decide) Zckm rfl ho w.k (by rw [Nat.mul_one];exact hr) (fun v hv=>?_) (by omega) fun a' cap' H1 q0 q1 q2 q3 q4=>⟨a',_,cap',rfl,?_⟩⟩
 obtain ⟨u,_,rfl⟩:=List.mem_map.1 hv;rfl;have ne: ∀y,a=some ⟨y,0,none⟩->y≠wb:=fun y hy=>by subst hy;exact (w.row ⟨_,_,cellL hw 0 rfl⟩).2.2
 have hw1:=q3.blk hw fun e=>ne wb e rfl;refine stL hw1 (by simp) rfl fun H2 hb2 k2=>hk H2 ⟨w.nw,q4.then k2 fun y hy=> .inr (hy▸w.nw),a',cap',?_,?_,q0 hcap⟩ ⟨⟨fun y hy hne=>?_,fun y hy=>k2.live y (q3.live y hy)⟩,fun y hy=>?_⟩
 rw [List.length_append];exact hb2;rw [List.length_append,List.map_append];refine q1.keep k2 fun y hy e=>?_;rcases q2 y hy with h | h;exact ne y h e;exact w.live (e▸h);rw [k2.same y (fun e=>hy (.inl e)) (q3.live y hne)];refine q3.same y (fun e=>hy (.inr ?_)) hne;subst e;exact ⟨_,_,cellL hw 0 rfl⟩;obtain ⟨n,cc,hc⟩:=hy;rw [cellL hb2 0 rfl] at hc;simp only [List.set_cons_zero,Option.some.injEq,Value.slice.injEq] at hc;refine (q2 y hc.1).imp (fun e=>?_) id;subst e;exact ⟨_,_,cellL hw 0 rfl⟩
theorem Zcgr (w:Wt H0 H wb ws) (hr:Reads H (some ⟨q,0,none⟩) l.length (l.map strV)) (hb:ws.length+l.length <= 1000000000000):FnW Tryz.prog Zbi ⟨[.pointer (some ⟨wb,0,none⟩),.slice (some ⟨q,0,none⟩) l.length l.length]⟩ H (WR H0 H wb ws l):=
 Zcne wb (some ⟨q,0,none⟩) l.length l.length (Zbpv w hr hb fun H' w' x'=>(Wb.mk w.k w' x':Wb H0 H H' wb (ws++l)).ret w.live)
theorem Zcgs (w:Wt H0 H wb ws) (hr:Reads H (some ⟨q,0,none⟩) l.length (l.map strV)) (hb:ws.length+l.length <= 1000000000000) {K:Heap->Prop} (hk: ∀H',Wt H0 H' wb (ws++l)->Wx H H' wb->K H'):
  DefG Tryz.prog Zbi [.pointer (some ⟨wb,0,none⟩),.slice (some ⟨q,0,none⟩) l.length l.length] H K:=by
 have h:=Zbpv (R:=fun _ H'=>K H') w hr hb hk;refine DefG.intro (plan:=⟨[],[],[],[]⟩) Tryz.func21 (by rfl) (by kernel_rfl) (by kernel_rfl) (by kernel_rfl) ?_
 exact cast (by kernel_rfl) h
theorem sayN (b:Wb H0 He H wb ws) (hl:He wb≠none) (l:List (List UInt8)) (hb:ws.length+l.length <= 1000000000000) {K:Heap->Prop} (hk: ∀H',Wb H0 He H' wb (ws++l)->Wx H H' wb->K H'):
  NewW H (.cells ⟨l.map strV⟩ Zm) fun q H1=>FnW Tryz.prog Zbi ⟨[.pointer (some ⟨wb,0,none⟩),.slice (some ⟨q,0,none⟩) l.length l.length]⟩ H1 fun v H2=>v= .tuple ⟨[]⟩∧K H2:=by
 refine newB fun q H1 hq bq k1=>?_;have b1:=b.nil k1 hl;refine (Zcgr b1.w (Reads.blk bq (by simp) fun j hj=>by rw [Nat.zero_add,List.getElem?_toArray]) hb).mono ?_
 rintro _ H2 ⟨rfl,w2,x2⟩;exact ⟨rfl,hk H2 (b1.call w2 x2 hl) ((Wx.nil b.w k1).trans x2 b.w.live)⟩
end
end Go.Proofs.YtlkdgfolbllngaaGreatDoor
end
section
set_option maxRecDepth 100000
namespace Go.Proofs.YtlkdgfolbllngaaGreatDoor
open Go.Sh Go.Pc
abbrev W8:=List (List UInt8)
def Zel (n:Int):List UInt8:=Lib.itoa (Int.tdiv n 65536)++58::Lib.itoa (Int.tmod n 65536)
def Zly (n:Int):W8:=if n=0 then [Zgl] else if n=1 then [Zha] else if n=2 then [Zhy] else []
def Zfx (op pa pl n:Int):W8:=
 if op=4 then [Zdi,w_in,pxT pa pl,w_le]++[Lib.itoa n] else if op=5 then [Zdi,w_is,pxT pa pl]
 else if op=6 then [Zbv,Zey]++[Lib.itoa n] else if op=7 then [Zbv,Zfo]++[Lib.itoa n] else if op=8 then [Zbv,Zbe]++[Lib.itoa n] else if op=9 then [Zbv,Zgm]++[Lib.itoa n]
 else if op=10 then [Zdh]++[Zel n] else if op=11 then [Zbe]++Zly n else if op=12 then [Zbj,Zjn]++[Lib.itoa n] else [[63]]
mutual
def wC:Cd->Int->W8
 | .mk op l pa pl n,lv=>if op=1 then (if lv≥2 then [w_lp] else [])++(wCs l [Zfm] 2 true++(if lv≥2 then [w_rp] else []))
   else if op=2 then (if lv≥1 then [w_lp] else [])++(wCs l [w_or] 1 true++(if lv≥1 then [w_rp] else []))
   else if op=3 then Zgz::wCs l [] 2 true else Zfx op pa pl n
def wCs:List Cd->W8->Int->Bool->W8
 | [],_,_,_=>[]
 | c::cs,b,inner,first=>(if first then [] else b)++(wC c inner++wCs cs b inner false)
end
def i64R (n:Int):Prop:= -9223372036854775808 <= n∧n <= 9223372036854775807
def u32R (n:Int):Prop:=0 <= n∧n<4294967296
mutual
def cdR:Cd->Prop
 | .mk _ l pa pl n=>(u32R pa∧i64R pl∧i64R n)∧cdRs l
def cdRs:List Cd->Prop
 | []=>True
 | c::cs=>cdR c∧cdRs cs
end
theorem Zbiv: ∀{l:List Cd} {i:Nat} {c:Cd},cdRs l->l[i]? =some c->cdR c
 | d::l,0,c,h,e=>by simp only [List.getElem?_cons_zero,Option.some.injEq] at e;subst e;simp only [cdRs] at h;exact h.1
 | d::l,i+1,c,h,e=>by simp only [cdRs] at h;exact Zbiv (l:=l) (i:=i) h.2 (by simpa using e)
 | [],i,c,h,e=>by simp at e
section
variable {F H0 He H H1 H2 H':Heap} {wb q:Nat} {ws l:W8} {n op pa pl:Int}
theorem Zod (hy:Lyd H0) (w:Wt H0 H wb ws) (hn:i64R n) (hb:ws.length+1 <= 1000000000000):FnW Tryz.prog Zhl ⟨[.pointer (some ⟨wb,0,none⟩),.int .i64 n]⟩ H (WR H0 H wb ws [Lib.itoa n]):=by refine Zcmb wb n ?_;unfold Zbuf;refine (Zlv (hy.keep w.k) hn.1 hn.2).mono ?_;rintro _ H1 ⟨rfl,k1⟩;exact ⟨_,rfl,sayN ((Wb.start w).nil k1 w.live) w.live [Lib.itoa n] hb fun H2 b2 _=>b2.ret w.live⟩
theorem Zblw {n:Int} (h:i64R n):(Lib.itoa n).length <= 20:=by
 unfold i64R at h;unfold Lib.itoa;split
 ·have:=Zlh (u:=n.natAbs) (k:=18) (by omega)
  simp only [List.length_cons];omega
 ·have:=Zlh (u:=n.toNat) (k:=18) (by omega)
  omega
theorem Zbit {a b:List UInt8} {K:ByteArray->Prop} (h:a.length+b.length <= 1000000000000000000) (hk:K (bstr (a++b))):CatK (bstr a) (bstr b) K:=by
 unfold CatK;rw [Zbip];refine ⟨?_,hk⟩;have e1:(bstr a).size=a.length:=by show a.toArray.size=_;simp
 have e2:(bstr b).size=b.length:=by show b.toArray.size=_;simp
 rw [e1,e2];show ((a.length+b.length:Nat):Int) <= 9223372036854775807;omega
theorem Zbiz (hy:Lyd H0) (w:Wt H0 H wb ws) (hn:i64R n) (hb:ws.length+1 <= 1000000000000):FnW Tryz.prog Zuz ⟨[.pointer (some ⟨wb,0,none⟩),.int .i64 n]⟩ H (WR H0 H wb ws [Zel n]):=by
 have h1:i64R (Int.tdiv n 65536):=by unfold i64R at hn ⊢;have:(Int.tdiv n 65536).natAbs=n.natAbs/65536:=Int.natAbs_tdiv n 65536;omega
 have h2:i64R (Int.tmod n 65536):=by unfold i64R at hn ⊢;have:(Int.tmod n 65536).natAbs=n.natAbs%65536:=Int.natAbs_tmod n 65536;omega
 have l1:=Zblw h1;have l2:=Zblw h2;refine Zcni wb n ?_;unfold Zbvx;rw [Zbl h1.1 h1.2];refine ⟨by decide,(Zlv (hy.keep w.k) h1.1 h1.2).mono ?_⟩
 rintro _ H1 ⟨rfl,k1⟩;refine ⟨_,rfl,Zbit (b:=[58]) (by simp only [List.length_singleton];omega) ⟨by decide,(Zlv ((hy.keep w.k).keep k1) h2.1 h2.2).mono ?_⟩⟩
 rintro _ H2 ⟨rfl,k2⟩;refine ⟨_,rfl,Zbit (by simp only [List.length_append,List.length_singleton];omega) ?_⟩
 have e:Zel n=Lib.itoa (Int.tdiv n 65536)++[58]++Lib.itoa (Int.tmod n 65536):=by unfold Zel;simp
 rw [e];exact sayN (((Wb.start w).nil k1 w.live).nil k2 w.live) w.live [_] hb fun H3 b3 _=>b3.ret w.live
theorem Zbfk (hy:Lyd H0) (b:Wb H0 He H wb (ws++l)) (hl:He wb≠none) (hn:i64R n) (hb:(ws++l).length+1 <= 1000000000000):
  FnW Tryz.prog Zhl ⟨[.pointer (some ⟨wb,0,none⟩),.int .i64 n]⟩ H fun v H'=>v= .tuple ⟨[]⟩∧∀H2,Shut He H' H2->WR H0 He wb ws (l++[Lib.itoa n]) (.tuple ⟨[]⟩) H2:=by
 refine (Zod hy b.w hn hb).mono ?_;rintro _ H1 ⟨rfl,w1,x1⟩;refine ⟨rfl,?_⟩;have b1:=b.call w1 x1 hl;rw [List.append_assoc] at b1;exact b1.ret hl
theorem Zxq (hy:Lyd H0) {a:Option Addr} {m k:Nat} {T:TypeId} (b:Wb H0 He H wb ws) (c:Lc He H wb q T [.int .i64 op,.slice a m k,.int .u32 pa,.int .i64 pl,.int .i64 n]) (hl:He wb≠none) (hn:i64R n) (hb:ws.length+5 <= 1000000000000) {t:Bool} (ht:t=decide (6 <= op∧op <= 9)) (h4:op≠4) (h5:op≠5):
  Zpi wb q op t H fun v H1=>∀H2,Shut He H1 H2->WR H0 He wb ws (Zfx op pa pl n) v H2:=by
 unfold Zpi;refine IfB.intro (fun e=>?_) fun e=>?_
 ·rw [ht] at e;have e:=of_decide_eq_true e;refine newB fun r H1 hr br k1=>?_;have b1:=b.nil k1 hl;have c1:=c.nil b.w k1;have e6:op=6∨op=7∨op=8∨op=9:=by omega
  have go: ∀(j:Nat) (w:List UInt8),op=6+j->j<4->[strV Zey,strV Zfo,strV Zbe,strV Zgm][j]? =some (strV w)->Zfx op pa pl n= [Zbv,w]++[Lib.itoa n]->
    ∃x37:Int,H1.cell ⟨q,0,none⟩=some (Value.int .i64 x37)∧InB (IntKind.wrap .i64 (x37 - 6)) 4 fun x39i=>∃x40:ByteArray,H1.cell ⟨r,0+x39i*1,none⟩=some (Value.string x40)∧
     NewW H1 (Obj.cells ⟨[.string (ByteArray.mk #[112,97,116,104]),.string x40]⟩ Zm) fun x41b H11=>FnW Tryz.prog Zbi ⟨[.pointer (some ⟨wb,0,none⟩),.slice (some ⟨x41b,0,none⟩) 2 2]⟩ H11 fun x42v H12=>
      x42v= .tuple ⟨[]⟩∧Zbgw wb q H12 fun v H1=>∀H2,Shut He H1 H2->WR H0 He wb ws (Zfx op pa pl n) v H2:=fun j w ej hj hw el=>by
   refine ⟨_,cellL c1.blk 0 rfl,InB.intro j (by rw [Zbl (by omega) (by omega)];omega) hj ⟨bstr w,cellL br _ (by rw [Nat.zero_add,Nat.mul_one];exact hw),?_⟩⟩
   refine sayN b1 hl [Zbv,w] (by simp only [List.length_cons,List.length_nil];omega) fun H2 b2 x2=>?_
   unfold Zbgw;have c2:=c1.call x2;rw [el];exact ⟨_,cellL c2.blk 4 rfl,Zbfk hy b2 hl hn (by simp only [List.length_append,List.length_cons,List.length_nil];omega)⟩
  rcases e6 with rfl | rfl | rfl | rfl;exact go 0 Zey rfl (by decide) rfl rfl
  exact go 1 Zfo rfl (by decide) rfl rfl
  exact go 2 Zbe rfl (by decide) rfl rfl
  exact go 3 Zgm rfl (by decide) rfl rfl
 ·rw [ht] at e;have e:=of_decide_eq_false e;have n6:op≠6:=fun h=>e (by omega)
  have n7:op≠7:=fun h=>e (by omega)
  have n8:op≠8:=fun h=>e (by omega)
  have n9:op≠9:=fun h=>e (by omega)
  unfold Zbss Zfx;rw [if_neg h4,if_neg h5,if_neg n6,if_neg n7,if_neg n8,if_neg n9];refine IfB.intro (fun h=>?_) fun h=>?_
  ·have h:op=10:=by simpa using h
   rw [if_pos h];refine sayN b hl [Zdh] (by simp only [List.length_cons,List.length_nil];omega) fun H2 b2 x2=>⟨_,cellL (c.call x2).blk 4 rfl,(Zbiz hy b2.w hn (by simp only [List.length_append,List.length_cons,List.length_nil];omega)).mono ?_⟩
   rintro _ H3 ⟨rfl,w3,x3⟩;have b3:=b2.call w3 x3 hl;rw [List.append_assoc] at b3;exact ⟨rfl,b3.ret hl⟩
  have h:op≠10:=by simpa using h
  rw [if_neg h];refine IfB.intro (fun h=>?_) fun h=>?_
  ·have h:op=11:=by simpa using h
   rw [if_pos h];refine sayN b hl [Zbe] (by simp only [List.length_cons,List.length_nil];omega) fun H2 b2 x2=>?_
   have c2:=c.call x2;have j3f:Zly n= []->Zte wb q false H2 fun v H1=>∀H2,Shut He H1 H2->WR H0 He wb ws ([Zbe]++Zly n) v H2:=fun e=>by unfold Zte;rw [e,List.append_nil];exact ifF rfl (b2.ret hl)
   refine ⟨_,cellL c2.blk 4 rfl,IfB.intro (fun g0=>⟨_,cellL c2.blk 4 rfl,?_⟩) fun g0=>?_⟩
   ·have g0:=of_decide_eq_true g0;by_cases g2:n <= 2
    ·rw [decide_eq_true g2];unfold Zte;refine ifT rfl (newB fun r H3 hr br k3=>?_);have b3:=b2.nil k3 hl;have c3:=c2.nil b2.w k3;have e3:n=0∨n=1∨n=2:=by omega
     have go: ∀(j:Nat) (w:List UInt8),n=j->j<3->[strV Zgl,strV Zha,strV Zhy][j]? =some (strV w)->Zly n= [w]->
       ∃x72:Int,H3.cell ⟨q,4,none⟩=some (Value.int .i64 x72)∧InB x72 3 fun x73i=>∃x74:ByteArray,H3.cell ⟨r,0+x73i*1,none⟩=some (Value.string x74)∧
        NewW H3 (Obj.cells ⟨[.string x74]⟩ Zm) fun x41b H11=>FnW Tryz.prog Zbi ⟨[.pointer (some ⟨wb,0,none⟩),.slice (some ⟨x41b,0,none⟩) 1 1]⟩ H11 fun x42v H12=>
         x42v= .tuple ⟨[]⟩∧∀H2,Shut He H12 H2->WR H0 He wb ws ([Zbe]++Zly n) (.tuple ⟨[]⟩) H2:=fun j w ej hj hw el=>by
      refine ⟨_,cellL c3.blk 4 rfl,InB.intro j ej hj ⟨bstr w,cellL br _ (by rw [Nat.zero_add,Nat.mul_one];exact hw),?_⟩⟩
      rw [el];refine sayN b3 hl [w] (by simp only [List.length_append,List.length_cons,List.length_nil];omega) fun H4 b4 x4=>?_
      rw [List.append_assoc] at b4;exact b4.ret hl
     rcases e3 with rfl | rfl | rfl;exact go 0 Zgl rfl (by decide) rfl rfl
     exact go 1 Zha rfl (by decide) rfl rfl
     exact go 2 Zhy rfl (by decide) rfl rfl
    rw [decide_eq_false g2];refine j3f ?_;unfold Zly;rw [if_neg (by omega),if_neg (by omega),if_neg (by omega)]
   have g0:=of_decide_eq_false g0;refine j3f ?_;unfold Zly;rw [if_neg (by omega),if_neg (by omega),if_neg (by omega)]
  have h:op≠11:=by simpa using h
  rw [if_neg h];refine IfB.intro (fun h=>?_) fun h=>?_
  ·have h:op=12:=by simpa using h
   rw [if_pos h];exact sayN b hl [Zbj,Zjn] (by simp only [List.length_cons,List.length_nil];omega) fun H2 b2 x2=>⟨_,cellL (c.call x2).blk 4 rfl,Zbfk hy b2 hl hn (by simp only [List.length_append,List.length_cons,List.length_nil];omega)⟩
  ·have h:op≠12:=by simpa using h
   rw [if_neg h];exact sayN b hl [[63]] (by simp only [List.length_cons,List.length_nil];omega) fun H2 b2 x2=>b2.ret hl
theorem Zciv (hy:Lyd H0) (w:Wt H0 H wb ws) {a:Option Addr} {m k:Nat} (hpa:u32R pa) (hpl:i64R pl) (hn:i64R n) (hb:ws.length+5 <= 1000000000000):
  FnW Tryz.prog Zbbu ⟨[.pointer (some ⟨wb,0,none⟩),.agg ⟨[.int .i64 op,.slice a m k,.int .u32 pa,.int .i64 pl,.int .i64 n]⟩]⟩ H (WR H0 H wb ws (Zfx op pa pl n)):=by
 refine Zcld wb op a m k pa pl n ?_;unfold Zbst;have hl:=w.live;have b0:=Wb.start w;refine newB fun q H1 hq bq k1=>?_;have c1:=Lc.new b0 hq bq k1;have b1:=b0.nil k1 hl;refine ⟨_,cellL c1.blk 0 rfl,IfB.intro (fun h=>⟨_,cellL c1.blk 2 rfl,_,cellL c1.blk 3 rfl,(pxF ((hy.keep w.k).keep k1) hpa.1 hpa.2 hpl.1 hpl.2).mono ?_⟩) fun h=>IfB.intro (fun h5=>⟨_,cellL c1.blk 2 rfl,_,cellL c1.blk 3 rfl,(pxF ((hy.keep w.k).keep k1) hpa.1 hpa.2 hpl.1 hpl.2).mono ?_⟩) fun h5=>?_⟩
 ·have h:op=4:=by simpa using h
  rintro _ H2 ⟨rfl,k2⟩;have b2:=b1.nil k2 hl;have c2:=c1.nil b1.w k2;unfold Zfx;rw [if_pos h];exact ⟨_,rfl,sayN b2 hl [Zdi,w_in,pxT pa pl,w_le] (by simp only [List.length_cons,List.length_nil];omega) fun H3 b3 x3=>⟨_,cellL (c2.call x3).blk 4 rfl,Zbfk hy b3 hl hn (by simp only [List.length_append,List.length_cons,List.length_nil];omega)⟩⟩
 ·have h:op≠4:=by simpa using h
  have h5:op=5:=by simpa using h5
  rintro _ H2 ⟨rfl,k2⟩;have b2:=b1.nil k2 hl;unfold Zfx;rw [if_neg h,if_pos h5];exact ⟨_,rfl,sayN b2 hl [Zdi,w_is,pxT pa pl] (by simp only [List.length_cons,List.length_nil];omega) fun H3 b3 x3=>b3.ret hl⟩
 have h:op≠4:=by simpa using h
 have h5:op≠5:=by simpa using h5
 refine IfB.intro (fun g=>?_) fun g6=>IfB.intro (fun g=>?_) fun g7=>IfB.intro (fun g=>?_) fun g8=>?_
 ·refine Zxq hy b1 c1 hl hn hb ?_ h h5;rw [g];have g:op=6:=by simpa using g
  exact (decide_eq_true (by omega)).symm
 ·refine Zxq hy b1 c1 hl hn hb ?_ h h5;rw [g];have g:op=7:=by simpa using g
  exact (decide_eq_true (by omega)).symm
 ·refine Zxq hy b1 c1 hl hn hb ?_ h h5;rw [g];have g:op=8:=by simpa using g
  exact (decide_eq_true (by omega)).symm
 ·refine Zxq hy b1 c1 hl hn hb ?_ h h5;have g6:op≠6:=by simpa using g6
  have g7:op≠7:=by simpa using g7
  have g8:op≠8:=by simpa using g8
  show decide (op=9)=_;by_cases g:op=9;rw [decide_eq_true g,decide_eq_true (by omega)]
  rw [decide_eq_false g,decide_eq_false (by omega)]
end
end Go.Proofs.YtlkdgfolbllngaaGreatDoor
end
section
set_option maxRecDepth 100000
namespace Go.Proofs.YtlkdgfolbllngaaGreatDoor
open Go.Sh Go.Pc
section
variable {F H0 He H H1 H2 H':Heap} {wb q:Nat} {ws:W8} {n op pa pl lv inner:Int} {l:List Cd} {c:Cd} {v:List Value} {a:Option Addr} {cp:Nat} {bt:List UInt8}
theorem Zccj {n:Nat} {x:ByteArray} {R:Value->Heap->Prop} (h:IfB (decide (lv≥inner))
   (NewW H (.cells ⟨[.string (ByteArray.mk #[40])]⟩ Zm) fun x16b H1=>FnW Tryz.prog Zbi ⟨[.pointer (some ⟨wb,0,none⟩),.slice (some ⟨x16b,0,none⟩) 1 1]⟩ H1 fun x17v H2=>x17v= .tuple ⟨[]⟩∧
    NewW H2 (.cells ⟨[.string (ByteArray.mk #[41])]⟩ Zm) fun x19b H3=>Zzb wb a n cp x inner H3 fun v H4=>∀H5,Shut H H4 H5->DefG Tryz.prog Zbi [.pointer (some ⟨wb,0,none⟩),.slice (some ⟨x19b,0,none⟩) 1 1] H5 (R v))
   (Zzb wb a n cp x inner H fun v H4=>∀H5,Shut H H4 H5->R v H5)):
  FnW Tryz.prog Zus ⟨[.pointer (some ⟨wb,0,none⟩),.slice a n cp,.string x,.int .i64 lv,.int .i64 inner]⟩ H R:=by
 refine FnW.of_defer (plan:=⟨[],[(4,[22],[.int .i64],[0,2,4,20,21])],[],[]⟩) (ct:=14) (t1:=18) (t2:=19) (g:=Zbi) Tryz.func132 (by rfl) (by kernel_rfl) (by kernel_rfl) (by kernel_rfl) (by kernel_rfl) (by kernel_rfl) (by kernel_rfl) (by kernel_rfl) (by kernel_rfl)
  (by rfl) (by rfl) (by rfl) (by kernel_rfl) (by kernel_rfl) (by kernel_rfl) ⟨_,Tryz.func21,by kernel_rfl,by kernel_rfl⟩ (by kernel_rfl) ?_
 exact cast (by kernel_rfl) h
def Zpu (H0:Heap) (wb:Nat) (v:List Value) (c:Cd):Prop:=∀{H:Heap} {ws:W8} (lv:Int),Wt H0 H wb ws->ws.length+(wC c lv).length+5 <= 1000000000000->
 FnW Tryz.prog Zqy ⟨[.pointer (some ⟨wb,0,none⟩),.agg ⟨v⟩,.int .i64 lv]⟩ H (WR H0 H wb ws (wC c lv))
theorem Zbrg {l:List Cd} {j:Nat} {c:Cd} (h:l[j]? =some c) (b:W8) (inner:Int) (f:Bool):wCs (l.drop j) b inner f=(if f then [] else b)++(wC c inner++wCs (l.drop (j+1)) b inner false):=by obtain ⟨hj,rfl⟩:=List.getElem?_eq_some_iff.1 h;rw [List.drop_eq_getElem_cons hj];simp only [wCs]
theorem Zbnc (fr:Keep Nil F H0) (hr:RwAt (fun F v c=>CdAt F v c∧Zpu H0 wb v c) 5 F a cp l) (w:Wt H0 H wb ws) (hb:ws.length+(wCs l [bt] inner true).length+5 <= 1000000000000) {R:Value->Heap->Prop}
  (hk: ∀H',Wt H0 H' wb (ws++wCs l [bt] inner true)->Wx H H' wb->R (.tuple ⟨[]⟩) H'):Zzb wb a l.length cp (bstr bt) inner H R:=by
 have hl:=w.live;have lim:=hr.cap.2;unfold Zzb;refine Zbt (fun m s Hx=>∃(j:Nat) (sf:W8),s=((j:Int),())∧m+j=l.length∧Wb H0 H Hx wb (ws++sf)∧sf++wCs (l.drop j) [bt] inner (decide (j=0))=wCs l [bt] inner true) l.length ⟨0,[],rfl,rfl,by rw [List.append_nil];exact Wb.start w,rfl⟩ ?_
 rintro m s Hx ⟨j,sf,rfl,hmj,b,hsf⟩ g;unfold Zbub;refine IfB.intro (fun e=>?_) fun e=>?_
 ·have e:=of_decide_eq_true e;simp only at e;have hjl:j<l.length:=by omega
  have hx:=List.getElem?_eq_getElem hjl;generalize l[j]=x at hx;rw [Zbrg hx] at hsf;have hlen:=congrArg List.length hsf;simp only [List.length_append] at hlen;refine Zbc (z:=((j:Nat):Int)) hr (fr.trans b.w.k) (fun _ _ h=>h.1.len) hx rfl (fun b1 o1 v1 _ h1 _ hc1=>?_) (by decide)
  obtain ⟨h1,h2⟩:=h1;obtain ⟨op1,a1,n1,k1,pa1,pl1,m1,rfl⟩:=h1.five;refine ⟨_,hc1 0 (by decide),_,_,_,hc1 1 (by decide),_,hc1 2 (by decide),_,hc1 3 (by decide),_,hc1 4 (by decide),newB fun u H1 hu bu ku=>?_⟩
  have c1:=Lc.new b hu bu ku;have b1:=b.nil ku hl;refine st5 c1.blk fun H2 b2 k2=>?_;have c2:=c1.wr b1 k2 b2;have b2:=b1.wr c1 k2;have fin: ∀(H3:Heap) (sg:W8),Wb H0 H H3 wb (ws++sg)->Lc H H3 wb u Zba [.int .i64 op1,.slice a1 n1 k1,.int .u32 pa1,.int .i64 pl1,.int .i64 m1]->sg=sf++(if decide (j=0)=true then [] else [bt])->
    Zzc wb (bstr bt) inner u a l.length cp (j:Int) (fun x' H'=>∃k',k'<m∧∃(j:Nat) (sf:W8),x'=((j:Int),())∧k'+j=l.length∧Wb H0 H H' wb (ws++sf)∧sf++wCs (l.drop j) [bt] inner (decide (j=0))=wCs l [bt] inner true) H3 R:=by
   intro H3 sg b3 c3 hsg;unfold Zzc;have hlg:=congrArg List.length hsg;simp only [List.length_append] at hlg;refine ld5 c3.blk ((h2 inner b3.w ?_).mono ?_);simp only [List.length_append];omega
   ·rintro _ H4 ⟨rfl,w4,x4⟩;have b4:=b3.call w4 x4 hl;rw [List.append_assoc] at b4;refine ⟨rfl,m - 1,by omega,j+1,_,Prod.ext ?_ rfl,by omega,b4,?_⟩
    ·show IntKind.wrap .i64 ((j:Int)+1)=((j+1:Nat):Int);rw [Zbl (by omega) (by omega)];omega
    ·rw [hsg,← hsf,decide_eq_false (by omega: ¬j+1=0)]
     simp only [List.append_assoc]
  refine IfB.intro (fun e0=>?_) fun e0=>?_
  ·have e0:=of_decide_eq_true e0;have e0: ¬j=0:=fun h=>by subst h;exact absurd e0 (by decide)
   have hif:(if decide (j=0)=true then ([]:W8) else [bt])= [bt]:=by rw [if_neg (by simpa using e0)]
   rw [hif] at hlen;simp only [List.length_singleton] at hlen;refine sayN b2 hl [bt] (by simp only [List.length_append,List.length_singleton];omega) fun H3 b3 x3=>?_
   rw [List.append_assoc] at b3;exact fin H3 _ b3 (c2.call x3) (by rw [hif])
  ·have e0:=of_decide_eq_false e0;have e0:j=0:=by simp only at e0;omega
   exact fin H2 sf b2 c2 (by rw [if_pos (decide_eq_true e0),List.append_nil])
 ·have e:=of_decide_eq_false e;simp only at e;have hdrop:l.drop j= []:=List.drop_eq_nil_of_le (by omega)
  rw [hdrop] at hsf;simp only [wCs,List.append_nil] at hsf;rw [hsf] at b;exact hk Hx b.w b.x
theorem Zbnb (fr:Keep Nil F H0) (hr:RwAt (fun F v c=>CdAt F v c∧Zpu H0 wb v c) 5 F a cp l) (w:Wt H0 H wb ws) (lv:Int) (hb:ws.length+((if lv≥inner then [w_lp] else [])++(wCs l [bt] inner true++(if lv≥inner then [w_rp] else []))).length+5 <= 1000000000000):
  FnW Tryz.prog Zus ⟨[.pointer (some ⟨wb,0,none⟩),.slice a l.length cp,.string (bstr bt),.int .i64 lv,.int .i64 inner]⟩ H (WR H0 H wb ws ((if lv≥inner then [w_lp] else [])++(wCs l [bt] inner true++(if lv≥inner then [w_rp] else [])))):=by
 have hl:=w.live;refine Zccj (IfB.intro (fun e=>?_) fun e=>?_)
 ·have e:=of_decide_eq_true e;rw [if_pos e,if_pos e] at hb ⊢;simp only [List.length_append,List.length_singleton] at hb;refine sayN (Wb.start w) hl [w_lp] (by simp only [List.length_singleton];omega) fun H2 b2 x2=>newB fun r H3 hr3 br k3=>?_
  have c3:=Lc.new b2 hr3 br k3;have b3:=b2.nil k3 hl;refine Zbnc fr hr b3.w (by simp only [List.length_append,List.length_singleton];omega) fun H4 w4 x4 H5 hs=>?_
  have b4:=b3.call w4 x4 hl;have c4:=c3.call x4;obtain ⟨w5,x5⟩:=b4.shut hl hs;have c5:=Zol c4.blk hs;refine Zcgs (l:=[w_rp]) w5 (Reads.blk (c:=⟨[w_rp].map strV⟩) c5 (by simp) fun j hj=>by rw [Nat.zero_add,List.getElem?_toArray]) (by simp only [List.length_append,List.length_singleton];omega) fun H6 w6 x6=>⟨rfl,?_,x5.trans x6 hl⟩
  simp only [List.append_assoc] at w6 ⊢;exact w6
 have e:=of_decide_eq_false e;rw [if_neg e,if_neg e] at hb ⊢;simp only [List.nil_append,List.append_nil] at hb ⊢;exact Zbnc fr hr w (by omega) fun H4 w4 x4=>((Wb.start w).call w4 x4 hl).ret hl
theorem Zbxy (hy:Lyd H0) (fr:Keep Nil F H0) (h:CdAt F v c):cdR c->Zpu H0 wb v c:=by
 induction h with
 | mk op pa pl n a cp vs l hr hlen hc hm ih=>
  intro hR H ws lv w hb;simp only [cdR] at hR;obtain ⟨⟨hpa,hpl,hn⟩,hRs⟩:=hR;have hl:=w.live;have hrow:RwAt (fun F v c=>CdAt F v c∧Zpu H0 wb v c) 5 F a cp l:=⟨⟨vs,hr,hlen,fun i v d e1 e2=>⟨hm i v d e1 e2,ih i v d e1 e2 (Zbiv hRs e2)⟩⟩,hc⟩;refine Zcml wb op a l.length cp pa pl n lv ?_;unfold Zbuw;have b0:=Wb.start w;refine newB fun q H1 hq bq k1=>?_;have c1:=Lc.new b0 hq bq k1;have b1:=b0.nil k1 hl;unfold wC at hb ⊢;refine ⟨_,cellL c1.blk 0 rfl,IfB.intro (fun g=>?_) fun g1=>IfB.intro (fun g=>?_) fun g2=>IfB.intro (fun g=>?_) fun g3=>?_⟩
  ·have g:op=1:=by simpa using g
   rw [if_pos g] at hb ⊢;refine ⟨_,_,_,cellL c1.blk 1 rfl,(Zbnb (bt:=Zfm) fr hrow b1.w lv hb).mono ?_⟩;rintro _ H2 ⟨rfl,w2,x2⟩;exact ⟨rfl,(b1.call w2 x2 hl).ret hl⟩
  ·have g1:op≠1:=by simpa using g1
   have g:op=2:=by simpa using g
   rw [if_neg g1,if_pos g] at hb ⊢;refine ⟨_,_,_,cellL c1.blk 1 rfl,(Zbnb (bt:=w_or) fr hrow b1.w lv hb).mono ?_⟩;rintro _ H2 ⟨rfl,w2,x2⟩;exact ⟨rfl,(b1.call w2 x2 hl).ret hl⟩
  ·have g1:op≠1:=by simpa using g1
   have g2:op≠2:=by simpa using g2
   have g:op=3:=by simpa using g
   rw [if_neg g1,if_neg g2,if_pos g] at hb ⊢;simp only [List.length_cons] at hb;refine sayN b1 hl [Zgz] (by simp only [List.length_singleton];omega) fun H2 b2 x2=>⟨_,_,_,cellL (c1.call x2).blk 1 rfl,?_⟩
   have lim:=hc.2;refine Zbt (fun m s Hx=>∃(j:Nat) (sf:W8),s=((j:Int),())∧m+j=l.length∧Wb H0 H Hx wb (ws++(Zgz::sf))∧sf++wCs (l.drop j) [] 2 true=wCs l [] 2 true) l.length ⟨0,[],rfl,rfl,b2,rfl⟩ ?_;rintro m s Hx ⟨j,sf,rfl,hmj,b,hsf⟩ gg;unfold Zbuv;refine IfB.intro (fun e=>?_) fun e=>?_
   ·have e:=of_decide_eq_true e;simp only at e;have hjl:j<l.length:=by omega
    have hx:=List.getElem?_eq_getElem hjl;generalize l[j]=x at hx;rw [Zbrg hx] at hsf;have hln:=congrArg List.length hsf;simp only [List.length_append,if_true,List.length_nil] at hln;refine Zbc (z:=((j:Nat):Int)) hrow (fr.trans b.w.k) (fun _ _ h=>h.1.len) hx rfl (fun b1 o1 v1 _ h1 _ hc1=>?_) (by decide)
    obtain ⟨h1,h2⟩:=h1;obtain ⟨op1,a1,n1,k1,pa1,pl1,m1,rfl⟩:=h1.five;refine ⟨_,hc1 0 (by decide),_,_,_,hc1 1 (by decide),_,hc1 2 (by decide),_,hc1 3 (by decide),_,hc1 4 (by decide),newB fun u H1 hu bu ku=>?_⟩
    have c1:=Lc.new b hu bu ku;have b1:=b.nil ku hl;refine st5 c1.blk fun H2 b2 k2=>?_;have c2:=c1.wr b1 k2 b2;have b2:=b1.wr c1 k2;refine ld5 c2.blk ((h2 2 b2.w ?_).mono ?_);simp only [List.length_append,List.length_cons];omega;rintro _ H4 ⟨rfl,w4,x4⟩;have b4:=b2.call w4 x4 hl;rw [List.append_assoc,List.cons_append] at b4;refine ⟨rfl,m - 1,by omega,j+1,_,Prod.ext ?_ rfl,by omega,b4,?_⟩
    ·show IntKind.wrap .i64 ((j:Int)+1)=((j+1:Nat):Int);rw [Zbl (by omega) (by omega)];omega
    ·have e2: ∀(cs:List Cd) (inner:Int),wCs cs [] inner true=wCs cs [] inner false:=fun cs inner=>by cases cs<;>simp only [wCs]<;>simp
     rw [← hsf,e2];simp
   ·have e:=of_decide_eq_false e;simp only at e;have hdrop:l.drop j= []:=List.drop_eq_nil_of_le (by omega)
    rw [hdrop] at hsf;simp only [wCs,List.append_nil] at hsf;rw [hsf] at b;exact b.ret hl
  ·have g1:op≠1:=by simpa using g1
   have g2:op≠2:=by simpa using g2
   have g3:op≠3:=by simpa using g3
   rw [if_neg g1,if_neg g2,if_neg g3] at hb ⊢;refine ld5 c1.blk ((Zciv hy b1.w hpa hpl hn (by omega)).mono ?_)
   rintro _ H2 ⟨rfl,w2,x2⟩;exact ⟨rfl,(b1.call w2 x2 hl).ret hl⟩
end
end Go.Proofs.YtlkdgfolbllngaaGreatDoor
end
section
set_option maxRecDepth 100000
namespace Go.Proofs.YtlkdgfolbllngaaGreatDoor
open Go.Sh Go.Pc
def Zep (op:Int):List UInt8:=if op=2 then Zdt else if op=3 then Zce else if op=4 then Zco else if op=5 then Zcu else if op=6 then Zbj else if op=7 then Zee else if op=8 then Zes else Zfn
def Zef (op n m:Int):W8:=if op=4 then [Lib.itoa n,Lib.itoa m] else if op=5∨op=6 then [Lib.itoa n] else if op=7∨op=8 then [Zel n] else []
mutual
def wS:Sm->W8
 | .mk op c th el n m=>if op=1 then [w_if]++(wC c 0++(([w_lb]++(wSs th++[w_rb]))++(if el.length=0 then [] else [Zfy]++([w_lb]++(wSs el++[w_rb])))))
   else if op<2∨9<op then [[63],w_sc] else [Zep op]++(Zef op n m++[w_sc])
def wSs:List Sm->W8
 | []=>[]
 | s::l=>wS s++wSs l
end
def wB (l:List Sm):W8:=[w_lb]++(wSs l++[w_rb])
mutual
def smR:Sm->Prop
 | .mk _ c th el n m=>(cdR c∧i64R n∧i64R m)∧(smRs th∧smRs el)
def smRs:List Sm->Prop
 | []=>True
 | s::l=>smR s∧smRs l
end
theorem Zxd: ∀{l:List Sm} {i:Nat} {c:Sm},smRs l->l[i]? =some c->smR c
 | d::l,0,c,h,e=>by simp only [List.getElem?_cons_zero,Option.some.injEq] at e;subst e;simp only [smRs] at h;exact h.1
 | d::l,i+1,c,h,e=>by simp only [smRs] at h;exact Zxd (l:=l) (i:=i) h.2 (by simpa using e)
 | [],i,c,h,e=>by simp at e
theorem Zcjy {l:List Sm} {j:Nat} {c:Sm} (h:l[j]? =some c):wSs (l.drop j)=wS c++wSs (l.drop (j+1)):=by obtain ⟨hj,rfl⟩:=List.getElem?_eq_some_iff.1 h;rw [List.drop_eq_getElem_cons hj];simp only [wSs]
section
variable {F H0 He H H1 H2 H':Heap} {wb q:Nat} {ws l:W8} {n m op:Int} {th el:List Sm} {s:Sm} {v:List Value} {a:Option Addr} {cp:Nat}
def SmOk (H0:Heap) (wb:Nat) (v:List Value) (s:Sm):Prop:=∀{H:Heap} {ws:W8},Wt H0 H wb ws->ws.length+(wS s).length+9 <= 1000000000000->
 FnW Tryz.prog Zbbs ⟨[.pointer (some ⟨wb,0,none⟩),.agg ⟨v⟩]⟩ H (WR H0 H wb ws (wS s))
theorem Zbak (fr:Keep Nil F H0) (hr:RwAt (fun F v s=>SmAt F v s∧SmOk H0 wb v s) 10 F a cp th) (w:Wt H0 H wb ws) (hb:ws.length+(wB th).length+9 <= 1000000000000):
  FnW Tryz.prog Zqx ⟨[.pointer (some ⟨wb,0,none⟩),.slice a th.length cp]⟩ H (WR H0 H wb ws (wB th)):=by
 have hl:=w.live;have lim:=hr.cap.2;unfold wB at hb ⊢;simp only [List.length_append,List.length_singleton] at hb;refine Zcmk wb a th.length cp ?_;unfold Zbut;refine sayN (Wb.start w) hl [w_lb] (by simp only [List.length_singleton];omega) fun H2 b2 x2=>?_
 refine Zbt (fun k s Hx=>∃(j:Nat) (sf:W8),s=((j:Int),())∧k+j=th.length∧Wb H0 H Hx wb (ws++([w_lb]++sf))∧sf++wSs (th.drop j)=wSs th) th.length ⟨0,[],rfl,rfl,b2,rfl⟩ ?_;rintro k s Hx ⟨j,sf,rfl,hmj,b,hsf⟩ g;unfold Zbus;refine IfB.intro (fun e=>?_) fun e=>?_
 ·have e:=of_decide_eq_true e;simp only at e;have hjl:j<th.length:=by omega
  have hx:=List.getElem?_eq_getElem hjl;generalize th[j]=x at hx;rw [Zcjy hx] at hsf;have hlen:=congrArg List.length hsf;simp only [List.length_append] at hlen;refine Zbc (z:=((j:Nat):Int)) hr (fr.trans b.w.k) (fun _ _ h=>h.1.len) hx rfl (fun b1 o1 v1 _ h1 _ hc1=>?_) (by decide)
  obtain ⟨h1,h2⟩:=h1;obtain ⟨_,_,_,_,_,_,_,_,_,_,_,_,_,_,_,_,rfl⟩:=h1.ten;refine Znz hc1 (newB fun u H1 hu bu ku=>?_);have c1:=Lc.new b hu bu ku;have b1:=b.nil ku hl;refine st10 c1.blk fun H2 b2 k2=>?_;have c2:=c1.wr b1 k2 b2;have b2:=b1.wr c1 k2;refine ld10 c2.blk ((h2 b2.w ?_).mono ?_);simp only [List.length_append,List.length_singleton];omega;rintro _ H4 ⟨rfl,w4,x4⟩;have b4:=b2.call w4 x4 hl;rw [List.append_assoc,List.append_assoc] at b4;refine ⟨rfl,k - 1,by omega,j+1,_,Prod.ext ?_ rfl,by omega,b4,?_⟩
  ·show IntKind.wrap .i64 ((j:Int)+1)=((j+1:Nat):Int);rw [Zbl (by omega) (by omega)];omega
  rw [← hsf,List.append_assoc]
 ·have e:=of_decide_eq_false e;simp only at e;have hdrop:th.drop j= []:=List.drop_eq_nil_of_le (by omega)
  rw [hdrop] at hsf;simp only [wSs,List.append_nil] at hsf;rw [hsf] at b;refine sayN b hl [w_rb] (by simp only [List.length_append,List.length_singleton];omega) fun H3 b3 x3=>?_
  simp only [List.append_assoc] at b3;exact b3.ret hl
theorem Zxg (b:Wb H0 He H wb (ws++l)) (hl:He wb≠none) (hb:(ws++l).length+1 <= 1000000000000):Zpf wb H fun v H1=>∀H2,Shut He H1 H2->WR H0 He wb ws (l++[w_sc]) v H2:=by
 unfold Zpf;refine sayN b hl [w_sc] (by simp only [List.length_singleton];omega) fun H3 b3 x3=>?_
 rw [List.append_assoc] at b3;exact b3.ret hl
theorem Zbqj (hy:Lyd H0) {names:Nat} {v1 v2 v3 v4 v5 v6 v7:Value} (b:Wb H0 He H wb ws) (c:Lc He H wb q Zbf [.int .i64 op,v1,v2,v3,v4,v5,v6,v7,.int .i64 n,.int .i64 m])
  (d:Lc He H wb names Zm ([Zdt,Zce,Zco,Zcu,Zbj,Zee,Zes,Zfn].map strV)) (hl:He wb≠none) (hn:i64R n) (hm:i64R m) (hb:ws.length+9 <= 1000000000000) {t:Bool} (ht:t=decide (op<2∨9<op)):
  Zyl wb q names t H fun v H1=>∀H2,Shut He H1 H2->WR H0 He wb ws (if op<2∨9<op then [[63],w_sc] else [Zep op]++(Zef op n m++[w_sc])) v H2:=by
 unfold Zyl;rw [ht];refine IfB.intro (fun e=>?_) fun e=>?_;have e:=of_decide_eq_true e;rw [if_pos e];exact sayN b hl [[63],w_sc] (by simp only [List.length_cons,List.length_nil];omega) fun H3 b3 x3=>b3.ret hl
 have e:=of_decide_eq_false e;rw [if_neg e];obtain ⟨j,hj,hj8⟩: ∃j:Nat,op=2+j∧j<8:=⟨(op - 2).toNat,by omega,by omega⟩
 have hname:([Zdt,Zce,Zco,Zcu,Zbj,Zee,Zes,Zfn].map strV)[j]? =some (strV (Zep op)):=by
  subst hj;have:j=0∨j=1∨j=2∨j=3∨j=4∨j=5∨j=6∨j=7:=by omega
  rcases this with rfl | rfl | rfl | rfl | rfl | rfl | rfl | rfl<;>rfl
 refine ⟨_,cellL c.blk 0 rfl,InB.intro j (by rw [Zbl (by omega) (by omega)];omega) hj8 ⟨bstr (Zep op),cellL d.blk _ (by rw [Nat.zero_add,Nat.mul_one];exact hname),?_⟩⟩
 refine sayN b hl [Zep op] (by simp only [List.length_singleton];omega) fun H2 b2 x2=>?_
 have c2:=c.call x2;have hlen:(ws++[Zep op]).length=ws.length+1:=by simp
 refine ⟨_,cellL c2.blk 0 rfl,IfB.intro (fun g=>?_) fun g4=>?_⟩
 ·have g:op=4:=by simpa using g
  have ea:Zef op n m= [Lib.itoa n,Lib.itoa m]:=by unfold Zef;rw [if_pos g]
  rw [ea];refine ⟨_,cellL c2.blk 8 rfl,(Zod hy b2.w hn (by omega)).mono ?_⟩
  rintro _ H3 ⟨rfl,w3,x3⟩;have b3:=b2.call w3 x3 hl;refine ⟨rfl,_,cellL (c2.call x3).blk 9 rfl,(Zod hy b3.w hm (by simp only [List.length_append,List.length_singleton];omega)).mono ?_⟩
  rintro _ H4 ⟨rfl,w4,x4⟩;have b4:=b3.call w4 x4 hl;rw [List.append_assoc,List.append_assoc] at b4;have:=Zxg b4 hl (by simp only [List.length_append,List.length_cons,List.length_nil];omega)
  simp only [List.append_assoc,List.cons_append,List.nil_append] at this ⊢;exact ⟨trivial,this⟩
 have g4:op≠4:=by simpa using g4
 have j3: ∀t2:Bool,t2=decide (op=7∨op=8)->(¬(op=5∨op=6))->Zyn wb q t2 H2 fun v H1=>∀H2,Shut He H1 H2->WR H0 He wb ws ([Zep op]++(Zef op n m++[w_sc])) v H2:=fun t2 ht2 hno=>by
  unfold Zyn;rw [ht2];refine IfB.intro (fun g=>?_) fun g=>?_
  ·have g:=of_decide_eq_true g;have ea:Zef op n m= [Zel n]:=by unfold Zef;rw [if_neg g4,if_neg hno,if_pos g]
   rw [ea];refine ⟨_,cellL c2.blk 8 rfl,(Zbiz hy b2.w hn (by omega)).mono ?_⟩
   rintro _ H3 ⟨rfl,w3,x3⟩;have b3:=b2.call w3 x3 hl;rw [List.append_assoc] at b3;have:=Zxg b3 hl (by simp only [List.length_append,List.length_cons,List.length_nil];omega)
   rw [List.append_assoc] at this;exact ⟨rfl,this⟩
  ·have g:=of_decide_eq_false g;have ea:Zef op n m= []:=by unfold Zef;rw [if_neg g4,if_neg hno,if_neg g]
   rw [ea];exact Zxg b2 hl (by omega)
 have j2: ∀t2:Bool,t2=decide (op=5∨op=6)->Zym wb q op t2 H2 fun v H1=>∀H2,Shut He H1 H2->WR H0 He wb ws ([Zep op]++(Zef op n m++[w_sc])) v H2:=fun t2 ht2=>by
  unfold Zym;rw [ht2];refine IfB.intro (fun g=>?_) fun g=>?_
  ·have g:=of_decide_eq_true g;have ea:Zef op n m= [Lib.itoa n]:=by unfold Zef;rw [if_neg g4,if_pos g]
   rw [ea];refine ⟨_,cellL c2.blk 8 rfl,(Zod hy b2.w hn (by omega)).mono ?_⟩
   rintro _ H3 ⟨rfl,w3,x3⟩;have b3:=b2.call w3 x3 hl;rw [List.append_assoc] at b3;have:=Zxg b3 hl (by simp only [List.length_append,List.length_cons,List.length_nil];omega)
   rw [List.append_assoc] at this;exact ⟨rfl,this⟩
  ·have g:=of_decide_eq_false g;refine IfB.intro (fun h=>?_) fun h=>?_
   ·have h7:op=7:=by simpa using h
    exact j3 _ (by rw [h];exact (decide_eq_true (.inl h7)).symm) g
   ·have h7:op≠7:=by simpa using h
    refine j3 _ ?_ g;show decide (op=8)=_;by_cases h8:op=8;rw [decide_eq_true h8,decide_eq_true (Or.inr h8)];rw [decide_eq_false h8,decide_eq_false fun h=>h.elim h7 h8]
 refine IfB.intro (fun h=>?_) fun h=>?_
 ·have h5:op=5:=by simpa using h
  exact j2 _ (by rw [h];exact (decide_eq_true (.inl h5)).symm)
 ·have h5:op≠5:=by simpa using h
  refine j2 _ ?_;show decide (op=6)=_;by_cases h6:op=6;rw [decide_eq_true h6,decide_eq_true (Or.inr h6)];rw [decide_eq_false h6,decide_eq_false fun h=>h.elim h5 h6]
theorem Zchu (hy:Lyd H0) (fr:Keep Nil F H0) (h:SmAt F v s):smR s->SmOk H0 wb v s:=by
 induction h with
 | mk op n m cv c a b ac bc vs ws' th el hcv hr hlen hac hm hr2 hlen2 hbc hm2 ih ih2=>
  intro hR H ws w hb;simp only [smR] at hR;obtain ⟨⟨hc,hn,hmm⟩,hth,hel⟩:=hR;have hl:=w.live;have row1:RwAt (fun F v s=>SmAt F v s∧SmOk H0 wb v s) 10 F a ac th:=⟨⟨vs,hr,hlen,fun i v d e1 e2=>⟨hm i v d e1 e2,ih i v d e1 e2 (Zxd hth e2)⟩⟩,hac⟩;have row2:RwAt (fun F v s=>SmAt F v s∧SmOk H0 wb v s) 10 F b bc el:=⟨⟨ws',hr2,hlen2,fun i v d e1 e2=>⟨hm2 i v d e1 e2,ih2 i v d e1 e2 (Zxd hel e2)⟩⟩,hbc⟩;have hcond:Zpu H0 wb cv c:=Zbxy hy fr hcv hc;obtain ⟨c0,ca,cn,ck,c2,c3,c4,rfl⟩:=hcv.five;refine Zcky wb op c0 ca cn ck c2 c3 c4 a th.length ac b el.length bc n m ?_;unfold Zbsn;have b0:=Wb.start w;refine newB fun q H1 hq bq k1=>newB fun r H2 hr bR k2=>?_;have cq:=(Lc.new b0 hq bq k1).nil (b0.nil k1 hl).w k2;have b1:=b0.nil k1 hl;have cr:Lc H H2 wb r Zm ([Zdt,Zce,Zco,Zcu,Zbj,Zee,Zes,Zfn].map strV):=Lc.new b1 hr bR k2;have b2:=b1.nil k2 hl;refine ⟨_,cellL cq.blk 0 rfl,IfB.intro (fun g=>?_) fun g1=>?_⟩
  ·have g:op=1:=by simpa using g
   unfold wS at hb ⊢;rw [if_pos g] at hb ⊢;have hB: ∀l:List Sm,[w_lb]++(wSs l++[w_rb])=wB l:=fun l=>rfl;rw [hB,hB] at hb ⊢;simp only [List.length_append,List.length_singleton] at hb;refine sayN b2 hl [w_if] (by simp only [List.length_singleton];omega) fun H3 b3 x3=>?_
   have cq3:=cq.call x3;refine ⟨_,cellL cq3.blk 1 rfl,_,_,_,cellL cq3.blk 2 rfl,_,cellL cq3.blk 3 rfl,_,cellL cq3.blk 4 rfl,_,cellL cq3.blk 5 rfl,(hcond 0 b3.w (by simp only [List.length_append,List.length_singleton];omega)).mono ?_⟩
   rintro _ H4 ⟨rfl,w4,x4⟩;have b4:=b3.call w4 x4 hl;have cq4:=cq3.call x4;refine ⟨rfl,_,_,_,cellL cq4.blk 6 rfl,(Zbak fr row1 b4.w (by simp only [List.length_append,List.length_singleton];omega)).mono ?_⟩
   rintro _ H5 ⟨rfl,w5,x5⟩;have b5:=b4.call w5 x5 hl;have cq5:=cq4.call x5;refine ⟨rfl,_,_,_,cellL cq5.blk 7 rfl,IfB.intro (fun e=>?_) fun e=>?_⟩
   ·have e:=of_decide_eq_true e;have e0: ¬el.length=0:=by omega
    rw [if_neg e0] at hb ⊢;simp only [List.length_append,List.length_singleton] at hb;refine sayN b5 hl [Zfy] (by simp only [List.length_append,List.length_singleton];omega) fun H6 b6 x6=>?_
    refine ⟨_,_,_,cellL (cq5.call x6).blk 7 rfl,(Zbak fr row2 b6.w (by simp only [List.length_append,List.length_singleton];omega)).mono ?_⟩
    rintro _ H7 ⟨rfl,w7,x7⟩;have b7:=b6.call w7 x7 hl;simp only [List.append_assoc] at b7;exact ⟨rfl,b7.ret hl⟩
   ·have e:=of_decide_eq_false e;have e0:el.length=0:=by omega
    rw [if_pos e0];simp only [List.append_assoc] at b5;rw [List.append_nil];exact b5.ret hl
  ·have g1:op≠1:=by simpa using g1
   unfold wS at hb ⊢;rw [if_neg g1] at hb ⊢;refine ⟨_,cellL cq.blk 0 rfl,IfB.intro (fun e=>?_) fun e=>⟨_,cellL cq.blk 0 rfl,?_⟩⟩;have e:=of_decide_eq_true e;exact Zbqj hy b2 cq cr hl hn hmm (by omega) (decide_eq_true (.inl e)).symm
   ·have e:=of_decide_eq_false e;refine Zbqj hy b2 cq cr hl hn hmm (by omega) ?_
    by_cases h9:op>9;rw [decide_eq_true h9,decide_eq_true (Or.inr h9)];rw [decide_eq_false h9,decide_eq_false fun h=>h.elim e h9]
end
end Go.Proofs.YtlkdgfolbllngaaGreatDoor
end
section
set_option maxRecDepth 100000
namespace Go.Proofs.YtlkdgfolbllngaaGreatDoor
open Go.Sh Go.Pc
def wPr (p:Pr):W8:=[Zbx,p.name,txt p.addr.toNat,w_as]++([Lib.itoa p.as_]++((if p.waits=true then [Zit] else [])++((if p.max>0 then [Zfz]++[Lib.itoa p.max] else [])++((if p.in_= [] then [] else [w_in,p.in_])++((if p.out= [] then [] else [Zcn,p.out])++[w_sc])))))
def prR (p:Pr):Prop:=u32R p.addr∧u32R p.as_∧i64R p.max
def wPl (p:Pl):W8:=[Zcr,p.name]++wB p.l
def wPls:List Pl->W8
 | []=>[]
 | p::l=>wPl p++wPls l
def wPrs:List Pr->W8
 | []=>[]
 | p::l=>wPr p++wPrs l
theorem Zcjw {l:List Pl} {j:Nat} {c:Pl} (h:l[j]? =some c):wPls (l.drop j)=wPl c++wPls (l.drop (j+1)):=by obtain ⟨hj,rfl⟩:=List.getElem?_eq_some_iff.1 h;rw [List.drop_eq_getElem_cons hj];simp only [wPls]
theorem Zcjx {l:List Pr} {j:Nat} {c:Pr} (h:l[j]? =some c):wPrs (l.drop j)=wPr c++wPrs (l.drop (j+1)):=by obtain ⟨hj,rfl⟩:=List.getElem?_eq_some_iff.1 h;rw [List.drop_eq_getElem_cons hj];simp only [wPrs]
section
variable {F H0 He H H1 H2 H':Heap} {wb q:Nat} {ws l:W8} {v:List Value} {a:Option Addr} {cp:Nat} {p:Pr}
theorem Zbnj (x:List UInt8):(!((bstr x).toList==(ByteArray.mk #[]).toList))=decide (¬x= []):=by have e:(ByteArray.mk #[]).toList=(bstr []).toList:=rfl;rw [e,Zmw,Zmw,Bool.eq_iff_iff];simp
theorem Zcdp (hy:Lyd H0) (hp:prR p) (w:Wt H0 H wb ws) (hb:ws.length+20 <= 1000000000000):FnW Tryz.prog Zbbt ⟨[.pointer (some ⟨wb,0,none⟩),.agg ⟨prL p.name p.addr p.as_ p.waits p.max p.in_ p.out⟩]⟩ H (WR H0 H wb ws (wPr p)):=by
 obtain ⟨nm,ad,as_,wt,mx,i_,o_⟩:=p;obtain ⟨ha,hs,hm⟩:=hp;simp only at ha hs hm;have hl:=w.live;refine Zcla wb (bstr nm) ad as_ wt mx (bstr i_) (bstr o_) ?_;unfold Zbsp;have b0:=Wb.start w;refine newB fun q H1 hq bq k1=>?_;have c1:=Lc.new b0 hq bq k1;have b1:=b0.nil k1 hl;refine ⟨[q],Zrj c1.blk.some,List.mem_singleton.2 rfl,_,cellL c1.blk 0 rfl,_,cellL c1.blk 1 rfl,(ipF ((hy.keep w.k).keep k1) ha.1 ha.2).mono ?_⟩;rintro _ H2 ⟨rfl,k2⟩;have b2:=b1.nil k2 hl;have c2:=c1.nil b1.w k2;refine ⟨_,rfl,Zny c1.blk.some k2,sayN b2 hl [Zbx,nm,txt ad.toNat,w_as] (by simp only [List.length_cons,List.length_nil];omega) fun H3 b3 x3=>?_⟩
 have c3:=c2.call x3;have hw:IntKind.wrap .i64 as_=as_:=Zbl (by unfold u32R at hs;omega) (by unfold u32R at hs;omega)
 refine ⟨_,cellL c3.blk 2 rfl,?_⟩;rw [hw];refine (Zod hy b3.w (by unfold u32R at hs;unfold i64R;omega) (by simp only [List.length_append,List.length_cons,List.length_nil];omega)).mono ?_
 rintro _ H4 ⟨rfl,w4,x4⟩;have b4:=b3.call w4 x4 hl;have c4:=c3.call x4;rw [List.append_assoc] at b4;have f3: ∀(Hx:Heap) (l:W8),Wb H0 H Hx wb (ws++l)->l.length <= 12->Zyr wb Hx fun v H1=>∀H2,Shut H H1 H2->WR H0 H wb ws (l++[w_sc]) v H2:=fun Hx l b h12=>by
  unfold Zyr;refine sayN b hl [w_sc] (by simp only [List.length_append,List.length_singleton];omega) fun H2 b2 _=>?_
  rw [List.append_assoc] at b2;exact b2.ret hl
 have f2: ∀(Hx:Heap) (l:W8),Wb H0 H Hx wb (ws++l)->Lc H Hx wb q Zbh (prL nm ad as_ wt mx i_ o_)->l.length <= 10->Zyq wb q Hx fun v H1=>∀H2,Shut H H1 H2->WR H0 H wb ws (l++((if o_= [] then [] else [Zcn,o_])++[w_sc])) v H2:=fun Hx l b c h10=>by
  unfold Zyq;refine ⟨_,cellL c.blk 6 rfl,?_⟩;rw [Zbnj];refine IfB.intro (fun e=>?_) fun e=>?_
  ·have e:=of_decide_eq_true e;rw [if_neg e];refine ⟨_,cellL c.blk 6 rfl,sayN b hl [Zcn,o_] (by simp only [List.length_append,List.length_cons,List.length_nil];omega) fun H2 b2 _=>?_⟩
   rw [List.append_assoc] at b2;have:=f3 H2 _ b2 (by simp only [List.length_append,List.length_cons,List.length_nil];omega)
   rw [List.append_assoc] at this;exact this
  have e:=Classical.byContradiction (of_decide_eq_false e);rw [if_pos e];exact f3 Hx l b (by omega)
 have f1: ∀(Hx:Heap) (l:W8),Wb H0 H Hx wb (ws++l)->Lc H Hx wb q Zbh (prL nm ad as_ wt mx i_ o_)->l.length <= 8->Zyp wb q Hx fun v H1=>∀H2,Shut H H1 H2->WR H0 H wb ws (l++((if i_= [] then [] else [w_in,i_])++((if o_= [] then [] else [Zcn,o_])++[w_sc]))) v H2:=fun Hx l b c h8=>by
  unfold Zyp;refine ⟨_,cellL c.blk 5 rfl,?_⟩;rw [Zbnj];refine IfB.intro (fun e=>?_) fun e=>?_
  ·have e:=of_decide_eq_true e;rw [if_neg e];refine ⟨_,cellL c.blk 5 rfl,sayN b hl [w_in,i_] (by simp only [List.length_append,List.length_cons,List.length_nil];omega) fun H2 b2 x2=>?_⟩
   rw [List.append_assoc] at b2;have:=f2 H2 _ b2 (c.call x2) (by simp only [List.length_append,List.length_cons,List.length_nil];omega)
   rw [List.append_assoc] at this;exact this
  have e:=Classical.byContradiction (of_decide_eq_false e);rw [if_pos e];exact f2 Hx l b c (by omega)
 have f0: ∀(Hx:Heap) (l:W8),Wb H0 H Hx wb (ws++l)->Lc H Hx wb q Zbh (prL nm ad as_ wt mx i_ o_)->l.length <= 6->Zyo wb q Hx fun v H1=>∀H2,Shut H H1 H2->WR H0 H wb ws (l++((if mx>0 then [Zfz]++[Lib.itoa mx] else [])++((if i_= [] then [] else [w_in,i_])++((if o_= [] then [] else [Zcn,o_])++[w_sc])))) v H2:=fun Hx l b c h6=>by
  unfold Zyo;refine ⟨_,cellL c.blk 4 rfl,IfB.intro (fun e=>?_) fun e=>?_⟩
  ·have e:=of_decide_eq_true e;rw [if_pos e];refine sayN b hl [Zfz] (by simp only [List.length_append,List.length_cons,List.length_nil];omega) fun H2 b2 x2=>⟨_,cellL (c.call x2).blk 4 rfl,(Zod hy b2.w hm (by simp only [List.length_append,List.length_cons,List.length_nil];omega)).mono ?_⟩
   rintro _ H3 ⟨rfl,w3,x3⟩;have b3:=b2.call w3 x3 hl;rw [List.append_assoc,List.append_assoc] at b3;have:=f1 H3 _ b3 ((c.call x2).call x3) (by simp only [List.length_append,List.length_cons,List.length_nil];omega)
   rw [List.append_assoc] at this;exact ⟨rfl,this⟩
  have e:=of_decide_eq_false e;rw [if_neg e];exact f1 Hx l b c (by omega)
 refine ⟨rfl,_,cellL c4.blk 3 rfl,?_⟩;unfold wPr;simp only;rw [← List.append_assoc];refine IfB.intro (fun e=>?_) fun e=>?_
 ·rw [if_pos e];refine sayN b4 hl [Zit] (by simp only [List.length_append,List.length_cons,List.length_nil];omega) fun H5 b5 x5=>?_
  rw [List.append_assoc] at b5;have:=f0 H5 _ b5 (c4.call x5) (by simp only [List.length_append,List.length_cons,List.length_nil];omega)
  rw [List.append_assoc] at this;exact this
 ·rw [if_neg (by rw [e];decide)]
  exact f0 H4 _ b4 c4 (by simp only [List.length_append,List.length_cons,List.length_nil];omega)
theorem Zcan (hy:Lyd H0) (w:Wt H0 H wb ws) (h1:ws.length <= 140737488355328) (h2:(Lib.join ws [32]).length <= 140000000000000) (h3: ∀x∈ws,x.length <= 140000000000000): ∃(a:Option Addr) (n c:Nat),H.cell ⟨wb,0,none⟩=some (.slice a n c)∧
  FnW Tryz.prog Zjw ⟨[.slice a n c,.string (ByteArray.mk #[32])]⟩ H fun v H'=>v= .string (bstr (Lib.join ws [32]))∧Keep Nil H H':=by
 obtain ⟨a,c,hw,ho,hcap⟩:=w.ex;refine ⟨a,ws.length,c,cellL hw 0 rfl,(FnQ.run (x:=(ws,([32],()))) Zbqm rfl rfl (Z:=fun b=>H b≠none) ?_ (fun _ h=>h) (hy.keep w.k).live (hy.keep w.k).ok (K:=fun r=>r.1=Lib.join ws [32]) ⟨h1,by show (Lib.join ws [32]).length <= _;omega,rfl⟩).mono ?_⟩
 ·simp only [pksA,pkA,SimL,SimV,and_true];refine ⟨?_,rfl,by decide⟩
  simp only [Zh];refine ⟨a,ws.length,c,rfl,rfl,ho.le,by unfold Zo;omega,fun h0=>?_⟩
  obtain ⟨hl,hc,hr⟩:=ho;rcases hr with ⟨rfl,e,_⟩ | ⟨m,rest,rfl,_,hb,_⟩;omega;refine ⟨m,0,rfl,hb.some,_,_,_,hb,fun i x hx=>?_⟩;have hx:ws[i]? =some x:=hx;have hi:=(List.getElem?_eq_some_iff.1 hx).1;simp only [Zc,Zh,and_true];refine ⟨strV x,?_,rfl,?_⟩
  ·rw [List.getElem?_toArray,List.getElem?_append_left (by simp;omega)]
   simp [hx];rfl
  have:=h3 x (List.mem_of_getElem? hx);unfold Zo;show List.length x <= _;omega
 rintro v H' ⟨k,⟨y,u⟩,h,_,hv⟩;have hv:=hv 0 (gZ fun _=>False);simp only [pksA,pkA,outA,SimV] at hv h;exact ⟨by rw [hv.1,h],k⟩
end
end Go.Proofs.YtlkdgfolbllngaaGreatDoor
end
section
set_option maxRecDepth 100000
namespace Go.Proofs.YtlkdgfolbllngaaGreatDoor
open Go.Sh Go.Pc
def SmB (H:Heap) (p:Prop):Value->Heap->Prop:=fun v H'=>∃b:Bool,v= .bool b∧(b=true↔p)∧Keep Nil H H'
section
variable {Fa Fb H H1 H':Heap}
theorem ld2 {q:Nat} {Tq:TypeId} {s:ByteArray} {a:Option Addr} {n k:Nat} {K:ByteArray->Option Addr->Nat->Nat->Prop} (hb:Blk H q Tq ⟨[.string s,.slice a n k]⟩) (h:K s a n k):
  ∃x0:ByteArray,H.cell ⟨q,0,none⟩=some (Value.string x0)∧∃(x1a:Option Addr) (x1n x1c:Nat),H.cell ⟨q,1,none⟩=some (Value.slice x1a x1n x1c)∧K x0 x1a x1n x1c:=⟨_,cellL hb 0 rfl,_,_,_,cellL hb 1 rfl,h⟩
theorem st2 {q:Nat} {Tq:TypeId} {v0 v1:Value} {s:ByteArray} {a:Option Addr} {n k:Nat} {K:Heap->Prop} (hb:Blk H q Tq ⟨[v0,v1]⟩) (h: ∀H',Blk H' q Tq ⟨[.string s,.slice a n k]⟩->Keep (fun y=>y=q) H H'->K H'):
  Za H ⟨q,0,none⟩ (.string s) fun H1=>Za H1 ⟨q,1,none⟩ (.slice a n k) K:=
 stL hb (by simp) rfl fun H1 b1 k1=>stL b1 (by simp) rfl fun H2 b2 k2=>h H2 b2 (k1.trans k2)
theorem ld2c {q o:Nat} {s:ByteArray} {a:Option Addr} {n k:Nat} {K:ByteArray->Option Addr->Nat->Nat->Prop} (hc: ∀j,j<2->H.cell ⟨q,o+j,none⟩=([.string s,.slice a n k]:List Value)[j]?) (h:K s a n k):
  ∃x0:ByteArray,H.cell ⟨q,o,none⟩=some (Value.string x0)∧∃(x1a:Option Addr) (x1n x1c:Nat),H.cell ⟨q,o+1,none⟩=some (Value.slice x1a x1n x1c)∧K x0 x1a x1n x1c:=⟨_,hc 0 (by decide),_,_,_,hc 1 (by decide),h⟩
theorem Zbyw {f:FuncId} {la lb:List Cd} {a b:Option Addr} {ac bc:Nat} {Q:List Value->Cd->Prop} (ra:RwAt (fun F v c=>CdAt F v c∧Q v c) 5 Fa a ac la) (rb:RwAt CdAt 5 Fb b bc lb) (fa:Keep Nil Fa H) (fb:Keep Nil Fb H)
  (hf: ∀(va vb:List Value) (ca cb:Cd) (H':Heap),Q va ca->CdAt Fa va ca->CdAt Fb vb cb->Keep Nil Fa H'->Keep Nil Fb H'->FnW Tryz.prog f ⟨[.agg ⟨va⟩,.agg ⟨vb⟩]⟩ H' (SmB H' (ca=cb))):
  FnW Tryz.prog Zbce ⟨[.slice a la.length ac,.slice b lb.length bc,.func (.func f) #[] #[]]⟩ H (SmB H (la=lb)):=by
 have lim:=ra.cap.2;refine Zcmx a la.length ac b lb.length bc f ?_;unfold Zbvl;refine IfB.intro (fun e=>?_) fun e=>?_
 ·have e: ¬(la.length:Int)=lb.length:=by simpa using e
  have e: ¬la.length=lb.length:=by omega
  exact fun H2 hs=>⟨false,rfl,⟨(fun h=>by cases h),fun h=>absurd (congrArg List.length h) e⟩,Zi (Keep.refl _ _) hs⟩
 have e:(la.length:Int)=lb.length:=by simpa using e
 have e:la.length=lb.length:=by omega
 refine Zbt (fun m s Hx=>∃j:Nat,s=((j:Int),())∧m+j=la.length∧Keep Nil H Hx∧la.take j=lb.take j) la.length ⟨0,rfl,rfl,Keep.refl _ _,rfl⟩ ?_;rintro m s Hx ⟨j,rfl,hmj,kx,htk⟩ g;unfold Zbvk;refine IfB.intro (fun e1=>?_) fun e1=>?_
 ·have e1:=of_decide_eq_true e1;simp only at e1;have hja:j<la.length:=by omega
  have hxa:=List.getElem?_eq_getElem hja;have hxb:=List.getElem?_eq_getElem (show j<lb.length by omega)
  generalize la[j]=xa at hxa;generalize lb[j]'(by omega)=xb at hxb
  refine Zbc (z:=((j:Nat):Int)) ra (fa.trans kx) (fun _ _ h=>h.1.len) hxa rfl (fun b1 o1 v1 _ h1 _ hc1=>?_) (by decide)
  obtain ⟨h1,hq⟩:=h1;have g1:=h1;obtain ⟨_,_,_,_,_,_,_,rfl⟩:=h1.five;refine ld5c hc1 (newB fun u H1 hu bu ku=>st5 bu fun H2 b2 k2=>?_);have k02:Keep Nil H H2:=kx.trans (ku.then k2 fun y hy=> .inr (hy▸hu));refine Zbc (z:=((j:Nat):Int)) rb (fb.trans k02) (fun _ _ h=>h.len) hxb rfl (fun c1 o2 v2 _ h2 _ hc2=>?_) (by decide)
  have g2:=h2;obtain ⟨_,_,_,_,_,_,_,rfl⟩:=h2.five;refine ld5c hc2 (newB fun w H3 hw bw kw=>st5 bw fun H4 b4 k4=>?_);have huw:u≠w:=fun e=>by subst e;exact b2.some hw
  have b2':=k4.blk (kw.blk b2 id) huw;have k04:Keep Nil H H4:=k02.trans (kw.then k4 fun y hy=> .inr (hy▸hw));refine ld5 b2' (ld5 b4 ((hf _ _ _ _ H4 hq g1 g2 (fa.trans k04) (fb.trans k04)).mono ?_));rintro _ H5 ⟨t,rfl,ht,k5⟩;refine ⟨t,rfl,IfB.intro (fun et H6 hs=>?_) fun et=>?_⟩
  ·have et:t=false:=by simpa using et
   refine ⟨false,rfl,⟨(fun h=>by cases h),fun h=>?_⟩,Zi (k04.trans k5) hs⟩
   rw [h,hxb] at hxa;cases hxa;rw [et] at ht;exact absurd (ht.2 rfl) (by decide)
  ·have et:t=true:=by simpa using et
   have hx:=ht.1 et;subst hx;refine ⟨m - 1,by omega,j+1,Prod.ext ?_ rfl,by omega,k04.trans k5,?_⟩
   ·show IntKind.wrap .i64 ((j:Int)+1)=((j+1:Nat):Int);rw [Zbl (by omega) (by omega)];omega
   rw [List.take_add_one,List.take_add_one,htk,hxa,hxb]
 ·have e1:=of_decide_eq_false e1;simp only at e1;rw [List.take_of_length_le (by omega),List.take_of_length_le (by omega)] at htk
  exact fun H2 hs=>⟨true,rfl,⟨fun _=>htk,fun _=>rfl⟩,Zi kx hs⟩
theorem Zbbp {f:FuncId} {la lb:List Sm} {a b:Option Addr} {ac bc:Nat} {Q:List Value->Sm->Prop} (ra:RwAt (fun F v c=>SmAt F v c∧Q v c) 10 Fa a ac la) (rb:RwAt SmAt 10 Fb b bc lb) (fa:Keep Nil Fa H) (fb:Keep Nil Fb H)
  (hf: ∀(va vb:List Value) (ca cb:Sm) (H':Heap),Q va ca->SmAt Fa va ca->SmAt Fb vb cb->Keep Nil Fa H'->Keep Nil Fb H'->FnW Tryz.prog f ⟨[.agg ⟨va⟩,.agg ⟨vb⟩]⟩ H' (SmB H' (ca=cb))):
  FnW Tryz.prog Zqz ⟨[.slice a la.length ac,.slice b lb.length bc,.func (.func f) #[] #[]]⟩ H (SmB H (la=lb)):=by
 have lim:=ra.cap.2;refine Zcmm a la.length ac b lb.length bc f ?_;unfold Zbuy;refine IfB.intro (fun e=>?_) fun e=>?_
 ·have e: ¬(la.length:Int)=lb.length:=by simpa using e
  have e: ¬la.length=lb.length:=by omega
  exact fun H2 hs=>⟨false,rfl,⟨(fun h=>by cases h),fun h=>absurd (congrArg List.length h) e⟩,Zi (Keep.refl _ _) hs⟩
 have e:(la.length:Int)=lb.length:=by simpa using e
 have e:la.length=lb.length:=by omega
 refine Zbt (fun m s Hx=>∃j:Nat,s=((j:Int),())∧m+j=la.length∧Keep Nil H Hx∧la.take j=lb.take j) la.length ⟨0,rfl,rfl,Keep.refl _ _,rfl⟩ ?_;rintro m s Hx ⟨j,rfl,hmj,kx,htk⟩ g;unfold Zbux;refine IfB.intro (fun e1=>?_) fun e1=>?_
 ·have e1:=of_decide_eq_true e1;simp only at e1;have hja:j<la.length:=by omega
  have hxa:=List.getElem?_eq_getElem hja;have hxb:=List.getElem?_eq_getElem (show j<lb.length by omega)
  generalize la[j]=xa at hxa;generalize lb[j]'(by omega)=xb at hxb
  refine Zbc (z:=((j:Nat):Int)) ra (fa.trans kx) (fun _ _ h=>h.1.len) hxa rfl (fun b1 o1 v1 _ h1 _ hc1=>?_) (by decide)
  obtain ⟨h1,hq⟩:=h1;have g1:=h1;obtain ⟨_,_,_,_,_,_,_,_,_,_,_,_,_,_,_,_,rfl⟩:=h1.ten;refine Znz hc1 (newB fun u H1 hu bu ku=>st10 bu fun H2 b2 k2=>?_);have k02:Keep Nil H H2:=kx.trans (ku.then k2 fun y hy=> .inr (hy▸hu));refine Zbc (z:=((j:Nat):Int)) rb (fb.trans k02) (fun _ _ h=>h.len) hxb rfl (fun c1 o2 v2 _ h2 _ hc2=>?_) (by decide)
  have g2:=h2;obtain ⟨_,_,_,_,_,_,_,_,_,_,_,_,_,_,_,_,rfl⟩:=h2.ten;refine Znz hc2 (newB fun w H3 hw bw kw=>st10 bw fun H4 b4 k4=>?_);have huw:u≠w:=fun e=>by subst e;exact b2.some hw
  have b2':=k4.blk (kw.blk b2 id) huw;have k04:Keep Nil H H4:=k02.trans (kw.then k4 fun y hy=> .inr (hy▸hw));refine ld10 b2' (ld10 b4 ((hf _ _ _ _ H4 hq g1 g2 (fa.trans k04) (fb.trans k04)).mono ?_));rintro _ H5 ⟨t,rfl,ht,k5⟩;refine ⟨t,rfl,IfB.intro (fun et H6 hs=>?_) fun et=>?_⟩
  ·have et:t=false:=by simpa using et
   refine ⟨false,rfl,⟨(fun h=>by cases h),fun h=>?_⟩,Zi (k04.trans k5) hs⟩
   rw [h,hxb] at hxa;cases hxa;rw [et] at ht;exact absurd (ht.2 rfl) (by decide)
  ·have et:t=true:=by simpa using et
   have hx:=ht.1 et;subst hx;refine ⟨m - 1,by omega,j+1,Prod.ext ?_ rfl,by omega,k04.trans k5,?_⟩
   ·show IntKind.wrap .i64 ((j:Int)+1)=((j+1:Nat):Int);rw [Zbl (by omega) (by omega)];omega
   rw [List.take_add_one,List.take_add_one,htk,hxa,hxb]
 ·have e1:=of_decide_eq_false e1;simp only at e1;rw [List.take_of_length_le (by omega),List.take_of_length_le (by omega)] at htk
  exact fun H2 hs=>⟨true,rfl,⟨fun _=>htk,fun _=>rfl⟩,Zi kx hs⟩
theorem Zbyx {f:FuncId} {la lb:List Pl} {a b:Option Addr} {ac bc:Nat} {Q:List Value->Pl->Prop} (ra:RwAt (fun F v c=>PlAt F v c∧Q v c) 2 Fa a ac la) (rb:RwAt PlAt 2 Fb b bc lb) (fa:Keep Nil Fa H) (fb:Keep Nil Fb H)
  (hf: ∀(va vb:List Value) (ca cb:Pl) (H':Heap),Q va ca->PlAt Fa va ca->PlAt Fb vb cb->Keep Nil Fa H'->Keep Nil Fb H'->FnW Tryz.prog f ⟨[.agg ⟨va⟩,.agg ⟨vb⟩]⟩ H' (SmB H' (ca=cb))):
  FnW Tryz.prog Zbcc ⟨[.slice a la.length ac,.slice b lb.length bc,.func (.func f) #[] #[]]⟩ H (SmB H (la=lb)):=by
 have lim:=ra.cap.2;refine Zcmv a la.length ac b lb.length bc f ?_;unfold Zbvh;refine IfB.intro (fun e=>?_) fun e=>?_
 ·have e: ¬(la.length:Int)=lb.length:=by simpa using e
  have e: ¬la.length=lb.length:=by omega
  exact fun H2 hs=>⟨false,rfl,⟨(fun h=>by cases h),fun h=>absurd (congrArg List.length h) e⟩,Zi (Keep.refl _ _) hs⟩
 have e:(la.length:Int)=lb.length:=by simpa using e
 have e:la.length=lb.length:=by omega
 refine Zbt (fun m s Hx=>∃j:Nat,s=((j:Int),())∧m+j=la.length∧Keep Nil H Hx∧la.take j=lb.take j) la.length ⟨0,rfl,rfl,Keep.refl _ _,rfl⟩ ?_;rintro m s Hx ⟨j,rfl,hmj,kx,htk⟩ g;unfold Zbvg;refine IfB.intro (fun e1=>?_) fun e1=>?_
 ·have e1:=of_decide_eq_true e1;simp only at e1;have hja:j<la.length:=by omega
  have hxa:=List.getElem?_eq_getElem hja;have hxb:=List.getElem?_eq_getElem (show j<lb.length by omega)
  generalize la[j]=xa at hxa;generalize lb[j]'(by omega)=xb at hxb
  refine Zbc (z:=((j:Nat):Int)) ra (fa.trans kx) (fun _ _ h=>h.1.len) hxa rfl (fun b1 o1 v1 _ h1 _ hc1=>?_) (by decide)
  obtain ⟨h1,hq⟩:=h1;have g1:=h1;obtain ⟨_,_,rfl,_⟩:=id h1;refine ld2c hc1 (newB fun u H1 hu bu ku=>st2 bu fun H2 b2 k2=>?_);have k02:Keep Nil H H2:=kx.trans (ku.then k2 fun y hy=> .inr (hy▸hu));refine Zbc (z:=((j:Nat):Int)) rb (fb.trans k02) (fun _ _ h=>h.len) hxb rfl (fun c1 o2 v2 _ h2 _ hc2=>?_) (by decide)
  have g2:=h2;obtain ⟨_,_,rfl,_⟩:=id h2;refine ld2c hc2 (newB fun w H3 hw bw kw=>st2 bw fun H4 b4 k4=>?_);have huw:u≠w:=fun e=>by subst e;exact b2.some hw
  have b2':=k4.blk (kw.blk b2 id) huw;have k04:Keep Nil H H4:=k02.trans (kw.then k4 fun y hy=> .inr (hy▸hw));refine ld2 b2' (ld2 b4 ((hf _ _ _ _ H4 hq g1 g2 (fa.trans k04) (fb.trans k04)).mono ?_));rintro _ H5 ⟨t,rfl,ht,k5⟩;refine ⟨t,rfl,IfB.intro (fun et H6 hs=>?_) fun et=>?_⟩
  ·have et:t=false:=by simpa using et
   refine ⟨false,rfl,⟨(fun h=>by cases h),fun h=>?_⟩,Zi (k04.trans k5) hs⟩
   rw [h,hxb] at hxa;cases hxa;rw [et] at ht;exact absurd (ht.2 rfl) (by decide)
  ·have et:t=true:=by simpa using et
   have hx:=ht.1 et;subst hx;refine ⟨m - 1,by omega,j+1,Prod.ext ?_ rfl,by omega,k04.trans k5,?_⟩
   ·show IntKind.wrap .i64 ((j:Int)+1)=((j+1:Nat):Int);rw [Zbl (by omega) (by omega)];omega
   rw [List.take_add_one,List.take_add_one,htk,hxa,hxb]
 ·have e1:=of_decide_eq_false e1;simp only at e1;rw [List.take_of_length_le (by omega),List.take_of_length_le (by omega)] at htk
  exact fun H2 hs=>⟨true,rfl,⟨fun _=>htk,fun _=>rfl⟩,Zi kx hs⟩
end
end Go.Proofs.YtlkdgfolbllngaaGreatDoor
end
section
set_option maxRecDepth 100000
namespace Go.Proofs.YtlkdgfolbllngaaGreatDoor
open Go.Sh Go.Pc
section
variable {Fa Fb H0 H H1 H':Heap} {p p':Prop}
theorem SmB.no (h: ¬p) (k:Keep Nil H0 H): ∀H2,Shut H0 H H2->SmB H0 p (.bool false) H2:=fun H2 hs=>⟨false,rfl,⟨(fun h=>by cases h),fun e=>absurd e h⟩,Zi k hs⟩
theorem SmB.ret {t:Bool} (h:t=true↔p) (k:Keep Nil H0 H): ∀H2,Shut H0 H H2->SmB H0 p (.bool t) H2:=fun H2 hs=>⟨t,rfl,h,Zi k hs⟩
theorem Zbfy (a b:List UInt8):((bstr a).toList==(bstr b).toList)=true↔a=b:=by
 have e: ∀a:List UInt8,(bstr a).toList=a:=fun a=>by rw [Zmw]
 rw [e,e];simp
theorem Zcgi {va:List Value} {ca:Cd} (ha:CdAt Fa va ca): ∀{vb:List Value} {cb:Cd} {H:Heap},CdAt Fb vb cb->Keep Nil Fa H->Keep Nil Fb H->FnW Tryz.prog Zrd ⟨[.agg ⟨va⟩,.agg ⟨vb⟩]⟩ H (SmB H (ca=cb)):=by
 induction ha with
 | mk op pa pl n a ac vs l hr hl hc hm ih=>
  intro vb cb H hb fa fb;cases hb with
  | mk op2 pa2 pl2 n2 b bc ws l2 hr2 hl2 hc2 hm2=>
   have ra:RwAt (fun F v c=>CdAt F v c∧∀{vb:List Value} {cb:Cd} {H:Heap},CdAt Fb vb cb->Keep Nil Fa H->Keep Nil Fb H->FnW Tryz.prog Zrd ⟨[.agg ⟨v⟩,.agg ⟨vb⟩]⟩ H (SmB H (c=cb))) 5 Fa a ac l:=⟨⟨vs,hr,hl,fun i v d e1 e2=>⟨hm i v d e1 e2,ih i v d e1 e2⟩⟩,hc⟩;have rb:RwAt CdAt 5 Fb b bc l2:=⟨⟨ws,hr2,hl2,hm2⟩,hc2⟩;refine Zcnd op a l.length ac pa pl n op2 b l2.length bc pa2 pl2 n2 ?_;unfold Zbvt;refine newB fun q H1 hq bq k1=>newB fun r H2 hr br k2=>?_;have bq2:=k2.blk bq id;have k02:=k1.trans k2;refine ⟨_,cellL bq2 0 rfl,_,cellL br 0 rfl,IfB.intro (fun e=>⟨_,cellL bq2 2 rfl,_,cellL bq2 3 rfl,_,cellL br 2 rfl,_,cellL br 3 rfl,by kernel_rfl,IfB.intro (fun e2=>⟨_,cellL bq2 4 rfl,_,cellL br 4 rfl,IfB.intro (fun e3=>⟨_,_,_,cellL bq2 1 rfl,_,_,_,cellL br 1 rfl,(Zbyw ra rb (fa.trans k02) (fb.trans k02) fun va vb ca cb H' hq _ h2 f1 f2=>hq h2 f1 f2).mono ?_⟩) fun e3=>SmB.no ?_ k02⟩) fun e2=>SmB.no ?_ k02⟩) fun e=>SmB.no ?_ k02⟩
   rintro _ H3 ⟨t,rfl,ht,k3⟩;refine ⟨t,rfl,SmB.ret ?_ (k02.trans k3)⟩;simp only [beq_iff_eq,Bool.and_true,Bool.and_eq_true] at e e2 e3;obtain ⟨rfl,rfl⟩:=e2;subst e e3;rw [ht];exact ⟨fun h=>by rw [h],fun h=>by injection h⟩
   simp only [beq_iff_eq,beq_eq_false_iff_ne,ne_eq] at e3;exact fun h=>e3 (by injection h)
   ·exact fun h=>by
     injection h with h1 h2 h3 h4 h5
     subst h3 h4;simp at e2
   simp only [beq_iff_eq,beq_eq_false_iff_ne,ne_eq] at e;exact fun h=>e (by injection h)
theorem Zcgk {va:List Value} {ca:Sm} (ha:SmAt Fa va ca): ∀{vb:List Value} {cb:Sm} {H:Heap},SmAt Fb vb cb->Keep Nil Fa H->Keep Nil Fb H->FnW Tryz.prog Zva ⟨[.agg ⟨va⟩,.agg ⟨vb⟩]⟩ H (SmB H (ca=cb)):=by
 induction ha with
 | mk op n m cv c a a' ac ac' vs vs' th el hcv hr hl hac hm hr' hl' hac' hm' ih ih'=>
  intro vb cb H hb fa fb;cases hb with
  | mk op2 n2 m2 cv2 c2 b b' bc bc' ws ws' th2 el2 hcv2 hr2 hl2 hbc hm2 hr2' hl2' hbc' hm2'=>
   have ra:RwAt (fun F v c=>SmAt F v c∧∀{vb:List Value} {cb:Sm} {H:Heap},SmAt Fb vb cb->Keep Nil Fa H->Keep Nil Fb H->FnW Tryz.prog Zva ⟨[.agg ⟨v⟩,.agg ⟨vb⟩]⟩ H (SmB H (c=cb))) 10 Fa a ac th:=⟨⟨vs,hr,hl,fun i v d e1 e2=>⟨hm i v d e1 e2,ih i v d e1 e2⟩⟩,hac⟩;have ra':RwAt (fun F v c=>SmAt F v c∧∀{vb:List Value} {cb:Sm} {H:Heap},SmAt Fb vb cb->Keep Nil Fa H->Keep Nil Fb H->FnW Tryz.prog Zva ⟨[.agg ⟨v⟩,.agg ⟨vb⟩]⟩ H (SmB H (c=cb))) 10 Fa a' ac' el:=⟨⟨vs',hr',hl',fun i v d e1 e2=>⟨hm' i v d e1 e2,ih' i v d e1 e2⟩⟩,hac'⟩;have rb:RwAt SmAt 10 Fb b bc th2:=⟨⟨ws,hr2,hl2,hm2⟩,hbc⟩;have rb':RwAt SmAt 10 Fb b' bc' el2:=⟨⟨ws',hr2',hl2',hm2'⟩,hbc'⟩;have gc: ∀{H:Heap},Keep Nil Fa H->Keep Nil Fb H->FnW Tryz.prog Zrd ⟨[.agg ⟨cv⟩,.agg ⟨cv2⟩]⟩ H (SmB H (c=c2)):=fun fa fb=>Zcgi hcv hcv2 fa fb;obtain ⟨c0,ca,cn,ck,d2,d3,d4,rfl⟩:=hcv.five;obtain ⟨e0,ea,en,ek,f2,f3,f4,rfl⟩:=hcv2.five;refine Zcnj op c0 ca cn ck d2 d3 d4 a th.length ac a' el.length ac' n m op2 e0 ea en ek f2 f3 f4 b th2.length bc b' el2.length bc' n2 m2 ?_;unfold Zbvy;refine newB fun q H1 hq bq k1=>newB fun r H2 hr br k2=>?_;have bq2:=k2.blk bq id;have k02:=k1.trans k2;refine ⟨_,cellL bq2 0 rfl,_,cellL br 0 rfl,IfB.intro (fun e=>⟨_,cellL bq2 8 rfl,_,cellL br 8 rfl,IfB.intro (fun e2=>⟨_,cellL bq2 9 rfl,_,cellL br 9 rfl,IfB.intro (fun e3=>⟨_,cellL bq2 1 rfl,_,_,_,cellL bq2 2 rfl,_,cellL bq2 3 rfl,_,cellL bq2 4 rfl,_,cellL bq2 5 rfl,_,cellL br 1 rfl,_,_,_,cellL br 2 rfl,_,cellL br 3 rfl,_,cellL br 4 rfl,_,cellL br 5 rfl,(gc (fa.trans k02) (fb.trans k02)).mono ?_⟩) fun e3=>SmB.no ?_ k02⟩) fun e2=>SmB.no ?_ k02⟩) fun e=>SmB.no ?_ k02⟩
   ·rintro _ H3 ⟨t,rfl,ht,k3⟩;simp only [beq_iff_eq] at e e2 e3;subst e e2 e3;have k03:=k02.trans k3;refine ⟨t,rfl,IfB.intro (fun et=>⟨_,_,_,cellL (k3.blk bq2 id) 6 rfl,_,_,_,cellL (k3.blk br id) 6 rfl,(Zbbp ra rb (fa.trans k03) (fb.trans k03) fun va vb ca cb H' hq _ h2 f1 f2=>hq h2 f1 f2).mono ?_⟩) fun et=>SmB.no ?_ k03⟩
    ·rintro _ H4 ⟨t4,rfl,ht4,k4⟩;have k04:=k03.trans k4;refine ⟨t4,rfl,IfB.intro (fun et4=>⟨_,_,_,cellL (k4.blk (k3.blk bq2 id) id) 7 rfl,_,_,_,cellL (k4.blk (k3.blk br id) id) 7 rfl,(Zbbp ra' rb' (fa.trans k04) (fb.trans k04) fun va vb ca cb H' hq _ h2 f1 f2=>hq h2 f1 f2).mono ?_⟩) fun et4=>SmB.no ?_ k04⟩;rintro _ H5 ⟨t5,rfl,ht5,k5⟩;refine ⟨t5,rfl,SmB.ret ?_ (k04.trans k5)⟩;rw [ht5,ht.1 et,ht4.1 et4];exact ⟨fun h=>by rw [h],fun h=>by injection h⟩
     rw [et4] at ht4;exact fun h=>absurd (ht4.2 (by injection h)) (by decide)
    rw [et] at ht;exact fun h=>absurd (ht.2 (by injection h)) (by decide)
   simp only [beq_eq_false_iff_ne,ne_eq] at e3;exact fun h=>e3 (by injection h)
   simp only [beq_eq_false_iff_ne,ne_eq] at e2;exact fun h=>e2 (by injection h)
   simp only [beq_eq_false_iff_ne,ne_eq] at e;exact fun h=>e (by injection h)
theorem RwAt.and {α:Type} {P:Heap->List Value->α->Prop} {sz:Nat} {F:Heap} {a:Option Addr} {c:Nat} {l:List α} (h:RwAt P sz F a c l):RwAt (fun F v x=>P F v x∧True) sz F a c l:=by obtain ⟨vs,h1,h2,h3⟩:=h.ex;exact ⟨⟨vs,h1,h2,fun i v d e1 e2=>⟨h3 i v d e1 e2,trivial⟩⟩,h.cap⟩
theorem Zcgj {va vb:List Value} {x y:Pl} (ha:PlAt Fa va x) (hb:PlAt Fb vb y) (fa:Keep Nil Fa H) (fb:Keep Nil Fb H):FnW Tryz.prog Zbki ⟨[.agg ⟨va⟩,.agg ⟨vb⟩]⟩ H (SmB H (x=y)):=by
 obtain ⟨nx,lx⟩:=x;obtain ⟨ny,ly⟩:=y;obtain ⟨a,ac,rfl,ra⟩:=ha;obtain ⟨b,bc,rfl,rb⟩:=hb;refine Zcnr (bstr nx) a lx.length ac (bstr ny) b ly.length bc ?_;unfold Zbwg;refine newB fun q H1 hq bq k1=>newB fun r H2 hr br k2=>?_;have bq2:=k2.blk bq id;have k02:=k1.trans k2;refine ⟨_,cellL bq2 0 rfl,_,cellL br 0 rfl,IfB.intro (fun e=>⟨_,_,_,cellL bq2 1 rfl,_,_,_,cellL br 1 rfl,(Zbbp ra.and rb (fa.trans k02) (fb.trans k02) fun va vb ca cb H' _ h1 h2 f1 f2=>Zcgk h1 h2 f1 f2).mono ?_⟩) fun e=>SmB.no ?_ k02⟩;rintro _ H3 ⟨t,rfl,ht,k3⟩;have e:=(Zbfy nx ny).1 e;subst e;refine ⟨t,rfl,SmB.ret ?_ (k02.trans k3)⟩;have ht:t=true↔lx=ly:=ht;rw [ht];exact ⟨fun h=>by rw [h],fun h=>by injection h⟩
 ·exact fun h=>by
   injection h with h1 h2
   have:=(Zbfy nx ny).2 h1;rw [this] at e;cases e
theorem Zbyv {la lb:List Pr} {a b:Option Addr} {ac bc:Nat} (ra:RwAt PrAt 7 Fa a ac la) (rb:RwAt PrAt 7 Fb b bc lb) (fa:Keep Nil Fa H) (fb:Keep Nil Fb H):
  FnW Tryz.prog Zbcd ⟨[.slice a la.length ac,.slice b lb.length bc]⟩ H (SmB H (la=lb)):=by
 have lim:=ra.cap.2;refine Zcmw a la.length ac b lb.length bc ?_;unfold Zbvj;refine IfB.intro (fun e=>?_) fun e=>?_
 ·have e: ¬(la.length:Int)=lb.length:=by simpa using e
  have e: ¬la.length=lb.length:=by omega
  exact SmB.no (fun h=>e (congrArg List.length h)) (Keep.refl _ _)
 have e:(la.length:Int)=lb.length:=by simpa using e
 have e:la.length=lb.length:=by omega
 refine Zbt (fun m s Hx=>∃j:Nat,s=((j:Int),())∧m+j=la.length∧Hx=H∧la.take j=lb.take j) la.length ⟨0,rfl,rfl,rfl,rfl⟩ ?_;rintro m s Hx ⟨j,rfl,hmj,rfl,htk⟩ g;unfold Zbvi;have prl: ∀{F:Heap} (v:List Value) (p:Pr),PrAt F v p->v.length=7:=fun v p h=>by have h:v=_:=h;rw [h];rfl
 refine IfB.intro (fun e1=>?_) fun e1=>?_
 ·have e1:=of_decide_eq_true e1;simp only at e1;have hja:j<la.length:=by omega
  have hxa:=List.getElem?_eq_getElem hja;have hxb:=List.getElem?_eq_getElem (show j<lb.length by omega)
  generalize la[j]=xa at hxa;generalize lb[j]'(by omega)=xb at hxb
  refine Zbc (z:=((j:Nat):Int)) ra fa prl hxa rfl (fun b1 o1 v1 _ h1 _ hc1=>?_) (by decide)
  have h1:v1=_:=h1;subst h1;refine ld7c (p:=xa) hc1 (Zbc (z:=((j:Nat):Int)) rb fb prl hxb rfl (fun b1 o1 v1 _ h1 _ hc1=>?_) (by decide))
  have h1:v1=_:=h1;subst h1;refine ld7c (p:=xb) hc1 ⟨by kernel_rfl,?_⟩
  obtain ⟨n1,a1,s1,w1,m1,i1,o1⟩:=xa;obtain ⟨n2,a2,s2,w2,m2,i2,o2⟩:=xb;have hbb: ∀x y:List UInt8,(bstr x==bstr y)=decide (x=y):=fun x y=>by show (x.toArray==y.toArray)=_;rw [Bool.eq_iff_iff];simp
  refine IfB.intro (fun e2=>SmB.no (fun h=>?_) (Keep.refl _ _)) fun e2=>?_;rw [h,hxb] at hxa;cases hxa;simp [hbb] at e2
  ·simp only [hbb,Bool.not_eq_false',Bool.and_eq_true,decide_eq_true_eq,beq_iff_eq,Bool.and_true] at e2;obtain ⟨rfl,rfl,rfl,rfl,rfl,rfl,rfl⟩:=e2;refine ⟨m - 1,by omega,j+1,Prod.ext ?_ rfl,by omega,rfl,?_⟩
   ·show IntKind.wrap .i64 ((j:Int)+1)=((j+1:Nat):Int);rw [Zbl (by omega) (by omega)];omega
   rw [List.take_add_one,List.take_add_one,htk,hxa,hxb]
 ·have e1:=of_decide_eq_false e1;simp only at e1;rw [List.take_of_length_le (by omega),List.take_of_length_le (by omega)] at htk
  exact SmB.ret ⟨fun _=>htk,fun _=>rfl⟩ (Keep.refl _ _)
theorem Zcmp {va vb:List Value} {x y:Sp} (ha:SpV Fa va x) (hb:SpV Fb vb y) (fa:Keep Nil Fa H) (fb:Keep Nil Fb H):FnW Tryz.prog Zuy ⟨[.agg ⟨va⟩,.agg ⟨vb⟩]⟩ H (SmB H (x=y)):=by
 obtain ⟨a5,a6,c5,c6,rfl,pa,qa⟩:=ha.ex;obtain ⟨b5,b6,d5,d6,rfl,pb,qb⟩:=hb.ex;obtain ⟨x0,x1,x2,x3,x4,x5,x6⟩:=x;obtain ⟨y0,y1,y2,y3,y4,y5,y6⟩:=y;refine Zcmq x0 x1 x2 x3 x4 a5 x5.length c5 a6 x6.length c6 y0 y1 y2 y3 y4 b5 y5.length d5 b6 y6.length d6 ?_;unfold Zbvb;refine newB fun q H1 hq bq k1=>newB fun r H2 hr br k2=>?_;have bq2:=k2.blk bq id;have k02:=k1.trans k2;refine ⟨_,cellL bq2 0 rfl,_,cellL br 0 rfl,IfB.intro (fun e0=>⟨_,cellL bq2 1 rfl,_,cellL br 1 rfl,IfB.intro (fun e1=>⟨_,cellL bq2 2 rfl,_,cellL br 2 rfl,IfB.intro (fun e2=>⟨_,cellL bq2 3 rfl,_,cellL br 3 rfl,IfB.intro (fun e3=>⟨_,cellL bq2 4 rfl,_,cellL br 4 rfl,IfB.intro (fun e4=>⟨_,_,_,cellL bq2 5 rfl,_,_,_,cellL br 5 rfl,(Zbyx pa.and pb (fa.trans k02) (fb.trans k02) fun va vb ca cb H' _ h1 h2 f1 f2=>Zcgj h1 h2 f1 f2).mono ?_⟩) fun e=>SmB.no ?_ k02⟩) fun e=>SmB.no ?_ k02⟩) fun e=>SmB.no ?_ k02⟩) fun e=>SmB.no ?_ k02⟩) fun e=>SmB.no ?_ k02⟩
 ·rintro _ H3 ⟨t,rfl,ht,k3⟩;have k03:=k02.trans k3;simp only [beq_iff_eq] at e0 e1 e2 e3 e4;subst e0 e1 e2 e3 e4;refine ⟨t,rfl,IfB.intro (fun et=>⟨_,_,_,cellL (k3.blk bq2 id) 6 rfl,_,_,_,cellL (k3.blk br id) 6 rfl,(Zbyv qa qb (fa.trans k03) (fb.trans k03)).mono ?_⟩) fun et=>SmB.no ?_ k03⟩;rintro _ H4 ⟨t4,rfl,ht4,k4⟩;refine ⟨t4,rfl,SmB.ret ?_ (k03.trans k4)⟩;have h5:x5=y5:=ht.1 et;subst h5;have ht4:t4=true↔x6=y6:=ht4;rw [ht4];exact ⟨fun h=>by rw [h],fun h=>by injection h⟩
  rw [et] at ht;exact fun h=>absurd (ht.2 (by injection h)) (by decide)
 all_goals simp only [beq_eq_false_iff_ne,ne_eq] at e
 all_goals exact fun h=>e (by injection h)
end
end Go.Proofs.YtlkdgfolbllngaaGreatDoor
end
section
set_option maxRecDepth 100000
namespace Go.Proofs.YtlkdgfolbllngaaGreatDoor
open Go.Sh Go.Pc
def Zhx (sp:Sp):W8:=[Zcs,Lib.itoa sp.as_,w_sc,Zda,txt sp.router.toNat,w_sc,Zdv,Lib.itoa sp.hold,w_sc,Zej,Lib.itoa sp.retry,w_sc]
def wSp (sp:Sp):W8:=Zhx sp++((if sp.grace>0 then [Zdu,Lib.itoa sp.grace,w_sc] else [])++(wPls sp.pols++wPrs sp.peers))
def Zdg (sp:Sp):List UInt8:=Lib.join (wSp sp) [32]
structure spR (sp:Sp):Prop where
 as_:u32R sp.as_
 router:u32R sp.router
 hold:i64R sp.hold
 retry:i64R sp.retry
 grace:i64R sp.grace
 pols: ∀p∈sp.pols,smRs p.l
 peers: ∀p∈sp.peers,prR p
def PrtR (H:Heap) (e:Int) (sp:Sp) (v:Value) (H':Heap):Prop:=Keep Nil H H'∧
 ((e≠0∧v= .tuple ⟨[.string (bstr []),.int .i64 e]⟩)∨(e=0∧Zdr (Zdg sp)≠ .ok sp∧v= .tuple ⟨[.string (bstr []),.int .i64 2]⟩)∨(e=0∧Zdr (Zdg sp)= .ok sp∧v= .tuple ⟨[.string (bstr (Zdg sp)),.int .i64 0]⟩))
section
variable {F H0 He H H1 H2 H':Heap} {wb q:Nat} {ws l:W8} {sp:Sp} {vs:List Value} {e:Int}
theorem Zceq (hy:Lyd H0) (k0:Keep Nil H H0) (hv:SpV F vs sp) (fr:Keep Nil F H0) (w:Wt H0 H1 wb (wSp sp)) {s1:Nat} (bs:Blk H0 s1 Zcc ⟨vs⟩) (hn:(wSp sp).length <= 999999999000) (hl:(Zdg sp).length <= 140000000000000) (hx: ∀x∈wSp sp,x.length <= 140000000000000):
  ∃(x77a:Option Addr) (x77n x77c:Nat),H1.cell ⟨wb,0,none⟩=some (Value.slice x77a x77n x77c)∧
 FnW Tryz.prog Zjw ⟨[(Value.slice x77a x77n x77c),(Value.string (ByteArray.mk #[32]))]⟩ H1 fun x78v H31=>
 ∃x78:ByteArray,x78v=(Value.string x78)∧
 FnW Tryz.prog Zlj ⟨[(Value.string x78)]⟩ H31 fun x81v H32=>
 ∃c0:Int,∃c1:Int,∃c2:Int,∃c3:Int,∃c4:Int,∃(c5a:Option Addr) (c5n c5c:Nat),∃(c6a:Option Addr) (c6n c6c:Nat),∃x81r1:Int,∃x81r2:Int,x81v=(Value.tuple ⟨[(Value.agg ⟨[(Value.int .u32 c0),(Value.int .u32 c1),(Value.int .i64 c2),(Value.int .i64 c3),(Value.int .i64 c4),(Value.slice c5a c5n c5c),(Value.slice c6a c6n c6c)]⟩),(Value.int .i64 x81r1),(Value.int .i64 x81r2)]⟩)∧
 NewW H32 (Obj.cells ⟨[(Value.int .u32 0),(Value.int .u32 0),(Value.int .i64 0),(Value.int .i64 0),(Value.int .i64 0),(Value.slice none 0 0),(Value.slice none 0 0)]⟩ Zcc) fun again11b H33=>
 Za H33 ⟨again11b,0,none⟩ (Value.int .u32 c0) fun H34=>
 Za H34 ⟨again11b,1,none⟩ (Value.int .u32 c1) fun H35=>
 Za H35 ⟨again11b,2,none⟩ (Value.int .i64 c2) fun H36=>
 Za H36 ⟨again11b,3,none⟩ (Value.int .i64 c3) fun H37=>
 Za H37 ⟨again11b,4,none⟩ (Value.int .i64 c4) fun H38=>
 Za H38 ⟨again11b,5,none⟩ (Value.slice c5a c5n c5c) fun H39=>
 Za H39 ⟨again11b,6,none⟩ (Value.slice c6a c6n c6c) fun H40=>
 IfB ((x81r2:Int) !=0)
 (Zpj x78 x81r2 true H40 fun v H1=>∀H2,Shut H H1 H2->PrtR H 0 sp v H2)
 (∃d0:Int,H40.cell ⟨again11b,0,none⟩=some (Value.int .u32 d0)∧∃d1:Int,H40.cell ⟨again11b,1,none⟩=some (Value.int .u32 d1)∧∃d2:Int,H40.cell ⟨again11b,2,none⟩=some (Value.int .i64 d2)∧∃d3:Int,H40.cell ⟨again11b,3,none⟩=some (Value.int .i64 d3)∧∃d4:Int,H40.cell ⟨again11b,4,none⟩=some (Value.int .i64 d4)∧∃(d5a:Option Addr) (d5n d5c:Nat),H40.cell ⟨again11b,5,none⟩=some (Value.slice d5a d5n d5c)∧∃(d6a:Option Addr) (d6n d6c:Nat),H40.cell ⟨again11b,6,none⟩=some (Value.slice d6a d6n d6c)∧
  ∃g0:Int,H40.cell ⟨s1,0,none⟩=some (Value.int .u32 g0)∧∃g1:Int,H40.cell ⟨s1,1,none⟩=some (Value.int .u32 g1)∧∃g2:Int,H40.cell ⟨s1,2,none⟩=some (Value.int .i64 g2)∧∃g3:Int,H40.cell ⟨s1,3,none⟩=some (Value.int .i64 g3)∧∃g4:Int,H40.cell ⟨s1,4,none⟩=some (Value.int .i64 g4)∧∃(g5a:Option Addr) (g5n g5c:Nat),H40.cell ⟨s1,5,none⟩=some (Value.slice g5a g5n g5c)∧∃(g6a:Option Addr) (g6n g6c:Nat),H40.cell ⟨s1,6,none⟩=some (Value.slice g6a g6n g6c)∧
  FnW Tryz.prog Zuy ⟨[(Value.agg ⟨[(Value.int .u32 d0),(Value.int .u32 d1),(Value.int .i64 d2),(Value.int .i64 d3),(Value.int .i64 d4),(Value.slice d5a d5n d5c),(Value.slice d6a d6n d6c)]⟩),(Value.agg ⟨[(Value.int .u32 g0),(Value.int .u32 g1),(Value.int .i64 g2),(Value.int .i64 g3),(Value.int .i64 g4),(Value.slice g5a g5n g5c),(Value.slice g6a g6n g6c)]⟩)]⟩ H40 fun x90v H42=>
 ∃x90:Bool,x90v=(Value.bool x90)∧
 Zpj x78 x81r2 (!x90) H42 fun v H1=>∀H2,Shut H H1 H2->PrtR H 0 sp v H2):=by
  obtain ⟨a,n,c,hc,hj⟩:=Zcan hy w (by omega) hl hx
  refine ⟨a,n,c,hc,hj.mono ?_⟩;rintro _ H3 ⟨rfl,k3⟩;have k01:=k0.trans w.k;have k03:=k01.trans k3;refine ⟨_,rfl,(Zyw (s:=Zdg sp) ((hy.keep w.k).keep k3) hl).mono ?_⟩;rintro v1 H4 ⟨k4,hp⟩;have k04:=k03.trans k4;have kf4:=(w.k.trans k3).trans k4;obtain ⟨sp1,F1,vs1,ln,e1,rfl,hv1,fr1,c1⟩: ∃(sp1:Sp) (F1:Heap) (vs1:List Value) (ln e1:Int),v1= .tuple ⟨[.agg ⟨vs1⟩,.int .i64 ln,.int .i64 e1]⟩∧SpV F1 vs1 sp1∧Keep Nil F1 H4∧((Zdr (Zdg sp)= .ok sp1∧e1=0)∨(Zdr (Zdg sp)= .error (ln,e1)∧e1≠0)):=by
   cases hq:Zdr (Zdg sp) with
   | ok sp1=>
    rw [hq] at hp;obtain ⟨F1,vs1,rfl,h1,h2,_⟩:=hp;exact ⟨sp1,F1,vs1,0,0,rfl,h1,h2,.inl ⟨rfl,rfl⟩⟩
   | error z=>
    obtain ⟨ln,e1⟩:=z;rw [hq] at hp;obtain ⟨rfl,h1⟩:=hp;exact ⟨Zbfu,emp,spZ,ln,e1,rfl,SpV.zero,Zbjx,.inr ⟨rfl,h1⟩⟩
  have hv1':=hv1;obtain ⟨a1,b1,ac1,bc1,rfl,_⟩:=hv1'.ex;have hv':=hv;obtain ⟨a2,b2,ac2,bc2,rfl,_⟩:=hv'.ex;refine ⟨_,_,_,_,_,_,_,_,_,_,_,_,_,rfl,newB fun q H5 hq bq k5=>st7s bq fun H6 b6 k6=>?_⟩;have k46:Keep Nil H4 H6:=k5.then k6 fun y hy=> .inr (hy▸hq);have k06:=k04.trans k46;have bs6:=(kf4.trans k46).blk bs id;refine IfB.intro (fun e2=>?_) fun e2=>?_
  ·have e2:e1≠0:=by simpa using e2
   unfold Zpj;refine ifT rfl fun H7 hs=>⟨Zi k06 hs,.inr (.inl ⟨rfl,?_,rfl⟩)⟩;rcases c1 with ⟨_,h⟩ | ⟨h,_⟩;exact absurd h e2;rw [h];exact fun h=>by cases h
  ·have e2:e1=0:=by simpa using e2
   have hok:Zdr (Zdg sp)= .ok sp1:=by rcases c1 with ⟨h,_⟩ | ⟨_,h⟩;exact h;exact absurd e2 h
   refine ld7s b6 (ld7s bs6 ((Zcmp hv1 hv (fr1.trans k46) (fr.trans (kf4.trans k46))).mono ?_));rintro _ H7 ⟨t,rfl,ht,k7⟩;have k07:=k06.trans k7;refine ⟨t,rfl,?_⟩;unfold Zpj;rw [e2];refine IfB.intro (fun et H8 hs=>⟨Zi k07 hs,.inr (.inl ⟨rfl,fun h=>?_,rfl⟩)⟩) fun et H8 hs=>⟨Zi k07 hs,.inr (.inr ⟨rfl,?_,rfl⟩)⟩
   ·have et:t=false:=by simpa using et
    rw [et] at ht;rw [hok] at h;cases h;exact absurd (ht.2 rfl) (by decide)
   ·have et:t=true:=by simpa using et
    rw [hok,ht.1 et]
end
end Go.Proofs.YtlkdgfolbllngaaGreatDoor
end
section
set_option maxRecDepth 100000
namespace Go.Proofs.YtlkdgfolbllngaaGreatDoor
open Go.Sh Go.Pc
section
variable {F H0 He H H1 H2 H':Heap} {wb q:Nat} {ws l:W8} {sp:Sp} {vs:List Value} {e:Int}
theorem Zbrx {j:Nat} (hj:j <= 100001):((IntKind.wrap .i64 ((j:Int)+1)),())=(((j+1:Nat):Int),()):=
 Prod.ext (by show IntKind.wrap .i64 ((j:Int)+1)=((j+1:Nat):Int);rw [Zbl (by omega) (by omega)];omega) rfl
theorem Zcer (hy:Lyd H0) (k0:Keep Nil H H0) (hv:SpV F vs sp) (fr:Keep Nil F H0) (hR:spR sp) {s1:Nat} (bs:Blk H0 s1 Zcc ⟨vs⟩) (hn:(wSp sp).length <= 999999999000) (hl:(Zdg sp).length <= 140000000000000) (hx: ∀x∈wSp sp,x.length <= 140000000000000)
  {lead:W8} (hlead:lead++wPrs sp.peers=wSp sp) {a:Option Addr} {cp:Nat} (hr:RwAt PrAt 7 F a cp sp.peers) {pa:Option Addr} {pn pc:Nat} {m0:Nat} {I:Nat->Int×Unit->Heap->Prop} (w:Wt H0 H1 wb lead):
  Zbw (Int×Unit) (0,()) H1 fun x H' next=>∀_g:Env,Zbgy s1 wb a sp.peers.length cp (fun x' H'=>∃k',k'<m0∧I k' x' H') x.1 H' next fun v H1=>∀H2,Shut H H1 H2->PrtR H 0 sp v H2:=by
 have lim:=hr.cap.2;have hlw:=w.live;refine Zbt (fun m s Hx=>∃(j:Nat) (sf:W8),s=((j:Int),())∧m+j=sp.peers.length∧Wt H0 Hx wb (lead++sf)∧sf++wPrs (sp.peers.drop j)=wPrs sp.peers) sp.peers.length ⟨0,[],rfl,rfl,by rw [List.append_nil];exact w,rfl⟩ ?_
 rintro m s Hx ⟨j,sf,rfl,hmj,b,hsf⟩ g;unfold Zbgy;have prl: ∀{F:Heap} (v:List Value) (p:Pr),PrAt F v p->v.length=7:=fun v p h=>by have h:v=_:=h;rw [h];rfl
 have hlx:=b.live;refine IfB.intro (fun e=>?_) fun e=>?_
 ·have e:=of_decide_eq_true e;simp only at e;have hjl:j<sp.peers.length:=by omega
  have hxj:=List.getElem?_eq_getElem hjl;generalize sp.peers[j]=x at hxj;rw [Zcjx hxj] at hsf;have hlen:=congrArg List.length hsf;have hlen2:=congrArg List.length hlead;simp only [List.length_append] at hlen hlen2;refine Zbc (z:=((j:Nat):Int)) hr (fr.trans b.k) prl hxj rfl (fun b1 o1 v1 _ h1 _ hc1=>?_) (by decide)
  have h1:v1=_:=h1;subst h1;refine ld7c (p:=x) hc1 (newB fun u H3 hu bu ku=>?_);have w0:=Wb.start b;have c1:=Lc.new w0 hu bu ku;have b1:=w0.nil ku hlx;refine st7 (nm:=x.name) (i_:=x.in_) (o_:=x.out) c1.blk fun H4 b4 k4=>?_;have c2:=c1.wr b1 k4 b4;have b2:=b1.wr c1 k4;refine ld7 (nm:=x.name) (i_:=x.in_) (o_:=x.out) c2.blk ((Zcdp hy (hR.peers x (List.mem_of_getElem? hxj)) b2.w (by simp only [List.length_append];omega)).mono ?_)
  rintro _ H5 ⟨rfl,w5,x5⟩;rw [List.append_assoc] at w5;exact ⟨rfl,m - 1,by omega,j+1,_,Zbrx (by omega),by omega,w5,by rw [← hsf,List.append_assoc]⟩
 ·have e:=of_decide_eq_false e;simp only at e;have hdrop:sp.peers.drop j= []:=List.drop_eq_nil_of_le (by omega)
  rw [hdrop] at hsf;simp only [wPrs,List.append_nil] at hsf;rw [hsf,hlead] at b;exact Zceq hy k0 hv fr b bs hn hl hx
theorem Zbpa (hy:Lyd H0) (k0:Keep Nil H H0) (hv:SpV F vs sp) (fr:Keep Nil F H0) (hR:spR sp) {s1:Nat} (bs:Blk H0 s1 Zcc ⟨vs⟩) (hn:(wSp sp).length <= 999999999000) (hl:(Zdg sp).length <= 140000000000000) (hx: ∀x∈wSp sp,x.length <= 140000000000000)
  {lead:W8} (hlead:lead++(wPls sp.pols++wPrs sp.peers)=wSp sp) (w:Wt H0 H1 wb lead):
  Zyv s1 wb H1 fun v H1=>∀H2,Shut H H1 H2->PrtR H 0 sp v H2:=by
 have hv':=hv;obtain ⟨a,c,ac,bc,rfl,ra,rp⟩:=hv'.ex;have lim:=ra.cap.2;have hlw:=w.live;unfold Zyv;refine ⟨_,_,_,cellL (w.k.blk bs id) 5 rfl,Zbt (fun m s Hx=>∃(j:Nat) (sf:W8),s=((j:Int),())∧m+j=sp.pols.length∧Wt H0 Hx wb (lead++sf)∧sf++wPls (sp.pols.drop j)=wPls sp.pols) sp.pols.length ⟨0,[],rfl,rfl,by rw [List.append_nil];exact w,rfl⟩ ?_⟩
 rintro m s Hx ⟨j,sf,rfl,hmj,b,hsf⟩ g;unfold Zbsx;have hlx:=b.live;refine IfB.intro (fun e=>?_) fun e=>?_
 ·have e:=of_decide_eq_true e;simp only at e;have hjl:j<sp.pols.length:=by omega
  have hxj:=List.getElem?_eq_getElem hjl;generalize sp.pols[j]=x at hxj;rw [Zcjw hxj] at hsf;have hlen:=congrArg List.length hsf;have hlen2:=congrArg List.length hlead;have hB:wPl x= [Zcr,x.name]++wB x.l:=rfl;rw [hB] at hsf hlen;simp only [List.length_append,List.length_cons,List.length_nil] at hlen hlen2;refine Zbc (z:=((j:Nat):Int)) ra (fr.trans b.k) (fun _ _ h=>h.len) hxj rfl (fun b1 o1 v1 _ h1 _ hc1=>?_) (by decide)
  obtain ⟨pa,pc,rfl,hrow⟩:=h1;refine ld2c hc1 (newB fun u H3 hu bu ku=>?_);have w0:=Wb.start b;have c1:=Lc.new w0 hu bu ku;have b1:=w0.nil ku hlx;refine st2 c1.blk fun H4 b4 k4=>?_;have c2:=c1.wr b1 k4 b4;have b2:=b1.wr c1 k4;refine ⟨_,cellL c2.blk 0 rfl,sayN b2 hlx [Zcr,x.name] (by simp only [List.length_append,List.length_cons,List.length_nil];omega) fun H5 b5 x5=>?_⟩
  have c5:=c2.call x5;have hrow2:RwAt (fun F v s=>SmAt F v s∧SmOk H0 wb v s) 10 F pa pc x.l:=by have hsm:smRs x.l:=hR.pols x (List.mem_of_getElem? hxj);obtain ⟨us,g1,g2,g3⟩:=hrow.ex;exact ⟨⟨us,g1,g2,fun i v d e1 e2=>⟨g3 i v d e1 e2,Zchu hy fr (g3 i v d e1 e2) (Zxd hsm e2)⟩⟩,hrow.cap⟩
  refine ⟨_,_,_,cellL c5.blk 1 rfl,(Zbak fr hrow2 b5.w (by simp only [List.length_append,List.length_cons,List.length_nil];omega)).mono ?_⟩
  rintro _ H6 ⟨rfl,w6,x6⟩;rw [List.append_assoc,List.append_assoc] at w6;exact ⟨rfl,m - 1,by omega,j+1,_,Zbrx (by omega),by omega,w6,by rw [← hsf];simp only [List.append_assoc]⟩
 ·have e:=of_decide_eq_false e;simp only at e;have hdrop:sp.pols.drop j= []:=List.drop_eq_nil_of_le (by omega)
  rw [hdrop] at hsf;simp only [wPls,List.append_nil] at hsf;rw [hsf] at b;exact ⟨_,_,_,cellL (b.k.blk bs id) 6 rfl,Zcer (pa:=none) (pn:=0) (pc:=0) hy k0 hv fr hR bs hn hl hx (by rw [List.append_assoc,hlead]) rp b⟩
theorem Zcep (hy:Lyd H) (hv:SpV F vs sp) (fr:Keep Nil F H) (hR:spR sp) (hn:(wSp sp).length <= 999999999000) (hl:(Zdg sp).length <= 140000000000000) (hx: ∀x∈wSp sp,x.length <= 140000000000000)
  (hck: ∀{H':Heap},Keep Nil F H'->FnW Tryz.prog Zll ⟨[.agg ⟨vs⟩]⟩ H' fun v H''=>v= .int .i64 e∧Keep Nil H' H''):FnW Tryz.prog Zbbw ⟨[.agg ⟨vs⟩]⟩ H (PrtR H e sp):=by
 have hv':=hv;obtain ⟨a,c,ac,bc,rfl,ra,rp⟩:=hv'.ex;refine Zclf sp.as_ sp.router sp.hold sp.retry sp.grace a sp.pols.length ac c sp.peers.length bc ?_;unfold Zbsy;refine newB fun s1 H1 hs1 bs k1=>ld7s bs ((hck (fr.trans k1)).mono ?_);rintro _ H2 ⟨rfl,k2⟩;have k02:=k1.trans k2;have bs2:=k2.blk bs id;refine ⟨_,rfl,IfB.intro (fun e0=>?_) fun e0=>?_⟩
 ·have e0:e≠0:=by simpa using e0
  exact fun H3 hs=>⟨Zi k02 hs,.inl ⟨e0,rfl⟩⟩
 have e0:e=0:=by simpa using e0
 rw [e0];refine newB fun wb H3 hw bw k3=>?_;have w:Wt H2 H3 wb []:=⟨hw,k3,none,0,bw,Own.nil,by decide⟩
 have hlw:=w.live;have bs3:=k3.blk bs2 id;have hy2:=hy.keep k02;have fr2:=fr.trans k02;have hw1:IntKind.wrap .i64 sp.as_=sp.as_:=Zbl (by have:=hR.as_;unfold u32R at this;omega) (by have:=hR.as_;unfold u32R at this;omega)
 have has:i64R sp.as_:=by have:=hR.as_;unfold u32R at this;unfold i64R;omega
 refine ⟨[s1],Zrj bs3.some,_,cellL bs3 0 rfl,List.mem_singleton.2 rfl,_,cellL bs3 1 rfl,List.mem_singleton.2 rfl,_,cellL bs3 2 rfl,List.mem_singleton.2 rfl,_,cellL bs3 3 rfl,?_⟩;rw [hw1];refine (Zlv (hy2.keep w.k) has.1 has.2).mono ?_;rintro _ H4 ⟨rfl,k4⟩;refine ⟨_,rfl,Zny bs3.some k4,(ipF ((hy2.keep w.k).keep k4) hR.router.1 hR.router.2).mono ?_⟩;rintro _ H5 ⟨rfl,k5⟩;have k35:=k4.trans k5;refine ⟨_,rfl,Zny bs3.some k35,(Zlv ((hy2.keep w.k).keep k35) hR.hold.1 hR.hold.2).mono ?_⟩;rintro _ H6 ⟨rfl,k6⟩;have k36:=k35.trans k6;refine ⟨_,rfl,Zny bs3.some k36,(Zlv ((hy2.keep w.k).keep k36) hR.retry.1 hR.retry.2).mono ?_⟩;rintro _ H7 ⟨rfl,k7⟩;have k37:=k36.trans k7;have b7:=(Wb.start w).nil k37 hlw;refine ⟨_,rfl,Zny bs3.some k37,sayN b7 hlw (Zhx sp) (by unfold Zhx;simp only [List.length_cons,List.length_nil];omega) fun H8 b8 x8=>?_⟩
 rw [List.nil_append] at b8;refine ⟨_,cellL (b8.w.k.blk bs2 id) 4 rfl,IfB.intro (fun g=>⟨_,cellL (b8.w.k.blk bs2 id) 4 rfl,(Zlv (hy2.keep b8.w.k) hR.grace.1 hR.grace.2).mono ?_⟩) fun g=>?_⟩
 ·have g:=of_decide_eq_true g;rintro _ H9 ⟨rfl,k9⟩;refine ⟨_,rfl,sayN (b8.nil k9 hlw) hlw [Zdu,Lib.itoa sp.grace,w_sc] (by unfold Zhx;simp only [List.length_cons,List.length_nil];omega) fun H10 b10 x10=>?_⟩
  refine Zbpa hy2 k02 hv fr2 hR bs2 hn hl hx (lead:=Zhx sp++[Zdu,Lib.itoa sp.grace,w_sc]) ?_ b10.w;unfold wSp;rw [if_pos g,List.append_assoc]
 have g:=of_decide_eq_false g;refine Zbpa hy2 k02 hv fr2 hR bs2 hn hl hx (lead:=Zhx sp) ?_ b8.w;unfold wSp;rw [if_neg g,List.nil_append]
end
end Go.Proofs.YtlkdgfolbllngaaGreatDoor
end
section
set_option maxRecDepth 100000
namespace Go.Sh
section
variable {κ:Type} [DecidableEq κ] {kv:κ->Value} {P:Program} {t kt el:TypeId} {H:Heap} {z:Value}
def repG (k:κ) (v:Value):List (Gv κ)->List (Gv κ)
 | []=>[]
 | e::es=>if k=e.1 then (k,v,e.2.2)::es else e::repG k v es
theorem Zbkx (k:κ) (v old:Value): ∀es:List (Gv κ),getG k es=some old->getG k (repG k v es)=some v
 | [],h=>by cases h
 | e::es,h=>by unfold getG at h;unfold repG;split at h;rename_i hk;rw [if_pos hk];unfold getG;rw [if_pos rfl];rename_i hk;rw [if_neg hk];unfold getG;rw [if_neg hk];exact Zbkx k v old es h
theorem Zbpl (k:κ) (v:Value): ∀(es:List (Gv κ)) (i j:Nat) (w:Value),idxG k es i=some (j,w)->∃d,j=i+d∧((es.map (entG kv))[d]?).map (fun e=>e.key)=some (kv k)∧
  (es.map (entG kv)).modify d (fun e=>{ e with key:=kv k,val:=v })=(repG k v es).map (entG kv)
 | [],_,_,_,h=>by cases h
 | e::es,i,j,w,h=>by
  unfold idxG at h;unfold repG;split at h
  ·rename_i hk;cases h;refine ⟨0,rfl,by simp [entG,hk],?_⟩
   rw [if_pos hk];simp [entG]
  ·rename_i hk;obtain ⟨d,e1,e2,e3⟩:=Zbpl k v es (i+1) j w h;refine ⟨d+1,by omega,by simpa using e2,?_⟩
   rw [if_neg hk];simp only [List.map_cons,List.modify_succ_cons,e3]
theorem MuP (T:KeyTy P kt kv) (M:MapG P t kt el z) {b:Nat} {es:List (Gv κ)} {ck:Nat} {k:κ} {v old:Value} {K:Unit->Heap->Prop} (hm:MapB kv H b es ck) (hg:getG k es=some old) (hs:Instr.sameBits 10000 (kv k) (kv k)=true)
  (h: ∀H' es',getG k es'=some v->H'=H.upd b (.map ⟨es'.map (entG kv)⟩ ck)->K () H'):SemW P (Instr.mapUpdate t (.map (some b)) (kv k) v) H K:=by
 unfold Instr.mapUpdate;refine (SemW.bind _ _ _ _).2 (Zp M.und ?_);refine (SemW.bind _ _ _ _).2 ?_;refine ⟨_,hm,rfl,?_⟩;refine (SemW.bind _ _ _ _).2 (T.chk _ _ _ _ ?_);refine (SemW.bind _ _ _ _).2 (Zbco T ?_);have hq:=Zvl k es 0;rw [hg] at hq;cases hf:idxG k es 0 with
 | none=>rw [hf] at hq;cases hq
 | some p=>
  obtain ⟨i,w⟩:=p;obtain ⟨d,e1,e2,e3⟩:=Zbpl (kv:=kv) k v es 0 i w hf;rw [Nat.zero_add] at e1;subst e1;refine (SemW.bind _ _ _ _).2 ?_;have ek:(((⟨es.map (entG kv)⟩:Array MapEntry)[i]?).map (fun e=>e.key)).getD (kv k)=kv k:=by rw [List.getElem?_toArray,e2];rfl
  rw [ek];unfold Instr.keyThatStays;rw [if_pos hs];refine ⟨⟨_,hm,rfl,rfl⟩,h _ (repG k v es) (Zbkx k v old es hg) ?_⟩;rw [← e3];congr 2;apply Array.ext';rw [Array.toList_modify]
theorem Zlr (k:κ) (e:Gv κ): ∀es:List (Gv κ),getG k (es++[e])=(getG k es).or (if k=e.1 then some e.2.1 else none)
 | []=>by simp [getG]
 | x::es=>by simp only [List.cons_append,getG];split;simp;exact Zlr k e es
end
end Go.Sh
namespace Go.Proofs.YtlkdgfolbllngaaGreatDoor
open Go.Sh Go.Pc
section
variable {F H H1 H':Heap}
theorem Zbpu (s:List UInt8):Instr.sameBits 10000 (kvS s) (kvS s)=true:=by unfold kvS Instr.sameBits;rw [Zbal];simp
theorem Zcgq (a:Int):Instr.sameBits 10000 (kvU a) (kvU a)=true:=by unfold kvU Instr.sameBits;simp
theorem Zbel {nm:List UInt8} {a:Option Addr} {n k:Nat}:FnW Tryz.prog Zrc ⟨[.agg ⟨[.string (bstr nm),.slice a n k]⟩]⟩ H fun v H'=>v=kvS nm∧Keep Nil H H':=by refine Zcna (bstr nm) a n k ?_;unfold Zbvn;exact newB fun q H1 hq bq k1=>⟨_,cellL bq 0 rfl,fun H2 hs=>⟨rfl,Zi k1 hs⟩⟩
theorem Zcjl {a:Option Addr} {c:Nat} {l:List Pr} (hr:RwAt PrAt 7 F a c l) (fr:Keep Nil F H):FnW Tryz.prog Zut ⟨[.slice a l.length c,.func (.func Znm) #[] #[]]⟩ H fun v H'=>v= .bool (decide (¬(l.map fun x=>x.name).Nodup))∧Keep Nil H H':=by
 have lim:=hr.cap.2;refine Zbud a l.length c Znm ?_;unfold Zbhe;refine MkG fun mb hmb=>Zbt (fun m s Hx=>∃(j ck:Nat) (es:List (Gv (List UInt8))),s=((j:Int),())∧m+j=l.length∧Keep Nil H Hx∧MapB kvS Hx mb es ck∧((l.take j).map fun x=>x.name).Nodup∧∀k,getG k es=if k∈(l.take j).map (fun x=>x.name) then some (.int .i64 1) else none) l.length
  ⟨0,0,[],rfl,rfl,(Keep.refl _ _).new hmb,upd_eq,by simp,fun k=>by simp [getG]⟩ ?_
 rintro m s Hx ⟨j,ck,es,rfl,hmj,kx,hm,hnd,hget⟩ g;unfold Zzg;refine IfB.intro (fun e1=>?_) fun e1=>?_
 ·have e1:=of_decide_eq_true e1;simp only at e1;have hja:j<l.length:=by omega
  have hx:=List.getElem?_eq_getElem hja;generalize l[j]=x at hx;refine Zbc (z:=((j:Nat):Int)) hr (fr.trans kx) (fun v p h=>by have h:v=_:=h;rw [h];rfl) hx rfl (fun b1 o1 v1 _ h1 _ hc1=>?_) (by decide)
  have h1:v1=_:=h1;subst h1;refine ld7c (p:=x) hc1 (newB fun u H2 hu bu k2=>st7 (nm:=x.name) (i_:=x.in_) (o_:=x.out) bu fun H3 b3 k3=>ld7 b3 ((Zrz x).mono ?_));rintro _ H4 ⟨rfl,k4⟩;have b4:=k4.blk b3 id;have k34:Keep Nil Hx H4:=(k2.then k3 fun y hy=> .inr (hy▸hu)).trans k4;have hm4:=hm.keep k34 id;have hum:u≠mb:=fun e=>by subst e;exact hm.some hu
  refine ⟨_,rfl,LkG keyS mapS hm4 ?_⟩;have hgk:=hget (x.name);by_cases hin:x.name∈(l.take j).map (fun x=>x.name)
  ·rw [if_pos hin] at hgk;rw [hgk];refine ⟨_,rfl,(SemW.bind _ _ _ _).2 (MuP keyS mapS hm4 hgk (Zbpu _) fun H5 es' hes e5=>?_)⟩;have hm5:MapB kvS H5 mb es' ck:=by rw [e5];exact upd_eq
   have k5:Keep (fun y=>y=mb) H4 H5:=by rw [e5];exact (Keep.refl _ _).upd (.inl rfl)
   have b5:=k5.blk b4 hum;have k05:Keep Nil H H5:=(kx.trans k34).then k5 fun y hy=> .inr (hy▸hmb);dsimp only [SemW,pure,Sem.pure,Zw];refine ld7 b5 ((Zrz x).mono ?_);rintro _ H6 ⟨rfl,k6⟩;refine ⟨_,rfl,LkG keyS mapS (hm5.keep k6 id) ?_⟩;rw [hes];refine ⟨_,rfl,ifT (by decide) fun H7 hs=>⟨?_,Zi (k05.trans k6) hs⟩⟩
   congr 1;refine (decide_eq_true_iff.2 ?_).symm;intro hn;have hsub:((l.take (j+1)).map fun x=>x.name).Nodup:=hn.sublist ((List.take_sublist _ _).map _);rw [List.take_add_one,hx] at hsub;simp only [Option.toList_some,List.map_append,List.map_cons,List.map_nil] at hsub;rw [List.nodup_append] at hsub;exact hsub.2.2 _ hin _ (List.mem_singleton.2 rfl) rfl
  ·rw [if_neg hin] at hgk;rw [hgk];refine ⟨_,rfl,(SemW.bind _ _ _ _).2 (MuG keyS mapS hm4 hgk fun H5 e5=>?_)⟩;have hm5:MapB kvS H5 mb (es++[(x.name,.int .i64 (IntKind.wrap .i64 (0+1)),ck)]) (ck+1):=by rw [e5];exact upd_eq
   have k5:Keep (fun y=>y=mb) H4 H5:=by rw [e5];exact (Keep.refl _ _).upd (.inl rfl)
   have b5:=k5.blk b4 hum;have k05:Keep Nil H H5:=(kx.trans k34).then k5 fun y hy=> .inr (hy▸hmb);dsimp only [SemW,pure,Sem.pure,Zw];refine ld7 b5 ((Zrz x).mono ?_);rintro _ H6 ⟨rfl,k6⟩;have hm6:=hm5.keep k6 (fun h=>h);refine ⟨_,rfl,LkG keyS mapS hm6 ?_⟩;rw [Zlr,hgk,if_pos rfl];refine ⟨_,rfl,ifF (by decide) ⟨m - 1,by omega,j+1,_,_,Prod.ext ?_ rfl,by omega,k05.trans k6,hm6,?_,fun k=>?_⟩⟩
   ·show IntKind.wrap .i64 ((j:Int)+1)=((j+1:Nat):Int);rw [Zbl (by omega) (by omega)];omega
   ·rw [List.take_add_one,hx];simp only [Option.toList_some,List.map_append,List.map_cons,List.map_nil];rw [List.nodup_append];refine ⟨hnd,by simp,fun y hy z hz e=>?_⟩
    rw [List.mem_singleton.1 hz] at e;exact hin (e▸hy)
   ·rw [Zlr,hget k,List.take_add_one,hx];simp only [Option.toList_some,List.map_append,List.map_cons,List.map_nil,List.mem_append,List.mem_singleton];by_cases hk:k∈(l.take j).map (fun x=>x.name)
    ·rw [if_pos hk,if_pos (show k∈(l.take j).map (fun x=>x.name)∨k=x.name from .inl hk)];rfl
    ·rw [if_neg hk];by_cases hk2:k=x.name
     ·rw [if_pos hk2,if_pos (show k∈(l.take j).map (fun x=>x.name)∨k=x.name from .inr hk2)];rfl
     ·rw [if_neg hk2,if_neg (show ¬(k∈(l.take j).map (fun x=>x.name)∨k=x.name) from fun h=>h.elim hk hk2)];rfl
 ·have e1:=of_decide_eq_false e1;simp only at e1;rw [List.take_of_length_le (by omega)] at hnd
  exact fun H2 hs=>⟨by rw [decide_eq_false fun h=>h hnd],Zi kx hs⟩
theorem Zcjj {a:Option Addr} {c:Nat} {l:List Pr} (hr:RwAt PrAt 7 F a c l) (fr:Keep Nil F H):FnW Tryz.prog Zuu ⟨[.slice a l.length c,.func (.func Znn) #[] #[]]⟩ H fun v H'=>v= .bool (decide (¬(l.map fun x=>x.addr).Nodup))∧Keep Nil H H':=by
 have lim:=hr.cap.2;refine Zbue a l.length c Znn ?_;unfold Zbhf;refine MkG fun mb hmb=>Zbt (fun m s Hx=>∃(j ck:Nat) (es:List (Gv Int)),s=((j:Int),())∧m+j=l.length∧Keep Nil H Hx∧MapB kvU Hx mb es ck∧((l.take j).map fun x=>x.addr).Nodup∧∀k,getG k es=if k∈(l.take j).map (fun x=>x.addr) then some (.int .i64 1) else none) l.length
  ⟨0,0,[],rfl,rfl,(Keep.refl _ _).new hmb,upd_eq,by simp,fun k=>by simp [getG]⟩ ?_
 rintro m s Hx ⟨j,ck,es,rfl,hmj,kx,hm,hnd,hget⟩ g;unfold Zzh;refine IfB.intro (fun e1=>?_) fun e1=>?_
 ·have e1:=of_decide_eq_true e1;simp only at e1;have hja:j<l.length:=by omega
  have hx:=List.getElem?_eq_getElem hja;generalize l[j]=x at hx;refine Zbc (z:=((j:Nat):Int)) hr (fr.trans kx) (fun v p h=>by have h:v=_:=h;rw [h];rfl) hx rfl (fun b1 o1 v1 _ h1 _ hc1=>?_) (by decide)
  have h1:v1=_:=h1;subst h1;refine ld7c (p:=x) hc1 (newB fun u H2 hu bu k2=>st7 (nm:=x.name) (i_:=x.in_) (o_:=x.out) bu fun H3 b3 k3=>ld7 b3 ((Zry x).mono ?_));rintro _ H4 ⟨rfl,k4⟩;have b4:=k4.blk b3 id;have k34:Keep Nil Hx H4:=(k2.then k3 fun y hy=> .inr (hy▸hu)).trans k4;have hm4:=hm.keep k34 id;have hum:u≠mb:=fun e=>by subst e;exact hm.some hu
  refine ⟨_,rfl,LkG keyU mapU hm4 ?_⟩;have hgk:=hget (x.addr);by_cases hin:x.addr∈(l.take j).map (fun x=>x.addr)
  ·rw [if_pos hin] at hgk;rw [hgk];refine ⟨_,rfl,(SemW.bind _ _ _ _).2 (MuP keyU mapU hm4 hgk (Zcgq _) fun H5 es' hes e5=>?_)⟩;have hm5:MapB kvU H5 mb es' ck:=by rw [e5];exact upd_eq
   have k5:Keep (fun y=>y=mb) H4 H5:=by rw [e5];exact (Keep.refl _ _).upd (.inl rfl)
   have b5:=k5.blk b4 hum;have k05:Keep Nil H H5:=(kx.trans k34).then k5 fun y hy=> .inr (hy▸hmb);dsimp only [SemW,pure,Sem.pure,Zw];refine ld7 b5 ((Zry x).mono ?_);rintro _ H6 ⟨rfl,k6⟩;refine ⟨_,rfl,LkG keyU mapU (hm5.keep k6 id) ?_⟩;rw [hes];refine ⟨_,rfl,ifT (by decide) fun H7 hs=>⟨?_,Zi (k05.trans k6) hs⟩⟩
   congr 1;refine (decide_eq_true_iff.2 ?_).symm;intro hn;have hsub:((l.take (j+1)).map fun x=>x.addr).Nodup:=hn.sublist ((List.take_sublist _ _).map _);rw [List.take_add_one,hx] at hsub;simp only [Option.toList_some,List.map_append,List.map_cons,List.map_nil] at hsub;rw [List.nodup_append] at hsub;exact hsub.2.2 _ hin _ (List.mem_singleton.2 rfl) rfl
  ·rw [if_neg hin] at hgk;rw [hgk];refine ⟨_,rfl,(SemW.bind _ _ _ _).2 (MuG keyU mapU hm4 hgk fun H5 e5=>?_)⟩;have hm5:MapB kvU H5 mb (es++[(x.addr,.int .i64 (IntKind.wrap .i64 (0+1)),ck)]) (ck+1):=by rw [e5];exact upd_eq
   have k5:Keep (fun y=>y=mb) H4 H5:=by rw [e5];exact (Keep.refl _ _).upd (.inl rfl)
   have b5:=k5.blk b4 hum;have k05:Keep Nil H H5:=(kx.trans k34).then k5 fun y hy=> .inr (hy▸hmb);dsimp only [SemW,pure,Sem.pure,Zw];refine ld7 b5 ((Zry x).mono ?_);rintro _ H6 ⟨rfl,k6⟩;have hm6:=hm5.keep k6 (fun h=>h);refine ⟨_,rfl,LkG keyU mapU hm6 ?_⟩;rw [Zlr,hgk,if_pos rfl];refine ⟨_,rfl,ifF (by decide) ⟨m - 1,by omega,j+1,_,_,Prod.ext ?_ rfl,by omega,k05.trans k6,hm6,?_,fun k=>?_⟩⟩
   ·show IntKind.wrap .i64 ((j:Int)+1)=((j+1:Nat):Int);rw [Zbl (by omega) (by omega)];omega
   ·rw [List.take_add_one,hx];simp only [Option.toList_some,List.map_append,List.map_cons,List.map_nil];rw [List.nodup_append];refine ⟨hnd,by simp,fun y hy z hz e=>?_⟩
    rw [List.mem_singleton.1 hz] at e;exact hin (e▸hy)
   ·rw [Zlr,hget k,List.take_add_one,hx];simp only [Option.toList_some,List.map_append,List.map_cons,List.map_nil,List.mem_append,List.mem_singleton];by_cases hk:k∈(l.take j).map (fun x=>x.addr)
    ·rw [if_pos hk,if_pos (show k∈(l.take j).map (fun x=>x.addr)∨k=x.addr from .inl hk)];rfl
    ·rw [if_neg hk];by_cases hk2:k=x.addr
     ·rw [if_pos hk2,if_pos (show k∈(l.take j).map (fun x=>x.addr)∨k=x.addr from .inr hk2)];rfl
     ·rw [if_neg hk2,if_neg (show ¬(k∈(l.take j).map (fun x=>x.addr)∨k=x.addr) from fun h=>h.elim hk hk2)];rfl
 ·have e1:=of_decide_eq_false e1;simp only at e1;rw [List.take_of_length_le (by omega)] at hnd
  exact fun H2 hs=>⟨by rw [decide_eq_false fun h=>h hnd],Zi kx hs⟩
theorem Zcjk {a:Option Addr} {c:Nat} {l:List Pl} (hr:RwAt PlAt 2 F a c l) (fr:Keep Nil F H):FnW Tryz.prog Zuv ⟨[.slice a l.length c,.func (.func Zrc) #[] #[]]⟩ H fun v H'=>v= .bool (decide (¬(l.map fun x=>x.name).Nodup))∧Keep Nil H H':=by
 have lim:=hr.cap.2;refine Zbui a l.length c Zrc ?_;unfold Zbhh;refine MkG fun mb hmb=>Zbt (fun m s Hx=>∃(j ck:Nat) (es:List (Gv (List UInt8))),s=((j:Int),())∧m+j=l.length∧Keep Nil H Hx∧MapB kvS Hx mb es ck∧((l.take j).map fun x=>x.name).Nodup∧∀k,getG k es=if k∈(l.take j).map (fun x=>x.name) then some (.int .i64 1) else none) l.length
  ⟨0,0,[],rfl,rfl,(Keep.refl _ _).new hmb,upd_eq,by simp,fun k=>by simp [getG]⟩ ?_
 rintro m s Hx ⟨j,ck,es,rfl,hmj,kx,hm,hnd,hget⟩ g;unfold Zbhg;refine IfB.intro (fun e1=>?_) fun e1=>?_
 ·have e1:=of_decide_eq_true e1;simp only at e1;have hja:j<l.length:=by omega
  have hx:=List.getElem?_eq_getElem hja;generalize l[j]=x at hx;refine Zbc (z:=((j:Nat):Int)) hr (fr.trans kx) (fun _ _ h=>h.len) hx rfl (fun b1 o1 v1 _ h1 _ hc1=>?_) (by decide)
  obtain ⟨pa,pc,rfl,_⟩:=h1;refine ld2c hc1 (newB fun u H2 hu bu k2=>st2 bu fun H3 b3 k3=>ld2 b3 (Zbel.mono ?_));rintro _ H4 ⟨rfl,k4⟩;have b4:=k4.blk b3 id;have k34:Keep Nil Hx H4:=(k2.then k3 fun y hy=> .inr (hy▸hu)).trans k4;have hm4:=hm.keep k34 id;have hum:u≠mb:=fun e=>by subst e;exact hm.some hu
  refine ⟨_,rfl,LkG keyS mapS hm4 ?_⟩;have hgk:=hget (x.name);by_cases hin:x.name∈(l.take j).map (fun x=>x.name)
  ·rw [if_pos hin] at hgk;rw [hgk];refine ⟨_,rfl,(SemW.bind _ _ _ _).2 (MuP keyS mapS hm4 hgk (Zbpu _) fun H5 es' hes e5=>?_)⟩;have hm5:MapB kvS H5 mb es' ck:=by rw [e5];exact upd_eq
   have k5:Keep (fun y=>y=mb) H4 H5:=by rw [e5];exact (Keep.refl _ _).upd (.inl rfl)
   have b5:=k5.blk b4 hum;have k05:Keep Nil H H5:=(kx.trans k34).then k5 fun y hy=> .inr (hy▸hmb);dsimp only [SemW,pure,Sem.pure,Zw];refine ld2 b5 (Zbel.mono ?_);rintro _ H6 ⟨rfl,k6⟩;refine ⟨_,rfl,LkG keyS mapS (hm5.keep k6 id) ?_⟩;rw [hes];refine ⟨_,rfl,ifT (by decide) fun H7 hs=>⟨?_,Zi (k05.trans k6) hs⟩⟩
   congr 1;refine (decide_eq_true_iff.2 ?_).symm;intro hn;have hsub:((l.take (j+1)).map fun x=>x.name).Nodup:=hn.sublist ((List.take_sublist _ _).map _);rw [List.take_add_one,hx] at hsub;simp only [Option.toList_some,List.map_append,List.map_cons,List.map_nil] at hsub;rw [List.nodup_append] at hsub;exact hsub.2.2 _ hin _ (List.mem_singleton.2 rfl) rfl
  ·rw [if_neg hin] at hgk;rw [hgk];refine ⟨_,rfl,(SemW.bind _ _ _ _).2 (MuG keyS mapS hm4 hgk fun H5 e5=>?_)⟩;have hm5:MapB kvS H5 mb (es++[(x.name,.int .i64 (IntKind.wrap .i64 (0+1)),ck)]) (ck+1):=by rw [e5];exact upd_eq
   have k5:Keep (fun y=>y=mb) H4 H5:=by rw [e5];exact (Keep.refl _ _).upd (.inl rfl)
   have b5:=k5.blk b4 hum;have k05:Keep Nil H H5:=(kx.trans k34).then k5 fun y hy=> .inr (hy▸hmb);dsimp only [SemW,pure,Sem.pure,Zw];refine ld2 b5 (Zbel.mono ?_);rintro _ H6 ⟨rfl,k6⟩;have hm6:=hm5.keep k6 (fun h=>h);refine ⟨_,rfl,LkG keyS mapS hm6 ?_⟩;rw [Zlr,hgk,if_pos rfl];refine ⟨_,rfl,ifF (by decide) ⟨m - 1,by omega,j+1,_,_,Prod.ext ?_ rfl,by omega,k05.trans k6,hm6,?_,fun k=>?_⟩⟩
   ·show IntKind.wrap .i64 ((j:Int)+1)=((j+1:Nat):Int);rw [Zbl (by omega) (by omega)];omega
   ·rw [List.take_add_one,hx];simp only [Option.toList_some,List.map_append,List.map_cons,List.map_nil];rw [List.nodup_append];refine ⟨hnd,by simp,fun y hy z hz e=>?_⟩
    rw [List.mem_singleton.1 hz] at e;exact hin (e▸hy)
   ·rw [Zlr,hget k,List.take_add_one,hx];simp only [Option.toList_some,List.map_append,List.map_cons,List.map_nil,List.mem_append,List.mem_singleton];by_cases hk:k∈(l.take j).map (fun x=>x.name)
    ·rw [if_pos hk,if_pos (show k∈(l.take j).map (fun x=>x.name)∨k=x.name from .inl hk)];rfl
    ·rw [if_neg hk];by_cases hk2:k=x.name
     ·rw [if_pos hk2,if_pos (show k∈(l.take j).map (fun x=>x.name)∨k=x.name from .inr hk2)];rfl
     ·rw [if_neg hk2,if_neg (show ¬(k∈(l.take j).map (fun x=>x.name)∨k=x.name) from fun h=>h.elim hk hk2)];rfl
 ·have e1:=of_decide_eq_false e1;simp only at e1;rw [List.take_of_length_le (by omega)] at hnd
  exact fun H2 hs=>⟨by rw [decide_eq_false fun h=>h hnd],Zi kx hs⟩
end
end Go.Proofs.YtlkdgfolbllngaaGreatDoor
end
section
set_option maxRecDepth 100000
namespace Go.Proofs.YtlkdgfolbllngaaGreatDoor
open Go.Sh Go.Pc
mutual
def okC:Cd->Bool
 | .mk op l _ pl n=>!((op==4)&&(decide (n<pl)||decide (n>32)))&&okCs l
def okCs:List Cd->Bool
 | []=>true
 | c::l=>okC c&&okCs l
end
theorem Zbns: ∀l:List Cd,okCs l= !(l.any fun c=>!okC c)
 | []=>rfl
 | c::l=>by simp only [okCs,List.any_cons,Zbns l];cases okC c<;>simp
mutual
def okS:Sm->Bool
 | .mk op c th el n m=>!((op==4)&&((n==0)||(decide (m<1)||decide (m>10))))&&(okC c&&(okSs th&&okSs el))
def okSs:List Sm->Bool
 | []=>true
 | s::l=>okS s&&okSs l
end
theorem Zbnu: ∀l:List Sm,okSs l= !(l.any fun c=>!okS c)
 | []=>rfl
 | c::l=>by simp only [okSs,List.any_cons,Zbnu l];cases okS c<;>simp
def Zxr (sp:Sp) (nm:List UInt8):Bool:=decide (nm= [])||sp.pols.any fun p=>decide (p.name=nm)
def okPr (sp:Sp) (p:Pr):Bool:=!((p.addr==0)||((p.addr==sp.router)||((p.as_==0)||(decide (p.max<0)||decide (p.max>4096)))))&&(Zxr sp p.in_&&Zxr sp p.out)
def bad0 (sp:Sp):Bool:=(sp.as_==0)||((sp.router==0)||(decide (sp.hold<0)||((sp.hold==1)||((sp.hold==2)||decide (sp.hold>65535)))))
def bad1 (sp:Sp):Bool:=decide (sp.retry<1)||(decide (sp.retry>100000)||(decide (sp.grace<0)||decide (sp.grace>4095)))
def bad2 (sp:Sp):Bool:=decide ((sp.pols.length:Int)>32)||decide ((sp.peers.length:Int)>16)
def bad3 (sp:Sp):Bool:=decide (¬(sp.pols.map fun x=>x.name).Nodup)||(decide (¬(sp.peers.map fun x=>x.name).Nodup)||decide (¬(sp.peers.map fun x=>x.addr).Nodup))
def chkE (sp:Sp):Int:=if bad0 sp=true then 2 else if bad1 sp=true then 2 else if bad2 sp=true then 2 else if bad3 sp=true then 2 else if (sp.pols.any fun p=>!okSs p.l)=true then 2 else if (sp.peers.any fun p=>!okPr sp p)=true then 2 else 0
def BoR (H:Heap) (b:Bool):Value->Heap->Prop:=fun v H'=>v= .bool b∧Keep Nil H H'
section
variable {F H0 H H1 H':Heap}
theorem Zbxr {f:FuncId} {β:Cd->Bool} {a:Option Addr} {c:Nat} {l:List Cd} {Q:List Value->Cd->Prop} (hr:RwAt (fun F v x=>CdAt F v x∧Q v x) 5 F a c l) (fr:Keep Nil F H)
  (hf: ∀(v:List Value) (x:Cd) (H':Heap),Q v x->CdAt F v x->Keep Nil H H'->FnW Tryz.prog f ⟨[.agg ⟨v⟩]⟩ H' (BoR H' (β x))):FnW Tryz.prog Zbcn ⟨[.slice a l.length c,.func (.func f) #[] #[]]⟩ H (BoR H (l.any β)):=by
 have lim:=hr.cap.2;refine Zcnp a l.length c f ?_;unfold Zbwe;refine FnW.mono (R:=fun v H'=>∃k:Int,v= .int .i64 k∧decide (k≥0)=l.any β∧Keep Nil H H') ?_ ?_
 ·refine Zcnf a l.length c f ?_;unfold Zbvv;refine Zbt (fun m s Hx=>∃j:Nat,s=((j:Int),())∧m+j=l.length∧Keep Nil H Hx∧(l.take j).any β=false) l.length ⟨0,rfl,rfl,Keep.refl _ _,rfl⟩ ?_;rintro m s Hx ⟨j,rfl,hmj,kx,hno⟩ g;unfold Zbvu;refine IfB.intro (fun e1=>?_) fun e1=>?_
  ·have e1:=of_decide_eq_true e1;simp only at e1;have hja:j<l.length:=by omega
   have hx:=List.getElem?_eq_getElem hja;generalize l[j]=x at hx;refine Zbc (z:=((j:Nat):Int)) hr (fr.trans kx) (fun _ _ h=>h.1.len) hx rfl (fun b1 o1 v1 _ h1 _ hc1=>?_) (by decide)
   obtain ⟨h1,hq⟩:=h1;have hfx:=hf v1 x Hx hq h1 kx;obtain ⟨_,_,_,_,_,_,_,rfl⟩:=h1.five;refine ld5c hc1 (hfx.mono ?_);rintro _ H2 ⟨rfl,k2⟩;refine ⟨_,rfl,IfB.intro (fun e H3 hs=>⟨_,rfl,?_,Zi (kx.trans k2) hs⟩) fun e=>⟨m - 1,by omega,j+1,Prod.ext ?_ rfl,by omega,kx.trans k2,?_⟩⟩
   ·rw [decide_eq_true (by show (0:Int) <= j;omega)]
    exact (List.any_eq_true.2 ⟨x,List.mem_of_getElem? hx,e⟩).symm
   ·show IntKind.wrap .i64 ((j:Int)+1)=((j+1:Nat):Int);rw [Zbl (by omega) (by omega)];omega
   rw [List.take_add_one,hx,List.any_append,hno];simp [e]
  ·have e1:=of_decide_eq_false e1;simp only at e1;rw [List.take_of_length_le (by omega)] at hno
   exact fun H2 hs=>⟨_,rfl,by rw [hno];decide,Zi kx hs⟩
 rintro _ H2 ⟨k,rfl,hk,k2⟩;exact ⟨k,rfl,fun H3 hs=>⟨by rw [hk],Zi k2 hs⟩⟩
theorem Zbxv {f:FuncId} {β:Sm->Bool} {a:Option Addr} {c:Nat} {l:List Sm} {Q:List Value->Sm->Prop} (hr:RwAt (fun F v x=>SmAt F v x∧Q v x) 10 F a c l) (fr:Keep Nil F H)
  (hf: ∀(v:List Value) (x:Sm) (H':Heap),Q v x->SmAt F v x->Keep Nil H H'->FnW Tryz.prog f ⟨[.agg ⟨v⟩]⟩ H' (BoR H' (β x))):FnW Tryz.prog Zbcl ⟨[.slice a l.length c,.func (.func f) #[] #[]]⟩ H (BoR H (l.any β)):=by
 have lim:=hr.cap.2;refine Zcnn a l.length c f ?_;unfold Zbwc;refine FnW.mono (R:=fun v H'=>∃k:Int,v= .int .i64 k∧decide (k≥0)=l.any β∧Keep Nil H H') ?_ ?_
 ·refine Zcnc a l.length c f ?_;unfold Zbvs;refine Zbt (fun m s Hx=>∃j:Nat,s=((j:Int),())∧m+j=l.length∧Keep Nil H Hx∧(l.take j).any β=false) l.length ⟨0,rfl,rfl,Keep.refl _ _,rfl⟩ ?_;rintro m s Hx ⟨j,rfl,hmj,kx,hno⟩ g;unfold Zbvr;refine IfB.intro (fun e1=>?_) fun e1=>?_
  ·have e1:=of_decide_eq_true e1;simp only at e1;have hja:j<l.length:=by omega
   have hx:=List.getElem?_eq_getElem hja;generalize l[j]=x at hx;refine Zbc (z:=((j:Nat):Int)) hr (fr.trans kx) (fun _ _ h=>h.1.len) hx rfl (fun b1 o1 v1 _ h1 _ hc1=>?_) (by decide)
   obtain ⟨h1,hq⟩:=h1;have hfx:=hf v1 x Hx hq h1 kx;obtain ⟨_,_,_,_,_,_,_,_,_,_,_,_,_,_,_,_,rfl⟩:=h1.ten;refine Znz hc1 (hfx.mono ?_);rintro _ H2 ⟨rfl,k2⟩;refine ⟨_,rfl,IfB.intro (fun e H3 hs=>⟨_,rfl,?_,Zi (kx.trans k2) hs⟩) fun e=>⟨m - 1,by omega,j+1,Prod.ext ?_ rfl,by omega,kx.trans k2,?_⟩⟩
   ·rw [decide_eq_true (by show (0:Int) <= j;omega)]
    exact (List.any_eq_true.2 ⟨x,List.mem_of_getElem? hx,e⟩).symm
   ·show IntKind.wrap .i64 ((j:Int)+1)=((j+1:Nat):Int);rw [Zbl (by omega) (by omega)];omega
   rw [List.take_add_one,hx,List.any_append,hno];simp [e]
  ·have e1:=of_decide_eq_false e1;simp only at e1;rw [List.take_of_length_le (by omega)] at hno
   exact fun H2 hs=>⟨_,rfl,by rw [hno];decide,Zi kx hs⟩
 rintro _ H2 ⟨k,rfl,hk,k2⟩;exact ⟨k,rfl,fun H3 hs=>⟨by rw [hk],Zi k2 hs⟩⟩
theorem Zbxt {f:FuncId} {β:Pl->Bool} {a:Option Addr} {c:Nat} {l:List Pl} {Q:List Value->Pl->Prop} (hr:RwAt (fun F v x=>PlAt F v x∧Q v x) 2 F a c l) (fr:Keep Nil F H)
  (hf: ∀(v:List Value) (x:Pl) (H':Heap),Q v x->PlAt F v x->Keep Nil H H'->FnW Tryz.prog f ⟨[.agg ⟨v⟩]⟩ H' (BoR H' (β x))):FnW Tryz.prog Zni ⟨[.slice a l.length c,.func (.func f) #[] #[]]⟩ H (BoR H (l.any β)):=by
 have lim:=hr.cap.2;refine Zbtx a l.length c f ?_;unfold Zbhc;refine FnW.mono (R:=fun v H'=>∃k:Int,v= .int .i64 k∧decide (k≥0)=l.any β∧Keep Nil H H') ?_ ?_
 ·refine Zbtg a l.length c f ?_;unfold Zbha;refine Zbt (fun m s Hx=>∃j:Nat,s=((j:Int),())∧m+j=l.length∧Keep Nil H Hx∧(l.take j).any β=false) l.length ⟨0,rfl,rfl,Keep.refl _ _,rfl⟩ ?_;rintro m s Hx ⟨j,rfl,hmj,kx,hno⟩ g;unfold Zbgz;refine IfB.intro (fun e1=>?_) fun e1=>?_
  ·have e1:=of_decide_eq_true e1;simp only at e1;have hja:j<l.length:=by omega
   have hx:=List.getElem?_eq_getElem hja;generalize l[j]=x at hx;refine Zbc (z:=((j:Nat):Int)) hr (fr.trans kx) (fun _ _ h=>h.1.len) hx rfl (fun b1 o1 v1 _ h1 _ hc1=>?_) (by decide)
   obtain ⟨h1,hq⟩:=h1;have hfx:=hf v1 x Hx hq h1 kx;obtain ⟨pa,pc,rfl,_⟩:=h1;refine ld2c hc1 (hfx.mono ?_);rintro _ H2 ⟨rfl,k2⟩;refine ⟨_,rfl,IfB.intro (fun e H3 hs=>⟨_,rfl,?_,Zi (kx.trans k2) hs⟩) fun e=>⟨m - 1,by omega,j+1,Prod.ext ?_ rfl,by omega,kx.trans k2,?_⟩⟩
   ·rw [decide_eq_true (by show (0:Int) <= j;omega)]
    exact (List.any_eq_true.2 ⟨x,List.mem_of_getElem? hx,e⟩).symm
   ·show IntKind.wrap .i64 ((j:Int)+1)=((j+1:Nat):Int);rw [Zbl (by omega) (by omega)];omega
   rw [List.take_add_one,hx,List.any_append,hno];simp [e]
  ·have e1:=of_decide_eq_false e1;simp only at e1;rw [List.take_of_length_le (by omega)] at hno
   exact fun H2 hs=>⟨_,rfl,by rw [hno];decide,Zi kx hs⟩
 rintro _ H2 ⟨k,rfl,hk,k2⟩;exact ⟨k,rfl,fun H3 hs=>⟨by rw [hk],Zi k2 hs⟩⟩
theorem Zbxu {f:FuncId} {w0:Value} {β:Pl->Bool} {a:Option Addr} {c:Nat} {l:List Pl} {Q:List Value->Pl->Prop} (hr:RwAt (fun F v x=>PlAt F v x∧Q v x) 2 F a c l) (fr:Keep Nil F H)
  (hf: ∀(v:List Value) (x:Pl) (H':Heap),Q v x->PlAt F v x->Keep Nil H H'->FnW Tryz.prog f ⟨[.agg ⟨v⟩,w0]⟩ H' (BoR H' (β x))):FnW Tryz.prog Zni ⟨[.slice a l.length c,.func (.func f) #[] #[w0]]⟩ H (BoR H (l.any β)):=by
 have lim:=hr.cap.2;refine Zclw a l.length c f w0 ?_;unfold Zbtw;refine FnW.mono (R:=fun v H'=>∃k:Int,v= .int .i64 k∧decide (k≥0)=l.any β∧Keep Nil H H') ?_ ?_
 ·refine Zclk a l.length c f w0 ?_;unfold Zbtf;refine Zbt (fun m s Hx=>∃j:Nat,s=((j:Int),())∧m+j=l.length∧Keep Nil H Hx∧(l.take j).any β=false) l.length ⟨0,rfl,rfl,Keep.refl _ _,rfl⟩ ?_;rintro m s Hx ⟨j,rfl,hmj,kx,hno⟩ g;unfold Zbte;refine IfB.intro (fun e1=>?_) fun e1=>?_
  ·have e1:=of_decide_eq_true e1;simp only at e1;have hja:j<l.length:=by omega
   have hx:=List.getElem?_eq_getElem hja;generalize l[j]=x at hx;refine Zbc (z:=((j:Nat):Int)) hr (fr.trans kx) (fun _ _ h=>h.1.len) hx rfl (fun b1 o1 v1 _ h1 _ hc1=>?_) (by decide)
   obtain ⟨h1,hq⟩:=h1;have hfx:=hf v1 x Hx hq h1 kx;obtain ⟨pa,pc,rfl,_⟩:=h1;refine ld2c hc1 (hfx.mono ?_);rintro _ H2 ⟨rfl,k2⟩;refine ⟨_,rfl,IfB.intro (fun e H3 hs=>⟨_,rfl,?_,Zi (kx.trans k2) hs⟩) fun e=>⟨m - 1,by omega,j+1,Prod.ext ?_ rfl,by omega,kx.trans k2,?_⟩⟩
   ·rw [decide_eq_true (by show (0:Int) <= j;omega)]
    exact (List.any_eq_true.2 ⟨x,List.mem_of_getElem? hx,e⟩).symm
   ·show IntKind.wrap .i64 ((j:Int)+1)=((j+1:Nat):Int);rw [Zbl (by omega) (by omega)];omega
   rw [List.take_add_one,hx,List.any_append,hno];simp [e]
  ·have e1:=of_decide_eq_false e1;simp only at e1;rw [List.take_of_length_le (by omega)] at hno
   exact fun H2 hs=>⟨_,rfl,by rw [hno];decide,Zi kx hs⟩
 rintro _ H2 ⟨k,rfl,hk,k2⟩;exact ⟨k,rfl,fun H3 hs=>⟨by rw [hk],Zi k2 hs⟩⟩
theorem Zbxs {f:FuncId} {w0:Value} {β:Pr->Bool} {a:Option Addr} {c:Nat} {l:List Pr} {Q:List Value->Pr->Prop} (hr:RwAt (fun F v x=>PrAt F v x∧Q v x) 7 F a c l) (fr:Keep Nil F H)
  (hf: ∀(v:List Value) (x:Pr) (H':Heap),Q v x->PrAt F v x->Keep Nil H H'->FnW Tryz.prog f ⟨[.agg ⟨v⟩,w0]⟩ H' (BoR H' (β x))):FnW Tryz.prog Zbcg ⟨[.slice a l.length c,.func (.func f) #[] #[w0]]⟩ H (BoR H (l.any β)):=by
 have lim:=hr.cap.2;refine Zbvo a l.length c f w0 ?_;unfold Zbhn;refine FnW.mono (R:=fun v H'=>∃k:Int,v= .int .i64 k∧decide (k≥0)=l.any β∧Keep Nil H H') ?_ ?_
 ·refine Zbup a l.length c f w0 ?_;unfold Zbhi;refine Zbt (fun m s Hx=>∃j:Nat,s=((j:Int),())∧m+j=l.length∧Keep Nil H Hx∧(l.take j).any β=false) l.length ⟨0,rfl,rfl,Keep.refl _ _,rfl⟩ ?_;rintro m s Hx ⟨j,rfl,hmj,kx,hno⟩ g;unfold Zzk;refine IfB.intro (fun e1=>?_) fun e1=>?_
  ·have e1:=of_decide_eq_true e1;simp only at e1;have hja:j<l.length:=by omega
   have hx:=List.getElem?_eq_getElem hja;generalize l[j]=x at hx;refine Zbc (z:=((j:Nat):Int)) hr (fr.trans kx) (fun v p h=>by have h:v=_:=h.1;rw [h];rfl) hx rfl (fun b1 o1 v1 _ h1 _ hc1=>?_) (by decide)
   obtain ⟨h1,hq⟩:=h1;have hfx:=hf v1 x Hx hq h1 kx;have h1:v1=_:=h1;subst h1;refine ld7c (p:=x) hc1 (hfx.mono ?_);rintro _ H2 ⟨rfl,k2⟩;refine ⟨_,rfl,IfB.intro (fun e H3 hs=>⟨_,rfl,?_,Zi (kx.trans k2) hs⟩) fun e=>⟨m - 1,by omega,j+1,Prod.ext ?_ rfl,by omega,kx.trans k2,?_⟩⟩
   ·rw [decide_eq_true (by show (0:Int) <= j;omega)]
    exact (List.any_eq_true.2 ⟨x,List.mem_of_getElem? hx,e⟩).symm
   ·show IntKind.wrap .i64 ((j:Int)+1)=((j+1:Nat):Int);rw [Zbl (by omega) (by omega)];omega
   rw [List.take_add_one,hx,List.any_append,hno];simp [e]
  ·have e1:=of_decide_eq_false e1;simp only at e1;rw [List.take_of_length_le (by omega)] at hno
   exact fun H2 hs=>⟨_,rfl,by rw [hno];decide,Zi kx hs⟩
 rintro _ H2 ⟨k,rfl,hk,k2⟩;exact ⟨k,rfl,fun H3 hs=>⟨by rw [hk],Zi k2 hs⟩⟩
theorem Zcft {v:List Value} {c:Cd} (h:CdAt F v c): ∀{H:Heap},Keep Nil F H->FnW Tryz.prog Znj ⟨[.agg ⟨v⟩]⟩ H (BoR H (okC c)):=by
 induction h with
 | mk op pa pl n a ac vs l hr hl hc hm ih=>
  intro H fr;have row:RwAt (fun F1 v c=>CdAt F1 v c∧∀{H:Heap},Keep Nil F H->FnW Tryz.prog Znj ⟨[.agg ⟨v⟩]⟩ H (BoR H (okC c))) 5 F a ac l:=⟨⟨vs,hr,hl,fun i v d e1 e2=>⟨hm i v d e1 e2,ih i v d e1 e2⟩⟩,hc⟩;refine Zclz op a l.length ac pa pl n ?_;unfold Zbua;refine newB fun q H1 hq bq k1=>?_
  have j0: ∀t:Bool,t=((op==4)&&(decide (n<pl)||decide (n>32)))->Ztl q t H1 fun v H1=>∀H2,Shut H H1 H2->BoR H (okC (.mk op l pa pl n)) v H2:=fun t ht=>by
   unfold Ztl;unfold okC;rw [← ht,Zbns];refine IfB.intro (fun e H2 hs=>⟨by rw [e];rfl,Zi k1 hs⟩) fun e=>⟨_,_,_,cellL bq 1 rfl,(Zbxr (Q:=fun v c=>∀{H:Heap},Keep Nil F H->FnW Tryz.prog Znj ⟨[.agg ⟨v⟩]⟩ H (BoR H (okC c))) row (fr.trans k1) (f:=107) (β:=fun c=>!okC c) fun v x H' hq h1 k=>?_).mono ?_⟩
   obtain ⟨_,_,_,_,_,_,_,rfl⟩:=h1.five;refine Zcns _ _ _ _ _ _ _ ?_;unfold Zbwh;refine newB fun q H1' hq' bq' k1'=>ld5 bq' ((hq ((fr.trans k1).trans (k.trans k1'))).mono ?_);rintro _ H2 ⟨rfl,k2⟩;exact ⟨_,rfl,fun H3 hs=>⟨rfl,Zi (k1'.trans k2) hs⟩⟩;rintro _ H2 ⟨rfl,k2⟩;exact ⟨_,rfl,fun H3 hs=>⟨by rw [e];rfl,Zi (k1.trans k2) hs⟩⟩
  refine ⟨_,cellL bq 0 rfl,IfB.intro (fun e=>⟨_,cellL bq 4 rfl,_,cellL bq 3 rfl,IfB.intro (fun e2=>j0 _ ?_) fun e2=>⟨_,cellL bq 4 rfl,j0 _ ?_⟩⟩) fun e=>j0 _ ?_⟩;rw [e,e2];rfl;rw [e,e2];rfl;rw [e];rfl
def Zps (F:Heap) (v:List Value) (s:Sm):Prop:=∀{H:Heap},Keep Nil F H->FnW Tryz.prog Zbkd ⟨[.agg ⟨v⟩]⟩ H (BoR H (!okS s))
theorem Zbff {l:List Sm} {a:Option Addr} {ac:Nat} (row:RwAt (fun F1 v c=>SmAt F1 v c∧Zps F v c) 10 F a ac l) (fr:Keep Nil F H):FnW Tryz.prog Zno ⟨[.slice a l.length ac]⟩ H (BoR H (okSs l)):=by refine Zcmu a l.length ac ?_;unfold Zbvf;refine (Zbxv (Q:=Zps F) row fr (f:=71) (β:=fun c=>!okS c) fun v x H' hq h1 k=>hq (fr.trans k)).mono ?_;rintro _ H2 ⟨rfl,k2⟩;exact ⟨_,rfl,fun H3 hs=>⟨by rw [Zbnu],Zi k2 hs⟩⟩
theorem Zcfw {v:List Value} {s:Sm} (h:SmAt F v s):Zps F v s:=by
 induction h with
 | mk op n m cv c a b ac bc vs ws th el hcv hr hl hac hm hr2 hl2 hbc hm2 ih ih2=>
  intro H fr;have row1:RwAt (fun F1 v c=>SmAt F1 v c∧Zps F v c) 10 F a ac th:=⟨⟨vs,hr,hl,fun i v d e1 e2=>⟨hm i v d e1 e2,ih i v d e1 e2⟩⟩,hac⟩;have row2:RwAt (fun F1 v c=>SmAt F1 v c∧Zps F v c) 10 F b bc el:=⟨⟨ws,hr2,hl2,fun i v d e1 e2=>⟨hm2 i v d e1 e2,ih2 i v d e1 e2⟩⟩,hbc⟩;have hcc:=fun {H:Heap} (fr:Keep Nil F H)=>Zcft hcv fr;obtain ⟨c0,ca,cn,ck,d2,d3,d4,rfl⟩:=hcv.five;refine Zcmi op c0 ca cn ck d2 d3 d4 a th.length ac b el.length bc n m ?_;unfold Zbuo;refine newB fun q H1 hq bq k1=>?_
  have j0: ∀t:Bool,t=((op==4)&&((n==0)||(decide (m<1)||decide (m>10))))->Zpk q t H1 fun v H1=>∀H2,Shut H H1 H2->BoR H (!okS (.mk op c th el n m)) v H2:=fun t ht=>by
   unfold Zpk;unfold okS;rw [← ht];refine IfB.intro (fun e H2 hs=>⟨by rw [e];rfl,Zi k1 hs⟩) fun e=>⟨_,cellL bq 1 rfl,_,_,_,cellL bq 2 rfl,_,cellL bq 3 rfl,_,cellL bq 4 rfl,_,cellL bq 5 rfl,(hcc (fr.trans k1)).mono ?_⟩
   rintro _ H2 ⟨rfl,k2⟩;have k02:=k1.trans k2;have bq2:=k2.blk bq id;refine ⟨_,rfl,IfB.intro (fun e1 H3 hs=>⟨?_,Zi k02 hs⟩) fun e1=>⟨_,_,_,cellL bq2 6 rfl,(Zbff row1 (fr.trans k02)).mono ?_⟩⟩
   ·have e1:okC c=false:=by simpa using e1
    rw [e,e1];rfl
   rintro _ H3 ⟨rfl,k3⟩;have e1:okC c=true:=by simpa using e1
   have k03:=k02.trans k3;have bq3:=k3.blk bq2 id;refine ⟨_,rfl,IfB.intro (fun e2 H4 hs=>⟨?_,Zi k03 hs⟩) fun e2=>⟨_,_,_,cellL bq3 7 rfl,(Zbff row2 (fr.trans k03)).mono ?_⟩⟩
   ·have e2:okSs th=false:=by simpa using e2
    rw [e,e1,e2];rfl
   rintro _ H4 ⟨rfl,k4⟩;have e2:okSs th=true:=by simpa using e2
   exact ⟨_,rfl,fun H5 hs=>⟨by rw [e,e1,e2];rfl,Zi (k03.trans k4) hs⟩⟩
  refine ⟨_,cellL bq 0 rfl,IfB.intro (fun e=>⟨_,cellL bq 8 rfl,IfB.intro (fun e2=>j0 _ ?_) fun e2=>⟨_,cellL bq 9 rfl,IfB.intro (fun e3=>j0 _ ?_) fun e3=>⟨_,cellL bq 9 rfl,j0 _ ?_⟩⟩⟩) fun e=>j0 _ ?_⟩;rw [e,e2];rfl;rw [e,e2,e3];rfl;rw [e,e2,e3];rfl;rw [e];rfl
theorem Zcfs {l:List Sm} {a:Option Addr} {ac:Nat} (row:RwAt SmAt 10 F a ac l) (fr:Keep Nil F H):FnW Tryz.prog Zno ⟨[.slice a l.length ac]⟩ H (BoR H (okSs l)):=by obtain ⟨vs,h1,h2,h3⟩:=row.ex;exact Zbff ⟨⟨vs,h1,h2,fun i v d e1 e2=>⟨h3 i v d e1 e2,Zcfw (h3 i v d e1 e2)⟩⟩,row.cap⟩ fr
theorem Zbqk (a b:List UInt8):((bstr a).toList==(bstr b).toList)=decide (a=b):=by rw [Bool.eq_iff_iff,Zbfy];simp
theorem Zbqp {sp:Sp} {b:Nat} {T:TypeId} {a c:Option Addr} {ac cc:Nat} {nm:List UInt8} (hs:Blk H b T ⟨spL sp a ac c cc⟩) (ra:RwAt PlAt 2 F a ac sp.pols) (fr:Keep Nil F H):
  FnW Tryz.prog Zra ⟨[.string (bstr nm),.pointer (some ⟨b,0,none⟩)]⟩ H (BoR H (Zxr sp nm)):=by
 refine Zbuz (bstr nm) b 0 ?_;unfold Zbhm;refine newB fun q H1 hq bq k1=>⟨_,cellL bq 0 rfl,?_⟩;unfold Zxr;have e0:(ByteArray.mk #[]).toList=(bstr []).toList:=rfl;rw [e0,Zbqk];refine IfB.intro (fun e H2 hs=>⟨by rw [e];rfl,Zi k1 hs⟩) fun e=>⟨_,_,_,cellL (k1.blk hs id) 5 rfl,(Zbxu ra.and (fr.trans k1) (f:=Zbcm) (w0:= .pointer (some ⟨q,0,none⟩)) (β:=fun p=>decide (p.name=nm)) fun v x H' _ h1 k=>?_).mono ?_⟩
 obtain ⟨pa,pc,rfl,_⟩:=h1;refine Zcno (bstr x.name) pa x.l.length pc q 0 ?_;unfold Zbwd;exact newB fun u H2 hu bu k2=>⟨_,cellL bu 0 rfl,_,cellL (k2.blk (k.blk bq id) id) 0 rfl,fun H3 hs=>⟨by rw [Zbqk],Zi k2 hs⟩⟩
 rintro _ H2 ⟨rfl,k2⟩;exact ⟨_,rfl,fun H3 hs=>⟨by rw [e];rfl,Zi (k1.trans k2) hs⟩⟩
theorem Zcfu {sp:Sp} {p:Pr} {a c:Option Addr} {ac cc:Nat} (ra:RwAt PlAt 2 F a ac sp.pols) (fr:Keep Nil F H):FnW Tryz.prog Zur ⟨[.agg ⟨spL sp a ac c cc⟩,.agg ⟨prL p.name p.addr p.as_ p.waits p.max p.in_ p.out⟩]⟩ H (BoR H (okPr sp p)):=by
 refine Zbtq sp.as_ sp.router sp.hold sp.retry sp.grace a sp.pols.length ac c sp.peers.length cc (bstr p.name) p.addr p.as_ p.waits p.max (bstr p.in_) (bstr p.out) ?_;unfold Zbhb;refine newB fun q H1 hq bq k1=>newB fun r H2 hr br k2=>?_;have bq2:=k2.blk bq id;have k02:=k1.trans k2
 have j0: ∀t:Bool,t=((p.addr==0)||((p.addr==sp.router)||((p.as_==0)||(decide (p.max<0)||decide (p.max>4096)))))->Zkx r q t H2 fun v H1=>∀H2,Shut H H1 H2->BoR H (okPr sp p) v H2:=fun t ht=>by
  unfold Zkx okPr;rw [← ht];refine IfB.intro (fun e H3 hs=>⟨by rw [e];rfl,Zi k02 hs⟩) fun e=>⟨_,cellL br 5 rfl,(Zbqp bq2 ra (fr.trans k02)).mono ?_⟩
  rintro _ H3 ⟨rfl,k3⟩;refine ⟨_,rfl,IfB.intro (fun e1=>⟨_,cellL (k3.blk br id) 6 rfl,(Zbqp (k3.blk bq2 id) ra ((fr.trans k02).trans k3)).mono ?_⟩) fun e1 H4 hs=>⟨by rw [e,e1];rfl,Zi (k02.trans k3) hs⟩⟩
  rintro _ H4 ⟨rfl,k4⟩;exact ⟨_,rfl,fun H5 hs=>⟨by rw [e,e1];rfl,Zi ((k02.trans k3).trans k4) hs⟩⟩
 refine ⟨_,cellL br 1 rfl,IfB.intro (fun e=>j0 _ (by rw [e];rfl)) fun e=>⟨_,cellL br 1 rfl,_,cellL bq2 1 rfl,IfB.intro (fun e1=>j0 _ (by rw [e,e1];rfl)) fun e1=>⟨_,cellL br 2 rfl,IfB.intro (fun e2=>j0 _ (by rw [e,e1,e2];rfl)) fun e2=>⟨_,cellL br 4 rfl,IfB.intro (fun e3=>j0 _ (by rw [e,e1,e2,e3];rfl)) fun e3=>⟨_,cellL br 4 rfl,j0 _ (by rw [e,e1,e2,e3];rfl)⟩⟩⟩⟩⟩
theorem Zbiy {sp:Sp} {vs:List Value} (hv:SpV F vs sp) (fr:Keep Nil F H):FnW Tryz.prog Zll ⟨[.agg ⟨vs⟩]⟩ H fun v H'=>v= .int .i64 (chkE sp)∧Keep Nil H H':=by
 obtain ⟨a,c,ac,cc,rfl,ra,rc⟩:=hv.ex;refine Zbuq sp.as_ sp.router sp.hold sp.retry sp.grace a sp.pols.length ac c sp.peers.length cc ?_;unfold Zbhj;refine newB fun q H1 hq bq k1=>?_;have j3: ∀(H2:Heap) (t:Bool),Keep Nil H1 H2->bad0 sp=false->bad1 sp=false->bad2 sp=false->t=bad3 sp->Zpl q t H2 fun v H1=>∀H2,Shut H H1 H2->v= .int .i64 (chkE sp)∧Keep Nil H H2:=fun H2 t k2 h0 h1 h2 ht=>by
  have k02:=k1.trans k2;have bq2:=k2.blk bq id;unfold Zpl chkE;rw [h0,h1,h2,← ht];simp only [Bool.false_eq_true,if_false];refine IfB.intro (fun e H3 hs=>⟨by rw [e];rfl,Zi k02 hs⟩) fun e=>⟨_,_,_,cellL bq2 5 rfl,(Zbxt ra.and (fr.trans k02) (f:=35) (β:=fun p=>!okSs p.l) fun v x H' _ h1 k=>?_).mono ?_⟩
  obtain ⟨pa,pc,rfl,rw_⟩:=h1;refine Zcnm (bstr x.name) pa x.l.length pc ?_;unfold Zbwb;refine newB fun u H3 hu bu k3=>⟨_,_,_,cellL bu 1 rfl,(Zcfs rw_ ((fr.trans k02).trans (k.trans k3))).mono ?_⟩;rintro _ H4 ⟨rfl,k4⟩;exact ⟨_,rfl,fun H5 hs=>⟨rfl,Zi (k3.trans k4) hs⟩⟩;rintro _ H3 ⟨rfl,k3⟩;have k03:=k02.trans k3;have bq3:=k3.blk bq2 id;rw [e];simp only [Bool.false_eq_true,if_false];refine ⟨_,rfl,IfB.intro (fun e1 H4 hs=>⟨by rw [e1];rfl,Zi k03 hs⟩) fun e1=>⟨_,_,_,cellL bq3 6 rfl,(Zbxs rc.and (fr.trans k03) (f:=Znl) (w0:= .pointer (some ⟨q,0,none⟩)) (β:=fun p=>!okPr sp p) fun v x H' _ h1 k=>?_).mono ?_⟩⟩
  have h1:v=_:=h1;subst h1;refine Zbuu (bstr x.name) x.addr x.as_ x.waits x.max (bstr x.in_) (bstr x.out) q 0 ?_;unfold Zbhl;refine newB fun u H4 hu bu k4=>?_;have bq4:=k4.blk (k.blk bq3 id) id;refine ⟨_,cellL bq4 0 rfl,_,cellL bq4 1 rfl,_,cellL bq4 2 rfl,_,cellL bq4 3 rfl,_,cellL bq4 4 rfl,_,_,_,cellL bq4 5 rfl,_,_,_,cellL bq4 6 rfl,ld7 (nm:=x.name) (i_:=x.in_) (o_:=x.out) bu ((Zcfu ra ((fr.trans k03).trans (k.trans k4))).mono ?_)⟩;rintro _ H5 ⟨rfl,k5⟩;exact ⟨_,rfl,fun H6 hs=>⟨rfl,Zi (k4.trans k5) hs⟩⟩;rintro _ H4 ⟨rfl,k4⟩;rw [e1];simp only [Bool.false_eq_true,if_false];exact ⟨_,rfl,IfB.intro (fun e2 H5 hs=>⟨by rw [if_pos e2],Zi (k03.trans k4) hs⟩) fun e2 H5 hs=>⟨by rw [e2];rfl,Zi (k03.trans k4) hs⟩⟩
 have j2: ∀t:Bool,bad0 sp=false->bad1 sp=false->t=bad2 sp->Ztm q t H1 fun v H1=>∀H2,Shut H H1 H2->v= .int .i64 (chkE sp)∧Keep Nil H H2:=fun t h0 h1 ht=>by
  unfold Ztm;refine IfB.intro (fun e H3 hs=>⟨by unfold chkE;rw [h0,h1,← ht,e];rfl,Zi k1 hs⟩) fun e=>?_
  have h2:bad2 sp=false:=ht▸e;refine ⟨_,_,_,cellL bq 5 rfl,(Zcjk ra (fr.trans k1)).mono ?_⟩;rintro _ H2 ⟨rfl,k2⟩;have bq2:=k2.blk bq id;refine ⟨_,rfl,IfB.intro (fun e1=>j3 H2 _ k2 h0 h1 h2 (by unfold bad3;rw [e1];rfl)) fun e1=>⟨_,_,_,cellL bq2 6 rfl,(Zcjl rc (fr.trans (k1.trans k2))).mono ?_⟩⟩
  rintro _ H3 ⟨rfl,k3⟩;have bq3:=k3.blk bq2 id;refine ⟨_,rfl,IfB.intro (fun e2=>j3 H3 _ (k2.trans k3) h0 h1 h2 (by unfold bad3;rw [e1,e2];rfl)) fun e2=>⟨_,_,_,cellL bq3 6 rfl,(Zcjj rc (fr.trans ((k1.trans k2).trans k3))).mono ?_⟩⟩
  rintro _ H4 ⟨rfl,k4⟩;exact ⟨_,rfl,j3 H4 _ ((k2.trans k3).trans k4) h0 h1 h2 (by unfold bad3;rw [e1,e2];rfl)⟩
 have j1: ∀t:Bool,bad0 sp=false->t=bad1 sp->Zml q t H1 fun v H1=>∀H2,Shut H H1 H2->v= .int .i64 (chkE sp)∧Keep Nil H H2:=fun t h0 ht=>by
  unfold Zml;refine IfB.intro (fun e H3 hs=>⟨by unfold chkE;rw [h0,← ht,e];rfl,Zi k1 hs⟩) fun e=>?_
  have h1:bad1 sp=false:=ht▸e;exact ⟨_,_,_,cellL bq 5 rfl,IfB.intro (fun e1=>j2 _ h0 h1 (by unfold bad2;rw [e1];rfl)) fun e1=>⟨_,_,_,cellL bq 6 rfl,j2 _ h0 h1 (by unfold bad2;rw [e1];rfl)⟩⟩
 have j0: ∀t:Bool,t=bad0 sp->Zjp q t H1 fun v H1=>∀H2,Shut H H1 H2->v= .int .i64 (chkE sp)∧Keep Nil H H2:=fun t ht=>by
  unfold Zjp;refine IfB.intro (fun e H3 hs=>⟨by unfold chkE;rw [← ht,e];rfl,Zi k1 hs⟩) fun e=>?_
  have h0:bad0 sp=false:=ht▸e;exact ⟨_,cellL bq 3 rfl,IfB.intro (fun e1=>j1 _ h0 (by unfold bad1;rw [e1];rfl)) fun e1=>⟨_,cellL bq 3 rfl,IfB.intro (fun e2=>j1 _ h0 (by unfold bad1;rw [e1,e2];rfl)) fun e2=>⟨_,cellL bq 4 rfl,IfB.intro (fun e3=>j1 _ h0 (by unfold bad1;rw [e1,e2,e3];rfl)) fun e3=>⟨_,cellL bq 4 rfl,j1 _ h0 (by unfold bad1;rw [e1,e2,e3];rfl)⟩⟩⟩⟩
 exact ⟨_,cellL bq 0 rfl,IfB.intro (fun e=>j0 _ (by unfold bad0;rw [e];rfl)) fun e=>⟨_,cellL bq 1 rfl,IfB.intro (fun e1=>j0 _ (by unfold bad0;rw [e,e1];rfl)) fun e1=>⟨_,cellL bq 2 rfl,IfB.intro (fun e2=>j0 _ (by unfold bad0;rw [e,e1,e2];rfl)) fun e2=>⟨_,cellL bq 2 rfl,IfB.intro (fun e3=>j0 _ (by unfold bad0;rw [e,e1,e2,e3];rfl)) fun e3=>⟨_,cellL bq 2 rfl,IfB.intro (fun e4=>j0 _ (by unfold bad0;rw [e,e1,e2,e3,e4];rfl)) fun e4=>⟨_,cellL bq 2 rfl,j0 _ (by unfold bad0;rw [e,e1,e2,e3,e4];rfl)⟩⟩⟩⟩⟩⟩
end
end Go.Proofs.YtlkdgfolbllngaaGreatDoor
end
