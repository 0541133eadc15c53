/-
  The document's answer of layer 15 over the heap:a connection takes a segment,in whatever state.
-/
import Derived.Test.YtaljkjokbdpdoaaGreatXA
set_option linter.all false
section
set_option maxRecDepth 100000
namespace Go.Proofs.YtaljkjokbdpdoaaGreat
open Go.Sh Go.Pc Go.Conn
section
variable {B:Nat} {G:Gm} {H H':Heap} {ob jb cb:Nat} {i0 i1 i2 i3 i4 i5 i6 i7:Int} {da:Option Addr} {dn dc:Nat}
def OutT (B:Nat) (G:Gm) (H:Heap) (v:Value) (H':Heap):Prop:=∃a n c e G',v= .tuple ⟨[.slice a n c,.int .i64 e]⟩∧Sl G' .segs a n c∧n <= 2∧Ty B G' H'∧Ext G H G' H'
theorem OutT.shut {v:Value} {H1 H2:Heap} (h:OutT B G H v H1) (hs:Shut H H1 H2):OutT B G H v H2:=by obtain ⟨a,n,c,e,G',h1,h2,h3,h4,h5⟩:=h;exact ⟨a,n,c,e,G',h1,h2,h3,h4.shut hs,h5.shut hs⟩
theorem OutT.none_ {G1:Gm} {H1:Heap} (h:Ty B G1 H1) (x:Ext G H G1 H1) (e:Int):OutT B G H (.tuple ⟨[.slice none 0 0,.int .i64 e]⟩) H1:=⟨none,0,0,e,G1,rfl,.inl ⟨rfl,rfl,rfl⟩,by decide,h,x⟩
theorem Zcaf {R:Value->Heap->Prop} (h:Ty B G H) (hc:G cb=some .conn) (hR: ∀b G' H',Ty B G' H'->Ext G H G' H'->Sl G' .segs (some ⟨b,0,none⟩) 1 1->R (.tuple ⟨[.slice (some ⟨b,0,none⟩) 1 1,.int .i64 0]⟩) H'):
    FnW Tryz.prog Zfa ⟨[.pointer (some ⟨cb,0,none⟩)]⟩ H fun v H1=>∃x0:Int,∃x1:Int,∃x2:Int,∃x3:Int,∃x4:Int,∃x5:Int,∃x6:Int,∃x7:Int,∃(a:Option Addr) (n c:Nat),v= .agg ⟨[.int .i64 x0,.int .i64 x1,.int .u32 x2,.int .u32 x3,.int .i64 x4,.int .i64 x5,.int .i64 x6,.int .i64 x7,.slice a n c]⟩∧
      NewW H1 (Obj.cells ⟨[.int .i64 x0,.int .i64 x1,.int .u32 x2,.int .u32 x3,.int .i64 x4,.int .i64 x5,.int .i64 x6,.int .i64 x7,.slice a n c]⟩ Zr) fun b H2=>R (.tuple ⟨[.slice (some ⟨b,0,none⟩) 1 1,.int .i64 0]⟩) H2:=by
  refine (Zbhs h hc).mono ?_;rintro _ H2 ⟨⟨j0,j1,j2,j3,j4,j5,j6,j7,rfl⟩,k2⟩;exact ⟨_,_,_,_,_,_,_,_,_,_,_,rfl,(h.keep k2).one_seg (G0:=G) (H0:=H) fun b G' H' h1 x1 _ s1=>hR b G' H' h1 ((Ext.nil k2).trans x1) s1⟩
theorem Zbhg {R:Value->Heap->Prop} {a:Option Addr} {n c:Nat} (h:Ty B G H) (hc:G cb=some .conn) (hs:Sl G .segs a n c) (hn:n <= 1) (hR: ∀a' c' G' H',Ty B G' H'->Ext G H G' H'->Sl G' .segs a' (n+1) c'->R (.tuple ⟨[.slice a' (n+1) c',.int .i64 0]⟩) H'):
    FnW Tryz.prog Zfa ⟨[.pointer (some ⟨cb,0,none⟩)]⟩ H fun v H1=>∃x0:Int,∃x1:Int,∃x2:Int,∃x3:Int,∃x4:Int,∃x5:Int,∃x6:Int,∃x7:Int,∃(p:Option Addr) (m d:Nat),v= .agg ⟨[.int .i64 x0,.int .i64 x1,.int .u32 x2,.int .u32 x3,.int .i64 x4,.int .i64 x5,.int .i64 x6,.int .i64 x7,.slice p m d]⟩∧
      NewW H1 (Obj.cells ⟨[.int .i64 x0,.int .i64 x1,.int .u32 x2,.int .u32 x3,.int .i64 x4,.int .i64 x5,.int .i64 x6,.int .i64 x7,.slice p m d]⟩ Zr) fun b H2=>AppW Tryz.prog #[Zcx,Zcx] Zcx [.slice a n c,.slice (some ⟨b,0,none⟩) 1 1] H2 fun v H3=>∃(p:Option Addr) (m d:Nat),v= .slice p m d∧R (.tuple ⟨[.slice p m d,.int .i64 0]⟩) H3:=by
  refine (Zbhs h hc).mono ?_;rintro _ H2 ⟨⟨j0,j1,j2,j3,j4,j5,j6,j7,rfl⟩,k2⟩;exact ⟨_,_,_,_,_,_,_,_,_,_,_,rfl,newB fun q H3 hq b3 k3=>((h.keep k2).keep k3).push (r:= .segs) Zbje hs Zbat b3 (by omega) fun a' c' G4 H4 h4 x4 s4=>⟨_,_,_,rfl,hR a' c' G4 H4 h4 (((Ext.nil k2).trans (Ext.nil k3)).trans x4) s4⟩⟩
theorem Zbzi (h:Ty B G H) (hc:G cb=some .conn) (hg:i16 i7=true):FnW Tryz.prog Zyl ⟨[.pointer (some ⟨cb,0,none⟩),.agg ⟨sgI i0 i1 i2 i3 i4 i5 i6 i7 da dn dc⟩]⟩ H (OutT B G H):=by
  refine Zckm cb _ _ _ _ _ _ _ _ _ _ _ ?_;unfold Zbra;refine newB fun q H1 hq b1 k1=>?_;have gq:G q=none:=h.free hq;have j0: ∀(z:Bool) (H2:Heap),Keep Nil H1 H2->Zuo cb q z H2 fun v H1=>∀H2,Shut H H1 H2->OutT B G H v H2:=by
    intro z H2 k2;have k02:=k1.trans k2;have h2:=h.keep k02;have b2:=k2.blk b1 id;unfold Zuo;refine IfB.intro (fun e=>ld9x b2 ((Zbjr h2).mono ?_)) fun e=>ld9x b2 ((Zdv (by decide)).mono ?_)
    rintro _ H3 ⟨⟨a,n,c,G3,rfl,s3,hn,h3,x3⟩,k3⟩;exact ⟨_,_,_,rfl,fun H4 hs=>OutT.shut ⟨a,n,c,0,G3,rfl,s3,by omega,h3,(Ext.nil k02).trans x3⟩ hs⟩
    rintro _ H3 ⟨rfl,k3⟩;have k03:=k02.trans k3;have b3:=k3.blk b2 id;refine ⟨_,rfl,IfB.intro (fun e=>ld9x b3 ((Zdv (by decide)).mono ?_)) fun e=>ld9x b3 ((Zdv (by decide)).mono ?_)⟩
    rintro _ H4 ⟨rfl,k4⟩;have k04:=k03.trans k4;refine ⟨_,rfl,IfB.intro (fun e H5 hs=>(OutT.none_ (h.keep k04) (Ext.nil k04) 0).shut hs) fun e=>(Zbag (h.keep k04) hc).mono ?_⟩;rintro _ H5 ⟨rfl,h5,x5⟩;exact ⟨rfl,fun H6 hs=>(OutT.none_ h5 ((Ext.nil k04).trans x5) 151).shut hs⟩;rintro _ H4 ⟨rfl,k4⟩;have k04:=k03.trans k4;have b4:=k4.blk b3 id;refine ⟨_,rfl,IfB.intro (fun e H5 hs=>(OutT.none_ (h.keep k04) (Ext.nil k04) 0).shut hs) fun e=>ld9x b4 ((Zbze (h.keep k04) hc hg).mono ?_)⟩;rintro _ H5 ⟨rfl,G5,h5,x5,hi5⟩;obtain ⟨b5,g5⟩:=x5.blk b4 gq;have x05:=(Ext.nil k04).trans x5;have hc5:=x5.le.cn cb hc;refine ⟨rfl,ld9x b5 ((Zdv (by decide)).mono ?_)⟩
    rintro _ H6 ⟨rfl,k6⟩;have h6:=h5.keep k6;have x06:=x05.trans (Ext.nil k6);have hi6:InOk H6 cb:=(Ext.nil k6).inn cb hc5 hi5;have b6:=k6.blk b5 id;obtain ⟨st,f,t,first,ob,jp,c1,c2,c3,c4,now,due,hb,ho,hj,hs⟩:=h6.conn hc5
    have hjp:=hi6.jp hb;refine ⟨_,rfl,IfB.intro (fun e=>h6.put hc5 hb (by simp [Zbx]) rfl (Nat.le_refl _) ⟨2,f,t,first,ob,jp,c1,c2,c3,c4,now,due,rfl,ho,hj,.inr (.inr hjp)⟩ fun H7 h7 x7 _ _=>(Zbhv h7 hc5).mono ?_) fun e=>h6.put hc5 hb (by simp [Zbx]) rfl (Nat.le_refl _) ⟨3,f,t,first,ob,jp,c1,c2,c3,c4,now,due,rfl,ho,hj,.inr (.inr hjp)⟩ fun H7 h7 x7 _ _=>(Zrp h7 hc5).mono ?_⟩
    rintro _ H8 ⟨⟨j0,j1,j2,j3,j4,j5,j6,j7,rfl⟩,k8⟩;exact ⟨_,_,_,_,_,_,_,_,_,_,_,rfl,(h7.keep k8).one_seg (G0:=G) (H0:=H) fun b G' H' h9 x9 _ s9=>fun H10 hs=>OutT.shut ⟨_,1,1,0,G',rfl,s9,by decide,h9,((x06.trans x7).trans (Ext.nil k8)).trans x9⟩ hs⟩
    rintro _ H8 ⟨rfl,h8,x8⟩;have x68:=x7.trans x8;obtain ⟨b8,_⟩:=x68.blk b6 g5;obtain ⟨st,f,t,first,ob,jp,c1,c2,c3,c4,now,due,hb,ho,hj,hs⟩:=h8.conn hc5
    refine ⟨rfl,_,cellL hb 4 rfl,_,cellL hb 10 rfl,_,cellL b8 3 rfl,_,cellL b8 5 rfl,(Zrm h8 ho _ _ _).mono ?_⟩;rintro _ H9 ⟨z1,z2,rfl,h9,x9,_⟩;refine ⟨_,_,rfl,(Zbhu h9 hc5).mono ?_⟩;rintro _ H10 ⟨a,n,c,G10,rfl,s10,hn,h10,x10⟩;have x010:=((x06.trans x68).trans x9).trans x10;exact ⟨_,_,_,rfl,IfB.intro (fun e=>Zbhg (R:=fun v H1=>∀H2,Shut H H1 H2->OutT B G H v H2) h10 (x10.le.cn cb hc5) s10 hn fun a' c' G' H' h11 x11 s11=>fun H12 hs=>OutT.shut ⟨_,_,_,0,G',rfl,s11,by omega,h11,x010.trans x11⟩ hs) fun e H12 hs=>OutT.shut ⟨_,_,_,0,G10,rfl,s10,by omega,h10,x010⟩ hs⟩
  obtain ⟨st,f,t,first,ob,jp,c1,c2,c3,c4,now,due,hb,ho,hj,hs⟩:=(h.keep k1).conn hc
  refine ⟨[q],Zcp b1.some,ld9x b1 ((Zdv (by decide)).mono ?_)⟩
  rintro _ H2 ⟨rfl,k2⟩;refine ⟨_,rfl,Zci b1.some k2,IfB.intro (fun e=>⟨List.mem_singleton.2 rfl,_,cellL b1 3 rfl,_,cellL (k2.blk hb id) 3 rfl,(Zdu _ _).mono ?_⟩) fun e=>j0 false H2 k2⟩;rintro _ _ ⟨z,rfl,rfl⟩;exact ⟨_,rfl,Zci b1.some k2,j0 _ H2 k2⟩
theorem Zbzk (h:Ty B G H) (hB:B <= 800000) (hc:G cb=some .conn) (hi:InOk H cb) {l:List Int} (ro:Ro G H da dn l) (hl:AllB l):FnW Tryz.prog Zxv ⟨[.pointer (some ⟨cb,0,none⟩),.agg ⟨sgI i0 i1 i2 i3 i4 i5 i6 i7 da dn dc⟩]⟩ H (OutT (B+dn+4100) G H):=by
  refine Zciw cb _ _ _ _ _ _ _ _ _ _ _ ?_;unfold Zboz;refine newB fun q H1 hq b1 k1=>?_;have gq:G q=none:=h.free hq;have up: ∀{Gx:Gm} {Hx:Heap},Ty B Gx Hx->Ty (B+dn+4100) Gx Hx:=fun h=>h.mono (by omega)
  have j0: ∀(Hx:Heap),Ty B G Hx->Ext G H1 G Hx->Ztn cb q Hx fun v H1=>∀H2,Shut H H1 H2->OutT (B+dn+4100) G H v H2:=by
    intro Hx hx xx;have x0:=(Ext.nil k1).trans xx;obtain ⟨bx,_⟩:=xx.blk b1 gq;unfold Ztn;obtain ⟨st,f,t,first,ob,jp,c1,c2,c3,c4,now,due,hb,ho,hj,hs⟩:=hx.conn hc
    refine ⟨_,cellL hb 0 rfl,IfB.intro (fun e H2 hs=>(OutT.none_ (up hx) x0 0).shut hs) fun e=>ld9x bx ((Zbzg hx hB hc (ro.ext x0) hl).mono ?_)⟩;rintro _ H3 ⟨rfl,G3,h3,x3⟩;have hc3:=x3.le.cn cb hc;obtain ⟨b3,g3⟩:=x3.blk bx gq;refine ⟨rfl,(Zbhu h3 hc3).mono ?_⟩;rintro _ H4 ⟨a,n,c,G4,rfl,s4,hn,h4,x4⟩;have hc4:=x4.le.cn cb hc3;obtain ⟨b4,g4⟩:=x4.blk b3 g3;have x04:=(x0.trans x3).trans x4;have j1: ∀(z:Bool) (H5:Heap),Keep Nil H4 H5->Zto cb a n c z H5 fun v H1=>∀H2,Shut H H1 H2->OutT (B+dn+4100) G H v H2:=by intro z H5 k5;have h5:=h4.keep k5;have x05:=x04.trans (Ext.nil k5);unfold Zto;exact IfB.intro (fun e=>Zbhg (R:=fun v H1=>∀H2,Shut H H1 H2->OutT (B+dn+4100) G H v H2) h5 hc4 s4 hn fun a' c' G' H' h6 x6 s6=>fun H7 hs=>OutT.shut ⟨_,_,_,0,G',rfl,s6,by omega,h6,x05.trans x6⟩ hs) fun e H7 hs=>OutT.shut ⟨_,_,_,0,G4,rfl,s4,by omega,h5,x05⟩ hs
    refine ⟨_,_,_,rfl,IfB.intro (fun e=>ld9x b4 (Zbce.mono ?_)) fun e=>j1 false H4 (Keep.refl _ _)⟩;rintro _ H5 ⟨z,rfl,k5⟩;exact ⟨_,rfl,j1 _ H5 k5⟩
  have ack0: ∀(Hx:Heap),Ty B G Hx->Ext G H G Hx->FnW Tryz.prog Zfa ⟨[.pointer (some ⟨cb,0,none⟩)]⟩ Hx fun v H1=>∃x0:Int,∃x1:Int,∃x2:Int,∃x3:Int,∃x4:Int,∃x5:Int,∃x6:Int,∃x7:Int,∃(a:Option Addr) (n c:Nat),v= .agg ⟨[.int .i64 x0,.int .i64 x1,.int .u32 x2,.int .u32 x3,.int .i64 x4,.int .i64 x5,.int .i64 x6,.int .i64 x7,.slice a n c]⟩∧
      NewW H1 (Obj.cells ⟨[.int .i64 x0,.int .i64 x1,.int .u32 x2,.int .u32 x3,.int .i64 x4,.int .i64 x5,.int .i64 x6,.int .i64 x7,.slice a n c]⟩ Zr) fun b H2=>(fun v H1=>∀H2,Shut H H1 H2->OutT (B+dn+4100) G H v H2) (.tuple ⟨[.slice (some ⟨b,0,none⟩) 1 1,.int .i64 0]⟩) H2:=fun Hx hx xx=>
    Zcaf (R:=fun v H1=>∀H2,Shut H H1 H2->OutT (B+dn+4100) G H v H2) hx hc fun b G' H' h1 x1 s1=>fun H2 hs=>OutT.shut ⟨_,1,1,0,G',rfl,s1,by decide,up h1,xx.trans x1⟩ hs
  have h1:=h.keep k1;have hi1:InOk H1 cb:=(Ext.nil k1).inn cb hc hi;obtain ⟨st,f,t,first,ob,jb,c1,c2,c3,c4,now,due,hb,ho,hj⟩:=h1.conn_in hc hi1
  have m2:q∈[cb,q]:=List.mem_cons_of_mem _ (List.mem_singleton.2 rfl);have kq: ∀{Hx:Heap},Keep Nil H1 Hx->Zb [cb,q] H1 Hx:=fun k=>Zgh (Zeu ⟨hb.some,id⟩ ⟨b1.some,id⟩) k;refine ⟨[cb,q],Zkb (Zeu hb.some b1.some),List.mem_cons_self,_,cellL hb 5 rfl,m2,_,cellL b1 2 rfl,m2,ld9x b1 ((Zro h1 hc).mono ?_)⟩;rintro _ _ ⟨z1,rfl,rfl⟩;refine ⟨_,rfl,kq (Keep.refl _ _),(Zbcp h1 hj).mono ?_⟩;rintro _ _ ⟨z2,rfl,_,rfl⟩;refine ⟨_,rfl,kq (Keep.refl _ _),Zbce.mono ?_⟩;rintro _ H2 ⟨z3,rfl,k2⟩;refine ⟨_,rfl,kq k2,(Zcjt _ _ _ _).mono ?_⟩;rintro _ _ ⟨z4,z5,rfl,rfl⟩;have k02:=k1.trans k2;have b2:=k2.blk b1 id;refine ⟨_,_,rfl,kq k2,IfB.intro (fun e=>ld9x b2 ((Zdv (by decide)).mono ?_)) fun e=>ld9x b2 ((Zdv (by decide)).mono ?_)⟩
  rintro _ H3 ⟨rfl,k3⟩;have k03:=k02.trans k3;exact ⟨_,rfl,IfB.intro (fun e H5 hs=>(OutT.none_ (up (h.keep k03)) (Ext.nil k03) 0).shut hs) fun e=>ack0 H3 (h.keep k03) (Ext.nil k03)⟩;rintro _ H3 ⟨rfl,k3⟩;have k03:=k02.trans k3;have b3:=k3.blk b2 id;have h3:=h.keep k03;refine ⟨_,rfl,IfB.intro (fun e=>⟨[q],Zcp b3.some,List.mem_singleton.2 rfl,_,cellL b3 2 rfl,(Zro h3 hc).mono ?_⟩) fun e=>ld9x b3 ((Zdv (by decide)).mono ?_)⟩
  rintro _ _ ⟨z6,rfl,rfl⟩;refine ⟨_,rfl,Zci b3.some (Keep.refl _ _),IfB.intro (fun e=>ack0 H3 h3 (Ext.nil k03)) fun e=>(Zbag h3 hc).mono ?_⟩;rintro _ H4 ⟨rfl,h4,x4⟩;exact ⟨rfl,fun H5 hs=>(OutT.none_ (up h4) ((Ext.nil k03).trans x4) 151).shut hs⟩;rintro _ H4 ⟨rfl,k4⟩;have k04:=k03.trans k4;have b4:=k4.blk b3 id;have h4:=h.keep k04;refine ⟨_,rfl,IfB.intro (fun e=>ack0 H4 h4 (Ext.nil k04)) fun e=>ld9x b4 ((Zdv (by decide)).mono ?_)⟩
  rintro _ H5 ⟨rfl,k5⟩;have k05:=k04.trans k5;have b5:=k5.blk b4 id;have h5:=h.keep k05;have k15:Keep Nil H1 H5:=((k2.trans k3).trans k4).trans k5;obtain ⟨st,f,t,first,ob,jp,c1,c2,c3,c4,now,due,hb,ho,hj,hs⟩:=h5.conn hc
  refine ⟨_,rfl,IfB.intro (fun e H6 hs=>(OutT.none_ (up h5) (Ext.nil k05) 0).shut hs) fun e=>⟨_,cellL hb 0 rfl,IfB.intro (fun e2=>⟨[q],Zcp b5.some,List.mem_singleton.2 rfl,_,cellL b5 3 rfl,_,cellL hb 3 rfl,(Zdu _ _).mono ?_⟩) fun e2=>ld9x b5 ((Zbzd h5 hc).mono ?_)⟩⟩
  . rintro _ _ ⟨z7,rfl,rfl⟩;refine ⟨_,rfl,Zci b5.some (Keep.refl _ _),IfB.intro (fun e=>ld9x b5 ((Zbjr h5).mono ?_)) fun e=>?_⟩;rintro _ H6 ⟨⟨a,n,c,G6,rfl,s6,hn,h6,x6⟩,_⟩;exact ⟨_,_,_,rfl,fun H7 hs=>OutT.shut ⟨a,n,c,0,G6,rfl,s6,by omega,up h6,(Ext.nil k05).trans x6⟩ hs⟩
    . have e2:st=2:=eq_of_beq e2;refine h5.put hc hb (by simp [Zbx]) rfl (Nat.le_refl _) ⟨3,f,t,first,ob,jp,c1,c2,c3,c4,now,due,rfl,ho,hj,.inr (.inr (by rcases hs with hs | hs | hs;omega;omega;exact hs))⟩ fun H6 h6 x6 _ _=>(Zrp h6 hc).mono ?_
      rintro _ H7 ⟨rfl,h7,x7⟩;have x57:=x6.trans x7;obtain ⟨b7,_⟩:=x57.blk b5 gq;obtain ⟨st,f,t,first,ob,jp,c1,c2,c3,c4,now,due,hb,ho,hj,hs⟩:=h7.conn hc
      refine ⟨rfl,_,cellL hb 4 rfl,_,cellL hb 10 rfl,_,cellL b7 3 rfl,_,cellL b7 5 rfl,(Zrm h7 ho _ _ _).mono ?_⟩;rintro _ H8 ⟨w1,w2,rfl,h8,x8,_⟩;exact ⟨_,_,rfl,j0 H8 h8 (((Ext.nil k15).trans x57).trans x8)⟩
  rintro _ H6 ⟨z8,rfl,h6,x6⟩;exact ⟨_,rfl,IfB.intro (fun e=>ack0 H6 h6 ((Ext.nil k05).trans x6)) fun e=>j0 H6 h6 ((Ext.nil k15).trans x6)⟩
theorem Zbzc (h:Ty B G H) (hB:B <= 800000) (hc:G cb=some .conn) (now:Int) {l:List Int} (ro:Ro G H da dn l) (hl:AllB l):FnW Tryz.prog Zxu ⟨[.pointer (some ⟨cb,0,none⟩),.int .i64 now,.agg ⟨sgI i0 i1 i2 i3 i4 i5 i6 i7 da dn dc⟩]⟩ H (OutT (B+dn+4100) G H):=by
  refine Zciu cb now _ _ _ _ _ _ _ _ _ _ _ ?_;unfold Zbox;refine newB fun q H1 hq b1 k1=>?_;have gq:G q=none:=h.free hq;have up: ∀{Gx:Gm} {Hx:Heap},Ty B Gx Hx->Ty (B+dn+4100) Gx Hx:=fun h=>h.mono (by omega)
  have j1: ∀(a:Option Addr) (n c:Nat) (e:Int) (Gx:Gm) (Hx:Heap),Sl Gx .segs a n c->n <= 2->Ty (B+dn+4100) Gx Hx->Ext G H Gx Hx->Ztm cb a n c e Hx fun v H1=>∀H2,Shut H H1 H2->OutT (B+dn+4100) G H v H2:=by intro a n c e Gx Hx s1 s2 hx xx;unfold Ztm;refine (Zbht hx (xx.le.cn cb hc)).mono ?_;rintro _ H2 ⟨rfl,h2,x2⟩;exact ⟨rfl,fun H3 hs=>OutT.shut ⟨a,n,c,e,Gx,rfl,s1,s2,h2,xx.trans x2⟩ hs⟩
  have j0: ∀(z:Bool) (H2:Heap),Keep Nil H1 H2->(z=false->i16 i7=true)->Ztl cb now q z H2 fun v H1=>∀H2,Shut H H1 H2->OutT (B+dn+4100) G H v H2:=by
    intro z H2 k2 hz;have k02:=k1.trans k2;have h2:=h.keep k02;have b2:=k2.blk b1 id;unfold Ztl;refine IfB.intro (fun e H3 hs=>(OutT.none_ (up h2) (Ext.nil k02) 2).shut hs) fun e=>?_;obtain ⟨st,f,t,first,ob,jp,c1,c2,c3,c4,now',due,hb,ho,hj,hs⟩:=h2.conn hc
    refine ⟨_,cellL hb 0 rfl,IfB.intro (fun e2 H3 hs=>(OutT.none_ (up h2) (Ext.nil k02) 150).shut hs) fun e2=>h2.put hc hb (by simp [Zbx]) rfl (Nat.le_refl _) ⟨st,f,t,first,ob,jp,c1,c2,c3,c4,now,due,rfl,ho,hj,hs⟩ fun H3 h3 x3 b3 _=>?_⟩
    have x03:=(Ext.nil k02).trans x3;obtain ⟨bq3,_⟩:=x3.blk b2 gq;refine ⟨_,cellL b3 0 rfl,IfB.intro (fun e3=>ld9x bq3 ((Zbzi h3 hc (hz e)).mono ?_)) fun e3=>ld9x bq3 ((Zbzk h3 hB hc (Zqn (jp:=jp) b3 ?_) (ro.ext x03) hl).mono ?_)⟩;rintro _ H4 ⟨a,n,c,e,G4,rfl,s1,s2,h4,x4⟩;exact ⟨_,_,_,_,rfl,j1 a n c e G4 H4 s1 s2 (up h4) (x03.trans x4)⟩;rcases hs with hs | hs | hs;subst hs;cases e2;subst hs;cases e3;exact hs;rintro _ H4 ⟨a,n,c,e,G4,rfl,s1,s2,h4,x4⟩;exact ⟨_,_,_,_,rfl,j1 a n c e G4 H4 s1 s2 h4 (x03.trans x4)⟩
  obtain ⟨st,f,t,first,ob,jp,c1,c2,c3,c4,now',due,hb,ho,hj,hs⟩:=(h.keep k1).conn hc
  refine ⟨_,cellL hb 10 rfl,IfB.intro (fun e=>j0 true H1 (Keep.refl _ _) fun h=>by cases h) fun e=>ld9x b1 ((Zbrx ((ro.ext (Ext.nil k1)).1) hl).mono ?_)⟩
  rintro _ H2 ⟨z,rfl,hz,k2⟩;refine ⟨_,rfl,j0 _ H2 k2 fun e=>?_⟩;have:z=true:=by cases z<;>simp_all
  exact (hz.1 this).1.g
end
end Go.Proofs.YtaljkjokbdpdoaaGreat
end
section
set_option maxRecDepth 100000
namespace Go.Proofs.YtaljkjokbdpdoaaGreat
open Go.Sh Go.Pc Go.Conn
theorem Zbjc:Tryz.prog.underlying Zfe=some (.slice Zfx):=by kernel_rfl
theorem Zbjd:Tryz.prog.underlying Zny=some (.slice Zhu):=by kernel_rfl
theorem Zrz:Tryz.prog.underlying Zdz=some (.slice Zht):=by kernel_rfl
theorem Zccu:Tryz.prog.underlying Zbt=some (.slice Zl):=by kernel_rfl
section
variable {B:Nat} {G:Gm} {H H':Heap} {ob jb cb sb:Nat} {i0 i1 i2 i3 i4 i5 i6 i7:Int} {da:Option Addr} {dn dc:Nat}
def Born (B:Nat) (G:Gm) (H:Heap) (v:Value) (H':Heap):Prop:=∃cb a n c G',v= .tuple ⟨[.pointer (some ⟨cb,0,none⟩),.slice a n c,.int .i64 0]⟩∧Sl G' .segs a n c∧n <= 2∧Ty B G' H'∧Ext G H G' H'∧G' cb=some .conn
theorem Born.shut {v:Value} {H1 H2:Heap} (h:Born B G H v H1) (hs:Shut H H1 H2):Born B G H v H2:=by obtain ⟨cb,a,n,c,G',h1,h2,h3,h4,h5,h6⟩:=h;exact ⟨cb,a,n,c,G',h1,h2,h3,h4.shut hs,h5.shut hs,h6⟩
theorem Ext.shut0 {G0 G1 G2:Gm} {H0 H1 H2 Hs Hm:Heap} (h:Ext G0 H0 G2 H1) (hs:Shut Hs H1 H2) (_:Keep Nil Hs Hm) (x:Ext G0 H0 G1 Hs):Ext G0 H0 G2 H2:=
  h.shut fun b=>(hs b).imp id fun ⟨a,r⟩=>⟨x.kp.free a,r⟩
theorem Zbzf {G0:Gm} {H0:Heap} {f t first now due:Int} (h:Ty B G H) (x:Ext G0 H0 G H) (h0:H0 cb=none) (hb:Blk H cb Zhs ⟨[.int .i64 2,.int .i64 f,.int .i64 t,.int .u32 first,.pointer none,.pointer none,.bool false,.bool false,.bool false,.bool false,.int .i64 now,.int .i64 due]⟩) (hgc:G cb=none) (hg:i16 i7=true):
    FnW Tryz.prog Zmj ⟨[.pointer (some ⟨cb,0,none⟩),.agg ⟨sgI i0 i1 i2 i3 i4 i5 i6 i7 da dn dc⟩]⟩ H fun v H'=>v= .tuple ⟨[]⟩∧∃G',Ty B G' H'∧Ext G0 H0 G' H'∧G' cb=some .conn:=by
  refine Zbrz cb _ _ _ _ _ _ _ _ _ _ _ ?_;unfold Zbcw;refine newB fun q H1 hq b1 k1=>⟨_,cellL b1 2 rfl,(Zdu _ _).mono ?_⟩;rintro _ _ ⟨z,rfl,rfl⟩;have h1:=h.keep k1;have hb1:=k1.blk hb id;have hqc: ¬q=cb:=fun e=>hb.some (by rw [← e];exact hq)
  refine ⟨_,rfl,(Zbqe h1 _).mono ?_⟩;rintro _ H3 ⟨jb,rfl,hjb,h3,x3⟩;obtain ⟨b3,g3⟩:=x3.blk b1 (h.free hq);obtain ⟨c3,gc3⟩:=x3.blk hb1 hgc;have keepT: ∀{Gx:Gm} {Ha Hb:Heap},Ty B Gx Ha->Gx cb=none->Keep (fun y=>y=cb) Ha Hb->Ty B Gx Hb:=fun ht hn kk=>⟨fun x κ hx=>by
    obtain ⟨cs,e1,e2⟩:=ht.at_ x κ hx;exact ⟨cs,kk.blk e1 (fun e=>by rw [e,hn] at hx;cases hx),e2⟩⟩
  have keepX: ∀{Gx:Gm} {Ha Hb:Heap},Ext G0 H0 Gx Ha->Gx cb=none->Keep (fun y=>y=cb) Ha Hb->Ext G0 H0 Gx Hb:=fun xt hn kk=>⟨xt.le,xt.new,xt.kp.then kk fun y hy=> .inr (hy▸h0),fun b hb' hi=>(xt.inn b hb' hi).same (kk.same b (fun e=>by have:=xt.le.cn b hb';rw [e,hn] at this;cases this) fun e=>by
    obtain ⟨y,hy⟩:=xt.inn b hb' hi;simp only [Heap.cell,e] at hy;cases hy)⟩
  refine ⟨_,_,rfl,stL c3 (by simp) rfl fun H4 c4 k4=>?_⟩
  have h4:=keepT h3 gc3 k4;have s4:=k4.blk b3 hqc;have x4:=keepX ((x.trans (Ext.nil k1)).trans x3) gc3 k4;refine ⟨[q],Zcp s4.some,_,cellL c4 3 rfl,List.mem_singleton.2 rfl,ld9x s4 ((Zdu _ _).mono ?_)⟩;rintro _ _ ⟨z,rfl,rfl⟩;refine ⟨_,rfl,Zci s4.some (Keep.refl _ _),(Zbkl hg).mono ?_⟩;rintro _ H5 ⟨m,rfl,m1,m2,k5⟩;refine ⟨_,rfl,Zci s4.some k5,(Zbpp (h4.keep k5) _ m1 m2).mono ?_⟩;rintro _ H6 ⟨o2,rfl,ho2,h6,x6,k6⟩;have c6:=(k5.trans k6).blk c4 id;have hoc: ¬o2=cb:=fun e=>(k5.blk c4 id).some (by rw [← e];exact ho2)
  have gc6:gset (gset G jb .joint) o2 .out cb=none:=by rw [Zfb (fun e=>hoc e.symm)];exact gc3
  refine ⟨_,_,rfl,Zci s4.some (k5.trans k6),stL c6 (by simp) rfl fun H7 c7 k7=>?_⟩
  have h7:=keepT h6 gc6 k7;have x7:=keepX ((x4.trans (Ext.nil k5)).trans x6) gc6 k7;have c7:Blk H7 cb (Bk.conn).ty ⟨Zbx 2 f t first o2 (some ⟨jb,0,none⟩) false false false false now due⟩:=c7
  have hjc: ¬jb=cb:=fun e=>hb1.some (by rw [← e];exact hjb)
  have hoj: ¬jb=o2:=fun e=>by
    have:H5 jb≠none:=k5.live jb (k4.live jb (h3.live (by rw [Zda];simp)))
    exact this (by rw [e];exact ho2)
  have h8:=h7.add (k:= .conn) gc6 c7 ⟨2,f,t,first,o2,some ⟨jb,0,none⟩,false,false,false,false,now,due,rfl,(by rw [Zfb hoc];exact Zda),(fun y hy=>⟨jb,(by cases hy;rfl),by rw [Zfb hjc,Zfb hoj];exact Zda⟩),.inr (.inr (by simp))⟩
  exact fun H8 hs=>⟨rfl,_,h8.shut hs,(x7.add (k:= .conn) gc6 h0).shut0 hs k1 x,Zda⟩
theorem Zcij (h:Ty B G H) {now:Int} (hn:0 <= now) (hrm:Rm i0 i1 i4 i5 i6 i7) (h1:Zbf i0=true) (h2:Zbf i1=true) (f:Int) (hS:hasB i4 2=true) (hA:hasB i4 16=false) (hR:hasB i4 4=false) (hF:hasB i4 1=false) (hd:dn=0):
    FnW Tryz.prog Zxr ⟨[.int .i64 now,.agg ⟨sgI i0 i1 i2 i3 i4 i5 i6 i7 da dn dc⟩,.int .u32 f]⟩ H (Born B G H):=by
  subst hd;have hr: ∀Hx:Heap,Reads Hx da 0 (bv []):=fun Hx=>by
    cases da with
    | none=>exact ⟨rfl,rfl⟩
    | some x=>exact ⟨rfl,fun h=>absurd h (Nat.lt_irrefl _)⟩
  refine Zcik now _ _ _ _ _ _ _ _ _ _ _ f ?_;unfold Zboj;refine newB fun q H1 hq b1 k1=>ld9x b1 ((Zbrx (hr H1) AllB.nil).mono ?_);rintro _ H2 ⟨z,rfl,hz,k2⟩;have hz:=hz.2 ⟨hrm,by decide⟩
  subst hz;have k02:=k1.trans k2;have b2:=k2.blk b1 id;refine ⟨_,rfl,ifF rfl ⟨_,cellL b2 0 rfl,(Zbrv _).mono ?_⟩⟩;rintro _ _ ⟨rfl,rfl⟩;rw [h1];refine ⟨_,rfl,ifF rfl ⟨_,cellL b2 1 rfl,(Zbrv _).mono ?_⟩⟩;rintro _ _ ⟨rfl,rfl⟩;rw [h2];refine ⟨_,rfl,ifF rfl (ifF (decide_eq_false (by omega)) (ld9x b2 ((Zdv (by decide)).mono ?_)))⟩
  rintro _ H3 ⟨rfl,k3⟩;rw [hS];refine ⟨_,rfl,ifF rfl (ld9x (k3.blk b2 id) ((Zdv (by decide)).mono ?_))⟩
  rintro _ H4 ⟨rfl,k4⟩;rw [hA];refine ⟨_,rfl,ifF rfl (ld9x (k4.blk (k3.blk b2 id) id) ((Zdv (by decide)).mono ?_))⟩
  rintro _ H5 ⟨rfl,k5⟩;rw [hR];refine ⟨_,rfl,ifF rfl (ld9x (k5.blk (k4.blk (k3.blk b2 id) id) id) ((Zdv (by decide)).mono ?_))⟩
  rintro _ H6 ⟨rfl,k6⟩;rw [hF];have b6:=k6.blk (k5.blk (k4.blk (k3.blk b2 id) id) id) id;have k06:Keep Nil H H6:=((((k02.trans k3).trans k4).trans k5).trans k6);refine ⟨_,rfl,ifF rfl ⟨_,_,_,cellL b6 8 rfl,?_⟩⟩;unfold Zft;refine ifF rfl ⟨_,cellL b6 1 rfl,_,cellL b6 0 rfl,?_⟩;refine newB fun cb H7 hcb b7 k7=>ld9x (k7.blk b6 id) ((Zbzf (h.keep (k06.trans k7)) (Ext.nil (k06.trans k7)) (k06.free hcb) b7 (h.free (k06.free hcb)) hrm.g).mono ?_);rintro _ H8 ⟨rfl,G8,h8,x8,hc8⟩;refine ⟨rfl,(Zbhv h8 hc8).mono ?_⟩;rintro _ H9 ⟨⟨j0,j1,j2,j3,j4,j5,j6,j7,rfl⟩,k9⟩;refine ⟨_,_,_,_,_,_,_,_,_,_,_,rfl,(h8.keep k9).one_seg (G0:=G) (H0:=H) fun b G' H' hx xx _ sx=>(Zbht hx (xx.le.cn cb hc8)).mono ?_⟩;rintro _ Hy ⟨rfl,hy,xy⟩;exact ⟨rfl,fun Hz hs=>Born.shut ⟨cb,_,1,1,G',rfl,sx,by decide,hy,((x8.trans (Ext.nil k9)).trans xx).trans xy,xx.le.cn cb hc8⟩ hs⟩
end
end Go.Proofs.YtaljkjokbdpdoaaGreat
end
section
set_option maxRecDepth 100000
namespace Go.Proofs.YtaljkjokbdpdoaaGreat
open Go.Sh Go.Pc Go.Conn
section
variable {B:Nat} {G:Gm} {H H':Heap} {ob jb cb sb:Nat} {i0 i1 i2 i3 i4 i5 i6 i7:Int} {da:Option Addr} {dn dc:Nat}
theorem Ty.stack (h:Ty B G H) (hs:G sb=some .stack): ∃me seed pa pn pc la ln lc count now,Blk H sb Znw ⟨Zis me seed pa pn pc la ln lc count now⟩∧Sl G .ints pa pn pc∧pn <= B∧Sl G .ones la ln lc∧ln <= B:=by obtain ⟨cs,h1,me,seed,pa,pn,pc,la,ln,lc,count,now,rfl,r⟩:=h.at_ sb _ hs;exact ⟨me,seed,pa,pn,pc,la,ln,lc,count,now,h1,r⟩
theorem Zbrh (n:Int):FnW Tryz.prog Zqa ⟨[.int .i64 n]⟩ H fun v H'=>v= .bool (Zbf n)∧H=H':=by
  refine Zckt n ?_;unfold Zbri;refine IfB.intro (fun e H2 hs=>⟨?_,Zf hs⟩) fun e H2 hs=>⟨?_,Zf hs⟩;have e:=of_decide_eq_true e;unfold Zbf;rw [decide_eq_true (show 1 <= n from e),Bool.true_and]
  have e:=of_decide_eq_false e;unfold Zbf;rw [decide_eq_false (show ¬1 <= n from e),Bool.false_and]
theorem Zbhx (h:Ty B G H) (hB:B <= 1000000) (hs:G sb=some .stack) (p:Int):FnW Tryz.prog Zqd ⟨[.pointer (some ⟨sb,0,none⟩),.int .i64 p]⟩ H fun v H'=>∃z:Bool,v= .bool z∧(z=true->Zbf p=true)∧H=H':=by
  obtain ⟨me,seed,pa,pn,pc,la,ln,lc,count,now,hb,hp,hpn,_⟩:=h.stack hs;refine Zckx sb p ?_;unfold Zbrq;refine Zbo (fun m s Hx=>H=Hx∧∃i:Nat,s=((i:Int),())∧m+i=pn) pn ⟨rfl,0,rfl,rfl⟩ ?_;rintro m s _ ⟨rfl,i,rfl,hm⟩ g;unfold Zbrp;refine ⟨_,_,_,cellL hb 2 rfl,IfB.intro (fun e=>?_) fun e H2 hs=>⟨_,rfl,(fun h=>by cases h),Zf hs⟩⟩
  have e:=of_decide_eq_true e;simp only at e;have w1:IntKind.wrap .i64 ((i:Int)+1)=((i+1:Nat):Int):=by rw [Zi (by omega) (by omega)];omega
  refine ⟨_,_,_,cellL hb 2 rfl,h.at_elem (r:= .ints) hp rfl (by omega) ?_⟩
  rintro b x ⟨z,rfl,hz⟩ hc;refine ⟨z,hc 0 (by decide),IfB.intro (fun e2 H2 hs=>⟨_,rfl,fun _=>?_,Zf hs⟩) fun e2=>⟨m - 1,by omega,rfl,i+1,Prod.ext w1 rfl,by omega⟩⟩
  have e2:z=p:=eq_of_beq e2;rw [← e2];exact hz
theorem Zbzm (h:Ty B G H) (hB:B <= 1000000) (hs:G sb=some .stack) (p:Int):FnW Tryz.prog Zwr ⟨[.pointer (some ⟨sb,0,none⟩),.int .i64 p]⟩ H fun v H'=>∃(z:Int) (G':Gm),v= .int .i64 z∧Ty (B+1) G' H'∧Ext G H G' H':=by
  refine Zcgn sb p ?_;unfold Zbmm;have no: ∀z:Int,∀H2,Shut H H H2->∃(y:Int) (G':Gm),(Value.int .i64 z)= .int .i64 y∧Ty (B+1) G' H2∧Ext G H G' H2:=fun z H2 hs=>⟨_,G,rfl,(h.mono (by omega)).shut hs,Ext.refl.shut hs⟩
  refine (Zbrh _).mono ?_;rintro _ _ ⟨rfl,rfl⟩;refine ⟨_,rfl,IfB.intro (fun e=>no _) fun e=>(Zbhx h hB hs _).mono ?_⟩;have hpo:Zbf p=true:=by cases hh:Zbf p<;>simp_all
  rintro _ _ ⟨z,rfl,_,rfl⟩;obtain ⟨me,seed,pa,pn,pc,la,ln,lc,count,now,hb,hp,hpn,hl,hln⟩:=h.stack hs;refine ⟨_,rfl,IfB.intro (fun e=>no _) fun e=>⟨_,_,_,cellL hb 2 rfl,IfB.intro (fun e=>no _) fun e=>⟨_,_,_,cellL hb 2 rfl,newB fun q H1 hq b1 k1=>?_⟩⟩⟩;refine (h.keep k1).push (r:= .ints) Zccu hp ⟨p,rfl,hpo⟩ b1 (by omega) fun a' c' G2 H2 h2 x2 s2=>⟨_,_,_,rfl,?_⟩
  have hs2:=x2.le.st sb hs;obtain ⟨me,seed,pa2,pn2,pc2,la,ln,lc,count,now,hb2,hp2,hpn2,hl2,hln2⟩:=h2.stack hs2;exact h2.put (B':=B+1) hs2 hb2 (by simp [Zis]) rfl (by omega) ⟨me,seed,a',pn+1,c',la,ln,lc,count,now,rfl,s2,by omega,hl2,by omega⟩ fun H3 h3 x3 _ _=>fun H4 hs=>⟨_,G2,rfl,h3.shut hs,(((Ext.nil k1).trans x2).trans x3).shut hs⟩
theorem Ty.at_one (h:Ty B G H) {la:Option Addr} {ln lc i:Nat} {z:Int} {K:Addr->Prop} (hl:Sl G .ones la ln lc) (hz:z=i) (hi:i<ln) (hK: ∀(b:Nat) (o:Nat) (id to:Int) (cb:Nat),G cb=some .conn->H.cell ⟨b,o,none⟩=some (.int .i64 id)->H.cell ⟨b,o+1,none⟩=some (.int .u32 to)->H.cell ⟨b,o+2,none⟩=some (.pointer (some ⟨cb,0,none⟩))->0 <= to∧to<4294967296->K ⟨b,o,none⟩):
    NilP la fun q=>InB z ln fun m=>elemAt q m 3 K:=
  h.at_elem (r:= .ones) hl hz hi fun b x ⟨id,to,cb,e,hc⟩ hcell=>by subst e;exact hK b _ id to cb hc.1 (hcell 0 (by decide)) (hcell 1 (by decide)) (hcell 2 (by decide)) hc.2
theorem Zbzp (h:Ty B G H) (hB:B <= 1000000) (hs:G sb=some .stack) (o f t:Int):FnW Tryz.prog Zxs ⟨[.pointer (some ⟨sb,0,none⟩),.int .u32 o,.int .i64 f,.int .i64 t]⟩ H fun v H'=>∃z:Int,v= .int .i64 z∧(∀la ln lc,H.cell ⟨sb,3,none⟩=some (.slice la ln lc)->z= -1∨∃i:Nat,z=i∧i<ln)∧H=H':=by
  obtain ⟨me,seed,pa,pn,pc,la,ln,lc,count,now,hb,_,_,hl,hln⟩:=h.stack hs;have hcell: ∀{la' ln' lc'},H.cell ⟨sb,3,none⟩=some (.slice la' ln' lc')->ln'=ln:=fun hc=>by rw [cellL hb 3 rfl] at hc;cases hc;rfl
  refine Zcil sb o f t ?_;unfold Zbom;refine Zbo (fun m s Hx=>H=Hx∧∃i:Nat,s=((i:Int),())∧m+i=ln) ln ⟨rfl,0,rfl,rfl⟩ ?_;rintro m s _ ⟨rfl,i,rfl,hm⟩ g;unfold Zbol;refine ⟨_,_,_,cellL hb 3 rfl,IfB.intro (fun e=>?_) fun e H2 hs=>⟨_,rfl,fun _ _ _ _=> .inl rfl,Zf hs⟩⟩;have e:=of_decide_eq_true e;simp only at e;have w1:IntKind.wrap .i64 ((i:Int)+1)=((i+1:Nat):Int):=by rw [Zi (by omega) (by omega)];omega
  have j0: ∀z:Bool,Zni sb o f t i (fun x' H'=>∃k'<m,H=H'∧∃i:Nat,x'=((i:Int),())∧k'+i=ln) z H fun v H1=>∀H2,Shut H H1 H2->∃z:Int,v= .int .i64 z∧(∀la ln lc,H.cell ⟨sb,3,none⟩=some (.slice la ln lc)->z= -1∨∃i:Nat,z=i∧i<ln)∧H=H2:=by intro z;unfold Zni Zbok;exact IfB.intro (fun e H2 hs=>⟨_,rfl,fun _ _ _ hc=> .inr ⟨i,rfl,by rw [hcell hc];omega⟩,Zf hs⟩) fun e=>⟨m - 1,by omega,rfl,i+1,Prod.ext w1 rfl,by omega⟩
  refine ⟨_,_,_,cellL hb 3 rfl,h.at_one hl rfl (by omega) fun b p id to cb hcb q0 q1 q2 _=>⟨_,q1,IfB.intro (fun e=>⟨_,_,_,cellL hb 3 rfl,h.at_one hl rfl (by omega) fun b p id to cb hcb q0 q1 q2 _=>⟨_,q2,NilP.intro _ rfl ?_⟩⟩) fun e=>j0 _⟩⟩
  obtain ⟨st,f',t',first,ob,jp,c1,c2,c3,c4,now',due,bc,_⟩:=h.conn hcb
  refine ⟨_,cellL bc 2 rfl,IfB.intro (fun e=>⟨_,_,_,cellL hb 3 rfl,h.at_one hl rfl (by omega) fun b p id to cb hcb q0 q1 q2 _=>⟨_,q2,NilP.intro _ rfl ?_⟩⟩) fun e=>j0 _⟩
  obtain ⟨st,f',t',first,ob,jp,c1,c2,c3,c4,now',due,bc,_⟩:=h.conn hcb
  exact ⟨_,cellL bc 1 rfl,j0 _⟩
theorem Zbai (h:Ty B G H) (hs:G sb=some .stack) (to:Int) {a:Option Addr} {n c:Nat} (hl:Sl G .segs a n c) (hn:n <= 2):FnW Tryz.prog Zmg ⟨[.pointer (some ⟨sb,0,none⟩),.int .u32 to,.slice a n c]⟩ H fun v H'=>∃(a':Option Addr) (n' c':Nat),v= .slice a' n' c'∧Keep Nil H H':=by
  obtain ⟨it,g1,g2,g3,g4⟩:=Zbie .outs;obtain ⟨zz,z1,z2⟩:=row_zero .outs;refine Zckj sb to a n c ?_;unfold Zbqx;refine newB fun q H1 hq b1 k1=>Zbo (fun m s Hx=>∃(i:Nat) (oa:Option Addr) (on oc:Nat) (xs:List Value),s=((oa,on,oc),((i:Int),()))∧m+i=n∧on=i∧Sh.Own H Hx oa on oc 2 Zhu xs∧Keep Nil H Hx) n ⟨0,_,0,0,[],rfl,rfl,rfl,Sh.Own.start hq b1,k1⟩ ?_;rintro m s Hx ⟨i,oa,on,oc,xs,rfl,hm,rfl,ho,kx⟩ g;unfold Zbqw;refine IfB.intro (fun e=>?_) fun e H2 hs=>⟨_,_,_,rfl,Zk kx hs⟩;have e:=of_decide_eq_true e;simp only at e;have w1:IntKind.wrap .i64 ((on:Int)+1)=((on+1:Nat):Int):=by rw [Zi (by omega) (by omega)];omega
  have hx:=h.keep kx;obtain ⟨me,seed,pa,pn,pc,la,ln,lc,count,now,hb,_⟩:=hx.stack hs;refine ⟨_,cellL hb 0 rfl,hx.at_elem (r:= .segs) hl rfl (by omega) ?_⟩
  rintro b x ⟨f,t,q',k,l,w,u,g',rfl⟩ hc;refine ⟨_,hc 0 (by decide),_,hc 1 (by decide),_,hc 2 (by decide),_,hc 3 (by decide),_,hc 4 (by decide),_,hc 5 (by decide),_,hc 6 (by decide),_,hc 7 (by decide),_,_,_,hc 8 (by decide),(Zbcf (da:=none) (dn:=0) (dc:=0) (l:=[]) ⟨rfl,rfl⟩ AllB.nil).mono ?_⟩
  rintro _ H3 ⟨ba,bn,bc,e2,rfl,_,_,_,_,k3⟩;refine ⟨_,_,_,_,rfl,newB fun r H4 hr b4 k4=>?_⟩;have hr4:Reads H4 (some ⟨r,0,none⟩) (1*2) [.int .u32 to,.slice ba bn bc]:=Reads.blk b4 rfl fun j hj=>by rw [Nat.zero_add];simp
  have k04:=(kx.trans k3).trans k4;refine Zgj (e:=Zhu) (xe:=Zhu) (z:=zz) Zbjd Zbjd g1 g2 rfl g3 z1 z2 ((ho.keep k3 fun _ _ h=>h).keep k4 fun _ _ h=>h) k04 hr4 (fun v hv=>by
    rcases List.mem_cons.1 hv with rfl | hv;rfl
    . rw [List.mem_singleton.1 hv];rfl) ?_ fun a' c' H5 _ o5 _ _ k5=>⟨_,_,_,rfl,m - 1,by omega,on+1,a',on+1,c',_,Prod.ext rfl (Prod.ext w1 rfl),by omega,rfl,o5,k5⟩
  have:(2*(on+1)+192)*it.bytes <= (2*(2+1)+192)*200:=Nat.mul_le_mul (by omega) g4
  show (2*(on+1)+192)*it.bytes <= 2^48;omega
theorem Zbzq (h:Ty B G H) (hs:G sb=some .stack):FnW Tryz.prog Zws ⟨[.pointer (some ⟨sb,0,none⟩)]⟩ H fun v H'=>∃z:Int,v= .int .u32 z∧H=H':=by obtain ⟨me,seed,pa,pn,pc,la,ln,lc,count,now,hb,_⟩:=h.stack hs;refine Zcgp sb ?_;unfold Zbmo;refine ⟨_,cellL hb 1 rfl,_,cellL hb 4 rfl,(Zdu _ _).mono ?_⟩;rintro _ _ ⟨z,rfl,rfl⟩;exact ⟨_,rfl,fun H2 hs=>⟨_,rfl,Zf hs⟩⟩
theorem Ty.grow (h:Ty B G H) (hs:G sb=some .stack) (hB:B <= 1000000) (hc:G cb=some .conn) {la:Option Addr} {ln lc:Nat} {id to:Int} {K:Heap->Prop} (hto:0 <= to∧to<4294967296) (hl:Sl G .ones la ln lc) (hln:ln <= B) (hK: ∀G' H',Ty (B+1) G' H'->Ext G H G' H'->K H'):
    NewW H (.cells ⟨[.int .i64 id,.int .u32 to,.pointer (some ⟨cb,0,none⟩)]⟩ Zfx) fun q H1=>AppW Tryz.prog #[Zfe,Zfe] Zfe [.slice la ln lc,.slice (some ⟨q,0,none⟩) 1 1] H1 fun v H2=>∃(a:Option Addr) (n c:Nat),v= .slice a n c∧Za H2 ⟨sb,3,none⟩ (.slice a n c) K:=
  newB fun q H1 hq b1 k1=>(h.keep k1).push (r:= .ones) Zbjc hl ⟨id,to,cb,rfl,hc,hto⟩ b1 (by omega) fun a' c' G2 H2 h2 x2 s2=>⟨_,_,_,rfl,by
    have hs2:=x2.le.st sb hs;obtain ⟨me,seed,pa2,pn2,pc2,la2,ln2,lc2,count,now,hb2,hp2,hpn2,hl2,hln2⟩:=h2.stack hs2;exact h2.put (B':=B+1) hs2 hb2 (by simp [Zis]) rfl (by omega) ⟨me,seed,pa2,pn2,pc2,a',ln+1,c',count,now,rfl,hp2,by omega,s2,by omega⟩ fun H3 h3 x3 _ _=>hK G2 H3 h3 (((Ext.nil k1).trans x2).trans x3)⟩
end
end Go.Proofs.YtaljkjokbdpdoaaGreat
end
section
set_option maxRecDepth 100000
namespace Go.Proofs.YtaljkjokbdpdoaaGreat
open Go.Sh Go.Pc Go.Conn
section
variable {B:Nat} {G:Gm} {H H':Heap} {ob jb cb sb:Nat} {i0 i1 i2 i3 i4 i5 i6 i7:Int} {da:Option Addr} {dn dc:Nat}
theorem Zbwe {bs:List Nat} {G':Gm} (h: ∀b∈bs,H b≠none∧G b=none) (x:Ext G H G' H'):Zb bs H H':=
  Zgh (fun b hb=>⟨(h b hb).1,fun e=>e (h b hb).2⟩) x.kp
end
end Go.Proofs.YtaljkjokbdpdoaaGreat
end
section
set_option maxRecDepth 100000
namespace Go.Proofs.YtaljkjokbdpdoaaGreat
open Go.Sh Go.Pc Go.Conn
section
variable {B:Nat} {G:Gm} {H H':Heap} {ob jb cb sb:Nat} {i0 i1 i2 i3 i4 i5 i6 i7:Int} {da:Option Addr} {dn dc:Nat}
theorem Zbpc (h:Ty B G H) (hc:G cb=some .conn):FnW Tryz.prog Zpq ⟨[.pointer (some ⟨cb,0,none⟩)]⟩ H fun v H'=>∃x y:Int,v= .agg ⟨[.int .i64 x,.int .i64 y]⟩∧Keep Nil H H':=by
  refine Zciz cb 0 ?_;unfold Zbpd;refine newB fun q H1 hq b1 k1=>?_;have h1:=h.keep k1;obtain ⟨st,f,t,first,ob,jp,c1,c2,c3,c4,now,due,hb,ho,hj,hs⟩:=h1.conn hc
  have j0: ∀r:Int,Ztt cb 0 q r H1 fun v H1=>∀H2,Shut H H1 H2->∃x y:Int,v= .agg ⟨[.int .i64 x,.int .i64 y]⟩∧Keep Nil H H2:=by intro r;unfold Ztt;exact ⟨_,cellL hb 0 rfl,stL b1 (by simp) rfl fun H2 b2 k2=>stL b2 (by simp) rfl fun H3 b3 k3=>⟨_,cellL b3 0 rfl,_,cellL b3 1 rfl,fun H4 hs=>⟨_,_,rfl,Zk (k1.then (k2.trans k3) fun y hy=> .inr (hy▸hq)) hs⟩⟩⟩
  refine ⟨_,cellL hb 5 rfl,IfB.intro (fun e=>?_) fun e=>j0 _⟩;cases jp with
  | none=>cases e
  | some x=>
    obtain ⟨jb,rfl,hjb⟩:=hj x rfl;obtain ⟨next,ga,gn,gc,ha,hn,hc',bj,_⟩:=h1.joint hjb
    exact ⟨_,cellL hb 5 rfl,NilP.intro _ rfl ⟨_,_,_,cellL bj 2 rfl,j0 _⟩⟩
theorem Zbzo (h:Ty B G H) (hB:B <= 1000000) (hs:G sb=some .stack) (hc:G cb=some .conn) (id w0 w1:Int):FnW Tryz.prog Zwb ⟨[.pointer (some ⟨sb,0,none⟩),.int .i64 id,.agg ⟨[.int .i64 w0,.int .i64 w1]⟩,.pointer (some ⟨cb,0,none⟩)]⟩ H fun v H'=>∃(a:Option Addr) (n c:Nat) (G':Gm),v= .slice a n c∧Ty B G' H'∧Ext G H G' H':=by
  refine Zchq sb id w0 w1 cb 0 ?_;unfold Zbno;refine newB fun q H1 hq b1 k1=>(Zbpc (h.keep k1) hc).mono ?_;rintro _ H2 ⟨l0,l1,rfl,k2⟩;refine ⟨_,_,rfl,newB fun r H3 hr b3 k3=>stL b3 (by simp) rfl fun H4 b4 k4=>stL b4 (by simp) rfl fun H5 b5 k5=>?_⟩
  have k03:Keep Nil H H3:=(k1.trans k2).trans k3;have hr0:H r=none:=(k1.trans k2).free hr;have kr:=k4.trans k5;have k05:Keep Nil H H5:=k03.then kr fun y hy=> .inr (hy▸hr0);have hqr:q≠r:=fun e=>(k2.blk b1 fun h=>h).some (by rw [e];exact hr)
  have bq5:=kr.blk (k3.blk (k2.blk b1 fun h=>h) fun h=>h) hqr;have h5:=h.keep k05;have gq:G q=none:=h.free hq;have gr:G r=none:=h.free hr0;refine h5.new (k:= .row .evs 0 0) (fun b hb=>Zqj) fun e0 H6 he0 h6 x6 k6=>?_;have x06:=(Ext.nil k05).trans x6;have x5: ∀{Gx:Gm} {Hx:Heap},Ext G H5 Gx Hx->Ext G H Gx Hx:=fun x=>(Ext.nil k05).trans x;have bqx: ∀{Gx:Gm} {Hx:Heap},Ext G H5 Gx Hx->Blk Hx q Zjb ⟨[.int .i64 w0,.int .i64 w1]⟩:=fun x=>(x.blk bq5 gq).1;have brx: ∀{Gx:Gm} {Hx:Heap},Ext G H5 Gx Hx->Blk Hx r Zjb ⟨[.int .i64 l0,.int .i64 l1]⟩:=fun x=>(x.blk b5 gr).1;have j4: ∀(a:Option Addr) (n c:Nat) (Gx:Gm) (Hx:Heap),Sl Gx .evs a n c->n <= 3->Ty B Gx Hx->Ext G H5 Gx Hx->Zsm sb id r a n c Hx fun v H1=>∀H2,Shut H H1 H2->∃(a:Option Addr) (n c:Nat) (G':Gm),v= .slice a n c∧Ty B G' H2∧Ext G H G' H2:=by
    intro a n c Gx Hx hsl hn hx xx;unfold Zsm Zbnm;refine ⟨_,cellL (brx xx) 0 rfl,IfB.intro (fun e=>newB fun t H7 ht bt k7=>(hx.keep k7).push (r:= .evs) Zrz hsl ⟨_,_,rfl⟩ bt (by omega) fun a8 c8 G8 H8 h8 x8 s8=>⟨_,_,_,rfl,?_⟩) fun e H7 hs=>⟨_,_,_,Gx,rfl,hx.shut hs,(x5 xx).shut hs⟩⟩
    have xx8:=(xx.trans (Ext.nil k7)).trans x8;have hs8:=xx8.le.st sb hs;refine h8.new (k:= .row .ones 0 0) (fun b hb=>Zqj) fun l0' H9 hl0 h9 x9 k9=>?_;refine Zbo (fun m s Hy=>∃(i:Nat) (la:Option Addr) (ln lc:Nat) (Gy:Gm),s=((la,ln,lc),((i:Int),()))∧m+i=B∧ln <= i∧Sl Gy .ones la ln lc∧Ty B Gy Hy∧Ext G H5 Gy Hy) B ⟨0,_,0,0,_,rfl,rfl,Nat.le_refl _,Zir,h9,xx8.trans x9⟩ ?_;rintro m s Hy ⟨i,la,ln,lc,Gy,rfl,hm,hli,hsy,hy,xy⟩ g;have hsy':=xy.le.st sb hs;obtain ⟨me,seed,pa,pn,pc,sa,sn,sc,count,now,hb,hp,hpn,hl,hln⟩:=hy.stack hsy';have w1:i<B->IntKind.wrap .i64 ((i:Int)+1)=((i+1:Nat):Int):=fun _=>by rw [Zi (by omega) (by omega)];omega
    unfold Zbnn;refine ⟨_,_,_,cellL hb 3 rfl,IfB.intro (fun e=>?_) fun e=>?_⟩
    . have e:=of_decide_eq_true e;simp only at e;have j6: ∀(la:Option Addr) (ln lc:Nat) (Gz:Gm) (Hz:Heap),ln <= i+1->Sl Gz .ones la ln lc->Ty B Gz Hz->Ext G H5 Gz Hz->Zsn sb id a8 (n+1) c8 i (fun x' H'=>∃k'<m,∃(i:Nat) (la:Option Addr) (ln lc:Nat) (Gy:Gm),x'=((la,ln,lc),((i:Int),()))∧k'+i=B∧ln <= i∧Sl Gy .ones la ln lc∧Ty B Gy H'∧Ext G H5 Gy H') la ln lc Hz fun v H1=>∀H2,Shut H H1 H2->∃(a:Option Addr) (n c:Nat) (G':Gm),v= .slice a n c∧Ty B G' H2∧Ext G H G' H2:=by intro la ln lc Gz Hz q1 q2 q3 q4;unfold Zsn;exact ⟨m - 1,by omega,i+1,la,ln,lc,Gz,Prod.ext rfl (Prod.ext (w1 (by omega)) rfl),by omega,q1,q2,q3,q4⟩
      refine ⟨_,_,_,cellL hb 3 rfl,hy.at_one hl rfl (by omega) fun b p id' to cb' hcb q0 q1 q2 qr=>⟨_,q0,IfB.intro (fun e2=>⟨_,_,_,cellL hb 3 rfl,hy.at_one hl rfl (by omega) fun b p id' to cb' hcb q0 q1 q2 qr=>⟨_,q0,_,q1,_,q2,newB fun t H10 ht bt k10=>?_⟩⟩) fun e2=>j6 la ln lc Gy Hy (by omega) hsy hy xy⟩⟩
      exact (hy.keep k10).push (r:= .ones) Zbjc hsy ⟨_,_,cb',rfl,hcb,qr⟩ bt (by show ln <= _;omega) fun a' c' G11 H11 h11 x11 s11=>⟨_,_,_,rfl,j6 a' (ln+1) c' G11 H11 (by omega) s11 h11 ((xy.trans (Ext.nil k10)).trans x11)⟩
    exact hy.put hsy' hb (by simp [Zis]) rfl (Nat.le_refl _) ⟨me,seed,pa,pn,pc,la,ln,lc,count,now,rfl,hp,hpn,hsy,by omega⟩ fun H10 h10 x10 _ _=>fun H11 hs=>⟨_,_,_,Gy,rfl,h10.shut hs,(x5 (xy.trans x10)).shut hs⟩
  have j3: ∀(z:Bool) (a:Option Addr) (n c:Nat) (Gx:Gm) (Hx:Heap),Sl Gx .evs a n c->n <= 2->Ty B Gx Hx->Ext G H5 Gx Hx->Zit sb id r a n c z Hx fun v H1=>∀H2,Shut H H1 H2->∃(a:Option Addr) (n c:Nat) (G':Gm),v= .slice a n c∧Ty B G' H2∧Ext G H G' H2:=by intro z a n c Gx Hx hsl hn hx xx;unfold Zit;exact IfB.intro (fun e=>newB fun t H7 ht bt k7=>(hx.keep k7).push (r:= .evs) Zrz hsl ⟨_,_,rfl⟩ bt (by omega) fun a8 c8 G8 H8 h8 x8 s8=>⟨_,_,_,rfl,j4 _ _ _ G8 H8 s8 (by omega) h8 ((xx.trans (Ext.nil k7)).trans x8)⟩) fun e=>j4 a n c Gx Hx hsl (by omega) hx xx
  have j2: ∀(a:Option Addr) (n c:Nat) (Gx:Gm) (Hx:Heap),Sl Gx .evs a n c->n <= 2->Ty B Gx Hx->Ext G H5 Gx Hx->Zsl sb id q r a n c Hx fun v H1=>∀H2,Shut H H1 H2->∃(a:Option Addr) (n c:Nat) (G':Gm),v= .slice a n c∧Ty B G' H2∧Ext G H G' H2:=by intro a n c Gx Hx hsl hn hx xx;unfold Zsl;exact ⟨_,cellL (bqx xx) 0 rfl,IfB.intro (fun e=>⟨_,cellL (brx xx) 0 rfl,IfB.intro (fun e=>⟨_,cellL (bqx xx) 0 rfl,j3 _ a n c Gx Hx hsl hn hx xx⟩) fun e=>⟨_,cellL (brx xx) 0 rfl,IfB.intro (fun e=>⟨_,cellL (bqx xx) 0 rfl,j3 _ a n c Gx Hx hsl hn hx xx⟩) fun e=>⟨_,cellL (brx xx) 0 rfl,IfB.intro (fun e=>⟨_,cellL (bqx xx) 0 rfl,j3 _ a n c Gx Hx hsl hn hx xx⟩) fun e=>j3 _ a n c Gx Hx hsl hn hx xx⟩⟩⟩) fun e=>j3 _ a n c Gx Hx hsl hn hx xx⟩
  have j1: ∀(a:Option Addr) (n c:Nat) (Gx:Gm) (Hx:Heap),Sl Gx .evs a n c->n <= 1->Ty B Gx Hx->Ext G H5 Gx Hx->Zsk sb id q r a n c Hx fun v H1=>∀H2,Shut H H1 H2->∃(a:Option Addr) (n c:Nat) (G':Gm),v= .slice a n c∧Ty B G' H2∧Ext G H G' H2:=by intro a n c Gx Hx hsl hn hx xx;unfold Zsk;exact ⟨_,cellL (brx xx) 1 rfl,_,cellL (bqx xx) 1 rfl,IfB.intro (fun e=>newB fun t H7 ht bt k7=>(hx.keep k7).push (r:= .evs) Zrz hsl ⟨_,_,rfl⟩ bt (by omega) fun a8 c8 G8 H8 h8 x8 s8=>⟨_,_,_,rfl,j2 _ _ _ G8 H8 s8 (by omega) h8 ((xx.trans (Ext.nil k7)).trans x8)⟩) fun e=>j2 a n c Gx Hx hsl (by omega) hx xx⟩
  have j0: ∀z:Bool,Zsj sb id q r e0 z H6 fun v H1=>∀H2,Shut H H1 H2->∃(a:Option Addr) (n c:Nat) (G':Gm),v= .slice a n c∧Ty B G' H2∧Ext G H G' H2:=by intro z;unfold Zsj;exact IfB.intro (fun e=>newB fun t H7 ht bt k7=>(h6.keep k7).push (r:= .evs) Zrz Zir ⟨_,_,rfl⟩ bt (by omega) fun a8 c8 G8 H8 h8 x8 s8=>⟨_,_,_,rfl,j1 _ _ _ G8 H8 s8 (by omega) h8 ((x6.trans (Ext.nil k7)).trans x8)⟩) fun e=>j1 _ _ _ _ H6 Zir (by omega) h6 x6
  exact ⟨_,cellL (bqx x6) 0 rfl,IfB.intro (fun e=>⟨_,cellL (brx x6) 0 rfl,j0 _⟩) fun e=>j0 _⟩
end
end Go.Proofs.YtaljkjokbdpdoaaGreat
end
section
set_option maxRecDepth 100000
namespace Go.Proofs.YtaljkjokbdpdoaaGreat
open Go.Sh Go.Pc Go.Conn
section
variable {B:Nat} {G:Gm} {H H':Heap} {ob jb cb sb:Nat} {i0 i1 i2 i3 i4 i5 i6 i7:Int} {da:Option Addr} {dn dc:Nat}
def Zje (B:Nat) (G:Gm) (H:Heap) (v:Value) (H':Heap):Prop:=∃(a:Option Addr) (n c:Nat) (a2:Option Addr) (n2 c2:Nat) (e:Int) (G':Gm),v= .tuple ⟨[.slice a n c,.slice a2 n2 c2,.int .i64 e]⟩∧Ty B G' H'∧Ext G H G' H'
theorem Zje.mk' {a a2:Option Addr} {n c n2 c2:Nat} {e:Int} {G1:Gm} {H1 H2:Heap} (h:Ty B G1 H1) (x:Ext G H G1 H1) (hs:Shut H H1 H2):Zje B G H (.tuple ⟨[.slice a n c,.slice a2 n2 c2,.int .i64 e]⟩) H2:=⟨_,_,_,_,_,_,_,G1,rfl,h.shut hs,x.shut hs⟩
theorem By.ro {H1:Heap} {a:Option Addr} {n c:Nat} (h1:Ty B G H1) (o:By H1 H a n c): ∃l,AllB l∧Ro G H a n l:=by obtain ⟨l,e1,e2,e3⟩:=o;have:=e3.reads;rw [Nat.mul_one] at this;refine ⟨l,e1,this,fun _ x hx=>?_⟩;rcases e3.2.2 with ⟨rfl,_⟩ | ⟨m,rest,rfl,hm,hb,_⟩;cases hx;cases hx;exact ⟨hb.some,h1.free hm⟩
theorem Zbzn (h:Ty B G H) (hB:B <= 700000) (hs:G sb=some .stack) {now:Int} (hn:0 <= now) {fr:Int} (hfr:0 <= fr∧fr<4294967296) {ba:Option Addr} {bn bc:Nat} {l:List Int} (ro:Ro G H ba bn l) (hl:AllB l) (hc:bn <= bc) (hn4:bn <= 60000):
    FnW Tryz.prog Zpo ⟨[.pointer (some ⟨sb,0,none⟩),.int .i64 now,.int .u32 fr,.slice ba bn bc]⟩ H (Zje (B+bn+4101) G H):=by
  obtain ⟨me,seed,pa,pn,pc,la,ln,lc,count,now',hb,hp,hpn,hla,hln⟩:=h.stack hs;refine Zchy sb now fr ba bn bc ?_;unfold Zbnt;have up: ∀{Gx:Gm} {Hx:Heap},Ty B Gx Hx->Ty (B+bn+4101) Gx Hx:=fun h=>h.mono (by omega)
  refine ⟨_,cellL hb 5 rfl,IfB.intro (fun e H2 hs=> .mk' (up h) Ext.refl hs) fun e=>h.put hs hb (by simp [Zis]) rfl (Nat.le_refl _) ⟨me,seed,pa,pn,pc,la,ln,lc,count,now,rfl,hp,hpn,hla,hln⟩ fun H1 h1 x1 b1 _=>⟨_,cellL b1 0 rfl,(Zcjg (ro.ext x1).1 hl hc (by omega)).mono ?_⟩⟩
  rintro _ H2 ⟨i0,i1,i2,i3,i4,i5,i6,i7,da,dn,dc,e,rfl,o2,hdn,hrm,k2⟩;refine ⟨_,_,_,_,_,_,_,_,_,_,_,_,rfl,newB fun q H3 hq b3 k3=>st9x b3 fun H12 bq kq=>?_⟩;have hq1:H1 q=none:=k2.free hq;have k12:Keep Nil H1 H12:=(k2.trans k3).then kq fun y hy=> .inr (hy▸hq1);have h12:=h1.keep k12;have x12:=x1.trans (Ext.nil k12);have gq:G q=none:=h1.free hq1;obtain ⟨l2,hl2,ro2⟩:=By.ro h1 ((o2.keep k3 fun _ _ h=>h).keep kq fun y hy e=>by
    obtain ⟨_,_,_,w⟩:=o2;obtain ⟨cs,hw⟩:=w.live hy;exact hw.some (by rw [e];exact hq))
  refine IfB.intro (fun e H4 hs=> .mk' (up h12) x12 hs) fun e=>⟨_,cellL bq 0 rfl,_,cellL bq 1 rfl,(Zbzp h12 (by omega) hs _ _ _).mono ?_⟩
  rintro _ _ ⟨z,rfl,hz,rfl⟩;obtain ⟨me,seed,pa,pn,pc,la,ln,lc,count,now',hb12,hp,hpn,hla,hln⟩:=h12.stack hs;refine ⟨_,rfl,IfB.intro (fun e=>⟨_,_,_,cellL hb12 3 rfl,?_⟩) fun e=>?_⟩
  . have e:=of_decide_eq_true e;obtain ⟨i,hzi,hi⟩: ∃i:Nat,z=i∧i<ln:=by rcases hz _ _ _ (cellL hb12 3 rfl) with hz | hz;omega;exact hz
    refine h12.at_one hla hzi hi fun b p id to cb hcb q0 q1 q2 _=>⟨_,q0,_,q1,_,q2,newB fun o H14 ho bo k14=>stL bo (by simp) rfl fun H15 bo k15=>stL bo (by simp) rfl fun H16 bo k16=>stL bo (by simp) rfl fun H17 bo k17=>⟨_,cellL bo 2 rfl,?_⟩⟩
    have k1217:Keep Nil H12 H17:=((k14.then k15 fun y hy=> .inr (hy▸ho)).then k16 fun y hy=> .inr (hy▸ho)).then k17 fun y hy=> .inr (hy▸ho);have h17:=h12.keep k1217;refine (Zbpc h17 hcb).mono ?_;rintro _ H18 ⟨w0,w1,rfl,k18⟩;refine ⟨_,_,rfl,newB fun r H19 hr br k19=>stL br (by simp) rfl fun H20 br k20=>stL br (by simp) rfl fun H21 br k21=>?_⟩
    have hr12:H12 r=none:=k1217.free (k18.free hr);have k1819:=k18.trans k19;have kk:Keep Nil H17 H21:=(k1819.then k20 fun y hy=> .inr (hy▸k18.free hr)).then k21 fun y hy=> .inr (hy▸k18.free hr);have kall:=k1217.trans kk;have h21:=h12.keep kall;have x21:=x12.trans (Ext.nil kall);have go:G o=none:=h12.free ho;have gr:G r=none:=h12.free hr12;have bo21:=kk.blk bo fun h=>h;have bq21:=kall.blk bq fun h=>h;refine ⟨_,cellL bo21 2 rfl,ld9x bq21 ((Zbzc h21 (by omega) hcb now (ro2.ext (Ext.nil kall)) hl2).mono ?_)⟩
    rintro _ H22 ⟨ta,tn,tc,te,G22,rfl,s22,n22,h22,x22⟩;obtain ⟨bo22,go22⟩:=x22.blk bo21 go;obtain ⟨br22,gr22⟩:=x22.blk br gr;have hs22:=x22.le.st sb hs;refine ⟨_,_,_,_,rfl,[o,r],Zkb (Zeu bo22.some br22.some),List.mem_cons_self,_,cellL bo22 0 rfl,List.mem_cons_of_mem _ (List.mem_singleton.2 rfl),_,cellL br22 0 rfl,_,cellL br22 1 rfl,List.mem_cons_self,_,cellL bo22 2 rfl,(Zbai h22 hs22 _ s22 n22).mono ?_⟩;rintro _ H23 ⟨oa,on,oc,rfl,k23⟩;refine ⟨_,_,_,rfl,Zgh (Z:=Nil) (Zeu ⟨bo22.some,fun h=>h⟩ ⟨br22.some,fun h=>h⟩) k23,(Zbzo (h22.keep k23) (by omega) hs22 (x22.le.cn cb hcb) _ _ _).mono ?_⟩
    rintro _ H24 ⟨ea,en,ec,G24,rfl,h24,x24⟩;exact ⟨_,_,_,rfl,fun H25 hs=> .mk' (h24.mono (by omega)) (((x21.trans x22).trans (Ext.nil k23)).trans x24) hs⟩
  have j1:Zbca sb fr q H12 fun v H1=>∀H2,Shut H H1 H2->Zje (B+bn+4101) G H v H2:=by
    unfold Zbca;refine ld9x bq (Zbrr.mono ?_);rintro _ H13 ⟨j0,j1,j2,j3,j4,j5,j6,j7,zz,rfl,k13⟩;refine ⟨_,_,_,_,_,_,_,_,_,_,_,_,rfl,newB fun r H14 hr br k14=>st9x br fun H15 br k15=>?_⟩;have kk:Keep Nil H12 H15:=(k13.trans k14).then k15 fun y hy=> .inr (hy▸k13.free hr);have h15:=h12.keep kk;have x15:=x12.trans (Ext.nil kk);refine IfB.intro (fun e H16 hs=> .mk' (up h15) x15 hs) fun e=>ld9x br (h15.one_seg (G0:=G) (H0:=H) fun b G' H16 h16 x16 _ s16=>(Zbai h16 (x16.le.st sb hs) _ s16 (by decide)).mono ?_)
    rintro _ H17 ⟨oa,on,oc,rfl,k17⟩;exact ⟨_,_,_,rfl,fun H18 hs=> .mk' (up (h16.keep k17)) ((x15.trans x16).trans (Ext.nil k17)) hs⟩
  have j0: ∀t:Bool,(t=true->Zbf i0=true∧Zbf i1=true∧hasB i4 2=true∧hasB i4 16=false∧hasB i4 4=false∧hasB i4 1=false∧dn=0)->Zfr sb now fr q t H12 fun v H1=>∀H2,Shut H H1 H2->Zje (B+bn+4101) G H v H2:=by
    intro t ht;unfold Zfr;refine IfB.intro (fun e=>⟨_,_,_,cellL hb12 3 rfl,IfB.intro (fun e2 H13 hs=> .mk' (up h12) x12 hs) fun e2=>⟨[q],Zcp bq.some,List.mem_singleton.2 rfl,ld9x bq ((Zbzq h12 hs).mono ?_)⟩⟩) fun e=>j1;rintro _ _ ⟨f,rfl,rfl⟩;obtain ⟨p0,p1,pS,pA,pR,pF,pd⟩:=ht e;refine ⟨_,rfl,Zci bq.some (Keep.refl _ _),(Zcij h12 hn hrm p0 p1 f pS pA pR pF pd).mono ?_⟩;rintro _ H13 ⟨cb,a,n,c,G13,rfl,s13,hn13,h13,x13,hc13⟩;have hs13:=x13.le.st sb hs;obtain ⟨me,seed,pa,pn,pc,la,ln,lc,count,now',hb13,hp,hpn,hla,hln⟩:=h13.stack hs13;refine ⟨_,_,_,_,_,rfl,Zbwe (fun b hb'=>by rw [List.mem_singleton.1 hb'];exact ⟨bq.some,gq⟩) x13,_,cellL hb13 4 rfl,h13.put hs13 hb13 (by simp [Zis]) rfl (Nat.le_refl _) ⟨me,seed,pa,pn,pc,la,ln,lc,_,now',rfl,hp,hpn,hla,hln⟩ fun H14 h14 x14 b14 _=>⟨_,_,_,cellL b14 3 rfl,_,cellL b14 4 rfl,h14.grow hs13 (by omega) hc13 hfr hla hln fun G15 H15 h15 x15=>(Zbai h15 (x15.le.st sb hs13) _ (s13.mono (x14.le.trans x15.le)) hn13).mono ?_⟩⟩
    rintro _ H16 ⟨oa,on,oc,rfl,k16⟩;exact ⟨_,_,_,rfl,fun H17 hs=> .mk' ((h15.keep k16).mono (by omega)) ((((x12.trans x13).trans x14).trans x15).trans (Ext.nil k16)) hs⟩
  refine ⟨_,cellL bq 1 rfl,(Zbhx h12 (by omega) hs _).mono ?_⟩
  rintro _ _ ⟨t,rfl,ht,rfl⟩;have nj:Zfr sb now fr q false H12 fun v H1=>∀H2,Shut H H1 H2->Zje (B+bn+4101) G H v H2:=j0 false fun h=>by cases h
  refine ⟨_,rfl,IfB.intro (fun e1=>⟨_,cellL bq 4 rfl,by decide,IfB.intro (fun e2=>⟨_,cellL bq 4 rfl,by decide,by decide,IfB.intro (fun e3=>⟨_,cellL bq 4 rfl,by decide,by decide,IfB.intro (fun e4=>⟨_,cellL bq 4 rfl,by decide,by decide,IfB.intro (fun e5=>⟨_,_,_,cellL bq 8 rfl,IfB.intro (fun e6=>⟨_,cellL bq 0 rfl,(Zbrh _).mono ?_⟩) fun _=>nj⟩) fun _=>nj⟩) fun _=>nj⟩) fun _=>nj⟩) fun _=>nj⟩) fun _=>nj⟩
  rintro _ _ ⟨rfl,rfl⟩;refine ⟨_,rfl,j0 _ fun e7=>⟨e7,ht e1,e3,?_,?_,?_,?_⟩⟩;have e5:Int.tmod (IntKind.wrap .i64 (Int.tdiv i4 16)) 2=0:=eq_of_beq e5;unfold hasB;rw [e5];rfl;have e4:Int.tmod (IntKind.wrap .i64 (Int.tdiv i4 4)) 2=0:=eq_of_beq e4;unfold hasB;rw [e4];rfl
  . have e2:Int.tmod i4 2=0:=eq_of_beq e2;have f0:=hrm.f0;have f1:=hrm.f1;unfold hasB;rw [Int.tdiv_one,Zi (by omega) (by omega),e2];rfl
  have e6:(dn:Int)=0:=eq_of_beq e6;omega
end
end Go.Proofs.YtaljkjokbdpdoaaGreat
end
section
set_option maxRecDepth 100000
namespace Go.Proofs.YtaljkjokbdpdoaaGreat
open Go.Sh Go.Pc Go.Conn
section
variable {B:Nat} {G:Gm} {H H':Heap} {ob jb cb sb:Nat} {da:Option Addr} {dn dc:Nat}
theorem Zbzl (h:Ty B G H) (hB:B <= 1000000) (hs:G sb=some .stack) (id:Int):FnW Tryz.prog Zwe ⟨[.pointer (some ⟨sb,0,none⟩),.int .i64 id]⟩ H fun v H'=>Keep Nil H H'∧∃(x y:Int) (p:Option Addr) (z:Bool),v= .tuple ⟨[.agg ⟨[.int .i64 x,.int .u32 y,.pointer p]⟩,.bool z]⟩∧(z=true->(0 <= y∧y<4294967296)∧∃cb,p=some ⟨cb,0,none⟩∧G cb=some .conn):=by
  refine Zcdu sb id ?_;unfold Zbkc;refine newB fun q H1 hq b1 k1=>?_;have h1:=h.keep k1;obtain ⟨me,seed,pa,pn,pc,la,ln,lc,count,now',hb,hp,hpn,hla,hln⟩:=h1.stack hs;refine Zbo (fun m s Hx=>H1=Hx∧∃i:Nat,s=((i:Int),())∧m+i=ln) ln ⟨rfl,0,rfl,rfl⟩ ?_;rintro m s _ ⟨rfl,i,rfl,hm⟩ g;unfold Zbkb;have kq: ∀{Hx:Heap},Keep (fun y=>y=q) H1 Hx->Keep Nil H Hx:=fun k=>k1.then k fun y hy=> .inr (hy▸hq);refine ⟨_,_,_,cellL hb 3 rfl,IfB.intro (fun e=>?_) fun e=>?_⟩
  . have e:=of_decide_eq_true e;simp only at e;have w1:IntKind.wrap .i64 ((i:Int)+1)=((i+1:Nat):Int):=by rw [Zi (by omega) (by omega)];omega
    refine ⟨_,_,_,cellL hb 3 rfl,h1.at_one hla rfl (by omega) fun b p id' to cb hcb q0 q1 q2 qr=>⟨_,q0,IfB.intro (fun e2=>⟨_,_,_,cellL hb 3 rfl,h1.at_one hla rfl (by omega) fun b p id' to cb hcb q0 q1 q2 qr=>⟨_,q0,_,q1,_,q2,?_⟩⟩) fun e2=>⟨m - 1,by omega,rfl,i+1,Prod.ext w1 rfl,by omega⟩⟩⟩
    exact stL b1 (by simp) rfl fun H2 b2 k2=>stL b2 (by simp) rfl fun H3 b3 k3=>stL b3 (by simp) rfl fun H4 b4 k4=>⟨_,cellL b4 0 rfl,_,cellL b4 1 rfl,_,cellL b4 2 rfl,fun H5 hs=>⟨Zk (kq ((k2.trans k3).trans k4)) hs,_,_,_,_,rfl,fun _=>⟨qr,cb,rfl,hcb⟩⟩⟩
  exact stL b1 (by simp) rfl fun H2 b2 k2=>stL b2 (by simp) rfl fun H3 b3 k3=>stL b3 (by simp) rfl fun H4 b4 k4=>⟨_,cellL b4 0 rfl,_,cellL b4 1 rfl,_,cellL b4 2 rfl,fun H5 hs=>⟨Zk (kq ((k2.trans k3).trans k4)) hs,_,_,_,_,rfl,fun h=>by cases h⟩⟩
theorem Zcjp (h:Ty B G H) (hB:B <= 1000000) (hs:G sb=some .stack) (by_:Int):FnW Tryz.prog Zyd ⟨[.pointer (some ⟨sb,0,none⟩),.int .i64 by_]⟩ H fun v H'=>∃z:Int,v= .int .i64 z∧H=H':=by
  obtain ⟨me,seed,pa,pn,pc,la,ln,lc,count,now',hb,hp,hpn,hla,hln⟩:=h.stack hs;refine Zcjq sb 0 by_ ?_;unfold Zbqb;have j0: ∀z:Bool,(z=false->0<ln)->Zub sb 0 by_ z H fun v H1=>∀H2,Shut H H1 H2->∃z:Int,v= .int .i64 z∧H=H2:=by
    intro z hz;unfold Zub;refine IfB.intro (fun e H2 hs=>⟨_,rfl,Zf hs⟩) fun e=>⟨[sb],Zcp hb.some,List.mem_singleton.2 rfl,_,_,_,cellL hb 3 rfl,_,_,_,cellL hb 3 rfl,(Zbdk by_ (hz e) (by omega)).mono ?_⟩
    rintro _ _ ⟨rfl,e2⟩;rw [e2];clear e2;exact ⟨_,rfl,Zci hb.some (Keep.refl _ _),h.at_one hla rfl (Zbdj by_ (hz e)) fun b p id' to cb hcb q0 q1 q2 qr=>⟨_,q0,fun H2 hs=>⟨_,rfl,Zf hs⟩⟩⟩
  refine ⟨_,_,_,cellL hb 3 rfl,IfB.intro (fun e=>j0 true fun h=>by cases h) fun e=>(Zbdk by_ (n:=7) (by decide) (by decide)).mono ?_⟩
  rintro _ _ ⟨rfl,e2⟩;rw [e2];clear e2;refine ⟨_,rfl,j0 _ fun _=>?_⟩;rcases Nat.eq_zero_or_pos ln with h0 | h0;subst h0;cases e;exact h0
end
end Go.Proofs.YtaljkjokbdpdoaaGreat
end
section
set_option maxRecDepth 100000
namespace Go.Proofs.YtaljkjokbdpdoaaGreat
open Go.Sh Go.Pc Go.Conn
def actL (d now n by_ fr:Int) (ba:Option Addr) (bn bc:Nat) (i0 i1 i2 i3 i4 i5 i6 i7:Int) (da:Option Addr) (dn dc:Nat) (built near:Bool):List Value:=
  [.int .i64 d,.int .i64 now,.int .i64 n,.int .i64 by_,.int .u32 fr,.slice ba bn bc,.int .i64 i0,.int .i64 i1,.int .u32 i2,.int .u32 i3,.int .i64 i4,.int .i64 i5,.int .i64 i6,.int .i64 i7,.slice da dn dc,.bool built,.bool near]
section
variable {B:Nat} {G:Gm} {H H':Heap} {sb:Nat} {d now n by_ fr i0 i1 i2 i3 i4 i5 i6 i7:Int} {ba da:Option Addr} {bn bc dn dc:Nat} {built near:Bool}
theorem Ro.take {a:Option Addr} {n:Nat} {l:List Int} (h:Ro G H a n l) (hl:AllB l) {m:Nat} (hm:m <= n):Ro G H a m (l.take m)∧AllB (l.take m):=by
  refine ⟨⟨?_,fun h0=>h.2 (by omega)⟩,fun x hx=>hl x (List.mem_of_mem_take hx)⟩
  have:=h.1.take (m:=m) hm;have e:(bv l).take m=bv (l.take m):=by simp [bv,List.map_take]
  rw [← e];exact this
theorem Zcig (h:Ty B G H) (hB:B <= 1000000) (hs:G sb=some .stack) (hfr:0 <= fr∧fr<4294967296) {lB lD:List Int} (rB:Ro G H ba bn lB) (hlB:AllB lB) (hbc:bn <= bc) (rD:Ro G H da dn lD) (hlD:AllB lD) (hdc:dn <= dc):
    FnW Tryz.prog Zpp ⟨[.pointer (some ⟨sb,0,none⟩),.agg ⟨actL d now n by_ fr ba bn bc i0 i1 i2 i3 i4 i5 i6 i7 da dn dc built near⟩]⟩ H fun v H'=>∃(z:Nat) (a:Option Addr) (m c:Nat) (l:List Int),v= .tuple ⟨[.int .u32 (z:Int),.slice a m c]⟩∧z<4294967296∧AllB l∧Ro G H' a m l∧m <= c∧m <= 100∧Keep Nil H H'∧((a=ba∧m <= bn)∨∀x,a=some x->H x.block=none):=by
  refine Zcih sb 0 _ _ _ _ _ _ _ _ _ _ _ _ _ _ _ _ _ _ _ _ _ ?_;unfold Zbog;refine newB fun q H1 hq b1 k1=>⟨_,cellL b1 15 rfl,IfB.intro (fun e=>⟨_,cellL b1 4 rfl,_,_,_,cellL b1 5 rfl,_,_,_,cellL b1 5 rfl,InC.intro (min bn 100) (by omega) (by omega) fun H2 hs2=>?_⟩) fun e=>?_⟩
  . obtain ⟨r2,hl2⟩:=rB.take hlB (m:=min bn 100) (by omega)
    refine ⟨fr.toNat,ba,min bn 100,bc,_,?_,by omega,hl2,(r2.ext (Ext.nil k1)).shut hs2,by omega,by omega,Zk k1 hs2,.inl ⟨rfl,by omega⟩⟩
    rw [show ((fr.toNat:Nat):Int)=fr by omega]
  refine ⟨[q],Zcp b1.some,_,cellL b1 6 rfl,_,cellL b1 7 rfl,_,cellL b1 8 rfl,_,cellL b1 9 rfl,_,cellL b1 10 rfl,_,cellL b1 11 rfl,_,cellL b1 12 rfl,_,cellL b1 13 rfl,_,_,_,cellL b1 14 rfl,List.mem_singleton.2 rfl,_,cellL b1 4 rfl,newB fun s H2 hsn b2 k2=>st9x b2 fun H3 b3 k3=>?_⟩;have hqs:q≠s:=fun e=>b1.some (by rw [e];exact hsn)
  have k13:Keep Nil H1 H3:=k2.then k3 fun y hy=> .inr (hy▸hsn);have q3:=k13.blk b1 fun h=>h;refine ⟨Zci b1.some k13,_,_,_,cellL b3 8 rfl,_,_,_,cellL b3 8 rfl,InC.intro (min dn 60) (by omega) (by omega) (stL b3 (by simp [sgI]) rfl fun H4 b4 k4=>?_)⟩
  have k14:Keep Nil H1 H4:=k13.then k4 fun y hy=> .inr (hy▸hsn);have k04:=k1.trans k14;have q4:=k14.blk b1 fun h=>h;have h4:=h.keep k04;have b4:Blk H4 s Zm ⟨sgI i0 i1 i2 i3 i4 i5 i6 i7 da (min dn 60) dc⟩:=b4;have hsH:H s=none:=k1.free hsn;obtain ⟨rd,hld⟩:=rD.take hlD (m:=min dn 60) (by omega)
  refine ⟨_,cellL q4 3 rfl,(Zcjp h4 hB hs _).mono ?_⟩;rintro _ _ ⟨z,rfl,rfl⟩;refine ⟨_,rfl,(Zbzl h4 hB hs _).mono ?_⟩;rintro _ H5 ⟨k5,x,y,p,zz,rfl,hz⟩;refine ⟨_,_,_,_,rfl,newB fun o H6 ho b6 k6=>stL b6 (by simp) rfl fun H7 b7 k7=>stL b7 (by simp) rfl fun H8 b8 k8=>stL b8 (by simp) rfl fun H9 b9 k9=>?_⟩
  have k49:Keep Nil H4 H9:=(k5.trans k6).then ((k7.trans k8).trans k9) fun y hy=> .inr (hy▸k5.free ho);have k09:=k04.trans k49;have h9:=h.keep k09;have s9:=k49.blk b4 fun h=>h;have q9:=k49.blk q4 fun h=>h;have hso:s≠o:=fun e=>(k5.blk b4 fun h=>h).some (by rw [e];exact ho)
  have j1: ∀(w:Nat) (j0 j1 j2 j3:Int) (Hx:Heap),w<4294967296->Keep Nil H Hx->Blk Hx s Zm ⟨sgI j0 j1 j2 j3 i4 i5 i6 i7 da (min dn 60) dc⟩->Znh sb 0 s (w:Int) Hx fun v H1=>∀H2,Shut H H1 H2->∃(z:Nat) (a:Option Addr) (m c:Nat) (l:List Int),v= .tuple ⟨[.int .u32 (z:Int),.slice a m c]⟩∧z<4294967296∧AllB l∧Ro G H2 a m l∧m <= c∧m <= 100∧Keep Nil H H2∧((a=ba∧m <= bn)∨∀x,a=some x->H x.block=none):=by
    intro w j0 j1 j2 j3 Hx hw kx bx;have hx:=h.keep kx;obtain ⟨me,seed,pa,pn,pc,la,ln,lc,count,now',hb,_⟩:=hx.stack hs;unfold Znh;refine ⟨_,cellL hb 0 rfl,_,cellL bx 0 rfl,_,cellL bx 1 rfl,_,cellL bx 2 rfl,_,cellL bx 3 rfl,_,cellL bx 4 rfl,_,cellL bx 5 rfl,_,cellL bx 6 rfl,_,cellL bx 7 rfl,_,_,_,cellL bx 8 rfl,(Zbcf (rd.ext (Ext.nil kx)).1 hld).mono ?_⟩;rintro _ Hy ⟨a,m,c,e,rfl,oy,_,hm,_,ky⟩;obtain ⟨l,hl,ro⟩:=By.ro hx oy;obtain ⟨ll,_,_,ow⟩:=oy
    exact ⟨_,_,_,_,rfl,fun H2 hs2=>⟨w,a,m,c,l,rfl,hw,hl,ro.shut hs2,ow.le,by omega,Zk (kx.trans ky) hs2,.inr fun x hx=>by
      rcases ow.2.2 with ⟨rfl,_⟩ | ⟨q',rest,rfl,hq',_⟩;cases hx
      . cases hx;exact kx.free hq'⟩⟩
  have jfr:Znh sb 0 s fr H9 fun v H1=>∀H2,Shut H H1 H2->∃(z:Nat) (a:Option Addr) (m c:Nat) (l:List Int),v= .tuple ⟨[.int .u32 (z:Int),.slice a m c]⟩∧z<4294967296∧AllB l∧Ro G H2 a m l∧m <= c∧m <= 100∧Keep Nil H H2∧((a=ba∧m <= bn)∨∀x,a=some x->H x.block=none):=by
    have:=j1 fr.toNat i0 i1 i2 i3 H9 (by omega) k09 s9
    rwa [show ((fr.toNat:Nat):Int)=fr by omega] at this
  refine IfB.intro (fun e1=>⟨_,cellL q9 16 rfl,?_⟩) fun e1=>by unfold Ztc;exact ifF rfl jfr
  unfold Ztc;obtain ⟨hy,cb,rfl,hcb⟩:=hz e1;refine IfB.intro (fun e2=>⟨[s],Zcp s9.some,List.mem_singleton.2 rfl,_,cellL s9 2 rfl,_,cellL b9 2 rfl,(Zro h9 hcb).mono ?_⟩) fun e2=>jfr;rintro _ _ ⟨w,rfl,rfl⟩;refine ⟨_,rfl,Zci s9.some (Keep.refl _ _),stL s9 (by simp [sgI]) rfl fun Ha ba' ka=>?_⟩
  have k0a:Keep Nil H Ha:=k09.then ka fun y hy=> .inr (hy▸hsH);have oa:=ka.blk b9 fun e=>hso e.symm;have ha:=h.keep k0a;obtain ⟨st,f,t,first,ob,jp,c1,c2,c3,c4,now',due,bc',ho',_⟩:=ha.conn hcb
  obtain ⟨una,room,win,big,now'',es,ev,any,timed,till,at_,bo⟩:=ha.outb ho';refine ⟨_,cellL ba' 3 rfl,_,cellL oa 2 rfl,NilP.intro _ rfl ⟨_,cellL bc' 4 rfl,NilP.intro _ rfl ⟨_,cellL bo 0 rfl,stL ba' (by simp [sgI]) rfl fun Hb bb kb=>?_⟩⟩⟩
  have k0b:Keep Nil H Hb:=k0a.then kb fun y hy=> .inr (hy▸hsH);have ob':=kb.blk oa fun e=>hso e.symm;have hb':=h.keep k0b;obtain ⟨st,f,t,first,ob,jp,c1,c2,c3,c4,now',due,bcb,_⟩:=hb'.conn hcb
  have hsc:s≠cb:=fun e=>by rw [e] at hsH;exact h.live (by rw [hcb];simp) hsH
  have hm: ∀b∈[o,cb],Hb b≠none∧¬b=s:=Zeu ⟨ob'.some,fun e=>hso e.symm⟩ ⟨bcb.some,fun e=>hsc e.symm⟩;refine ⟨[o,cb],Zkb fun b hb=>(hm b hb).1,_,cellL ob' 2 rfl,NilP.intro _ rfl ⟨_,cellL bcb 2 rfl,List.mem_cons_self,_,cellL ob' 2 rfl,NilP.intro _ rfl ⟨List.mem_cons_of_mem _ (List.mem_singleton.2 rfl),_,cellL bcb 1 rfl,List.mem_cons_self,_,cellL ob' 1 rfl,stL bb (by simp [sgI]) rfl fun Hc bcc kc=>⟨Zgh hm kc,stL bcc (by simp [sgI]) rfl fun Hd bd kd=>⟨Zgh hm (kc.trans kd),?_⟩⟩⟩⟩⟩
  have k0d:Keep Nil H Hd:=(k0b.then kc fun y hy=> .inr (hy▸hsH)).then kd fun y hy=> .inr (hy▸hsH);have:=j1 y.toNat _ _ _ _ Hd (by omega) k0d bd
  rwa [show ((y.toNat:Nat):Int)=y by omega] at this
end
end Go.Proofs.YtaljkjokbdpdoaaGreat
end
