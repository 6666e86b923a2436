import Derived.Test.YtpbpaijjpglmlaaGreatGD
set_option linter.unusedVariables false
set_option linter.unusedSimpArgs false
namespace Go.GH
open Go
structure C5g(w w':World)(b o s:Nat)(xs:List (List AV)):Prop where
 os:w'.os=w.os
 tape:w'.tape=w.tape
 output:w'.output=w.output
 size:w.heap.size≤w'.heap.size
 other:∀k,k<w.heap.size→k≠b→w'.heap[k]? =w.heap[k]?
 row:∀c e fz,w.heap[b]? =some (.cells c e fz)→∃c',w'.heap[b]? =some (.cells c' e fz)∧c'.size=c.size∧∀i f d,As xs i f=some d→c'[o+(i*s+f)]? =some (Qd d)
def O0(s:Nat)(xs:List (List AV)):Prop:=∀r,r∈xs→r.length=s∧∀c,c∈r→c.plain=true
theorem K0{s:Nat}{xs:List (List AV)}(h:O0 s xs){i f:Nat}{d:AV}(hd:As xs i f=some d):d.plain=true:=by
 unfold As at hd;cases hr:xs[i]? with
 |none=>rw[hr]at hd;simp at hd
 |some r=>
  rw[hr]at hd;exact(h r (List.mem_of_getElem? hr)).2 d (List.mem_of_getElem? (by simpa using hd))
theorem B9k{x:Ctx}{w:World}{ρ:Am}{v:AV}{u:Value}(h:Rep x w ρ v u)(hp:v.plain=true):u=Qd v:=by
 cases h<;>first|rfl|cases hp
theorem Qs{s:Nat}:∀{xs:List (List AV)},O0 s xs→Ab xs:=by
 intro xs hh;induction xs with
 |nil=>trivial
 |cons r xs ih=>
  refine⟨?_,ih fun q hq=>hh q (by simp[hq])⟩;have hr:=(hh r (by simp)).2;clear ih hh;induction r with
  |nil=>trivial
  |cons d r ih=>
   refine⟨?_,ih fun q hq=>hr q (by simp[hq])⟩;have:=hr d (by simp);cases d<;>first|trivial|cases this
theorem B8s{s i f:Nat}{xs:List (List AV)}{p:Br}:AV.get ((i,f)::p) (.own s xs)=match As xs i f with
 |some c=>c.get p
 |none=>none:=by
 unfold As;simp only[AV.get];cases xs[i]? with
 |none=>rfl
 |some r=>rfl
theorem C1i{P:Program}{f s:Nat}{c:Bd}{ts:List (Option Nat)}(rows rows':c.α→List (List AV))(snd:c.α→AV)
 (hms:c.ms=[.mv,.rd ts])(hres:∀x,c.res x=.tup [])(henc:∀x,c.enc x=[.own s (rows x),snd x])(hout:∀x,c.out x=[.own s (rows' x)])
 (hpl:∀x,O0 s (rows x))(hpl':∀x,O0 s (rows' x))(hlen:∀x,(rows' x).length=(rows x).length)
 (hcall:∀(args:Array Value) (w:World),(callFunc f args).run P w=.ok (.enter f args) w)(hfe:∀x,(snd x).free)
 (h0:∀x,c.pre x→rows x=[]→∀(y:Ctx) (w:World) (a:Option Addr) (cap:Nat) (v:Value) (ρ:Option Nat→Am),Az y w [] (fun g=>g<0) ρ (snd x) v→Calls P f #[.slice a 0 cap,v] w fun e w'=>e=.returned (.tuple #[])∧RowKit.Below w.heap.size w w')
 (hsnd:∀x (y:Ctx) (w:World) (h:Ah) (n:Nat→Prop) (ρ:Option Nat→Am) v,Az y w h n ρ (snd x) v→Az y w [] (fun g=>g<0) ρ (snd x) v)
 (h:∀x,c.pre x→rows x≠[]→∀(y:Ctx) (w:World) (b o cap:Nat) (v:Value) (ρ:Option Nat→Am),b<w.heap.size→Az y w [] (fun g=>g<0) ρ (snd x) v→
   (∃c e fz,w.heap[b]? =some (.cells c e fz)∧B9a fz c.size∧∀i f d,As (rows x) i f=some d→c[o+(i*s+f)]? =some (Qd d))→
   Calls P f #[.slice (some ⟨b,o,none⟩) (rows x).length cap,v] w fun e w'=>e=.returned (.tuple #[])∧C5g w w' b o s (rows' x))(hpt:c.ptr=false:=by rfl):Au P f c:=by
 intro x hx;refine⟨?_,?_,fun _=>?_,?_⟩
 ·rw[henc];exact⟨Ks (Qs (hpl x)),hfe x,trivial⟩
 ·rw[hout];exact⟨Ks (Qs (hpl' x)),trivial⟩
 ·rw[hout];exact⟨Qs (hpl' x),trivial⟩
 rw[hms,henc,hout];refine⟨⟨⟨s,rows x,rows' x,rfl,rfl,hlen x⟩,trivial⟩,?_⟩;intro y w args ρ hw0 hk hR hwr hG hsz H hs idr hidr K hK;rw[hpt]at hK;rw[hres]at hK;refine⟨.tup [],[],(Bj (show leN idr (idr+16) (K (.tup []) []) by simpa[Mf,Ib,Bw]using hK)).2,.tup (by simp),by intro g r hg;simp[A4]at hg,fun _=>by simp[AV.noRd,A7],by simp[AV.free,A2],.inl ⟨hcall _ _,?_⟩⟩;have hsz:args.size=2:=hsz;have s0:=(hs 0 ⟨none,.view 0 [] 0 (rows x).length⟩ rfl).1 trivial;have s1:=hsnd x _ _ _ _ _ _ ((hs 1 ⟨none,snd x⟩ rfl).1 trivial);have hargs:args=#[args.getD 0 undef,args.getD 1 undef]:=by
  apply Array.ext
  ·simpa using hsz
  ·intro i h1 h2
   have:i=0∨i=1:=by simp at h2;omega
   rcases this with rfl|rfl<;>simp[h1]
 rw[hargs];generalize args.getD 0 undef=a0 at s0;generalize args.getD 1 undef=a1 at s1;have hlook:A4 [((0:Nat),AV.own s (rows x))] 0=some (.own s (rows x)):=rfl;have only:∀k p q,ρ k p=some q→k=some 0∧p=[]:=by
  intro k p q hq;obtain⟨s',xs',hg⟩:=H.live k p q hq;cases k with
  |none=>
   cases p with
   |nil=>rw[H.nobase]at hq;cases hq
   |cons a p=>obtain⟨i,f⟩:=a;cases i<;>cases f<;>simp[Tc,AV.get,As]at hg
  |some g=>
   simp only[Tc,hget]at hg;by_cases hg0:g=0
   ·subst hg0
    refine⟨rfl,?_⟩;cases p with
    |nil=>rfl
    |cons a p=>
     obtain⟨i,f⟩:=a;rw[hlook]at hg;simp only[B8s]at hg;cases hc:As (rows x) i f with
     |none=>simp[hc]at hg
     |some d=>
      have:=K0 (hpl x) hc;simp only[hc]at hg;cases d<;>first|(cases p<;>simp[AV.get]at hg;done)|(cases this;done)
   ·rw[Ac,if_neg (Ne.symm hg0)]at hg
    simp[A4]at hg
 have fin:∀(w':World),w'.os=w.os→w'.tape=w.tape→w'.output=w.output→w.heap.size≤w'.heap.size→(∀k,k<w.heap.size→(∀o,ρ (some 0) []≠some (k,o))→w'.heap[k]? =w.heap[k]?)→
  (∀b o c,ρ (some 0) []=some (b,o)→Blk w b c→∃c',Blk w' b c'∧c'.size=c.size)→
  (∃v,Rep y w' (ρ (some 0)) (.own s (rows' x)) v)→
  ∃R' wr' ρf,(∀b,y.R b→R' b)∧Bp {y with R:=R',wr:=wr'} w' (Bf [0] [.own s (rows' x)]++[]) (fun g=>g<1∨Du idr g) [] (fun _=>undef) ρf∧
   Az {y with R:=R',wr:=wr'} w' (Bf [0] [.own s (rows' x)]++[]) (fun g=>g<1∨Du idr g) ρf (.tup []) (.tuple #[]):=by
  intro w' e1 e2 e3 e4 e5 e6 ⟨v,e7⟩;have hy:({y with R:=y.R,wr:=y.wr}:Ctx)=y:=rfl;refine⟨y.R,y.wr,ρ,fun _ hh=>hh,?_,.tup (by simp) (by simp)⟩;rw[hy];have nb:∀{b},y.R b→∀o,ρ (some 0) []≠some (b,o):=fun{b} hb o ho=>(H.mine _ _ _ _ ho).1.2 hb;exact{
   os:=e1.trans H.os
   tape:=e2.trans H.tape
   output:=e3.trans H.output
   size:=Nat.le_trans H.size e4
   frame:=fun b hb hm=>by
    rw[e5 b (Nat.lt_of_lt_of_le hb H.size) (fun o ho=>by
     have hb2:b<y.w0.heap.size:=hb;rcases(H.mine _ _ _ _ ho).1.1 with h1|h1
     ·omega
     ·exact hm h1)]
    exact H.frame b hb hm
   root:=fun g r hg=>by
    simp only[Bf,List.append_nil]at hg;by_cases hg0:g=0
    ·subst hg0
     rw[Ac,if_pos rfl]at hg;obtain rfl:=Option.some.inj hg;exact⟨_,_,v,rfl,e7⟩
    ·rw[Ac,if_neg (Ne.symm hg0)]at hg;simp[A4]at hg
   loose:=fun j d hd=>by simp at hd
   live:=fun k p q hq=>by
    obtain⟨rfl,rfl⟩:=only k p q hq;exact⟨s,rows' x,rfl⟩
   nobase:=H.nobase
   inj:=H.inj
   mine:=fun k p b o hq=>by
    obtain⟨rfl,rfl⟩:=only k p _ hq;obtain⟨h1,c1,h2⟩:=H.mine _ _ _ _ hq;obtain⟨c',h3,_⟩:=e6 b o c1 hq h2;exact⟨h1,c',h3⟩
   ids:=fun g r hg=>by
    simp only[Bf,List.append_nil]at hg;by_cases hg0:g=0
    ·subst hg0;exact .inl (by omega)
    ·rw[Ac,if_neg (Ne.symm hg0)]at hg;simp[A4]at hg
   keeps:=fun b c1 hb=>by
    obtain⟨c2,h1,h2⟩:=H.keeps b c1 hb;by_cases hb0:∃o,ρ (some 0) []=some (b,o)
    ·obtain⟨o,ho⟩:=hb0
     obtain⟨c3,h3,h4⟩:=e6 b o c2 ho h1;exact⟨c3,h3,h4.trans h2⟩
    ·refine⟨c2,h1.congr (e5 b ?_ fun o ho=>hb0 ⟨o,ho⟩),h2⟩
     obtain⟨e,fz,h3,_⟩:=h1;exact(Array.getElem?_eq_some_iff.1 h3).1
   base:=fun g r hg hr=>by
    simp only[Bf,List.append_nil]at hr;by_cases hg0:g=0
    ·subst hg0;exact H.base 0 _ hg hlook
    ·rw[Ac,if_neg (Ne.symm hg0)]at hr;simp[A4]at hr
   kn:=fun g hg=>.inl (by rw[hk]at hg;exact hg)
   fixed:=fun b hb=>(e5 b (H.rlt b hb) (nb hb)).trans (H.fixed b hb)
   rsub:=H.rsub
   rlt:=fun b hb=>Nat.lt_of_lt_of_le (H.rlt b hb) e4}
 obtain⟨s',xs',v0,e0,hroot⟩:=H.root 0 _ hlook;simp only[AV.own.injEq]at e0;obtain⟨rfl,rfl⟩:=e0;by_cases hne:rows x=[]
 ·have hne':rows' x=[]:=List.eq_nil_of_length_eq_zero (by rw[hlen,hne];rfl)
  have ha0:∃a cap,a0=.slice a 0 cap:=by
   rw[hne]at s0;cases s0 with
   |cell hr=>cases hr
   |gone hl _=>simp[A4]at hl
   |view0 _ _=>exact⟨_,_,rfl⟩
   |view hg hl hcap hρ hb hroom=>exact⟨_,_,rfl⟩
  obtain⟨a,cap,rfl⟩:=ha0;refine(h0 x hx hne y w a cap a1 ρ s1).mono ?_;rintro e w' ⟨rfl,hb⟩;refine⟨_,rfl,fin w' hb.os hb.tape hb.output hb.size (fun k hk _=>hb.block k hk) (fun b o c ho hbk=>?_) ?_⟩
  ·have hbk2:=hbk
   obtain⟨e,fz,h3,_⟩:=hbk2;exact⟨c,hbk.congr (hb.block b (Array.getElem?_eq_some_iff.1 h3).1),rfl⟩
  ·rw[hne'];exact⟨.slice none 0 0,.own0⟩
 ·obtain⟨cap,b,o,cc,rfl,hρ,hb,hroom,hcap⟩:∃cap b o c,a0=.slice (some ⟨b,o,none⟩) (rows x).length cap∧ρ (some 0) []=some (b,o)∧Blk w b c∧o+cap*s≤c.size∧(rows x).length≤cap:=by
   generalize hl0:(rows x).length=ln at s0;cases s0 with
   |cell hr=>cases hr
   |gone hl _=>simp[A4]at hl
   |view0 _ _=>exact absurd (List.eq_nil_of_length_eq_zero hl0) hne
   |view hg hl hcap hρ hb hroom=>
    rw[Cn hlook]at hg;simp only[AV.get,Option.some.injEq,AV.own.injEq]at hg;obtain⟨rfl,rfl⟩:=hg;exact⟨_,_,_,_,by simp,hρ,hb,by simpa using hroom,hcap⟩
  have hroot2:∀i f d,As (rows x) i f=some d→cc[o+(i*s+f)]? =some (Qd d):=by
   generalize hrx:rows x=xs at hroot hne⊢;cases hroot with
   |own0=>exact absurd rfl hne
   |own u hρ2 hcap2 hrow2 hb2 hroom2 hc2 hr2=>
    rw[hρ]at hρ2;simp only[Option.some.injEq,Prod.mk.injEq]at hρ2;obtain⟨rfl,rfl⟩:=hρ2;obtain rfl:=hb.uniq hb2;intro i f d hd;rw[hc2 i f d hd,B9k (hr2 i f d hd) (K0 (hrx▸hpl x) hd)]
  have hbl:b<w.heap.size:=by
   obtain⟨e,fz,h3,_⟩:=hb;exact(Array.getElem?_eq_some_iff.1 h3).1
  obtain⟨e0,fz0,hb1,hb2⟩:=hb;refine(h x hx hne y w b o cap a1 ρ hbl s1 ⟨cc,e0,fz0,hb1,hb2,hroot2⟩).mono ?_;rintro e w' ⟨rfl,hp⟩;obtain⟨c',hc1,hc2,hc3⟩:=hp.row cc e0 fz0 hb1;have hblk':Blk w' b c':=⟨e0,fz0,hc1,by rw[hc2];exact hb2⟩
  refine⟨_,rfl,fin w' hp.os hp.tape hp.output hp.size (fun k hk hne=>hp.other k hk fun e=>hne o (e▸hρ)) (fun b' o' c1 ho hbk=>?_) ⟨.slice (some ⟨b,o,none⟩) (rows' x).length cap,?_⟩⟩
  ·rw[hρ]at ho
   simp only[Option.some.injEq,Prod.mk.injEq]at ho;obtain⟨rfl,rfl⟩:=ho;obtain rfl:=hbk.uniq ⟨e0,fz0,hb1,hb2⟩;exact⟨c',hblk',hc2⟩
  ·exact .own (fun i f=>match As (rows' x) i f with
    |some d=>Qd d
    |none=>undef) hρ (by rw[hlen];exact hcap) (fun r hr=>(hpl' x r hr).1) hblk' (by rw[hc2];exact hroom)
    (fun i f d hd=>by rw[hc3 i f d hd];simp[hd]) (fun i f d hd=>by simp only[hd];exact A6w (K0 (hpl' x) hd))
def C84(P:Program)(f:Nat)(c:Bd)(x:c.α):Prop:=
 A2 (c.enc x)∧A2 (c.out x)∧(c.sh=false→A7 (c.out x))∧Bn 0 0 c.ms (c.enc x) fun S hy k mu=>Ss hy mu (c.out x)∧
  ∀(y:Ctx) (w:World) (args:Array Value) (ρ:Option Nat→Am),y.w0=w→y.k=k→y.R0=y.R→y.wr=w→GOk c.gw y.w0 y.M→args.size=c.ms.length→
   Bp y w hy (fun g=>g<k) [] (fun _=>undef) ρ→Aw y w hy (fun g=>g<k) ρ S args→
   ∀idr,k≤idr→∀K:AV→Ah→Prop,Mf c.ptr idr (c.res x) K→∃v os,K v os∧E4 (fun g _=>Du idr g) v∧
    (∀g r,A4 os g=some r→Du idr g∧(c.sh=false→r.noRd)∧r.free)∧(c.sh=false→v.noRd)∧v.free∧
    Rj P f args w fun u w'=>∃R' wr' ρf,(∀b,y.R b→R' b)∧Bp {y with R:=R',wr:=wr'} w' (Bf mu (c.out x)++os) (fun g=>g<k∨Du idr g) [] (fun _=>undef) ρf∧
     Az {y with R:=R',wr:=wr'} w' (Bf mu (c.out x)++os) (fun g=>g<k∨Du idr g) ρf v u
theorem C37{P:Program}{f s:Nat}{c:Bd}{x:c.α}{ts:List (Option Nat)}(hms:c.ms=[.rd ts])(henc:c.enc x=[.rd s []])(hres:c.res x=.own s [])(hout:c.out x=[])(hsh:c.sh=false)
 (hcall:∀(args:Array Value) (w:World),(callFunc f args).run P w=.ok (.enter f args) w)
 (h:∀(a:Option Addr) (cap:Nat) (w:World),Calls P f #[.slice a 0 cap] w fun e w'=>∃a',e=.returned (.slice a' 0 0)∧RowKit.Below w.heap.size w w')(hpt:c.ptr=false:=by rfl):C84 P f c x:=by
 unfold C84;rw[hms,henc,hout];refine⟨⟨trivial,trivial⟩,trivial,fun _=>trivial,trivial,?_⟩;intro y w args ρ hw0 hk hR hwr hG hsz H hs idr hidr K hK;rw[hpt]at hK;rw[hres]at hK;refine⟨.view idr [] 0 0,[(idr,.own s [])],hK,.view ⟨Nat.le_refl _,by omega⟩,fun g r hg=>?_,fun _=>trivial,trivial,.inl ⟨hcall _ _,?_⟩⟩
 ·by_cases e:g=idr
  ·subst e
   rw[Ac,if_pos rfl]at hg;obtain rfl:=Option.some.inj hg;exact⟨⟨Nat.le_refl _,by omega⟩,fun _=>trivial,trivial⟩
  ·rw[Ac,if_neg (Ne.symm e)]at hg;simp[A4]at hg
 have s0:=(hs 0 ⟨none,.rd s []⟩ rfl).1 trivial;have hargs:args=#[args.getD 0 undef]:=by
  apply Array.ext
  ·simpa using hsz
  ·intro i h1 h2
   have:i=0:=by simp at h2;omega
   subst this;simp[h1]
 rw[hargs];generalize args.getD 0 undef=a0 at s0;obtain⟨a,cap,rfl⟩:∃a cap,a0=.slice a 0 cap:=by
  cases s0 with
  |cell hr=>cases hr with
   |rd u hcap hrow hc hr=>exact⟨_,_,rfl⟩
 refine(h a cap w).mono ?_;rintro e w' ⟨a',rfl,hb⟩;have hl:A4 ([]++[(idr,AV.own s [])]) idr=some (.own s []):=by rw[List.nil_append,Ac,if_pos rfl]
 refine⟨_,rfl,y.R,y.wr,fun _=>Ax,fun _ h=>h,?_,.view0 (by rw[show Bf ([]:List Nat) ([]:List AV)=[]from rfl,Cn hl];rfl) (by simp)⟩;exact{
  os:=hb.os.trans H.os
  tape:=hb.tape.trans H.tape
  output:=hb.output.trans H.output
  size:=Nat.le_trans H.size hb.size
  frame:=fun b hb1 hm=>(hb.block b (Nat.lt_of_lt_of_le hb1 H.size)).trans (H.frame b hb1 hm)
  root:=fun g r hg=>by
   by_cases e:g=idr
   ·subst e
    rw[show Bf ([]:List Nat) ([]:List AV)=[]from rfl,hl]at hg;obtain rfl:=Option.some.inj hg;exact⟨_,_,.slice none 0 0,rfl,.own0⟩
   ·rw[show Bf ([]:List Nat) ([]:List AV)=[]from rfl,List.nil_append,Ac,if_neg (Ne.symm e)]at hg;simp[A4]at hg
  loose:=fun j c h=>by simp at h
  live:=fun k p q h=>by simp[Ax]at h
  nobase:=rfl
  inj:=fun k p k' p' b o o' h=>by simp[Ax]at h
  mine:=fun k p b o h=>by simp[Ax]at h
  ids:=fun g r hg=>by
   by_cases e:g=idr
   ·subst e;exact .inr ⟨Nat.le_refl _,by omega⟩
   ·rw[show Bf ([]:List Nat) ([]:List AV)=[]from rfl,List.nil_append,Ac,if_neg (Ne.symm e)]at hg;simp[A4]at hg
  keeps:=fun b c hbk=>by
   obtain⟨c',h1,h2⟩:=H.keeps b c hbk;refine⟨c',h1.congr (hb.block b ?_),h2⟩;have h1':=h1;obtain⟨e,fz,h3,_⟩:=h1';exact(Array.getElem?_eq_some_iff.1 h3).1
  base:=fun g r hg h=>by
   by_cases e:g=idr
   ·subst e
    have:g<y.k:=hg;omega
   ·rw[show Bf ([]:List Nat) ([]:List AV)=[]from rfl,List.nil_append,Ac,if_neg (Ne.symm e)]at h;simp[A4]at h
  kn:=fun g hg=>.inl (by have hg2:g<y.k:=hg;omega)
  fixed:=fun b hb1=>(hb.block b (H.rlt b hb1)).trans (H.fixed b hb1)
  rsub:=H.rsub
  rlt:=fun b hb1=>Nat.lt_of_lt_of_le (H.rlt b hb1) hb.size}
def Ni:AV→AV
 |.own s xs=>.rd s (D1 xs)
 |c=>c
def Ml:AV→AV
 |.agg cs=>.agg (cs.map Ni)
 |v=>Ni v
def frz:AV→AV
 |.tup vs=>.tup (vs.map Ml)
 |v=>Ml v
def AV.okC:AV→Bool
 |.own _ _|.int _ _|.bool _|.str _|.rd _ _|.undef|.nilI|.someI=>true
 |_=>false
def AV.okV:AV→Bool
 |.agg cs=>cs.all AV.okC
 |v=>v.okC
def AV.okT:AV→Bool
 |.tup vs=>vs.all AV.okV
 |v=>v.okV
def B41:AV→Nat
 |.agg cs=>Jw cs
 |.own _ _=>1
 |_=>0
def B3p:List AV→Nat
 |[]=>0
 |v::r=>B41 v+B3p r
def B3n:AV→Nat
 |.tup vs=>B3p vs
 |v=>B41 v
inductive Uv(R:AV→AV→Prop):List AV→List AV→Prop
 |nil:Uv R [] []
 |cons {a b:AV} {l m:List AV} (h:R a b) (t:Uv R l m):Uv R (a::l) (b::m)
theorem Uv.imp{R R':AV→AV→Prop}{l m:List AV}(h:Uv R l m)(hi:∀a b,R a b→R' a b):Uv R' l m:=by
 induction h with
 |nil=>exact .nil
 |cons h _ ih=>exact .cons (hi _ _ h) ih
def RC(os:Ah)(c c':AV):Prop:=(∃s xs g,c=.own s xs∧c'=.view g [] 0 xs.length∧A4 os g=some (.own s xs))∨(c'=c∧∀s xs,c≠.own s xs)
def RV(os:Ah)(v v':AV):Prop:=(∃cs cs',v=.agg cs∧v'=.agg cs'∧Uv (RC os) cs cs')∨((∀cs,v≠.agg cs)∧RC os v v')
def In(a b:Nat)(os:Ah):Prop:=∀g r,A4 os g=some r→a≤g∧g<b
theorem RC.left{os os':Ah}{c c':AV}(h:RC os c c'):RC (os++os') c c':=by
 rcases h with⟨s,xs,g,e1,e2,hl⟩|h
 ·exact .inl ⟨s,xs,g,e1,e2,by rw[Be,hl]⟩
 ·exact .inr h
theorem RC.right{os os':Ah}{c c':AV}{a b b':Nat}(h:RC os' c c')(i1:In a b os)(i2:In b b' os'):RC (os++os') c c':=by
 rcases h with⟨s,xs,g,e1,e2,hl⟩|h
 ·refine .inl ⟨s,xs,g,e1,e2,?_⟩
  rw[Be];cases hq:A4 os g with
  |none=>exact hl
  |some r=>have:=i1 g r hq;have:=i2 g _ hl;omega
 ·exact .inr h
theorem RV.left{os os':Ah}{c c':AV}(h:RV os c c'):RV (os++os') c c':=by
 rcases h with⟨cs,cs',e1,e2,hl⟩|⟨h1,h2⟩
 ·exact .inl ⟨cs,cs',e1,e2,hl.imp fun _ _ h=>h.left⟩
 ·exact .inr ⟨h1,h2.left⟩
theorem RV.right{os os':Ah}{c c':AV}{a b b':Nat}(h:RV os' c c')(i1:In a b os)(i2:In b b' os'):RV (os++os') c c':=by
 rcases h with⟨cs,cs',e1,e2,hl⟩|⟨h1,h2⟩
 ·exact .inl ⟨cs,cs',e1,e2,hl.imp fun _ _ h=>h.right i1 i2⟩
 ·exact .inr ⟨h1,h2.right i1 i2⟩
theorem In.app{os os':Ah}{a b b':Nat}(i1:In a b os)(i2:In b b' os')(h1:a≤b)(h2:b≤b'):In a b' (os++os'):=fun g r hg=>by
 rw[Be]at hg;cases hq:A4 os g with
 |none=>rw[hq]at hg;have:=i2 g r hg;omega
 |some q=>have:=i1 g q hq;omega
theorem Om:∀(cs:List AV) (id:Nat),B8 id cs fun cs' os n=>n=id+Jw cs∧In id n os∧Uv (RC os) cs cs'
 |[],id=>⟨rfl,(fun g r h=>by cases h),.nil⟩
 |c::cs,id=>by
  by_cases hc:∃s xs,c=.own s xs
  ·obtain⟨s,xs,rfl⟩:=hc
   obtain⟨cs',os,m,⟨h1,h2,h3⟩,_,t⟩:=Ck (Om cs (id+1));simp only[B8];refine t (fun cs os n=>_) ⟨?_,?_,?_⟩
   ·simp only[Jw];omega
   ·intro g r hg
    rw[Ac]at hg;by_cases e:id=g
    ·omega
    ·rw[if_neg e]at hg
     have:=h2 g r hg;omega
   ·refine .cons (.inl ⟨s,xs,id,rfl,rfl,by rw[Ac,if_pos rfl]⟩) (h3.imp fun _ _ h=>?_)
    refine RC.right (os:=[(id,.own s xs)]) (a:=id) (b:=id+1) h (fun g r hg=>?_) h2;rw[Ac]at hg;by_cases e:id=g
    ·omega
    ·rw[if_neg e]at hg;cases hg
  ·obtain⟨cs',os,m,⟨h1,h2,h3⟩,_,t⟩:=Ck (Om cs id)
   have e1:∀K,B8 id (c::cs) K=B8 id cs fun cs os n=>K (c::cs) os n:=by
    intro K;cases c<;>first|rfl|exact absurd ⟨_,_,rfl⟩ hc
   have e2:Jw (c::cs)=Jw cs:=by cases c<;>first|rfl|exact absurd ⟨_,_,rfl⟩ hc
   rw[e1];exact t (fun cs os n=>_) ⟨by rw[e2];exact h1,h2,.cons (.inr ⟨rfl,fun s xs e=>hc ⟨s,xs,e⟩⟩) h3⟩
theorem Pp:∀(vs:List AV) (id:Nat),Bw id vs fun vs' os n=>n=id+B3p vs∧In id n os∧Uv (RV os) vs vs'
 |[],id=>⟨rfl,(fun g r h=>by cases h),.nil⟩
 |v::vs,id=>by
  by_cases ha:∃cs,v=.agg cs
  ·obtain⟨cs,rfl⟩:=ha
   simp only[Bw];obtain⟨cs',os,m,⟨h1,h2,h3⟩,_,t⟩:=Ck (Om cs id);obtain⟨vs',os',m',⟨g1,g2,g3⟩,_,t'⟩:=D4 (Pp vs m);refine t (fun cs os n=>_) ?_;refine t' (fun cs os n=>_) ?_;refine⟨?_,h2.app g2 (by omega) (by omega),.cons (.inl ⟨_,_,rfl,rfl,h3.imp fun _ _ h=>h.left⟩) (g3.imp fun _ _ h=>h.right h2 g2)⟩;simp only[B3p,B41];omega
  ·by_cases ho:∃s xs,v=.own s xs
   ·obtain⟨s,xs,rfl⟩:=ho
    simp only[Bw];obtain⟨vs',os',m',⟨g1,g2,g3⟩,_,t'⟩:=D4 (Pp vs (id+1));have i1:In id (id+1) [(id,AV.own s xs)]:=by
     intro g r hg;rw[Ac]at hg;by_cases e:id=g
     ·omega
     ·rw[if_neg e]at hg;cases hg
    refine t' (fun cs os n=>_) ?_;refine⟨?_,i1.app g2 (by omega) (by omega),.cons (.inr ⟨fun cs e=>AV.noConfusion e,.inl ⟨s,xs,id,rfl,rfl,?_⟩⟩) (g3.imp fun _ _ h=>h.right i1 g2)⟩
    ·simp only[B3p,B41];omega
    ·rw[Be,Ac,if_pos rfl]
   ·have e:∀K,Bw id (v::vs) K=Bw id vs fun vs' os' n'=>K (v::vs') ([]++os') n':=by
     intro K;cases v<;>first|rfl|exact absurd ⟨_,_,rfl⟩ ho|exact absurd ⟨_,rfl⟩ ha
    have e2:B41 v=0:=by cases v<;>first|rfl|exact absurd ⟨_,_,rfl⟩ ho|exact absurd ⟨_,rfl⟩ ha
    obtain⟨vs',os',m',⟨g1,g2,g3⟩,_,t'⟩:=D4 (Pp vs id);rw[e];refine t' (fun cs os n=>_) ?_;refine⟨by simp only[B3p,e2];omega,g2,.cons (.inr ⟨fun cs e=>ha ⟨cs,e⟩,.inr ⟨rfl,fun s xs e=>ho ⟨s,xs,e⟩⟩⟩) g3⟩
def RT(os:Ah)(v v':AV):Prop:=(∃vs vs',v=.tup vs∧v'=.tup vs'∧Uv (RV os) vs vs')∨((∀vs,v≠.tup vs)∧RV os v v')
theorem A71{id:Nat}{v:AV}(h:B3n v≤16):Ib id v fun v' os=>RT os v v':=by
 by_cases ht:∃vs,v=.tup vs
 ·obtain⟨vs,rfl⟩:=ht
  obtain⟨vs',os',m',⟨g1,g2,g3⟩,_,t'⟩:=D4 (Pp vs id);refine t' (fun vs' os n=>leN n (id+16) (RT os (.tup vs) (.tup vs'))) ?_;exact F8 (by simp only[B3n]at h;omega) (.inl ⟨_,_,rfl,rfl,g3⟩)
 ·by_cases ha:∃cs,v=.agg cs
  ·obtain⟨cs,rfl⟩:=ha
   obtain⟨cs',os,m,⟨h1,h2,h3⟩,_,t⟩:=Ck (Om cs id);refine t (fun vs' os n=>leN n (id+16) (RT os (.agg cs) (.agg vs'))) ?_;exact F8 (by simp only[B3n,B41]at h;omega) (.inr ⟨fun vs e=>AV.noConfusion e,.inl ⟨_,_,rfl,rfl,h3⟩⟩)
  ·by_cases ho:∃s xs,v=.own s xs
   ·obtain⟨s,xs,rfl⟩:=ho
    exact Or.inr ⟨fun vs e=>AV.noConfusion e,Or.inr ⟨fun vs e=>AV.noConfusion e,Or.inl ⟨s,xs,id,rfl,rfl,by rw[Ac,if_pos rfl]⟩⟩⟩
   ·have e:∀K,Ib id v K=K v []:=by
     intro K;cases v<;>first|rfl|exact absurd ⟨_,_,rfl⟩ ho|exact absurd ⟨_,rfl⟩ ha|exact absurd ⟨_,rfl⟩ ht
    rw[e];exact Or.inr ⟨fun vs e=>ht ⟨vs,e⟩,Or.inr ⟨fun cs e=>ha ⟨cs,e⟩,.inr ⟨rfl,fun s xs e=>ho ⟨s,xs,e⟩⟩⟩⟩
mutual
theorem B2s:∀(v:AV),v.free→v.toRd.free
 |.own s xs,h=>by simp only[AV.toRd,AV.free]at h⊢;exact Sa xs h
 |.rd s xs,h=>by simp only[AV.toRd,AV.free]at h⊢;exact Sa xs h
 |.agg cs,h=>by simp only[AV.toRd,AV.free]at h⊢;exact Q9 cs h
 |.arg _ _ _,h=>by simp[AV.free]at h
 |.int _ _,h|.bool _,h|.str _,h|.nils,h|.emp,h|.view _ _ _ _,h|.ptr _ _ _ _,h|.bx _ _,h|.tup _,h|.fn _ _,h|.pin _,h|.nilI,h|.someI,h|.nilp,h|.undef,h=>by simpa only[AV.toRd]using h
theorem Q9:∀(cs:List AV),A2 cs→A2 (Is cs)
 |[],_=>trivial
 |c::r,h=>⟨B2s c h.1,Q9 r h.2⟩
theorem Sa:∀(xs:List (List AV)),A3 xs→A3 (D1 xs)
 |[],_=>trivial
 |c::r,h=>⟨Q9 c h.1,Sa r h.2⟩
end
theorem B3v{y z:Ctx}{w:World}{os h0 hq2:Ah}{n n':Nat→Prop}{L:List AV}{U:Nat→Value}{ρ ρ':Option Nat→Am}{c c':AV}{u:Value}(H:Bp y w h0 n L U ρ)(hm:∀g r,A4 os g=some r→A4 h0 g=some r)(hl:Ye y z)(hs:C3t y z)
 (hp:∀g r p b o,A4 os g=some r→ρ (some g) p=some (b,o)→z.R b∧z.wr.heap[b]? =w.heap[b]?)(hr:RC os c c')(h:Az y w h0 n ρ c' u)(hk:c.okC=true):Az z w hq2 n' ρ' (Ni c) u:=by
 rcases hr with⟨s,xs,g,rfl,rfl,hg0⟩|⟨rfl,hn⟩
 ·have hg:=hm g _ hg0
  obtain⟨s',xs',v0,e0,hroot⟩:=H.root g _ hg;simp only[AV.own.injEq]at e0;obtain⟨rfl,rfl⟩:=e0;refine .cell ?_;show Rep z w Ax (AV.own s xs).toRd u;generalize hln:xs.length=ln at h;cases h with
  |cell hr=>cases hr
  |gone hl _=>rw[hg]at hl;cases hl
  |view0 h1 h2=>
   have:xs=[]:=List.eq_nil_of_length_eq_zero hln;subst this;exact Rep.toRd (.own0 (ρ:=Ax)) hl (fun p b o hq=>by simp[Ax]at hq)
  |@view _ _ _ _ s2 xs2 cap b o cc hg2 hl2 hcap hρ hb hroom=>
   rw[Cn hg]at hg2;simp only[AV.get,Option.some.injEq,AV.own.injEq]at hg2;obtain⟨rfl,rfl⟩:=hg2;subst hln;simp only[Nat.zero_mul,Nat.add_zero,Nat.zero_add]at hroom⊢;have hrep:Rep y w (ρ (some g)) (.own s xs) (.slice (some ⟨b,o,none⟩) xs.length cap):=by
    generalize hrx:xs=ys at hroot hcap;cases hroot with
    |own0=>exact .own (fun _ _=>undef) hρ hcap (fun r hr=>by cases hr) hb hroom (fun i f d hd=>by simp[As]at hd) (fun i f d hd=>by simp[As]at hd)
    |own u hρ2 hcap2 hrow2 hb2 hroom2 hc2 hr2=>
     rw[hρ]at hρ2;simp only[Option.some.injEq,Prod.mk.injEq]at hρ2;obtain⟨rfl,rfl⟩:=hρ2;obtain rfl:=hb.uniq hb2;exact .own u hρ hcap hrow2 hb hroom hc2 hr2
   exact Rep.toRd hrep hl fun p b o hq=>hp _ _ _ _ _ hg0 hq
 ·have e:Ni c'=c':=by cases c'<;>first|rfl|exact absurd rfl (hn _ _)
  rw[e];cases h with
  |cell hr=>exact .cell (hr.lift hl hs)
  |void=>exact .void
  |someI=>exact .someI
  |_=>simp[AV.okC]at hk
theorem B3g{y z:Ctx}{w:World}{os h0 hq2:Ah}{n n':Nat→Prop}{L:List AV}{U:Nat→Value}{ρ ρ':Option Nat→Am}{c c':AV}{u:Value}(H:Bp y w h0 n L U ρ)(hm:∀g r,A4 os g=some r→A4 h0 g=some r)(hl:Ye y z)(hs:C3t y z)
 (hp:∀g r p b o,A4 os g=some r→ρ (some g) p=some (b,o)→z.R b∧z.wr.heap[b]? =w.heap[b]?)(hr:RV os c c')(h:Az y w h0 n ρ c' u)(hk:c.okV=true):Az z w hq2 n' ρ' (Ml c) u:=by
 rcases hr with⟨cs,cs',rfl,rfl,h2⟩|⟨hn,hr⟩
 ·simp only[AV.okV,List.all_eq_true]at hk
  simp only[Ml];have key:∀{cs cs':List AV},Uv (RC os) cs cs'→cs'.length=cs.length∧∀(i:Nat) (c':AV),cs'[i]? =some c'→∃c,cs[i]? =some c∧RC os c c':=by
   intro cs cs' h;induction h with
   |nil=>exact⟨rfl,fun i c h=>by simp at h⟩
   |cons h t ih=>
    refine⟨by simp[ih.1],fun i c hi=>?_⟩;cases i with
    |zero=>simp only[List.getElem?_cons_zero,Option.some.injEq]at hi;subst hi;exact⟨_,rfl,h⟩
    |succ i=>exact ih.2 i c (by simpa using hi)
  obtain⟨k1,k2⟩:=key h2;have key2:∀{us:Array Value},us.size=cs'.length→(∀(i:Nat) c,cs'[i]? =some c→Az y w h0 n ρ c (us.getD i undef))→us.size=(cs.map Ni).length∧∀i c,(cs.map Ni)[i]? =some c→Az z w hq2 n' ρ' c (us.getD i undef):=by
   intro us hu hc;refine⟨by rw[hu,k1,List.length_map],fun i c hi=>?_⟩;rw[List.getElem?_map]at hi;obtain⟨d,hd,rfl⟩:=Option.map_eq_some_iff.1 hi;have hlt:i<cs'.length:=by
    have:=(List.getElem?_eq_some_iff.1 hd).1;omega
   obtain⟨d2,q1,q2⟩:=k2 i cs'[i] (List.getElem?_eq_getElem hlt);rw[hd]at q1;obtain rfl:=Option.some.inj q1;exact B3v H hm hl hs hp q2 (hc i _ (List.getElem?_eq_getElem hlt)) (hk _ (List.mem_of_getElem? hd))
  cases h with
  |cell hr=>cases hr
  |agg h3 hc=>exact .agg (key2 h3 hc).1 (key2 h3 hc).2
 ·have e:Ml c=Ni c:=by cases c<;>first|rfl|exact absurd rfl (hn _)
  have e2:c.okV=c.okC:=by cases c<;>first|rfl|exact absurd rfl (hn _)
  rw[e];exact B3v H hm hl hs hp hr h (by rw[←e2];exact hk)
theorem B7b{y z:Ctx}{w:World}{os h0 hq2:Ah}{n n':Nat→Prop}{L:List AV}{U:Nat→Value}{ρ ρ':Option Nat→Am}{c c':AV}{u:Value}(H:Bp y w h0 n L U ρ)(hm:∀g r,A4 os g=some r→A4 h0 g=some r)(hl:Ye y z)(hs:C3t y z)
 (hp:∀g r p b o,A4 os g=some r→ρ (some g) p=some (b,o)→z.R b∧z.wr.heap[b]? =w.heap[b]?)(hr:RT os c c')(h:Az y w h0 n ρ c' u)(hk:c.okT=true):Az z w hq2 n' ρ' (frz c) u:=by
 rcases hr with⟨cs,cs',rfl,rfl,h2⟩|⟨hn,hr⟩
 ·simp only[AV.okT,List.all_eq_true]at hk
  simp only[frz];have key:∀{cs cs':List AV},Uv (RV os) cs cs'→cs'.length=cs.length∧∀(i:Nat) (c':AV),cs'[i]? =some c'→∃c,cs[i]? =some c∧RV os c c':=by
   intro cs cs' h;induction h with
   |nil=>exact⟨rfl,fun i c h=>by simp at h⟩
   |cons h t ih=>
    refine⟨by simp[ih.1],fun i c hi=>?_⟩;cases i with
    |zero=>simp only[List.getElem?_cons_zero,Option.some.injEq]at hi;subst hi;exact⟨_,rfl,h⟩
    |succ i=>exact ih.2 i c (by simpa using hi)
  obtain⟨k1,k2⟩:=key h2;have key2:∀{us:Array Value},us.size=cs'.length→(∀(i:Nat) c,cs'[i]? =some c→Az y w h0 n ρ c (us.getD i undef))→us.size=(cs.map Ml).length∧∀i c,(cs.map Ml)[i]? =some c→Az z w hq2 n' ρ' c (us.getD i undef):=by
   intro us hu hc;refine⟨by rw[hu,k1,List.length_map],fun i c hi=>?_⟩;rw[List.getElem?_map]at hi;obtain⟨d,hd,rfl⟩:=Option.map_eq_some_iff.1 hi;have hlt:i<cs'.length:=by
    have:=(List.getElem?_eq_some_iff.1 hd).1;omega
   obtain⟨d2,q1,q2⟩:=k2 i cs'[i] (List.getElem?_eq_getElem hlt);rw[hd]at q1;obtain rfl:=Option.some.inj q1;exact B3g H hm hl hs hp q2 (hc i _ (List.getElem?_eq_getElem hlt)) (hk _ (List.mem_of_getElem? hd))
  cases h with
  |cell hr=>cases hr
  |tup h3 hc=>exact .tup (key2 h3 hc).1 (key2 h3 hc).2
 ·have e:frz c=Ml c:=by cases c<;>first|rfl|exact absurd rfl (hn _)
  have e2:c.okT=c.okV:=by cases c<;>first|rfl|exact absurd rfl (hn _)
  rw[e];exact B3g H hm hl hs hp hr h (by rw[←e2];exact hk)
theorem B3q{os:Ah}{c c':AV}(hr:RC os c c')(h1:∀g r,A4 os g=some r→r.free)(h2:c'.free):(Ni c).free:=by
 rcases hr with⟨s,xs,g,rfl,rfl,hg⟩|⟨rfl,hn⟩
 ·exact B2s _ (h1 g _ hg)
 ·have e:Ni c'=c':=by cases c'<;>first|rfl|exact absurd rfl (hn _ _)
  rw[e];exact h2
theorem C3v{os:Ah}{cs cs':List AV}(hr:Uv (RC os) cs cs')(h1:∀g r,A4 os g=some r→r.free)(h2:A2 cs'):A2 (cs.map Ni):=by
 induction hr with
 |nil=>trivial
 |cons h t ih=>exact⟨B3q h h1 h2.1,ih h2.2⟩
theorem B2h{os:Ah}{c c':AV}(hr:RV os c c')(h1:∀g r,A4 os g=some r→r.free)(h2:c'.free):(Ml c).free:=by
 rcases hr with⟨cs,cs',rfl,rfl,h3⟩|⟨hn,hr⟩
 ·simp only[Ml,AV.free]at h2⊢;exact C3v h3 h1 h2
 ·have e:Ml c=Ni c:=by cases c<;>first|rfl|exact absurd rfl (hn _)
  rw[e];exact B3q hr h1 h2
theorem C02{os:Ah}{cs cs':List AV}(hr:Uv (RV os) cs cs')(h1:∀g r,A4 os g=some r→r.free)(h2:A2 cs'):A2 (cs.map Ml):=by
 induction hr with
 |nil=>trivial
 |cons h t ih=>exact⟨B2h h h1 h2.1,ih h2.2⟩
theorem B83{os:Ah}{c c':AV}(hr:RT os c c')(h1:∀g r,A4 os g=some r→r.free)(h2:c'.free):(frz c).free:=by
 rcases hr with⟨cs,cs',rfl,rfl,h3⟩|⟨hn,hr⟩
 ·simp only[frz,AV.free]at h2⊢;exact C02 h3 h1 h2
 ·have e:frz c=Ml c:=by cases c<;>first|rfl|exact absurd rfl (hn _)
  rw[e];exact B2h hr h1 h2
theorem C5d{P:Nat→Br→Prop}{c:AV}(h:c.okC=true):E4 P (Ni c):=by
 cases c<;>first|exact .rd|exact .int|exact .bool|exact .str|exact .undef|exact .nilI|exact .someI|cases h
theorem C6t{P:Nat→Br→Prop}{c:AV}(h:c.okV=true):E4 P (Ml c):=by
 by_cases ha:∃cs,c=.agg cs
 ·obtain⟨cs,rfl⟩:=ha
  simp only[AV.okV,List.all_eq_true]at h;refine .agg fun d hd=>?_;obtain⟨e,he,rfl⟩:=List.mem_map.1 hd;exact C5d (h e he)
 ·have e:Ml c=Ni c:=by cases c<;>first|rfl|exact absurd ⟨_,rfl⟩ ha
  have e2:c.okV=c.okC:=by cases c<;>first|rfl|exact absurd ⟨_,rfl⟩ ha
  rw[e];exact C5d (e2▸h)
theorem C60{P:Nat→Br→Prop}{c:AV}(h:c.okT=true):E4 P (frz c):=by
 by_cases ha:∃cs,c=.tup cs
 ·obtain⟨cs,rfl⟩:=ha
  simp only[AV.okT,List.all_eq_true]at h;refine .tup fun d hd=>?_;obtain⟨e,he,rfl⟩:=List.mem_map.1 hd;exact C6t (h e he)
 ·have e:frz c=Ml c:=by cases c<;>first|rfl|exact absurd ⟨_,rfl⟩ ha
  have e2:c.okT=c.okV:=by cases c<;>first|rfl|exact absurd ⟨_,rfl⟩ ha
  rw[e];exact C6t (e2▸h)
theorem A05{id:Nat}{v:AV}{K:AV→Ah→Prop}(h:v.okT=true)(hk:Ib id (frz v) K):K (frz v) []:=by
 have hC:∀(cs:List AV) (id:Nat) (K:List AV→Ah→Nat→Prop),cs.all AV.okC=true→B8 id (cs.map Ni) K→K (cs.map Ni) [] id:=by
  intro cs;induction cs with
  |nil=>intro id K _ hk;exact hk
  |cons c r ih=>
   intro id K h hk;simp only[List.all_cons,Bool.and_eq_true]at h;cases c<;>first|(exact ih id (fun cs' os n=>K (_::cs') os n) h.2 hk)|cases h.1
 have hV:∀(vs:List AV) (id:Nat) (K:List AV→Ah→Nat→Prop),vs.all AV.okV=true→Bw id (vs.map Ml) K→K (vs.map Ml) [] id:=by
  intro vs;induction vs with
  |nil=>intro id K _ hk;exact hk
  |cons c r ih=>
   intro id K h hk;simp only[List.all_cons,Bool.and_eq_true]at h;by_cases ha:∃cs,c=.agg cs
   ·obtain⟨cs,rfl⟩:=ha
    have:=hC cs id _ h.1 hk;exact ih id (fun vs' os' n'=>K (.agg (cs.map Ni)::vs') ([]++os') n') h.2 this
   ·cases c<;>first|(exact ih id (fun cs' os n=>K (_::cs') ([]++os) n) h.2 hk)|cases h.1|exact absurd ⟨_,rfl⟩ ha
 by_cases ht:∃vs,v=.tup vs
 ·obtain⟨vs,rfl⟩:=ht
  exact(Bj (hV vs id (fun vs' os n=>leN n (id+16) (K (.tup vs') os)) h hk)).2
 ·by_cases ha:∃cs,v=.agg cs
  ·obtain⟨cs,rfl⟩:=ha
   exact(Bj (hC cs id (fun vs' os n=>leN n (id+16) (K (.agg vs') os)) h hk)).2
  ·cases v<;>first|exact hk|cases h|exact absurd ⟨_,rfl⟩ ha|exact absurd ⟨_,rfl⟩ ht
theorem J2{P:Program}{f:Nat}{c:Bd}(res':c.α→AV)(hc:Au P f c)(hout:∀x,c.out x=[])(hpt:c.ptr=false)(hok:∀x,c.pre x→(c.res x).okT=true∧B3n (c.res x)≤16∧frz (c.res x)=res' x):
 Au P f {c with sh:=true,res:=res'}:=by
 intro x hx;obtain⟨a1,a2,a3,a4⟩:=hc x hx;obtain⟨o1,o2,o3⟩:=hok x hx;refine⟨a1,a2,fun h=>(Bool.noConfusion h),Fw a4 ?_⟩;rintro S hy k mu ⟨b1,b2⟩;refine⟨b1,?_⟩;intro y w args ρ hw0 hk hR hwr hG hsz H hs idr hidr K hK;simp only at hK hG hsz;rw[hpt,←o3]at hK;have hK:Ib idr (frz (c.res x)) K:=hK;have hK:=A05 o1 hK;have hr0:Mf c.ptr idr (c.res x) fun v' os=>RT os (c.res x) v':=by rw[hpt];exact A71 o2
 obtain⟨v,os,hrt,_,e2,_,e3,e4⟩:=b2 y w args ρ hw0 hk hR hwr hG hsz H hs idr hidr _ hr0;refine⟨_,_,hK,C60 o1,(fun g r hg=>by cases hg),fun h=>(Bool.noConfusion h),B83 hrt (fun g r hg=>(e2 g r hg).2.2) e3,e4.mono ?_⟩;rintro u w' ⟨R',wr',ρf,f1,f2,f3⟩;have hoh:∀g r,A4 (Bf mu (c.out x)) g=some r→False:=by
  rw[hout];intro g r hg;cases mu<;>cases hg
 have ho0:Bf mu (c.out x)=[]:=by rw[hout];cases mu<;>rfl
 simp only[ho0,List.nil_append,List.append_nil]at f2 f3⊢;refine⟨fun b=>R' b∨∃k p o,ρf k p=some (b,o),w',fun _=>Ax,fun b hb=>.inl (f1 b hb),?_,?_⟩
 ·exact{
   os:=f2.os
   tape:=f2.tape
   output:=f2.output
   size:=f2.size
   frame:=f2.frame
   root:=fun g r hg=>by cases hg
   loose:=fun j c hj=>by simp at hj
   live:=fun k p q hq=>by simp[Ax]at hq
   nobase:=rfl
   inj:=fun k p k' p' b o o' hq=>by simp[Ax]at hq
   mine:=fun k p b o hq=>by simp[Ax]at hq
   ids:=fun g r hg=>by cases hg
   keeps:=f2.keeps
   base:=fun g r _ hg=>by cases hg
   kn:=f2.kn
   fixed:=fun b _=>rfl
   rsub:=fun b hb=>by
    rcases hb with hb|⟨k,p,o,hb⟩
    ·exact f2.rsub b hb
    ·have:=(f2.mine _ _ _ _ hb).1.1
     exact this.elim (fun h=>.inr (.inr h)) (fun h=>.inr (.inl h))
   rlt:=fun b hb=>by
    rcases hb with hb|⟨k,p,o,hb⟩
    ·exact f2.rlt b hb
    ·obtain⟨c,hc⟩:=(f2.mine _ _ _ _ hb).2
     exact hc.lt}
 ·exact B7b f2 (fun _ _ h=>h) (fun b hb=>⟨.inl hb,f2.fixed b hb⟩) ⟨rfl,rfl,rfl⟩ (fun g r p b o _ hq=>⟨.inr ⟨some g,p,o,hq⟩,rfl⟩) hrt f3 o1
theorem Uv.mono{R R':AV→AV→Prop}{l m:List AV}(h:Uv R l m)(hi:∀a b,R a b→R' a b):Uv R' l m:=h.imp hi
theorem RC.mono{os h:Ah}{c c':AV}(hm:∀g r,A4 os g=some r→A4 h g=some r)(hr:RC os c c'):RC h c c':=by
 rcases hr with⟨s,xs,g,e1,e2,hl⟩|hr
 ·exact .inl ⟨s,xs,g,e1,e2,hm g _ hl⟩
 ·exact .inr hr
theorem RV.mono{os h:Ah}{c c':AV}(hm:∀g r,A4 os g=some r→A4 h g=some r)(hr:RV os c c'):RV h c c':=by
 rcases hr with⟨cs,cs',e1,e2,hl⟩|⟨h1,h2⟩
 ·exact .inl ⟨cs,cs',e1,e2,hl.imp fun _ _ h=>h.mono hm⟩
 ·exact .inr ⟨h1,h2.mono hm⟩
theorem RT.mono{os h:Ah}{c c':AV}(hm:∀g r,A4 os g=some r→A4 h g=some r)(hr:RT os c c'):RT h c c':=by
 rcases hr with⟨cs,cs',e1,e2,hl⟩|⟨h1,h2⟩
 ·exact .inl ⟨cs,cs',e1,e2,hl.imp fun _ _ h=>h.mono hm⟩
 ·exact .inr ⟨h1,h2.mono hm⟩
theorem C2p{hy:Ah}{g:Nat}{r:AV}:∀{mu:List Nat} {ys:List AV},Ss hy mu ys→A4 (Bf mu ys) g=some r→∃r',A4 hy g=some r'
 |[],[],_,h=>by cases h
 |[],_::_,h,_=>h.elim
 |_::_,[],h,_=>h.elim
 |m::mu,y::ys,hs,h=>by
  obtain⟨⟨s,xs,zs,h1,_,_⟩,h2⟩:=hs;simp only[Bf]at h;rw[Ac]at h;by_cases e:m=g
  ·subst e;exact⟨_,h1⟩
  ·rw[if_neg e]at h;exact C2p h2 h
theorem A2t{P:Program}{f:Nat}{c:Bd}(res':c.α→AV)(hc:Au P f c)(hpt:c.ptr=false)(hok:∀x,c.pre x→(c.res x).okT=true∧B3n (c.res x)≤16∧frz (c.res x)=res' x):
 Au P f {c with sh:=true,res:=res'}:=by
 intro x hx;obtain⟨a1,a2,a3,a4⟩:=hc x hx;obtain⟨o1,o2,o3⟩:=hok x hx;refine⟨a1,a2,fun h=>(Bool.noConfusion h),Fw a4 ?_⟩;rintro S hy k mu ⟨b1,b2⟩;refine⟨b1,?_⟩;intro y w args ρ hw0 hk hR hwr hG hsz H hs idr hidr K hK;simp only at hK hG hsz;rw[hpt,←o3]at hK;have hK:Ib idr (frz (c.res x)) K:=hK;have hK:=A05 o1 hK;have hr0:Mf c.ptr idr (c.res x) fun v' os=>RT os (c.res x) v':=by rw[hpt];exact A71 o2
 obtain⟨v,os,hrt,_,e2,_,e3,e4⟩:=b2 y w args ρ hw0 hk hR hwr hG hsz H hs idr hidr _ hr0;refine⟨_,_,hK,C60 o1,(fun g r hg=>by cases hg),fun h=>(Bool.noConfusion h),B83 hrt (fun g r hg=>(e2 g r hg).2.2) e3,e4.mono ?_⟩;rintro u w' ⟨R',wr',ρf,f1,f2,f3⟩;have hlt:∀g r,A4 (Bf mu (c.out x)) g=some r→g<k:=fun g r hg=>by
  obtain⟨r',h1⟩:=C2p b1 hg;exact H.ids g r' h1
 have hoso:∀g r,A4 os g=some r→A4 (Bf mu (c.out x)) g=none:=fun g r hg=>by
  cases hq:A4 (Bf mu (c.out x)) g with
  |none=>rfl
  |some r'=>
   have h1:=hlt g r' hq;have h2:=(e2 g r hg).1.1;omega
 have hall:∀g r,A4 os g=some r→A4 (Bf mu (c.out x)++os) g=some r:=fun g r hg=>by rw[Be,hoso g r hg];exact hg
 let isO:Option Nat→Prop:=fun q=>∃g r,q=some g∧A4 (Bf mu (c.out x)) g=some r;have hnO:∀{g r},A4 os g=some r→¬isO (some g):=by
  intro g r hg hi;obtain⟨g',r',e,h⟩:=hi;have e:g=g':=by simpa using e
  rw[←e,hoso g r hg]at h;cases h
 let ρ2:Option Nat→Am:=fun q p=>@ite _ (isO q) (Classical.propDecidable _) (ρf q p) none;have r1:∀{q p b},ρ2 q p=some b→isO q∧ρf q p=some b:=by
  intro q p b hq;by_cases hi:isO q
  ·simp only[ρ2,if_pos hi]at hq;exact⟨hi,hq⟩
  ·simp only[ρ2,if_neg hi]at hq;cases hq
 have r2:∀{g r},A4 (Bf mu (c.out x)) g=some r→ρ2 (some g)=ρf (some g):=by
  intro g r hg;have hi:isO (some g):=⟨g,r,rfl,hg⟩
  funext p;simp only[ρ2,if_pos hi]
 let R2:Nat→Prop:=fun b=>R' b∨∃q p o,¬isO q∧ρf q p=some (b,o);have hl2:Ye {y with R:=R',wr:=wr'} {y with R:=R2,wr:=w'}:=fun b hb=>⟨.inl hb,f2.fixed b hb⟩
 have hmine:∀q p b o,ρ2 q p=some (b,o)→((y.w0.heap.size≤b∨y.M b)∧¬R2 b)∧∃c,Blk w' b c:=by
  intro q p b o hq;have h0:=r1 hq;have h2:=h0.2;have h3:=f2.mine q p b o h2;refine⟨⟨h3.1.1,fun hb=>?_⟩,h3.2⟩;cases hb with
  |inl hb=>exact h3.1.2 hb
  |inr hb=>
   obtain⟨q',p',o',h6,h7⟩:=hb;have e:q=q':=(f2.inj q p q' p' b o o' h2 h7).1;exact h6 (e▸h0.1)
 have hlive:∀q p b,ρ2 q p=some b→∃s xs,Tc (Bf mu (c.out x)) [] q p=some (.own s xs):=by
  intro q p b hq;have h0:=r1 hq;obtain⟨g,r,e,hg⟩:=h0.1;subst e;obtain⟨s,xs,h3⟩:=f2.live _ p b h0.2;refine⟨s,xs,?_⟩;simp only[Tc]at h3⊢;rw[Cn (show A4 (Bf mu (c.out x)++os) g=some r by rw[Be,hg])]at h3;rw[Cn hg];exact h3
 simp only[List.append_nil];refine⟨R2,w',ρ2,fun b hb=>.inl (f1 b hb),?_,?_⟩
 ·exact{
   os:=f2.os
   tape:=f2.tape
   output:=f2.output
   size:=f2.size
   frame:=f2.frame
   root:=fun g r hg=>by
    obtain⟨s,xs,v,h1,h2⟩:=f2.root g r (by rw[Be,hg]);refine⟨s,xs,v,h1,?_⟩;rw[r2 hg];exact h2.lift hl2 ⟨rfl,rfl,rfl⟩
   loose:=fun j c hj=>by simp at hj
   live:=hlive
   nobase:=by
    have hno:¬isO none:=fun hi=>by
     obtain⟨g,r,e,_⟩:=hi;cases e
    simp only[ρ2,if_neg hno]
   inj:=fun q p q' p' b o o' h1 h2=>f2.inj q p q' p' b o o' (r1 h1).2 (r1 h2).2
   mine:=hmine
   ids:=fun g r hg=>.inl (hlt g r hg)
   keeps:=f2.keeps
   base:=fun g r hgk hg=>by rw[r2 hg];exact f2.base g r hgk (by rw[Be,hg])
   kn:=f2.kn
   fixed:=fun b _=>rfl
   rsub:=fun b hb=>by
    rcases hb with hb|⟨q,p,o,_,hb⟩
    ·exact f2.rsub b hb
    ·have:=(f2.mine _ _ _ _ hb).1.1
     exact this.elim (fun h=>.inr (.inr h)) (fun h=>.inr (.inl h))
   rlt:=fun b hb=>by
    rcases hb with hb|⟨q,p,o,_,hb⟩
    ·exact f2.rlt b hb
    ·obtain⟨c,hc⟩:=(f2.mine _ _ _ _ hb).2
     exact hc.lt}
 ·exact B7b f2 hall hl2 ⟨rfl,rfl,rfl⟩ (fun g r p b o hg hq=>⟨.inr ⟨some g,p,o,hnO hg,hq⟩,rfl⟩) hrt f3 o1
theorem C0c{P:Program}{f s:Nat}{c:Bd}{t1 t2 t3:List (Option Nat)}(rows rows':c.α→List (List AV))(i j:c.α→Int)
 (hms:c.ms=[.co t1,.rd t2,.rd t3])(henc:∀x,c.enc x=[.own s (rows x),.int .i64 (i x),.int .i64 (j x)])(hres:∀x,c.res x=.own s (rows' x))(hout:∀x,c.out x=[])
 (hpl:∀x,O0 s (rows x))(hpl':∀x,O0 s (rows' x))(hlen:∀x,c.pre x→(rows' x).length≤(rows x).length)(hne:∀x,c.pre x→rows x≠[])
 (hcall:∀(args:Array Value) (w:World),(callFunc f args).run P w=.ok (.enter f args) w)
 (h:∀x,c.pre x→∀(w:World) (b o cap:Nat),b<w.heap.size→(rows x).length≤cap→
   (∃c e fz,w.heap[b]? =some (.cells c e fz)∧B9a fz c.size∧∀i f d,As (rows x) i f=some d→c[o+(i*s+f)]? =some (Qd d))→
   Calls P f #[.slice (some ⟨b,o,none⟩) (rows x).length cap,.int .i64 (i x),.int .i64 (j x)] w fun e w'=>e=.returned (.slice (some ⟨b,o,none⟩) (rows' x).length cap)∧C5g w w' b o s (rows' x))(hpt:c.ptr=false:=by rfl):Au P f c:=by
 intro x hx;refine⟨?_,?_,fun _=>?_,?_⟩
 ·rw[henc];exact⟨Ks (Qs (hpl x)),trivial,trivial,trivial⟩
 ·rw[hout];trivial
 ·rw[hout];trivial
 rw[hms,henc,hout];refine⟨trivial,?_⟩;intro y w args ρ hw0 hk hR hwr hG hsz H hs idr hidr K hK;rw[hpt]at hK;rw[hres]at hK;have hK:K (.view idr [] 0 (rows' x).length) [(idr,.own s (rows' x))]:=hK;have hk1:y.k=1:=hk;have hsz:args.size=3:=hsz;have s0:=(hs 0 ⟨none,.view 0 [] 0 (rows x).length⟩ rfl).1 trivial;have s1:=Gs ((hs 1 ⟨none,.int .i64 (i x)⟩ rfl).1 trivial);have s2:=Gs ((hs 2 ⟨none,.int .i64 (j x)⟩ rfl).1 trivial);have hargs:args=#[args.getD 0 undef,args.getD 1 undef,args.getD 2 undef]:=by
  apply Array.ext
  ·simpa using hsz
  ·intro i h1 h2
   have:i=0∨i=1∨i=2:=by simp at h2;omega
   rcases this with rfl|rfl|rfl<;>simp[h1]
 rw[hargs,s1,s2];generalize args.getD 0 undef=a0 at s0;have hlook:A4 [((0:Nat),AV.own s (rows x))] 0=some (.own s (rows x)):=rfl;have only:∀k p q,ρ k p=some q→k=some 0∧p=[]:=by
  intro k p q hq;obtain⟨s',xs',hg⟩:=H.live k p q hq;cases k with
  |none=>
   cases p with
   |nil=>rw[H.nobase]at hq;cases hq
   |cons a p=>obtain⟨i,f⟩:=a;cases i<;>cases f<;>simp[Tc,AV.get,As]at hg
  |some g=>
   simp only[Tc,hget]at hg;by_cases hg0:g=0
   ·subst hg0
    refine⟨rfl,?_⟩;cases p with
    |nil=>rfl
    |cons a p=>
     obtain⟨i,f⟩:=a;rw[hlook]at hg;simp only[B8s]at hg;cases hc:As (rows x) i f with
     |none=>simp[hc]at hg
     |some d=>
      have:=K0 (hpl x) hc;simp only[hc]at hg;cases d<;>first|(cases p<;>simp[AV.get]at hg;done)|(cases this;done)
   ·rw[Ac,if_neg (Ne.symm hg0)]at hg
    simp[A4]at hg
 obtain⟨s',xs',v0,e0,hroot⟩:=H.root 0 _ hlook;simp only[AV.own.injEq]at e0;obtain⟨rfl,rfl⟩:=e0;have hne0:=hne x hx;obtain⟨cap,b,o,cc,rfl,hρ,hb,hroom,hcap⟩:∃cap b o c,a0=.slice (some ⟨b,o,none⟩) (rows x).length cap∧ρ (some 0) []=some (b,o)∧Blk w b c∧o+cap*s≤c.size∧(rows x).length≤cap:=by
  generalize hl0:(rows x).length=ln at s0;cases s0 with
  |cell hr=>cases hr
  |gone hl _=>simp[A4]at hl
  |view0 _ _=>exact absurd (List.eq_nil_of_length_eq_zero hl0) hne0
  |view hg hl hcap hρ hb hroom=>
   rw[Cn hlook]at hg;simp only[AV.get,Option.some.injEq,AV.own.injEq]at hg;obtain⟨rfl,rfl⟩:=hg;exact⟨_,_,_,_,by simp,hρ,hb,by simpa using hroom,hcap⟩
 have hroot2:∀i f d,As (rows x) i f=some d→cc[o+(i*s+f)]? =some (Qd d):=by
  generalize hrx:rows x=xs at hroot hne0⊢;cases hroot with
  |own0=>exact absurd rfl hne0
  |own u hρ2 hcap2 hrow2 hb2 hroom2 hc2 hr2=>
   rw[hρ]at hρ2;simp only[Option.some.injEq,Prod.mk.injEq]at hρ2;obtain⟨rfl,rfl⟩:=hρ2;obtain rfl:=hb.uniq hb2;intro i f d hd;rw[hc2 i f d hd,B9k (hr2 i f d hd) (K0 (hrx▸hpl x) hd)]
 have hbl:b<w.heap.size:=by
  obtain⟨e,fz,h3,_⟩:=hb;exact(Array.getElem?_eq_some_iff.1 h3).1
 have hlk:A4 ([(idr,AV.own s (rows' x))]:Ah) idr=some (.own s (rows' x)):=by rw[Ac,if_pos rfl]
 have hlko:∀g r,A4 ([(idr,AV.own s (rows' x))]:Ah) g=some r→g=idr∧r=.own s (rows' x):=by
  intro g r hg;by_cases e:idr=g
  ·subst e;rw[hlk]at hg;exact⟨rfl,(Option.some.inj hg).symm⟩
  ·rw[Ac,if_neg e]at hg;cases hg
 have hpn:=Qs (hpl' x);refine⟨_,_,hK,.view ⟨Nat.le_refl _,by omega⟩,fun g r hg=>?_,fun _=>trivial,trivial,.inl ⟨hcall _ _,?_⟩⟩
 ·obtain⟨rfl,rfl⟩:=hlko g r hg
  exact⟨⟨Nat.le_refl _,by omega⟩,fun _=>hpn,Ks hpn⟩
 obtain⟨e0,fz0,hb1,hb2⟩:=hb;refine(h x hx w b o cap hbl hcap ⟨cc,e0,fz0,hb1,hb2,hroot2⟩).mono ?_;rintro e w' ⟨rfl,hp⟩;obtain⟨c',hc1,hc2,hc3⟩:=hp.row cc e0 fz0 hb1;have hblk':Blk w' b c':=⟨e0,fz0,hc1,by rw[hc2];exact hb2⟩
 have hl':=hlen x hx;have hrep:Rep y w' (ρ (some 0)) (.own s (rows' x)) (.slice (some ⟨b,o,none⟩) (rows' x).length cap):=
  .own (fun i f=>match As (rows' x) i f with
   |some d=>Qd d
   |none=>undef) hρ (by omega) (fun r hr=>(hpl' x r hr).1) hblk' (by rw[hc2];exact hroom)
   (fun i f d hd=>by rw[hc3 i f d hd];simp[hd]) (fun i f d hd=>by simp only[hd];exact A6w (K0 (hpl' x) hd))
 let ρf:Option Nat→Am:=fun k=>match k with
  |none=>Ax
  |some g=>if g=idr then ρ (some 0)else Ax
 have hρf:ρf (some idr)=ρ (some 0):=by simp[ρf]
 have onlyf:∀k p q,ρf k p=some q→k=some idr∧p=[]∧ρ (some 0) []=some q:=by
  intro k p q hq;cases k with
  |none=>simp[ρf,Ax]at hq
  |some g=>
   by_cases hg:g=idr
   ·subst hg
    rw[hρf]at hq;obtain⟨_,rfl⟩:=only _ _ _ hq;exact⟨rfl,rfl,hq⟩
   ·simp[ρf,hg,Ax]at hq
 have hmine:=H.mine _ _ _ _ hρ;refine⟨_,rfl,y.R,y.wr,ρf,fun _ hh=>hh,?_,?_⟩
 ·exact{
   os:=hp.os.trans H.os
   tape:=hp.tape.trans H.tape
   output:=hp.output.trans H.output
   size:=Nat.le_trans H.size hp.size
   frame:=fun b2 hb2' hm=>by
    rw[hp.other b2 (Nat.lt_of_lt_of_le hb2' H.size) fun e=>?_]
    ·exact H.frame b2 hb2' hm
    ·subst e
     have hb3:b2<y.w0.heap.size:=hb2';rcases hmine.1.1 with h1|h1
     ·omega
     ·exact hm h1
   root:=fun g r hg=>by
    rw[show Bf ([]:List Nat) ([]:List AV)=[]from rfl,List.nil_append]at hg;obtain⟨rfl,rfl⟩:=hlko g r hg;exact⟨_,_,_,rfl,by rw[hρf];exact hrep⟩
   loose:=fun j d hd=>by simp at hd
   live:=fun k p q hq=>by
    obtain⟨rfl,rfl,_⟩:=onlyf k p q hq;exact⟨s,rows' x,by rw[show Bf ([]:List Nat) ([]:List AV)=[]from rfl,List.nil_append,Ct,Cn hlk];rfl⟩
   nobase:=rfl
   inj:=fun k p k' p' b1 o1 o2 h1 h2=>by
    obtain⟨rfl,rfl,_⟩:=onlyf _ _ _ h1;obtain⟨rfl,rfl,_⟩:=onlyf _ _ _ h2;exact⟨rfl,rfl⟩
   mine:=fun k p b1 o1 hq=>by
    obtain⟨rfl,rfl,hq2⟩:=onlyf _ _ _ hq;rw[hρ]at hq2;simp only[Option.some.injEq,Prod.mk.injEq]at hq2;obtain⟨rfl,rfl⟩:=hq2;exact⟨hmine.1,c',hblk'⟩
   ids:=fun g r hg=>by
    rw[show Bf ([]:List Nat) ([]:List AV)=[]from rfl,List.nil_append]at hg;obtain⟨rfl,rfl⟩:=hlko g r hg;exact .inr ⟨Nat.le_refl _,by omega⟩
   keeps:=fun b1 c1 hb1'=>by
    obtain⟨c2,h1,h2⟩:=H.keeps b1 c1 hb1';by_cases hbb:b1=b
    ·subst hbb
     obtain rfl:=h1.uniq ⟨e0,fz0,hb1,hb2⟩;exact⟨c',hblk',hc2.trans h2⟩
    ·refine⟨c2,h1.congr (hp.other b1 ?_ hbb),h2⟩
     obtain⟨e,fz,h3,_⟩:=h1;exact(Array.getElem?_eq_some_iff.1 h3).1
   base:=fun g r hg hr=>by
    rw[show Bf ([]:List Nat) ([]:List AV)=[]from rfl,List.nil_append]at hr;obtain⟨rfl,rfl⟩:=hlko g r hr;have hg2:g<y.k:=hg;omega
   kn:=fun g hg=>.inl (by have hg2:g<y.k:=hg;omega)
   fixed:=fun b1 hb1'=>(hp.other b1 (H.rlt b1 hb1') fun e=>by subst e;exact hmine.1.2 hb1').trans (H.fixed b1 hb1')
   rsub:=H.rsub
   rlt:=fun b1 hb1'=>Nat.lt_of_lt_of_le (H.rlt b1 hb1') hp.size}
 ·have:=Az.view (x:={y with R:=y.R,wr:=y.wr}) (w:=w') (h:=[(idr,AV.own s (rows' x))]) (n:=fun g=>g<1∨Du idr g) (ρ:=ρf) (g:=idr) (p:=[]) (off:=0) (len:=(rows' x).length) (s:=s) (xs:=rows' x) (cap:=cap) (b:=b) (o:=o) (c:=c') (by rw[Cn hlk];rfl) (by omega) (by omega) (by rw[hρf];exact hρ) hblk' (by rw[hc2];simpa using hroom)
  show Az _ w' [(idr,AV.own s (rows' x))] _ ρf _ _;simpa using this
end Go.GH
