import Derived.Test.YtpbpaijjpglmlaaGreatSB
set_option linter.unusedVariables false
set_option linter.unusedSimpArgs false
set_option maxRecDepth 100000
set_option maxHeartbeats 4000000
noncomputable section
namespace Go.GH
open Go
structure Wk(f:Fs):Prop where
 nn:f.nodes.length≤10
 nd:f.data.length≤36
 inr:inR f
 bl:∀n,n∈f.nodes→n.blocks.length≤5
 dat:∀s,s∈f.data→s.length≤16
theorem Wk.sm{f:Fs}(h:Wk f):smF f:=⟨by have:=h.nn;omega,by have:=h.nd;omega,fun n hn=>by have:=h.bl n hn;omega,fun s hs=>by have:=h.dat s hs;omega⟩
theorem S4.wk{f:Fs}(h:S4 f):Wk f:=⟨h.nn.2,h.nd.2,h.inr,fun n hn=>U0 (h.all n hn),h.dat⟩
theorem Wk.read{f:Fs}(h:Wk f)(i:Nat):(Js f i).length≤80:=by
 unfold Js;cases hn:f.nodes[i]? with
 |none=>simp
 |some n=>
  have h1:=X0 h.dat n.blocks;have h2:=h.bl n (List.mem_of_getElem? hn);have h3:n.blocks.length*16≤5*16:=Nat.mul_le_mul_right _ h2;show(n.blocks.flatMap _).length≤_;omega
theorem Mw{α:Type}{l:List α}{i:Nat}{a x:α}(h:x∈l.set i a):x=a∨x∈l:=by
 rcases List.mem_or_eq_of_mem_set h with h|h
 ·exact .inr h
 ·exact .inl h
theorem B3a{d:List Str}:∀{l:List Int} {s:Str},s∈Nv d l→s=[]∨s∈d:=by
 intro l;induction l generalizing d with
 |nil=>intro s h;exact .inr h
 |cons b l ih=>
  intro s h;rcases ih (d:=clr d b) h with h|h
  ·exact .inl h
  ·exact Mw h
theorem A78{s:Str}{bs:List Int}{d:List Str}(hs:s.length≤80):∀{k:Nat},k≤need s→∀x,x∈Sk s bs k d→x.length≤16∨x∈d
 |0,_,x,h=>.inr h
 |k+1,hk,x,h=>by
  rw[A2h,A1j]at h;rcases Mw h with rfl|h
  ·left
   have:=(C2q hs (k:=k) (by omega)).2.2;rw[List.length_take];omega
  ·exact A78 hs (by omega) x h
theorem C2l{f:Fs}{k:Int}(h:Wk f):Wk (C7 f k).1:=by
 unfold C7;split
 ·split
  ·rename_i i hi
   refine⟨by simp;exact h.nn,h.nd,fun n hn b hb=>?_,fun n hn=>?_,h.dat⟩
   ·rcases Mw hn with rfl|hn
    ·simp only[X6]at hb
     rw[List.getD_eq_getElem?_getD]at hb;cases hq:f.nodes[i]? with
     |none=>rw[hq]at hb;cases hb
     |some m=>rw[hq]at hb;exact h.inr m (List.mem_of_getElem? hq) b hb
    ·exact h.inr n hn b hb
   ·rcases Mw hn with rfl|hn
    ·simp only[X6]
     rw[List.getD_eq_getElem?_getD];cases hq:f.nodes[i]? with
     |none=>decide
     |some m=>exact h.bl m (List.mem_of_getElem? hq)
    ·exact h.bl n hn
  ·exact h
 ·exact h
theorem C26{f:Fs}{i:Int}(h:Wk f):Wk (I3 f i).1:=by
 unfold I3;split
 ·refine⟨by simp;exact h.nn,by rw[O4];exact h.nd,fun n hn b hb=>?_,fun n hn=>?_,fun s hs=>?_⟩
  ·rcases Mw hn with rfl|hn
   ·cases hb
   ·rw[O4];exact h.inr n hn b hb
  ·rcases Mw hn with rfl|hn
   ·decide
   ·exact h.bl n hn
  ·rcases B3a hs with rfl|hs
   ·simp
   ·exact h.dat s hs
 ·exact h
theorem A92(f:Fs)(i:Int)(s:Str):(J7 f i s).length≤need s:=by
 have h1:(B79 f i s).length≤need s:=by rw[B79,List.length_take];omega
 rw[J7,List.length_append,List.length_take];omega
theorem C78(s:Str):need s≤5:=by have:=Tw (s.length:Int);rw[need];omega
theorem A2x(f:Fs)(i:Int)(s:Str):(Wv f i s).length=f.data.length:=by rw[Wv,Y6,O4]
theorem W7{f:Fs}{i:Int}{s:Str}(h:Wk f):Wk (Bh f i s).1:=by
 unfold Bh;split
 ·rename_i hc
  simp only[Oy,Bool.and_eq_true,decide_eq_true_eq]at hc;obtain⟨⟨hc1,hc2⟩,_⟩:=hc;refine⟨by simp;exact h.nn,by rw[A2x];exact h.nd,fun n hn b hb=>?_,fun n hn=>?_,fun x hx=>?_⟩
  ·rw[A2x]
   rcases Mw hn with rfl|hn
   ·exact Xi hc1 b hb
   ·exact h.inr n hn b hb
  ·rcases Mw hn with rfl|hn
   ·have:=A92 f i s;have:=C78 s;show(J7 f i s).length≤5;omega
   ·exact h.bl n hn
  ·rcases A78 hc2 (Nat.le_refl _) x hx with h1|h1
   ·exact h1
   ·rcases B3a h1 with rfl|h1
    ·simp
    ·exact h.dat x h1
 ·exact h
theorem B3o(f:Fs)(i:Int)(s:Str):(Bh f i s).1.nodes.length=f.nodes.length:=by unfold Bh;split<;>simp
theorem B7z(f:Fs)(k:Int):(C7 f k).1.nodes.length=f.nodes.length:=by
 unfold C7;split
 ·split<;>simp
 ·rfl
theorem C6i(f:Fs)(i:Int):(I3 f i).1.nodes.length=f.nodes.length:=by unfold I3;split<;>simp
def Gn(f:Fs)(i:Nat):List En:=(Iu f i).getD []
theorem B5w(f:Fs)(i:Nat):(Gn f i).length≤26∧(∀e,e∈Gn f i→e.name.length≤6)∧szE (Gn f i)≤468:=by
 unfold Gn;cases hd:Iu f i with
 |none=>exact⟨by simp,fun e he=>absurd he (by simp),by simp[szE]⟩
 |some l=>
  have hlo:=Rf hd;have h1:=Oz hlo;have h2:∀e,e∈l→e.name.length≤6:=fun e he=>(Qg (Jk hlo he).1).2;refine⟨h1,h2,?_⟩;show szE l≤468;have key:∀(l:List En),(∀e,e∈l→e.name.length≤6)→szE l≤l.length*18:=by
   intro l;induction l with
   |nil=>intro _;simp[szE]
   |cons a l ih=>
    intro h;have h1:=ih fun e he=>h e (by simp[he]);have h2:=h a (by simp);rw[Wi,List.length_cons,Nat.add_mul];omega
  have h3:=key l h2;have h4:l.length*18≤26*18:=Nat.mul_le_mul_right _ h1;omega
def enter(f:Fs)(i:Nat)(e:En):Fs×Bool:=if(I4 (Gn f i) e).2 then Bh f i (G5 (I4 (Gn f i) e).1)else(f,false)
def C8a(f:Fs)(i:Nat)(s:Str):Fs:=(Bh f i (G5 (Ia (Gn f i) s))).1
def Kn(f:Fs)(i:Nat)(s:Str)(k:Int):Fs×Int×Bool:=if(C7 f k).2.2 then((enter (C7 f k).1 i ⟨s,(C7 f k).2.1⟩).1,(C7 f k).2.1,(enter (C7 f k).1 i ⟨s,(C7 f k).2.1⟩).2)else(f, -1,false)
def down:Fs→Nat→List Str→Fs×Int×Int
 |f,i,[]=>if Lt f i !=2 then(f, -1,4)else(f,i,0)
 |f,i,s::r=>if !(Iu f i).isSome then(f, -1,4)else if Ge (Gn f i) s<0 then(if(Kn f i s 2).2.2 then down (Kn f i s 2).1 (Kn f i s 2).2.1.toNat r else(f, -1,5))else down f (Ge (Gn f i) s).toNat r
def B2t(n:Nd)(t g:Int):Nd:=⟨n.kind,g,t,n.size,n.blocks⟩
def Jt(f:Fs)(i:Int)(s:Str)(t g:Int):Fs×Bool:=if(Bh f i s).2 then(⟨(Bh f i s).1.nodes.set i.toNat (B2t (I8 (Bh f i s).1 i) t g),(Bh f i s).1.data⟩,true)else(f,false)
def B3r(t g:Int):Bool:=inB t 0 100000&&inB g 0 1000000
def wr2(f:Fs)(w:Fs×Bool):Fs×Int:=if !w.2 then(f,5)else(w.1,0)
def mk3(f:Fs)(n:Fs×Int×Bool)(s:Str)(t g:Int):Fs×Int:=if !n.2.2 then(f,5)else wr2 f (Jt n.1 n.2.1 s t g)
def mk2(f:Fs)(d:Fs×Int×Int)(p:Str)(k:Int)(s:Str)(t g:Int):Fs×Int:=if d.2.2 !=0 then(f,d.2.2)else mk3 f (Kn d.1 d.2.1.toNat (My p) k) s t g
def up(p:Str):List Str:=(names p).take ((names p).length - 1)
def P9(f:Fs)(p:Str)(k:Int)(s:Str)(t g:Int):Fs×Int:=
 if !Ki f|| !inB k 1 3|| !B3r t g||(k==2&&(!(s==[])||t !=0||g !=0))then(f,10)
 else if !B4 p||p==sl then(f,1)
 else if decide ((s.length:Int)>80)then(f,9)
 else if decide (Ej f 0 (names p)≥0)then(f,3)
 else mk2 f (down f 0 (up p)) p k s t g
def A2e(f:Fs)(p:Str)(s:Str)(t g:Int):Fs×Int:=
 if !Ki f|| !B3r t g then(f,10)
 else if !B4 p then(f,1)
 else if decide (Ej f 0 (names p)<0)then(f,2)
 else if Lt f (Ej f 0 (names p)).toNat==2 then(f,4)
 else if decide ((s.length:Int)>80)then(f,9)
 else wr2 f (Jt f (Ej f 0 (names p)) s t g)
def Va(f:Fs)(p:Str):Fs×Int:=
 if !Ki f then(f,10)
 else if !B4 p||p==sl then(f,1)
 else if decide (Ej f 0 (names p)<0)then(f,2)
 else if(I8 f (Ej f 0 (names p))).kind==2&&decide ((I8 f (Ej f 0 (names p))).size>0)then(f,8)
 else(C8a (I3 f (Ej f 0 (names p))).1 (Ej f 0 (up p)).toNat (My p),0)
def hd3(f:Fs)(n:Fs×Int×Bool)(s:Str):Fs×Int:=if !n.2.2 then(f,5)else wr2 f (Bh n.1 n.2.1 s)
def Sd(f:Fs)(s:Str):Fs×Int:=
 if !Ki f then(f,10)
 else if decide ((s.length:Int)>80)then(f,9)
 else if decide (Ej f 0 [hid]<0)then hd3 f (Kn f 0 hid 1) s
 else wr2 f (Bh f (Ej f 0 [hid]) s)
theorem C4j{f:Fs}{i:Nat}{e:En}(h:Wk f):Wk (enter f i e).1:=by
 unfold enter;split
 ·exact W7 h
 ·exact h
theorem C31(f:Fs)(i:Nat)(e:En):(enter f i e).1.nodes.length=f.nodes.length:=by
 unfold enter;split
 ·exact B3o _ _ _
 ·rfl
theorem Tn{f:Fs}{i:Nat}{s:Str}{k:Int}(h:Wk f):Wk (Kn f i s k).1:=by
 unfold Kn;split
 ·exact C4j (C2l h)
 ·exact h
theorem B91(f:Fs)(i:Nat)(s:Str)(k:Int):(Kn f i s k).1.nodes.length=f.nodes.length:=by
 unfold Kn;split
 ·rw[C31,B7z]
 ·rfl
theorem C3d{f:Fs}{k:Int}(h:(C7 f k).2.2=true):∃j:Nat,S4 f∧j<f.nodes.length∧f.nodes[j]? =some Nd.zero∧C7 f k=(⟨f.nodes.set j ⟨k,0,0,0,[]⟩,f.data⟩,(j:Int),true):=by
 unfold C7 at h⊢;split at h
 ·rename_i hc
  rw[if_pos hc];simp only[Bool.and_eq_true]at hc;have hsh:=A02 hc.1;cases hf:Yt f with
  |none=>rw[hf]at h;cases h
  |some j=>
   simp only;rw[Yt,List.findIdx?_eq_some_iff_getElem]at hf;obtain⟨hj,h2,_⟩:=hf;have hz:f.nodes[j]=Nd.zero:=B9c (hsh.all _ (List.getElem_mem hj)) (by simpa using h2);refine⟨j,hsh,hj,by rw[List.getElem?_eq_getElem hj,hz],?_⟩;rw[List.getD_eq_getElem?_getD,List.getElem?_eq_getElem hj,Option.getD_some,hz];rfl
 ·cases h
theorem C5b{f:Fs}{i:Nat}{l:List En}(h:Iu f i=some l):Lt f i=2:=by
 unfold Iu at h;split at h
 ·cases h
 ·rename_i n hn
  split at h
  ·rename_i hk;rw[P7 hn];simpa using hk
  ·cases h
theorem C2d{f:Fs}{i:Nat}{s:Str}{k:Int}{l:List En}(h:(Kn f i s k).2.2=true)(hd:Iu f i=some l):
 ∃j:Nat,(Kn f i s k).2.1=(j:Int)∧j<f.nodes.length∧Js (Kn f i s k).1 j=[]∧Lt (Kn f i s k).1 j=k:=by
 unfold Kn at h⊢;split at h
 ·rename_i hm
  rw[if_pos hm];obtain⟨j,hsh,hj,hz,e⟩:=C3d hm;rw[e]at h⊢;simp only at h⊢;refine⟨j,rfl,hj,?_⟩;have hij:i≠j:=by
   intro e2;subst e2;have:=C5b hd;rw[P7 hz]at this;cases this
  have key:(enter ⟨f.nodes.set j ⟨k,0,0,0,[]⟩,f.data⟩ i ⟨s,(j:Int)⟩).1.nodes[j]? =some ⟨k,0,0,0,[]⟩:=by
   unfold enter;split
   ·unfold Bh
    split
    ·simp only[Int.toNat_natCast]
     rw[List.getElem?_set_ne hij,List.getElem?_set_self hj]
    ·exact List.getElem?_set_self hj
   ·exact List.getElem?_set_self hj
  exact⟨by rw[Js,key];rfl,P7 key⟩
 ·cases h
def Ul(f:Fs)(i:Int)(s:Str)(t g:Int):List AV:=if(Jt f i s t g).2 then B3 (Jt f i s t g).1 else At f
theorem C3r(n:Nd):A2 (B1 n):=by simp[A1,B1,A2,AV.free,Ae]
theorem C45(n:Nd):A2 (Ay n):=by simp[A1,Ay,A2,AV.free,Ae]
theorem Bb(f:Fs)(i:Int)(s:Str)(t g:Int):A2 (Ul f i s t g):=by
 unfold Ul;split<;>simp[B3,At,A2,AV.free,C3r,C45,A1,A6]
theorem C4f{f:Fs}{i:Int}{s:Str}{t g:Int}(h:(Jt f i s t g).2=false):(Jt f i s t g).1=f:=by
 unfold Jt at h⊢;split
 ·rename_i h1;rw[if_pos h1]at h;cases h
 ·rfl
theorem C46(f:Fs)(i:Int)(s:Str)(t g:Int):(AV.tup [.agg (Ul f i s t g),.bool (Jt f i s t g).2]).okT=true∧B3n (AV.tup [.agg (Ul f i s t g),.bool (Jt f i s t g).2])≤16∧frz (AV.tup [.agg (Ul f i s t g),.bool (Jt f i s t g).2])=.tup [.agg (At (Jt f i s t g).1),.bool (Jt f i s t g).2]:=by
 cases h:(Jt f i s t g).2 with
 |true=>
  rw[Ul,h,if_pos rfl];exact⟨rfl,by show 2≤16;omega,by simp only[frz,Ml,B3,At,List.map_cons,List.map_nil,Ni,rdW,rdS]⟩
 |false=>
  rw[Ul,h,if_neg (by decide),C4f h];exact⟨rfl,by show 0≤16;omega,rfl⟩
theorem B5c:∀{l:List Str} {f:Fs} {i:Nat},Wk f→i<f.nodes.length→((∃d,Yj f d i)∨Js f i=[])→(down f i l).2.2=0→Wk (down f i l).1∧0≤(down f i l).2.1∧(down f i l).2.1.toNat<(down f i l).1.nodes.length
 |[],f,i,hw,hi,hph,h=>by
  rw[down]at h⊢;split
  ·rename_i h1;rw[if_pos h1]at h;cases h
  ·exact⟨hw,by simp,by simpa using hi⟩
 |s::r,f,i,hw,hi,hph,h=>by
  rw[down]at h⊢;split
  ·rename_i h1;rw[if_pos h1]at h;cases h
  rename_i h1;rw[if_neg h1]at h;have hdn:=Wy (f:=f) (i:=i) (by cases hq:(Iu f i).isSome<;>simp_all);split
  ·rename_i h2
   rw[if_pos h2]at h;split
   ·rename_i h3
    rw[if_pos h3]at h;obtain⟨j,hj1,hj2,hj3,_⟩:=C2d h3 hdn;have hnl:=B91 f i s 2;rw[hj1,Int.toNat_natCast]at h⊢;exact B5c (Tn hw) (by omega) (.inr hj3) h
   ·rename_i h3;rw[if_neg h3]at h;cases h
  ·rename_i h2
   rw[if_neg h2]at h;rcases S9 (l:=Gn f i) (s:=s)with e|⟨e,he,_,e1⟩
   ·omega
   ·rcases hph with⟨d,hd⟩|hr
    ·have h8:=(Lw hd).2 _ hdn e he
     have h9:=(Jk (Rf hdn) he).2;rw[e1]at h⊢;exact B5c hw (by omega) (.inl ⟨_,h8.2.2.2⟩) h
    ·exfalso
     have:Gn f i=[]:=by
      unfold Gn Iu;cases hq:f.nodes[i]? with
      |none=>rfl
      |some n=>
       simp only[hr];split<;>rfl
     rw[this]at he;cases he
theorem B8u{f:Fs}:∀{l r:List Str} {i:Nat},Ej f i l<0→Ej f i (l++r)<0
 |[],r,i,h=>by rw[Ej]at h;omega
 |s::l,r,i,h=>by
  rw[Ej]at h;rw[List.cons_append,Ej];split
  ·omega
  ·rename_i m hm
   rw[hm]at h;simp only at h;split
   ·omega
   ·rename_i h2
    rw[if_neg h2]at h;exact B8u h
theorem C6z{f:Fs}{p:Str}(h:¬Ej f 0 (names p)<0):¬Ej f 0 (up p)<0:=fun hu=>h (by
 have:=B8u (f:=f) (l:=up p) (r:=(names p).drop ((names p).length - 1)) (i:=0) hu;rwa[up,List.take_append_drop]at this)
theorem B7k{p:Str}(h1:B4 p=true)(h2:(p==sl)=false):1≤(names p).length:=by
 have:=(Hu h1 h2).2;exact List.length_pos_iff.2 this
theorem A19{p:Str}:(∀s,s∈names p→s.length≤6):=fun s hs=>by
 have:=List.all_eq_true.1 (Ku (p:=p)) s hs;exact(Qg (by simp[Y4,this])).2
theorem C5l(p:Str):(My p).length≤6:=by
 unfold My;rw[List.getLastD_eq_getLast?];cases h:(names p).getLast? with
 |none=>simp
 |some s=>exact A19 s (List.mem_of_getLast? h)
end Go.GH
namespace Go.GH
open Go Go.Proofs
def D6:Bd:=A8 true [.rd [some 5,some 1],mC,mC,mC] (Fs×Nat×En) (fun⟨f,i,e⟩=>[.agg (At f),.int .i64 i,.str e.name,.int .i64 e.node]) (fun x=>Wk x.1∧x.2.1<x.1.nodes.length∧x.2.2.name.length≤1048576) (fun⟨f,i,e⟩=>.tup [.agg (At (enter f i e).1),.bool (enter f i e).2]) (fun _=>[])
def A3v:Env:=⟨A4 B5,A4 [(160,Ei),(171,L4),(193,Fd),(205,G0)],[0,1,2,3,4,8,9,10,12,13,28]⟩
theorem A4a:B6 A3v (Av Tryz.f190) Tryz.f190.results.toList D6:=by
 rintro⟨f,i,e⟩ hx;obtain⟨hw,hi,hn⟩:Wk f∧i<f.nodes.length∧e.name.length≤1048576:=hx;have hsm:=hw.sm;have hnn:=hw.nn;have hr:=hw.read i;obtain⟨d1,d2,d3⟩:=B5w f i;have hdl:Gn f i=(Iu f i).getD []:=rfl;have hae:smE (Gn f i)∧e.name.length≤1048576:=⟨⟨by omega,by omega,fun x hx=>by have:=d2 x hx;omega⟩,hn⟩
 obtain⟨a1,a2,a3⟩:(I4 (Gn f i) e).1.length≤1099511627∧szE (I4 (Gn f i) e).1≤4398046511104∧∀x,x∈(I4 (Gn f i) e).1→x.name.length≤8388608:=by
  unfold I4;split
  ·have h1:=A6d (Gn f i) e
   have h2:=B2v (Gn f i) e;refine⟨by simp only;omega,by simp only;omega,fun x hx=>?_⟩;rcases A6q hx with rfl|h
   ·omega
   ·have:=d2 x h;omega
  ·exact⟨by simp only;omega,by simp only;omega,fun x hx=>by have:=d2 x hx;omega⟩
 refine⟨trivial,?_⟩;have fin:∀{r:Fs×Bool},r=enter f i e→D6.res (f,i,e)=.tup [.agg (At r.1),.bool r.2]:=fun h=>by rw[h];rfl
 skip;refine⟨(f,i),by(repeat' (first|refine By ?_ ?_|refine C2 ?_|refine Bs ?_|refine C0 ?_|exact rfl))<;>simp[rdI,rdO,rdE,rdB,rdN,rdS,rdD,rdW,tkM],fun _=>⟨hsm,hw.inr,hi,by show(Js f i).length≤_;omega⟩,?_⟩;skip;refine⟨(Gn f i,e),by rw[hdl];exact by(repeat' (first|refine By ?_ ?_|refine C2 ?_|refine Bs ?_|refine C0 ?_|exact rfl))<;>simp[rdI,rdO,rdE,rdB,rdN,rdS,rdD,rdW,tkM],fun _=>hae,?_⟩;skip
 (conv=>whnf);refine⟨fun h1=>?_,fun h1=>?_⟩
 ·have h1:(!(I4 (Gn f i) e).2)=true:=h1
  have hd:(f,false)=enter f i e:=by rw[enter];simp at h1;rw[h1];rfl
  skip;rw[fin hd];exact⟨trivial,⟨rfl,rfl,trivial⟩,rfl,trivial⟩
 have h1:(I4 (Gn f i) e).2=true:=by
  have h1:(!(I4 (Gn f i) e).2)=false:=h1;simpa using h1
 have hd:Bh f i (G5 (I4 (Gn f i) e).1)=enter f i e:=by rw[enter,if_pos h1]
 have hdt:=Rt (I4 (Gn f i) e).1;skip;refine⟨(I4 (Gn f i) e).1,by(repeat' (first|refine By ?_ ?_|refine C2 ?_|refine Bs ?_|refine C0 ?_|exact rfl))<;>simp[rdI,rdO,rdE,rdB,rdN,rdS,rdD,rdW,tkM],fun _=>⟨a1,a2,a3⟩,?_⟩;skip;refine⟨(f,(i:Int),G5 (I4 (Gn f i) e).1),by(repeat' (first|refine By ?_ ?_|refine C2 ?_|refine Bs ?_|refine C0 ?_|exact rfl))<;>simp[rdI,rdO,rdE,rdB,rdN,rdS,rdD,rdW,tkM],fun _=>⟨hsm,by show(G5 (I4 (Gn f i) e).1).length≤_;omega⟩,?_⟩;repeat((conv=>whnf);refine⟨(by kernel_rfl:Bu _ _=true),?_⟩)
 rw[fin hd];exact⟨trivial,⟨rfl,rfl,trivial⟩,rfl,trivial⟩
theorem A0t:Au Tryz.prog 190 D6:=Dv (Bx _ _) (FOk.cons Kq (FOk.cons Mm (FOk.cons Pe (FOk.cons A7o FOk.nil)))) mixed Tryz.func190 rfl Tryz.call190 (by decide) (by kernel_rfl) A4a (fun h=>by cases h) (by intro(y:(Fs×Nat×En)) _;first|exact⟨by simp[D6,con,A9,A8,Ad,AV.free,A2,A3,A1,A6,Ae,Ag,Ak,Ay,At,B1,B3,Bb],by simp[D6,con,A9,A8,Ad,AV.free,A2,A3,A1,A6,Ae,Ag,Ak,Ay,At,B1,B3,Bb]⟩|(obtain⟨_,_⟩:=y;exact⟨by simp[D6,con,A9,A8,Ad,AV.free,A2,A3,A1,A6,Ae,Ag,Ak,Ay,At,B1,B3,Bb],by simp[D6,con,A9,A8,Ad,AV.free,A2,A3,A1,A6,Ae,Ag,Ak,Ay,At,B1,B3,Bb]⟩)|(obtain⟨_,_,_⟩:=y;exact⟨by simp[D6,con,A9,A8,Ad,AV.free,A2,A3,A1,A6,Ae,Ag,Ak,Ay,At,B1,B3,Bb],by simp[D6,con,A9,A8,Ad,AV.free,A2,A3,A1,A6,Ae,Ag,Ak,Ay,At,B1,B3,Bb]⟩)) (by intro(y:(Fs×Nat×En)) _;first|(simp[D6,con,A9,A8,Ad,AV.free,A2,A3,A1,A6,Ae,Ag,Ak,Ay,At,B1,B3,Bb];done)|(obtain⟨_,_⟩:=y;simp[D6,con,A9,A8,Ad,AV.free,A2,A3,A1,A6,Ae,Ag,Ak,Ay,At,B1,B3,Bb];done)|(obtain⟨_,_,_⟩:=y;simp[D6,con,A9,A8,Ad,AV.free,A2,A3,A1,A6,Ae,Ag,Ak,Ay,At,B1,B3,Bb];done))
def Dl:Bd:=A8 true [.rd [some 5,some 1],mC,mC] (Fs×Nat×Str) (fun⟨f,i,s⟩=>[.agg (At f),.int .i64 i,.str s]) (fun x=>Wk x.1∧x.2.1<x.1.nodes.length) (fun⟨f,i,s⟩=>.agg (At (C8a f i s))) (fun _=>[])
def A48:Env:=⟨A4 B5,A4 [(160,Ei),(171,L4),(192,Fe),(193,Fd)],[0,1,2,3,6,7,9,11]⟩
theorem A3c:B6 A48 (Av Tryz.f170) Tryz.f170.results.toList Dl:=by
 rintro⟨f,i,s⟩ hx;obtain⟨hw,hi⟩:Wk f∧i<f.nodes.length:=hx;have hsm:=hw.sm;have hnn:=hw.nn;have hr:=hw.read i;obtain⟨d1,d2,d3⟩:=B5w f i;have hdl:Gn f i=(Iu f i).getD []:=rfl;have hsb:(Ia (Gn f i) s).Sublist (Gn f i):=List.eraseP_sublist;have hm2:∀x,x∈Ia (Gn f i) s→x∈Gn f i:=fun x hx=>hsb.subset hx;have hl2:(Ia (Gn f i) s).length≤(Gn f i).length:=hsb.length_le;have hz:szE (Ia (Gn f i) s)≤468:=by
  have key:∀{l m:List En},l.Sublist m→szE l≤szE m:=by
   intro l m h;induction h with
   |slnil=>exact Nat.le_refl _
   |cons a _ ih=>rw[Wi];omega
   |cons_cons a _ ih=>rw[Wi,Wi];omega
  have:=key hsb;omega
 refine⟨trivial,?_⟩;skip;refine⟨(f,i),by(repeat' (first|refine By ?_ ?_|refine C2 ?_|refine Bs ?_|refine C0 ?_|exact rfl))<;>simp[rdI,rdO,rdE,rdB,rdN,rdS,rdD,rdW,tkM],fun _=>⟨hsm,hw.inr,hi,by show(Js f i).length≤_;omega⟩,?_⟩;skip;refine⟨(Gn f i,s),by rw[hdl];exact by(repeat' (first|refine By ?_ ?_|refine C2 ?_|refine Bs ?_|refine C0 ?_|exact rfl))<;>simp[rdI,rdO,rdE,rdB,rdN,rdS,rdD,rdW,tkM],fun _=>by show(Gn f i).length≤_;omega,?_⟩;have hdt:=Rt (Ia (Gn f i) s);skip;refine⟨Ia (Gn f i) s,by(repeat' (first|refine By ?_ ?_|refine C2 ?_|refine Bs ?_|refine C0 ?_|exact rfl))<;>simp[rdI,rdO,rdE,rdB,rdN,rdS,rdD,rdW,tkM],fun _=>⟨by omega,by omega,fun x hx=>by have:=d2 x (hm2 x hx);omega⟩,?_⟩;skip;refine⟨(f,(i:Int),G5 (Ia (Gn f i) s)),by(repeat' (first|refine By ?_ ?_|refine C2 ?_|refine Bs ?_|refine C0 ?_|exact rfl))<;>simp[rdI,rdO,rdE,rdB,rdN,rdS,rdD,rdW,tkM],fun _=>⟨hsm,by show(G5 (Ia (Gn f i) s)).length≤_;omega⟩,?_⟩
 repeat((conv=>whnf);refine⟨(by kernel_rfl:Bu _ _=true),?_⟩)
 exact⟨trivial,rfl,rfl,trivial⟩
theorem A2c:Au Tryz.prog 170 Dl:=Dv (Bx _ _) (FOk.cons Kq (FOk.cons Mm (FOk.cons A3a (FOk.cons Pe FOk.nil)))) mixed Tryz.func170 rfl Tryz.call170 (by decide) (by kernel_rfl) A3c (fun h=>by cases h) (by intro(y:(Fs×Nat×Str)) _;first|exact⟨by simp[Dl,con,A9,A8,Ad,AV.free,A2,A3,A1,A6,Ae,Ag,Ak,Ay,At,B1,B3,Bb],by simp[Dl,con,A9,A8,Ad,AV.free,A2,A3,A1,A6,Ae,Ag,Ak,Ay,At,B1,B3,Bb]⟩|(obtain⟨_,_⟩:=y;exact⟨by simp[Dl,con,A9,A8,Ad,AV.free,A2,A3,A1,A6,Ae,Ag,Ak,Ay,At,B1,B3,Bb],by simp[Dl,con,A9,A8,Ad,AV.free,A2,A3,A1,A6,Ae,Ag,Ak,Ay,At,B1,B3,Bb]⟩)|(obtain⟨_,_,_⟩:=y;exact⟨by simp[Dl,con,A9,A8,Ad,AV.free,A2,A3,A1,A6,Ae,Ag,Ak,Ay,At,B1,B3,Bb],by simp[Dl,con,A9,A8,Ad,AV.free,A2,A3,A1,A6,Ae,Ag,Ak,Ay,At,B1,B3,Bb]⟩)) (by intro(y:(Fs×Nat×Str)) _;first|(simp[Dl,con,A9,A8,Ad,AV.free,A2,A3,A1,A6,Ae,Ag,Ak,Ay,At,B1,B3,Bb];done)|(obtain⟨_,_⟩:=y;simp[Dl,con,A9,A8,Ad,AV.free,A2,A3,A1,A6,Ae,Ag,Ak,Ay,At,B1,B3,Bb];done)|(obtain⟨_,_,_⟩:=y;simp[Dl,con,A9,A8,Ad,AV.free,A2,A3,A1,A6,Ae,Ag,Ak,Ay,At,B1,B3,Bb];done))
def Df:Bd:=A8 true [.rd [some 5,some 1],mC,mC,mC] (Fs×Nat×Str×Int) (fun⟨f,i,s,k⟩=>[.agg (At f),.int .i64 i,.str s,.int .i64 k]) (fun x=>Wk x.1∧x.2.1<x.1.nodes.length∧x.2.2.1.length≤1048576) (fun⟨f,i,s,k⟩=>.tup [.agg (At (Kn f i s k).1),.int .i64 (Kn f i s k).2.1,.bool (Kn f i s k).2.2]) (fun _=>[])
def B1g:Env:=⟨A4 B5,A4 [(189,T9),(190,D6)],[0,1,2,3,4,8,9,10,11,12,13,14,15,24]⟩
theorem B02:B6 B1g (Av Tryz.f166) Tryz.f166.results.toList Df:=by
 rintro⟨f,i,s,k⟩ hx;obtain⟨hw,hi,hn⟩:Wk f∧i<f.nodes.length∧s.length≤1048576:=hx;have hsm:=hw.sm;refine⟨trivial,?_⟩;have fin:∀{r:Fs×Int×Bool},r=Kn f i s k→Df.res (f,i,s,k)=.tup [.agg (At r.1),.int .i64 r.2.1,.bool r.2.2]:=fun h=>by rw[h];rfl
 skip;refine⟨(f,k),by(repeat' (first|refine By ?_ ?_|refine C2 ?_|refine Bs ?_|refine C0 ?_|exact rfl))<;>simp[rdI,rdO,rdE,rdB,rdN,rdS,rdD,rdW,tkM],fun _=>hsm,?_⟩;skip
 (conv=>whnf);refine⟨fun h1=>?_,fun h1=>?_⟩
 ·have h1:(!(C7 f k).2.2)=true:=h1
  have hd:(f, -1,false)=Kn f i s k:=by rw[Kn];simp at h1;rw[h1];rfl
  skip;rw[fin hd];exact⟨trivial,⟨rfl,rfl,trivial⟩,rfl,rfl,trivial⟩
 have h1:(C7 f k).2.2=true:=by
  have h1:(!(C7 f k).2.2)=false:=h1;simpa using h1
 have hd:((enter (C7 f k).1 i ⟨s,(C7 f k).2.1⟩).1,(C7 f k).2.1,(enter (C7 f k).1 i ⟨s,(C7 f k).2.1⟩).2)=Kn f i s k:=by rw[Kn,if_pos h1]
 have hml:=B7z f k;skip;refine⟨((C7 f k).1,i,⟨s,(C7 f k).2.1⟩),by(repeat' (first|refine By ?_ ?_|refine C2 ?_|refine Bs ?_|refine C0 ?_|exact rfl))<;>simp[rdI,rdO,rdE,rdB,rdN,rdS,rdD,rdW,tkM],fun _=>⟨C2l hw,by show i<(C7 f k).1.nodes.length;omega,hn⟩,?_⟩;skip;rw[fin hd];exact⟨trivial,⟨rfl,rfl,trivial⟩,rfl,rfl,trivial⟩
theorem Q0:Au Tryz.prog 166 Df:=Dv (Bx _ _) (FOk.cons A0a (FOk.cons A0t FOk.nil)) mixed Tryz.func166 rfl Tryz.call166 (by decide) (by kernel_rfl) B02 (fun h=>by cases h) (by intro(y:(Fs×Nat×Str×Int)) _;first|exact⟨by simp[Df,con,A9,A8,Ad,AV.free,A2,A3,A1,A6,Ae,Ag,Ak,Ay,At,B1,B3,Bb],by simp[Df,con,A9,A8,Ad,AV.free,A2,A3,A1,A6,Ae,Ag,Ak,Ay,At,B1,B3,Bb]⟩|(obtain⟨_,_⟩:=y;exact⟨by simp[Df,con,A9,A8,Ad,AV.free,A2,A3,A1,A6,Ae,Ag,Ak,Ay,At,B1,B3,Bb],by simp[Df,con,A9,A8,Ad,AV.free,A2,A3,A1,A6,Ae,Ag,Ak,Ay,At,B1,B3,Bb]⟩)|(obtain⟨_,_,_⟩:=y;exact⟨by simp[Df,con,A9,A8,Ad,AV.free,A2,A3,A1,A6,Ae,Ag,Ak,Ay,At,B1,B3,Bb],by simp[Df,con,A9,A8,Ad,AV.free,A2,A3,A1,A6,Ae,Ag,Ak,Ay,At,B1,B3,Bb]⟩)) (by intro(y:(Fs×Nat×Str×Int)) _;first|(simp[Df,con,A9,A8,Ad,AV.free,A2,A3,A1,A6,Ae,Ag,Ak,Ay,At,B1,B3,Bb];done)|(obtain⟨_,_⟩:=y;simp[Df,con,A9,A8,Ad,AV.free,A2,A3,A1,A6,Ae,Ag,Ak,Ay,At,B1,B3,Bb];done)|(obtain⟨_,_,_⟩:=y;simp[Df,con,A9,A8,Ad,AV.free,A2,A3,A1,A6,Ae,Ag,Ak,Ay,At,B1,B3,Bb];done))
def Dc:Bd:=A8 true [.rd [some 5,some 1],mC,mC,mC,mC] (Fs×Int×Str×Int×Int) (fun⟨f,i,s,t,g⟩=>[.agg (At f),.int .i64 i,.str s,.int .i64 t,.int .i64 g]) (fun x=>smF x.1∧x.2.2.1.length≤4611686018427387904) (fun⟨f,i,s,t,g⟩=>.tup [.agg (Ul f i s t g),.bool (Jt f i s t g).2]) (fun _=>[])
def A70:Env:=⟨A4 B5,A4 [(171,Do)],[0,1,2,3,4,5,10,11,12,13,22]⟩
theorem A67:B6 A70 (Av Tryz.f168) Tryz.f168.results.toList Dc:=by
 rintro⟨f,i,s,t,g⟩ hx;obtain⟨hsm,hn⟩:smF f∧s.length≤4611686018427387904:=hx;refine⟨trivial,?_⟩;skip;refine⟨(f,i,s),by(repeat' (first|refine By ?_ ?_|refine C2 ?_|refine Bs ?_|refine C0 ?_|exact rfl))<;>simp[rdI,rdO,rdE,rdB,rdN,rdS,rdD,rdW,tkM],fun _=>⟨hsm,hn⟩,?_⟩;skip
 (conv=>whnf);refine⟨fun h1=>?_,fun h1=>?_⟩
 ·have h1:(!(Bh f i s).2)=true:=h1
  have hd:(Jt f i s t g).2=false:=by rw[Jt];simp at h1;rw[h1];rfl
  skip;rw[show Dc.res (f,i,s,t,g)=.tup [.agg (At f),.bool false] by
   show AV.tup [.agg (Ul f i s t g),.bool (Jt f i s t g).2]=_;rw[Ul,hd];rfl]
  exact⟨trivial,⟨rfl,rfl,trivial⟩,rfl,trivial⟩
 have h1:(Bh f i s).2=true:=by
  have h1:(!(Bh f i s).2)=false:=h1;simpa using h1
 have hin:Oy f i s=true:=by
  unfold Bh at h1;split at h1
  ·assumption
  ·cases h1
 have hin2:isN f i=true:=by
  simp only[Oy,Bool.and_eq_true]at hin;exact hin.1.1
 obtain⟨hsh,hi0,hil,hni,_⟩:=B4x hin2;have hfn:Jt f i s t g=(⟨(Bh f i s).1.nodes.set i.toNat (B2t (I8 (Bh f i s).1 i) t g),(Bh f i s).1.data⟩,true):=by rw[Jt,if_pos h1]
 have hwl:=B3o f i s;obtain⟨y,hy⟩:=B7 (l:=(Bh f i s).1.nodes) (i:=i.toNat) (by omega);have hy2:I8 (Bh f i s).1 i=y:=by rw[I8,List.getD_eq_getElem?_getD,hy];rfl
 rw[hy2]at hfn;have hy3:(((Bh f i s).1.nodes.map B1).drop 0).take (((Bh f i s).1.nodes.map B1)).length=(Bh f i s).1.nodes.map B1:=by simp
 have hsl:i.toNat<((Bh f i s).1.nodes.map B1).length:=by rw[List.length_map];omega
 repeat((conv=>whnf);first|refine⟨bb,?_⟩|refine⟨B1 y,by rw[hy3,Nat.zero_add];exact Ao hy,?_⟩|refine⟨fun _=>⟨by omega,by rw[List.length_set,hy3];omega⟩,?_⟩|refine⟨(B1 y).set (0+2) (.int .i64 t),by rw[hy3,Nat.zero_add];exact List.getElem?_set_self hsl,?_⟩)
 rw[show Dc.res (f,i,s,t,g)=.tup [.agg [.own 5 (((Bh f i s).1.nodes.map B1).set i.toNat (B1 (B2t y t g))),.own 1 ((Bh f i s).1.data.map A6)],.bool true] by
  show AV.tup [.agg (Ul f i s t g),.bool (Jt f i s t g).2]=_;rw[Ul,hfn,if_pos rfl,B3,List.map_set]]
 refine⟨trivial,⟨⟨rfl,?_⟩,⟨rfl,?_⟩,trivial⟩,rfl,trivial⟩;all_goals simp[List.take_of_length_le,B1,B2t]
theorem A3x:Au Tryz.prog 168 Dc:=Dv (Bx _ _) (FOk.cons Rp FOk.nil) mixed Tryz.func168 rfl Tryz.call168 (by decide) (by kernel_rfl) A67 (fun h=>by cases h) (by intro(y:(Fs×Int×Str×Int×Int)) _;first|exact⟨by simp[Dc,con,A9,A8,Ad,AV.free,A2,A3,A1,A6,Ae,Ag,Ak,Ay,At,B1,B3,Bb],by simp[Dc,con,A9,A8,Ad,AV.free,A2,A3,A1,A6,Ae,Ag,Ak,Ay,At,B1,B3,Bb]⟩|(obtain⟨_,_⟩:=y;exact⟨by simp[Dc,con,A9,A8,Ad,AV.free,A2,A3,A1,A6,Ae,Ag,Ak,Ay,At,B1,B3,Bb],by simp[Dc,con,A9,A8,Ad,AV.free,A2,A3,A1,A6,Ae,Ag,Ak,Ay,At,B1,B3,Bb]⟩)|(obtain⟨_,_,_⟩:=y;exact⟨by simp[Dc,con,A9,A8,Ad,AV.free,A2,A3,A1,A6,Ae,Ag,Ak,Ay,At,B1,B3,Bb],by simp[Dc,con,A9,A8,Ad,AV.free,A2,A3,A1,A6,Ae,Ag,Ak,Ay,At,B1,B3,Bb]⟩)) (by intro(y:(Fs×Int×Str×Int×Int)) _;first|(simp[Dc,con,A9,A8,Ad,AV.free,A2,A3,A1,A6,Ae,Ag,Ak,Ay,At,B1,B3,Bb];done)|(obtain⟨_,_⟩:=y;simp[Dc,con,A9,A8,Ad,AV.free,A2,A3,A1,A6,Ae,Ag,Ak,Ay,At,B1,B3,Bb];done)|(obtain⟨_,_,_⟩:=y;simp[Dc,con,A9,A8,Ad,AV.free,A2,A3,A1,A6,Ae,Ag,Ak,Ay,At,B1,B3,Bb];done))
def Pa:Bd:={Dc with sh:=true,res:=fun((f,i,s,t,g):Fs×Int×Str×Int×Int)=>.tup [.agg (At (Jt f i s t g).1),.bool (Jt f i s t g).2]}
theorem Ta:Au Tryz.prog 168 Pa:=J2 _ A3x (fun _=>rfl) rfl (fun(f,i,s,t,g) _=>C46 f i s t g)
def Dp:Bd:=A8 true [.rd [some 5,some 1],mS 1] (Fs×List Str) (fun⟨f,l⟩=>[.agg (At f),.rd 1 (l.map A6)]) (fun x=>Ki x.1=true∧x.2.length≤1048576∧∀s,s∈x.2→s.length≤1048576) (fun⟨f,l⟩=>.tup [.agg (At (down f 0 l).1),.int .i64 (down f 0 l).2.1,.int .i64 (down f 0 l).2.2]) (fun _=>[])
def A88:Env:=⟨A4 B5,A4 [(160,Ei),(166,Df),(188,G3)],[0,1,2,4,5,6,7,8,9,10,11,12,13,14,18,28,37,50,61]⟩
theorem A5b:B6 A88 (Av Tryz.f165) Tryz.f165.results.toList Dp:=by
 rintro⟨f,l⟩ hx;obtain⟨hok,hl,hls⟩:Ki f=true∧l.length≤1048576∧∀s,s∈l→s.length≤1048576:=hx;obtain⟨hsh,_,hat⟩:=Rk hok;have hnn:=hsh.nn;refine⟨trivial,?_⟩;have fin:∀{r:Fs×Int×Int},r=down f 0 l→Dp.res (f,l)=.tup [.agg (At r.1),.int .i64 r.2.1,.int .i64 r.2.2]:=fun h=>by rw[h];rfl
 skip;refine B2 (fun((k,f',i):Nat×Fs×Nat)=>⟨[(1,⟨none,.rd 1 (l.map A6)⟩),(2,⟨none,.bx 0 0⟩),(4,⟨none,.bx 1 0⟩),(7,⟨none,.int .i64 i⟩),(8,⟨none,.int .i64 k⟩)],[(0,.own 2 [At f']),(1,.own 2 [[.own 5 [],.own 1 []]])],2⟩)
  (fun(k,f',i)=>k≤l.length∧Wk f'∧i<f'.nodes.length∧((∃d,Yj f' d i)∨Js f' i=[])∧down f' i (l.drop k)=down f 0 l) (fun x=>l.length - x.1) (0,f,0) ?_ ⟨Nat.zero_le _,hsh.wk,by show 0<f.nodes.length;omega,.inl ⟨5,hat⟩,by rw[List.drop_zero]⟩ ?_
 ·(refine⟨?_,?_,rfl⟩<;>repeat' (first|exact rfl|exact trivial|refine⟨?_,?_⟩|fail)<;>(conv=>whnf))
 rintro⟨k,f',i⟩ ⟨hk,hw,hi,hph,hI⟩;have hwn:=hw.nn
 (conv=>whnf);refine⟨fun h1=>?_,fun h1=>?_⟩
 ·have h1:k<l.length:=by simpa using h1
  obtain⟨s,hs⟩:=B7 h1;have hss:=hls s (List.mem_of_getElem? hs);have hdr:l.drop k=s::l.drop (k+1):=by
   rw[List.drop_eq_getElem_cons h1];rw[List.getElem?_eq_getElem h1]at hs;rw[Option.some.inj hs]
  rw[hdr,down]at hI;have hrl:=hw.read i;obtain⟨d1,d2,d3⟩:=B5w f' i;have hdl:Gn f' i=(Iu f' i).getD []:=rfl;skip;refine⟨(f',i),by(repeat' (first|refine By ?_ ?_|refine C2 ?_|refine Bs ?_|refine C0 ?_|exact rfl))<;>simp[rdI,rdO,rdE,rdB,rdN,rdS,rdD,rdW,tkM],fun _=>⟨hw.sm,hw.inr,hi,by show(Js f' i).length≤_;omega⟩,?_⟩;skip
  (conv=>whnf);refine⟨fun h3=>?_,fun h3=>?_⟩
  ·have h3:(!(Iu f' i).isSome)=true:=h3
   rw[if_pos h3]at hI;skip;rw[fin hI];exact⟨trivial,⟨rfl,rfl,trivial⟩,rfl,rfl,trivial⟩
  have h3:(!(Iu f' i).isSome)=false:=h3;rw[if_neg (by rw[h3];decide)]at hI;have hdn:=Wy (f:=f') (i:=i) (by simpa using h3);repeat((conv=>whnf);refine⟨A6 s,fun _=>⟨by omega,Ao hs⟩,?_⟩)
  refine⟨(Gn f' i,s),by rw[hdl];exact by(repeat' (first|refine By ?_ ?_|refine C2 ?_|refine Bs ?_|refine C0 ?_|exact rfl))<;>simp[rdI,rdO,rdE,rdB,rdN,rdS,rdD,rdW,tkM],fun _=>by show(Gn f' i).length≤_;omega,?_⟩;have hdm:=S9 (l:=Gn f' i) (s:=s);skip
  (conv=>whnf);refine⟨fun h4=>?_,fun h4=>?_⟩
  ·have h4:decide (Ge (Gn f' i) s<0)=true:=h4
   rw[if_pos (by simpa using h4)]at hI;repeat((conv=>whnf);refine⟨A6 s,fun _=>⟨by omega,Ao hs⟩,?_⟩)
   refine⟨(f',i,s,2),by(repeat' (first|refine By ?_ ?_|refine C2 ?_|refine Bs ?_|refine C0 ?_|exact rfl))<;>simp[rdI,rdO,rdE,rdB,rdN,rdS,rdD,rdW,tkM],fun _=>⟨hw,hi,hss⟩,?_⟩;have hno:=C2d (f:=f') (i:=i) (s:=s) (k:=2) (l:=(Iu f' i).getD []);have hnw:=Tn (i:=i) (s:=s) (k:=2) hw;have hnl:=B91 f' i s 2;repeat((conv=>whnf);refine⟨(by kernel_rfl:Bu _ _=true),?_⟩)
   (conv=>whnf);refine⟨fun h5=>?_,fun h5=>?_⟩
   ·have h5:(!(Kn f' i s 2).2.2)=true:=h5
    rw[if_neg (by simpa using h5)]at hI;skip;rw[fin hI];exact⟨trivial,⟨rfl,rfl,trivial⟩,rfl,rfl,trivial⟩
   have h5:(Kn f' i s 2).2.2=true:=by
    have h5:(!(Kn f' i s 2).2.2)=false:=h5;simpa using h5
   rw[if_pos h5]at hI;obtain⟨j,hj1,hj2,hj3,hj4⟩:=hno h5 hdn;rw[hj1,Int.toNat_natCast]at hI;repeat((conv=>whnf);refine⟨_,w64 (bb),?_⟩)
   refine Bt (k+1,(Kn f' i s 2).1,j) ?_ ⟨h1,hnw,by show j<(Kn f' i s 2).1.nodes.length;omega,.inr hj3,hI⟩ (by first|omega|(simp;done)|(simp;omega))
   (refine⟨?_,?_,rfl⟩<;>repeat' (first|exact rfl|exact trivial|refine⟨?_,?_⟩|fail)<;>(conv=>whnf))
   all_goals exact hj1
  have h4:decide (Ge (Gn f' i) s<0)=false:=h4;have h4':¬Ge (Gn f' i) s<0:=by simpa using h4
  rw[if_neg h4']at hI;obtain⟨hq1,hq2⟩:(Ge (Gn f' i) s).toNat<f'.nodes.length∧∃d,Yj f' d (Ge (Gn f' i) s).toNat:=by
   rcases hdm with e|⟨e,he,_,e1⟩
   ·omega
   ·rcases hph with⟨d,hd⟩|hr
    ·have h8:=(Lw hd).2 _ hdn e he
     rw[e1];have h9:=(Jk (Rf hdn) he).2;exact⟨by omega,_,h8.2.2.2⟩
    ·exfalso
     have:Gn f' i=[]:=by
      unfold Gn Iu;cases hq:f'.nodes[i]? with
      |none=>rfl
      |some n=>
       simp only[hr];split<;>rfl
     rw[this]at he;cases he
  repeat((conv=>whnf);refine⟨_,w64 (bb),?_⟩)
  refine Bt (k+1,f',(Ge (Gn f' i) s).toNat) ?_ ⟨h1,hw,hq1,.inl hq2,hI⟩ (by first|omega|(simp;done)|(simp;omega))
  (refine⟨?_,?_,rfl⟩<;>repeat' (first|exact rfl|exact trivial|refine⟨?_,?_⟩|fail)<;>(conv=>whnf))
  all_goals (show Ge (Gn f' i) s=(((Ge (Gn f' i) s).toNat:Nat):Int);omega)
 have h1:k=l.length:=by have:¬(k<l.length):=by simpa using h1
                        omega
 subst h1;rw[List.drop_length,down]at hI;obtain⟨n,hn⟩:=B7 hi;rw[P7 hn]at hI;repeat((conv=>whnf);refine⟨Ay n,fun _=>⟨by omega,Ao hn⟩,?_⟩)
 (conv=>whnf);refine⟨fun h2=>?_,fun h2=>?_⟩
 ·have h2:(n.kind !=2)=true:=h2
  rw[if_pos h2]at hI;skip;rw[fin hI];exact⟨trivial,⟨rfl,rfl,trivial⟩,rfl,rfl,trivial⟩
 have h2:(n.kind !=2)=false:=h2;rw[if_neg (by rw[h2];decide)]at hI;skip;rw[fin hI];exact⟨trivial,⟨rfl,rfl,trivial⟩,rfl,rfl,trivial⟩
theorem A40:Au Tryz.prog 165 Dp:=Dv (Bx _ _) (FOk.cons Kq (FOk.cons Q0 (FOk.cons Uf FOk.nil))) mixed Tryz.func165 rfl Tryz.call165 (by decide) (by kernel_rfl) A5b (fun h=>by cases h) (by intro(y:(Fs×List Str)) _;first|exact⟨by simp[Dp,con,A9,A8,Ad,AV.free,A2,A3,A1,A6,Ae,Ag,Ak,Ay,At,B1,B3,Bb],by simp[Dp,con,A9,A8,Ad,AV.free,A2,A3,A1,A6,Ae,Ag,Ak,Ay,At,B1,B3,Bb]⟩|(obtain⟨_,_⟩:=y;exact⟨by simp[Dp,con,A9,A8,Ad,AV.free,A2,A3,A1,A6,Ae,Ag,Ak,Ay,At,B1,B3,Bb],by simp[Dp,con,A9,A8,Ad,AV.free,A2,A3,A1,A6,Ae,Ag,Ak,Ay,At,B1,B3,Bb]⟩)|(obtain⟨_,_,_⟩:=y;exact⟨by simp[Dp,con,A9,A8,Ad,AV.free,A2,A3,A1,A6,Ae,Ag,Ak,Ay,At,B1,B3,Bb],by simp[Dp,con,A9,A8,Ad,AV.free,A2,A3,A1,A6,Ae,Ag,Ak,Ay,At,B1,B3,Bb]⟩)) (by intro(y:(Fs×List Str)) _;first|(simp[Dp,con,A9,A8,Ad,AV.free,A2,A3,A1,A6,Ae,Ag,Ak,Ay,At,B1,B3,Bb];done)|(obtain⟨_,_⟩:=y;simp[Dp,con,A9,A8,Ad,AV.free,A2,A3,A1,A6,Ae,Ag,Ak,Ay,At,B1,B3,Bb];done)|(obtain⟨_,_,_⟩:=y;simp[Dp,con,A9,A8,Ad,AV.free,A2,A3,A1,A6,Ae,Ag,Ak,Ay,At,B1,B3,Bb];done))
def Iq:Bd:=con [mC] true Str A6 (fun l=>sml l.length) (fun l=>.str (My l))
def B8c:Env:=⟨A4 B5,A4 [(85,Ek)],[0,2,3,8]⟩
theorem B8i:B6 B8c (Av Tryz.f167) Tryz.f167.results.toList Iq:=by
 intro(s:Str) hs;have hs:s.length≤4194304:=hs;refine⟨trivial,?_⟩;conv=>whnf
 refine⟨s,rfl,fun _=>hs,?_⟩;skip;have hnl:=Gv (p:=s)
 (conv=>whnf);refine⟨fun h1=>?_,fun h1=>?_⟩
 ·have h1:names s=[]:=by simpa using h1
  skip;exact⟨trivial,eqS (by show _=My s;rw[My,h1];rfl)⟩
 have h1:names s≠[]:=by simpa using h1
 have hp:=List.length_pos_iff.2 h1;obtain⟨b,hb⟩:=B7 (l:=names s) (i:=(names s).length - 1) (by omega);have hl:My s=b:=by rw[My,List.getLastD_eq_getLast?,List.getLast?_eq_getElem?,hb];rfl
 have hml:((names s).map A6).length=(names s).length:=List.length_map _;repeat((conv=>whnf);first|refine⟨_,w64 (bb),?_⟩|refine⟨bb,?_⟩|refine⟨A6 b,fun _=>by show((names s).map A6)[0+(((((names s).map A6).length:Nat):Int) - 1).toNat]? =_;rw[hml,show 0+(((names s).length:Int) - 1).toNat=(names s).length - 1 by omega];exact Ao hb,?_⟩)
 exact⟨trivial,eqS hl.symm⟩
theorem Ub:Au Tryz.prog 167 Iq:=Al (Bx _ _) (FOk.cons Kv FOk.nil) mixed Tryz.func167 rfl Tryz.call167 (by decide) (by kernel_rfl) B8i (by intro _ (y:Str) _;exact⟨by simp[Iq,con,A9,A8,AV.noRd,A7,Ab,A5,A6],by simp[Iq,con,A9,A8,AV.noRd,A7,Ab,A5,A6]⟩) (by intro(y:Str) _;first|(simp[Iq,con,A9,A8,Ad,AV.free,A2,A3,A1,A6];done)|(obtain⟨_,_⟩:=y;simp[Iq,con,A9,A8,Ad,AV.free,A2,A3,A1,A6];done)|(obtain⟨_,_,_⟩:=y;simp[Iq,con,A9,A8,Ad,AV.free,A2,A3,A1,A6];done))
def Ot:Bd:={Ek with sh:=true,res:=fun(s:Str)=>.rd 1 ((names s).map A6)}
theorem Q8:Au Tryz.prog 85 Ot:=J2 _ Kv (fun _=>rfl) rfl (fun s _=>⟨rfl,by show 1≤16;omega,by simp only[Ek,con,frz,Ml,Ni,rdS]⟩)
def Ea:Bd:=A8 true [.rd [some 5,some 1],mC,mC,mC,mC,mC] (Fs×Str×Int×Str×Int×Int) (fun⟨f,p,k,s,t,g⟩=>[.agg (At f),.str p,.int .i64 k,.str s,.int .i64 t,.int .i64 g]) (fun x=>smF x.1∧x.2.1.length≤1048576∧x.2.2.2.1.length≤1048576) (fun⟨f,p,k,s,t,g⟩=>.tup [.agg (At (P9 f p k s t g).1),.int .i64 (P9 f p k s t g).2]) (fun _=>[])
def B1m:Env:=⟨A4 B5,A4 [(75,D3),(76,Ch),(85,Ot),(120,Gj),(162,Li),(163,Gg),(164,Eu),(165,Dp),(166,Df),(167,Iq),(168,Pa)],[0,1,2,3,4,5,6,12,13,14,15,16,17,18,19,20,52,60,64,71,85,100,113]⟩
theorem A8y:B6 B1m (Av Tryz.f124) Tryz.f124.results.toList Ea:=by
 rintro⟨f,p,k,s,t,g⟩ hx;obtain⟨hsm,hpl,hsl⟩:smF f∧p.length≤1048576∧s.length≤1048576:=hx;have hnl:=hsm.1;refine⟨trivial,?_⟩;have fin:∀{r:Fs×Int},r=P9 f p k s t g→Ea.res (f,p,k,s,t,g)=.tup [.agg (At r.1),.int .i64 r.2]:=fun h=>by rw[h];rfl
 have hI:=(P9.eq_1 f p k s t g).symm;skip;refine⟨f,by(repeat' (first|refine By ?_ ?_|refine C2 ?_|refine Bs ?_|refine C0 ?_|exact rfl))<;>simp[rdI,rdO,rdE,rdB,rdN,rdS,rdD,rdW,tkM],fun _=>hsm,?_⟩;skip;refine⟨f,by(repeat' (first|refine By ?_ ?_|refine C2 ?_|refine Bs ?_|refine C0 ?_|exact rfl))<;>simp[rdI,rdO,rdE,rdB,rdN,rdS,rdD,rdW,tkM],fun _=>hsm,?_⟩;repeat((conv=>whnf);first|refine⟨fun h=>h,?_⟩|refine⟨(_,_,_),rfl,fun _=>trivial,?_⟩|refine⟨(_,_),rfl,fun _=>trivial,?_⟩)
 (conv=>whnf);refine⟨fun h1=>?_,fun h1=>?_⟩
 ·have h1:(!Ki f|| !inB k 1 3|| !B3r t g||(k==2&&(!(s==[])||t !=0||g !=0)))=true:=h1
  rw[if_pos h1]at hI;skip;rw[fin hI];exact⟨trivial,⟨rfl,rfl,trivial⟩,rfl,trivial⟩
 have h1:(!Ki f|| !inB k 1 3|| !B3r t g||(k==2&&(!(s==[])||t !=0||g !=0)))=false:=h1;rw[if_neg (by rw[h1];decide)]at hI;have hok:Ki f=true:=by revert h1;cases Ki f<;>simp
 skip;refine⟨p,rfl,fun _=>by show p.length≤_;omega,?_⟩;repeat((conv=>whnf);refine⟨fun h=>h,?_⟩)
 (conv=>whnf);refine⟨fun h2=>?_,fun h2=>?_⟩
 ·have h2:(!B4 p||p==sl)=true:=h2
  rw[if_pos h2]at hI;skip;rw[fin hI];exact⟨trivial,⟨rfl,rfl,trivial⟩,rfl,trivial⟩
 have h2:(!B4 p||p==sl)=false:=h2;rw[if_neg (by rw[h2];decide)]at hI;rw[Bool.or_eq_false_iff]at h2;have hn1:=B7k (by simpa using h2.1) h2.2;have hn4:=Gv (p:=p);have hn6:=A19 (p:=p);skip
 (conv=>whnf);refine⟨fun h3=>?_,fun h3=>?_⟩
 ·have h3:decide ((s.length:Int)>80)=true:=h3
  rw[if_pos h3]at hI;skip;rw[fin hI];exact⟨trivial,⟨rfl,rfl,trivial⟩,rfl,trivial⟩
 have h3:decide ((s.length:Int)>80)=false:=h3;rw[if_neg (by rw[h3];decide)]at hI;skip;refine⟨p,rfl,fun _=>by show p.length≤_;omega,?_⟩;skip;refine⟨(f,names p),by(repeat' (first|refine By ?_ ?_|refine C2 ?_|refine Bs ?_|refine C0 ?_|exact rfl))<;>simp[rdI,rdO,rdE,rdB,rdN,rdS,rdD,rdW,tkM],fun _=>⟨hok,by show(names p).length≤_;omega⟩,?_⟩;skip
 (conv=>whnf);refine⟨fun h4=>?_,fun h4=>?_⟩
 ·have h4:decide (Ej f 0 (names p)≥0)=true:=h4
  rw[if_pos h4]at hI;skip;rw[fin hI];exact⟨trivial,⟨rfl,rfl,trivial⟩,rfl,trivial⟩
 have h4:decide (Ej f 0 (names p)≥0)=false:=h4;rw[if_neg (by rw[h4];decide)]at hI;obtain⟨hsh,_,hat⟩:=Rk hok;have hnn:=hsh.nn;have hup:∀x,x∈up p→x.length≤6:=fun x hx=>hn6 x (List.mem_of_mem_take hx);have hul:(up p).length≤4:=by rw[up,List.length_take];omega
 repeat((conv=>whnf);first|refine⟨_,w64 (bb),?_⟩|refine⟨fun _=>⟨bb,bb,bb⟩,?_⟩)
 refine⟨(f,up p),by
  refine By ?_ (By (Bs ?_) rfl)
  ·exact by(repeat' (first|refine By ?_ ?_|refine C2 ?_|refine Bs ?_|refine C0 ?_|exact rfl))<;>simp[rdI,rdO,rdE,rdB,rdN,rdS,rdD,rdW,tkM]
  ·rw[show(((((names p).map A6).length:Nat):Int) - 1).toNat=(names p).length - 1 by rw[List.length_map];omega]
   simp[up,List.map_take],fun _=>⟨hok,by show(up p).length≤_;omega,fun x hx=>by have:=hup x hx;omega⟩,?_⟩
 have hdk:=B5c (l:=up p) hsh.wk (i:=0) (by omega) (.inl ⟨5,hat⟩);repeat((conv=>whnf);refine⟨(by kernel_rfl:Bu _ _=true),?_⟩)
 (conv=>whnf);refine⟨fun h5=>?_,fun h5=>?_⟩
 ·have h5:((down f 0 (up p)).2.2 !=0)=true:=h5
  rw[mk2,if_pos h5]at hI;skip;refine⟨f,by(repeat' (first|refine By ?_ ?_|refine C2 ?_|refine Bs ?_|refine C0 ?_|exact rfl))<;>simp[rdI,rdO,rdE,rdB,rdN,rdS,rdD,rdW,tkM],fun _=>hsm,?_⟩;skip;rw[fin hI];exact⟨trivial,⟨rfl,rfl,trivial⟩,rfl,trivial⟩
 have h5:((down f 0 (up p)).2.2 !=0)=false:=h5;rw[mk2,if_neg (by rw[h5];decide)]at hI;obtain⟨w1,w2,w3⟩:=hdk (by simpa using h5);have hl6:=C5l p;skip;refine⟨p,rfl,fun _=>by show p.length≤_;omega,?_⟩;skip;refine⟨((down f 0 (up p)).1,(down f 0 (up p)).2.1.toNat,My p,k),by
  refine By ?_ (By ?_ (By rfl (By rfl rfl)))
  ·exact by(repeat' (first|refine By ?_ ?_|refine C2 ?_|refine Bs ?_|refine C0 ?_|exact rfl))<;>simp[rdI,rdO,rdE,rdB,rdN,rdS,rdD,rdW,tkM]
  ·show AV.int .i64 (down f 0 (up p)).2.1=.int .i64 (((down f 0 (up p)).2.1.toNat:Nat):Int);congr 1;omega,fun _=>⟨w1,w3,by show(My p).length≤_;omega⟩,?_⟩
 have hnw:=Tn (i:=(down f 0 (up p)).2.1.toNat) (s:=My p) (k:=k) w1;repeat((conv=>whnf);refine⟨(by kernel_rfl:Bu _ _=true),?_⟩)
 (conv=>whnf);refine⟨fun h6=>?_,fun h6=>?_⟩
 ·have h6:(!(Kn (down f 0 (up p)).1 (down f 0 (up p)).2.1.toNat (My p) k).2.2)=true:=h6
  rw[mk3,if_pos h6]at hI;skip;refine⟨f,by(repeat' (first|refine By ?_ ?_|refine C2 ?_|refine Bs ?_|refine C0 ?_|exact rfl))<;>simp[rdI,rdO,rdE,rdB,rdN,rdS,rdD,rdW,tkM],fun _=>hsm,?_⟩;skip;rw[fin hI];exact⟨trivial,⟨rfl,rfl,trivial⟩,rfl,trivial⟩
 have h6:(!(Kn (down f 0 (up p)).1 (down f 0 (up p)).2.1.toNat (My p) k).2.2)=false:=h6;rw[mk3,if_neg (by rw[h6];decide)]at hI;generalize hN:Kn (down f 0 (up p)).1 (down f 0 (up p)).2.1.toNat (My p) k=N at hI hnw;skip;refine⟨(N.1,N.2.1,s,t,g),by rw[←hN];exact by(repeat' (first|refine By ?_ ?_|refine C2 ?_|refine Bs ?_|refine C0 ?_|exact rfl))<;>simp[rdI,rdO,rdE,rdB,rdN,rdS,rdD,rdW,tkM],fun _=>⟨hnw.sm,by show s.length≤_;omega⟩,?_⟩;skip
 (conv=>whnf);refine⟨fun h7=>?_,fun h7=>?_⟩
 ·have h7:(!(Jt N.1 N.2.1 s t g).2)=true:=h7
  rw[wr2,if_pos h7]at hI;skip;refine⟨f,by(repeat' (first|refine By ?_ ?_|refine C2 ?_|refine Bs ?_|refine C0 ?_|exact rfl))<;>simp[rdI,rdO,rdE,rdB,rdN,rdS,rdD,rdW,tkM],fun _=>hsm,?_⟩;skip;rw[fin hI];exact⟨trivial,⟨rfl,rfl,trivial⟩,rfl,trivial⟩
 have h7:(!(Jt N.1 N.2.1 s t g).2)=false:=h7;rw[wr2,if_neg (by rw[h7];decide)]at hI;skip;rw[fin hI];exact⟨trivial,⟨rfl,rfl,trivial⟩,rfl,trivial⟩
theorem A5j:Au Tryz.prog 124 Ea:=Dv (Bx _ _) (FOk.cons Gb (FOk.cons Di (FOk.cons Q8 (FOk.cons N1 (FOk.cons Mj (FOk.cons Ug (FOk.cons N7 (FOk.cons A40 (FOk.cons Q0 (FOk.cons Ub (FOk.cons Ta FOk.nil))))))))))) mixed Tryz.func124 rfl Tryz.call124 (by decide) (by kernel_rfl) A8y (fun h=>by cases h) (by intro(y:(Fs×Str×Int×Str×Int×Int)) _;first|exact⟨by simp[Ea,con,A9,A8,Ad,AV.free,A2,A3,A1,A6,Ae,Ag,Ak,Ay,At,B1,B3],by simp[Ea,con,A9,A8,Ad,AV.free,A2,A3,A1,A6,Ae,Ag,Ak,Ay,At,B1,B3]⟩|(obtain⟨_,_⟩:=y;exact⟨by simp[Ea,con,A9,A8,Ad,AV.free,A2,A3,A1,A6,Ae,Ag,Ak,Ay,At,B1,B3],by simp[Ea,con,A9,A8,Ad,AV.free,A2,A3,A1,A6,Ae,Ag,Ak,Ay,At,B1,B3]⟩)|(obtain⟨_,_,_⟩:=y;exact⟨by simp[Ea,con,A9,A8,Ad,AV.free,A2,A3,A1,A6,Ae,Ag,Ak,Ay,At,B1,B3],by simp[Ea,con,A9,A8,Ad,AV.free,A2,A3,A1,A6,Ae,Ag,Ak,Ay,At,B1,B3]⟩)) (by intro(y:(Fs×Str×Int×Str×Int×Int)) _;first|(simp[Ea,con,A9,A8,Ad,AV.free,A2,A3,A1,A6,Ae,Ag,Ak,Ay,At,B1,B3];done)|(obtain⟨_,_⟩:=y;simp[Ea,con,A9,A8,Ad,AV.free,A2,A3,A1,A6,Ae,Ag,Ak,Ay,At,B1,B3];done)|(obtain⟨_,_,_⟩:=y;simp[Ea,con,A9,A8,Ad,AV.free,A2,A3,A1,A6,Ae,Ag,Ak,Ay,At,B1,B3];done))
def F1:Bd:=A8 true [.rd [some 5,some 1],mC,mC,mC,mC] (Fs×Str×Str×Int×Int) (fun⟨f,p,s,t,g⟩=>[.agg (At f),.str p,.str s,.int .i64 t,.int .i64 g]) (fun x=>smF x.1∧x.2.1.length≤1048576∧x.2.2.1.length≤1048576) (fun⟨f,p,s,t,g⟩=>.tup [.agg (At (A2e f p s t g).1),.int .i64 (A2e f p s t g).2]) (fun _=>[])
def B6u:Env:=⟨A4 B5,A4 [(75,D3),(85,Ot),(120,Gj),(162,Li),(163,Gg),(164,Eu),(168,Pa)],[0,1,2,3,4,5,10,11,12,13,14,15,26,30,37,45,49,61]⟩
theorem B65:B6 B6u (Av Tryz.f125) Tryz.f125.results.toList F1:=by
 rintro⟨f,p,s,t,g⟩ hx;obtain⟨hsm,hpl,hsl⟩:smF f∧p.length≤1048576∧s.length≤1048576:=hx;have hnl:=hsm.1;refine⟨trivial,?_⟩;have fin:∀{r:Fs×Int},r=A2e f p s t g→F1.res (f,p,s,t,g)=.tup [.agg (At r.1),.int .i64 r.2]:=fun h=>by rw[h];rfl
 have hI:=(A2e.eq_1 f p s t g).symm;skip;refine⟨f,by(repeat' (first|refine By ?_ ?_|refine C2 ?_|refine Bs ?_|refine C0 ?_|exact rfl))<;>simp[rdI,rdO,rdE,rdB,rdN,rdS,rdD,rdW,tkM],fun _=>hsm,?_⟩;skip;refine⟨f,by(repeat' (first|refine By ?_ ?_|refine C2 ?_|refine Bs ?_|refine C0 ?_|exact rfl))<;>simp[rdI,rdO,rdE,rdB,rdN,rdS,rdD,rdW,tkM],fun _=>hsm,?_⟩;repeat((conv=>whnf);first|refine⟨fun h=>h,?_⟩|refine⟨(_,_),rfl,fun _=>trivial,?_⟩)
 (conv=>whnf);refine⟨fun h1=>?_,fun h1=>?_⟩
 ·have h1:(!Ki f|| !B3r t g)=true:=h1
  rw[if_pos h1]at hI;skip;rw[fin hI];exact⟨trivial,⟨rfl,rfl,trivial⟩,rfl,trivial⟩
 have h1:(!Ki f|| !B3r t g)=false:=h1;rw[if_neg (by rw[h1];decide)]at hI;have hok:Ki f=true:=by revert h1;cases Ki f<;>simp
 obtain⟨hsh,_,hat⟩:=Rk hok;have hnn:=hsh.nn;skip;refine⟨p,rfl,fun _=>by show p.length≤_;omega,?_⟩;skip
 (conv=>whnf);refine⟨fun h2=>?_,fun h2=>?_⟩
 ·have h2:(!B4 p)=true:=h2
  rw[if_pos h2]at hI;skip;rw[fin hI];exact⟨trivial,⟨rfl,rfl,trivial⟩,rfl,trivial⟩
 have h2:(!B4 p)=false:=h2;rw[if_neg (by rw[h2];decide)]at hI;have hn4:=Gv (p:=p);have hwk:=Vm (l:=names p) hat (by omega);skip;refine⟨p,rfl,fun _=>by show p.length≤_;omega,?_⟩;skip;refine⟨(f,names p),by(repeat' (first|refine By ?_ ?_|refine C2 ?_|refine Bs ?_|refine C0 ?_|exact rfl))<;>simp[rdI,rdO,rdE,rdB,rdN,rdS,rdD,rdW,tkM],fun _=>⟨hok,by show(names p).length≤_;omega⟩,?_⟩;repeat((conv=>whnf);refine⟨(by kernel_rfl:Bu _ _=true),?_⟩)
 generalize hW:Ej f 0 (names p)=W at hI hwk
 (conv=>whnf);refine⟨fun h4=>?_,fun h4=>?_⟩
 ·have h4:decide (Ej f 0 (names p)<0)=true:=h4
  rw[hW]at h4;rw[if_pos h4]at hI;skip;rw[fin hI];exact⟨trivial,⟨rfl,rfl,trivial⟩,rfl,trivial⟩
 have h4:decide (Ej f 0 (names p)<0)=false:=h4;rw[hW]at h4;rw[if_neg (by rw[h4];decide)]at hI;obtain⟨n,hn⟩:=B7 (l:=f.nodes) (i:=W.toNat) (by simp at h4;omega);rw[P7 hn]at hI;repeat((conv=>whnf);refine⟨Ay n,fun _=>by rw[hW];exact⟨by simp at h4;omega,Ao hn⟩,?_⟩)
 (conv=>whnf);refine⟨fun h5=>?_,fun h5=>?_⟩
 ·have h5:(n.kind==2)=true:=h5
  rw[if_pos h5]at hI;skip;rw[fin hI];exact⟨trivial,⟨rfl,rfl,trivial⟩,rfl,trivial⟩
 have h5:(n.kind==2)=false:=h5;rw[if_neg (by rw[h5];decide)]at hI;skip
 (conv=>whnf);refine⟨fun h3=>?_,fun h3=>?_⟩
 ·have h3:decide ((s.length:Int)>80)=true:=h3
  rw[if_pos h3]at hI;skip;rw[fin hI];exact⟨trivial,⟨rfl,rfl,trivial⟩,rfl,trivial⟩
 have h3:decide ((s.length:Int)>80)=false:=h3;rw[if_neg (by rw[h3];decide)]at hI;skip;refine⟨(f,W,s,t,g),by rw[←hW];exact by(repeat' (first|refine By ?_ ?_|refine C2 ?_|refine Bs ?_|refine C0 ?_|exact rfl))<;>simp[rdI,rdO,rdE,rdB,rdN,rdS,rdD,rdW,tkM],fun _=>⟨hsm,by show s.length≤_;omega⟩,?_⟩;skip
 (conv=>whnf);refine⟨fun h7=>?_,fun h7=>?_⟩
 ·have h7:(!(Jt f W s t g).2)=true:=h7
  rw[wr2,if_pos h7]at hI;skip;refine⟨f,by(repeat' (first|refine By ?_ ?_|refine C2 ?_|refine Bs ?_|refine C0 ?_|exact rfl))<;>simp[rdI,rdO,rdE,rdB,rdN,rdS,rdD,rdW,tkM],fun _=>hsm,?_⟩;skip;rw[fin hI];exact⟨trivial,⟨rfl,rfl,trivial⟩,rfl,trivial⟩
 have h7:(!(Jt f W s t g).2)=false:=h7;rw[wr2,if_neg (by rw[h7];decide)]at hI;skip;rw[fin hI];exact⟨trivial,⟨rfl,rfl,trivial⟩,rfl,trivial⟩
theorem B1w:Au Tryz.prog 125 F1:=Dv (Bx _ _) (FOk.cons Gb (FOk.cons Q8 (FOk.cons N1 (FOk.cons Mj (FOk.cons Ug (FOk.cons N7 (FOk.cons Ta FOk.nil))))))) mixed Tryz.func125 rfl Tryz.call125 (by decide) (by kernel_rfl) B65 (fun h=>by cases h) (by intro(y:(Fs×Str×Str×Int×Int)) _;first|exact⟨by simp[F1,con,A9,A8,Ad,AV.free,A2,A3,A1,A6,Ae,Ag,Ak,Ay,At,B1,B3],by simp[F1,con,A9,A8,Ad,AV.free,A2,A3,A1,A6,Ae,Ag,Ak,Ay,At,B1,B3]⟩|(obtain⟨_,_⟩:=y;exact⟨by simp[F1,con,A9,A8,Ad,AV.free,A2,A3,A1,A6,Ae,Ag,Ak,Ay,At,B1,B3],by simp[F1,con,A9,A8,Ad,AV.free,A2,A3,A1,A6,Ae,Ag,Ak,Ay,At,B1,B3]⟩)|(obtain⟨_,_,_⟩:=y;exact⟨by simp[F1,con,A9,A8,Ad,AV.free,A2,A3,A1,A6,Ae,Ag,Ak,Ay,At,B1,B3],by simp[F1,con,A9,A8,Ad,AV.free,A2,A3,A1,A6,Ae,Ag,Ak,Ay,At,B1,B3]⟩)) (by intro(y:(Fs×Str×Str×Int×Int)) _;first|(simp[F1,con,A9,A8,Ad,AV.free,A2,A3,A1,A6,Ae,Ag,Ak,Ay,At,B1,B3];done)|(obtain⟨_,_⟩:=y;simp[F1,con,A9,A8,Ad,AV.free,A2,A3,A1,A6,Ae,Ag,Ak,Ay,At,B1,B3];done)|(obtain⟨_,_,_⟩:=y;simp[F1,con,A9,A8,Ad,AV.free,A2,A3,A1,A6,Ae,Ag,Ak,Ay,At,B1,B3];done))
def E6:Bd:=A8 true [.rd [some 5,some 1],mC] (Fs×Str) (fun⟨f,p⟩=>[.agg (At f),.str p]) (fun x=>smF x.1∧x.2.length≤1048576) (fun⟨f,p⟩=>.tup [.agg (At (Va f p).1),.int .i64 (Va f p).2]) (fun _=>[])
def A9x:Env:=⟨A4 B5,A4 [(75,D3),(85,Ot),(120,Gj),(162,Li),(164,Eu),(167,Iq),(169,Sp),(170,Dl)],[0,1,2,4,5,6,7,8,9,15,23,31,48]⟩
theorem B13:B6 A9x (Av Tryz.f127) Tryz.f127.results.toList E6:=by
 rintro⟨f,p⟩ hx;obtain⟨hsm,hpl⟩:smF f∧p.length≤1048576:=hx;have hnl:=hsm.1;refine⟨trivial,?_⟩;have fin:∀{r:Fs×Int},r=Va f p→E6.res (f,p)=.tup [.agg (At r.1),.int .i64 r.2]:=fun h=>by rw[h];rfl
 have hI:=(Va.eq_1 f p).symm;skip;refine⟨f,by(repeat' (first|refine By ?_ ?_|refine C2 ?_|refine Bs ?_|refine C0 ?_|exact rfl))<;>simp[rdI,rdO,rdE,rdB,rdN,rdS,rdD,rdW,tkM],fun _=>hsm,?_⟩;skip;refine⟨f,by(repeat' (first|refine By ?_ ?_|refine C2 ?_|refine Bs ?_|refine C0 ?_|exact rfl))<;>simp[rdI,rdO,rdE,rdB,rdN,rdS,rdD,rdW,tkM],fun _=>hsm,?_⟩;skip
 (conv=>whnf);refine⟨fun h1=>?_,fun h1=>?_⟩
 ·have h1:(!Ki f)=true:=h1
  rw[if_pos h1]at hI;skip;rw[fin hI];exact⟨trivial,⟨rfl,rfl,trivial⟩,rfl,trivial⟩
 have h1:(!Ki f)=false:=h1;rw[if_neg (by rw[h1];decide)]at hI;have hok:Ki f=true:=by revert h1;cases Ki f<;>simp
 obtain⟨hsh,_,hat⟩:=Rk hok;have hnn:=hsh.nn;skip;refine⟨p,rfl,fun _=>by show p.length≤_;omega,?_⟩;repeat((conv=>whnf);refine⟨fun h=>h,?_⟩)
 (conv=>whnf);refine⟨fun h2=>?_,fun h2=>?_⟩
 ·have h2:(!B4 p||p==sl)=true:=h2
  rw[if_pos h2]at hI;skip;rw[fin hI];exact⟨trivial,⟨rfl,rfl,trivial⟩,rfl,trivial⟩
 have h2:(!B4 p||p==sl)=false:=h2;rw[if_neg (by rw[h2];decide)]at hI;rw[Bool.or_eq_false_iff]at h2;have hn1:=B7k (by simpa using h2.1) h2.2;have hn4:=Gv (p:=p);have hn6:=A19 (p:=p);have hwk:=Vm (l:=names p) hat (by omega);have hwu:=C6z (f:=f) (p:=p);have hwk2:=Vm (l:=up p) hat (by omega);have hup:∀x,x∈up p→x.length≤6:=fun x hx=>hn6 x (List.mem_of_mem_take hx);have hul:(up p).length≤4:=by rw[up,List.length_take];omega
 skip;refine⟨p,rfl,fun _=>by show p.length≤_;omega,?_⟩;skip;refine⟨(f,names p),by(repeat' (first|refine By ?_ ?_|refine C2 ?_|refine Bs ?_|refine C0 ?_|exact rfl))<;>simp[rdI,rdO,rdE,rdB,rdN,rdS,rdD,rdW,tkM],fun _=>⟨hok,by show(names p).length≤_;omega⟩,?_⟩;skip;generalize hW:Ej f 0 (names p)=W at hI hwk hwu
 (conv=>whnf);refine⟨fun h4=>?_,fun h4=>?_⟩
 ·have h4:decide (Ej f 0 (names p)<0)=true:=h4
  rw[hW]at h4;rw[if_pos h4]at hI;skip;rw[fin hI];exact⟨trivial,⟨rfl,rfl,trivial⟩,rfl,trivial⟩
 have h4:decide (Ej f 0 (names p)<0)=false:=h4;rw[hW]at h4;rw[if_neg (by rw[h4];decide)]at hI;have h4:¬W<0:=by simpa using h4
 have hwu:=hwu h4;obtain⟨n,hn⟩:=B7 (l:=f.nodes) (i:=W.toNat) (by omega);have hna:I8 f W=n:=by rw[I8,List.getD_eq_getElem?_getD,hn];rfl
 rw[hna]at hI;repeat((conv=>whnf);first|refine⟨fun h=>h,?_⟩|refine⟨Ay n,fun _=>by rw[hW];exact⟨by omega,Ao hn⟩,?_⟩)
 (conv=>whnf);refine⟨fun h5=>?_,fun h5=>?_⟩
 ·have h5:(n.kind==2&&decide (n.size>0))=true:=h5
  rw[if_pos h5]at hI;skip;rw[fin hI];exact⟨trivial,⟨rfl,rfl,trivial⟩,rfl,trivial⟩
 have h5:(n.kind==2&&decide (n.size>0))=false:=h5;rw[if_neg (by rw[h5];decide)]at hI;have hdw:=C26 (i:=W) hsh.wk;have hdl:=C6i f W;skip;refine⟨(f,W),by rw[←hW];exact by(repeat' (first|refine By ?_ ?_|refine C2 ?_|refine Bs ?_|refine C0 ?_|exact rfl))<;>simp[rdI,rdO,rdE,rdB,rdN,rdS,rdD,rdW,tkM],fun _=>hsm,?_⟩;repeat((conv=>whnf);first|refine⟨_,w64 (bb),?_⟩|refine⟨fun _=>⟨bb,bb,bb⟩,?_⟩)
 refine⟨(f,up p),by
  refine By ?_ (By (Bs ?_) rfl)
  ·exact by(repeat' (first|refine By ?_ ?_|refine C2 ?_|refine Bs ?_|refine C0 ?_|exact rfl))<;>simp[rdI,rdO,rdE,rdB,rdN,rdS,rdD,rdW,tkM]
  ·rw[show(((((names p).map A6).length:Nat):Int) - 1).toNat=(names p).length - 1 by rw[List.length_map];omega]
   simp[up,List.map_take],fun _=>⟨hok,by show(up p).length≤_;omega⟩,?_⟩
 skip;refine⟨p,rfl,fun _=>by show p.length≤_;omega,?_⟩;skip;refine⟨((I3 f W).1,(Ej f 0 (up p)).toNat,My p),by
  refine By ?_ (By ?_ (By rfl rfl))
  ·exact by(repeat' (first|refine By ?_ ?_|refine C2 ?_|refine Bs ?_|refine C0 ?_|exact rfl))<;>simp[rdI,rdO,rdE,rdB,rdN,rdS,rdD,rdW,tkM]
  ·show AV.int .i64 (Ej f 0 (up p))=.int .i64 (((Ej f 0 (up p)).toNat:Nat):Int);congr 1;omega,fun _=>⟨hdw,by show(Ej f 0 (up p)).toNat<(I3 f W).1.nodes.length;omega⟩,?_⟩
 repeat((conv=>whnf);refine⟨(by kernel_rfl:Bu _ _=true),?_⟩)
 rw[fin hI];exact⟨trivial,⟨rfl,rfl,trivial⟩,rfl,trivial⟩
theorem A7a:Au Tryz.prog 127 E6:=Dv (Bx _ _) (FOk.cons Gb (FOk.cons Q8 (FOk.cons N1 (FOk.cons Mj (FOk.cons N7 (FOk.cons Ub (FOk.cons A0k (FOk.cons A2c FOk.nil)))))))) mixed Tryz.func127 rfl Tryz.call127 (by decide) (by kernel_rfl) B13 (fun h=>by cases h) (by intro(y:(Fs×Str)) _;first|exact⟨by simp[E6,con,A9,A8,Ad,AV.free,A2,A3,A1,A6,Ae,Ag,Ak,Ay,At,B1,B3],by simp[E6,con,A9,A8,Ad,AV.free,A2,A3,A1,A6,Ae,Ag,Ak,Ay,At,B1,B3]⟩|(obtain⟨_,_⟩:=y;exact⟨by simp[E6,con,A9,A8,Ad,AV.free,A2,A3,A1,A6,Ae,Ag,Ak,Ay,At,B1,B3],by simp[E6,con,A9,A8,Ad,AV.free,A2,A3,A1,A6,Ae,Ag,Ak,Ay,At,B1,B3]⟩)|(obtain⟨_,_,_⟩:=y;exact⟨by simp[E6,con,A9,A8,Ad,AV.free,A2,A3,A1,A6,Ae,Ag,Ak,Ay,At,B1,B3],by simp[E6,con,A9,A8,Ad,AV.free,A2,A3,A1,A6,Ae,Ag,Ak,Ay,At,B1,B3]⟩)) (by intro(y:(Fs×Str)) _;first|(simp[E6,con,A9,A8,Ad,AV.free,A2,A3,A1,A6,Ae,Ag,Ak,Ay,At,B1,B3];done)|(obtain⟨_,_⟩:=y;simp[E6,con,A9,A8,Ad,AV.free,A2,A3,A1,A6,Ae,Ag,Ak,Ay,At,B1,B3];done)|(obtain⟨_,_,_⟩:=y;simp[E6,con,A9,A8,Ad,AV.free,A2,A3,A1,A6,Ae,Ag,Ak,Ay,At,B1,B3];done))
def Eb:Bd:=A8 true [.rd [some 5,some 1],mC] (Fs×Str) (fun⟨f,s⟩=>[.agg (At f),.str s]) (fun x=>smF x.1∧x.2.length≤1048576) (fun⟨f,s⟩=>.tup [.agg (At (Sd f s).1),.int .i64 (Sd f s).2]) (fun _=>[])
def B15:Env:=⟨A4 B5,A4 [(120,Gj),(162,Li),(164,Eu),(166,Df),(171,L4)],[0,1,2,4,5,6,7,8,9,10,11,12,17,21,28,36,49]⟩
theorem A9s:B6 B15 (Av Tryz.f128) Tryz.f128.results.toList Eb:=by
 rintro⟨f,s⟩ hx;obtain⟨hsm,hsl⟩:smF f∧s.length≤1048576:=hx;have hnl:=hsm.1;refine⟨trivial,?_⟩;have fin:∀{r:Fs×Int},r=Sd f s→Eb.res (f,s)=.tup [.agg (At r.1),.int .i64 r.2]:=fun h=>by rw[h];rfl
 have hI:=(Sd.eq_1 f s).symm;skip;refine⟨f,by(repeat' (first|refine By ?_ ?_|refine C2 ?_|refine Bs ?_|refine C0 ?_|exact rfl))<;>simp[rdI,rdO,rdE,rdB,rdN,rdS,rdD,rdW,tkM],fun _=>hsm,?_⟩;skip;refine⟨f,by(repeat' (first|refine By ?_ ?_|refine C2 ?_|refine Bs ?_|refine C0 ?_|exact rfl))<;>simp[rdI,rdO,rdE,rdB,rdN,rdS,rdD,rdW,tkM],fun _=>hsm,?_⟩;skip
 (conv=>whnf);refine⟨fun h1=>?_,fun h1=>?_⟩
 ·have h1:(!Ki f)=true:=h1
  rw[if_pos h1]at hI;skip;rw[fin hI];exact⟨trivial,⟨rfl,rfl,trivial⟩,rfl,trivial⟩
 have h1:(!Ki f)=false:=h1;rw[if_neg (by rw[h1];decide)]at hI;have hok:Ki f=true:=by revert h1;cases Ki f<;>simp
 obtain⟨hsh,_,hat⟩:=Rk hok;have hnn:=hsh.nn;skip
 (conv=>whnf);refine⟨fun h3=>?_,fun h3=>?_⟩
 ·have h3:decide ((s.length:Int)>80)=true:=h3
  rw[if_pos h3]at hI;skip;rw[fin hI];exact⟨trivial,⟨rfl,rfl,trivial⟩,rfl,trivial⟩
 have h3:decide ((s.length:Int)>80)=false:=h3;rw[if_neg (by rw[h3];decide)]at hI;have hwk:=Vm (l:=[hid]) hat (by omega);skip;refine⟨(f,[hid]),by
  refine By ?_ (By (Bs ?_) rfl)
  ·exact by(repeat' (first|refine By ?_ ?_|refine C2 ?_|refine Bs ?_|refine C0 ?_|exact rfl))<;>simp[rdI,rdO,rdE,rdB,rdN,rdS,rdD,rdW,tkM]
  ·rfl,fun _=>⟨hok,by show 1≤_;omega⟩,?_⟩
 skip
 (conv=>whnf);refine⟨fun h4=>?_,fun h4=>?_⟩
 ·have h4:decide (Ej f 0 [hid]<0)=true:=h4
  rw[if_pos h4]at hI;skip;refine⟨(f,0,hid,1),by refine By ?_ (By rfl (By rfl (By rfl rfl)));exact by(repeat' (first|refine By ?_ ?_|refine C2 ?_|refine Bs ?_|refine C0 ?_|exact rfl))<;>simp[rdI,rdO,rdE,rdB,rdN,rdS,rdD,rdW,tkM],fun _=>⟨hsh.wk,by show 0<f.nodes.length;omega,by show hid.length≤_;decide⟩,?_⟩;have hnw:=Tn (i:=0) (s:=hid) (k:=1) hsh.wk;skip
  (conv=>whnf);refine⟨fun h6=>?_,fun h6=>?_⟩
  ·have h6:(!(Kn f 0 hid 1).2.2)=true:=h6
   rw[hd3,if_pos h6]at hI;skip;refine⟨f,by(repeat' (first|refine By ?_ ?_|refine C2 ?_|refine Bs ?_|refine C0 ?_|exact rfl))<;>simp[rdI,rdO,rdE,rdB,rdN,rdS,rdD,rdW,tkM],fun _=>hsm,?_⟩;skip;rw[fin hI];exact⟨trivial,⟨rfl,rfl,trivial⟩,rfl,trivial⟩
  have h6:(!(Kn f 0 hid 1).2.2)=false:=h6;rw[hd3,if_neg (by rw[h6];decide)]at hI;skip;refine⟨((Kn f 0 hid 1).1,(Kn f 0 hid 1).2.1,s),by(repeat' (first|refine By ?_ ?_|refine C2 ?_|refine Bs ?_|refine C0 ?_|exact rfl))<;>simp[rdI,rdO,rdE,rdB,rdN,rdS,rdD,rdW,tkM],fun _=>⟨hnw.sm,by show s.length≤_;omega⟩,?_⟩;skip
  (conv=>whnf);refine⟨fun h7=>?_,fun h7=>?_⟩
  ·have h7:(!(Bh (Kn f 0 hid 1).1 (Kn f 0 hid 1).2.1 s).2)=true:=h7
   rw[wr2,if_pos h7]at hI;skip;refine⟨f,by(repeat' (first|refine By ?_ ?_|refine C2 ?_|refine Bs ?_|refine C0 ?_|exact rfl))<;>simp[rdI,rdO,rdE,rdB,rdN,rdS,rdD,rdW,tkM],fun _=>hsm,?_⟩;skip;rw[fin hI];exact⟨trivial,⟨rfl,rfl,trivial⟩,rfl,trivial⟩
  have h7:(!(Bh (Kn f 0 hid 1).1 (Kn f 0 hid 1).2.1 s).2)=false:=h7;rw[wr2,if_neg (by rw[h7];decide)]at hI;skip;rw[fin hI];exact⟨trivial,⟨rfl,rfl,trivial⟩,rfl,trivial⟩
 have h4:decide (Ej f 0 [hid]<0)=false:=h4;rw[if_neg (by rw[h4];decide)]at hI;skip;refine⟨(f,Ej f 0 [hid],s),by(repeat' (first|refine By ?_ ?_|refine C2 ?_|refine Bs ?_|refine C0 ?_|exact rfl))<;>simp[rdI,rdO,rdE,rdB,rdN,rdS,rdD,rdW,tkM],fun _=>⟨hsm,by show s.length≤_;omega⟩,?_⟩;skip
 (conv=>whnf);refine⟨fun h7=>?_,fun h7=>?_⟩
 ·have h7:(!(Bh f (Ej f 0 [hid]) s).2)=true:=h7
  rw[wr2,if_pos h7]at hI;skip;refine⟨f,by(repeat' (first|refine By ?_ ?_|refine C2 ?_|refine Bs ?_|refine C0 ?_|exact rfl))<;>simp[rdI,rdO,rdE,rdB,rdN,rdS,rdD,rdW,tkM],fun _=>hsm,?_⟩;skip;rw[fin hI];exact⟨trivial,⟨rfl,rfl,trivial⟩,rfl,trivial⟩
 have h7:(!(Bh f (Ej f 0 [hid]) s).2)=false:=h7;rw[wr2,if_neg (by rw[h7];decide)]at hI;skip;rw[fin hI];exact⟨trivial,⟨rfl,rfl,trivial⟩,rfl,trivial⟩
theorem A4w:Au Tryz.prog 128 Eb:=Dv (Bx _ _) (FOk.cons N1 (FOk.cons Mj (FOk.cons N7 (FOk.cons Q0 (FOk.cons Mm FOk.nil))))) mixed Tryz.func128 rfl Tryz.call128 (by decide) (by kernel_rfl) A9s (fun h=>by cases h) (by intro(y:(Fs×Str)) _;first|exact⟨by simp[Eb,con,A9,A8,Ad,AV.free,A2,A3,A1,A6,Ae,Ag,Ak,Ay,At,B1,B3],by simp[Eb,con,A9,A8,Ad,AV.free,A2,A3,A1,A6,Ae,Ag,Ak,Ay,At,B1,B3]⟩|(obtain⟨_,_⟩:=y;exact⟨by simp[Eb,con,A9,A8,Ad,AV.free,A2,A3,A1,A6,Ae,Ag,Ak,Ay,At,B1,B3],by simp[Eb,con,A9,A8,Ad,AV.free,A2,A3,A1,A6,Ae,Ag,Ak,Ay,At,B1,B3]⟩)|(obtain⟨_,_,_⟩:=y;exact⟨by simp[Eb,con,A9,A8,Ad,AV.free,A2,A3,A1,A6,Ae,Ag,Ak,Ay,At,B1,B3],by simp[Eb,con,A9,A8,Ad,AV.free,A2,A3,A1,A6,Ae,Ag,Ak,Ay,At,B1,B3]⟩)) (by intro(y:(Fs×Str)) _;first|(simp[Eb,con,A9,A8,Ad,AV.free,A2,A3,A1,A6,Ae,Ag,Ak,Ay,At,B1,B3];done)|(obtain⟨_,_⟩:=y;simp[Eb,con,A9,A8,Ad,AV.free,A2,A3,A1,A6,Ae,Ag,Ak,Ay,At,B1,B3];done)|(obtain⟨_,_,_⟩:=y;simp[Eb,con,A9,A8,Ad,AV.free,A2,A3,A1,A6,Ae,Ag,Ak,Ay,At,B1,B3];done))
def Ep:Bd:=A8 true [.mp] Cur (fun c=>[.own 3 [Ba c]]) Dd (fun c=>.int .i64 (Qb c)) (fun c=>[.own 3 [Ba (Hr c)]])
def A9l:Env:=⟨A4 B5,A4 [],[0,2,3,34]⟩
theorem B0d:B6 A9l (Av Tryz.f82) Tryz.f82.results.toList Ep:=by
 intro(c:Cur) hc;obtain⟨hc1,hc2⟩:Dd c:=hc;refine⟨⟨⟨_,_,_,rfl,rfl,by simp⟩,trivial⟩,?_⟩;skip;refine⟨C7h c.h 6364136223846793005,rfl,?_⟩;skip;refine⟨Qo c.h,rfl,?_⟩;repeat((conv=>whnf);refine⟨bb,?_⟩)
 refine⟨(Qo c.h).fdiv (2^min (33:Int).toNat IntKind.i64.bits),rfl,?_⟩;repeat((conv=>whnf);refine⟨bb,?_⟩)
 refine⟨(Qo c.h).fdiv (2^min (45:Int).toNat IntKind.i64.bits),rfl,?_⟩;skip;refine⟨C92 ((Qo c.h).fdiv (2^min (33:Int).toNat IntKind.i64.bits)) ((Qo c.h).fdiv (2^min (45:Int).toNat IntKind.i64.bits)),rfl,?_⟩;skip;refine⟨x0 (Qo c.h),rfl,?_⟩;have hx0:=C82 (Qo c.h);repeat((conv=>whnf);refine⟨(by kernel_rfl:Bu _ _=true),?_⟩)
 (conv=>whnf);refine⟨fun h1=>?_,fun h1=>?_⟩
 ·have h1:c.i<c.b.length:=by simpa using h1
  obtain⟨y,hy⟩:=B7 h1;have hX:Qb c=B4p (x0 (Qo c.h)+y.toNat) 255:=by rw[Qb,hy]
  have hN:Hr c=⟨c.b,c.i+1,Qo c.h⟩:=by rw[Hr,if_pos h1]
  have hyl:=y.toNat_lt;skip;refine⟨Ag y,fun _=>⟨by omega,Ao hy⟩,?_⟩;repeat((conv=>whnf);refine⟨_,w64 (bb),?_⟩)
  refine⟨B4p (x0 (Qo c.h)+y.toNat) 255,rfl,?_⟩;repeat((conv=>whnf);first|refine⟨(by kernel_rfl:Bu _ _=true),?_⟩|refine⟨_,w64 (bb),?_⟩)
  exact⟨⟨by rw[hN];rfl,trivial⟩,Mu hX.symm⟩
 ·have h1:¬c.i<c.b.length:=by simpa using h1
  have hX:Qb c=x0 (Qo c.h):=by rw[Qb,List.getElem?_eq_none (by omega)]
  have hN:Hr c=⟨c.b,c.i,Qo c.h⟩:=by rw[Hr,if_neg h1]
  skip;exact⟨⟨by rw[hN];rfl,trivial⟩,Mu hX.symm⟩
theorem A6k:Au Tryz.prog 82 Ep:=Dv (Bx _ _) FOk.nil mixed Tryz.func82 rfl Tryz.call82 (by decide) (by kernel_rfl) B0d (fun h=>by cases h) (by intro(y:Cur) _;first|exact⟨by simp[Ep,con,A9,A8,Ad,AV.free,A2,A3,A1,A6,Ba,Ag],by simp[Ep,con,A9,A8,Ad,AV.free,A2,A3,A1,A6,Ba,Ag]⟩|(obtain⟨_,_⟩:=y;exact⟨by simp[Ep,con,A9,A8,Ad,AV.free,A2,A3,A1,A6,Ba,Ag],by simp[Ep,con,A9,A8,Ad,AV.free,A2,A3,A1,A6,Ba,Ag]⟩)|(obtain⟨_,_,_⟩:=y;exact⟨by simp[Ep,con,A9,A8,Ad,AV.free,A2,A3,A1,A6,Ba,Ag],by simp[Ep,con,A9,A8,Ad,AV.free,A2,A3,A1,A6,Ba,Ag]⟩)) (by intro(y:Cur) _;first|(simp[Ep,con,A9,A8,Ad,AV.free,A2,A3,A1,A6,Ba,Ag];done)|(obtain⟨_,_⟩:=y;simp[Ep,con,A9,A8,Ad,AV.free,A2,A3,A1,A6,Ba,Ag];done)|(obtain⟨_,_,_⟩:=y;simp[Ep,con,A9,A8,Ad,AV.free,A2,A3,A1,A6,Ba,Ag];done))
def Ca:Bd:=A8 true [.mp,mC] (Cur×Int) (fun⟨c,n⟩=>[.own 3 [Ba c],.int .i64 n]) (fun x=>Dd x.1) (fun⟨c,n⟩=>.int .i64 (C3 c n)) (fun⟨c,n⟩=>[.own 3 [Ba (An c n)]])
def A8j:Env:=⟨A4 B5,A4 [(82,Ep)],[0,1,4,5,6,7,8,10,12]⟩
theorem A7r:B6 A8j (Av Tryz.f42) Tryz.f42.results.toList Ca:=by
 rintro⟨c,n⟩ hc;have hc:Dd c:=hc;refine⟨⟨⟨_,_,_,rfl,rfl,by simp⟩,trivial⟩,?_⟩
 (conv=>whnf);refine⟨fun h1=>?_,fun h1=>?_⟩
 ·have h1:n≤0:=by simpa using h1
  have hX:C3 c n=0:=by rw[C3,if_pos h1]
  have hN:An c n=c:=by rw[An,if_pos h1]
  skip;exact⟨⟨by rw[hN];rfl,trivial⟩,Mu hX.symm⟩
 have h1:¬n≤0:=by simpa using h1
 skip
 (conv=>whnf);refine⟨fun h2=>?_,fun h2=>?_⟩
 ·have h2:n≤256:=by simpa using h2
  have hX:C3 c n=(Qb c).tmod n:=by rw[C3,if_neg h1,if_pos h2]
  have hN:An c n=Hr c:=by rw[An,if_neg h1,if_pos h2]
  skip;refine⟨c,rfl,fun _=>hc,?_⟩;repeat((conv=>whnf);refine⟨bb,?_⟩)
  refine⟨(Qb c).tmod n,rfl,?_⟩;skip;exact⟨⟨by rw[hN];rfl,trivial⟩,Mu hX.symm⟩
 ·have h2:¬n≤256:=by simpa using h2
  have hX:C3 c n=(Qb c*16777216+Qb (Hr c)*65536+Qb (Hr (Hr c))*256+Qb (Hr (Hr (Hr c)))).tmod n:=by rw[C3,if_neg h1,if_neg h2]
  have hN:An c n=Hr (Hr (Hr (Hr c))):=by rw[An,if_neg h1,if_neg h2]
  skip;refine⟨c,rfl,fun _=>hc,?_⟩;skip;refine⟨Hr c,rfl,fun _=>Nr hc,?_⟩;skip;refine⟨Hr (Hr c),rfl,fun _=>Nr (Nr hc),?_⟩;skip;refine⟨Hr (Hr (Hr c)),rfl,fun _=>Nr (Nr (Nr hc)),?_⟩;have c0:=Rd c;have c1:=Rd (Hr c);have c2:=Rd (Hr (Hr c));have c3:=Rd (Hr (Hr (Hr c)));repeat((conv=>whnf);first|refine⟨_,w64 (bb),?_⟩|refine⟨bb,?_⟩)
  refine⟨(Qb c*16777216+Qb (Hr c)*65536+Qb (Hr (Hr c))*256+Qb (Hr (Hr (Hr c)))).tmod n,rfl,?_⟩;skip;exact⟨⟨by rw[hN];rfl,trivial⟩,Mu hX.symm⟩
theorem I1:Au Tryz.prog 42 Ca:=Dv (Bx _ _) (FOk.cons A6k FOk.nil) mixed Tryz.func42 rfl Tryz.call42 (by decide) (by kernel_rfl) A7r (fun h=>by cases h) (by intro(y:(Cur×Int)) _;first|exact⟨by simp[Ca,con,A9,A8,Ad,AV.free,A2,A3,A1,A6,Ba,Ag],by simp[Ca,con,A9,A8,Ad,AV.free,A2,A3,A1,A6,Ba,Ag]⟩|(obtain⟨_,_⟩:=y;exact⟨by simp[Ca,con,A9,A8,Ad,AV.free,A2,A3,A1,A6,Ba,Ag],by simp[Ca,con,A9,A8,Ad,AV.free,A2,A3,A1,A6,Ba,Ag]⟩)|(obtain⟨_,_,_⟩:=y;exact⟨by simp[Ca,con,A9,A8,Ad,AV.free,A2,A3,A1,A6,Ba,Ag],by simp[Ca,con,A9,A8,Ad,AV.free,A2,A3,A1,A6,Ba,Ag]⟩)) (by intro(y:(Cur×Int)) _;first|(simp[Ca,con,A9,A8,Ad,AV.free,A2,A3,A1,A6,Ba,Ag];done)|(obtain⟨_,_⟩:=y;simp[Ca,con,A9,A8,Ad,AV.free,A2,A3,A1,A6,Ba,Ag];done)|(obtain⟨_,_,_⟩:=y;simp[Ca,con,A9,A8,Ad,AV.free,A2,A3,A1,A6,Ba,Ag];done))
def Kd:Bd:=Ad [mS 1] Str (fun s=>[.rd 1 (s.map Ag)]) (fun s=>s.length≤1048576) (fun s=>.own 3 [Ba (L8 s)])
def B6l:Env:=⟨A4 B5,A4 [],[0,2,3,4,15]⟩
theorem B6r:C4i B6l (Av Tryz.f39) Tryz.f39.results.toList Kd:=by
 intro(s:Str) (hs:s.length≤1048576);refine⟨rfl,?_⟩;repeat((conv=>whnf);refine⟨_,w64 (bb),?_⟩)
 refine B2 (fun i:Nat=>⟨[(0,⟨none,.rd 1 (s.map Ag)⟩),(3,⟨none,.int .i64 ((s.take i).foldl C89 (26583+s.length))⟩),(4,⟨none,.int .i64 i⟩)],[],0⟩)
  (fun i=>i≤s.length∧i≤4000) (fun i=>s.length - i) 0 ?_ ⟨by omega,by omega⟩ ?_
 ·(refine⟨?_,?_,rfl⟩<;>repeat' (first|exact rfl|exact trivial|refine⟨?_,?_⟩|fail)<;>(conv=>whnf))
  all_goals simp
 rintro i ⟨hi,hi2⟩;repeat((conv=>whnf);refine⟨fun h=>h,?_⟩)
 (conv=>whnf);refine⟨fun h1=>?_,fun h1=>?_⟩
 ·have h1:i<s.length∧i<4000:=by
   have h1:(decide ((i:Int)<(s.map Ag).length)&&decide ((i:Int)<4000))=true:=h1;simp at h1;omega
  obtain⟨y,hy⟩:=B7 h1.1;have hyl:=y.toNat_lt;skip;refine⟨C7h _ 131,rfl,?_⟩;skip;refine⟨Ag y,fun _=>⟨by omega,Ao hy⟩,?_⟩;repeat((conv=>whnf);refine⟨_,w64 (bb),?_⟩)
  refine⟨C5n _ y.toNat,rfl,?_⟩;skip;refine⟨C5n _ 7,rfl,?_⟩;skip;refine⟨B4p _ 1073741823,rfl,?_⟩;repeat((conv=>whnf);refine⟨_,w64 (bb),?_⟩)
  refine Bt (i+1) ?_ ⟨h1.1,h1.2⟩ (by first|omega|(simp;done)|(simp;omega))
  (refine⟨?_,?_,rfl⟩<;>repeat' (first|exact rfl|exact trivial|refine⟨?_,?_⟩|fail)<;>(conv=>whnf))
  rw[C0y hy];rfl
 ·have h1:i=s.length∨i=4000:=by
   have h1:(decide ((i:Int)<(s.map Ag).length)&&decide ((i:Int)<4000))=false:=h1;simp at h1;omega
  have ht:s.take i=s.take 4000:=by
   rcases h1 with h1|h1
   ·subst h1;rw[List.take_length,List.take_of_length_le hi2]
   ·rw[h1]
  rw[ht];skip;exact⟨rfl,by simp[Kd,Ad,Ba,Ag,AV.free,A3,A1,A2],3,_,rfl⟩
theorem B0p:Au Tryz.prog 39 Kd:=C3e (Bx _ _) FOk.nil mixed Tryz.func39 rfl Tryz.call39 (by decide) (by kernel_rfl) B6r (by intro(y:Str) _;first|(simp[Kd,con,A9,A8,Ad,AV.free,A2,A3,A1,A6,Ba,Ag];done)|(obtain⟨_,_⟩:=y;simp[Kd,con,A9,A8,Ad,AV.free,A2,A3,A1,A6,Ba,Ag];done)|(obtain⟨_,_,_⟩:=y;simp[Kd,con,A9,A8,Ad,AV.free,A2,A3,A1,A6,Ba,Ag];done))
def Ll:Bd:=con [mS 1] true Str (fun s=>[.rd 1 (s.map Ag)]) (fun _=>True) (fun s=>.bool (decide (1048576<s.length)))
def C1n:Env:=⟨A4 B5,A4 [],[0,2]⟩
theorem C0d:B6 C1n (Av Tryz.f7) Tryz.f7.results.toList Ll:=by
 intro(s:Str) _;refine⟨trivial,?_⟩;skip;exact⟨trivial,eqB (by simp;omega)⟩
theorem B8n:Au Tryz.prog 7 Ll:=Al (Bx _ _) FOk.nil mixed Tryz.func7 rfl Tryz.call7 (by decide) (by kernel_rfl) C0d (by intro _ (y:Str) _;exact⟨by simp[Ll,con,A9,A8,AV.noRd,A7,Ab,A5,A6,Ba,Ag],by simp[Ll,con,A9,A8,AV.noRd,A7,Ab,A5,A6,Ba,Ag]⟩) (by intro(y:Str) _;first|(simp[Ll,con,A9,A8,Ad,AV.free,A2,A3,A1,A6,Ba,Ag];done)|(obtain⟨_,_⟩:=y;simp[Ll,con,A9,A8,Ad,AV.free,A2,A3,A1,A6,Ba,Ag];done)|(obtain⟨_,_,_⟩:=y;simp[Ll,con,A9,A8,Ad,AV.free,A2,A3,A1,A6,Ba,Ag];done))
def Dy:Bd:=A8 true [.mp,mC] (Cur×Int) (fun⟨c,n⟩=>[.own 3 [Ba c],.int .i64 n]) (fun x=>Dd x.1) (fun⟨c,n⟩=>.bool (C3 c n==0)) (fun⟨c,n⟩=>[.own 3 [Ba (An c n)]])
def B0g:Env:=⟨A4 B5,A4 [(42,Ca)],[0,1,4]⟩
theorem B0j:B6 B0g (Av Tryz.f41) Tryz.f41.results.toList Dy:=by
 rintro⟨c,n⟩ hc;refine⟨⟨⟨_,_,_,rfl,rfl,by simp⟩,trivial⟩,?_⟩;conv=>whnf
 refine⟨(c,n),rfl,fun _=>hc,?_⟩;skip;exact⟨⟨rfl,trivial⟩,rfl⟩
theorem Qe:Au Tryz.prog 41 Dy:=Dv (Bx _ _) (FOk.cons I1 FOk.nil) mixed Tryz.func41 rfl Tryz.call41 (by decide) (by kernel_rfl) B0j (fun h=>by cases h) (by intro(y:(Cur×Int)) _;first|exact⟨by simp[Dy,con,A9,A8,Ad,AV.free,A2,A3,A1,A6,Ai,Ba,Ag,Ae],by simp[Dy,con,A9,A8,Ad,AV.free,A2,A3,A1,A6,Ai,Ba,Ag,Ae]⟩|(obtain⟨_,_⟩:=y;exact⟨by simp[Dy,con,A9,A8,Ad,AV.free,A2,A3,A1,A6,Ai,Ba,Ag,Ae],by simp[Dy,con,A9,A8,Ad,AV.free,A2,A3,A1,A6,Ai,Ba,Ag,Ae]⟩)|(obtain⟨_,_,_⟩:=y;exact⟨by simp[Dy,con,A9,A8,Ad,AV.free,A2,A3,A1,A6,Ai,Ba,Ag,Ae],by simp[Dy,con,A9,A8,Ad,AV.free,A2,A3,A1,A6,Ai,Ba,Ag,Ae]⟩)) (by intro(y:(Cur×Int)) _;first|(simp[Dy,con,A9,A8,Ad,AV.free,A2,A3,A1,A6,Ai,Ba,Ag,Ae];done)|(obtain⟨_,_⟩:=y;simp[Dy,con,A9,A8,Ad,AV.free,A2,A3,A1,A6,Ai,Ba,Ag,Ae];done)|(obtain⟨_,_,_⟩:=y;simp[Dy,con,A9,A8,Ad,AV.free,A2,A3,A1,A6,Ai,Ba,Ag,Ae];done))
def Cb:Bd:=A8 true [.mp,.co [some 1]] (Cur×List Int) (fun⟨c,l⟩=>[.own 3 [Ba c],.own 1 (l.map Ae)]) (fun x=>Dd x.1∧0<x.2.length∧x.2.length≤1000) (fun⟨c,l⟩=>.int .i64 (Gw c l)) (fun⟨c,l⟩=>[.own 3 [Ba (An c l.length)]])
def A1l:Env:=⟨A4 B5,A4 [(42,Ca)],[0,1,4]⟩
theorem A1h:B6 A1l (Av Tryz.f81) Tryz.f81.results.toList Cb:=by
 rintro⟨c,l⟩ hc;obtain⟨hc,hl0,hl1⟩:Dd c∧0<l.length∧l.length≤1000:=hc;refine⟨⟨⟨_,_,_,rfl,rfl,by simp⟩,trivial⟩,?_⟩;have hb:=Rb c l.length;have hb2:=hb.2 (by omega);skip;refine⟨(c,(l.length:Int)),by show[AV.own 3 [Ba c],AV.int .i64 ((l.map Ae).length:Int)]=_;rw[List.length_map];rfl,fun _=>hc,?_⟩;repeat((conv=>whnf);refine⟨bb,?_⟩)
 refine⟨Ae (Gw c l),fun _=>by show(l.map Ae)[0+(C3 c (l.length:Int)).toNat]? =_;rw[Nat.zero_add];exact Ao (B36 hl0),?_⟩;skip;exact⟨⟨rfl,trivial⟩,rfl⟩
theorem Ky:Au Tryz.prog 81 Cb:=Dv (Bx _ _) (FOk.cons I1 FOk.nil) mixed Tryz.func81 rfl Tryz.call81 (by decide) (by kernel_rfl) A1h (fun h=>by cases h) (by intro(y:(Cur×List Int)) _;first|exact⟨by simp[Cb,con,A9,A8,Ad,AV.free,A2,A3,A1,A6,Ai,Ba,Ag,Ae],by simp[Cb,con,A9,A8,Ad,AV.free,A2,A3,A1,A6,Ai,Ba,Ag,Ae]⟩|(obtain⟨_,_⟩:=y;exact⟨by simp[Cb,con,A9,A8,Ad,AV.free,A2,A3,A1,A6,Ai,Ba,Ag,Ae],by simp[Cb,con,A9,A8,Ad,AV.free,A2,A3,A1,A6,Ai,Ba,Ag,Ae]⟩)|(obtain⟨_,_,_⟩:=y;exact⟨by simp[Cb,con,A9,A8,Ad,AV.free,A2,A3,A1,A6,Ai,Ba,Ag,Ae],by simp[Cb,con,A9,A8,Ad,AV.free,A2,A3,A1,A6,Ai,Ba,Ag,Ae]⟩)) (by intro(y:(Cur×List Int)) _;first|(simp[Cb,con,A9,A8,Ad,AV.free,A2,A3,A1,A6,Ai,Ba,Ag,Ae];done)|(obtain⟨_,_⟩:=y;simp[Cb,con,A9,A8,Ad,AV.free,A2,A3,A1,A6,Ai,Ba,Ag,Ae];done)|(obtain⟨_,_,_⟩:=y;simp[Cb,con,A9,A8,Ad,AV.free,A2,A3,A1,A6,Ai,Ba,Ag,Ae];done))
def Dz:Bd:=A8 true [.mp,.co [some 1]] (Cur×List Str) (fun⟨c,l⟩=>[.own 3 [Ba c],.own 1 (l.map A6)]) (fun x=>Dd x.1∧0<x.2.length∧x.2.length≤1000) (fun⟨c,l⟩=>.str (Ii c l)) (fun⟨c,l⟩=>[.own 3 [Ba (An c l.length)]])
def B1i:Env:=⟨A4 B5,A4 [(42,Ca)],[0,1,4]⟩
theorem B2a:B6 B1i (Av Tryz.f43) Tryz.f43.results.toList Dz:=by
 rintro⟨c,l⟩ hc;obtain⟨hc,hl0,hl1⟩:Dd c∧0<l.length∧l.length≤1000:=hc;refine⟨⟨⟨_,_,_,rfl,rfl,by simp⟩,trivial⟩,?_⟩;have hb:=Rb c l.length;have hb2:=hb.2 (by omega);skip;refine⟨(c,(l.length:Int)),by show[AV.own 3 [Ba c],AV.int .i64 ((l.map A6).length:Int)]=_;rw[List.length_map];rfl,fun _=>hc,?_⟩;repeat((conv=>whnf);refine⟨bb,?_⟩)
 refine⟨A6 (Ii c l),fun _=>by show(l.map A6)[0+(C3 c (l.length:Int)).toNat]? =_;rw[Nat.zero_add];exact Ao (B3m hl0),?_⟩;skip;exact⟨⟨rfl,trivial⟩,rfl⟩
theorem Qk:Au Tryz.prog 43 Dz:=Dv (Bx _ _) (FOk.cons I1 FOk.nil) mixed Tryz.func43 rfl Tryz.call43 (by decide) (by kernel_rfl) B2a (fun h=>by cases h) (by intro(y:(Cur×List Str)) _;first|exact⟨by simp[Dz,con,A9,A8,Ad,AV.free,A2,A3,A1,A6,Ai,Ba,Ag,Ae],by simp[Dz,con,A9,A8,Ad,AV.free,A2,A3,A1,A6,Ai,Ba,Ag,Ae]⟩|(obtain⟨_,_⟩:=y;exact⟨by simp[Dz,con,A9,A8,Ad,AV.free,A2,A3,A1,A6,Ai,Ba,Ag,Ae],by simp[Dz,con,A9,A8,Ad,AV.free,A2,A3,A1,A6,Ai,Ba,Ag,Ae]⟩)|(obtain⟨_,_,_⟩:=y;exact⟨by simp[Dz,con,A9,A8,Ad,AV.free,A2,A3,A1,A6,Ai,Ba,Ag,Ae],by simp[Dz,con,A9,A8,Ad,AV.free,A2,A3,A1,A6,Ai,Ba,Ag,Ae]⟩)) (by intro(y:(Cur×List Str)) _;first|(simp[Dz,con,A9,A8,Ad,AV.free,A2,A3,A1,A6,Ai,Ba,Ag,Ae];done)|(obtain⟨_,_⟩:=y;simp[Dz,con,A9,A8,Ad,AV.free,A2,A3,A1,A6,Ai,Ba,Ag,Ae];done)|(obtain⟨_,_,_⟩:=y;simp[Dz,con,A9,A8,Ad,AV.free,A2,A3,A1,A6,Ai,Ba,Ag,Ae];done))
def Gd:Bd:=con [] false Unit (fun _=>[]) (fun _=>True) (fun _=>.own 1 (Cg.map A6))
def A5u:Env:=⟨A4 B5,A4 [],[0]⟩
theorem A61:B6 A5u (Av Tryz.f123) Tryz.f123.results.toList Gd:=by
 rintro x _;refine⟨trivial,?_⟩;skip;exact⟨trivial,rfl,rfl⟩
theorem Uo:Au Tryz.prog 123 Gd:=Al (Bx _ _) FOk.nil mixed Tryz.func123 rfl Tryz.call123 (by decide) (by kernel_rfl) A61 (by intro _ (y:Unit) _;exact⟨by simp[Gd,con,A9,A8,AV.noRd,A7,Ab,A5,A6,Ba,Ag,Ae,Ai],by simp[Gd,con,A9,A8,AV.noRd,A7,Ab,A5,A6,Ba,Ag,Ae,Ai]⟩) (by intro(y:Unit) _;first|(simp[Gd,con,A9,A8,Ad,AV.free,A2,A3,A1,A6,Ai,Ba,Ag,Ae];done)|(obtain⟨_,_⟩:=y;simp[Gd,con,A9,A8,Ad,AV.free,A2,A3,A1,A6,Ai,Ba,Ag,Ae];done)|(obtain⟨_,_,_⟩:=y;simp[Gd,con,A9,A8,Ad,AV.free,A2,A3,A1,A6,Ai,Ba,Ag,Ae];done))
def E7:Bd:=A8 true [.mp] Cur (fun c=>[.own 3 [Ba c]]) Dd (fun c=>.str (Nx c)) (fun c=>[.own 3 [Ba (Ow c)]])
def B1o:Env:=⟨A4 B5,A4 [(41,Dy),(43,Dz),(123,Gd)],[0,2,4]⟩
theorem B07:B6 B1o (Av Tryz.f80) Tryz.f80.results.toList E7:=by
 intro(c:Cur) hc;have hc:Dd c:=hc;refine⟨⟨⟨_,_,_,rfl,rfl,by simp⟩,trivial⟩,?_⟩;conv=>whnf
 refine⟨(c,12),rfl,fun _=>hc,?_⟩
 (conv=>whnf);refine⟨fun h1=>?_,fun h1=>?_⟩
 ·have h1:C3 c 12=0:=by
   have h1:(C3 c 12==0)=true:=h1;simpa using h1
  have hX:Nx c=Ii (An c 12) Vu:=by rw[Nx,if_pos h1]
  have hN:Ow c=An (An c 12) 12:=by rw[Ow,if_pos h1]
  skip;refine⟨(An c 12,Vu),rfl,fun _=>⟨Bi hc,(by decide:0<Vu.length∧Vu.length≤1000)⟩,?_⟩;skip;exact⟨⟨by rw[hN];rfl,trivial⟩,eqS hX.symm⟩
 ·have h1:¬C3 c 12=0:=by
   have h1:(C3 c 12==0)=false:=h1;simpa using h1
  have hX:Nx c=Ii (An c 12) Cg:=by rw[Nx,if_neg h1]
  have hN:Ow c=An (An c 12) 10:=by rw[Ow,if_neg h1]
  skip;refine⟨(),rfl,fun _=>trivial,?_⟩;skip;refine⟨(An c 12,Cg),rfl,fun _=>⟨Bi hc,(by decide:0<Cg.length∧Cg.length≤1000)⟩,?_⟩;skip;exact⟨⟨by rw[hN];rfl,trivial⟩,eqS hX.symm⟩
theorem Vz:Au Tryz.prog 80 E7:=Dv (Bx _ _) (FOk.cons Qe (FOk.cons Qk (FOk.cons Uo FOk.nil))) mixed Tryz.func80 rfl Tryz.call80 (by decide) (by kernel_rfl) B07 (fun h=>by cases h) (by intro(y:Cur) _;first|exact⟨by simp[E7,con,A9,A8,Ad,AV.free,A2,A3,A1,A6,Ai,Ba,Ag,Ae],by simp[E7,con,A9,A8,Ad,AV.free,A2,A3,A1,A6,Ai,Ba,Ag,Ae]⟩|(obtain⟨_,_⟩:=y;exact⟨by simp[E7,con,A9,A8,Ad,AV.free,A2,A3,A1,A6,Ai,Ba,Ag,Ae],by simp[E7,con,A9,A8,Ad,AV.free,A2,A3,A1,A6,Ai,Ba,Ag,Ae]⟩)|(obtain⟨_,_,_⟩:=y;exact⟨by simp[E7,con,A9,A8,Ad,AV.free,A2,A3,A1,A6,Ai,Ba,Ag,Ae],by simp[E7,con,A9,A8,Ad,AV.free,A2,A3,A1,A6,Ai,Ba,Ag,Ae]⟩)) (by intro(y:Cur) _;first|(simp[E7,con,A9,A8,Ad,AV.free,A2,A3,A1,A6,Ai,Ba,Ag,Ae];done)|(obtain⟨_,_⟩:=y;simp[E7,con,A9,A8,Ad,AV.free,A2,A3,A1,A6,Ai,Ba,Ag,Ae];done)|(obtain⟨_,_,_⟩:=y;simp[E7,con,A9,A8,Ad,AV.free,A2,A3,A1,A6,Ai,Ba,Ag,Ae];done))
def Ec:Bd:=A8 true [.mp] Cur (fun c=>[.own 3 [Ba c]]) Dd (fun c=>.str (Si c)) (fun c=>[.own 3 [Ba (Nu c)]])
def B0m:Env:=⟨A4 B5,A4 [(42,Ca),(81,Cb)],[0,2,3,4,5,11]⟩
theorem B18:B6 B0m (Av Tryz.f126) Tryz.f126.results.toList Ec:=by
 intro(c:Cur) hc;have hc:Dd c:=hc;refine⟨⟨⟨_,_,_,rfl,rfl,by simp⟩,trivial⟩,?_⟩;skip;refine⟨(c,Mc),rfl,fun _=>⟨hc,(by decide:0<Mc.length∧Mc.length≤1000)⟩,?_⟩;have hp:=B7c c;have hp2:Gw c Mc=(Xd c:Int):=by unfold Xd;omega
 skip;refine B2 (fun((i,c',s):Nat×Cur×Str)=>⟨[(0,⟨none,.bx 0 0⟩),(3,⟨none,.str s⟩),(4,⟨none,.int .i64 (Gw c Mc)⟩),(5,⟨none,.int .i64 i⟩)],[(0,.own 3 [Ba c'])],1⟩)
  (fun(i,c',s)=>i≤Xd c∧Dd c'∧s.length=i∧Uu (Xd c - i) i c' s=Uu (Xd c) 0 (An c 10) []) (fun x=>Xd c - x.1) (0,An c 10,[]) ?_ ⟨by omega,Bi hc,rfl,by rw[Nat.sub_zero]⟩ ?_
 ·(refine⟨?_,?_,rfl⟩<;>repeat' (first|exact rfl|exact trivial|refine⟨?_,?_⟩|fail)<;>(conv=>whnf))
 rintro⟨i,c',s⟩ ⟨hi,hc',hs,hI⟩
 (conv=>whnf);refine⟨fun h1=>?_,fun h1=>?_⟩
 ·have h1:i<Xd c:=by
   have:(i:Int)<Gw c Mc:=by simpa using h1
   omega
  have hb:=Rb c' 2;have hb2:=hb.2 (by decide);obtain⟨m,hm⟩:∃m,Xd c - i=m+1:=⟨Xd c - i - 1,by omega⟩
  have hm2:Xd c - (i+1)=m:=by omega
  rw[hm,Uu]at hI;skip;refine⟨(c',2),rfl,fun _=>hc',?_⟩;obtain⟨q,hq⟩:∃q,q=(i+(C3 c' 2).toNat)%26:=⟨_,rfl⟩
  repeat((conv=>whnf);first|refine⟨_,w64 (bb),?_⟩|refine⟨bb,?_⟩)
  refine⟨(q:Int),by
   show((i:Int)+C3 c' 2).tmod 26=_;rw[hq,show(i:Int)+C3 c' 2=((i+(C3 c' 2).toNat:Nat):Int) by omega];rfl,?_⟩
  repeat((conv=>whnf);refine⟨_,w64 (bb),?_⟩)
  refine⟨((97+q:Nat):Int),by show Int.ofNat ((97+q)%256)=_;rw[Nat.mod_eq_of_lt (by omega)];rfl,?_⟩;skip;refine⟨[UInt8.ofNat (97+q)],by
   have e:(UInt8.ofNat (97+q)).toNat=97+q:=by rw[UInt8.toNat_ofNat'];omega
   rw[List.map_cons,List.map_nil,e];rfl,?_⟩
  repeat((conv=>whnf);first|refine⟨_,w64 (bb),?_⟩|refine⟨bb,?_⟩)
  refine Bt (i+1,An c' 2,s++[UInt8.ofNat (97+q)]) ?_ ⟨h1,Bi hc',by simp[hs],by rw[hm2,←hI,hq]⟩ (by show Xd c - (i+1)<Xd c - i;omega)
  (refine⟨?_,?_,rfl⟩<;>repeat' (first|exact rfl|exact trivial|refine⟨?_,?_⟩|fail)<;>(conv=>whnf))
 ·have h1:i=Xd c:=by
   have:¬(i:Int)<Gw c Mc:=by simpa using h1
   omega
  subst h1;rw[Nat.sub_self,Uu]at hI;have hX:Si c=s:=by rw[Si,←hI]
  have hN:Nu c=c':=by rw[Nu,←hI]
  skip;exact⟨⟨by rw[hN];rfl,trivial⟩,eqS hX.symm⟩
theorem Wq:Au Tryz.prog 126 Ec:=Dv (Bx _ _) (FOk.cons I1 (FOk.cons Ky FOk.nil)) mixed Tryz.func126 rfl Tryz.call126 (by decide) (by kernel_rfl) B18 (fun h=>by cases h) (by intro(y:Cur) _;first|exact⟨by simp[Ec,con,A9,A8,Ad,AV.free,A2,A3,A1,A6,Ai,Ba,Ag,Ae],by simp[Ec,con,A9,A8,Ad,AV.free,A2,A3,A1,A6,Ai,Ba,Ag,Ae]⟩|(obtain⟨_,_⟩:=y;exact⟨by simp[Ec,con,A9,A8,Ad,AV.free,A2,A3,A1,A6,Ai,Ba,Ag,Ae],by simp[Ec,con,A9,A8,Ad,AV.free,A2,A3,A1,A6,Ai,Ba,Ag,Ae]⟩)|(obtain⟨_,_,_⟩:=y;exact⟨by simp[Ec,con,A9,A8,Ad,AV.free,A2,A3,A1,A6,Ai,Ba,Ag,Ae],by simp[Ec,con,A9,A8,Ad,AV.free,A2,A3,A1,A6,Ai,Ba,Ag,Ae]⟩)) (by intro(y:Cur) _;first|(simp[Ec,con,A9,A8,Ad,AV.free,A2,A3,A1,A6,Ai,Ba,Ag,Ae];done)|(obtain⟨_,_⟩:=y;simp[Ec,con,A9,A8,Ad,AV.free,A2,A3,A1,A6,Ai,Ba,Ag,Ae];done)|(obtain⟨_,_,_⟩:=y;simp[Ec,con,A9,A8,Ad,AV.free,A2,A3,A1,A6,Ai,Ba,Ag,Ae];done))
end Go.GH
namespace Go.GH
open Go
def qs:Str:=[47,113]
def Q4(c:Cur)(f:Fs):Cur×Fs:=
 if C3 (An c 10) 6=0 then(An (An c 10) 6,(P9 f (Ii c Cg) 2 [] 0 0).1)
 else if C3 (An c 10) 6=1 then(An (An (An (An c 10) 6) 9) 5,(P9 f (Ii c Cg) 3 qs (C3 (An (An c 10) 6) 9) (C3 (An (An (An c 10) 6) 9) 5)).1)
 else if C3 (An c 10) 6=2 then(An (An (Nu (An (An c 10) 6)) 9) 5,(A2e f (Ii c Cg) (Si (An (An c 10) 6)) (C3 (Nu (An (An c 10) 6)) 9) (C3 (An (Nu (An (An c 10) 6)) 9) 5)).1)
 else if C3 (An c 10) 6=3 then(An (An c 10) 6,(Va f (Ii c Cg)).1)
 else(An (An (Nu (An (An c 10) 6)) 9) 5,(P9 f (Ii c Cg) 1 (Si (An (An c 10) 6)) (C3 (Nu (An (An c 10) 6)) 9) (C3 (An (Nu (An (An c 10) 6)) 9) 5)).1)
def rGo:Nat→Cur→Fs→Cur×Fs
 |0,c,f=>(c,f)
 |n+1,c,f=>rGo n (Q4 c f).1 (Q4 c f).2
def nds:List Int:=[4,7,10]
def dts:List Int:=[6,14,30]
def rC(c:Cur):Cur:=An (An (An c 3) 3) 9
def rN(c:Cur):Nat:=(C3 (An (An c 3) 3) 9).toNat
def rF(c:Cur):Fs:=A01 (Gw c nds) (Gw (An c 3) dts)
def A6v(c:Cur):Cur×Fs:=rGo (rN c) (rC c) (rF c)
def right(c:Cur):Cur×Fs:=if C3 (A6v c).1 12=0 then(Nu (An (A6v c).1 12),(Sd (A6v c).2 (Si (An (A6v c).1 12))).1)else(An (A6v c).1 12,(A6v c).2)
theorem B7i{f:Fs}{i:Int}{s:Str}{t g:Int}(h:Wk f):Wk (Jt f i s t g).1:=by
 unfold Jt;split
 ·have hw:=W7 (i:=i) (s:=s) h
  refine⟨by simp;exact hw.nn,hw.nd,fun n hn b hb=>?_,fun n hn=>?_,hw.dat⟩
  ·rcases Mw hn with rfl|hn
   ·simp only[B2t,I8]at hb
    rw[List.getD_eq_getElem?_getD]at hb;cases hq:(Bh f i s).1.nodes[i.toNat]? with
    |none=>rw[hq]at hb;cases hb
    |some m=>rw[hq]at hb;exact hw.inr m (List.mem_of_getElem? hq) b hb
   ·exact hw.inr n hn b hb
  ·rcases Mw hn with rfl|hn
   ·simp only[B2t,I8]
    rw[List.getD_eq_getElem?_getD];cases hq:(Bh f i s).1.nodes[i.toNat]? with
    |none=>decide
    |some m=>exact hw.bl m (List.mem_of_getElem? hq)
   ·exact hw.bl n hn
 ·exact h
theorem B5k:∀{l:List Str} {f:Fs} {i:Nat},Wk f→Wk (down f i l).1
 |[],f,i,h=>by
  rw[down];split
  ·exact h
  ·exact h
 |s::r,f,i,h=>by
  rw[down];split
  ·exact h
  split
  ·split
   ·exact B5k (Tn h)
   ·exact h
  ·exact B5k h
theorem B63{f:Fs}{w:Fs×Bool}(h:Wk f)(hw:Wk w.1):Wk (wr2 f w).1:=by unfold wr2;split<;>assumption
theorem A28{f:Fs}{p:Str}{k:Int}{s:Str}{t g:Int}(h:Wk f):Wk (P9 f p k s t g).1:=by
 unfold P9;split
 ·exact h
 split
 ·exact h
 split
 ·exact h
 split
 ·exact h
 unfold mk2;split
 ·exact h
 unfold mk3;split
 ·exact h
 exact B63 h (B7i (Tn (B5k h)))
theorem C5v{f:Fs}{p:Str}{s:Str}{t g:Int}(h:Wk f):Wk (A2e f p s t g).1:=by
 unfold A2e;split
 ·exact h
 split
 ·exact h
 split
 ·exact h
 split
 ·exact h
 split
 ·exact h
 exact B63 h (B7i h)
theorem C3o{f:Fs}{p:Str}(h:Wk f):Wk (Va f p).1:=by
 unfold Va;split
 ·exact h
 split
 ·exact h
 split
 ·exact h
 split
 ·exact h
 exact W7 (C26 h)
theorem C3l{f:Fs}{s:Str}(h:Wk f):Wk (Sd f s).1:=by
 unfold Sd;split
 ·exact h
 split
 ·exact h
 split
 ·unfold hd3
  split
  ·exact h
  ·exact B63 h (W7 (Tn h))
 ·exact B63 h (W7 h)
theorem B8x(n d:Int):Wk (A01 n d):=by
 unfold A01;split
 ·rename_i h
  simp[inB]at h;refine⟨by simp;omega,by simp;omega,fun x hx b hb=>?_,fun x hx=>?_,fun s hs=>?_⟩
  ·rcases List.mem_cons.1 hx with rfl|hx
   ·cases hb
   ·rw[List.eq_of_mem_replicate hx]at hb;cases hb
  ·rcases List.mem_cons.1 hx with rfl|hx
   ·decide
   ·rw[List.eq_of_mem_replicate hx];decide
  ·rw[List.eq_of_mem_replicate hs];decide
 ·exact⟨by simp,by simp,fun x hx=>(by cases hx),fun x hx=>(by cases hx),fun x hx=>(by cases hx)⟩
theorem A7j{c:Cur}{f:Fs}(hc:Dd c)(hf:Wk f):Dd (Q4 c f).1∧Wk (Q4 c f).2:=by
 unfold Q4;split
 ·exact⟨Bi (Bi hc),A28 hf⟩
 split
 ·exact⟨Bi (Bi (Bi (Bi hc))),A28 hf⟩
 split
 ·exact⟨Bi (Bi (Xc (Bi (Bi hc)))),C5v hf⟩
 split
 ·exact⟨Bi (Bi hc),C3o hf⟩
 ·exact⟨Bi (Bi (Xc (Bi (Bi hc)))),A28 hf⟩
theorem C4w:∀{n:Nat} {c:Cur} {f:Fs},Dd c→Wk f→Dd (rGo n c f).1∧Wk (rGo n c f).2
 |0,c,f,hc,hf=>⟨hc,hf⟩
 |n+1,c,f,hc,hf=>by
  rw[rGo];exact C4w (A7j hc hf).1 (A7j hc hf).2
theorem C6u{c:Cur}(hc:Dd c):Dd (A6v c).1∧Wk (A6v c).2:=C4w (Bi (Bi (Bi hc))) (B8x _ _)
theorem B70{c:Cur}(hc:Dd c):Dd (right c).1∧Wk (right c).2:=by
 have h:=C6u hc;unfold right;split
 ·exact⟨Xc (Bi h.1),C3l h.2⟩
 ·exact⟨Bi h.1,h.2⟩
def M9(x:It)(k:Int):It:=⟨x.path,k,x.data,x.time⟩
def M0(x:It)(t:Int):It:=⟨x.path,x.kind,x.data,t⟩
def tms:List Int:=[-1,100000,100001]
def Rn(t:Tr)(c:Cur):Cur×Tr:=
 if C3 c 10=0 then(An (Ow (An c 10)) 5,t++[⟨Nx (An c 10),C3 (Ow (An c 10)) 5,[],0⟩])
 else if C3 c 10=1 then(if 0<t.length then(An (An (An c 10) t.length) 4,t.set (C3 (An c 10) t.length).toNat (M9 (t.getD (C3 (An c 10) t.length).toNat It.none) (C3 (An (An c 10) t.length) 4)))else(An c 10,t))
 else if C3 c 10=2 then(if 1<t.length then(An c 10,t.set 0 (t.getD 1 It.none))else(An c 10,t))
 else if C3 c 10=3 then(if 0<t.length then(An (An (An c 10) t.length) 3,t.set (C3 (An c 10) t.length).toNat (M0 (t.getD (C3 (An c 10) t.length).toNat It.none) (Gw (An (An c 10) t.length) tms)))else(An c 10,t))
 else(An c 10,t)
def Dg(c:Cur):Cur×Tr:=Rn (Hf (right c).2) (right c).1
theorem B5r{t:Tr}{i:Nat}{x:It}(h:smT t)(hx:x.path.length≤4194304∧x.data.length≤4194304):smT (t.set i x):=⟨by rw[List.length_set];exact h.1,fun y hy=>by
 rcases Mw hy with rfl|hy
 ·exact hx
 ·exact h.2 y hy⟩
theorem A6m{t:Tr}{i:Nat}(h:smT t):(t.getD i It.none).path.length≤4194304∧(t.getD i It.none).data.length≤4194304:=by
 rw[List.getD_eq_getElem?_getD];cases hq:t[i]? with
 |none=>decide
 |some y=>exact h.2 y (List.mem_of_getElem? hq)
theorem C6n{t:Tr}{c:Cur}(hc:Dd c)(h0:smT t)(hl:t.length≤475254):Dd (Rn t c).1∧smT (Rn t c).2∧(Rn t c).2.length≤475255:=by
 have hcc:Dd (An c 10):=Bi hc;have hp:=A1w (An c 10);unfold Rn;split
 ·refine⟨Bi (Wa hcc),⟨?_,fun x hx=>?_⟩,?_⟩
  ·rw[List.length_append,List.length_singleton];omega
  ·rcases List.mem_append.1 hx with hx|hx
   ·exact h0.2 x hx
   ·rw[List.mem_singleton]at hx;subst hx;exact⟨by show(Nx (An c 10)).length≤_;omega,Nat.zero_le _⟩
  ·rw[List.length_append,List.length_singleton];omega
 split
 ·split
  ·exact⟨Bi (Bi hcc),B5r h0 (A6m h0),by rw[List.length_set];omega⟩
  ·exact⟨hcc,h0,Nat.le_succ_of_le hl⟩
 split
 ·split
  ·exact⟨hcc,B5r h0 (A6m h0),by rw[List.length_set];omega⟩
  ·exact⟨hcc,h0,Nat.le_succ_of_le hl⟩
 split
 ·split
  ·exact⟨Bi (Bi hcc),B5r h0 (A6m h0),by rw[List.length_set];omega⟩
  ·exact⟨hcc,h0,Nat.le_succ_of_le hl⟩
 ·exact⟨hcc,h0,Nat.le_succ_of_le hl⟩
theorem Yn{c:Cur}(hc:Dd c):Dd (Dg c).1∧smT (Dg c).2∧(Dg c).2.length≤475255:=
 C6n (B70 hc).1 (A0w _).1 (A0w _).2
end Go.GH
namespace Go.GH
open Go Go.Proofs
def Cz:Bd:=A8 true [.mp] Cur (fun c=>[.own 3 [Ba c]]) Dd (fun c=>.agg (At (right c).2)) (fun c=>[.own 3 [Ba (right c).1]])
def A46:Env:=⟨A4 B5,A4 [(41,Dy),(42,Ca),(43,Dz),(81,Cb),(122,Xx),(123,Gd),(124,Ea),(125,F1),(126,Ec),(127,E6),(128,Eb)],[0,2,3,5,6,7,22,29,42,50,62,76,85]⟩
theorem A3z:B6 A46 (Av Tryz.f79) Tryz.f79.results.toList Cz:=by
 intro(c:Cur) hc;have hc:Dd c:=hc;refine⟨⟨⟨_,_,_,rfl,rfl,by simp⟩,trivial⟩,?_⟩;have hp1:=B2f (c:=c) (l:=nds) (by decide);skip;refine⟨(c,nds),rfl,fun _=>⟨hc,(by decide:0<nds.length∧nds.length≤1000)⟩,?_⟩;skip;refine⟨(An c 3,dts),rfl,fun _=>⟨Bi hc,(by decide:0<dts.length∧dts.length≤1000)⟩,?_⟩;skip;refine⟨(Gw c nds,Gw (An c 3) dts),rfl,fun _=>trivial,?_⟩;skip;refine⟨(An (An c 3) 3,9),rfl,fun _=>Bi (Bi hc),?_⟩;have hb9:=Rb (An (An c 3) 3) 9;have hrn:C3 (An (An c 3) 3) 9=((rN c:Nat):Int):=by unfold rN;omega
 have hrl:rN c≤8:=by have:=hb9.2 (by omega);omega
 skip;refine B2 (fun((i,c',f):Nat×Cur×Fs)=>⟨[(0,⟨none,.bx 0 0⟩),(2,⟨none,.bx 1 0⟩),(3,⟨none,.bx 2 0⟩),(5,⟨none,.int .i64 (rN c)⟩),(6,⟨none,.int .i64 i⟩)],[(0,.own 3 [Ba c']),(1,.own 2 [[.own 5 [],.own 1 []]]),(2,.own 2 [At f])],3⟩)
  (fun(i,c',f)=>i≤rN c∧Dd c'∧Wk f∧rGo (rN c - i) c' f=A6v c) (fun x=>rN c - x.1) (0,rC c,rF c) ?_ ⟨Nat.zero_le _,Bi (Bi (Bi hc)),B8x _ _,rfl⟩ ?_
 ·(refine⟨?_,?_,rfl⟩<;>repeat' (first|exact rfl|exact trivial|refine⟨?_,?_⟩|fail)<;>(conv=>whnf))
  all_goals exact hrn
 rintro⟨i,c',f⟩ ⟨hi,hc',hf,hI⟩;have hf':=hf
 (conv=>whnf);refine⟨fun h1=>?_,fun h1=>?_⟩
 ·have h1:i<rN c:=by have h1:decide ((i:Int)<(rN c:Nat))=true:=h1
                     simp at h1;omega
  obtain⟨m,hm⟩:∃m,rN c - i=m+1:=⟨rN c - i - 1,by omega⟩
  have hm2:rN c - (i+1)=m:=by omega
  rw[hm,rGo]at hI;have hso:=A7j hc' hf;have hpp:=X2 (c:=c') (l:=Cg) (k:=20) (by decide) (by decide);skip;refine⟨(),rfl,fun _=>trivial,?_⟩;skip;refine⟨(c',Cg),rfl,fun _=>⟨hc',(by decide:0<Cg.length∧Cg.length≤1000)⟩,?_⟩;skip;refine⟨(An c' 10,6),rfl,fun _=>Bi hc',?_⟩;have hk6:Dd (An (An c' 10) 6):=Bi (Bi hc');skip
  (conv=>whnf);refine⟨fun k0=>?_,fun k0=>?_⟩
  ·skip
   have k0:C3 (An c' 10) 6=0:=by
    have k0:(C3 (An c' 10) 6==0)=true:=k0;simpa using k0
   have hst:Q4 c' f=(An (An c' 10) 6,(P9 f (Ii c' Cg) 2 [] 0 0).1):=by rw[Q4,if_pos k0]
   skip;refine⟨(f,Ii c' Cg,2,[],0,0),by(repeat' (first|refine By ?_ ?_|refine C2 ?_|refine Bs ?_|refine C0 ?_|exact rfl))<;>simp[rdI,rdO,rdE,rdB,rdN,rdS,rdD,rdW,tkM],fun _=>⟨hf.sm,by show(Ii c' Cg).length≤_;omega,by show 0≤1048576;omega⟩,?_⟩;rw[hst]at hI hso;repeat((conv=>whnf);refine⟨_,w64 (bb),?_⟩)
   refine Bt (i+1,_,_) ?_ ⟨h1,hso.1,hso.2,by rw[hm2];exact hI⟩ (by show rN c - (i+1)<rN c - i;omega)
   (refine⟨?_,?_,rfl⟩<;>repeat' (first|exact rfl|exact trivial|refine⟨?_,?_⟩|fail)<;>(conv=>whnf))
  have k0:¬C3 (An c' 10) 6=0:=by
   have k0:(C3 (An c' 10) 6==0)=false:=k0;simpa using k0
  skip
  (conv=>whnf);refine⟨fun k1=>?_,fun k1=>?_⟩
  ·skip
   have k1:C3 (An c' 10) 6=1:=by
    have k1:(C3 (An c' 10) 6==1)=true:=k1;simpa using k1
   have hst:Q4 c' f=(An (An (An (An c' 10) 6) 9) 5,(P9 f (Ii c' Cg) 3 qs (C3 (An (An c' 10) 6) 9) (C3 (An (An (An c' 10) 6) 9) 5)).1):=by rw[Q4,if_neg k0,if_pos k1]
   skip;refine⟨(An (An c' 10) 6,9),rfl,fun _=>hk6,?_⟩;skip;refine⟨(An (An (An c' 10) 6) 9,5),rfl,fun _=>Bi hk6,?_⟩;skip;refine⟨(f,Ii c' Cg,3,qs,C3 (An (An c' 10) 6) 9,C3 (An (An (An c' 10) 6) 9) 5),by(repeat' (first|refine By ?_ ?_|refine C2 ?_|refine Bs ?_|refine C0 ?_|exact rfl))<;>simp[rdI,rdO,rdE,rdB,rdN,rdS,rdD,rdW,tkM],fun _=>⟨hf.sm,by show(Ii c' Cg).length≤_;omega,by show qs.length≤1048576;decide⟩,?_⟩;rw[hst]at hI hso;repeat((conv=>whnf);first|refine⟨(by kernel_rfl:Bu _ _=true),?_⟩|refine⟨_,w64 (bb),?_⟩)
   refine Bt (i+1,_,_) ?_ ⟨h1,hso.1,hso.2,by rw[hm2];exact hI⟩ (by show rN c - (i+1)<rN c - i;omega)
   (refine⟨?_,?_,rfl⟩<;>repeat' (first|exact rfl|exact trivial|refine⟨?_,?_⟩|fail)<;>(conv=>whnf))
  have k1:¬C3 (An c' 10) 6=1:=by
   have k1:(C3 (An c' 10) 6==1)=false:=k1;simpa using k1
  skip
  (conv=>whnf);refine⟨fun k2=>?_,fun k2=>?_⟩
  ·skip
   have k2:C3 (An c' 10) 6=2:=by
    have k2:(C3 (An c' 10) 6==2)=true:=k2;simpa using k2
   have hst:Q4 c' f=(An (An (Nu (An (An c' 10) 6)) 9) 5,(A2e f (Ii c' Cg) (Si (An (An c' 10) 6)) (C3 (Nu (An (An c' 10) 6)) 9) (C3 (An (Nu (An (An c' 10) 6)) 9) 5)).1):=by rw[Q4,if_neg k0,if_neg k1,if_pos k2]
   skip;refine⟨An (An c' 10) 6,rfl,fun _=>hk6,?_⟩;have hkt:=Xc hk6;have htl:=Yq (An (An c' 10) 6);skip;refine⟨(Nu (An (An c' 10) 6),9),rfl,fun _=>hkt,?_⟩;skip;refine⟨(An (Nu (An (An c' 10) 6)) 9,5),rfl,fun _=>Bi hkt,?_⟩;skip;refine⟨(f,Ii c' Cg,Si (An (An c' 10) 6),C3 (Nu (An (An c' 10) 6)) 9,C3 (An (Nu (An (An c' 10) 6)) 9) 5),by(repeat' (first|refine By ?_ ?_|refine C2 ?_|refine Bs ?_|refine C0 ?_|exact rfl))<;>simp[rdI,rdO,rdE,rdB,rdN,rdS,rdD,rdW,tkM],fun _=>⟨hf.sm,by show(Ii c' Cg).length≤_;omega,by show(Si (An (An c' 10) 6)).length≤_;omega⟩,?_⟩;rw[hst]at hI hso;repeat((conv=>whnf);first|refine⟨(by kernel_rfl:Bu _ _=true),?_⟩|refine⟨_,w64 (bb),?_⟩)
   refine Bt (i+1,_,_) ?_ ⟨h1,hso.1,hso.2,by rw[hm2];exact hI⟩ (by show rN c - (i+1)<rN c - i;omega)
   (refine⟨?_,?_,rfl⟩<;>repeat' (first|exact rfl|exact trivial|refine⟨?_,?_⟩|fail)<;>(conv=>whnf))
  have k2:¬C3 (An c' 10) 6=2:=by
   have k2:(C3 (An c' 10) 6==2)=false:=k2;simpa using k2
  skip
  (conv=>whnf);refine⟨fun k3=>?_,fun k3=>?_⟩
  ·skip
   have k3:C3 (An c' 10) 6=3:=by
    have k3:(C3 (An c' 10) 6==3)=true:=k3;simpa using k3
   have hst:Q4 c' f=(An (An c' 10) 6,(Va f (Ii c' Cg)).1):=by rw[Q4,if_neg k0,if_neg k1,if_neg k2,if_pos k3]
   skip;refine⟨(f,Ii c' Cg),by(repeat' (first|refine By ?_ ?_|refine C2 ?_|refine Bs ?_|refine C0 ?_|exact rfl))<;>simp[rdI,rdO,rdE,rdB,rdN,rdS,rdD,rdW,tkM],fun _=>⟨hf.sm,by show(Ii c' Cg).length≤_;omega⟩,?_⟩;rw[hst]at hI hso;repeat((conv=>whnf);refine⟨_,w64 (bb),?_⟩)
   refine Bt (i+1,_,_) ?_ ⟨h1,hso.1,hso.2,by rw[hm2];exact hI⟩ (by show rN c - (i+1)<rN c - i;omega)
   (refine⟨?_,?_,rfl⟩<;>repeat' (first|exact rfl|exact trivial|refine⟨?_,?_⟩|fail)<;>(conv=>whnf))
  have k3:¬C3 (An c' 10) 6=3:=by
   have k3:(C3 (An c' 10) 6==3)=false:=k3;simpa using k3
  have hst:Q4 c' f=(An (An (Nu (An (An c' 10) 6)) 9) 5,(P9 f (Ii c' Cg) 1 (Si (An (An c' 10) 6)) (C3 (Nu (An (An c' 10) 6)) 9) (C3 (An (Nu (An (An c' 10) 6)) 9) 5)).1):=by rw[Q4,if_neg k0,if_neg k1,if_neg k2,if_neg k3]
  skip;refine⟨An (An c' 10) 6,rfl,fun _=>hk6,?_⟩;have hkt:=Xc hk6;have htl:=Yq (An (An c' 10) 6);skip;refine⟨(Nu (An (An c' 10) 6),9),rfl,fun _=>hkt,?_⟩;skip;refine⟨(An (Nu (An (An c' 10) 6)) 9,5),rfl,fun _=>Bi hkt,?_⟩;skip;refine⟨(f,Ii c' Cg,1,Si (An (An c' 10) 6),C3 (Nu (An (An c' 10) 6)) 9,C3 (An (Nu (An (An c' 10) 6)) 9) 5),by(repeat' (first|refine By ?_ ?_|refine C2 ?_|refine Bs ?_|refine C0 ?_|exact rfl))<;>simp[rdI,rdO,rdE,rdB,rdN,rdS,rdD,rdW,tkM],fun _=>⟨hf.sm,by show(Ii c' Cg).length≤_;omega,by show(Si (An (An c' 10) 6)).length≤_;omega⟩,?_⟩;rw[hst]at hI hso;repeat((conv=>whnf);first|refine⟨(by kernel_rfl:Bu _ _=true),?_⟩|refine⟨_,w64 (bb),?_⟩)
  refine Bt (i+1,_,_) ?_ ⟨h1,hso.1,hso.2,by rw[hm2];exact hI⟩ (by show rN c - (i+1)<rN c - i;omega)
  (refine⟨?_,?_,rfl⟩<;>repeat' (first|exact rfl|exact trivial|refine⟨?_,?_⟩|fail)<;>(conv=>whnf))
 have h1:i=rN c:=by have h1:decide ((i:Int)<(rN c:Nat))=false:=h1
                    simp at h1;omega
 subst h1;rw[Nat.sub_self,rGo]at hI;have hc0:(A6v c).1=c':=by rw[←hI]
 have hf0:(A6v c).2=f:=by rw[←hI]
 have hrt:right c=if C3 c' 12=0 then(Nu (An c' 12),(Sd f (Si (An c' 12))).1)else(An c' 12,f):=by rw[right,hc0,hf0]
 skip;refine⟨(c',12),rfl,fun _=>hc',?_⟩;have hk12:Dd (An c' 12):=Bi hc';have htl:=Yq (An c' 12);skip
 (conv=>whnf);refine⟨fun k0=>?_,fun k0=>?_⟩
 ·skip
  have k0:C3 c' 12=0:=by
   have k0:(C3 c' 12==0)=true:=k0;simpa using k0
  rw[if_pos k0]at hrt;skip;refine⟨An c' 12,rfl,fun _=>hk12,?_⟩;skip;refine⟨(f,Si (An c' 12)),by(repeat' (first|refine By ?_ ?_|refine C2 ?_|refine Bs ?_|refine C0 ?_|exact rfl))<;>simp[rdI,rdO,rdE,rdB,rdN,rdS,rdD,rdW,tkM],fun _=>⟨hf'.sm,by show(Si (An c' 12)).length≤_;omega⟩,?_⟩;repeat((conv=>whnf);refine⟨(by kernel_rfl:Bu _ _=true),?_⟩)
  have e1:(right c).1=Nu (An c' 12):=by rw[hrt]
  have e2:(right c).2=(Sd f (Si (An c' 12))).1:=by rw[hrt]
  rw[show Cz.res c=.agg (At (Sd f (Si (An c' 12))).1) by show AV.agg (At (right c).2)=_;rw[e2]];exact⟨⟨by rw[e1];rfl,trivial⟩,rfl,rfl,trivial⟩
 have k0:¬C3 c' 12=0:=by
  have k0:(C3 c' 12==0)=false:=k0;simpa using k0
 rw[if_neg k0]at hrt;skip;have e1:(right c).1=An c' 12:=by rw[hrt]
 have e2:(right c).2=f:=by rw[hrt]
 rw[show Cz.res c=.agg (At f) by show AV.agg (At (right c).2)=_;rw[e2]];exact⟨⟨by rw[e1];rfl,trivial⟩,rfl,rfl,trivial⟩
theorem A14:Au Tryz.prog 79 Cz:=Dv (Bx _ _) (FOk.cons Qe (FOk.cons I1 (FOk.cons Qk (FOk.cons Ky (FOk.cons A82 (FOk.cons Uo (FOk.cons A5j (FOk.cons B1w (FOk.cons Wq (FOk.cons A7a (FOk.cons A4w FOk.nil))))))))))) mixed Tryz.func79 rfl Tryz.call79 (by decide) (by kernel_rfl) A3z (fun h=>by cases h) (by intro(y:Cur) _;first|exact⟨by simp[Cz,con,A9,A8,Ad,AV.free,A2,A3,A1,A6,Ae,Ag,Ba,Ak,Ay,At,B1,B3],by simp[Cz,con,A9,A8,Ad,AV.free,A2,A3,A1,A6,Ae,Ag,Ba,Ak,Ay,At,B1,B3]⟩|(obtain⟨_,_⟩:=y;exact⟨by simp[Cz,con,A9,A8,Ad,AV.free,A2,A3,A1,A6,Ae,Ag,Ba,Ak,Ay,At,B1,B3],by simp[Cz,con,A9,A8,Ad,AV.free,A2,A3,A1,A6,Ae,Ag,Ba,Ak,Ay,At,B1,B3]⟩)|(obtain⟨_,_,_⟩:=y;exact⟨by simp[Cz,con,A9,A8,Ad,AV.free,A2,A3,A1,A6,Ae,Ag,Ba,Ak,Ay,At,B1,B3],by simp[Cz,con,A9,A8,Ad,AV.free,A2,A3,A1,A6,Ae,Ag,Ba,Ak,Ay,At,B1,B3]⟩)) (by intro(y:Cur) _;first|(simp[Cz,con,A9,A8,Ad,AV.free,A2,A3,A1,A6,Ae,Ag,Ba,Ak,Ay,At,B1,B3];done)|(obtain⟨_,_⟩:=y;simp[Cz,con,A9,A8,Ad,AV.free,A2,A3,A1,A6,Ae,Ag,Ba,Ak,Ay,At,B1,B3];done)|(obtain⟨_,_,_⟩:=y;simp[Cz,con,A9,A8,Ad,AV.free,A2,A3,A1,A6,Ae,Ag,Ba,Ak,Ay,At,B1,B3];done))
def Bq:Bd:=A8 true [.mp] Cur (fun c=>[.own 3 [Ba c]]) Dd (fun c=>.agg [.own 4 ((Dg c).2.map Aa)]) (fun c=>[.own 3 [Ba (Dg c).1]])
def A4z:Env:=⟨A4 B5,A4 [(42,Ca),(78,H8),(79,Cz),(80,E7),(81,Cb)],[0,2,3,4,12,13,25,28,38,41,49,52]⟩
theorem A7n:B6 A4z (Av Tryz.f40) Tryz.f40.results.toList Bq:=by
 intro(c:Cur) hc;have hc:Dd c:=hc;refine⟨⟨⟨_,_,_,rfl,rfl,by simp⟩,trivial⟩,?_⟩;have hr:=B70 hc;have ht:=A0w (right c).2;have fin:∀{r:Cur×Tr},Dg c=r→Bq.res c=.agg [.own 4 (r.2.map Aa)]∧Bq.out c=[.own 3 [Ba r.1]]:=fun h=>by rw[←h];exact⟨rfl,rfl⟩
 have hdt:Dg c=Rn (Hf (right c).2) (right c).1:=rfl;skip;refine⟨c,rfl,fun _=>hc,?_⟩;skip;refine⟨(right c).2,by(repeat' (first|refine By ?_ ?_|refine C2 ?_|refine Bs ?_|refine C0 ?_|exact rfl))<;>simp[rdI,rdO,rdE,rdB,rdN,rdS,rdD,rdW,tkM],fun _=>hr.2.sm,?_⟩;have hl0:=ht.2;have hsm:=ht.1;generalize hT:Hf (right c).2=t at ht hdt hsm;have htl:=ht.2;have hcc:=hr.1;generalize hC:(right c).1=c' at hcc hdt;skip;refine⟨(c',10),by rw[←hC];rfl,fun _=>hcc,?_⟩;have hk:Dd (An c' 10):=Bi hcc;skip
 (conv=>whnf);refine⟨fun k0=>?_,fun k0=>?_⟩
 ·skip
  have k0:C3 c' 10=0:=by
   have k0:(C3 c' 10==0)=true:=k0;simpa using k0
  have hu:Dg c=(An (Ow (An c' 10)) 5,t++[⟨Nx (An c' 10),C3 (Ow (An c' 10)) 5,[],0⟩]):=by rw[hdt,Rn,if_pos k0]
  skip;refine⟨An c' 10,rfl,fun _=>hk,?_⟩;skip;refine⟨(Ow (An c' 10),5),rfl,fun _=>Wa hk,?_⟩;repeat((conv=>whnf);first|refine⟨(by kernel_rfl:Bu _ _=true),?_⟩|refine⟨bb,?_⟩|refine⟨Ls (by rfl),?_⟩)
  rw[show Bq.res c=.agg [.own 4 ((Dg c).2.map Aa)]from rfl,hu];refine⟨⟨by show some _=some (AV.own 3 [Ba (Dg c).1]);rw[hu]<;>rfl,trivial⟩,⟨rfl,?_⟩,trivial⟩;rw[hT];simp[Aa,M9,M0,List.take_of_length_le,List.map_set]<;>rfl
 have k0:¬C3 c' 10=0:=by
  have k0:(C3 c' 10==0)=false:=k0;simpa using k0
 skip
 (conv=>whnf);refine⟨fun k1=>?_,fun k1=>?_⟩
 ·skip
  have k1:C3 c' 10=1:=by
   have k1:(C3 c' 10==1)=true:=k1;simpa using k1
  skip
  (conv=>whnf);refine⟨fun k9=>?_,fun k9=>?_⟩
  ·have k9:0<t.length:=by rw[←hT];simpa using k9
   have hb:=Rb (An c' 10) t.length;have hb2:=hb.2 (by omega);obtain⟨y,hy⟩:=B7 (l:=t) (i:=(C3 (An c' 10) t.length).toNat) (by omega);have hy2:t.getD (C3 (An c' 10) t.length).toNat It.none=y:=by rw[List.getD_eq_getElem?_getD,hy];rfl
   have hu:Dg c=(An (An (An c' 10) t.length) 4,t.set (C3 (An c' 10) t.length).toNat (M9 y (C3 (An (An c' 10) t.length) 4))):=by rw[hdt,Rn,if_neg k0,if_pos k1,if_pos k9,hy2]
   skip;refine⟨(An c' 10,(t.length:Int)),by refine By rfl (By ?_ rfl);show AV.int .i64 _=.int .i64 (t.length:Int);rw[←hT];simp,fun _=>hk,?_⟩;skip;refine⟨(An (An c' 10) t.length,4),rfl,fun _=>Bi hk,?_⟩;have hrow:((((Hf (right c).2).map Aa).drop 0).take ((Hf (right c).2).map Aa).length)[0+(C3 (An c' 10) t.length).toNat]? =some (Aa y):=by rw[hT,Nat.zero_add,List.drop_zero,List.take_length];exact Ao hy
   have hhi:C3 (An c' 10) t.length<(((((Hf (right c).2).map Aa).drop 0).take ((Hf (right c).2).map Aa).length).length:Nat):=by rw[hT];simp;omega
   repeat((conv=>whnf);first|refine⟨(by kernel_rfl:Bu _ _=true),?_⟩|refine⟨bb,?_⟩|refine⟨Aa y,hrow,?_⟩)
   rw[show Bq.res c=.agg [.own 4 ((Dg c).2.map Aa)]from rfl,hu];refine⟨⟨by show some _=some (AV.own 3 [Ba (Dg c).1]);rw[hu]<;>rfl,trivial⟩,⟨rfl,?_⟩,trivial⟩;rw[hT];simp[Aa,M9,M0,List.take_of_length_le,List.map_set]<;>rfl
  have k9:¬0<t.length:=by rw[←hT];simpa using k9
  have hu:Dg c=(An c' 10,t):=by rw[hdt,Rn,if_neg k0,if_pos k1,if_neg k9]
  skip;rw[show Bq.res c=.agg [.own 4 ((Dg c).2.map Aa)]from rfl,hu];refine⟨⟨by show some _=some (AV.own 3 [Ba (Dg c).1]);rw[hu]<;>rfl,trivial⟩,⟨rfl,?_⟩,trivial⟩;rw[hT];simp[Aa,M9,M0,List.take_of_length_le,List.map_set]<;>rfl
 have k1:¬C3 c' 10=1:=by
  have k1:(C3 c' 10==1)=false:=k1;simpa using k1
 skip
 (conv=>whnf);refine⟨fun k2=>?_,fun k2=>?_⟩
 ·skip
  have k2:C3 c' 10=2:=by
   have k2:(C3 c' 10==2)=true:=k2;simpa using k2
  skip
  (conv=>whnf);refine⟨fun k9=>?_,fun k9=>?_⟩
  ·have k9:1<t.length:=by rw[←hT];simp at k9;omega
   obtain⟨y,hy⟩:=B7 (l:=t) (i:=1) (by omega);obtain⟨y0,hy0⟩:=B7 (l:=t) (i:=0) (by omega);have hy2:t.getD 1 It.none=y:=by rw[List.getD_eq_getElem?_getD,hy];rfl
   have hu:Dg c=(An c' 10,t.set 0 y):=by rw[hdt,Rn,if_neg k0,if_neg k1,if_pos k2,if_pos k9,hy2]
   have hrow1:((((Hf (right c).2).map Aa).drop 0).take ((Hf (right c).2).map Aa).length)[0+(1:Int).toNat]? =some (Aa y):=by rw[hT,Nat.zero_add,List.drop_zero,List.take_length];exact Ao hy
   have hhi1:(1:Int)<(((((Hf (right c).2).map Aa).drop 0).take ((Hf (right c).2).map Aa).length).length:Nat):=by rw[hT];simp;omega
   have hhi0:(0:Int)<(((((Hf (right c).2).map Aa).drop 0).take ((Hf (right c).2).map Aa).length).length:Nat):=by rw[hT];simp;omega
   have hrow0:((((Hf (right c).2).map Aa).drop 0).take ((Hf (right c).2).map Aa).length)[0+(0:Int).toNat]? =some (Aa y0):=by rw[hT,Nat.zero_add,List.drop_zero,List.take_length];exact Ao hy0
   repeat((conv=>whnf);first|refine⟨(by kernel_rfl:Bu _ _=true),?_⟩|refine⟨bb,?_⟩|refine⟨Aa y,fun _=>hrow1,?_⟩|refine⟨Aa y0,hrow0,?_⟩)
   rw[show Bq.res c=.agg [.own 4 ((Dg c).2.map Aa)]from rfl,hu];refine⟨⟨by show some _=some (AV.own 3 [Ba (Dg c).1]);rw[hu]<;>rfl,trivial⟩,⟨rfl,?_⟩,trivial⟩;rw[hT];simp[Aa,M9,M0,List.take_of_length_le,List.map_set]<;>rfl
  have k9:¬1<t.length:=by rw[←hT];simp at k9;omega
  have hu:Dg c=(An c' 10,t):=by rw[hdt,Rn,if_neg k0,if_neg k1,if_pos k2,if_neg k9]
  skip;rw[show Bq.res c=.agg [.own 4 ((Dg c).2.map Aa)]from rfl,hu];refine⟨⟨by show some _=some (AV.own 3 [Ba (Dg c).1]);rw[hu]<;>rfl,trivial⟩,⟨rfl,?_⟩,trivial⟩;rw[hT];simp[Aa,M9,M0,List.take_of_length_le,List.map_set]<;>rfl
 have k2:¬C3 c' 10=2:=by
  have k2:(C3 c' 10==2)=false:=k2;simpa using k2
 skip
 (conv=>whnf);refine⟨fun k3=>?_,fun k3=>?_⟩
 ·skip
  have k3:C3 c' 10=3:=by
   have k3:(C3 c' 10==3)=true:=k3;simpa using k3
  skip
  (conv=>whnf);refine⟨fun k9=>?_,fun k9=>?_⟩
  ·have k9:0<t.length:=by rw[←hT];simpa using k9
   have hb:=Rb (An c' 10) t.length;have hb2:=hb.2 (by omega);obtain⟨y,hy⟩:=B7 (l:=t) (i:=(C3 (An c' 10) t.length).toNat) (by omega);have hy2:t.getD (C3 (An c' 10) t.length).toNat It.none=y:=by rw[List.getD_eq_getElem?_getD,hy];rfl
   have hu:Dg c=(An (An (An c' 10) t.length) 3,t.set (C3 (An c' 10) t.length).toNat (M0 y (Gw (An (An c' 10) t.length) tms))):=by rw[hdt,Rn,if_neg k0,if_neg k1,if_neg k2,if_pos k3,if_pos k9,hy2]
   skip;refine⟨(An c' 10,(t.length:Int)),by refine By rfl (By ?_ rfl);show AV.int .i64 _=.int .i64 (t.length:Int);rw[←hT];simp,fun _=>hk,?_⟩;skip;refine⟨(An (An c' 10) t.length,tms),rfl,fun _=>⟨Bi hk,(by decide:0<tms.length∧tms.length≤1000)⟩,?_⟩;have hrow:((((Hf (right c).2).map Aa).drop 0).take ((Hf (right c).2).map Aa).length)[0+(C3 (An c' 10) t.length).toNat]? =some (Aa y):=by rw[hT,Nat.zero_add,List.drop_zero,List.take_length];exact Ao hy
   have hhi:C3 (An c' 10) t.length<(((((Hf (right c).2).map Aa).drop 0).take ((Hf (right c).2).map Aa).length).length:Nat):=by rw[hT];simp;omega
   repeat((conv=>whnf);first|refine⟨(by kernel_rfl:Bu _ _=true),?_⟩|refine⟨bb,?_⟩|refine⟨Aa y,hrow,?_⟩)
   rw[show Bq.res c=.agg [.own 4 ((Dg c).2.map Aa)]from rfl,hu];refine⟨⟨by show some _=some (AV.own 3 [Ba (Dg c).1]);rw[hu]<;>rfl,trivial⟩,⟨rfl,?_⟩,trivial⟩;rw[hT];simp[Aa,M9,M0,List.take_of_length_le,List.map_set]<;>rfl
  have k9:¬0<t.length:=by rw[←hT];simpa using k9
  have hu:Dg c=(An c' 10,t):=by rw[hdt,Rn,if_neg k0,if_neg k1,if_neg k2,if_pos k3,if_neg k9]
  skip;rw[show Bq.res c=.agg [.own 4 ((Dg c).2.map Aa)]from rfl,hu];refine⟨⟨by show some _=some (AV.own 3 [Ba (Dg c).1]);rw[hu]<;>rfl,trivial⟩,⟨rfl,?_⟩,trivial⟩;rw[hT];simp[Aa,M9,M0,List.take_of_length_le,List.map_set]<;>rfl
 have k3:¬C3 c' 10=3:=by
  have k3:(C3 c' 10==3)=false:=k3;simpa using k3
 have hu:Dg c=(An c' 10,t):=by rw[hdt,Rn,if_neg k0,if_neg k1,if_neg k2,if_neg k3]
 skip;rw[show Bq.res c=.agg [.own 4 ((Dg c).2.map Aa)]from rfl,hu];refine⟨⟨by show some _=some (AV.own 3 [Ba (Dg c).1]);rw[hu]<;>rfl,trivial⟩,⟨rfl,?_⟩,trivial⟩;rw[hT];simp[Aa,M9,M0,List.take_of_length_le,List.map_set]<;>rfl
theorem A49:Au Tryz.prog 40 Bq:=Dv (Bx _ _) (FOk.cons I1 (FOk.cons A63 (FOk.cons A14 (FOk.cons Vz (FOk.cons Ky FOk.nil))))) mixed Tryz.func40 rfl Tryz.call40 (by decide) (by kernel_rfl) A7n (fun h=>by cases h) (by intro(y:Cur) _;first|exact⟨by simp[Bq,con,A9,A8,Ad,AV.free,A2,A3,A1,A6,Aa,Ae,Ag,Ba,Ak,Ay,At,B1,B3],by simp[Bq,con,A9,A8,Ad,AV.free,A2,A3,A1,A6,Aa,Ae,Ag,Ba,Ak,Ay,At,B1,B3]⟩|(obtain⟨_,_⟩:=y;exact⟨by simp[Bq,con,A9,A8,Ad,AV.free,A2,A3,A1,A6,Aa,Ae,Ag,Ba,Ak,Ay,At,B1,B3],by simp[Bq,con,A9,A8,Ad,AV.free,A2,A3,A1,A6,Aa,Ae,Ag,Ba,Ak,Ay,At,B1,B3]⟩)|(obtain⟨_,_,_⟩:=y;exact⟨by simp[Bq,con,A9,A8,Ad,AV.free,A2,A3,A1,A6,Aa,Ae,Ag,Ba,Ak,Ay,At,B1,B3],by simp[Bq,con,A9,A8,Ad,AV.free,A2,A3,A1,A6,Aa,Ae,Ag,Ba,Ak,Ay,At,B1,B3]⟩)) (by intro(y:Cur) _;first|(simp[Bq,con,A9,A8,Ad,AV.free,A2,A3,A1,A6,Aa,Ae,Ag,Ba,Ak,Ay,At,B1,B3];done)|(obtain⟨_,_⟩:=y;simp[Bq,con,A9,A8,Ad,AV.free,A2,A3,A1,A6,Aa,Ae,Ag,Ba,Ak,Ay,At,B1,B3];done)|(obtain⟨_,_,_⟩:=y;simp[Bq,con,A9,A8,Ad,AV.free,A2,A3,A1,A6,Aa,Ae,Ag,Ba,Ak,Ay,At,B1,B3];done))
def Hp:Bd:=con [mS 1,mS 1] true (List Str×List Str) (fun x=>[.rd 1 (x.1.map A6),.rd 1 (x.2.map A6)]) (fun x=>smL x.1∧smL x.2) (fun x=>.bool (x.1==x.2))
def A5z:Env:=⟨A4 B5,A4 [],[0,1,4,5,10,14,25]⟩
theorem A6f:B6 A5z (Av Tryz.f86) Tryz.f86.results.toList Hp:=by
 rintro⟨l,m⟩ hs;obtain⟨⟨hl1,hl2⟩,⟨hm1,hm2⟩⟩:smL l∧smL m:=hs;refine⟨trivial,?_⟩
 (conv=>whnf);refine⟨fun h1=>?_,fun h1=>?_⟩
 ·have h1:l.length≠m.length:=by simp at h1;omega
  conv=>whnf
  exact⟨trivial,eqB (Eq.symm (beq_eq_false_iff_ne.2 fun e=>h1 (congrArg List.length e)))⟩
 have h1:l.length=m.length:=by simp at h1;omega
 skip;refine B2 (fun i:Nat=>⟨[(0,⟨none,.rd 1 (l.map A6)⟩),(1,⟨none,.rd 1 (m.map A6)⟩),(5,⟨none,.int .i64 i⟩)],[],0⟩)
  (fun i=>i≤l.length∧l.take i=m.take i) (fun i=>l.length - i) 0 ?_ ⟨by omega,rfl⟩ ?_
 ·(refine⟨?_,?_,rfl⟩<;>repeat' (first|exact rfl|exact trivial|refine⟨?_,?_⟩|fail)<;>(conv=>whnf))
 rintro i ⟨hi,hI⟩
 (conv=>whnf);refine⟨fun h2=>?_,fun h2=>?_⟩
 ·have h2:i<l.length:=by simpa using h2
  obtain⟨b,hb⟩:=B7 h2;obtain⟨c,hc⟩:=B7 (l:=m) (i:=i) (by omega);repeat((conv=>whnf);first|refine⟨(by kernel_rfl:Bu _ _=true),?_⟩|refine⟨A6 b,fun _=>⟨by omega,Ao hb⟩,?_⟩|refine⟨A6 c,fun _=>⟨by omega,Ao hc⟩,?_⟩)
  (conv=>whnf);refine⟨fun h3=>?_,fun h3=>?_⟩
  ·have h3:(!(b==c))=true:=h3
   conv=>whnf
   exact⟨trivial,eqB (Eq.symm (beq_eq_false_iff_ne.2 fun(e:l=m)=>by
    rw[←e,hb]at hc;simp at hc;simp[hc]at h3))⟩
  ·have h3:b=c:=by
    have h3:(!(b==c))=false:=h3;simpa using h3
   repeat((conv=>whnf);refine⟨_,w64 (bb),?_⟩)
   refine Bt (i+1) ?_ ⟨h2,by rw[Bk hb,Bk hc,hI,h3]⟩ (by first|omega|(simp;done)|(simp;omega))
   (refine⟨?_,?_,rfl⟩<;>repeat' (first|exact rfl|exact trivial|refine⟨?_,?_⟩|fail)<;>(conv=>whnf))
 ·have h2:i=l.length:=by
   have:¬i<l.length:=by simpa using h2
   omega
  subst h2;conv=>whnf
  rw[List.take_length,h1,List.take_length]at hI;exact⟨trivial,eqB (Eq.symm (beq_iff_eq.2 hI))⟩
theorem A3i:Au Tryz.prog 86 Hp:=Al (Bx _ _) FOk.nil mixed Tryz.func86 rfl Tryz.call86 (by decide) (by kernel_rfl) A6f (by intro _ (y:(List Str×List Str)) _;exact⟨by simp[Hp,con,A9,A8,AV.noRd,A7,Ab,A5,A6],by simp[Hp,con,A9,A8,AV.noRd,A7,Ab,A5,A6]⟩) (by intro(y:(List Str×List Str)) _;first|(simp[Hp,con,A9,A8,Ad,AV.free,A2,A3,A1,A6];done)|(obtain⟨_,_⟩:=y;simp[Hp,con,A9,A8,Ad,AV.free,A2,A3,A1,A6];done)|(obtain⟨_,_,_⟩:=y;simp[Hp,con,A9,A8,Ad,AV.free,A2,A3,A1,A6];done))
def Ha:Bd:=con [mC,mC] true (Str×Str) (fun⟨p,q⟩=>[.str p,.str q]) (fun x=>sml x.1.length∧sml x.2.length) (fun x=>.bool (Cw x.1 x.2))
def B03:Env:=⟨A4 B5,A4 [(75,D3),(85,Ek),(86,Hp)],[0,1,4,5,6]⟩
theorem B0i:B6 B03 (Av Tryz.f46) Tryz.f46.results.toList Ha:=by
 rintro⟨p,q⟩ hs;obtain⟨h1,h2⟩:sml p.length∧sml q.length:=hs;refine⟨trivial,?_⟩;conv=>whnf
 refine⟨p,rfl,fun _=>h1,?_⟩;conv=>whnf
 refine⟨q,rfl,fun _=>h2,?_⟩;conv=>whnf
 refine⟨p,rfl,fun _=>h1,?_⟩;repeat((conv=>whnf);refine⟨fun h=>h,?_⟩)
 refine⟨q,rfl,fun _=>h2,?_⟩;repeat((conv=>whnf);refine⟨fun h=>h,?_⟩)
 conv=>whnf
 refine⟨fun h=>⟨by omega,by omega,by simp[Cy]at h⊢;omega⟩,?_⟩;repeat((conv=>whnf);refine⟨fun h=>h,?_⟩)
 conv=>whnf
 refine⟨((names p).take (names q).length,names q),C98 (by rw[C5q];simp) (by simp[rdS]),fun h=>⟨C6m B92,B92⟩,?_⟩;repeat((conv=>whnf);refine⟨fun h=>h,?_⟩)
 conv=>whnf
 refine⟨trivial,eqB ?_⟩;show(B4 p&&B4 q&&decide ((((names q).map A6).length:Int)≤((names p).map A6).length)&&((names p).take (names q).length==names q))=Cw p q;rw[List.length_map,List.length_map,Cw,Bool.and_assoc (B4 p&&B4 q),A9e]
theorem W0:Au Tryz.prog 46 Ha:=Al (Bx _ _) (FOk.cons Gb (FOk.cons Kv (FOk.cons A3i FOk.nil))) mixed Tryz.func46 rfl Tryz.call46 (by decide) (by kernel_rfl) B0i (by intro _ (y:(Str×Str)) _;exact⟨by simp[Ha,con,A9,A8,AV.noRd,A7,Ab,A5,A6],by simp[Ha,con,A9,A8,AV.noRd,A7,Ab,A5,A6]⟩) (by intro(y:(Str×Str)) _;first|(simp[Ha,con,A9,A8,Ad,AV.free,A2,A3,A1,A6];done)|(obtain⟨_,_⟩:=y;simp[Ha,con,A9,A8,Ad,AV.free,A2,A3,A1,A6];done)|(obtain⟨_,_,_⟩:=y;simp[Ha,con,A9,A8,Ad,AV.free,A2,A3,A1,A6];done))
def Pk:Bd:=con [mC,mC] true (Str×Str) (fun⟨p,q⟩=>[.str p,.str q]) (fun x=>True) (fun x=>.bool (x.2.isPrefixOf x.1))
theorem Wb:Au Tryz.prog 84 Pk:=by
 refine Ps rfl (fun _=>rfl) (fun _=>rfl) (fun _=>rfl) (fun⟨_,_⟩ _=>⟨trivial,trivial,trivial⟩) Tryz.call84 ?_;rintro⟨l,p⟩ hpre y w args ρ hw hR hsz hs;have h0:=Hm (hs 0 _ rfl);have h1:=Hm (hs 1 _ rfl);have ha:=B93 hsz h0 h1;rw[ha];refine(Tryz.strings_HasPrefix (toB l) (toB p) w).mono ?_;rintro e w' ⟨rfl,rfl⟩;exact⟨rfl,RowKit.Below.refl _ _⟩
def Gx:Bd:=con [mC,mC] true (Str×Str) (fun⟨p,q⟩=>[.str p,.str q]) (fun x=>sml x.1.length∧sml x.2.length) (fun x=>.bool (Cw x.1 x.2))
def B23:Env:=⟨A4 B5,A4 [(83,F5),(84,Pk)],[0,1,4,12]⟩
theorem B12:B6 B23 (Av Tryz.f44) Tryz.f44.results.toList Gx:=by
 rintro⟨p,q⟩ hs;obtain⟨h1,h2⟩:p.length≤4194304∧q.length≤4194304:=hs;refine⟨trivial,?_⟩;conv=>whnf
 refine⟨p,rfl,fun _=>h1,?_⟩;repeat((conv=>whnf);refine⟨fun h=>h,?_⟩)
 refine⟨q,rfl,fun _=>h2,?_⟩;repeat((conv=>whnf);refine⟨fun h=>h,?_⟩)
 (conv=>whnf);refine⟨fun h3=>?_,fun h3=>?_⟩
 ·conv=>whnf
  have h3:(!B4 p|| !B4 q)=true:=h3;exact⟨trivial,eqB (by unfold Cw;revert h3;cases B4 p<;>cases B4 q<;>simp)⟩
 have h3:(!B4 p|| !B4 q)=false:=h3;have hp:B4 p=true:=by revert h3;cases B4 p<;>simp
 have hq:B4 q=true:=by revert h3;cases B4 q<;>simp
 repeat((conv=>whnf);first|refine⟨fun h=>h,?_⟩|refine⟨bb,?_⟩)
 conv=>whnf
 refine⟨(p,q++sl),rfl,fun _=>trivial,?_⟩;repeat((conv=>whnf);refine⟨fun h=>h,?_⟩)
 conv=>whnf
 exact⟨trivial,eqB (B5t hp hq)⟩
theorem Wc:Au Tryz.prog 44 Gx:=Al (Bx _ _) (FOk.cons Nn (FOk.cons Wb FOk.nil)) mixed Tryz.func44 rfl Tryz.call44 (by decide) (by kernel_rfl) B12 (by intro _ (y:(Str×Str)) _;exact⟨by simp[Gx,con,A9,A8,AV.noRd,A7,Ab,A5,A6],by simp[Gx,con,A9,A8,AV.noRd,A7,Ab,A5,A6]⟩) (by intro(y:(Str×Str)) _;first|(simp[Gx,con,A9,A8,Ad,AV.free,A2,A3,A1,A6];done)|(obtain⟨_,_⟩:=y;simp[Gx,con,A9,A8,Ad,AV.free,A2,A3,A1,A6];done)|(obtain⟨_,_,_⟩:=y;simp[Gx,con,A9,A8,Ad,AV.free,A2,A3,A1,A6];done))
def Uj:Bd:={Bq with sh:=true,res:=fun(c:Cur)=>.agg [.rd 4 ((Dg c).2.map Aa)]}
theorem A1r:Au Tryz.prog 40 Uj:=A2t _ A49 rfl (fun c _=>⟨rfl,by show 1≤16;omega,by simp only[Bq,A8,frz,Ml,List.map_cons,List.map_nil,Ni,rdI]⟩)
def Fk:Bd:=A8 true [.mp] Cur (fun c=>[.own 3 [Ba c]]) Dd (fun c=>.agg (Ai (opX c))) (fun c=>[.own 3 [Ba (opN c)]])
def B6n:Env:=⟨A4 B5,A4 [(42,Ca),(43,Dz),(80,E7),(81,Cb),(126,Ec)],[0,2,3,13,17,22,32]⟩
theorem B66:B6 B6n (Av Tryz.f146) Tryz.f146.results.toList Fk:=by
 intro(c:Cur) hc;have hc:Dd c:=hc;refine⟨⟨⟨_,_,_,rfl,rfl,by simp⟩,trivial⟩,?_⟩;skip;refine⟨(c,N5),rfl,fun _=>⟨hc,(by decide:0<N5.length∧N5.length≤1000)⟩,?_⟩;skip;refine⟨An c 14,rfl,fun _=>Bi hc,?_⟩;skip;refine⟨(Ow (An c 14),9),rfl,fun _=>Wa (Bi hc),?_⟩;have hok:=C5x hc;have hX:opX c=C6q (Gw c N5) (Nx (An c 14)) (C3 (Ow (An c 14)) 9) (opC c):=rfl;have hN:opN c=C58 (Gw c N5) (opC c):=rfl;skip
 (conv=>whnf);refine⟨fun h1=>?_,fun h1=>?_⟩
 ·have h1:Gw c N5=8:=by
   have h1:(Gw c N5==8)=true:=h1;simpa using h1
  rw[C6q,if_pos h1]at hX;rw[C58,if_pos h1]at hN;skip;refine⟨opC c,rfl,fun _=>hok,?_⟩;skip;exact⟨⟨by rw[hN];rfl,trivial⟩,leO hX⟩
 have h1:¬Gw c N5=8:=by
  have h1:(Gw c N5==8)=false:=h1;simpa using h1
 rw[C6q,if_neg h1]at hX;rw[C58,if_neg h1]at hN;skip
 (conv=>whnf);refine⟨fun h2=>?_,fun h2=>?_⟩
 ·have h2:Gw c N5=3:=by
   have h2:(Gw c N5==3)=true:=h2;simpa using h2
  rw[if_pos h2]at hX hN;skip;refine⟨(opC c,C76),rfl,fun _=>⟨hok,(by decide:0<C76.length∧C76.length≤1000)⟩,?_⟩;skip;refine⟨(An (opC c) 6,B85),rfl,fun _=>⟨Bi hok,(by decide:0<B85.length∧B85.length≤1000)⟩,?_⟩;skip;exact⟨⟨by rw[hN];rfl,trivial⟩,leO hX⟩
 have h2:¬Gw c N5=3:=by
  have h2:(Gw c N5==3)=false:=h2;simpa using h2
 rw[if_neg h2]at hX hN;skip
 (conv=>whnf);refine⟨fun h3=>?_,fun h3=>?_⟩
 ·have h3:Gw c N5=4:=by
   have h3:(Gw c N5==4)=true:=h3;simpa using h3
  rw[if_pos h3]at hX hN;skip;refine⟨(opC c,C7u),rfl,fun _=>⟨hok,(by decide:0<C7u.length∧C7u.length≤1000)⟩,?_⟩;skip;exact⟨⟨by rw[hN];rfl,trivial⟩,leO hX⟩
 have h3:¬Gw c N5=4:=by
  have h3:(Gw c N5==4)=false:=h3;simpa using h3
 rw[if_neg h3]at hX hN;skip;refine⟨opC c,rfl,fun _=>hok,?_⟩;skip;exact⟨⟨by rw[hN];rfl,trivial⟩,leO hX⟩
theorem B00:Au Tryz.prog 146 Fk:=Dv (Bx _ _) (FOk.cons I1 (FOk.cons Qk (FOk.cons Vz (FOk.cons Ky (FOk.cons Wq FOk.nil))))) mixed Tryz.func146 rfl Tryz.call146 (by decide) (by kernel_rfl) B66 (fun h=>by cases h) (by intro(y:Cur) _;first|exact⟨by simp[Fk,con,A9,A8,Ad,AV.free,A2,A3,A1,A6,Ai,Ba,Ag,Ae],by simp[Fk,con,A9,A8,Ad,AV.free,A2,A3,A1,A6,Ai,Ba,Ag,Ae]⟩|(obtain⟨_,_⟩:=y;exact⟨by simp[Fk,con,A9,A8,Ad,AV.free,A2,A3,A1,A6,Ai,Ba,Ag,Ae],by simp[Fk,con,A9,A8,Ad,AV.free,A2,A3,A1,A6,Ai,Ba,Ag,Ae]⟩)|(obtain⟨_,_,_⟩:=y;exact⟨by simp[Fk,con,A9,A8,Ad,AV.free,A2,A3,A1,A6,Ai,Ba,Ag,Ae],by simp[Fk,con,A9,A8,Ad,AV.free,A2,A3,A1,A6,Ai,Ba,Ag,Ae]⟩)) (by intro(y:Cur) _;first|(simp[Fk,con,A9,A8,Ad,AV.free,A2,A3,A1,A6,Ai,Ba,Ag,Ae];done)|(obtain⟨_,_⟩:=y;simp[Fk,con,A9,A8,Ad,AV.free,A2,A3,A1,A6,Ai,Ba,Ag,Ae];done)|(obtain⟨_,_,_⟩:=y;simp[Fk,con,A9,A8,Ad,AV.free,A2,A3,A1,A6,Ai,Ba,Ag,Ae];done))
def Kb:Bd:=con [.rd [none,none,none,none,none,none]] true OpR (fun o=>[.agg (Ai o)]) (fun _=>True) (fun o=>.bool (Hz o))
def B6x:Env:=⟨A4 B5,A4 [(76,Ch)],[0,1,2]⟩
theorem B84:B6 B6x (Av Tryz.f98) Tryz.f98.results.toList Kb:=by
 rintro(o:OpR) _;refine⟨trivial,?_⟩;conv=>whnf
 refine⟨(o.kind,0,8),rfl,fun _=>trivial,?_⟩;repeat((conv=>whnf);refine⟨fun h=>h,?_⟩)
 refine⟨(o.at_,0,1000),rfl,fun _=>trivial,?_⟩;repeat((conv=>whnf);refine⟨fun h=>h,?_⟩)
 refine⟨(o.time,0,100000),rfl,fun _=>trivial,?_⟩;repeat((conv=>whnf);refine⟨fun h=>h,?_⟩)
 exact⟨trivial,eqB (by
  show _=(inB o.kind 0 8&&inB o.at_ 0 1000&&inB o.time 0 100000);cases inB o.kind 0 8<;>cases inB o.at_ 0 1000<;>cases inB o.time 0 100000<;>rfl)⟩
theorem B4m:Au Tryz.prog 98 Kb:=Al (Bx _ _) (FOk.cons Di FOk.nil) mixed Tryz.func98 rfl Tryz.call98 (by decide) (by kernel_rfl) B84 (by intro _ (y:OpR) _;exact⟨by simp[Kb,con,A9,A8,AV.noRd,A7,Ab,A5,A6,Ai],by simp[Kb,con,A9,A8,AV.noRd,A7,Ab,A5,A6,Ai]⟩) (by intro(y:OpR) _;first|(simp[Kb,con,A9,A8,Ad,AV.free,A2,A3,A1,A6,Ai];done)|(obtain⟨_,_⟩:=y;simp[Kb,con,A9,A8,Ad,AV.free,A2,A3,A1,A6,Ai];done)|(obtain⟨_,_,_⟩:=y;simp[Kb,con,A9,A8,Ad,AV.free,A2,A3,A1,A6,Ai];done))
def Ka:Bd:=con [.rd [none,none,none,none,none,none]] true OpR (fun o=>[.agg (Ai o)]) (fun _=>True) (fun o=>.bool (Hz o))
def B88:Env:=⟨A4 B5,A4 [(91,Dx)],[0,1,2]⟩
theorem B8v:B6 B88 (Av Tryz.f105) Tryz.f105.results.toList Ka:=by
 rintro(o:OpR) _;refine⟨trivial,?_⟩;conv=>whnf
 refine⟨(o.kind,0,8),rfl,fun _=>trivial,?_⟩;repeat((conv=>whnf);refine⟨fun h=>h,?_⟩)
 refine⟨(o.at_,0,1000),rfl,fun _=>trivial,?_⟩;repeat((conv=>whnf);refine⟨fun h=>h,?_⟩)
 refine⟨(o.time,0,100000),rfl,fun _=>trivial,?_⟩;repeat((conv=>whnf);refine⟨fun h=>h,?_⟩)
 exact⟨trivial,eqB (by
  show _=(inB o.kind 0 8&&inB o.at_ 0 1000&&inB o.time 0 100000);cases inB o.kind 0 8<;>cases inB o.at_ 0 1000<;>cases inB o.time 0 100000<;>rfl)⟩
theorem B47:Au Tryz.prog 105 Ka:=Al (Bx _ _) (FOk.cons Iy FOk.nil) mixed Tryz.func105 rfl Tryz.call105 (by decide) (by kernel_rfl) B8v (by intro _ (y:OpR) _;exact⟨by simp[Ka,con,A9,A8,AV.noRd,A7,Ab,A5,A6,Ai],by simp[Ka,con,A9,A8,AV.noRd,A7,Ab,A5,A6,Ai]⟩) (by intro(y:OpR) _;first|(simp[Ka,con,A9,A8,Ad,AV.free,A2,A3,A1,A6,Ai];done)|(obtain⟨_,_⟩:=y;simp[Ka,con,A9,A8,Ad,AV.free,A2,A3,A1,A6,Ai];done)|(obtain⟨_,_,_⟩:=y;simp[Ka,con,A9,A8,Ad,AV.free,A2,A3,A1,A6,Ai];done))
def H9:Bd:=con [mS 4,mC] true (Tr×Str) (fun x=>[rdT x.1,.str x.2]) (fun x=>smT x.1) (fun x=>.int .i64 (Jq x.1 x.2))
def A9c:Env:=⟨A4 B5,A4 [(45,Ci)],[0,1,2,4,5,6,14,17]⟩
theorem B1s:B6 A9c (Av Tryz.f135) Tryz.f135.results.toList H9:=by
 rintro⟨t,p⟩ hs;have hs:smT t:=hs;refine⟨trivial,?_⟩;conv=>whnf
 refine⟨(t,p),rfl,fun _=>hs,?_⟩;skip
 (conv=>whnf);refine⟨fun h1=>?_,fun h1=>?_⟩
 ·have h1:(!(Aj t p).isSome)=true:=h1
  skip;exact⟨trivial,Mu (by show _=Jq t p;unfold Jq;cases h:Aj t p with|none=>rfl|some x=>simp[h]at h1)⟩
 have h1:(!(Aj t p).isSome)=false:=h1
 (conv=>whnf);refine⟨fun h2=>?_,fun h2=>?_⟩
 ·have h2:(((Aj t p).getD It.none).kind !=2)=true:=h2
  skip;exact⟨trivial,Mu (by show _=Jq t p;unfold Jq;cases h:Aj t p with|none=>simp[h]at h1|some x=>simp[h]at h2;simp[h2])⟩
 have h2:(((Aj t p).getD It.none).kind !=2)=false:=h2;skip;exact⟨trivial,Mu (by show _=Jq t p;unfold Jq;cases h:Aj t p with|none=>simp[h]at h1|some x=>simp[h]at h2;simp[h2])⟩
theorem V9:Au Tryz.prog 135 H9:=Al (Bx _ _) (FOk.cons Fj FOk.nil) mixed Tryz.func135 rfl Tryz.call135 (by decide) (by kernel_rfl) B1s (by intro _ (y:(Tr×Str)) _;exact⟨by simp[H9,con,A9,A8,AV.noRd,A7,Ab,A5,A6,Aa,Ai],by simp[H9,con,A9,A8,AV.noRd,A7,Ab,A5,A6,Aa,Ai]⟩) (by intro(y:(Tr×Str)) _;first|(simp[H9,con,A9,A8,Ad,AV.free,A2,A3,A1,A6,rdT,Aa,Ai];done)|(obtain⟨_,_⟩:=y;simp[H9,con,A9,A8,Ad,AV.free,A2,A3,A1,A6,rdT,Aa,Ai];done)|(obtain⟨_,_,_⟩:=y;simp[H9,con,A9,A8,Ad,AV.free,A2,A3,A1,A6,rdT,Aa,Ai];done))
def Lk:Bd:=con [mC,mC] true (Str×Int) (fun⟨s,n⟩=>[.str s,.int .i64 n]) (fun x=>x.1.length≤16777216) (fun x=>.str (Se x.1 x.2))
def C1m:Env:=⟨A4 B5,A4 [(76,Ch)],[0,1,4,7,12]⟩
theorem C0x:B6 C1m (Av Tryz.f175) Tryz.f175.results.toList Lk:=by
 rintro⟨s,n⟩ hs;have hs:s.length≤16777216:=hs;refine⟨trivial,?_⟩;conv=>whnf
 refine⟨(n,0,100000),rfl,fun _=>trivial,?_⟩
 (conv=>whnf);refine⟨fun h1=>?_,fun h1=>?_⟩
 ·have h1:(!inB n 0 100000)=true:=h1
  skip;exact⟨trivial,eqS (B60 (by simpa using h1)).symm⟩
 have h1:(!inB n 0 100000)=false:=h1;have hb:inB n 0 100000=true:=by simpa using h1
 have hb2:=On.1 hb;obtain⟨k,rfl⟩:∃k:Nat,n=k:=⟨n.toNat,by omega⟩
 (conv=>whnf);refine⟨fun h2=>?_,fun h2=>?_⟩
 ·have h2:k≤s.length:=by simpa using h2
  repeat((conv=>whnf);refine⟨fun _=>⟨bb,bb,bb⟩,?_⟩)
  exact⟨trivial,eqS (by show _=Se s k;rw[C6e hb h2];simp)⟩
 have h2:¬k≤s.length:=by simpa using h2
 repeat((conv=>whnf);first|refine⟨_,w64 (bb),?_⟩|refine⟨bb,?_⟩)
 refine⟨List.replicate (k - s.length) 0,C83 (by show((k:Int) - s.length).toNat=_;omega),?_⟩;repeat((conv=>whnf);refine⟨bb,?_⟩)
 exact⟨trivial,eqS (C4s hb (by omega)).symm⟩
theorem B8d:Au Tryz.prog 175 Lk:=Al (Bx _ _) (FOk.cons Di FOk.nil) mixed Tryz.func175 rfl Tryz.call175 (by decide) (by kernel_rfl) C0x (by intro _ (y:(Str×Int)) _;exact⟨by simp[Lk,con,A9,A8,AV.noRd,A7,Ab,A5,A6,Aa,Ai],by simp[Lk,con,A9,A8,AV.noRd,A7,Ab,A5,A6,Aa,Ai]⟩) (by intro(y:(Str×Int)) _;first|(simp[Lk,con,A9,A8,Ad,AV.free,A2,A3,A1,A6,Aa,Ai];done)|(obtain⟨_,_⟩:=y;simp[Lk,con,A9,A8,Ad,AV.free,A2,A3,A1,A6,Aa,Ai];done)|(obtain⟨_,_,_⟩:=y;simp[Lk,con,A9,A8,Ad,AV.free,A2,A3,A1,A6,Aa,Ai];done))
def Hl:Bd:=con [mC,mC,mC] true (Str×Int×Str) (fun⟨s,n,d⟩=>[.str s,.int .i64 n,.str d]) (fun x=>x.1.length≤16777216∧x.2.2.length≤16777216) (fun x=>.str (wrote x.1 x.2.1 x.2.2))
def A5q:Env:=⟨A4 B5,A4 [(76,Ch)],[0,1,2,6,7,8,11,17,27]⟩
theorem A5i:B6 A5q (Av Tryz.f174) Tryz.f174.results.toList Hl:=by
 rintro⟨s,n,d⟩ hs;obtain⟨hs,hd⟩:s.length≤16777216∧d.length≤16777216:=hs;refine⟨trivial,?_⟩;conv=>whnf
 refine⟨(n,0,100000),rfl,fun _=>trivial,?_⟩
 (conv=>whnf);refine⟨fun h1=>?_,fun h1=>?_⟩
 ·have h1:(!inB n 0 100000)=true:=h1
  skip;exact⟨trivial,eqS (A0p (by simpa using h1)).symm⟩
 have h1:(!inB n 0 100000)=false:=h1;have hb:inB n 0 100000=true:=by simpa using h1
 have hb2:=On.1 hb;obtain⟨k,rfl⟩:∃k:Nat,n=k:=⟨n.toNat,by omega⟩
 skip
 (conv=>whnf);refine⟨fun h2=>?_,fun h2=>?_⟩
 ·have h2:k<s.length:=by simpa using h2
  repeat((conv=>whnf);first|refine⟨_,w64 (bb),?_⟩|refine⟨fun _=>⟨bb,bb,bb⟩,?_⟩)
  (conv=>whnf);refine⟨fun h3=>?_,fun h3=>?_⟩
  ·have h3:k+d.length<s.length:=by simp at h3;omega
   repeat((conv=>whnf);first|refine⟨_,w64 (bb),?_⟩|refine⟨fun _=>⟨bb,bb,bb⟩,?_⟩|refine⟨bb,?_⟩)
   exact⟨trivial,eqS (by show _=wrote s k d;rw[Zq hb (by omega),show((k:Int)+d.length).toNat=k+d.length by omega];simp)⟩
  have h3:¬k+d.length<s.length:=by simp at h3;omega
  repeat((conv=>whnf);refine⟨bb,?_⟩)
  exact⟨trivial,eqS (by show _=wrote s k d;rw[Zq hb (by omega),show s.drop (k+d.length)=[]from List.drop_eq_nil_of_le (by omega)];simp)⟩
 have h2:¬k<s.length:=by simpa using h2
 repeat((conv=>whnf);first|refine⟨_,w64 (bb),?_⟩|refine⟨bb,?_⟩)
 refine⟨List.replicate (k - s.length) 0,C83 (by show((k:Int) - s.length).toNat=_;omega),?_⟩;repeat((conv=>whnf);refine⟨bb,?_⟩)
 exact⟨trivial,eqS (by show _=wrote s k d;rw[A6r hb (by omega)];simp)⟩
theorem A41:Au Tryz.prog 174 Hl:=Al (Bx _ _) (FOk.cons Di FOk.nil) mixed Tryz.func174 rfl Tryz.call174 (by decide) (by kernel_rfl) A5i (by intro _ (y:(Str×Int×Str)) _;exact⟨by simp[Hl,con,A9,A8,AV.noRd,A7,Ab,A5,A6,Aa,Ai],by simp[Hl,con,A9,A8,AV.noRd,A7,Ab,A5,A6,Aa,Ai]⟩) (by intro(y:(Str×Int×Str)) _;first|(simp[Hl,con,A9,A8,Ad,AV.free,A2,A3,A1,A6,Aa,Ai];done)|(obtain⟨_,_⟩:=y;simp[Hl,con,A9,A8,Ad,AV.free,A2,A3,A1,A6,Aa,Ai];done)|(obtain⟨_,_,_⟩:=y;simp[Hl,con,A9,A8,Ad,AV.free,A2,A3,A1,A6,Aa,Ai];done))
def Hh:Bd:=con [mC,.rd [none,none,none,none,none,none]] true (Str×OpR) (fun x=>[.str x.1,.agg (Ai x.2)]) (fun x=>x.1.length≤4194304∧x.2.data.length≤1048576) (fun x=>.tup [.str (Eo x.1 x.2).1,.bool (Eo x.1 x.2).2])
def A50:Env:=⟨A4 B5,A4 [(174,Hl),(175,Lk)],[0,1,3,4,5,6,8,9,21]⟩
theorem A6g:B6 A50 (Av Tryz.f136) Tryz.f136.results.toList Hh:=by
 rintro⟨s,o⟩ hs;obtain⟨hs,hd⟩:s.length≤4194304∧o.data.length≤1048576:=hs;refine⟨trivial,?_⟩;skip
 (conv=>whnf);refine⟨fun h1=>?_,fun h1=>?_⟩
 ·have h1:(o.kind==3)=true:=h1
  skip;refine⟨(s,o.at_,o.data),rfl,fun _=>⟨by show s.length≤_;omega,by show o.data.length≤_;omega⟩,?_⟩;skip;exact⟨trivial,eqS (by simp[Eo,h1]),eqB (by simp[Eo,h1]),trivial⟩
 have h1:(o.kind==3)=false:=h1;skip
 (conv=>whnf);refine⟨fun h2=>?_,fun h2=>?_⟩
 ·have h2:(o.kind==4)=true:=h2
  skip;refine⟨(s,o.at_),rfl,fun _=>(by show s.length≤_;omega),?_⟩;repeat((conv=>whnf);refine⟨(by kernel_rfl:Bu _ _=true),?_⟩)
  exact⟨trivial,eqS (by simp[Eo,h1,h2]),eqB (by simp[Eo,h1,h2]),trivial⟩
 have h2:(o.kind==4)=false:=h2;skip;exact⟨trivial,eqS (by simp[Eo,h1,h2]),eqB (by simp[Eo,h1,h2]),trivial⟩
theorem A3p:Au Tryz.prog 136 Hh:=Al (Bx _ _) (FOk.cons A41 (FOk.cons B8d FOk.nil)) mixed Tryz.func136 rfl Tryz.call136 (by decide) (by kernel_rfl) A6g (by intro _ (y:(Str×OpR)) _;exact⟨by simp[Hh,con,A9,A8,AV.noRd,A7,Ab,A5,A6,Aa,Ai],by simp[Hh,con,A9,A8,AV.noRd,A7,Ab,A5,A6,Aa,Ai]⟩) (by intro(y:(Str×OpR)) _;first|(simp[Hh,con,A9,A8,Ad,AV.free,A2,A3,A1,A6,Aa,Ai];done)|(obtain⟨_,_⟩:=y;simp[Hh,con,A9,A8,Ad,AV.free,A2,A3,A1,A6,Aa,Ai];done)|(obtain⟨_,_,_⟩:=y;simp[Hh,con,A9,A8,Ad,AV.free,A2,A3,A1,A6,Aa,Ai];done))
def Eh:Bd:=con [mS 4,mC] false (Tr×Str) (fun⟨t,p⟩=>[rdT t,.str p]) (fun x=>smT x.1) (fun x=>.agg [.own 4 ((J5 x.1 x.2).map Aa)])
def A0d:Env:=⟨A4 B5,A4 [],[0,1,2,4,5,6,12,22]⟩
theorem Za:B6 A0d (Av Tryz.f138) Tryz.f138.results.toList Eh:=by
 rintro⟨t,p⟩ hs;obtain⟨hs1,hs2⟩:smT t:=hs;refine⟨trivial,?_⟩;skip;refine B2 (fun i:Nat=>⟨[(1,⟨none,.str p⟩),(2,⟨none,.bx 0 0⟩),(4,⟨none,.bx 1 0⟩),(5,⟨none,.bx 2 0⟩),(6,⟨none,.int .i64 i⟩)],[(2,.own 1 [[.own 4 ((J5 (t.take i) p).map Aa)]]),(1,.own 1 [[.own 4 []]]),(0,.own 1 [[.rd 4 (t.map Aa)]])],3⟩)
  (fun i=>i≤t.length) (fun i=>t.length - i) 0 ?_ (by omega) ?_
 ·(refine⟨?_,?_,rfl⟩<;>repeat' (first|exact rfl|exact trivial|refine⟨?_,?_⟩|fail)<;>(conv=>whnf))
  all_goals simp[setCells,J5]
 intro i hi;have hi:i≤t.length:=hi;have hlen:(J5 (t.take i) p).length≤4194304:=by
  have:=List.length_filter_le (fun y=> !(y.path==p)) (t.take i);rw[List.length_take]at this;show(List.filter _ _).length≤_;omega
 have hnext:∀{y:It},t[i]? =some y→J5 (t.take (i+1)) p=J5 (t.take i) p++J5 [y] p:=fun hy=>by
  simp[J5,Bk hy]
 generalize hout:J5 (t.take i) p=out at hlen hnext⊢
 (conv=>whnf);refine⟨fun h2=>?_,fun h2=>?_⟩
 ·have h2:i<t.length:=by simpa using h2
  obtain⟨y,hy⟩:=B7 h2;repeat((conv=>whnf);refine⟨Aa y,fun _=>⟨by omega,Ao hy⟩,?_⟩)
  (conv=>whnf);refine⟨fun h3=>?_,fun h3=>?_⟩
  ·have h3:(y.path==p)=false:=by simpa using h3
   repeat((conv=>whnf);first|refine⟨(by kernel_rfl:Bu _ _=true),?_⟩|refine⟨_,w64 (bb),?_⟩|refine⟨bb,?_⟩|refine⟨Ls (by rfl),?_⟩|refine⟨Aa y,fun _=>⟨by omega,Ao hy⟩,?_⟩)
   refine Bt (i+1) ?_ h2 (by first|omega|(simp;done)|(simp;omega));rw[hnext hy]
   (refine⟨?_,?_,rfl⟩<;>repeat' (first|exact rfl|exact trivial|refine⟨?_,?_⟩|fail)<;>(conv=>whnf))
   all_goals (simp only[J5,List.filter_cons,h3];first|(simp[setCells,Aa];done)|(simp[setCells,Aa];rw[List.take_of_length_le (by simp)];rfl))
  ·have h3:(y.path==p)=true:=by simpa using h3
   repeat((conv=>whnf);refine⟨_,w64 (bb),?_⟩)
   refine Bt (i+1) ?_ h2 (by first|omega|(simp;done)|(simp;omega));rw[hnext hy]
   (refine⟨?_,?_,rfl⟩<;>repeat' (first|exact rfl|exact trivial|refine⟨?_,?_⟩|fail)<;>(conv=>whnf))
   all_goals (simp only[J5,List.filter_cons,h3];simp[setCells])
 ·have h2:i=t.length:=by
   have:¬i<t.length:=by simpa using h2
   omega
  subst h2;rw[List.take_length]at hout;rw[show Eh.res (t,p)=.agg [.own 4 (out.map Aa)] by show AV.agg [.own 4 ((J5 t p).map Aa)]=_;rw[hout]];skip;exact⟨trivial,⟨rfl,by simp⟩,trivial⟩
theorem Yf:Au Tryz.prog 138 Eh:=Al (Bx _ _) FOk.nil mixed Tryz.func138 rfl Tryz.call138 (by decide) (by kernel_rfl) Za (by intro _ (y:(Tr×Str)) _;exact⟨by simp[Eh,con,A9,A8,AV.noRd,A7,Ab,A5,A6,Aa,Ai],by simp[Eh,con,A9,A8,AV.noRd,A7,Ab,A5,A6,Aa,Ai]⟩) (by intro(y:(Tr×Str)) _;first|(simp[Eh,con,A9,A8,Ad,AV.free,A2,A3,A1,A6,rdT,Aa,Ai];done)|(obtain⟨_,_⟩:=y;simp[Eh,con,A9,A8,Ad,AV.free,A2,A3,A1,A6,rdT,Aa,Ai];done)|(obtain⟨_,_,_⟩:=y;simp[Eh,con,A9,A8,Ad,AV.free,A2,A3,A1,A6,rdT,Aa,Ai];done))
def Cu:Bd:=con [mS 4,.rd [none,none,none,none,none,none]] false (Tr×OpR) (fun⟨t,o⟩=>[rdT t,.agg (Ai o)]) (fun x=>smT x.1∧smO x.2) (fun x=>.tup [.agg [.own 4 ((Cf x.1 x.2).1.map Aa)],.int .i64 (Cf x.1 x.2).2])
def B1q:Env:=⟨A4 B5,A4 [(45,Ci),(54,Ds),(68,Fh),(77,Gc),(135,H9)],[0,1,2,3,4,5,6,7,9,10,19,29,36,40,51,56]⟩
theorem A9u:B6 B1q (Av Tryz.f99) Tryz.f99.results.toList Cu:=by
 rintro⟨t,o⟩ hs;obtain⟨hs1,hs2⟩:smT t∧smO o:=hs;refine⟨trivial,?_⟩;skip;refine⟨t,rfl,fun _=>hs1,?_⟩;skip;refine⟨o.path,rfl,fun _=>by have:=hs2.1;show o.path.length≤_;omega,?_⟩;skip;refine⟨(t,Bl o.path),rfl,fun _=>hs1,?_⟩;repeat((conv=>whnf);refine⟨(by kernel_rfl:Bu _ _=true),?_⟩)
 (conv=>whnf);refine⟨fun h1=>?_,fun h1=>?_⟩
 ·have h1:(Jq t (Bl o.path)!=0)=true:=h1
  have hr:Cf t o=(t,Jq t (Bl o.path)):=by rw[Cf,if_pos h1]
  rw[show Cu.res (t,o)=.tup [.agg [.own 4 (t.map Aa)],.int .i64 (Jq t (Bl o.path))] by show AV.tup [.agg [.own 4 ((Cf t o).1.map Aa)],.int .i64 (Cf t o).2]=_;rw[hr]];skip;exact⟨trivial,⟨⟨rfl,by simp⟩,trivial⟩,rfl,trivial⟩
 have h1:(Jq t (Bl o.path)!=0)=false:=h1;skip;refine⟨(t,o.path),rfl,fun _=>hs1,?_⟩;skip
 (conv=>whnf);refine⟨fun h2=>?_,fun h2=>?_⟩
 ·have h2:(Aj t o.path).isSome=true:=h2
  have hr:Cf t o=(t,3):=by simp[Cf,h1,h2]
  rw[show Cu.res (t,o)=.tup [.agg [.own 4 (t.map Aa)],.int .i64 3] by show AV.tup [.agg [.own 4 ((Cf t o).1.map Aa)],.int .i64 (Cf t o).2]=_;rw[hr]];skip;exact⟨trivial,⟨⟨rfl,by simp⟩,trivial⟩,rfl,trivial⟩
 have h2:(Aj t o.path).isSome=false:=h2
 (conv=>whnf);refine⟨fun h3=>?_,fun h3=>?_⟩
 ·have h3:(o.kind !=0)=true:=h3
  have h3':(o.kind==0)=false:=by simpa using h3
  (conv=>whnf);refine⟨fun h4=>?_,fun h4=>?_⟩
  ·have h4:(o.data.length:Int)>80:=by simpa using h4
   have hr:Cf t o=(t,9):=by simp[Cf,h1,h2,h3,h4]
   rw[show Cu.res (t,o)=.tup [.agg [.own 4 (t.map Aa)],.int .i64 9] by show AV.tup [.agg [.own 4 ((Cf t o).1.map Aa)],.int .i64 (Cf t o).2]=_;rw[hr]];skip;exact⟨trivial,⟨⟨rfl,by simp⟩,trivial⟩,rfl,trivial⟩
  have h4:¬(o.data.length:Int)>80:=by simpa using h4
  skip
  (conv=>whnf);refine⟨fun h6=>?_,fun h6=>?_⟩
  ·have h6:(o.kind==2)=true:=h6
   skip
   (conv=>whnf);refine⟨fun h5=>?_,fun h5=>?_⟩
   ·have h5:(t.length:Int)=40:=by simpa using h5
    have hr:Cf t o=(t,5):=by simp[Cf,h1,h2,h3,h4,h5]
    rw[show Cu.res (t,o)=.tup [.agg [.own 4 (t.map Aa)],.int .i64 5] by show AV.tup [.agg [.own 4 ((Cf t o).1.map Aa)],.int .i64 (Cf t o).2]=_;rw[hr]];skip;exact⟨trivial,⟨⟨rfl,by simp⟩,trivial⟩,rfl,trivial⟩
   have h5:¬(t.length:Int)=40:=by simpa using h5
   have hr:Cf t o=(Hq t ⟨o.path,3,o.data,o.time⟩,0):=by simp[Cf,h1,h2,h3,h4,h5,S7,h3',h6]
   skip;refine⟨(t,⟨o.path,3,o.data,o.time⟩),by refine B3h ?_;simp[rdI],fun _=>hs1,?_⟩;rw[show Cu.res (t,o)=.tup [.agg [.own 4 ((Hq t ⟨o.path,3,o.data,o.time⟩).map Aa)],.int .i64 0] by show AV.tup [.agg [.own 4 ((Cf t o).1.map Aa)],.int .i64 (Cf t o).2]=_;rw[hr]];skip;exact⟨trivial,⟨⟨rfl,by simp⟩,trivial⟩,rfl,trivial⟩
  have h6:(o.kind==2)=false:=h6;skip
  (conv=>whnf);refine⟨fun h5=>?_,fun h5=>?_⟩
  ·have h5:(t.length:Int)=40:=by simpa using h5
   have hr:Cf t o=(t,5):=by simp[Cf,h1,h2,h3,h4,h5]
   rw[show Cu.res (t,o)=.tup [.agg [.own 4 (t.map Aa)],.int .i64 5] by show AV.tup [.agg [.own 4 ((Cf t o).1.map Aa)],.int .i64 (Cf t o).2]=_;rw[hr]];skip;exact⟨trivial,⟨⟨rfl,by simp⟩,trivial⟩,rfl,trivial⟩
  have h5:¬(t.length:Int)=40:=by simpa using h5
  have hr:Cf t o=(Hq t ⟨o.path,1,o.data,o.time⟩,0):=by simp[Cf,h1,h2,h3,h4,h5,S7,h3',h6]
  skip;refine⟨(t,⟨o.path,1,o.data,o.time⟩),by refine B3h ?_;simp[rdI],fun _=>hs1,?_⟩;rw[show Cu.res (t,o)=.tup [.agg [.own 4 ((Hq t ⟨o.path,1,o.data,o.time⟩).map Aa)],.int .i64 0] by show AV.tup [.agg [.own 4 ((Cf t o).1.map Aa)],.int .i64 (Cf t o).2]=_;rw[hr]];skip;exact⟨trivial,⟨⟨rfl,by simp⟩,trivial⟩,rfl,trivial⟩
 have h3:(o.kind !=0)=false:=h3;have h3':(o.kind==0)=true:=by simpa using h3
 skip
 (conv=>whnf);refine⟨fun h5=>?_,fun h5=>?_⟩
 ·have h5:(t.length:Int)=40:=by simpa using h5
  have hr:Cf t o=(t,5):=by simp[Cf,h1,h2,h3,h5]
  rw[show Cu.res (t,o)=.tup [.agg [.own 4 (t.map Aa)],.int .i64 5] by show AV.tup [.agg [.own 4 ((Cf t o).1.map Aa)],.int .i64 (Cf t o).2]=_;rw[hr]];skip;exact⟨trivial,⟨⟨rfl,by simp⟩,trivial⟩,rfl,trivial⟩
 have h5:¬(t.length:Int)=40:=by simpa using h5
 have hr:Cf t o=(Hq t ⟨o.path,2,[],0⟩,0):=by simp[Cf,h1,h2,h3,h5,S7,h3']
 skip;refine⟨(t,⟨o.path,2,[],0⟩),by refine B3h ?_;simp[rdI],fun _=>hs1,?_⟩;rw[show Cu.res (t,o)=.tup [.agg [.own 4 ((Hq t ⟨o.path,2,[],0⟩).map Aa)],.int .i64 0] by show AV.tup [.agg [.own 4 ((Cf t o).1.map Aa)],.int .i64 (Cf t o).2]=_;rw[hr]];skip;exact⟨trivial,⟨⟨rfl,by simp⟩,trivial⟩,rfl,trivial⟩
theorem A8k:Au Tryz.prog 99 Cu:=Al (Bx _ _) (FOk.cons Fj (FOk.cons J9 (FOk.cons Na (FOk.cons Ol (FOk.cons V9 FOk.nil))))) mixed Tryz.func99 rfl Tryz.call99 (by decide) (by kernel_rfl) A9u (by intro _ (y:(Tr×OpR)) _;exact⟨by simp[Cu,con,A9,A8,AV.noRd,A7,Ab,A5,A6,Aa,Ai],by simp[Cu,con,A9,A8,AV.noRd,A7,Ab,A5,A6,Aa,Ai]⟩) (by intro(y:(Tr×OpR)) _;first|(simp[Cu,con,A9,A8,Ad,AV.free,A2,A3,A1,A6,rdT,Aa,Ai];done)|(obtain⟨_,_⟩:=y;simp[Cu,con,A9,A8,Ad,AV.free,A2,A3,A1,A6,rdT,Aa,Ai];done)|(obtain⟨_,_,_⟩:=y;simp[Cu,con,A9,A8,Ad,AV.free,A2,A3,A1,A6,rdT,Aa,Ai];done))
def Fq:Bd:=con [mS 4,mC] false (Tr×Str) (fun⟨t,p⟩=>[rdT t,.str p]) (fun x=>smT x.1) (fun x=>.own 1 ((K2 x.1 x.2).map A6))
def A12:Env:=⟨A4 B5,A4 [(38,Fc),(45,Ci),(77,Gc),(167,Iq)],[0,1,2,4,5,6,7,8,27,33,44]⟩
theorem A11:B6 A12 (Av Tryz.f137) Tryz.f137.results.toList Fq:=by
 rintro⟨t,p⟩ hs;have hs:smT t:=hs;have hs0:=hs.1;refine⟨trivial,?_⟩;skip;refine⟨(t,p),rfl,fun _=>hs,?_⟩;skip;refine⟨t,rfl,fun _=>hs,?_⟩;repeat((conv=>whnf);refine⟨fun h=>h,?_⟩)
 (conv=>whnf);refine⟨fun h1=>?_,fun h1=>?_⟩
 ·have h1:(Ar t&&N6 t p)=false:=by
   have h1:(!Ar t|| !(Aj t p).isSome||((Aj t p).getD It.none).kind !=2)=true:=h1;unfold N6;revert h1;cases Ar t<;>cases(Aj t p).isSome<;>simp
  skip;exact⟨trivial,P1 (by show _=(K2 t p).map A6;rw[K2,h1];rfl)⟩
 have h1:(Ar t&&N6 t p)=true:=by
  have h1:(!Ar t|| !(Aj t p).isSome||((Aj t p).getD It.none).kind !=2)=false:=h1;unfold N6;revert h1;cases Ar t<;>cases(Aj t p).isSome<;>simp
 skip;refine B2 (fun i:Nat=>⟨[(1,⟨none,.str p⟩),(2,⟨none,.bx 0 0⟩),(5,⟨none,.view 1 [] 0 ((A08 (t.take i) p).map fun y=>My y.path).length⟩),(8,⟨none,.int .i64 i⟩)],[(1,.own 1 (((A08 (t.take i) p).map fun y=>My y.path).map A6)),(0,.own 1 [[.rd 4 (t.map Aa)]])],2⟩)
  (fun i=>i≤t.length) (fun i=>t.length - i) 0 ?_ (by omega) ?_
 ·(refine⟨?_,?_,rfl⟩<;>repeat' (first|exact rfl|exact trivial|refine⟨?_,?_⟩|fail)<;>(conv=>whnf))
  all_goals simp[A08]
 intro i hi;have hi:i≤t.length:=hi;have hlen:((A08 (t.take i) p).map fun y=>My y.path).length≤4194304:=by
  have:=List.length_filter_le (fun y:It=>Bl y.path==p) (t.take i);have h0:=hs.1;rw[List.length_take]at this;rw[List.length_map];show(List.filter _ _).length≤_;omega
 have hnext:∀{y:It},t[i]? =some y→((A08 (t.take (i+1)) p).map fun y=>My y.path)=((A08 (t.take i) p).map fun y=>My y.path)++(A08 [y] p).map fun y=>My y.path:=fun hy=>by
  simp[A08,Bk hy]
 generalize hout:((A08 (t.take i) p).map fun y=>My y.path)=out at hlen hnext⊢
 (conv=>whnf);refine⟨fun h2=>?_,fun h2=>?_⟩
 ·have h2:i<t.length:=by simpa using h2
  obtain⟨y,hy⟩:=B7 h2;have hyl:=(hs.2 y (List.mem_of_getElem? hy)).1;repeat((conv=>whnf);refine⟨Aa y,fun _=>⟨by omega,Ao hy⟩,?_⟩)
  refine⟨y.path,rfl,fun _=>hyl,?_⟩;skip
  (conv=>whnf);refine⟨fun h3=>?_,fun h3=>?_⟩
  ·have h3:(Bl y.path==p)=true:=h3
   repeat((conv=>whnf);refine⟨Aa y,fun _=>⟨by omega,Ao hy⟩,?_⟩)
   refine⟨y.path,rfl,fun _=>hyl,?_⟩;repeat((conv=>whnf);first|refine⟨_,w64 (bb),?_⟩|refine⟨bb,?_⟩|refine⟨fun(r:List AV) hr c hc=>by simp[A6]at hr;(try subst hr);simp at hc;(try subst hc);rfl,?_⟩)
   refine Bt (i+1) ?_ h2 (by first|omega|(simp;done)|(simp;omega));rw[hnext hy]
   (refine⟨?_,?_,rfl⟩<;>repeat' (first|exact rfl|exact trivial|refine⟨?_,?_⟩|fail)<;>(conv=>whnf))
   all_goals (simp only[A08,List.filter_cons,h3];simp[A6])
  ·have h3:(Bl y.path==p)=false:=h3
   repeat((conv=>whnf);refine⟨_,w64 (bb),?_⟩)
   refine Bt (i+1) ?_ h2 (by first|omega|(simp;done)|(simp;omega));rw[hnext hy]
   (refine⟨?_,?_,rfl⟩<;>repeat' (first|exact rfl|exact trivial|refine⟨?_,?_⟩|fail)<;>(conv=>whnf))
   all_goals (simp only[A08,List.filter_cons,h3];simp)
 ·have h2:i=t.length:=by
   have:¬i<t.length:=by simpa using h2
   omega
  subst h2;rw[List.take_length]at hout;skip;exact⟨trivial,P1 (by rw[show K2 t p=out by rw[K2,if_pos h1,hout]];(try simp only[List.drop_zero,List.take_length,Q1])<;>simp)⟩
theorem Zf:Au Tryz.prog 137 Fq:=Al (Bx _ _) (FOk.cons Nt (FOk.cons Fj (FOk.cons Ol (FOk.cons Ub FOk.nil)))) mixed Tryz.func137 rfl Tryz.call137 (by decide) (by kernel_rfl) A11 (by intro _ (y:(Tr×Str)) _;exact⟨by simp[Fq,con,A9,A8,AV.noRd,A7,Ab,A5,A6,Aa,Ai],by simp[Fq,con,A9,A8,AV.noRd,A7,Ab,A5,A6,Aa,Ai]⟩) (by intro(y:(Tr×Str)) _;first|(simp[Fq,con,A9,A8,Ad,AV.free,A2,A3,A1,A6,rdT,Aa,Ai];done)|(obtain⟨_,_⟩:=y;simp[Fq,con,A9,A8,Ad,AV.free,A2,A3,A1,A6,rdT,Aa,Ai];done)|(obtain⟨_,_,_⟩:=y;simp[Fq,con,A9,A8,Ad,AV.free,A2,A3,A1,A6,rdT,Aa,Ai];done))
def D7:Bd:=con [mS 4,.rd [none,none,none,none,none,none]] false (Tr×OpR) (fun⟨t,o⟩=>[rdT t,.agg (Ai o)]) (fun x=>smT x.1∧smO x.2∧El x.2.path=false) (fun x=>.tup [.agg [.own 4 ((D0 x.1 x.2).1.map Aa)],.int .i64 (D0 x.1 x.2).2])
def A1d:Env:=⟨A4 B5,A4 [(45,Ci),(54,Ds),(68,Fh),(136,Hh)],[0,1,2,3,4,5,6,7,8,9,10,21,35,45]⟩
theorem A0r:B6 A1d (Av Tryz.f100) Tryz.f100.results.toList D7:=by
 rintro⟨t,o⟩ hs;obtain⟨hs1,hs2,hs3⟩:smT t∧smO o∧El o.path=false:=hs;refine⟨trivial,?_⟩;skip;refine⟨t,rfl,fun _=>hs1,?_⟩;skip;refine⟨(t,o.path),rfl,fun _=>hs1,?_⟩;skip
 (conv=>whnf);refine⟨fun h1=>?_,fun h1=>?_⟩
 ·have h1:Aj t o.path=none:=by simpa using h1
  have hr:D0 t o=(t,2):=by simp[D0,h1]
  rw[show D7.res (t,o)=.tup [.agg [.own 4 (t.map Aa)],.int .i64 2] by show AV.tup [.agg [.own 4 ((D0 t o).1.map Aa)],.int .i64 (D0 t o).2]=_;rw[hr]];skip;exact⟨trivial,⟨⟨rfl,by simp⟩,trivial⟩,rfl,trivial⟩
 obtain⟨x,hx⟩:∃x,Aj t o.path=some x:=by
  cases h:Aj t o.path with
  |none=>simp[h]at h1
  |some x=>exact⟨x,rfl⟩
 have hxd:x.data.length≤4194304:=by
  have:=B6q hs3 hx;exact(hs1.2 x (List.mem_of_getElem? this.1)).2
 repeat((conv=>whnf);refine⟨fun h=>h,?_⟩)
 (conv=>whnf);refine⟨fun h2=>?_,fun h2=>?_⟩
 ·have h2:(x.kind==2||(x.kind==3&&o.kind !=5))=true:=by
   have h2:(((Aj t o.path).getD It.none).kind==2||(((Aj t o.path).getD It.none).kind==3&&o.kind !=5))=true:=h2;rw[hx]at h2;exact h2
  have hr:D0 t o=(t,4):=by simp only[D0,hx];rw[if_pos h2]
  rw[show D7.res (t,o)=.tup [.agg [.own 4 (t.map Aa)],.int .i64 4] by show AV.tup [.agg [.own 4 ((D0 t o).1.map Aa)],.int .i64 (D0 t o).2]=_;rw[hr]];skip;exact⟨trivial,⟨⟨rfl,by simp⟩,trivial⟩,rfl,trivial⟩
 have h2:(x.kind==2||(x.kind==3&&o.kind !=5))=false:=by
  have h2:(((Aj t o.path).getD It.none).kind==2||(((Aj t o.path).getD It.none).kind==3&&o.kind !=5))=false:=h2;rw[hx]at h2;exact h2
 skip;refine⟨(((Aj t o.path).getD It.none).data,o),rfl,fun _=>⟨by rw[hx];exact hxd,hs2.2.2⟩,?_⟩;skip
 (conv=>whnf);refine⟨fun h3=>?_,fun h3=>?_⟩
 ·have h3:(!(Eo x.data o).2)=true:=by
   have h3:(!(Eo ((Aj t o.path).getD It.none).data o).2)=true:=h3;rw[hx]at h3;exact h3
  have hr:D0 t o=(t,9):=by simp only[D0,hx];rw[if_neg (by rw[h2];decide),if_pos h3]
  rw[show D7.res (t,o)=.tup [.agg [.own 4 (t.map Aa)],.int .i64 9] by show AV.tup [.agg [.own 4 ((D0 t o).1.map Aa)],.int .i64 (D0 t o).2]=_;rw[hr]];skip;exact⟨trivial,⟨⟨rfl,by simp⟩,trivial⟩,rfl,trivial⟩
 have h3:(!(Eo x.data o).2)=false:=by
  have h3:(!(Eo ((Aj t o.path).getD It.none).data o).2)=false:=h3;rw[hx]at h3;exact h3
 have hr:D0 t o=(Hq t ⟨((Aj t o.path).getD It.none).path,((Aj t o.path).getD It.none).kind,(Eo ((Aj t o.path).getD It.none).data o).1,o.time⟩,0):=by simp only[D0,hx];rw[if_neg (by rw[h2];decide),if_neg (by rw[h3];decide)];rfl
 skip;refine⟨(t,⟨((Aj t o.path).getD It.none).path,((Aj t o.path).getD It.none).kind,(Eo ((Aj t o.path).getD It.none).data o).1,o.time⟩),by refine B3h ?_;simp[rdI],fun _=>hs1,?_⟩;rw[show D7.res (t,o)=.tup [.agg [.own 4 ((Hq t ⟨((Aj t o.path).getD It.none).path,((Aj t o.path).getD It.none).kind,(Eo ((Aj t o.path).getD It.none).data o).1,o.time⟩).map Aa)],.int .i64 0] by show AV.tup [.agg [.own 4 ((D0 t o).1.map Aa)],.int .i64 (D0 t o).2]=_;rw[hr]];skip;exact⟨trivial,⟨⟨rfl,by simp⟩,trivial⟩,rfl,trivial⟩
theorem Yo:Au Tryz.prog 100 D7:=Al (Bx _ _) (FOk.cons Fj (FOk.cons J9 (FOk.cons Na (FOk.cons A3p FOk.nil)))) mixed Tryz.func100 rfl Tryz.call100 (by decide) (by kernel_rfl) A0r (by intro _ (y:(Tr×OpR)) _;exact⟨by simp[D7,con,A9,A8,AV.noRd,A7,Ab,A5,A6,Aa,Ai],by simp[D7,con,A9,A8,AV.noRd,A7,Ab,A5,A6,Aa,Ai]⟩) (by intro(y:(Tr×OpR)) _;first|(simp[D7,con,A9,A8,Ad,AV.free,A2,A3,A1,A6,rdT,Aa,Ai];done)|(obtain⟨_,_⟩:=y;simp[D7,con,A9,A8,Ad,AV.free,A2,A3,A1,A6,rdT,Aa,Ai];done)|(obtain⟨_,_,_⟩:=y;simp[D7,con,A9,A8,Ad,AV.free,A2,A3,A1,A6,rdT,Aa,Ai];done))
def D8:Bd:=con [mS 4,.rd [none,none,none,none,none,none]] false (Tr×OpR) (fun⟨t,o⟩=>[rdT t,.agg (Ai o)]) (fun x=>smT x.1∧smO x.2) (fun x=>.tup [.agg [.own 4 ((Cp x.1 x.2).1.map Aa)],.int .i64 (Cp x.1 x.2).2])
def A0s:Env:=⟨A4 B5,A4 [(45,Ci),(54,Ds),(137,Fq),(138,Eh)],[0,1,2,3,4,5,6,7,16,25,33]⟩
theorem A1s:B6 A0s (Av Tryz.f101) Tryz.f101.results.toList D8:=by
 rintro⟨t,o⟩ hs;obtain⟨hs1,hs2⟩:smT t∧smO o:=hs;refine⟨trivial,?_⟩;skip;refine⟨(t,o.path),rfl,fun _=>hs1,?_⟩;skip
 (conv=>whnf);refine⟨fun h1=>?_,fun h1=>?_⟩
 ·have h1:Aj t o.path=none:=by simpa using h1
  have hr:Cp t o=(t,2):=by simp[Cp,h1]
  skip;refine⟨t,rfl,fun _=>hs1,?_⟩;rw[show D8.res (t,o)=.tup [.agg [.own 4 (t.map Aa)],.int .i64 2] by show AV.tup [.agg [.own 4 ((Cp t o).1.map Aa)],.int .i64 (Cp t o).2]=_;rw[hr]];skip;exact⟨trivial,⟨⟨rfl,by simp⟩,trivial⟩,rfl,trivial⟩
 obtain⟨x,hx⟩:∃x,Aj t o.path=some x:=by
  cases h:Aj t o.path with
  |none=>simp[h]at h1
  |some x=>exact⟨x,rfl⟩
 skip
 (conv=>whnf);refine⟨fun h2=>?_,fun h2=>?_⟩
 ·have h2:((x.kind==2)!=(o.kind==7))=true:=by
   have h2:(!((((Aj t o.path).getD It.none).kind==2)==(o.kind==7)))=true:=h2;rw[hx]at h2;exact h2
  have hr:Cp t o=(t,4):=by simp only[Cp,hx];rw[if_pos h2]
  skip;refine⟨t,rfl,fun _=>hs1,?_⟩;rw[show D8.res (t,o)=.tup [.agg [.own 4 (t.map Aa)],.int .i64 4] by show AV.tup [.agg [.own 4 ((Cp t o).1.map Aa)],.int .i64 (Cp t o).2]=_;rw[hr]];skip;exact⟨trivial,⟨⟨rfl,by simp⟩,trivial⟩,rfl,trivial⟩
 have h2:((x.kind==2)!=(o.kind==7))=false:=by
  have h2:(!((((Aj t o.path).getD It.none).kind==2)==(o.kind==7)))=false:=h2;rw[hx]at h2;exact h2
 skip;refine⟨(t,o.path),rfl,fun _=>hs1,?_⟩;skip
 (conv=>whnf);refine⟨fun h3=>?_,fun h3=>?_⟩
 ·have h3:decide (((K2 t o.path).length:Int)>0)=true:=by simpa using h3
  have hr:Cp t o=(t,8):=by simp only[Cp,hx];rw[if_neg (by rw[h2];decide),if_pos h3]
  skip;refine⟨t,rfl,fun _=>hs1,?_⟩;rw[show D8.res (t,o)=.tup [.agg [.own 4 (t.map Aa)],.int .i64 8] by show AV.tup [.agg [.own 4 ((Cp t o).1.map Aa)],.int .i64 (Cp t o).2]=_;rw[hr]];skip;exact⟨trivial,⟨⟨rfl,by simp⟩,trivial⟩,rfl,trivial⟩
 have h3:decide (((K2 t o.path).length:Int)>0)=false:=by simpa using h3
 have hr:Cp t o=(J5 t o.path,0):=by simp only[Cp,hx];rw[if_neg (by rw[h2];decide),if_neg (by rw[h3];decide)]
 skip;refine⟨(t,o.path),rfl,fun _=>hs1,?_⟩;rw[show D8.res (t,o)=.tup [.agg [.own 4 ((J5 t o.path).map Aa)],.int .i64 0] by show AV.tup [.agg [.own 4 ((Cp t o).1.map Aa)],.int .i64 (Cp t o).2]=_;rw[hr]];skip;exact⟨trivial,⟨⟨rfl,by simp⟩,trivial⟩,rfl,trivial⟩
theorem A0j:Au Tryz.prog 101 D8:=Al (Bx _ _) (FOk.cons Fj (FOk.cons J9 (FOk.cons Zf (FOk.cons Yf FOk.nil)))) mixed Tryz.func101 rfl Tryz.call101 (by decide) (by kernel_rfl) A1s (by intro _ (y:(Tr×OpR)) _;exact⟨by simp[D8,con,A9,A8,AV.noRd,A7,Ab,A5,A6,Aa,Ai],by simp[D8,con,A9,A8,AV.noRd,A7,Ab,A5,A6,Aa,Ai]⟩) (by intro(y:(Tr×OpR)) _;first|(simp[D8,con,A9,A8,Ad,AV.free,A2,A3,A1,A6,rdT,Aa,Ai];done)|(obtain⟨_,_⟩:=y;simp[D8,con,A9,A8,Ad,AV.free,A2,A3,A1,A6,rdT,Aa,Ai];done)|(obtain⟨_,_,_⟩:=y;simp[D8,con,A9,A8,Ad,AV.free,A2,A3,A1,A6,rdT,Aa,Ai];done))
def Cv:Bd:=con [mS 4,.rd [none,none,none,none,none,none]] false (Tr×OpR) (fun⟨t,o⟩=>[rdT t,.agg (Ai o)]) (fun x=>smT x.1∧smO x.2∧El x.2.path=false) (fun x=>.tup [.agg [.own 4 ((Kk x.1 x.2).1.map Aa)],.int .i64 (Kk x.1 x.2).2])
def A23:Env:=⟨A4 B5,A4 [(45,Ci),(46,Ha),(54,Ds),(68,Fh),(77,Gc),(85,Ek),(119,Fy),(135,H9)],[0,1,2,3,4,5,7,8,10,11,12,13,22,31,42,50,62,79]⟩
theorem A2b:B6 A23 (Av Tryz.f102) Tryz.f102.results.toList Cv:=by
 rintro⟨t,o⟩ hs;obtain⟨hs1,hs2,hs3⟩:smT t∧smO o∧El o.path=false:=hs;have hs0:=hs1.1;have ho1:=hs2.1;have ho2:=hs2.2.1;refine⟨trivial,?_⟩;skip;refine⟨(t,o.path),rfl,fun _=>hs1,?_⟩;skip
 (conv=>whnf);refine⟨fun h1=>?_,fun h1=>?_⟩
 ·have h1:(!(Aj t o.path).isSome)=true:=h1
  have hr:Kk t o=(t,2):=by rw[Kk,if_pos h1]
  skip;refine⟨t,rfl,fun _=>hs1,?_⟩;rw[show Cv.res (t,o)=.tup [.agg [.own 4 (t.map Aa)],.int .i64 2] by show AV.tup [.agg [.own 4 ((Kk t o).1.map Aa)],.int .i64 (Kk t o).2]=_;rw[hr]];skip;exact⟨trivial,⟨⟨rfl,by simp⟩,trivial⟩,rfl,trivial⟩
 have h1:(!(Aj t o.path).isSome)=false:=h1;skip;refine⟨o.to,rfl,fun _=>by show o.to.length≤_;omega,?_⟩;skip;refine⟨(t,Bl o.to),rfl,fun _=>hs1,?_⟩;repeat((conv=>whnf);refine⟨(by kernel_rfl:Bu _ _=true),?_⟩)
 (conv=>whnf);refine⟨fun h2=>?_,fun h2=>?_⟩
 ·have h2:(Jq t (Bl o.to)!=0)=true:=h2
  have hr:Kk t o=(t,Jq t (Bl o.to)):=by rw[Kk,if_neg (by rw[h1];decide),if_pos h2]
  skip;refine⟨t,rfl,fun _=>hs1,?_⟩;rw[show Cv.res (t,o)=.tup [.agg [.own 4 (t.map Aa)],.int .i64 (Jq t (Bl o.to))] by show AV.tup [.agg [.own 4 ((Kk t o).1.map Aa)],.int .i64 (Kk t o).2]=_;rw[hr]];skip;exact⟨trivial,⟨⟨rfl,by simp⟩,trivial⟩,rfl,trivial⟩
 have h2:(Jq t (Bl o.to)!=0)=false:=h2;skip;refine⟨(t,o.to),rfl,fun _=>hs1,?_⟩;skip
 (conv=>whnf);refine⟨fun h3=>?_,fun h3=>?_⟩
 ·have h3:(Aj t o.to).isSome=true:=h3
  have hr:Kk t o=(t,3):=by rw[Kk,if_neg (by rw[h1];decide),if_neg (by rw[h2];decide),if_pos h3]
  skip;refine⟨t,rfl,fun _=>hs1,?_⟩;rw[show Cv.res (t,o)=.tup [.agg [.own 4 (t.map Aa)],.int .i64 3] by show AV.tup [.agg [.own 4 ((Kk t o).1.map Aa)],.int .i64 (Kk t o).2]=_;rw[hr]];skip;exact⟨trivial,⟨⟨rfl,by simp⟩,trivial⟩,rfl,trivial⟩
 have h3:(Aj t o.to).isSome=false:=h3;have hren:Kk t o=if t.any (stuck o)then(t,1)else((t.map (Gh o)).foldl Hq [],0):=by rw[Kk,if_neg (by rw[h1];decide),if_neg (by rw[h2];decide),if_neg (by rw[h3];decide)]
 skip;refine B2 (fun i:Nat=>⟨[(2,⟨none,.bx 0 0⟩),(3,⟨none,.bx 1 0⟩),(4,⟨none,.bx 2 0⟩),(5,⟨none,.int .i64 0⟩),(11,⟨none,.bx 3 0⟩),(12,⟨none,.int .i64 i⟩)],[(3,.own 1 [[.own 4 ((((t.take i).map (Gh o)).foldl Hq []).map Aa)]]),(2,.own 1 [[.own 4 []]]),(1,.own 6 [Ai o]),(0,.own 1 [[.rd 4 (t.map Aa)]])],4⟩)
  (fun i=>i≤t.length∧(t.take i).any (stuck o)=false) (fun i=>t.length - i) 0 ?_ ⟨by omega,rfl⟩ ?_
 ·(refine⟨?_,?_,rfl⟩<;>repeat' (first|exact rfl|exact trivial|refine⟨?_,?_⟩|fail)<;>(conv=>whnf))
  all_goals simp[setCells]
 rintro i ⟨hi,hI⟩;have hsm:=C5w (o:=o) hs1 i;have hnext:∀{y:It},t[i]? =some y→((t.take (i+1)).map (Gh o)).foldl Hq []=Hq (((t.take i).map (Gh o)).foldl Hq []) (Gh o y):=fun hy=>by
  rw[Bk hy,List.map_append,List.foldl_append];rfl
 have hany:∀{y:It},t[i]? =some y→stuck o y=false→(t.take (i+1)).any (stuck o)=false:=fun hy h=>by
  rw[Bk hy,List.any_append,hI];simp[h]
 generalize hout:((t.take i).map (Gh o)).foldl Hq []=out at hsm hnext⊢
 (conv=>whnf);refine⟨fun h4=>?_,fun h4=>?_⟩
 ·have h4:i<t.length:=by simpa using h4
  obtain⟨y,hy⟩:=B7 h4;have hym:=List.mem_of_getElem? hy;have hyl:=(hs1.2 y hym).1;repeat((conv=>whnf);refine⟨Aa y,fun _=>⟨by omega,Ao hy⟩,?_⟩)
  refine⟨(y.path,o.path),rfl,fun _=>⟨hyl,by show o.path.length≤_;omega⟩,?_⟩;skip
  (conv=>whnf);refine⟨fun h5=>?_,fun h5=>?_⟩
  ·have h5:Cw y.path o.path=true:=h5
   skip;refine⟨o.to,rfl,fun _=>by show o.to.length≤_;omega,?_⟩;skip;refine⟨y.path,rfl,fun _=>hyl,?_⟩;skip;refine⟨o.path,rfl,fun _=>by show o.path.length≤_;omega,?_⟩;skip;have hnl:=Gv (p:=y.path);have hn2:=Gv (p:=o.to);have hle:(names o.path).length≤(names y.path).length:=by
    have hb:(o.path==sl)=false:=by revert hs3;simp[El]
    obtain⟨r,hr,_⟩:=X7 hb h5;rw[hr];simp
   have hal:=C1x (a:=o.to) (b:=y.path) (k:=(names o.path).length);refine⟨fun _=>⟨by simp,by simp;omega⟩,?_⟩;skip;refine⟨fun(r:List AV) hr (c:AV) hc=>by
    obtain⟨s,_,rfl⟩:=List.mem_map.1 (List.mem_of_mem_drop (List.mem_of_mem_take hr));simp[A6]at hc;subst hc;rfl,?_⟩
   repeat((conv=>whnf);refine⟨bb,?_⟩)
   refine⟨names o.to++(names y.path).drop (names o.path).length,by
    refine C94 ?_;exact C75 _ _ _ hle,fun _=>by show _<_;omega,?_⟩
   repeat((conv=>whnf);refine⟨(by kernel_rfl:Bu _ _=true),?_⟩)
   have hmp:Gh o y=⟨E3 (names o.to++(names y.path).drop (names o.path).length),y.kind,y.data,y.time⟩:=by rw[Gh,if_pos h5]
   (conv=>whnf);refine⟨fun h6=>?_,fun h6=>?_⟩
   ·have h6:(E3 (names o.to++(names y.path).drop (names o.path).length)==[])=true:=h6
    have hr:Kk t o=(t,1):=by
     rw[hren,if_pos];exact List.any_eq_true.2 ⟨y,hym,by rw[stuck,h5,hmp];exact h6⟩
    skip;refine⟨t,rfl,fun _=>hs1,?_⟩;rw[show Cv.res (t,o)=.tup [.agg [.own 4 (t.map Aa)],.int .i64 1] by show AV.tup [.agg [.own 4 ((Kk t o).1.map Aa)],.int .i64 (Kk t o).2]=_;rw[hr]];skip;exact⟨trivial,⟨⟨rfl,by simp⟩,trivial⟩,rfl,trivial⟩
   have h6:(E3 (names o.to++(names y.path).drop (names o.path).length)==[])=false:=h6;have hst:stuck o y=false:=by rw[stuck,h5,hmp];exact h6
   skip;refine⟨(out,⟨E3 (names o.to++(names y.path).drop (names o.path).length),y.kind,y.data,y.time⟩),by refine B3h ?_;simp[rdI],fun _=>hsm,?_⟩;repeat((conv=>whnf);refine⟨_,w64 (bb),?_⟩)
   refine Bt (i+1) ?_ ⟨h4,hany hy hst⟩ (by first|omega|(simp;done)|(simp;omega));rw[hnext hy,hmp]
   (refine⟨?_,?_,rfl⟩<;>repeat' (first|exact rfl|exact trivial|refine⟨?_,?_⟩|fail)<;>(conv=>whnf))
   all_goals simp[setCells]
  have h5:Cw y.path o.path=false:=h5;have hmv:=T1 (o:=o) h5;skip;refine⟨(out,y),by refine B3h ?_;simp[rdI],fun _=>hsm,?_⟩;repeat((conv=>whnf);refine⟨_,w64 (bb),?_⟩)
  refine Bt (i+1) ?_ ⟨h4,hany hy hmv.2⟩ (by first|omega|(simp;done)|(simp;omega));rw[hnext hy,hmv.1]
  (refine⟨?_,?_,rfl⟩<;>repeat' (first|exact rfl|exact trivial|refine⟨?_,?_⟩|fail)<;>(conv=>whnf))
  all_goals simp[setCells]
 ·have h4:i=t.length:=by
   have:¬i<t.length:=by simpa using h4
   omega
  subst h4;rw[List.take_length]at hout hI;have hr:Kk t o=(out,0):=by rw[hren,hI,hout];rfl
  rw[show Cv.res (t,o)=.tup [.agg [.own 4 (out.map Aa)],.int .i64 0] by show AV.tup [.agg [.own 4 ((Kk t o).1.map Aa)],.int .i64 (Kk t o).2]=_;rw[hr]];skip;exact⟨trivial,⟨⟨rfl,by simp⟩,trivial⟩,rfl,trivial⟩
theorem Zk:Au Tryz.prog 102 Cv:=Al (Bx _ _) (FOk.cons Fj (FOk.cons W0 (FOk.cons J9 (FOk.cons Na (FOk.cons Ol (FOk.cons Kv (FOk.cons Pz (FOk.cons V9 FOk.nil)))))))) mixed Tryz.func102 rfl Tryz.call102 (by decide) (by kernel_rfl) A2b (by intro _ (y:(Tr×OpR)) _;exact⟨by simp[Cv,con,A9,A8,AV.noRd,A7,Ab,A5,A6,Aa,Ai],by simp[Cv,con,A9,A8,AV.noRd,A7,Ab,A5,A6,Aa,Ai]⟩) (by intro(y:(Tr×OpR)) _;first|(simp[Cv,con,A9,A8,Ad,AV.free,A2,A3,A1,A6,rdT,Aa,Ai];done)|(obtain⟨_,_⟩:=y;simp[Cv,con,A9,A8,Ad,AV.free,A2,A3,A1,A6,rdT,Aa,Ai];done)|(obtain⟨_,_,_⟩:=y;simp[Cv,con,A9,A8,Ad,AV.free,A2,A3,A1,A6,rdT,Aa,Ai];done))
def C5:Bd:=con [mS 4,.rd [none,none,none,none,none,none]] false (Tr×OpR) (fun⟨t,o⟩=>[rdT t,.agg (Ai o)]) (fun x=>smT x.1∧smO x.2) (fun x=>.tup [.agg [.own 4 ((Ap x.1 x.2).1.map Aa)],.int .i64 (Ap x.1 x.2).2])
def B1x:Env:=⟨A4 B5,A4 [(38,Fc),(46,Ha),(54,Ds),(75,D3),(98,Kb),(99,Cu),(100,D7),(101,D8),(102,Cv)],[0,1,2,3,4,5,13,24,28,29,38,47,70]⟩
theorem B1f:B6 B1x (Av Tryz.f55) Tryz.f55.results.toList C5:=by
 rintro⟨t,o⟩ hs;obtain⟨hs1,hs2⟩:smT t∧smO o:=hs;have ho1:=hs2.1;have ho2:=hs2.2.1;refine⟨trivial,?_⟩;skip;refine⟨t,rfl,fun _=>hs1,?_⟩;repeat((conv=>whnf);refine⟨fun h=>h,?_⟩)
 refine⟨o,rfl,fun _=>trivial,?_⟩;repeat((conv=>whnf);refine⟨fun h=>h,?_⟩)
 (conv=>whnf);refine⟨fun h1=>?_,fun h1=>?_⟩
 ·have h1:(!Ar t|| !Hz o)=true:=h1
  have hr:Ap t o=(t,10):=by rw[Ap,if_pos h1]
  skip;refine⟨t,rfl,fun _=>hs1,?_⟩;rw[show C5.res (t,o)=.tup [.agg [.own 4 (t.map Aa)],.int .i64 10] by show AV.tup [.agg [.own 4 ((Ap t o).1.map Aa)],.int .i64 (Ap t o).2]=_;rw[hr]];skip;exact⟨trivial,⟨⟨rfl,by simp⟩,trivial⟩,rfl,trivial⟩
 have h1:(!Ar t|| !Hz o)=false:=h1;skip;refine⟨o.path,rfl,fun _=>by show o.path.length≤_;omega,?_⟩;repeat((conv=>whnf);refine⟨fun h=>h,?_⟩)
 (conv=>whnf);refine⟨fun h2=>?_,fun h2=>?_⟩
 ·have h2:El o.path=true:=h2
  have hr:Ap t o=(t,1):=by rw[Ap,if_neg (by rw[h1];decide),if_pos h2]
  skip;refine⟨t,rfl,fun _=>hs1,?_⟩;rw[show C5.res (t,o)=.tup [.agg [.own 4 (t.map Aa)],.int .i64 1] by show AV.tup [.agg [.own 4 ((Ap t o).1.map Aa)],.int .i64 (Ap t o).2]=_;rw[hr]];skip;exact⟨trivial,⟨⟨rfl,by simp⟩,trivial⟩,rfl,trivial⟩
 have h2:El o.path=false:=h2;have hd:Ap t o=if o.kind==0||o.kind==1||o.kind==2 then Cf t o
  else if o.kind==3||o.kind==4||o.kind==5 then D0 t o
  else if o.kind==6||o.kind==7 then Cp t o
  else if El o.to||Cw o.to o.path then(t,1)
  else Kk t o:=by rw[Ap,if_neg (by rw[h1];decide),if_neg (by rw[h2];decide)]
 conv=>whnf
 (conv=>whnf);refine⟨fun k0=>?_,fun k0=>?_⟩
 ·have k0:(o.kind==0)=true:=k0
  have hr:Ap t o=Cf t o:=by rw[hd,k0];rfl
  (conv=>whnf);refine⟨fun _=>?_,fun h=>Bool.noConfusion (Eq.trans (Eq.symm k0) h)⟩
  skip;refine⟨(t,o),rfl,fun _=>⟨hs1,hs2⟩,?_⟩;rw[show C5.res (t,o)=.tup [.agg [.own 4 ((Cf t o).1.map Aa)],.int .i64 (Cf t o).2] by show AV.tup [.agg [.own 4 ((Ap t o).1.map Aa)],.int .i64 (Ap t o).2]=_;rw[hr]];skip;exact⟨trivial,⟨⟨rfl,by simp⟩,trivial⟩,rfl,trivial⟩
 have k0:(o.kind==0)=false:=k0;conv=>whnf
 (conv=>whnf);refine⟨fun k1=>?_,fun k1=>?_⟩
 ·have k1:(o.kind==1)=true:=k1
  have hr:Ap t o=Cf t o:=by rw[hd,k1,k0];rfl
  (conv=>whnf);refine⟨fun _=>?_,fun h=>Bool.noConfusion (Eq.trans (Eq.symm k1) h)⟩
  skip;refine⟨(t,o),rfl,fun _=>⟨hs1,hs2⟩,?_⟩;rw[show C5.res (t,o)=.tup [.agg [.own 4 ((Cf t o).1.map Aa)],.int .i64 (Cf t o).2] by show AV.tup [.agg [.own 4 ((Ap t o).1.map Aa)],.int .i64 (Ap t o).2]=_;rw[hr]];skip;exact⟨trivial,⟨⟨rfl,by simp⟩,trivial⟩,rfl,trivial⟩
 have k1:(o.kind==1)=false:=k1;conv=>whnf
 (conv=>whnf);refine⟨fun k2=>?_,fun k2=>?_⟩
 ·have k2:(o.kind==2)=true:=k2
  have hr:Ap t o=Cf t o:=by rw[hd,k2,k1,k0];rfl
  skip;refine⟨(t,o),rfl,fun _=>⟨hs1,hs2⟩,?_⟩;rw[show C5.res (t,o)=.tup [.agg [.own 4 ((Cf t o).1.map Aa)],.int .i64 (Cf t o).2] by show AV.tup [.agg [.own 4 ((Ap t o).1.map Aa)],.int .i64 (Ap t o).2]=_;rw[hr]];skip;exact⟨trivial,⟨⟨rfl,by simp⟩,trivial⟩,rfl,trivial⟩
 have k2:(o.kind==2)=false:=k2;have hd2:=hd;rw[k0,k1,k2]at hd2;conv=>whnf
 (conv=>whnf);refine⟨fun k3=>?_,fun k3=>?_⟩
 ·have k3:(o.kind==3)=true:=k3
  have hr:Ap t o=D0 t o:=by rw[hd2,k3];rfl
  (conv=>whnf);refine⟨fun _=>?_,fun h=>Bool.noConfusion (Eq.trans (Eq.symm k3) h)⟩
  skip;refine⟨(t,o),rfl,fun _=>⟨hs1,hs2,h2⟩,?_⟩;rw[show C5.res (t,o)=.tup [.agg [.own 4 ((D0 t o).1.map Aa)],.int .i64 (D0 t o).2] by show AV.tup [.agg [.own 4 ((Ap t o).1.map Aa)],.int .i64 (Ap t o).2]=_;rw[hr]];skip;exact⟨trivial,⟨⟨rfl,by simp⟩,trivial⟩,rfl,trivial⟩
 have k3:(o.kind==3)=false:=k3;conv=>whnf
 (conv=>whnf);refine⟨fun k4=>?_,fun k4=>?_⟩
 ·have k4:(o.kind==4)=true:=k4
  have hr:Ap t o=D0 t o:=by rw[hd2,k4,k3];rfl
  (conv=>whnf);refine⟨fun _=>?_,fun h=>Bool.noConfusion (Eq.trans (Eq.symm k4) h)⟩
  skip;refine⟨(t,o),rfl,fun _=>⟨hs1,hs2,h2⟩,?_⟩;rw[show C5.res (t,o)=.tup [.agg [.own 4 ((D0 t o).1.map Aa)],.int .i64 (D0 t o).2] by show AV.tup [.agg [.own 4 ((Ap t o).1.map Aa)],.int .i64 (Ap t o).2]=_;rw[hr]];skip;exact⟨trivial,⟨⟨rfl,by simp⟩,trivial⟩,rfl,trivial⟩
 have k4:(o.kind==4)=false:=k4;conv=>whnf
 (conv=>whnf);refine⟨fun k5=>?_,fun k5=>?_⟩
 ·have k5:(o.kind==5)=true:=k5
  have hr:Ap t o=D0 t o:=by rw[hd2,k5,k4,k3];rfl
  skip;refine⟨(t,o),rfl,fun _=>⟨hs1,hs2,h2⟩,?_⟩;rw[show C5.res (t,o)=.tup [.agg [.own 4 ((D0 t o).1.map Aa)],.int .i64 (D0 t o).2] by show AV.tup [.agg [.own 4 ((Ap t o).1.map Aa)],.int .i64 (Ap t o).2]=_;rw[hr]];skip;exact⟨trivial,⟨⟨rfl,by simp⟩,trivial⟩,rfl,trivial⟩
 have k5:(o.kind==5)=false:=k5;rw[k3,k4,k5]at hd2;conv=>whnf
 (conv=>whnf);refine⟨fun k6=>?_,fun k6=>?_⟩
 ·have k6:(o.kind==6)=true:=k6
  have hr:Ap t o=Cp t o:=by rw[hd2,k6];rfl
  (conv=>whnf);refine⟨fun _=>?_,fun h=>Bool.noConfusion (Eq.trans (Eq.symm k6) h)⟩
  skip;refine⟨(t,o),rfl,fun _=>⟨hs1,hs2⟩,?_⟩;rw[show C5.res (t,o)=.tup [.agg [.own 4 ((Cp t o).1.map Aa)],.int .i64 (Cp t o).2] by show AV.tup [.agg [.own 4 ((Ap t o).1.map Aa)],.int .i64 (Ap t o).2]=_;rw[hr]];skip;exact⟨trivial,⟨⟨rfl,by simp⟩,trivial⟩,rfl,trivial⟩
 have k6:(o.kind==6)=false:=k6;conv=>whnf
 (conv=>whnf);refine⟨fun k7=>?_,fun k7=>?_⟩
 ·have k7:(o.kind==7)=true:=k7
  have hr:Ap t o=Cp t o:=by rw[hd2,k7,k6];rfl
  skip;refine⟨(t,o),rfl,fun _=>⟨hs1,hs2⟩,?_⟩;rw[show C5.res (t,o)=.tup [.agg [.own 4 ((Cp t o).1.map Aa)],.int .i64 (Cp t o).2] by show AV.tup [.agg [.own 4 ((Ap t o).1.map Aa)],.int .i64 (Ap t o).2]=_;rw[hr]];skip;exact⟨trivial,⟨⟨rfl,by simp⟩,trivial⟩,rfl,trivial⟩
 have k7:(o.kind==7)=false:=k7;rw[k6,k7]at hd2;have hd2:Ap t o=if El o.to||Cw o.to o.path then(t,1)else Kk t o:=hd2
 skip;refine⟨o.to,rfl,fun _=>by show o.to.length≤_;omega,?_⟩;repeat((conv=>whnf);refine⟨fun h=>h,?_⟩)
 refine⟨(o.to,o.path),rfl,fun _=>⟨by show o.to.length≤_;omega,by show o.path.length≤_;omega⟩,?_⟩;repeat((conv=>whnf);refine⟨fun h=>h,?_⟩)
 (conv=>whnf);refine⟨fun h3=>?_,fun h3=>?_⟩
 ·have h3:(El o.to||Cw o.to o.path)=true:=h3
  have hr:Ap t o=(t,1):=by rw[hd2,if_pos h3]
  skip;refine⟨t,rfl,fun _=>hs1,?_⟩;rw[show C5.res (t,o)=.tup [.agg [.own 4 (t.map Aa)],.int .i64 1] by show AV.tup [.agg [.own 4 ((Ap t o).1.map Aa)],.int .i64 (Ap t o).2]=_;rw[hr]];skip;exact⟨trivial,⟨⟨rfl,by simp⟩,trivial⟩,rfl,trivial⟩
 have h3:(El o.to||Cw o.to o.path)=false:=h3;have hr:Ap t o=Kk t o:=by rw[hd2,if_neg (by rw[h3];decide)]
 skip;refine⟨(t,o),rfl,fun _=>⟨hs1,hs2,h2⟩,?_⟩;rw[show C5.res (t,o)=.tup [.agg [.own 4 ((Kk t o).1.map Aa)],.int .i64 (Kk t o).2] by show AV.tup [.agg [.own 4 ((Ap t o).1.map Aa)],.int .i64 (Ap t o).2]=_;rw[hr]];skip;exact⟨trivial,⟨⟨rfl,by simp⟩,trivial⟩,rfl,trivial⟩
theorem A55:Au Tryz.prog 55 C5:=Al (Bx _ _) (FOk.cons Nt (FOk.cons W0 (FOk.cons J9 (FOk.cons Gb (FOk.cons B4m (FOk.cons A8k (FOk.cons Yo (FOk.cons A0j (FOk.cons Zk FOk.nil))))))))) mixed Tryz.func55 rfl Tryz.call55 (by decide) (by kernel_rfl) B1f (by intro _ (y:(Tr×OpR)) _;exact⟨by simp[C5,con,A9,A8,AV.noRd,A7,Ab,A5,A6,Aa,Ai],by simp[C5,con,A9,A8,AV.noRd,A7,Ab,A5,A6,Aa,Ai]⟩) (by intro(y:(Tr×OpR)) _;first|(simp[C5,con,A9,A8,Ad,AV.free,A2,A3,A1,A6,rdT,Aa,Ai];done)|(obtain⟨_,_⟩:=y;simp[C5,con,A9,A8,Ad,AV.free,A2,A3,A1,A6,rdT,Aa,Ai];done)|(obtain⟨_,_,_⟩:=y;simp[C5,con,A9,A8,Ad,AV.free,A2,A3,A1,A6,rdT,Aa,Ai];done))
def E5:Bd:=con [mS 4,mS 6] false (Tr×List OpR) (fun⟨t,l⟩=>[rdT t,.rd 6 (l.map Ai)]) (fun x=>smT x.1∧B7p x.2) (fun x=>.tup [.agg [.own 4 ((Gk x.1 x.2).1.map Aa)],.own 1 ((Gk x.1 x.2).2.map Ae)])
def A1n:Env:=⟨A4 B5,A4 [(54,Ds),(55,C5)],[0,1,2,4,5,6,7,8,9,10,17]⟩
theorem A2a:B6 A1n (Av Tryz.f17) Tryz.f17.results.toList E5:=by
 rintro⟨t,l⟩ hs;obtain⟨hs1,hs2⟩:smT t∧B7p l:=hs;have hl1:=hs2.1;refine⟨trivial,?_⟩;skip;refine⟨t,rfl,fun _=>hs1,?_⟩;skip;refine B2 (fun i:Nat=>⟨[(1,⟨none,.rd 6 (l.map Ai)⟩),(4,⟨none,.bx 1 0⟩),(6,⟨none,.bx 2 0⟩),(7,⟨none,.view 3 [] 0 (Gk t (l.take i)).2.length⟩),(8,⟨none,.int .i64 i⟩)],[(3,.own 1 ((Gk t (l.take i)).2.map Ae)),(2,.own 1 [[.own 4 ((Gk t (l.take i)).1.map Aa)]]),(1,.own 1 [[.own 4 []]])],4⟩)
  (fun i=>i≤l.length) (fun i=>l.length - i) 0 ?_ (by omega) ?_
 ·(refine⟨?_,?_,rfl⟩<;>repeat' (first|exact rfl|exact trivial|refine⟨?_,?_⟩|fail)<;>(conv=>whnf))
  all_goals simp[setCells,Gk]
 intro i hi;have hi:i≤l.length:=hi;obtain⟨hsm,hln⟩:=A0h hs1 hs2 i hi;have hnext:∀{o:OpR},l[i]? =some o→Gk t (l.take (i+1))=Oa (Gk t (l.take i)) o:=fun h=>Yi h;generalize hout:Gk t (l.take i)=out at hsm hln hnext⊢;obtain⟨out,cs⟩:=out;have hsm:smT out:=hsm;have hln:cs.length=i:=hln
 (conv=>whnf);refine⟨fun h2=>?_,fun h2=>?_⟩
 ·have h2:i<l.length:=by simpa using h2
  obtain⟨o,ho⟩:=B7 h2;have hso:=hs2.2 o (List.mem_of_getElem? ho);repeat((conv=>whnf);refine⟨Ai o,fun _=>⟨by omega,Ao ho⟩,?_⟩)
  refine⟨(out,o),by refine congrArg (fun x=>[AV.agg [AV.rd 4 x],AV.agg (Ai o)]) ?_;simp[rdI],fun _=>⟨hsm,hso⟩,?_⟩;repeat((conv=>whnf);first|refine⟨(by kernel_rfl:Bu _ _=true),?_⟩|refine⟨_,w64 (bb),?_⟩|refine⟨bb,?_⟩|refine⟨fun(r:List AV) hr c hc=>by simp[A6]at hr;(try subst hr);simp at hc;(try subst hc);rfl,?_⟩)
  refine Bt (i+1) ?_ h2 (by first|omega|(simp;done)|(simp;omega));rw[hnext ho]
  (refine⟨?_,?_,rfl⟩<;>repeat' (first|exact rfl|exact trivial|refine⟨?_,?_⟩|fail)<;>(conv=>whnf))
  ·show _+1=(cs++[_]).length
   simp
  ·show _++_=(cs++[(Ap out o).2]).map Ae
   simp[Ae]
  ·show[[AV.own 4 _]]=[[AV.own 4 ((Ap out o).1.map Aa)]]
   simp
 ·have h2:i=l.length:=by
   have:¬i<l.length:=by simpa using h2
   omega
  subst h2;rw[List.take_length]at hout;rw[show E5.res (t,l)=.tup [.agg [.own 4 (out.map Aa)],.own 1 (cs.map Ae)] by show AV.tup [.agg [.own 4 ((Gk t l).1.map Aa)],.own 1 ((Gk t l).2.map Ae)]=_;rw[hout]];skip;exact⟨trivial,⟨⟨rfl,by simp⟩,trivial⟩,P1 (by(try simp only[List.drop_zero,List.take_length,Q1]);simp),trivial⟩
theorem Yp:Au Tryz.prog 17 E5:=Al (Bx _ _) (FOk.cons J9 (FOk.cons A55 FOk.nil)) mixed Tryz.func17 rfl Tryz.call17 (by decide) (by kernel_rfl) A2a (by intro _ (y:(Tr×List OpR)) _;exact⟨by simp[E5,con,A9,A8,AV.noRd,A7,Ab,A5,A6,Aa,Ai,Ae],by simp[E5,con,A9,A8,AV.noRd,A7,Ab,A5,A6,Aa,Ai,Ae]⟩) (by intro(y:(Tr×List OpR)) _;first|(simp[E5,con,A9,A8,Ad,AV.free,A2,A3,A1,A6,rdT,Aa,Ai,Ae];done)|(obtain⟨_,_⟩:=y;simp[E5,con,A9,A8,Ad,AV.free,A2,A3,A1,A6,rdT,Aa,Ai,Ae];done)|(obtain⟨_,_,_⟩:=y;simp[E5,con,A9,A8,Ad,AV.free,A2,A3,A1,A6,rdT,Aa,Ai,Ae];done))
end Go.GH
namespace Go.GH
open Go
theorem N8{t:Tr}(ok:Ar t=true){y:It}(hy:y∈t):B4 y.path=true∧(y.path==sl)=false:=by
 have hi:=Dh ok hy;have hsl:=O3 hi;simp only[Fo,Bool.and_eq_true]at hi;exact⟨hi.1.1.1,hsl⟩
theorem C2k{t:Tr}(ok:Ar t=true){y:It}(hy:y∈t):1≤(names y.path).length∧((names y.path).length=1→Bl y.path=sl)∧
 (2≤(names y.path).length→∃z,z∈t∧z.kind=2∧names z.path=up y.path∧Bl y.path=z.path):=by
 obtain⟨hp,hsl⟩:=N8 ok hy;obtain⟨cp,np⟩:=Hu hp hsl;have h1:1≤(names y.path).length:=List.length_pos_iff.2 np;have h4:=Gv (p:=y.path);have hab:Bl y.path=E3 (up y.path):=by rw[Bl,if_pos hp];rfl
 refine⟨h1,fun e=>?_,fun h2=>?_⟩
 ·rw[hab,show up y.path=[] by rw[up,e];rfl];rfl
 ·obtain⟨i,hi⟩:=List.getElem?_of_mem hy
  have hd:=(Qi ok hi).2.2;have hul:(up y.path).length=(names y.path).length - 1:=by rw[up,List.length_take];omega
  have hune:up y.path≠[]:=fun e=>by rw[e]at hul;simp at hul;omega
  have hun:(up y.path).all D5=true:=by
   rw[List.all_eq_true];intro z hz;exact List.all_eq_true.1 Ku z (List.mem_of_mem_take hz)
  rw[Ti hune hun,if_pos (by omega)]at hab;obtain⟨k1,k2,k3⟩:=A1f hune hun;have hnu:=k3 (by omega);rw[hab]at hd;simp only[N6,Bool.and_eq_true]at hd;rw[Id k2]at hd;obtain⟨z,hz⟩:=Option.isSome_iff_exists.1 hd.1;have hzm:=List.mem_of_find?_eq_some hz;have hzp:z.path=cat (up y.path):=by simpa using List.find?_some hz
  have hzk:z.kind=2:=by have:=hd.2;rw[hz]at this;simpa using this
  exact⟨z,hzm,hzk,by rw[hzp,hnu],by rw[hab,hzp]⟩
theorem Ys{t:Tr}{p:Str}{x:It}(h:Aj t p=some x)(hk:(p==sl)=false):x∈t∧x.path=p:=by
 rw[Id hk]at h;exact⟨List.mem_of_find?_eq_some h,by simpa using List.find?_some h⟩
theorem C72{y:Str}(h:1≤(names y).length):names y=up y++[My y]:=by
 rw[up,My];cases hn:names y with
 |nil=>rw[hn]at h;simp at h
 |cons a l=>
  rw[←List.dropLast_eq_take];have:(a::l).getLastD []=(a::l).getLast (by simp):=by rw[List.getLastD_eq_getLast?,List.getLast?_eq_some_getLast (by simp)];rfl
  rw[this,List.dropLast_concat_getLast]
end Go.GH
namespace Go.GH
def B9u(a b:Tr)(i:Nat):Bool:=match a[i]? with
 |none=>false
 |some x=>match b[i]? with
  |none=>false
  |some y=>C1f x y
def Ph(a b:Tr):Bool:=decide (a.length=b.length)&&(List.range a.length).all (B9u a b)
end Go.GH
