import Derived.Test.YtpbpaijjpglmlaaGreatSC
import Derived.Lib.Strings
import Derived.Shelf.SlSortCmp.NoneTotal
import Derived.Test.YtpbpaijjpglmlaaGreatChecked
import Derived.Shelf.SlicesG.Delete
import Derived.Deep.MidRow
set_option linter.unusedVariables false
set_option linter.unusedSimpArgs false
set_option maxRecDepth 100000
set_option maxHeartbeats 4000000
noncomputable section
namespace Go.GH
open Go
def C8u(o:OpR)(x:It):It:=⟨o.to++x.path.drop o.path.length,x.kind,x.data,x.time⟩
def C1g(o:OpR):Tr→Tr
 |[]=>[]
 |x::l=>if stuck o x then C8u o x::l else Gh o x::C1g o l
theorem C2b{o:OpR}{y:It}:∀{t:Tr} {i:Nat},(t.take i).any (stuck o)=false→t[i]? =some y→stuck o y=true→C1g o t=(t.take i).map (Gh o)++C8u o y::t.drop (i+1)
 |[],i,h1,h2,h3=>by simp at h2
 |x::t,0,h1,h2,h3=>by
  simp only[List.getElem?_cons_zero,Option.some.injEq]at h2;subst h2;simp[C1g,h3]
 |x::t,i+1,h1,h2,h3=>by
  simp only[List.take_succ_cons,List.any_cons,Bool.or_eq_false_iff]at h1;simp only[List.getElem?_cons_succ]at h2;simp[C1g,h1.1,C2b h1.2 h2 h3]
def Tl(t:Tr)(o:OpR)(i:Nat):Tr:=(t.take i).map (Gh o)++t.drop i
theorem C5f{t:Tr}{o:OpR}{i:Nat}:(Tl t o i).length=t.length:=by simp[Tl];omega
theorem C7z{t:Tr}{o:OpR}{i:Nat}{y:It}(h:t[i]? =some y):(Tl t o i)[i]? =some y∧(∀z,(Tl t o i).set i z=(t.take i).map (Gh o)++z::t.drop (i+1))∧(Tl t o i).set i (Gh o y)=Tl t o (i+1):=by
 have hl:=(List.getElem?_eq_some_iff.1 h).1;have hd:t.drop i=y::t.drop (i+1):=by rw[List.drop_eq_getElem_cons hl,(List.getElem?_eq_some_iff.1 h).2]
 have h1:((t.take i).map (Gh o)).length=i:=by simp;omega
 have hs:∀z,(Tl t o i).set i z=(t.take i).map (Gh o)++z::t.drop (i+1):=fun z=>by
  rw[Tl,List.set_append_right _ _ (by omega),h1,Nat.sub_self,hd,List.set_cons_zero]
 refine⟨?_,hs,?_⟩
 ·rw[Tl,List.getElem?_append_right (by omega),h1,Nat.sub_self,hd];rfl
 ·rw[hs,Tl,Bk h,List.map_append,List.append_assoc];rfl
theorem C4u{t:Tr}{o:OpR}:Tl t o t.length=t.map (Gh o):=by simp[Tl]
def Nq(t:Tr)(o:OpR):Tr×Int:=
 if !(Aj t o.path).isSome then(t,2)
 else if Mq t o.to !=0 then(t,Mq t o.to)
 else if t.any (stuck o)then(C1g o t,1)
 else(Kx (t.map (Gh o)),0)
theorem C3s{t:Tr}{o:OpR}(ok:Ar t=true)(ho:El o.path=false)(ht:El o.to=false):(Nq t o).2=(Kk t o).2∧((Kk t o).2=0→(Nq t o).1=(Kk t o).1)∧((Kk t o).2≠0→(Kk t o).1=t):=by
 unfold Nq Kk;cases h1: !(Aj t o.path).isSome with
 |true=>simp
 |false=>
  simp only[if_neg (Bool.false_ne_true)];cases h2:(Mq t o.to !=0)with
  |true=>
   simp only[if_pos rfl];have hne:Mq t o.to≠0:=by simpa using h2
   rcases B6z h2 with⟨h3,h4⟩|⟨h3,h4,h5⟩
   ·simp only[h3,if_pos rfl,h4]
    exact⟨rfl,fun h=>absurd (h4▸h) (h4▸hne),fun _=>rfl⟩
   ·simp only[h3,if_neg (Bool.false_ne_true),h4,if_pos rfl,h5]
    exact⟨rfl,fun h=>by simp at h,fun _=>rfl⟩
  |false=>
   obtain⟨h3,h4⟩:=B5j h2;simp only[if_neg (Bool.false_ne_true),h3,h4];cases h5:t.any (stuck o)with
   |true=>simp
   |false=>
    simp only[if_neg (Bool.false_ne_true)];exact⟨by first|rfl|trivial,fun _=>(C30 (B3i ok ho ht h4 h5)).symm,fun h=>by simp at h⟩
theorem C08{o:OpR}{x:It}(ho:El o.path=false)(h:Cw x.path o.path=true):o.path.isPrefixOf x.path=true:=by
 simp only[El,Bool.or_eq_false_iff]at ho;obtain⟨r,h1,h2,_⟩:=X7 ho.2 h;rw[h2];simp
theorem C63{l:Tr}{i:Nat}{y:It}(h:l[i]? =some y):l.set i y=l:=by
 obtain⟨h1,h2⟩:=List.getElem?_eq_some_iff.1 h;rw[←h2,List.set_getElem_self]
theorem A6u{t:Tr}(ok:Ar t=true){x:It}(hx:x∈t):x.path.length≤100:=by
 have hi:=Dh ok hx;have hsl:=O3 hi;simp only[Fo,Bool.and_eq_true]at hi;have h1:=(Hu hi.1.1.1 hsl).1;have h2:=Zu (names x.path);have h3:=Gv (p:=x.path);have h4:=A1e (p:=x.path);rw[←h1]at h2;omega
theorem A8s{t:Tr}{o:OpR}(h:(Cf t o).2≠0):(Cf t o).1=t:=by
 unfold Cf at h⊢;split at h
 ·rw[if_pos (by assumption)]
 rw[if_neg (by assumption)];split at h
 ·rw[if_pos (by assumption)]
 rw[if_neg (by assumption)];split at h
 ·rw[if_pos (by assumption)]
 rw[if_neg (by assumption)];split at h
 ·rw[if_pos (by assumption)]
 exact absurd rfl h
theorem A5t{t:Tr}{o:OpR}(h:(D0 t o).2≠0):(D0 t o).1=t:=by
 unfold D0 at h⊢;cases hx:Aj t o.path with
 |none=>rfl
 |some x=>
  rw[hx]at h;dsimp only at h⊢;split at h
  ·rw[if_pos (by assumption)]
  rw[if_neg (by assumption)];split at h
  ·rw[if_pos (by assumption)]
  exact absurd rfl h
theorem B2z{t:Tr}{o:OpR}(h:(Cp t o).2≠0):(Cp t o).1=t:=by
 unfold Cp at h⊢;cases hx:Aj t o.path with
 |none=>rfl
 |some x=>
  rw[hx]at h;dsimp only at h⊢;split at h
  ·rw[if_pos (by assumption)]
  rw[if_neg (by assumption)];split at h
  ·rw[if_pos (by assumption)]
  exact absurd rfl h
theorem B3e{t:Tr}{l:List OpR}(ht:smT t)(hl:B7p l):smT (Gk t l).1∧(Gk t l).2.length=l.length:=by
 have:=A0h ht hl l.length (Nat.le_refl _);rw[List.take_length]at this;exact this
def C74(A:Cur×Tr):Tr×Tr:=if C3 A.1 2=0 then(A.2,(Gk A.2 (Nf 4 (An A.1 2) []).1).1)else(A.2,(Dg (An A.1 2)).2)
def A26(c:Cur):Tr×Tr:=C74 (Dg c)
theorem C2s(c:Cur):B7p (Nf 4 c []).1:=by
 have h1:=B2y 4 c [];have h2:=B72 4 c (l:=[]) fun o ho=>(by cases ho)
 refine⟨by rw[h1];decide,fun o ho=>?_⟩;have:=h2 o ho;exact⟨Nat.le_trans this.1 (by decide),Nat.le_trans this.2.1 (by decide),Nat.le_trans this.2.2 (by decide)⟩
theorem C7n{A:Cur×Tr}(hc:Dd A.1)(h:smT A.2):smT (C74 A).1∧smT (C74 A).2:=by
 have h2:=Yn (Bi (n:=2) hc);have h3:=B3e h (C2s (An A.1 2));unfold C74;by_cases e:C3 A.1 2=0
 ·rw[if_pos e];exact⟨h,h3.1⟩
 ·rw[if_neg e];exact⟨h,h2.2.1⟩
theorem C7p{c:Cur}(h:Dd c):smT (A26 c).1∧smT (A26 c).2:=C7n (Yn h).1 (Yn h).2.1
end Go.GH
namespace Go.GH
open Go Go.Proofs
def Ee:Bd:=con [mS 4,mS 4] true (Tr×Tr) (fun⟨a,b⟩=>[.rd 4 (a.map Aa),.rd 4 (b.map Aa)]) (fun x=>x.1.length≤4611686018427387904∧x.2.length≤4611686018427387904) (fun⟨a,b⟩=>.bool (Ph a b))
def Xf:Env:=⟨A4 B5,A4 [],[0,1,4,5,10,12,13,14,24]⟩
theorem Xe:B6 Xf (Av Tryz.f70) Tryz.f70.results.toList Ee:=by
 rintro⟨a,b⟩ hx;obtain⟨ha,hb⟩:a.length≤4611686018427387904∧b.length≤4611686018427387904:=hx;refine⟨trivial,?_⟩;skip
 (conv=>whnf);refine⟨fun h1=>?_,fun h1=>?_⟩
 ·have h1:a.length≠b.length:=by simp at h1;omega
  skip;exact⟨trivial,eqB (by show false=Ph a b;rw[Ph];simp[h1])⟩
 have h1:a.length=b.length:=by simp at h1;omega
 have hst:Ph a b=(List.range a.length).all (B9u a b):=by rw[Ph,h1];simp
 skip;refine B2 (fun i:Nat=>⟨[(0,⟨none,.rd 4 (a.map Aa)⟩),(1,⟨none,.rd 4 (b.map Aa)⟩),(12,⟨none,.int .i64 a.length⟩),(13,⟨none,.int .i64 i⟩)],[],0⟩) (fun i=>i≤a.length∧∀j,j<i→B9u a b j=true) (fun i=>a.length - i) 0 ?_ ⟨Nat.zero_le _,fun j hj=>absurd hj (Nat.not_lt_zero _)⟩ ?_
 ·(refine⟨?_,?_,rfl⟩<;>repeat' (first|exact rfl|exact trivial|refine⟨?_,?_⟩|fail)<;>(conv=>whnf))
  all_goals simp
 rintro i ⟨hi,hI⟩
 (conv=>whnf);refine⟨fun h2=>?_,fun h2=>?_⟩
 ·have h2:i<a.length:=by have h2:decide ((i:Int)<(a.length:Nat))=true:=h2
                         simp at h2;omega
  obtain⟨x,hx⟩:=B7 h2;obtain⟨y,hy⟩:=B7 (l:=b) (i:=i) (by omega);have he:B9u a b i=C1f x y:=by rw[B9u,hx,hy]
  repeat((conv=>whnf);first|refine⟨(by kernel_rfl:Bu _ _=true),?_⟩|refine⟨Aa x,fun _=>⟨by omega,Ao hx⟩,?_⟩|refine⟨Aa y,fun _=>⟨by omega,Ao hy⟩,?_⟩)
  have e:(x.path==y.path&&(x.kind==y.kind&&(x.data==y.data&&(x.time==y.time&&true))))=C1f x y:=by simp[C1f,Bool.and_assoc]
  (conv=>whnf);refine⟨fun h3=>?_,fun h3=>?_⟩
  ·have h3:(!(x.path==y.path&&(x.kind==y.kind&&(x.data==y.data&&(x.time==y.time&&true)))))=true:=h3
   rw[e]at h3;skip;refine⟨trivial,eqB ?_⟩;show false=Ph a b;rw[hst,X1 (List.mem_range.2 h2) (by rw[he];simpa using h3)]
  have h3:(!(x.path==y.path&&(x.kind==y.kind&&(x.data==y.data&&(x.time==y.time&&true)))))=false:=h3;rw[e]at h3;repeat((conv=>whnf);refine⟨_,w64 (bb),?_⟩)
  refine Bt (i+1) ?_ ⟨h2,fun j hj=>?_⟩ (by first|omega|(simp;done)|(simp;omega))
  ·(refine⟨?_,?_,rfl⟩<;>repeat' (first|exact rfl|exact trivial|refine⟨?_,?_⟩|fail)<;>(conv=>whnf))
  ·rcases Nat.lt_or_ge j i with h|h
   ·exact hI j h
   ·rw[show j=i by omega,he];simpa using h3
 have h2:i=a.length:=by have h2:decide ((i:Int)<(a.length:Nat))=false:=h2
                        simp at h2;omega
 subst h2;skip;exact⟨trivial,eqB (by show true=Ph a b;rw[hst,List.all_eq_true.2 fun j hj=>hI j (List.mem_range.1 hj)])⟩
theorem We:Au Tryz.prog 70 Ee:=Al (Bx _ _) FOk.nil mixed Tryz.func70 rfl Tryz.call70 (by decide) (by kernel_rfl) Xe (by intro _ (y:(Tr×Tr)) _;exact⟨by simp[Ee,con,A9,A8,AV.noRd,A7,Ab,A5,A6,Ae,Ag,Ba,Aa,Ai],by simp[Ee,con,A9,A8,AV.noRd,A7,Ab,A5,A6,Ae,Ag,Ba,Aa,Ai]⟩) (by intro(y:(Tr×Tr)) _;first|(simp[Ee,con,A9,A8,Ad,AV.free,A2,A3,A1,A6,Aa,Ai,Ae,Ag,Ba];done)|(obtain⟨_,_⟩:=y;simp[Ee,con,A9,A8,Ad,AV.free,A2,A3,A1,A6,Aa,Ai,Ae,Ag,Ba];done)|(obtain⟨_,_,_⟩:=y;simp[Ee,con,A9,A8,Ad,AV.free,A2,A3,A1,A6,Aa,Ai,Ae,Ag,Ba];done))
def Gi:Bd:=con [mS 4,mS 4] true (Tr×Tr) (fun⟨a,b⟩=>[rdT a,rdT b]) (fun x=>smT x.1∧smT x.2) (fun⟨a,b⟩=>.bool (Ph a b))
def A3b:Env:=⟨A4 B5,A4 [(70,Ee)],[0,1,2,3,4]⟩
theorem A3e:B6 A3b (Av Tryz.f33) Tryz.f33.results.toList Gi:=by
 rintro⟨a,b⟩ hx;obtain⟨ha,hb⟩:smT a∧smT b:=hx;have hal:=ha.1;have hbl:=hb.1;refine⟨trivial,?_⟩;skip;refine⟨(a,b),by(repeat' (first|refine By ?_ ?_|refine C2 ?_|refine Bs ?_|refine C0 ?_|exact rfl))<;>simp[rdI,rdO,rdE,rdB,rdN,rdS,rdD,rdW,tkM],fun _=>⟨by show a.length≤_;omega,by show b.length≤_;omega⟩,?_⟩;skip;exact⟨trivial,rfl⟩
theorem A25:Au Tryz.prog 33 Gi:=Al (Bx _ _) (FOk.cons We FOk.nil) mixed Tryz.func33 rfl Tryz.call33 (by decide) (by kernel_rfl) A3e (by intro _ (y:(Tr×Tr)) _;exact⟨by simp[Gi,con,A9,A8,AV.noRd,A7,Ab,A5,A6,Ae,Ag,Ba,Aa,Ai],by simp[Gi,con,A9,A8,AV.noRd,A7,Ab,A5,A6,Ae,Ag,Ba,Aa,Ai]⟩) (by intro(y:(Tr×Tr)) _;first|(simp[Gi,con,A9,A8,Ad,AV.free,A2,A3,A1,A6,rdT,Aa,Ai,Ae,Ag,Ba];done)|(obtain⟨_,_⟩:=y;simp[Gi,con,A9,A8,Ad,AV.free,A2,A3,A1,A6,rdT,Aa,Ai,Ae,Ag,Ba];done)|(obtain⟨_,_,_⟩:=y;simp[Gi,con,A9,A8,Ad,AV.free,A2,A3,A1,A6,rdT,Aa,Ai,Ae,Ag,Ba];done))
def Rl:Bd:={E5 with sh:=true,res:=fun((t,l):Tr×List OpR)=>.tup [.agg [.rd 4 ((Gk t l).1.map Aa)],.rd 1 ((Gk t l).2.map Ae)]}
theorem Y3:Au Tryz.prog 17 Rl:=J2 _ Yp (fun _=>rfl) rfl (fun(t,l) _=>⟨rfl,by show 2≤16;omega,by simp only[E5,con,frz,Ml,List.map_cons,List.map_nil,Ni,rdI,rdN]⟩)
def Ed:Bd:=A8 true [.mp,mC] (Cur×Nat) (fun⟨c,n⟩=>[.own 3 [Ba c],.int .i64 n]) (fun x=>Dd x.1∧x.2≤1000) (fun⟨c,n⟩=>.own 6 ((Nf n c []).1.map Ai)) (fun⟨c,n⟩=>[.own 3 [Ba (Nf n c []).2]])
def B16:Env:=⟨A4 B5,A4 [(146,Fk)],[0,1,4,5,6,10]⟩
theorem A9z:B6 B16 (Av Tryz.f112) Tryz.f112.results.toList Ed:=by
 rintro⟨c,n⟩ hc;obtain⟨hc,hn⟩:Dd c∧n≤1000:=hc;refine⟨⟨⟨_,_,_,rfl,rfl,by simp⟩,trivial⟩,?_⟩;skip;refine B2 (fun((i,c',l):Nat×Cur×List OpR)=>⟨[(0,⟨none,.bx 0 0⟩),(1,⟨none,.int .i64 n⟩),(5,⟨none,.view 1 [] 0 l.length⟩),(6,⟨none,.int .i64 i⟩)],[(0,.own 3 [Ba c']),(1,.own 6 (l.map Ai))],2⟩)
  (fun(i,c',l)=>i≤n∧Dd c'∧l.length=i∧Nf (n - i) c' l=Nf n c []) (fun x=>n - x.1) (0,c,[]) ?_ ⟨by omega,hc,rfl,by rw[Nat.sub_zero]⟩ ?_
 ·(refine⟨?_,?_,rfl⟩<;>repeat' (first|exact rfl|exact trivial|refine⟨?_,?_⟩|fail)<;>(conv=>whnf))
 rintro⟨i,c',l⟩ ⟨hi,hc',hl,hI⟩
 (conv=>whnf);refine⟨fun h1=>?_,fun h1=>?_⟩
 ·have h1:i<n:=by simpa using h1
  obtain⟨m,hm⟩:∃m,n - i=m+1:=⟨n - i - 1,by omega⟩
  have hm2:n - (i+1)=m:=by omega
  rw[hm,Nf]at hI;skip;refine⟨c',rfl,fun _=>hc',?_⟩;repeat((conv=>whnf);first|refine⟨_,w64 (bb),?_⟩|refine⟨bb,?_⟩|refine⟨Ls (by rfl),?_⟩)
  refine Bt (i+1,opN c',l++[opX c']) ?_ ⟨h1,C8l hc',by simp[hl],by rw[hm2];exact hI⟩ (by show n - (i+1)<n - i;omega)
  (refine⟨?_,?_,rfl⟩<;>repeat' (first|exact rfl|exact trivial|refine⟨?_,?_⟩|fail)<;>(conv=>whnf))
  all_goals simp[Ai]
 ·have h1:i=n:=by
   have:¬i<n:=by simpa using h1
   omega
  subst h1;rw[Nat.sub_self,Nf]at hI;skip;refine⟨⟨by show some _=some (AV.own 3 [Ba (Nf i c []).2]);rw[←hI],trivial⟩,?_⟩;show Vw _ (AV.own 6 ((Nf i c []).1.map Ai));rw[←hI];exact P1 (by(try simp only[List.drop_zero,List.take_length,Q1]);simp)
theorem A4s:Au Tryz.prog 112 Ed:=Dv (Bx _ _) (FOk.cons B00 FOk.nil) mixed Tryz.func112 rfl Tryz.call112 (by decide) (by kernel_rfl) A9z (fun h=>by cases h) (by intro(y:(Cur×Nat)) _;first|exact⟨by simp[Ed,con,A9,A8,Ad,AV.free,A2,A3,A1,A6,Aa,Ai,Ae,Ag,Ba],by simp[Ed,con,A9,A8,Ad,AV.free,A2,A3,A1,A6,Aa,Ai,Ae,Ag,Ba]⟩|(obtain⟨_,_⟩:=y;exact⟨by simp[Ed,con,A9,A8,Ad,AV.free,A2,A3,A1,A6,Aa,Ai,Ae,Ag,Ba],by simp[Ed,con,A9,A8,Ad,AV.free,A2,A3,A1,A6,Aa,Ai,Ae,Ag,Ba]⟩)|(obtain⟨_,_,_⟩:=y;exact⟨by simp[Ed,con,A9,A8,Ad,AV.free,A2,A3,A1,A6,Aa,Ai,Ae,Ag,Ba],by simp[Ed,con,A9,A8,Ad,AV.free,A2,A3,A1,A6,Aa,Ai,Ae,Ag,Ba]⟩)) (by intro(y:(Cur×Nat)) _;first|(simp[Ed,con,A9,A8,Ad,AV.free,A2,A3,A1,A6,Aa,Ai,Ae,Ag,Ba];done)|(obtain⟨_,_⟩:=y;simp[Ed,con,A9,A8,Ad,AV.free,A2,A3,A1,A6,Aa,Ai,Ae,Ag,Ba];done)|(obtain⟨_,_,_⟩:=y;simp[Ed,con,A9,A8,Ad,AV.free,A2,A3,A1,A6,Aa,Ai,Ae,Ag,Ba];done))
def Wf:Bd:={Ed with sh:=true,res:=fun((c,n):Cur×Nat)=>.rd 6 ((Nf n c []).1.map Ai)}
theorem A3s:Au Tryz.prog 112 Wf:=A2t _ A4s rfl (fun(c,n) _=>⟨rfl,by show 1≤16;omega,by simp only[Ed,A8,frz,Ml,Ni,rdO]⟩)
def E1:Bd:=A8 true [mS 1] Str (fun s=>[.rd 1 (s.map Ag)]) (fun s=>s.length≤1048576) (fun s=>.tup [.agg [.rd 4 ((A26 (L8 s)).1.map Aa)],.agg [.rd 4 ((A26 (L8 s)).2.map Aa)]]) (fun _=>[])
def A9f:Env:=⟨A4 B5,A4 [(17,Rl),(39,Kd),(40,Uj),(41,Dy),(112,Wf)],[0,2,3,4,5,6,13]⟩
theorem A98:B6 A9f (Av Tryz.f65) Tryz.f65.results.toList E1:=by
 intro(s:Str) (hs:s.length≤1048576);refine⟨trivial,?_⟩;have hc0:=C29 hs;conv=>whnf
 refine⟨s,rfl,fun _=>hs,?_⟩;skip;refine⟨L8 s,rfl,fun _=>hc0,?_⟩;obtain⟨hk,hsm,hle⟩:=Yn hc0;have hk2:Dd (An (Dg (L8 s)).1 2):=Bi hk;have hdef:A26 (L8 s)=if C3 (Dg (L8 s)).1 2=0 then((Dg (L8 s)).2,(Gk (Dg (L8 s)).2 (Nf 4 (An (Dg (L8 s)).1 2) []).1).1)else((Dg (L8 s)).2,(Dg (An (Dg (L8 s)).1 2)).2):=rfl
 skip;refine⟨((Dg (L8 s)).1,2),rfl,fun _=>hk,?_⟩;skip
 (conv=>whnf);refine⟨fun g0=>?_,fun g0=>?_⟩
 ·have g1:C3 (Dg (L8 s)).1 2=0:=by
   have g0:(C3 (Dg (L8 s)).1 2==0)=true:=g0;simpa using g0
  rw[if_pos g1]at hdef;skip;refine⟨(An (Dg (L8 s)).1 2,4),rfl,fun _=>⟨hk2,by show 4≤1000;omega⟩,?_⟩;skip;refine⟨((Dg (L8 s)).2,(Nf 4 (An (Dg (L8 s)).1 2) []).1),by(repeat' (first|refine By ?_ ?_|refine C2 ?_|refine Bs ?_|refine C0 ?_|exact rfl))<;>simp[rdI,rdO,rdE,rdB,rdN,rdS,rdD,rdW,tkM],fun _=>⟨hsm,C2s _⟩,?_⟩;repeat((conv=>whnf);refine⟨(by kernel_rfl:Bu _ _=true),?_⟩)
  rw[show E1.res s=.tup [.agg [.rd 4 ((Dg (L8 s)).2.map Aa)],.agg [.rd 4 ((Gk (Dg (L8 s)).2 (Nf 4 (An (Dg (L8 s)).1 2) []).1).1.map Aa)]] by
   show AV.tup [.agg [.rd 4 ((A26 (L8 s)).1.map Aa)],.agg [.rd 4 ((A26 (L8 s)).2.map Aa)]]=_;rw[hdef]]
  exact⟨trivial,⟨rfl,trivial⟩,⟨rfl,trivial⟩,trivial⟩
 have g1:¬C3 (Dg (L8 s)).1 2=0:=by
  have g0:(C3 (Dg (L8 s)).1 2==0)=false:=g0;simpa using g0
 rw[if_neg g1]at hdef;skip;refine⟨An (Dg (L8 s)).1 2,rfl,fun _=>hk2,?_⟩;repeat((conv=>whnf);refine⟨(by kernel_rfl:Bu _ _=true),?_⟩)
 rw[show E1.res s=.tup [.agg [.rd 4 ((Dg (L8 s)).2.map Aa)],.agg [.rd 4 ((Dg (An (Dg (L8 s)).1 2)).2.map Aa)]] by
  show AV.tup [.agg [.rd 4 ((A26 (L8 s)).1.map Aa)],.agg [.rd 4 ((A26 (L8 s)).2.map Aa)]]=_;rw[hdef]]
 exact⟨trivial,⟨rfl,trivial⟩,⟨rfl,trivial⟩,trivial⟩
theorem A79:Au Tryz.prog 65 E1:=Dv (Bx _ _) (FOk.cons Y3 (FOk.cons B0p (FOk.cons A1r (FOk.cons Qe (FOk.cons A3s FOk.nil))))) mixed Tryz.func65 rfl Tryz.call65 (by decide) (by kernel_rfl) A98 (fun h=>by cases h) (by intro(y:Str) _;first|exact⟨by simp[E1,con,A9,A8,Ad,AV.free,A2,A3,A1,A6,Aa,Ai,Ae,Ag,Ba],by simp[E1,con,A9,A8,Ad,AV.free,A2,A3,A1,A6,Aa,Ai,Ae,Ag,Ba]⟩|(obtain⟨_,_⟩:=y;exact⟨by simp[E1,con,A9,A8,Ad,AV.free,A2,A3,A1,A6,Aa,Ai,Ae,Ag,Ba],by simp[E1,con,A9,A8,Ad,AV.free,A2,A3,A1,A6,Aa,Ai,Ae,Ag,Ba]⟩)|(obtain⟨_,_,_⟩:=y;exact⟨by simp[E1,con,A9,A8,Ad,AV.free,A2,A3,A1,A6,Aa,Ai,Ae,Ag,Ba],by simp[E1,con,A9,A8,Ad,AV.free,A2,A3,A1,A6,Aa,Ai,Ae,Ag,Ba]⟩)) (by intro(y:Str) _;first|(simp[E1,con,A9,A8,Ad,AV.free,A2,A3,A1,A6,Aa,Ai,Ae,Ag,Ba];done)|(obtain⟨_,_⟩:=y;simp[E1,con,A9,A8,Ad,AV.free,A2,A3,A1,A6,Aa,Ai,Ae,Ag,Ba];done)|(obtain⟨_,_,_⟩:=y;simp[E1,con,A9,A8,Ad,AV.free,A2,A3,A1,A6,Aa,Ai,Ae,Ag,Ba];done))
def D9:Bd:=A8 true [mS 1] Str (fun s=>[.rd 1 (s.map Ag)]) (fun s=>s.length≤1048576) (fun s=>.tup [.agg [.rd 4 ((A26 (L8 s)).1.map Aa)],.agg [.rd 4 ((A26 (L8 s)).2.map Aa)]]) (fun _=>[])
def A0m:Env:=⟨A4 B5,A4 [(65,E1)],[0,2,3]⟩
theorem A0n:B6 A0m (Av Tryz.f34) Tryz.f34.results.toList D9:=by
 intro(s:Str) (hs:s.length≤1048576);refine⟨trivial,?_⟩;skip;refine⟨s,rfl,fun _=>hs,?_⟩;skip;exact⟨trivial,⟨rfl,trivial⟩,⟨rfl,trivial⟩,trivial⟩
theorem Zp:Au Tryz.prog 34 D9:=Dv (Bx _ _) (FOk.cons A79 FOk.nil) mixed Tryz.func34 rfl Tryz.call34 (by decide) (by kernel_rfl) A0n (fun h=>by cases h) (by intro(y:Str) _;first|exact⟨by simp[D9,con,A9,A8,Ad,AV.free,A2,A3,A1,A6,Aa,Ai,Ae,Ag,Ba],by simp[D9,con,A9,A8,Ad,AV.free,A2,A3,A1,A6,Aa,Ai,Ae,Ag,Ba]⟩|(obtain⟨_,_⟩:=y;exact⟨by simp[D9,con,A9,A8,Ad,AV.free,A2,A3,A1,A6,Aa,Ai,Ae,Ag,Ba],by simp[D9,con,A9,A8,Ad,AV.free,A2,A3,A1,A6,Aa,Ai,Ae,Ag,Ba]⟩)|(obtain⟨_,_,_⟩:=y;exact⟨by simp[D9,con,A9,A8,Ad,AV.free,A2,A3,A1,A6,Aa,Ai,Ae,Ag,Ba],by simp[D9,con,A9,A8,Ad,AV.free,A2,A3,A1,A6,Aa,Ai,Ae,Ag,Ba]⟩)) (by intro(y:Str) _;first|(simp[D9,con,A9,A8,Ad,AV.free,A2,A3,A1,A6,Aa,Ai,Ae,Ag,Ba];done)|(obtain⟨_,_⟩:=y;simp[D9,con,A9,A8,Ad,AV.free,A2,A3,A1,A6,Aa,Ai,Ae,Ag,Ba];done)|(obtain⟨_,_,_⟩:=y;simp[D9,con,A9,A8,Ad,AV.free,A2,A3,A1,A6,Aa,Ai,Ae,Ag,Ba];done))
def Ho:Bd:=con [.rd [none,none,none,none],mS 4] true (It×Tr) (fun⟨x,b⟩=>[.agg (Aa x),rdT b]) (fun x=>smT x.2) (fun x=>.bool (Iz x.1 x.2))
def A83:Env:=⟨A4 B5,A4 [(45,Ci)],[0,1,2,3,4,5,6]⟩
theorem A7c:B6 A83 (Av Tryz.f73) Tryz.f73.results.toList Ho:=by
 rintro⟨x,b⟩ hs;have hs:smT b:=hs;refine⟨trivial,?_⟩;skip;refine⟨(b,x.path),rfl,fun _=>hs,?_⟩;repeat((conv=>whnf);refine⟨fun h=>h,?_⟩)
 refine⟨trivial,eqB ?_⟩;show((!(Aj b x.path).isSome||(((Aj b x.path).getD It.none).kind !=x.kind))||((x.kind==3)&& !(((Aj b x.path).getD It.none).data==x.data)))=Iz x b;unfold Iz Oe;cases Aj b x.path with
 |none=>rfl
 |some y=>rfl
theorem A3q:Au Tryz.prog 73 Ho:=Al (Bx _ _) (FOk.cons Fj FOk.nil) mixed Tryz.func73 rfl Tryz.call73 (by decide) (by kernel_rfl) A7c (by intro _ (y:(It×Tr)) _;exact⟨by simp[Ho,con,A9,A8,AV.noRd,A7,Ab,A5,A6,Aa,Ai],by simp[Ho,con,A9,A8,AV.noRd,A7,Ab,A5,A6,Aa,Ai]⟩) (by intro(y:(It×Tr)) _;first|(simp[Ho,con,A9,A8,Ad,AV.free,A2,A3,A1,A6,rdT,Aa,Ai];done)|(obtain⟨_,_⟩:=y;simp[Ho,con,A9,A8,Ad,AV.free,A2,A3,A1,A6,rdT,Aa,Ai];done)|(obtain⟨_,_,_⟩:=y;simp[Ho,con,A9,A8,Ad,AV.free,A2,A3,A1,A6,rdT,Aa,Ai];done))
def Hn:Bd:=con [.rd [none,none,none,none],mS 4] true (It×Tr) (fun⟨x,b⟩=>[.agg (Aa x),rdT b]) (fun x=>smT x.2) (fun x=>.bool (Oe x.1 (x.2.find? fun z=>z.path==x.1.path)))
def A74:Env:=⟨A4 B5,A4 [(47,E0)],[0,1,2,3,4,5,6,12]⟩
theorem A8p:B6 A74 (Av Tryz.f71) Tryz.f71.results.toList Hn:=by
 rintro⟨x,b⟩ hs;have hs:smT b:=hs;refine⟨trivial,?_⟩;skip;refine⟨(b,x.path),rfl,fun _=>hs,?_⟩;skip
 (conv=>whnf);refine⟨fun h1=>?_,fun h1=>?_⟩
 ·have h1:fnd (fun z=>z.path==x.path) b<0:=by simpa using h1
  skip;exact⟨trivial,eqB (by
   rw[show(b.find? fun z=>z.path==x.path)=none from Z8 (by
    cases hq:b.any fun z=>z.path==x.path with
    |false=>rfl
    |true=>rw[fnd,if_pos hq]at h1;omega)];rfl)⟩
 ·have h1:¬fnd (fun z=>z.path==x.path) b<0:=by simpa using h1
  have hany:(b.any fun z=>z.path==x.path)=true:=by
   rw[←Pv];simp;omega
  obtain⟨y,hy,hf⟩:=Zl hany;have hge:0≤fnd (fun z=>z.path==x.path) b:=by omega
  repeat((conv=>whnf);first|refine⟨fun h=>h,?_⟩|refine⟨Aa y,fun _=>⟨hge,Ao hy⟩,?_⟩)
  refine⟨trivial,eqB ?_⟩;show _=Oe x (b.find? fun z=>z.path==x.path);rw[hf];show(x.kind !=y.kind||((x.kind==3)&& !(x.data==y.data)))=(y.kind !=x.kind||((x.kind==3)&& !(y.data==x.data)));rw[show(x.kind !=y.kind)=(y.kind !=x.kind)from bne_comm,show(x.data==y.data)=(y.data==x.data)from BEq.comm]
theorem A44:Au Tryz.prog 71 Hn:=Al (Bx _ _) (FOk.cons J1 FOk.nil) mixed Tryz.func71 rfl Tryz.call71 (by decide) (by kernel_rfl) A8p (by intro _ (y:(It×Tr)) _;exact⟨by simp[Hn,con,A9,A8,AV.noRd,A7,Ab,A5,A6,Aa,Ai],by simp[Hn,con,A9,A8,AV.noRd,A7,Ab,A5,A6,Aa,Ai]⟩) (by intro(y:(It×Tr)) _;first|(simp[Hn,con,A9,A8,Ad,AV.free,A2,A3,A1,A6,rdT,Aa,Ai];done)|(obtain⟨_,_⟩:=y;simp[Hn,con,A9,A8,Ad,AV.free,A2,A3,A1,A6,rdT,Aa,Ai];done)|(obtain⟨_,_,_⟩:=y;simp[Hn,con,A9,A8,Ad,AV.free,A2,A3,A1,A6,rdT,Aa,Ai];done))
def Fa:Bd:=con [.rd [none,none,none,none]] true It (fun x=>[.agg (Aa x)]) (fun _=>True) (fun x=>.agg (Ai (Lv x)))
def B0k:Env:=⟨A4 B5,A4 [],[0,1,2,4,5,10]⟩
theorem A9q:B6 B0k (Av Tryz.f74) Tryz.f74.results.toList Fa:=by
 intro(x:It) hs;refine⟨trivial,?_⟩;skip
 (conv=>whnf);refine⟨fun h1=>?_,fun h1=>?_⟩
 ·have h1:(x.kind==2)=true:=h1
  rw[show Fa.res x=.agg (Ai ⟨0,x.path,[],0,[],0⟩) by show AV.agg (Ai (Lv x))=_;rw[Lv,if_pos h1]];skip;exact⟨trivial,rfl,rfl,rfl,rfl,rfl,rfl,trivial⟩
 have h1:(x.kind==2)=false:=h1;skip
 (conv=>whnf);refine⟨fun h2=>?_,fun h2=>?_⟩
 ·have h2:(x.kind==3)=true:=h2
  rw[show Fa.res x=.agg (Ai ⟨2,x.path,[],0,x.data,x.time⟩) by show AV.agg (Ai (Lv x))=_;rw[Lv,if_neg (by simp[h1]),if_pos h2]];skip;exact⟨trivial,rfl,rfl,rfl,rfl,rfl,rfl,trivial⟩
 have h2:(x.kind==3)=false:=h2;rw[show Fa.res x=.agg (Ai ⟨1,x.path,[],0,x.data,x.time⟩) by show AV.agg (Ai (Lv x))=_;rw[Lv,if_neg (by simp[h1]),if_neg (by simp[h2])]];skip;exact⟨trivial,rfl,rfl,rfl,rfl,rfl,rfl,trivial⟩
theorem A86:Au Tryz.prog 74 Fa:=Al (Bx _ _) FOk.nil mixed Tryz.func74 rfl Tryz.call74 (by decide) (by kernel_rfl) A9q (by intro _ (y:It) _;exact⟨by simp[Fa,con,A9,A8,AV.noRd,A7,Ab,A5,A6,Aa,Ai],by simp[Fa,con,A9,A8,AV.noRd,A7,Ab,A5,A6,Aa,Ai]⟩) (by intro(y:It) _;first|(simp[Fa,con,A9,A8,Ad,AV.free,A2,A3,A1,A6,Aa,Ai];done)|(obtain⟨_,_⟩:=y;simp[Fa,con,A9,A8,Ad,AV.free,A2,A3,A1,A6,Aa,Ai];done)|(obtain⟨_,_,_⟩:=y;simp[Fa,con,A9,A8,Ad,AV.free,A2,A3,A1,A6,Aa,Ai];done))
def He:Bd:=con [.rd [none,none,none,none]] true It (fun x=>[.agg (Aa x)]) (fun _=>True) (fun x=>.agg (Ai (Lv x)))
def B96:Env:=⟨A4 B5,A4 [],[0,1,2,4,5,10]⟩
theorem B7d:B6 B96 (Av Tryz.f72) Tryz.f72.results.toList He:=by
 intro(x:It) hs;refine⟨trivial,?_⟩;skip
 (conv=>whnf);refine⟨fun h1=>?_,fun h1=>?_⟩
 ·have h1:(x.kind==2)=true:=h1
  rw[show He.res x=.agg (Ai ⟨0,x.path,[],0,[],0⟩) by show AV.agg (Ai (Lv x))=_;rw[Lv,if_pos h1]];skip;exact⟨trivial,rfl,rfl,rfl,rfl,rfl,rfl,trivial⟩
 have h1:(x.kind==2)=false:=h1;skip
 (conv=>whnf);refine⟨fun h2=>?_,fun h2=>?_⟩
 ·have h2:(x.kind==3)=true:=h2
  rw[show He.res x=.agg (Ai ⟨2,x.path,[],0,x.data,x.time⟩) by show AV.agg (Ai (Lv x))=_;rw[Lv,if_neg (by simp[h1]),if_pos h2]];skip;exact⟨trivial,rfl,rfl,rfl,rfl,rfl,rfl,trivial⟩
 have h2:(x.kind==3)=false:=h2;rw[show He.res x=.agg (Ai ⟨1,x.path,[],0,x.data,x.time⟩) by show AV.agg (Ai (Lv x))=_;rw[Lv,if_neg (by simp[h1]),if_neg (by simp[h2])]];skip;exact⟨trivial,rfl,rfl,rfl,rfl,rfl,rfl,trivial⟩
theorem B6h:Au Tryz.prog 72 He:=Al (Bx _ _) FOk.nil mixed Tryz.func72 rfl Tryz.call72 (by decide) (by kernel_rfl) B7d (by intro _ (y:It) _;exact⟨by simp[He,con,A9,A8,AV.noRd,A7,Ab,A5,A6,Aa,Ai],by simp[He,con,A9,A8,AV.noRd,A7,Ab,A5,A6,Aa,Ai]⟩) (by intro(y:It) _;first|(simp[He,con,A9,A8,Ad,AV.free,A2,A3,A1,A6,Aa,Ai];done)|(obtain⟨_,_⟩:=y;simp[He,con,A9,A8,Ad,AV.free,A2,A3,A1,A6,Aa,Ai];done)|(obtain⟨_,_,_⟩:=y;simp[He,con,A9,A8,Ad,AV.free,A2,A3,A1,A6,Aa,Ai];done))
def Ic:Bd:=con [mS 4,mS 4] false (Tr×Tr) (fun⟨a,b⟩=>[rdT a,rdT b]) (fun x=>smT x.1∧smT x.2) (fun x=>.own 6 ((Ft x.1 x.2).map Ai))
def B5v:Env:=⟨A4 B5,A4 [(38,Fc),(45,Ci),(73,Ho),(74,Fa)],[0,1,2,3,4,5,6,7,8,9,10,11,12,21,28,38,41,53,68,81,108]⟩
theorem B5u:B6 B5v (Av Tryz.f36) Tryz.f36.results.toList Ic:=by
 rintro⟨a,b⟩ hs;obtain⟨ha,hb⟩:smT a∧smT b:=hs;refine⟨trivial,?_⟩;skip;refine⟨a,rfl,fun _=>ha,?_⟩;repeat((conv=>whnf);refine⟨fun h=>h,?_⟩)
 refine⟨b,rfl,fun _=>hb,?_⟩;repeat((conv=>whnf);refine⟨fun h=>h,?_⟩)
 (conv=>whnf);refine⟨fun h1=>?_,fun h1=>?_⟩
 ·have h1:(!Ar a|| !Ar b)=true:=h1
  skip;have h0:Ft a b=[]:=by unfold Ft;revert h1;cases Ar a<;>cases Ar b<;>simp
  exact⟨trivial,P1 (by show _=(Ft a b).map Ai;rw[h0];rfl)⟩
 have h1:(!Ar a|| !Ar b)=false:=h1;have oa:Ar a=true:=by revert h1;cases Ar a<;>simp
 have ob:Ar b=true:=by revert h1;cases Ar b<;>simp
 have la:=Fp oa;have lb:=Fp ob;have hd:Ft a b=Fm a b (back a 0)++b.flatMap (Fl a b):=by simp[Ft,oa,ob,back]
 repeat((conv=>whnf);refine⟨_,w64 (bb),?_⟩)
 refine B2 (fun j:Nat=>⟨[(2,⟨none,.bx 0 0⟩),(3,⟨none,.bx 1 0⟩),(5,⟨none,.view 2 [] 0 ((Fm a b (back a j)).map Ai).length⟩),(6,⟨none,.int .i64 (j - 1)⟩)],[(2,.own 6 ((Fm a b (back a j)).map Ai)),(1,.own 1 [[.rd 4 (b.map Aa)]]),(0,.own 1 [[.rd 4 (a.map Aa)]])],3⟩)
  (fun j=>j≤a.length) (fun j=>j) a.length ?_ (by omega) ?_
 ·(refine⟨?_,?_,rfl⟩<;>repeat' (first|exact rfl|exact trivial|refine⟨?_,?_⟩|fail)<;>(conv=>whnf))
  all_goals simp[back,Fm]
 intro j hj;have hj:j≤a.length:=hj;have hlen:(Fm a b (back a j)).length≤40:=by
  have:=A1k (a:=a) (b:=b) (l:=back a j);have h2:(back a j).length=a.length - j:=by simp[back]
  omega
 (conv=>whnf);refine⟨fun h2=>?_,fun h2=>?_⟩
 ·have h2:1≤j:=by simp at h2;omega
  obtain⟨i,rfl⟩:∃i,j=i+1:=⟨j - 1,by omega⟩
  obtain⟨x,hx⟩:=B7 (l:=a) (i:=i) (by omega);have hix:(a.map Aa)[(((i+1:Nat):Int) - 1).toNat]? =some (Aa x):=by
   rw[show(((i+1:Nat):Int) - 1).toNat=i by omega];exact Ao hx
  repeat((conv=>whnf);refine⟨Aa x,fun _=>⟨by omega,hix⟩,?_⟩)
  refine⟨(x,b),by refine C2f ?_;simp[rdI],fun _=>hb,?_⟩;skip
  (conv=>whnf);refine⟨fun h3=>?_,fun h3=>?_⟩
  ·have h3:Iz x b=true:=h3
   have hg:Ld x=⟨if x.kind==2 then 7 else 6,x.path,[],0,[],0⟩:=rfl;skip
   (conv=>whnf);refine⟨fun h4=>?_,fun h4=>?_⟩
   ·have h4:(x.kind==2)=true:=h4
    repeat((conv=>whnf);first|refine⟨_,w64 (bb),?_⟩|refine⟨bb,?_⟩|refine⟨Ls (by rfl),?_⟩)
    refine Bt i ?_ (by show i≤a.length;omega) (by first|omega|(simp;done)|(simp;omega));rw[X5 hx,X9 h3,hg,if_pos h4]
    (refine⟨?_,?_,rfl⟩<;>repeat' (first|exact rfl|exact trivial|refine⟨?_,?_⟩|fail)<;>(conv=>whnf))
    all_goals simp[Ai]
   ·have h4:(x.kind==2)=false:=h4
    repeat((conv=>whnf);first|refine⟨_,w64 (bb),?_⟩|refine⟨bb,?_⟩|refine⟨Ls (by rfl),?_⟩)
    refine Bt i ?_ (by show i≤a.length;omega) (by first|omega|(simp;done)|(simp;omega));rw[X5 hx,X9 h3,hg,if_neg (by rw[h4];exact Bool.false_ne_true)]
    (refine⟨?_,?_,rfl⟩<;>repeat' (first|exact rfl|exact trivial|refine⟨?_,?_⟩|fail)<;>(conv=>whnf))
    all_goals simp[Ai]
  ·have h3:Iz x b=false:=h3
   repeat((conv=>whnf);refine⟨_,w64 (bb),?_⟩)
   refine Bt i ?_ (by show i≤a.length;omega) (by first|omega|(simp;done)|(simp;omega));rw[X5 hx,A62 h3]
   (refine⟨?_,?_,rfl⟩<;>repeat' (first|exact rfl|exact trivial|refine⟨?_,?_⟩|fail)<;>(conv=>whnf))
   omega
 ·have h2:j=0:=by simp at h2;omega
  subst h2;skip;refine B2 (fun i:Nat=>⟨[(2,⟨none,.bx 0 0⟩),(3,⟨none,.bx 1 0⟩),(5,⟨none,.view 2 [] 0 ((Fm a b (back a 0)++(b.take i).flatMap (Fl a b)).map Ai).length⟩),(9,⟨none,.int .i64 i⟩)],[(2,.own 6 ((Fm a b (back a 0)++(b.take i).flatMap (Fl a b)).map Ai)),(1,.own 1 [[.rd 4 (b.map Aa)]]),(0,.own 1 [[.rd 4 (a.map Aa)]])],3⟩)
   (fun i=>i≤b.length) (fun i=>b.length - i) 0 ?_ (by omega) ?_
  ·(refine⟨?_,?_,rfl⟩<;>repeat' (first|exact rfl|exact trivial|refine⟨?_,?_⟩|fail)<;>(conv=>whnf))
   all_goals simp
  intro i hi;have hi:i≤b.length:=hi;have hlen2:((b.take i).flatMap (Fl a b)).length≤80:=by
   have:=Yr (A5k a b) (b.take i);have h3:(b.take i).length≤b.length:=by simp;omega
   omega
  have hlen3:(Fm a b (back a 0)++(b.take i).flatMap (Fl a b)).length≤120:=by rw[List.length_append];omega
  have hd:Ft a b=Fm a b (back a 0)++b.flatMap (Fl a b):=hd;generalize hout:Fm a b (back a 0)++(b.take i).flatMap (Fl a b)=out at hlen3⊢;have hnext:∀{y:It},b[i]? =some y→Fm a b (back a 0)++(b.take (i+1)).flatMap (Fl a b)=out++Fl a b y:=fun hy=>by
   rw[B33 hy,←List.append_assoc,hout]
  (conv=>whnf);refine⟨fun h2=>?_,fun h2=>?_⟩
  ·have h2:i<b.length:=by simpa using h2
   obtain⟨y,hy⟩:=B7 h2;repeat((conv=>whnf);refine⟨Aa y,fun _=>⟨by omega,Ao hy⟩,?_⟩)
   refine⟨(a,y.path),rfl,fun _=>ha,?_⟩;repeat((conv=>whnf);refine⟨fun h=>h,?_⟩)
   refine⟨((Aj a y.path).getD It.none,b),by refine C2f ?_;simp[rdI],fun _=>hb,?_⟩;repeat((conv=>whnf);refine⟨fun h=>h,?_⟩)
   (conv=>whnf);refine⟨fun h3=>?_,fun h3=>?_⟩
   ·have h3:(!(Aj a y.path).isSome||Iz ((Aj a y.path).getD It.none) b)=true:=h3
    have hst:Fl a b y=[Lv y]:=by rw[Fl,if_pos h3]
    skip;refine⟨y,rfl,fun _=>trivial,?_⟩;repeat((conv=>whnf);first|refine⟨_,w64 (bb),?_⟩|refine⟨bb,?_⟩|refine⟨Ls (by rfl),?_⟩)
    refine Bt (i+1) ?_ h2 (by first|omega|(simp;done)|(simp;omega));rw[hnext hy,hst]
    (refine⟨?_,?_,rfl⟩<;>repeat' (first|exact rfl|exact trivial|refine⟨?_,?_⟩|fail)<;>(conv=>whnf))
    all_goals first|(simp[Ai];done)|(simp[Ai];rw[List.take_of_length_le (by simp)];simp)
   have h3:(!(Aj a y.path).isSome||Iz ((Aj a y.path).getD It.none) b)=false:=h3;skip
   (conv=>whnf);refine⟨fun h4=>?_,fun h4=>?_⟩
   ·have h4:(!(((Aj a y.path).getD It.none).data==y.data))=true:=h4
    have hst:Fl a b y=[⟨3,y.path,[],0,y.data,y.time⟩,⟨4,y.path,[],y.data.length,[],y.time⟩]:=by rw[Fl,if_neg (by rw[h3];exact Bool.false_ne_true),if_pos h4]
    repeat((conv=>whnf);first|refine⟨_,w64 (bb),?_⟩|refine⟨bb,?_⟩|refine⟨Ls (by rfl),?_⟩)
    refine Bt (i+1) ?_ h2 (by first|omega|(simp;done)|(simp;omega));rw[hnext hy,hst]
    (refine⟨?_,?_,rfl⟩<;>repeat' (first|exact rfl|exact trivial|refine⟨?_,?_⟩|fail)<;>(conv=>whnf))
    all_goals first|(simp[Ai];done)|(simp[Ai];rw[List.take_of_length_le (by simp)];simp)
   have h4:(!(((Aj a y.path).getD It.none).data==y.data))=false:=h4;skip
   (conv=>whnf);refine⟨fun h5=>?_,fun h5=>?_⟩
   ·have h5:(((Aj a y.path).getD It.none).time !=y.time)=true:=h5
    have hst:Fl a b y=[⟨5,y.path,[],0,[],y.time⟩]:=by rw[Fl,if_neg (by rw[h3];exact Bool.false_ne_true),if_neg (by rw[h4];exact Bool.false_ne_true),if_pos h5]
    repeat((conv=>whnf);first|refine⟨_,w64 (bb),?_⟩|refine⟨bb,?_⟩|refine⟨Ls (by rfl),?_⟩)
    refine Bt (i+1) ?_ h2 (by first|omega|(simp;done)|(simp;omega));rw[hnext hy,hst]
    (refine⟨?_,?_,rfl⟩<;>repeat' (first|exact rfl|exact trivial|refine⟨?_,?_⟩|fail)<;>(conv=>whnf))
    all_goals first|(simp[Ai];done)|(simp[Ai];rw[List.take_of_length_le (by simp)];simp)
   ·have h5:(((Aj a y.path).getD It.none).time !=y.time)=false:=h5
    have hst:Fl a b y=[]:=by rw[Fl,if_neg (by rw[h3];exact Bool.false_ne_true),if_neg (by rw[h4];exact Bool.false_ne_true),if_neg (by rw[h5];exact Bool.false_ne_true)]
    repeat((conv=>whnf);refine⟨_,w64 (bb),?_⟩)
    refine Bt (i+1) ?_ h2 (by first|omega|(simp;done)|(simp;omega));rw[hnext hy,hst]
    (refine⟨?_,?_,rfl⟩<;>repeat' (first|exact rfl|exact trivial|refine⟨?_,?_⟩|fail)<;>(conv=>whnf))
    all_goals first|(simp[Ai];done)|(simp[Ai];rw[List.take_of_length_le (by simp)];simp)
  ·have h2:i=b.length:=by
    have:¬i<b.length:=by simpa using h2
    omega
   subst h2;rw[List.take_length]at hout;skip;exact⟨trivial,P1 (by show _=(Ft a b).map Ai;rw[hd,hout];simp)⟩
theorem A99:Au Tryz.prog 36 Ic:=Al (Bx _ _) (FOk.cons Nt (FOk.cons Fj (FOk.cons A3q (FOk.cons A86 FOk.nil)))) mixed Tryz.func36 rfl Tryz.call36 (by decide) (by kernel_rfl) B5u (by intro _ (y:(Tr×Tr)) _;exact⟨by simp[Ic,con,A9,A8,AV.noRd,A7,Ab,A5,A6,Aa,Ai],by simp[Ic,con,A9,A8,AV.noRd,A7,Ab,A5,A6,Aa,Ai]⟩) (by intro(y:(Tr×Tr)) _;first|(simp[Ic,con,A9,A8,Ad,AV.free,A2,A3,A1,A6,rdT,Aa,Ai];done)|(obtain⟨_,_⟩:=y;simp[Ic,con,A9,A8,Ad,AV.free,A2,A3,A1,A6,rdT,Aa,Ai];done)|(obtain⟨_,_,_⟩:=y;simp[Ic,con,A9,A8,Ad,AV.free,A2,A3,A1,A6,rdT,Aa,Ai];done))
def H7:Bd:=con [mS 4,mS 4] false (Tr×Tr) (fun⟨a,b⟩=>[rdT a,rdT b]) (fun x=>smT x.1∧smT x.2) (fun x=>.own 6 ((Ft x.1 x.2).map Ai))
def B4h:Env:=⟨A4 B5,A4 [(32,H4),(47,E0),(71,Hn),(72,He)],[0,1,2,3,4,5,6,7,8,10,11,19,26,37,40,49,50,51,52,59,76,109]⟩
theorem B5x:B6 B4h (Av Tryz.f35) Tryz.f35.results.toList H7:=by
 rintro⟨a,b⟩ hs;obtain⟨ha,hb⟩:smT a∧smT b:=hs;refine⟨trivial,?_⟩;skip;refine⟨a,rfl,fun _=>ha,?_⟩;repeat((conv=>whnf);refine⟨fun h=>h,?_⟩)
 refine⟨b,rfl,fun _=>hb,?_⟩;repeat((conv=>whnf);refine⟨fun h=>h,?_⟩)
 (conv=>whnf);refine⟨fun h1=>?_,fun h1=>?_⟩
 ·have h1:(!Ar a|| !Ar b)=true:=h1
  skip;have h0:Ft a b=[]:=by unfold Ft;revert h1;cases Ar a<;>cases Ar b<;>simp
  exact⟨trivial,C2i (by show(Ft a b).map Ai=_;rw[h0];rfl)⟩
 have h1:(!Ar a|| !Ar b)=false:=h1;have oa:Ar a=true:=by revert h1;cases Ar a<;>simp
 have ob:Ar b=true:=by revert h1;cases Ar b<;>simp
 have la:=Fp oa;have lb:=Fp ob;have hd:Ft a b=Fm a b (back a 0)++b.flatMap (Fl a b):=by simp[Ft,oa,ob,back]
 repeat((conv=>whnf);refine⟨_,w64 (bb),?_⟩)
 refine B2 (fun j:Nat=>⟨[(2,⟨none,.bx 0 0⟩),(3,⟨none,.bx 1 0⟩),(5,⟨none,.view 2 [] 0 ((Fm a b (back a j)).map Ai).length⟩),(6,⟨none,.int .i64 (j - 1)⟩)],[(2,.own 6 ((Fm a b (back a j)).map Ai)),(1,.own 1 [[.rd 4 (b.map Aa)]]),(0,.own 1 [[.rd 4 (a.map Aa)]])],3⟩)
  (fun j=>j≤a.length) (fun j=>j) a.length ?_ (by omega) ?_
 ·(refine⟨?_,?_,rfl⟩<;>repeat' (first|exact rfl|exact trivial|refine⟨?_,?_⟩|fail)<;>(conv=>whnf))
  all_goals simp[back,Fm]
 intro j hj;have hj:j≤a.length:=hj;have hlen:(Fm a b (back a j)).length≤40:=by
  have:=A1k (a:=a) (b:=b) (l:=back a j);have h2:(back a j).length=a.length - j:=by simp[back]
  omega
 (conv=>whnf);refine⟨fun h2=>?_,fun h2=>?_⟩
 ·have h2:1≤j:=by simp at h2;omega
  obtain⟨i,rfl⟩:∃i,j=i+1:=⟨j - 1,by omega⟩
  obtain⟨x,hx⟩:=B7 (l:=a) (i:=i) (by omega);have hix:(a.map Aa)[(((i+1:Nat):Int) - 1).toNat]? =some (Aa x):=by
   rw[show(((i+1:Nat):Int) - 1).toNat=i by omega];exact Ao hx
  repeat((conv=>whnf);refine⟨Aa x,fun _=>⟨by omega,hix⟩,?_⟩)
  refine⟨(x,b),by refine C2f ?_;simp[rdI],fun _=>hb,?_⟩;skip;have hxa:x∈a:=List.mem_of_getElem? hx
  (conv=>whnf);refine⟨fun h3=>?_,fun h3=>?_⟩
  ·have h3:Iz x b=false:=by
    have h3:(!Oe x (b.find? fun z=>z.path==x.path))=true:=h3;rw[A1y oa hxa]at h3;simpa using h3
   repeat((conv=>whnf);refine⟨_,w64 (bb),?_⟩)
   refine Bt i ?_ (by show i≤a.length;omega) (by first|omega|(simp;done)|(simp;omega));rw[X5 hx,A62 h3]
   (refine⟨?_,?_,rfl⟩<;>repeat' (first|exact rfl|exact trivial|refine⟨?_,?_⟩|fail)<;>(conv=>whnf))
   omega
  ·have h3:Iz x b=true:=by
    have h3:(!Oe x (b.find? fun z=>z.path==x.path))=false:=h3;rw[A1y oa hxa]at h3;simpa using h3
   have hg:Ld x=⟨if x.kind==2 then 7 else 6,x.path,[],0,[],0⟩:=rfl;skip
   (conv=>whnf);refine⟨fun h4=>?_,fun h4=>?_⟩
   ·have h4:(x.kind==2)=true:=h4
    repeat((conv=>whnf);first|refine⟨_,w64 (bb),?_⟩|refine⟨bb,?_⟩|refine⟨Ls (by rfl),?_⟩)
    refine Bt i ?_ (by show i≤a.length;omega) (by first|omega|(simp;done)|(simp;omega));rw[X5 hx,X9 h3,hg,if_pos h4]
    (refine⟨?_,?_,rfl⟩<;>repeat' (first|exact rfl|exact trivial|refine⟨?_,?_⟩|fail)<;>(conv=>whnf))
    all_goals simp[Ai]
   ·have h4:(x.kind==2)=false:=h4
    repeat((conv=>whnf);first|refine⟨_,w64 (bb),?_⟩|refine⟨bb,?_⟩|refine⟨Ls (by rfl),?_⟩)
    refine Bt i ?_ (by show i≤a.length;omega) (by first|omega|(simp;done)|(simp;omega));rw[X5 hx,X9 h3,hg,if_neg (by rw[h4];exact Bool.false_ne_true)]
    (refine⟨?_,?_,rfl⟩<;>repeat' (first|exact rfl|exact trivial|refine⟨?_,?_⟩|fail)<;>(conv=>whnf))
    all_goals simp[Ai]
 ·have h2:j=0:=by simp at h2;omega
  subst h2;skip;refine B2 (fun i:Nat=>⟨[(2,⟨none,.bx 0 0⟩),(3,⟨none,.bx 1 0⟩),(5,⟨none,.view 2 [] 0 ((Fm a b (back a 0)++(b.take i).flatMap (Fl a b)).map Ai).length⟩),(49,⟨none,.rd 4 (b.map Aa)⟩),(50,⟨none,.int .i64 b.length⟩),(51,⟨none,.int .i64 i⟩)],[(2,.own 6 ((Fm a b (back a 0)++(b.take i).flatMap (Fl a b)).map Ai)),(1,.own 1 [[.rd 4 (b.map Aa)]]),(0,.own 1 [[.rd 4 (a.map Aa)]])],3⟩)
   (fun i=>i≤b.length) (fun i=>b.length - i) 0 ?_ (by omega) ?_
  ·(refine⟨?_,?_,rfl⟩<;>repeat' (first|exact rfl|exact trivial|refine⟨?_,?_⟩|fail)<;>(conv=>whnf))
   all_goals simp
  intro i hi;have hi:i≤b.length:=hi;have hlen2:((b.take i).flatMap (Fl a b)).length≤80:=by
   have:=Yr (A5k a b) (b.take i);have h3:(b.take i).length≤b.length:=by simp;omega
   omega
  have hlen3:(Fm a b (back a 0)++(b.take i).flatMap (Fl a b)).length≤120:=by rw[List.length_append];omega
  have hd:Ft a b=Fm a b (back a 0)++b.flatMap (Fl a b):=hd;generalize hout:Fm a b (back a 0)++(b.take i).flatMap (Fl a b)=out at hlen3⊢;have hnext:∀{y:It},b[i]? =some y→Fm a b (back a 0)++(b.take (i+1)).flatMap (Fl a b)=out++Fl a b y:=fun hy=>by
   rw[B33 hy,←List.append_assoc,hout]
  (conv=>whnf);refine⟨fun h2=>?_,fun h2=>?_⟩
  ·have h2:i<b.length:=by simpa using h2
   obtain⟨y,hy⟩:=B7 h2;have hyb:y∈b:=List.mem_of_getElem? hy;repeat((conv=>whnf);refine⟨Aa y,fun _=>⟨by omega,Ao hy⟩,?_⟩)
   refine⟨(a,y.path),rfl,fun _=>ha,?_⟩;obtain⟨X,hX⟩:∃X,(Aj a y.path).getD It.none=X:=⟨_,rfl⟩
   have hst0:Fl a b y=if !(Aj a y.path).isSome||Iz X b then[Lv y]else if !(X.data==y.data)then[⟨3,y.path,[],0,y.data,y.time⟩,⟨4,y.path,[],y.data.length,[],y.time⟩]else if X.time !=y.time then[⟨5,y.path,[],0,[],y.time⟩]else[]:=by rw[←hX];rfl
   have hat:=C7k (a:=a) ob hyb;have hget:∀{g:Bool},Cy (some g)→(g=true→¬fnd (fun z=>z.path==y.path) a<0)→0≤fnd (fun z=>z.path==y.path) a∧(a.map Aa)[(fnd (fun z=>z.path==y.path) a).toNat]? =some (Aa X):=by
    intro g h1 h2;rcases hat with⟨_,h3⟩|⟨x,h3,_,_,h4,h5⟩
    ·have:=h2 h1;omega
    ·rw[h3]at hX
     exact⟨h4,by rw[show X=x from hX.symm];exact Ao h5⟩
   repeat((conv=>whnf);refine⟨fun h=>h,?_⟩)
   conv=>whnf
   refine⟨Aa X,fun h=>hget h (by simp),?_⟩;repeat((conv=>whnf);refine⟨fun h=>h,?_⟩)
   conv=>whnf
   refine⟨(X,b),by refine C2f ?_;simp[rdI],fun _=>hb,?_⟩;repeat((conv=>whnf);first|refine⟨fun h=>h,?_⟩|refine⟨(by kernel_rfl:Bu _ _=true),?_⟩)
   have he3:(decide (fnd (fun z=>z.path==y.path) a<0)||Oe X (b.find? fun z=>z.path==X.path))=(!(Aj a y.path).isSome||Iz X b):=by
    rcases hat with⟨h4,h5⟩|⟨x,h4,h5,_,h6,_⟩
    ·rw[h4,h5];rfl
    ·rw[h4]at hX
     have:X=x:=hX.symm;subst this;rw[A1y oa h5,h4,decide_eq_false (by omega)];rfl
   (conv=>whnf);refine⟨fun h3=>?_,fun h3=>?_⟩
   ·have h3:(!(Aj a y.path).isSome||Iz X b)=true:=he3▸h3
    have hst:Fl a b y=[Lv y]:=by rw[hst0,if_pos h3]
    skip;refine⟨y,rfl,fun _=>trivial,?_⟩;repeat((conv=>whnf);first|refine⟨_,w64 (bb),?_⟩|refine⟨bb,?_⟩|refine⟨Ls (by rfl),?_⟩)
    refine Bt (i+1) ?_ h2 (by first|omega|(simp;done)|(simp;omega));rw[hnext hy,hst]
    (refine⟨?_,?_,rfl⟩<;>repeat' (first|exact rfl|exact trivial|refine⟨?_,?_⟩|fail)<;>(conv=>whnf))
    all_goals first|(simp[Ai];done)|(simp[Ai];rw[List.take_of_length_le (by simp)];simp)
   have h3:(!(Aj a y.path).isSome||Iz X b)=false:=he3▸h3;have hsome:Aj a y.path=some X∧X∈a∧X.path=y.path∧0≤fnd (fun z=>z.path==y.path) a∧a[(fnd (fun z=>z.path==y.path) a).toNat]? =some X:=by
    rcases hat with⟨h4,h5⟩|⟨x,h4,h5,h6,h7,h8⟩
    ·rw[h4]at h3;simp at h3
    ·rw[h4]at hX
     have:X=x:=hX.symm;subst this;exact⟨h4,h5,h6,h7,h8⟩
   obtain⟨s1,s2,s3,s4,s5⟩:=hsome;have hgo:Iz X b=false:=by revert h3;cases Iz X b<;>simp
   have hsd:=C3c oa ob s2 hyb s3 hgo;repeat((conv=>whnf);first|refine⟨fun h=>h,?_⟩|refine⟨(by kernel_rfl:Bu _ _=true),?_⟩|refine⟨Aa X,fun _=>⟨s4,Ao s5⟩,?_⟩)
   (conv=>whnf);refine⟨fun h4=>?_,fun h4=>?_⟩
   ·have h4:(!(X.data==y.data))=true:=hsd.trans h4
    have hst:Fl a b y=[⟨3,y.path,[],0,y.data,y.time⟩,⟨4,y.path,[],y.data.length,[],y.time⟩]:=by rw[hst0,if_neg (by rw[h3];exact Bool.false_ne_true),if_pos h4]
    repeat((conv=>whnf);first|refine⟨_,w64 (bb),?_⟩|refine⟨bb,?_⟩|refine⟨Ls (by rfl),?_⟩)
    refine Bt (i+1) ?_ h2 (by first|omega|(simp;done)|(simp;omega));rw[hnext hy,hst]
    (refine⟨?_,?_,rfl⟩<;>repeat' (first|exact rfl|exact trivial|refine⟨?_,?_⟩|fail)<;>(conv=>whnf))
    all_goals first|(simp[Ai];done)|(simp[Ai];rw[List.take_of_length_le (by simp)];simp)
   have h4:(!(X.data==y.data))=false:=hsd.trans h4;repeat((conv=>whnf);first|refine⟨(by kernel_rfl:Bu _ _=true),?_⟩|refine⟨Aa X,fun _=>⟨s4,Ao s5⟩,?_⟩)
   (conv=>whnf);refine⟨fun h5=>?_,fun h5=>?_⟩
   ·have h5:(X.time !=y.time)=true:=h5
    have hst:Fl a b y=[⟨5,y.path,[],0,[],y.time⟩]:=by rw[hst0,if_neg (by rw[h3];exact Bool.false_ne_true),if_neg (by rw[h4];exact Bool.false_ne_true),if_pos h5]
    repeat((conv=>whnf);first|refine⟨_,w64 (bb),?_⟩|refine⟨bb,?_⟩|refine⟨Ls (by rfl),?_⟩)
    refine Bt (i+1) ?_ h2 (by first|omega|(simp;done)|(simp;omega));rw[hnext hy,hst]
    (refine⟨?_,?_,rfl⟩<;>repeat' (first|exact rfl|exact trivial|refine⟨?_,?_⟩|fail)<;>(conv=>whnf))
    all_goals first|(simp[Ai];done)|(simp[Ai];rw[List.take_of_length_le (by simp)];simp)
   ·have h5:(X.time !=y.time)=false:=h5
    have hst:Fl a b y=[]:=by rw[hst0,if_neg (by rw[h3];exact Bool.false_ne_true),if_neg (by rw[h4];exact Bool.false_ne_true),if_neg (by rw[h5];exact Bool.false_ne_true)]
    repeat((conv=>whnf);refine⟨_,w64 (bb),?_⟩)
    refine Bt (i+1) ?_ h2 (by first|omega|(simp;done)|(simp;omega));rw[hnext hy,hst]
    (refine⟨?_,?_,rfl⟩<;>repeat' (first|exact rfl|exact trivial|refine⟨?_,?_⟩|fail)<;>(conv=>whnf))
    all_goals first|(simp[Ai];done)|(simp[Ai];rw[List.take_of_length_le (by simp)];simp)
  ·have h2:i=b.length:=by
    have:¬i<b.length:=by simpa using h2
    omega
   subst h2;rw[List.take_length]at hout;skip;exact⟨trivial,P1 (by show _=(Ft a b).map Ai;rw[hd,hout];simp)⟩
theorem Xy:Au Tryz.prog 35 H7:=Al (Bx _ _) (FOk.cons Wj (FOk.cons J1 (FOk.cons A44 (FOk.cons B6h FOk.nil)))) mixed Tryz.func35 rfl Tryz.call35 (by decide) (by kernel_rfl) B5x (by intro _ (y:(Tr×Tr)) _;exact⟨by simp[H7,con,A9,A8,AV.noRd,A7,Ab,A5,A6,Aa,Ai],by simp[H7,con,A9,A8,AV.noRd,A7,Ab,A5,A6,Aa,Ai]⟩) (by intro(y:(Tr×Tr)) _;first|(simp[H7,con,A9,A8,Ad,AV.free,A2,A3,A1,A6,rdT,Aa,Ai];done)|(obtain⟨_,_⟩:=y;simp[H7,con,A9,A8,Ad,AV.free,A2,A3,A1,A6,rdT,Aa,Ai];done)|(obtain⟨_,_,_⟩:=y;simp[H7,con,A9,A8,Ad,AV.free,A2,A3,A1,A6,rdT,Aa,Ai];done))
def Jl:Bd:=con [mS 4,mS 4] true (Tr×Tr) (fun⟨a,b⟩=>[rdT a,rdT b]) (fun x=>smT x.1∧smT x.2) (fun x=>.int .i64 (Ft x.1 x.2).length)
def B6b:Env:=⟨A4 B5,A4 [(35,H7)],[0,1,2,3,4]⟩
theorem B6e:B6 B6b (Av Tryz.f37) Tryz.f37.results.toList Jl:=by
 rintro⟨a,b⟩ hs;refine⟨trivial,?_⟩;skip;refine⟨(a,b),rfl,fun _=>hs,?_⟩;skip;exact⟨trivial,Mu (by simp)⟩
theorem B1a:Au Tryz.prog 37 Jl:=Al (Bx _ _) (FOk.cons Xy FOk.nil) mixed Tryz.func37 rfl Tryz.call37 (by decide) (by kernel_rfl) B6e (by intro _ (y:(Tr×Tr)) _;exact⟨by simp[Jl,con,A9,A8,AV.noRd,A7,Ab,A5,A6],by simp[Jl,con,A9,A8,AV.noRd,A7,Ab,A5,A6]⟩) (by intro(y:(Tr×Tr)) _;first|(simp[Jl,con,A9,A8,Ad,AV.free,A2,A3,A1,A6,rdT,Aa];done)|(obtain⟨_,_⟩:=y;simp[Jl,con,A9,A8,Ad,AV.free,A2,A3,A1,A6,rdT,Aa];done)|(obtain⟨_,_,_⟩:=y;simp[Jl,con,A9,A8,Ad,AV.free,A2,A3,A1,A6,rdT,Aa];done))
def Gl:Bd:=con [mC] true Str A6 (fun s=>sml s.length) (fun s=>.bool (El s))
def A3h:Env:=⟨A4 B5,A4 [(83,F5)],[0,2]⟩
theorem A3l:B6 A3h (Av Tryz.f106) Tryz.f106.results.toList Gl:=by
 intro(s:Str) hs;refine⟨trivial,?_⟩;conv=>whnf
 refine⟨s,rfl,fun _=>hs,?_⟩;repeat((conv=>whnf);refine⟨fun h=>h,?_⟩)
 exact⟨trivial,rfl⟩
theorem A27:Au Tryz.prog 106 Gl:=Al (Bx _ _) (FOk.cons Nn FOk.nil) mixed Tryz.func106 rfl Tryz.call106 (by decide) (by kernel_rfl) A3l (by intro _ (y:Str) _;exact⟨by simp[Gl,con,A9,A8,AV.noRd,A7,Ab,A5,A6,Aa,Ai],by simp[Gl,con,A9,A8,AV.noRd,A7,Ab,A5,A6,Aa,Ai]⟩) (by intro(y:Str) _;first|(simp[Gl,con,A9,A8,Ad,AV.free,A2,A3,A1,A6,Aa,Ai];done)|(obtain⟨_,_⟩:=y;simp[Gl,con,A9,A8,Ad,AV.free,A2,A3,A1,A6,Aa,Ai];done)|(obtain⟨_,_,_⟩:=y;simp[Gl,con,A9,A8,Ad,AV.free,A2,A3,A1,A6,Aa,Ai];done))
def Lm:Bd:=con [mC,mC] true (Str×Nat) (fun⟨p,n⟩=>[.str p,.int .i64 n]) (fun x=>x.1.length≤1∧x.2≤1000000) (fun x=>.str (Lib.repeatL x.1 x.2))
theorem Re:Au Tryz.prog 176 Lm:=by
 refine Ps rfl (fun _=>rfl) (fun _=>rfl) (fun _=>rfl) (fun⟨_,_⟩ _=>⟨trivial,trivial,trivial⟩) Tryz.call176 ?_;rintro⟨l,n⟩ hpre y w args ρ hw hR hsz hs;obtain⟨hp1,hp2⟩:l.length≤1∧n≤1000000:=hpre;have h0:=Hm (hs 0 _ rfl);have h1:=Gs (hs 1 _ rfl);have hsz:args.size=2:=hsz;have ha:args=#[.string (toB l),.int .i64 n]:=by
  apply Array.ext
  ·simp[hsz]
  ·intro i hi1 hi2
   have:i=0∨i=1:=by omega
   rcases this with rfl|rfl
   ·rw[Array.getD_eq_getD_getElem?,Array.getElem?_eq_getElem hi1]at h0;simpa[Dn,toB]using h0
   ·rw[Array.getD_eq_getD_getElem?,Array.getElem?_eq_getElem hi1]at h1;simpa using h1
 rw[ha];refine(Tryz.strings_Repeat (toB l) n w (by omega) ?_).mono ?_
 ·have:(toB l).size=l.length:=by show l.toArray.size=_;simp
  rw[this];have:=Nat.mul_le_mul hp1 hp2;omega
 ·rintro e w' ⟨rfl,hb⟩
  exact⟨rfl,hb⟩
def Lj:Bd:=con [mC,mC] true (Str×Int) (fun⟨s,n⟩=>[.str s,.int .i64 n]) (fun x=>x.1.length≤16777216) (fun x=>.str (Se x.1 x.2))
def C0e:Env:=⟨A4 B5,A4 [(91,Dx),(176,Lm)],[0,1,4,7,12]⟩
theorem C04:B6 C0e (Av Tryz.f141) Tryz.f141.results.toList Lj:=by
 rintro⟨s,n⟩ hs;have hs:s.length≤16777216:=hs;refine⟨trivial,?_⟩;conv=>whnf
 refine⟨(n,0,100000),rfl,fun _=>trivial,?_⟩
 (conv=>whnf);refine⟨fun h1=>?_,fun h1=>?_⟩
 ·have h1:(!inB n 0 100000)=true:=h1
  skip;exact⟨trivial,eqS (B60 (by simpa using h1)).symm⟩
 have h1:(!inB n 0 100000)=false:=h1;have hb:inB n 0 100000=true:=by simpa using h1
 have hb2:=On.1 hb;obtain⟨k,rfl⟩:∃k:Nat,n=k:=⟨n.toNat,by omega⟩
 (conv=>whnf);refine⟨fun h2=>?_,fun h2=>?_⟩
 ·have h2:s.length<k:=by simpa using h2
  repeat((conv=>whnf);refine⟨_,w64 (bb),?_⟩)
  refine⟨([0],k - s.length),by show[AV.str [0],AV.int .i64 ((k:Int) - s.length)]=[AV.str [0],AV.int .i64 ((k - s.length:Nat):Int)];rw[Int.ofNat_sub (by omega)],fun _=>⟨Nat.le_refl _,by show k - s.length≤_;omega⟩,?_⟩;rw[show Lm.res ([0],k - s.length)=.str (List.replicate (k - s.length) 0)from congrArg AV.str (Zv _)];repeat((conv=>whnf);refine⟨bb,?_⟩)
  exact⟨trivial,eqS (C4s hb (by omega)).symm⟩
 have h2:¬s.length<k:=by simpa using h2
 repeat((conv=>whnf);refine⟨fun _=>⟨bb,bb,bb⟩,?_⟩)
 exact⟨trivial,eqS (by show _=Se s k;rw[C6e hb (by omega)];simp)⟩
theorem B7q:Au Tryz.prog 141 Lj:=Al (Bx _ _) (FOk.cons Iy (FOk.cons Re FOk.nil)) mixed Tryz.func141 rfl Tryz.call141 (by decide) (by kernel_rfl) C04 (by intro _ (y:(Str×Int)) _;exact⟨by simp[Lj,con,A9,A8,AV.noRd,A7,Ab,A5,A6,Aa,Ai],by simp[Lj,con,A9,A8,AV.noRd,A7,Ab,A5,A6,Aa,Ai]⟩) (by intro(y:(Str×Int)) _;first|(simp[Lj,con,A9,A8,Ad,AV.free,A2,A3,A1,A6,Aa,Ai];done)|(obtain⟨_,_⟩:=y;simp[Lj,con,A9,A8,Ad,AV.free,A2,A3,A1,A6,Aa,Ai];done)|(obtain⟨_,_,_⟩:=y;simp[Lj,con,A9,A8,Ad,AV.free,A2,A3,A1,A6,Aa,Ai];done))
def Hi:Bd:=con [mC,mC,mC] true (Str×Int×Str) (fun⟨s,n,d⟩=>[.str s,.int .i64 n,.str d]) (fun x=>x.1.length≤16777216∧x.2.2.length≤16777216) (fun x=>.str (wrote x.1 x.2.1 x.2.2))
def A7t:Env:=⟨A4 B5,A4 [(91,Dx),(176,Lm)],[0,1,2,6,9,14]⟩
theorem A73:B6 A7t (Av Tryz.f140) Tryz.f140.results.toList Hi:=by
 rintro⟨s,n,d⟩ hs;obtain⟨hs,hd⟩:s.length≤16777216∧d.length≤16777216:=hs;refine⟨trivial,?_⟩;conv=>whnf
 refine⟨(n,0,100000),rfl,fun _=>trivial,?_⟩
 (conv=>whnf);refine⟨fun h1=>?_,fun h1=>?_⟩
 ·have h1:(!inB n 0 100000)=true:=h1
  skip;exact⟨trivial,eqS (A0p (by simpa using h1)).symm⟩
 have h1:(!inB n 0 100000)=false:=h1;have hb:inB n 0 100000=true:=by simpa using h1
 have hb2:=On.1 hb;obtain⟨k,rfl⟩:∃k:Nat,n=k:=⟨n.toNat,by omega⟩
 (conv=>whnf);refine⟨fun h2=>?_,fun h2=>?_⟩
 ·have h2:s.length<k:=by simpa using h2
  repeat((conv=>whnf);refine⟨_,w64 (bb),?_⟩)
  refine⟨([0],k - s.length),by show[AV.str [0],AV.int .i64 ((k:Int) - s.length)]=[AV.str [0],AV.int .i64 ((k - s.length:Nat):Int)];rw[Int.ofNat_sub (by omega)],fun _=>⟨Nat.le_refl _,by show k - s.length≤_;omega⟩,?_⟩;have hrl:(s++Lib.repeatL [(0:UInt8)] (k - s.length)).length=k:=by rw[Zv];simp;omega
  have hw:wrote s k d=s++List.replicate (k - s.length) 0++d:=A6r hb (by omega);have hA:s.length+(Lib.repeatL [(0:UInt8)] (k - s.length)).length≤9223372036854775807:=by rw[←List.length_append,hrl];omega
  have hB:(k:Int)≤((s++Lib.repeatL [(0:UInt8)] (k - s.length)).length:Nat):=by rw[hrl];exact Int.le_refl _
  repeat((conv=>whnf);first|refine⟨_,w64 (bb),?_⟩|refine⟨fun _=>⟨bb,bb,bb⟩,?_⟩|refine⟨bb,?_⟩)
  refine⟨(k:Int),(show(if(((s++Lib.repeatL [(0:UInt8)] (k - s.length)).length:Nat):Int)≤k+d.length then(((s++Lib.repeatL [(0:UInt8)] (k - s.length)).length:Nat):Int)else k+d.length)=(k:Int)from by rw[hrl];split<;>omega),?_⟩;repeat((conv=>whnf);first|refine⟨(by kernel_rfl:Bu _ _=true),?_⟩|refine⟨fun _=>⟨bb,bb,bb⟩,?_⟩|refine⟨bb,?_⟩)
  refine⟨trivial,eqS ?_⟩;rw[←Zv]at hw;show List.take ((k:Int).toNat - (0:Int).toNat) (List.drop (0:Int).toNat (s++Lib.repeatL [0] (k - s.length)))++d++List.take ((((s++Lib.repeatL [0] (k - s.length)).length:Nat):Int).toNat - (k:Int).toNat) (List.drop (k:Int).toNat (s++Lib.repeatL [0] (k - s.length)))=wrote s k d;rw[hw];generalize s++Lib.repeatL [0] (k - s.length)=q at hrl⊢;rw[Int.toNat_natCast,Int.toNat_natCast,hrl,List.drop_eq_nil_of_le (Nat.le_of_eq hrl),show(0:Int).toNat=0 from rfl,List.drop_zero,Nat.sub_zero,List.take_of_length_le (Nat.le_of_eq hrl),List.take_nil,List.append_nil]
 have h2:¬s.length<k:=by simpa using h2
 repeat((conv=>whnf);first|refine⟨_,w64 (bb),?_⟩|refine⟨fun _=>⟨bb,bb,bb⟩,?_⟩|refine⟨bb,?_⟩)
 refine⟨((min s.length (k+d.length):Nat):Int),(show(if((s.length:Nat):Int)≤k+d.length then((s.length:Nat):Int)else k+d.length)=((min s.length (k+d.length):Nat):Int)from by split<;>omega),?_⟩;repeat((conv=>whnf);first|refine⟨(by kernel_rfl:Bu _ _=true),?_⟩|refine⟨fun _=>⟨bb,bb,bb⟩,?_⟩|refine⟨bb,?_⟩)
 refine⟨trivial,eqS ?_⟩;show _=wrote s k d;rw[Zq hb (by omega)];show List.take ((k:Int).toNat - (0:Int).toNat) (List.drop (0:Int).toNat s)++d++List.take (((s.length:Nat):Int).toNat - ((min s.length (k+d.length):Nat):Int).toNat) (List.drop ((min s.length (k+d.length):Nat):Int).toNat s)=_;rw[Int.toNat_natCast,Int.toNat_natCast,Int.toNat_natCast,show(0:Int).toNat=0 from rfl,List.drop_zero,Nat.sub_zero,List.take_of_length_le (l:=List.drop _ s) (by simp)];rcases Nat.le_total s.length (k+d.length)with h|h
 ·rw[Nat.min_eq_left h,List.drop_eq_nil_of_le (Nat.le_refl _),List.drop_eq_nil_of_le h]
 ·rw[Nat.min_eq_right h]
theorem A3j:Au Tryz.prog 140 Hi:=Al (Bx _ _) (FOk.cons Iy (FOk.cons Re FOk.nil)) mixed Tryz.func140 rfl Tryz.call140 (by decide) (by kernel_rfl) A73 (by intro _ (y:(Str×Int×Str)) _;exact⟨by simp[Hi,con,A9,A8,AV.noRd,A7,Ab,A5,A6,Aa,Ai],by simp[Hi,con,A9,A8,AV.noRd,A7,Ab,A5,A6,Aa,Ai]⟩) (by intro(y:(Str×Int×Str)) _;first|(simp[Hi,con,A9,A8,Ad,AV.free,A2,A3,A1,A6,Aa,Ai];done)|(obtain⟨_,_⟩:=y;simp[Hi,con,A9,A8,Ad,AV.free,A2,A3,A1,A6,Aa,Ai];done)|(obtain⟨_,_,_⟩:=y;simp[Hi,con,A9,A8,Ad,AV.free,A2,A3,A1,A6,Aa,Ai];done))
def Jm:Bd:=con [mS 4,mC] true (Tr×Str) (fun x=>[rdT x.1,.str x.2]) (fun x=>smT x.1∧x.2.length≤4194304∧El x.2=false) (fun x=>.int .i64 (Mq x.1 x.2))
def B73:Env:=⟨A4 B5,A4 [(11,F6),(47,E0),(48,Hc)],[0,1,2,4,5,6,14,17,21]⟩
theorem B8z:B6 B73 (Av Tryz.f139) Tryz.f139.results.toList Jm:=by
 rintro⟨t,p⟩ hs;obtain⟨hs1,hs2,hs3⟩:smT t∧p.length≤4194304∧El p=false:=hs;have hg:=Zw (t:=t) hs3;refine⟨trivial,?_⟩;skip;refine⟨p,rfl,fun _=>hs2,?_⟩;skip;refine⟨(t,Bl p),rfl,fun _=>hs1,?_⟩;repeat((conv=>whnf);refine⟨(by kernel_rfl:Bu _ _=true),?_⟩)
 (conv=>whnf);refine⟨fun h1=>?_,fun h1=>?_⟩
 ·have h1:(!(Aj t (Bl p)).isSome)=true:=h1
  have hd:Jq t (Bl p)=2:=by unfold Jq;cases h:Aj t (Bl p)with|none=>rfl|some x=>simp[h]at h1
  skip;exact⟨trivial,Mu (by show _=if Jq t (Bl p)!=0 then Jq t (Bl p)else _;rw[hd];rfl)⟩
 have h1:(!(Aj t (Bl p)).isSome)=false:=h1;skip
 (conv=>whnf);refine⟨fun h2=>?_,fun h2=>?_⟩
 ·have h2:(((Aj t (Bl p)).getD It.none).kind !=2)=true:=h2
  have hd:Jq t (Bl p)=4:=by unfold Jq;cases h:Aj t (Bl p)with|none=>simp[h]at h1|some x=>simp[h]at h2;simp[h2]
  skip;exact⟨trivial,Mu (by show _=if Jq t (Bl p)!=0 then Jq t (Bl p)else _;rw[hd];rfl)⟩
 have h2:(((Aj t (Bl p)).getD It.none).kind !=2)=false:=h2;have hd:Jq t (Bl p)=0:=by unfold Jq;cases h:Aj t (Bl p)with|none=>simp[h]at h1|some x=>simp[h]at h2;simp[h2]
 skip;refine⟨(t,p),rfl,fun _=>hs1,?_⟩;skip
 (conv=>whnf);refine⟨fun h3=>?_,fun h3=>?_⟩
 ·have h3:decide (fnd (fun y=>y.path==p) t≥0)=true:=h3
  skip;exact⟨trivial,Mu (by show _=if Jq t (Bl p)!=0 then Jq t (Bl p)else if(Aj t p).isSome then 3 else 0;rw[hd,hg,h3];rfl)⟩
 have h3:decide (fnd (fun y=>y.path==p) t≥0)=false:=h3;skip;exact⟨trivial,Mu (by show _=if Jq t (Bl p)!=0 then Jq t (Bl p)else if(Aj t p).isSome then 3 else 0;rw[hd,hg,h3];rfl)⟩
theorem Z0:Au Tryz.prog 139 Jm:=Al (Bx _ _) (FOk.cons Uc (FOk.cons J1 (FOk.cons Sf FOk.nil))) mixed Tryz.func139 rfl Tryz.call139 (by decide) (by kernel_rfl) B8z (by intro _ (y:(Tr×Str)) _;exact⟨by simp[Jm,con,A9,A8,AV.noRd,A7,Ab,A5,A6,Aa,Ai],by simp[Jm,con,A9,A8,AV.noRd,A7,Ab,A5,A6,Aa,Ai]⟩) (by intro(y:(Tr×Str)) _;first|(simp[Jm,con,A9,A8,Ad,AV.free,A2,A3,A1,A6,rdT,Aa,Ai];done)|(obtain⟨_,_⟩:=y;simp[Jm,con,A9,A8,Ad,AV.free,A2,A3,A1,A6,rdT,Aa,Ai];done)|(obtain⟨_,_,_⟩:=y;simp[Jm,con,A9,A8,Ad,AV.free,A2,A3,A1,A6,rdT,Aa,Ai];done))
def Cl:Bd:=con [mS 4,mC] true (Tr×OpR) (fun x=>[.rd 4 (x.1.map Aa),.fn 143 [.pin (Ai x.2)]]) (fun x=>smT x.1) (fun x=>.bool (x.1.any fun y=>Bl y.path==x.2.path))
def Qf:Env:=⟨A4 B5,A4 [(87,Co),(143,Eg)],[0,1,4]⟩
theorem Qt:B6 Qf (Av Tryz.f142) Tryz.f142.results.toList Cl:=by
 rintro⟨t,o⟩ hs;have hs:smT t:=hs;refine⟨trivial,?_⟩;skip;refine⟨(t,.inr o),rfl,fun _=>hs,?_⟩;skip;exact⟨trivial,eqB (Pv (p:=atP (.inr o)) (l:=t))⟩
theorem Po:Au Tryz.prog 142 Cl:=Al (Bx _ _) (FOk.cons M7 (FOk.cons Qc FOk.nil)) mixed Tryz.func142 rfl Tryz.call142 (by decide) (by kernel_rfl) Qt (by intro _ (y:(Tr×OpR)) _;exact⟨by simp[Cl,con,A9,A8,AV.noRd,A7,Ab,A5,A6,Aa,Ai],by simp[Cl,con,A9,A8,AV.noRd,A7,Ab,A5,A6,Aa,Ai]⟩) (by intro(y:(Tr×OpR)) _;first|(simp[Cl,con,A9,A8,Ad,AV.free,A2,A3,A1,A6,Aa,Ai];done)|(obtain⟨_,_⟩:=y;simp[Cl,con,A9,A8,Ad,AV.free,A2,A3,A1,A6,Aa,Ai];done)|(obtain⟨_,_,_⟩:=y;simp[Cl,con,A9,A8,Ad,AV.free,A2,A3,A1,A6,Aa,Ai];done))
end Go.GH
namespace Go.Proofs
open Go.Shelf
def Tryz.sortItem_ren:Go.Shelf.Ren:=⟨fun|6=>66|15=>114|14=>113|28=>155|29=>156|20=>147|21=>148|22=>149|23=>150|24=>151|25=>152|26=>153|27=>154|46=>178|47=>179|48=>180|49=>181|50=>182|57=>199|n=>n,fun|22=>24|24=>32|25=>92|3=>3|39=>124|0=>0|53=>165|55=>167|4=>4|46=>158|45=>157|50=>162|5=>5|9=>9|66=>190|70=>194|76=>213|77=>214|n=>n,fun|n=>n⟩
theorem Tryz.sortItem:Go.Proofs.SlLaysF0.n6 Tryz.prog Tryz.sortItem_ren:={
 mixed:=by kernel_rfl
 f6:=⟨Tryz.f66.name,by decide,Tryz.func66.trans (congrArg some (by kernel_rfl))⟩
 f14:=⟨Tryz.f113.name,by decide,Tryz.func113.trans (congrArg some (by kernel_rfl))⟩
 f15:=Tryz.func114.trans (congrArg some (by kernel_rfl))
 f20:=⟨Tryz.f147.name,by decide,Tryz.func147.trans (congrArg some (by kernel_rfl))⟩
 f21:=⟨Tryz.f148.name,by decide,Tryz.func148.trans (congrArg some (by kernel_rfl))⟩
 f22:=⟨Tryz.f149.name,by decide,Tryz.func149.trans (congrArg some (by kernel_rfl))⟩
 f23:=⟨Tryz.f150.name,by decide,Tryz.func150.trans (congrArg some (by kernel_rfl))⟩
 f24:=⟨Tryz.f151.name,by decide,Tryz.func151.trans (congrArg some (by kernel_rfl))⟩
 f25:=⟨Tryz.f152.name,by decide,Tryz.func152.trans (congrArg some (by kernel_rfl))⟩
 f26:=⟨Tryz.f153.name,by decide,Tryz.func153.trans (congrArg some (by kernel_rfl))⟩
 f27:=⟨Tryz.f154.name,by decide,Tryz.func154.trans (congrArg some (by kernel_rfl))⟩
 f28:=Tryz.func155.trans (congrArg some (by kernel_rfl))
 f29:=Tryz.func156.trans (congrArg some (by kernel_rfl))
 f46:=⟨Tryz.f178.name,by decide,Tryz.func178.trans (congrArg some (by kernel_rfl))⟩
 f47:=Tryz.func179.trans (congrArg some (by kernel_rfl))
 f48:=Tryz.func180.trans (congrArg some (by kernel_rfl))
 f49:=⟨Tryz.f181.name,by decide,Tryz.func181.trans (congrArg some (by kernel_rfl))⟩
 f50:=⟨Tryz.f182.name,by decide,Tryz.func182.trans (congrArg some (by kernel_rfl))⟩
 f57:=⟨Tryz.f199.name,by decide,Tryz.func199.trans (congrArg some (by kernel_rfl))⟩
 t0:=Tryz.underlying0
 a0:=Tryz.isAgg0
 z0:=Tryz.sizeOf0
 v0:=Tryz.zeroValue0
 t3:=Tryz.underlying3
 a3:=Tryz.isAgg3
 z3:=Tryz.sizeOf3
 v3:=Tryz.zeroValue3
 t4:=Tryz.underlying4
 a4:=Tryz.isAgg4
 z4:=Tryz.sizeOf4
 v4:=Tryz.zeroValue4
 t5:=Tryz.underlying5
 a5:=Tryz.isAgg5
 z5:=Tryz.sizeOf5
 v5:=Tryz.zeroValue5
 t9:=Tryz.underlying9
 a9:=Tryz.isAgg9
 z9:=Tryz.sizeOf9
 v9:=Tryz.zeroValue9
 t22:=Tryz.underlying24
 a22:=Tryz.isAgg24
 z22:=Tryz.sizeOf24
 v22:=Tryz.zeroValue24
 t25:=Tryz.underlying92
 a25:=Tryz.isAgg92
 z25:=Tryz.sizeOf92
 v25:=Tryz.zeroValue92
 t39:=Tryz.underlying124
 a39:=Tryz.isAgg124
 z39:=Tryz.sizeOf124
 v39:=Tryz.zeroValue124
 t45:=Tryz.underlying157
 a45:=Tryz.isAgg157
 z45:=Tryz.sizeOf157
 v45:=Tryz.zeroValue157
 t46:=Tryz.underlying158
 a46:=Tryz.isAgg158
 z46:=Tryz.sizeOf158
 v46:=Tryz.zeroValue158
 t50:=Tryz.underlying162
 a50:=Tryz.isAgg162
 z50:=Tryz.sizeOf162
 v50:=Tryz.zeroValue162
 t53:=Tryz.underlying165
 a53:=Tryz.isAgg165
 z53:=Tryz.sizeOf165
 v53:=Tryz.zeroValue165
 t55:=Tryz.underlying167
 a55:=Tryz.isAgg167
 z55:=Tryz.sizeOf167
 v55:=Tryz.zeroValue167
 t66:=Tryz.underlying190
 a66:=Tryz.isAgg190
 z66:=Tryz.sizeOf190
 v66:=Tryz.zeroValue190
 t70:=Tryz.underlying194
 a70:=Tryz.isAgg194
 z70:=Tryz.sizeOf194
 v70:=Tryz.zeroValue194
 t76:=Tryz.underlying213
 a76:=Tryz.isAgg213
 z76:=Tryz.sizeOf213
 v76:=Tryz.zeroValue213
 t77:=Tryz.underlying214
 a77:=Tryz.isAgg214
 z77:=Tryz.sizeOf214
 v77:=Tryz.zeroValue214}
end Go.Proofs
namespace Go.GH
open Go Go.Proofs Go.Sort
instance:Inhabited It:=⟨It.none⟩
def Sj(x:It):List Value:=[Dn x.path,.int .i64 x.kind,Dn x.data,.int .i64 x.time]
theorem B3c(x:It):(Aa x).map Qd=Sj x:=rfl
theorem Rh(l:Tr):O0 4 (l.map Aa):=by
 intro r hr;obtain⟨x,_,rfl⟩:=List.mem_map.1 hr;refine⟨rfl,fun c hc=>?_⟩;simp only[Aa,List.mem_cons,List.not_mem_nil,or_false]at hc;rcases hc with rfl|rfl|rfl|rfl<;>rfl
theorem A7d{l:Tr}{i f:Nat}{d:AV}(h:As (l.map Aa) i f=some d):∃x,l[i]? =some x∧(Aa x)[f]? =some d:=by
 unfold As at h;rw[List.getElem?_map]at h;cases hx:l[i]? with
 |none=>rw[hx]at h;simp at h
 |some x=>rw[hx]at h;exact⟨x,rfl,by simpa using h⟩
theorem C66:∀(a b:Str),decide (Lib.compareBytes a b<0)=Ce a b
 |[],[]=>rfl
 |[],_::_=>rfl
 |_::_,[]=>rfl
 |x::a,y::b=>by
  simp only[Lib.compareBytes,Ce];have ih:=C66 a b;by_cases h1:x<y
  ·simp[h1]
  ·by_cases h2:y<x
   ·have hxy:(x==y)=false:=by rw[beq_eq_false_iff_ne];rintro rfl;exact h1 h2
    simp[h1,h2,hxy]
   ·have hxy:x=y:=UInt8.le_antisymm (UInt8.not_lt.1 h2) (UInt8.not_lt.1 h1)
    subst hxy;simpa[h1]using ih
def cfI(x y:It):Int:=Lib.compareBytes x.path y.path
theorem ltI(x y:It):ltOf cfI x y=Ce x.path y.path:=C66 x.path y.path
theorem C9e:Sort.SWO (ltOf cfI)where
 irrefl x:=by rw[ltI];exact Dj _
 trans x y z h1 h2:=by rw[ltI]at*;exact Ov h1 h2
 ntrans x y z h1 h2:=by
  rw[ltI]at*;have:=B3l z y x (by simp[leB,h2]) (by simp[leB,h1]);simpa[leB]using this
theorem B5m{l:Tr}{i:Nat}{x:It}(h:l[i]? =some x):l.toArray[i]! =x:=by
 simp[Array.getElem!_eq_getD,Array.getD_eq_getD_getElem?,h]
theorem C21{l:Tr}{i f:Nat}{x:It}{d:AV}(hx:l[i]? =some x)(hd:(Aa x)[f]? =some d):i*4+f<l.toArray.size*4∧(flatK Sj 4 l.toArray)[i*4+f]! =Qd d:=by
 have hi:=Dq hx;have hf:f<4:=by
  have:=Dq hd;exact this
 have hlt:i*4+f<l.toArray.size*4:=by simp;omega
 refine⟨hlt,?_⟩;rw[get_flatK _ _ _ _ hlt,show(i*4+f)/4=i by omega,show(i*4+f)%4=f by omega,B5m hx,←B3c];rw[getElem!_def,List.getElem?_map,hd];rfl
theorem C6c{l:Tr}{t:Nat}(h:t<(flatK Sj 4 l.toArray).size):∃i f x d,t=i*4+f∧l[i]? =some x∧(Aa x)[f]? =some d:=by
 have h:t<l.length*4:=by simpa using h
 obtain⟨x,hx⟩:=B7 (l:=l) (i:=t/4) (by omega);obtain⟨d,hd⟩:=B7 (l:=Aa x) (i:=t%4) (by show t%4<4;omega);exact⟨t/4,t%4,x,d,by omega,hx,hd⟩
def I7:Bd:=⟨[.mv,mC],false,false,Tr,fun l=>[.own 4 (l.map Aa),.fn 67 []],fun l=>dst l∧l.length≤4194304,fun _=>.tup [],fun l=>[.own 4 ((Kx l).map Aa)],fun _=>True,false⟩
theorem Mp:Au Tryz.prog 66 I7:=by
 refine C1i (c:=I7) (s:=4) (rows:=fun l=>l.map Aa) (rows':=fun l=>(Kx l).map Aa) (snd:=fun _=>.fn 67 []) rfl (fun _=>rfl) (fun _=>rfl) (fun _=>rfl) (fun l=>Rh l) (fun l=>Rh _) (fun(l:Tr)=>by rw[List.length_map,List.length_map,B3k]) Tryz.call66 (fun _=>trivial) ?_ ?_ ?_
 ·intro(l:Tr) _ _ y w a cap v ρ _
  refine(AnyF.slices_SortFunc_none Tryz.sortItem a cap v w).mono ?_;rintro e w' ⟨rfl,rfl⟩;exact⟨rfl,RowKit.Below.refl _ _⟩
 ·intro(l:Tr) y w h n ρ v hs
  cases hs with
  |cell hr=>cases hr
  |fn hl hc=>exact .fn hl (by simp)
 ·intro(l:Tr) hpre hne y w b o cap v ρ hb hv hrow
  obtain⟨hd,hl⟩:dst l∧l.length≤4194304:=hpre;have hv:v=.func (.func 67) #[] #[]:=by
   cases hv with
   |cell hr=>cases hr
   |fn hl hc=>
    rename_i us;have:us=#[]:=Array.eq_empty_of_size_eq_zero hl;rw[this]
  subst hv;obtain⟨c,e,fz,h1,h2,h3⟩:=hrow;have hH:HoldsK Sj 4 w b o l.toArray:=by
   intro t ht;obtain⟨i,f,x,d,rfl,hx,hd'⟩:=C6c ht;have hc:=h3 i f d (by unfold As;simp[hx,hd']);have hlt:=(Array.getElem?_eq_some_iff.1 hc).1;refine⟨?_,?_⟩
   ·rw[(C21 hx hd').2]
    simp only[World.cell?,h1];exact hc
   ·simp only[World.frozen?,h1]
    rcases h2 with h2|h2
    ·simp;omega
    ·simp;omega
  have hcon:=AnyQ.slices_SortFunc Tryz.sortItem 4 Tryz.isAgg32 Tryz.sizeOf32 Sj (fun _=>rfl) (fun x v hv=>by
   simp[Sj]at hv;rcases hv with rfl|rfl|rfl|rfl<;>rfl) cfI C9e 67 #[] b o cap l.toArray w Tryz.call67 (fun m os dk hs x y=>Tryz.byPath_calls _ _ _ _ _ _ _ _ _) hH hb (by simp;omega)
  change Calls Tryz.prog 66 _ _ _ at hcon;have ez:(l.map Aa).length=l.toArray.size:=by simp
  show Calls Tryz.prog 66 #[.slice (some ⟨b,o,none⟩) (l.map Aa).length cap,.func (.func 67) #[] #[]] w _;rw[ez];refine hcon.mono ?_;clear hcon hH;rintro e' w' ⟨rfl,d',n,os,hp,hsrt,rfl⟩;refine⟨rfl,?_⟩;obtain⟨p1,_,p3⟩:=hp;have hsz:d'.size=l.length:=by simpa using p1
  have hperm:d'.toList.Perm l:=by
   have e1:d'.extract 0 l.toArray.size=d':=by
    rw[show l.toArray.size=d'.size by rw[hsz];simp];exact Array.extract_size
   have e2:l.toArray.extract 0 l.toArray.size=l.toArray:=Array.extract_size;rw[e1,e2]at p3;simpa using p3
  have hpw:d'.toList.Pairwise fun a b=>leB a b=true:=by
   refine List.pairwise_iff_getElem.2 fun i j hi hj hij=>?_;have:=hsrt i j (Nat.zero_le _) hij (by simpa[hsz]using hj);rw[ltI]at this;simp only[Array.length_toList]at hi hj;rw[getElem!_pos d' j hj,getElem!_pos d' i hi]at this;simp[leB,this]
  have hm:d'.toList=Kx l:=C4v hd hpw hperm;have hd':d'=(Kx l).toArray:=by rw[←hm]
  subst hd';have hheap:(sortWorldK Sj 4 w b o n (Kx l).toArray os).heap=w.heap.modify b (onCells (putCells id o (flatK Sj 4 (Kx l).toArray)))++os:=rfl;refine⟨rfl,rfl,rfl,?_,fun k hk hkb=>?_,fun c1 e1 fz1 hc1=>?_⟩
  ·rw[hheap];simp
  ·rw[hheap,Array.getElem?_append_left (by simpa using hk),Array.getElem?_modify,if_neg (Ne.symm hkb)]
  ·rw[h1]at hc1
   simp only[Option.some.injEq,Obj.cells.injEq]at hc1;obtain⟨rfl,rfl,rfl⟩:=hc1;refine⟨putCells id o (flatK Sj 4 (Kx l).toArray) c,?_,by simp[putCells],fun i f d hid=>?_⟩
   ·rw[hheap,Array.getElem?_append_left (by simpa using hb),Array.getElem?_modify,if_pos rfl,h1]
    rfl
   ·obtain⟨x,hx,hxd⟩:=A7d hid
    obtain⟨q1,q2⟩:=C21 hx hxd;have hi:=Dq hx;have hf:f<4:=Dq hxd;rw[B3k]at hi;obtain⟨x0,hx0⟩:=B7 (l:=l) (i:=i) hi;obtain⟨d0,hd0⟩:=B7 (l:=Aa x0) (i:=f) hf;have hc0:=h3 i f d0 (by unfold As;simp[hx0,hd0]);have hlt:=(Array.getElem?_eq_some_iff.1 hc0).1;unfold putCells;rw[Array.getElem?_mapIdx,Array.getElem?_eq_getElem hlt];simp only[Option.map_some,size_flatK];rw[if_pos ⟨by omega,by omega⟩,show o+(i*4+f) - o=i*4+f by omega,q2];rfl
end Go.GH
namespace Go.GH
open Go Go.Proofs
def Db:Bd:=con [.co [some 4],.rd [none,none,none,none,none,none]] false (Tr×OpR) (fun⟨t,o⟩=>[.agg [.own 4 (t.map Aa)],.agg (Ai o)]) (fun x=>Ar x.1=true∧smT x.1∧smO x.2∧El x.2.path=false) (fun x=>.tup [.agg [.own 4 ((Cf x.1 x.2).1.map Aa)],.int .i64 (Cf x.1 x.2).2])
def A87:Env:=⟨A4 B5,A4 [(66,I7),(139,Jm)],[0,1,2,3,4,5,6,7,12,17,28,39,49]⟩
theorem A8w:B6 A87 (Av Tryz.f107) Tryz.f107.results.toList Db:=by
 rintro⟨t,o⟩ hs;obtain⟨ok,hs1,hs2,hs3⟩:Ar t=true∧smT t∧smO o∧El o.path=false:=hs;have hl:=Fp ok;have hsrt:=F2 ok;have ho1:=hs2.1;refine⟨trivial,?_⟩;skip;refine⟨(t,o.path),by refine congrArg (fun x=>[AV.agg [AV.rd 4 x],AV.str o.path]) ?_;simp[rdI],fun _=>⟨hs1,by show o.path.length≤_;omega,hs3⟩,?_⟩;skip
 (conv=>whnf);refine⟨fun h1=>?_,fun h1=>?_⟩
 ·have h1:(Mq t o.path !=0)=true:=h1
  have hr:=C6b h1;rw[show Db.res (t,o)=.tup [.agg [.own 4 (t.map Aa)],.int .i64 (Mq t o.path)] by show AV.tup [.agg [.own 4 ((Cf t o).1.map Aa)],.int .i64 (Cf t o).2]=_;rw[hr]];skip;exact⟨trivial,⟨⟨rfl,by first|(simp;done)|(simp;rfl)⟩,trivial⟩,rfl,trivial⟩
 have h1:(Mq t o.path !=0)=false:=h1;obtain⟨h1,h2⟩:=B5j h1;have hne:∀{x:It},x.path=o.path→∀y,y∈t→y.path≠x.path:=fun e=>e▸C8v hs3 h2;repeat((conv=>whnf);refine⟨fun h=>h,?_⟩)
 (conv=>whnf);refine⟨fun h3=>?_,fun h3=>?_⟩
 ·have h3:(o.kind !=0&&decide ((o.data.length:Int)>80))=true:=h3
  have hr:Cf t o=(t,9):=by rw[Cf,if_neg (by rw[h1];decide),if_neg (by rw[h2];decide),if_pos h3]
  rw[show Db.res (t,o)=.tup [.agg [.own 4 (t.map Aa)],.int .i64 9] by show AV.tup [.agg [.own 4 ((Cf t o).1.map Aa)],.int .i64 (Cf t o).2]=_;rw[hr]];skip;exact⟨trivial,⟨⟨rfl,by first|(simp;done)|(simp;rfl)⟩,trivial⟩,rfl,trivial⟩
 have h3:(o.kind !=0&&decide ((o.data.length:Int)>80))=false:=h3;skip
 (conv=>whnf);refine⟨fun h5=>?_,fun h5=>?_⟩
 ·have h5:(t.length:Int)≥40:=by simpa using h5
  have hr:Cf t o=(t,5):=by rw[Cf,if_neg (by rw[h1];decide),if_neg (by rw[h2];decide),if_neg (by rw[h3];decide),if_pos (beq_iff_eq.2 (by omega))]
  rw[show Db.res (t,o)=.tup [.agg [.own 4 (t.map Aa)],.int .i64 5] by show AV.tup [.agg [.own 4 ((Cf t o).1.map Aa)],.int .i64 (Cf t o).2]=_;rw[hr]];skip;exact⟨trivial,⟨⟨rfl,by first|(simp;done)|(simp;rfl)⟩,trivial⟩,rfl,trivial⟩
 have h5:¬(t.length:Int)≥40:=by simpa using h5
 have hnew:Cf t o=(Kx (t++[S7 o]),0):=by
  rw[Cf,if_neg (by rw[h1];decide),if_neg (by rw[h2];decide),if_neg (by rw[h3];decide),if_neg (by rw[beq_iff_eq];omega),(Yz hsrt (hne (by unfold S7;split<;>rfl))).2]
 skip
 (conv=>whnf);refine⟨fun h8=>?_,fun h8=>?_⟩
 ·have h8:(o.kind !=0)=true:=h8
  have h8':(o.kind==0)=false:=by simpa using h8
  skip
  (conv=>whnf);refine⟨fun h9=>?_,fun h9=>?_⟩
  ·have h9:(o.kind==2)=true:=h9
   repeat((conv=>whnf);first|refine⟨bb,?_⟩|refine⟨Ls (by rfl),?_⟩)
   have h6:S7 o=⟨o.path,3,o.data,o.time⟩:=by simp[S7,h8',h9]
   have hr:Cf t o=(Kx (t++[⟨o.path,3,o.data,o.time⟩]),0):=by rw[hnew,h6]
   have h7:=(Yz (x:=⟨o.path,3,o.data,o.time⟩) hsrt (hne rfl)).1;skip;refine⟨t++[⟨o.path,3,o.data,o.time⟩],by refine congrArg (fun x=>[AV.own 4 x,AV.fn 67 []]) ?_;simp[Aa];rw[List.take_of_length_le (by simp)];exact(List.map_append (f:=Aa) (l₁:=t) (l₂:=[⟨o.path,3,o.data,o.time⟩])).symm,fun _=>⟨h7,by show List.length (_++_)≤_;rw[List.length_append];show t.length+1≤4194304;omega⟩,?_⟩;rw[show Db.res (t,o)=.tup [.agg [.own 4 ((Kx (t++[⟨o.path,3,o.data,o.time⟩])).map Aa)],.int .i64 0] by show AV.tup [.agg [.own 4 ((Cf t o).1.map Aa)],.int .i64 (Cf t o).2]=_;rw[hr]];skip;exact⟨trivial,⟨⟨rfl,by first|(simp;done)|(simp;rfl)⟩,trivial⟩,rfl,trivial⟩
  have h9:(o.kind==2)=false:=h9;repeat((conv=>whnf);first|refine⟨bb,?_⟩|refine⟨Ls (by rfl),?_⟩)
  have h6:S7 o=⟨o.path,1,o.data,o.time⟩:=by simp[S7,h8',h9]
  have hr:Cf t o=(Kx (t++[⟨o.path,1,o.data,o.time⟩]),0):=by rw[hnew,h6]
  have h7:=(Yz (x:=⟨o.path,1,o.data,o.time⟩) hsrt (hne rfl)).1;skip;refine⟨t++[⟨o.path,1,o.data,o.time⟩],by refine congrArg (fun x=>[AV.own 4 x,AV.fn 67 []]) ?_;simp[Aa];rw[List.take_of_length_le (by simp)];exact(List.map_append (f:=Aa) (l₁:=t) (l₂:=[⟨o.path,1,o.data,o.time⟩])).symm,fun _=>⟨h7,by show List.length (_++_)≤_;rw[List.length_append];show t.length+1≤4194304;omega⟩,?_⟩;rw[show Db.res (t,o)=.tup [.agg [.own 4 ((Kx (t++[⟨o.path,1,o.data,o.time⟩])).map Aa)],.int .i64 0] by show AV.tup [.agg [.own 4 ((Cf t o).1.map Aa)],.int .i64 (Cf t o).2]=_;rw[hr]];skip;exact⟨trivial,⟨⟨rfl,by first|(simp;done)|(simp;rfl)⟩,trivial⟩,rfl,trivial⟩
 have h8:(o.kind==0)=true:=by
  have h8:(o.kind !=0)=false:=h8;simpa using h8
 skip
 (conv=>whnf);refine⟨fun h9=>?_,fun h9=>?_⟩
 ·exfalso
  have h9:(o.kind==2)=true:=h9;have h10:=beq_iff_eq.1 h8;have h11:=beq_iff_eq.1 h9;omega
 repeat((conv=>whnf);first|refine⟨bb,?_⟩|refine⟨Ls (by rfl),?_⟩)
 have h6:S7 o=⟨o.path,2,[],0⟩:=by simp[S7,h8]
 have hr:Cf t o=(Kx (t++[⟨o.path,2,[],0⟩]),0):=by rw[hnew,h6]
 have h7:=(Yz (x:=⟨o.path,2,[],0⟩) hsrt (hne rfl)).1;skip;refine⟨t++[⟨o.path,2,[],0⟩],by refine congrArg (fun x=>[AV.own 4 x,AV.fn 67 []]) ?_;simp[Aa];rw[List.take_of_length_le (by simp)];exact(List.map_append (f:=Aa) (l₁:=t) (l₂:=[⟨o.path,2,[],0⟩])).symm,fun _=>⟨h7,by show List.length (_++_)≤_;rw[List.length_append];show t.length+1≤4194304;omega⟩,?_⟩;rw[show Db.res (t,o)=.tup [.agg [.own 4 ((Kx (t++[⟨o.path,2,[],0⟩])).map Aa)],.int .i64 0] by show AV.tup [.agg [.own 4 ((Cf t o).1.map Aa)],.int .i64 (Cf t o).2]=_;rw[hr]];skip;exact⟨trivial,⟨⟨rfl,by first|(simp;done)|(simp;rfl)⟩,trivial⟩,rfl,trivial⟩
theorem A3w:Au Tryz.prog 107 Db:=Al (Bx _ _) (FOk.cons Mp (FOk.cons Z0 FOk.nil)) mixed Tryz.func107 rfl Tryz.call107 (by decide) (by kernel_rfl) A8w (by intro _ (y:(Tr×OpR)) _;exact⟨by simp[Db,con,A9,A8,AV.noRd,A7,Ab,A5,A6,Aa,Ai],by simp[Db,con,A9,A8,AV.noRd,A7,Ab,A5,A6,Aa,Ai]⟩) (by intro(y:(Tr×OpR)) _;first|(simp[Db,con,A9,A8,Ad,AV.free,A2,A3,A1,A6,Aa,Ai];done)|(obtain⟨_,_⟩:=y;simp[Db,con,A9,A8,Ad,AV.free,A2,A3,A1,A6,Aa,Ai];done)|(obtain⟨_,_,_⟩:=y;simp[Db,con,A9,A8,Ad,AV.free,A2,A3,A1,A6,Aa,Ai];done))
def Cs:Bd:=con [.co [some 4],.rd [none,none,none,none,none,none]] false (Tr×OpR) (fun⟨t,o⟩=>[.agg [.own 4 (t.map Aa)],.agg (Ai o)]) (fun x=>Ar x.1=true∧Hz x.2=true∧smT x.1∧smO x.2∧El x.2.path=false∧(x.2.kind==3||x.2.kind==4||x.2.kind==5)=true) (fun x=>.tup [.agg [.own 4 ((D0 x.1 x.2).1.map Aa)],.int .i64 (D0 x.1 x.2).2])
def A8u:Env:=⟨A4 B5,A4 [(47,E0),(140,Hi),(141,Lj)],[0,1,2,3,4,5,6,7,8,14,36,43,44,52,60]⟩
theorem A6s:B6 A8u (Av Tryz.f108) Tryz.f108.results.toList Cs:=by
 rintro⟨t,o⟩ hs;obtain⟨ok,hno,hs1,hs2,hs3,hk⟩:Ar t=true∧Hz o=true∧smT t∧smO o∧El o.path=false∧(o.kind==3||o.kind==4||o.kind==5)=true:=hs;have hl:=Fp ok;have hsrt:=F2 ok;have ho1:=hs2.1;have hg:=Zw (t:=t) hs3;refine⟨trivial,?_⟩;skip;refine⟨(t,o.path),by refine congrArg (fun x=>[AV.agg [AV.rd 4 x],AV.str o.path]) ?_;simp[rdI],fun _=>hs1,?_⟩;skip
 (conv=>whnf);refine⟨fun h1=>?_,fun h1=>?_⟩
 ·have h1:fnd (fun y=>y.path==o.path) t<0:=by simpa using h1
  have hx:Aj t o.path=none:=by
   have:(Aj t o.path).isSome=false:=by rw[hg,decide_eq_false];omega
   simpa using this
  have hr:D0 t o=(t,2):=by simp[D0,hx]
  rw[show Cs.res (t,o)=.tup [.agg [.own 4 (t.map Aa)],.int .i64 2] by show AV.tup [.agg [.own 4 ((D0 t o).1.map Aa)],.int .i64 (D0 t o).2]=_;rw[hr]];skip;exact⟨trivial,⟨⟨rfl,by first|(simp;done)|(simp;rfl)⟩,trivial⟩,rfl,trivial⟩
 have h1:¬fnd (fun y=>y.path==o.path) t<0:=by simpa using h1
 obtain⟨x,hx⟩:∃x,Aj t o.path=some x:=by
  rw[decide_eq_true (show fnd (fun y:It=>y.path==o.path) t≥0 by omega)]at hg;exact Option.isSome_iff_exists.1 hg
 obtain⟨hat,h0,hxp⟩:=B6q hs3 hx;have hxm:=List.mem_of_getElem? hat;have hxd:=B68 ok hxm;have hlt:fnd (fun y=>y.path==o.path) t<t.length:=by
  have:=(List.getElem?_eq_some_iff.1 hat).1;omega
 have hlt2:fnd (fun y=>y.path==o.path) t<((List.map Aa t).length:Nat):=by rw[List.length_map];exact hlt
 have hcell:(List.take (List.map Aa t).length (List.drop 0 (List.map Aa t)))[0+(fnd (fun y=>y.path==o.path) t).toNat]? =some (Aa x):=by
  rw[List.drop_zero,List.take_length,Nat.zero_add];exact Ao hat
 have hidx:0+(fnd (fun y=>y.path==o.path) t).toNat<(List.take (List.map Aa t).length (List.drop 0 (List.map Aa t))).length:=by
  rw[List.drop_zero,List.take_length,List.length_map];omega
 repeat((conv=>whnf);first|refine⟨fun h=>h,?_⟩|refine⟨bb,?_⟩|refine⟨Aa x,fun _=>hcell,?_⟩)
 (conv=>whnf);refine⟨fun h2=>?_,fun h2=>?_⟩
 ·have h2:(x.kind==2||(x.kind==3&&o.kind !=5))=true:=h2
  have hr:D0 t o=(t,4):=by simp only[D0,hx];rw[if_pos h2]
  rw[show Cs.res (t,o)=.tup [.agg [.own 4 (t.map Aa)],.int .i64 4] by show AV.tup [.agg [.own 4 ((D0 t o).1.map Aa)],.int .i64 (D0 t o).2]=_;rw[hr]];skip;exact⟨trivial,⟨⟨rfl,by first|(simp;done)|(simp;rfl)⟩,trivial⟩,rfl,trivial⟩
 have h2:(x.kind==2||(x.kind==3&&o.kind !=5))=false:=h2;have hk2:(x.kind==2)=false:=by revert h2;cases(x.kind==2)<;>simp
 have hflag:=C4g ok hno hxm hk2;have hset:=C4q (x':=Um x o) hsrt hat rfl;have hxl:=hs1.2 x hxm;repeat((conv=>whnf);refine⟨Aa x,fun _=>hcell,?_⟩)
 (conv=>whnf);refine⟨fun h3=>?_,fun h3=>?_⟩
 ·have h3:(o.kind==3)=true:=h3
  have hd:Eo x.data o=(wrote x.data o.at_ o.data,decide (((wrote x.data o.at_ o.data).length:Int)≤80)):=by rw[Eo,if_pos h3]
  skip;refine⟨(x.data,o.at_,o.data),rfl,fun _=>⟨by show x.data.length≤_;omega,by show o.data.length≤_;have:=hs2.2.2;omega⟩,?_⟩;skip
  (conv=>whnf);refine⟨fun h5=>?_,fun h5=>?_⟩
  ·have h5:decide ((((wrote x.data o.at_ o.data)).length:Int)>80)=true:=h5
   have h6:(!(Eo x.data o).2)=true:=by rw[←hflag,hd];exact h5
   have hr:D0 t o=(t,9):=by simp only[D0,hx];rw[if_neg (by rw[h2];decide),if_pos h6]
   rw[show Cs.res (t,o)=.tup [.agg [.own 4 (t.map Aa)],.int .i64 9] by show AV.tup [.agg [.own 4 ((D0 t o).1.map Aa)],.int .i64 (D0 t o).2]=_;rw[hr]];skip;exact⟨trivial,⟨⟨rfl,by first|(simp;done)|(simp;rfl)⟩,trivial⟩,rfl,trivial⟩
  have h5:decide ((((wrote x.data o.at_ o.data)).length:Int)>80)=false:=h5;have h6:(!(Eo x.data o).2)=false:=by rw[←hflag,hd];exact h5
  have hr:D0 t o=(t.set (fnd (fun y=>y.path==o.path) t).toNat ⟨x.path,x.kind,(wrote x.data o.at_ o.data),o.time⟩,0):=by
   simp only[D0,hx];rw[if_neg (by rw[h2];decide),if_neg (by rw[h6];decide),hset];simp only[Um,hd]
  rw[show Cs.res (t,o)=.tup [.agg [.own 4 ((t.set (fnd (fun y=>y.path==o.path) t).toNat ⟨x.path,x.kind,(wrote x.data o.at_ o.data),o.time⟩).map Aa)],.int .i64 0] by show AV.tup [.agg [.own 4 ((D0 t o).1.map Aa)],.int .i64 (D0 t o).2]=_;rw[hr]];repeat((conv=>whnf);first|refine⟨(by kernel_rfl:Bu _ _=true),?_⟩|refine⟨Aa x,hcell,?_⟩|refine⟨_,A4f hidx,?_⟩)
  refine⟨trivial,⟨⟨rfl,?_⟩,trivial⟩,rfl,trivial⟩;simp only[List.drop_zero,List.take_length,Nat.zero_add,B4s,List.map_set];rfl
 have h3:(o.kind==3)=false:=h3;skip
 (conv=>whnf);refine⟨fun h4=>?_,fun h4=>?_⟩
 ·have h4:(o.kind==4)=true:=h4
  have hd:Eo x.data o=(Se x.data o.at_,decide (o.at_≤80)):=by rw[Eo,if_neg (by rw[h3];decide),if_pos h4]
  skip;refine⟨(x.data,o.at_),rfl,fun _=>by show x.data.length≤_;omega,?_⟩;skip
  (conv=>whnf);refine⟨fun h5=>?_,fun h5=>?_⟩
  ·have h5:decide ((((Se x.data o.at_)).length:Int)>80)=true:=h5
   have h6:(!(Eo x.data o).2)=true:=by rw[←hflag,hd];exact h5
   have hr:D0 t o=(t,9):=by simp only[D0,hx];rw[if_neg (by rw[h2];decide),if_pos h6]
   rw[show Cs.res (t,o)=.tup [.agg [.own 4 (t.map Aa)],.int .i64 9] by show AV.tup [.agg [.own 4 ((D0 t o).1.map Aa)],.int .i64 (D0 t o).2]=_;rw[hr]];skip;exact⟨trivial,⟨⟨rfl,by first|(simp;done)|(simp;rfl)⟩,trivial⟩,rfl,trivial⟩
  have h5:decide ((((Se x.data o.at_)).length:Int)>80)=false:=h5;have h6:(!(Eo x.data o).2)=false:=by rw[←hflag,hd];exact h5
  have hr:D0 t o=(t.set (fnd (fun y=>y.path==o.path) t).toNat ⟨x.path,x.kind,(Se x.data o.at_),o.time⟩,0):=by
   simp only[D0,hx];rw[if_neg (by rw[h2];decide),if_neg (by rw[h6];decide),hset];simp only[Um,hd]
  rw[show Cs.res (t,o)=.tup [.agg [.own 4 ((t.set (fnd (fun y=>y.path==o.path) t).toNat ⟨x.path,x.kind,(Se x.data o.at_),o.time⟩).map Aa)],.int .i64 0] by show AV.tup [.agg [.own 4 ((D0 t o).1.map Aa)],.int .i64 (D0 t o).2]=_;rw[hr]];repeat((conv=>whnf);first|refine⟨(by kernel_rfl:Bu _ _=true),?_⟩|refine⟨Aa x,hcell,?_⟩|refine⟨_,A4f hidx,?_⟩)
  refine⟨trivial,⟨⟨rfl,?_⟩,trivial⟩,rfl,trivial⟩;simp only[List.drop_zero,List.take_length,Nat.zero_add,B4s,List.map_set];rfl
 have h4:(o.kind==4)=false:=h4;have hd:Eo x.data o=(x.data,true):=by rw[Eo,if_neg (by rw[h3];decide),if_neg (by rw[h4];decide)]
 skip;skip
 (conv=>whnf);refine⟨fun h5=>?_,fun h5=>?_⟩
 ·have h5:decide (((x.data).length:Int)>80)=true:=h5
  have h6:(!(Eo x.data o).2)=true:=by rw[←hflag,hd];exact h5
  have hr:D0 t o=(t,9):=by simp only[D0,hx];rw[if_neg (by rw[h2];decide),if_pos h6]
  rw[show Cs.res (t,o)=.tup [.agg [.own 4 (t.map Aa)],.int .i64 9] by show AV.tup [.agg [.own 4 ((D0 t o).1.map Aa)],.int .i64 (D0 t o).2]=_;rw[hr]];skip;exact⟨trivial,⟨⟨rfl,by first|(simp;done)|(simp;rfl)⟩,trivial⟩,rfl,trivial⟩
 have h5:decide (((x.data).length:Int)>80)=false:=h5;have h6:(!(Eo x.data o).2)=false:=by rw[←hflag,hd];exact h5
 have hr:D0 t o=(t.set (fnd (fun y=>y.path==o.path) t).toNat ⟨x.path,x.kind,x.data,o.time⟩,0):=by
  simp only[D0,hx];rw[if_neg (by rw[h2];decide),if_neg (by rw[h6];decide),hset];simp only[Um,hd]
 rw[show Cs.res (t,o)=.tup [.agg [.own 4 ((t.set (fnd (fun y=>y.path==o.path) t).toNat ⟨x.path,x.kind,x.data,o.time⟩).map Aa)],.int .i64 0] by show AV.tup [.agg [.own 4 ((D0 t o).1.map Aa)],.int .i64 (D0 t o).2]=_;rw[hr]];repeat((conv=>whnf);first|refine⟨(by kernel_rfl:Bu _ _=true),?_⟩|refine⟨Aa x,hcell,?_⟩|refine⟨_,A4f hidx,?_⟩)
 refine⟨trivial,⟨⟨rfl,?_⟩,trivial⟩,rfl,trivial⟩;simp only[List.drop_zero,List.take_length,Nat.zero_add,B4s,List.map_set];rfl
theorem A3g:Au Tryz.prog 108 Cs:=Al (Bx _ _) (FOk.cons J1 (FOk.cons A3j (FOk.cons B7q FOk.nil))) mixed Tryz.func108 rfl Tryz.call108 (by decide) (by kernel_rfl) A6s (by intro _ (y:(Tr×OpR)) _;exact⟨by simp[Cs,con,A9,A8,AV.noRd,A7,Ab,A5,A6,Aa,Ai],by simp[Cs,con,A9,A8,AV.noRd,A7,Ab,A5,A6,Aa,Ai]⟩) (by intro(y:(Tr×OpR)) _;first|(simp[Cs,con,A9,A8,Ad,AV.free,A2,A3,A1,A6,Aa,Ai];done)|(obtain⟨_,_⟩:=y;simp[Cs,con,A9,A8,Ad,AV.free,A2,A3,A1,A6,Aa,Ai];done)|(obtain⟨_,_,_⟩:=y;simp[Cs,con,A9,A8,Ad,AV.free,A2,A3,A1,A6,Aa,Ai];done))
end Go.GH
namespace Go.GH
open Go Go.Proofs Go.Shelf Go.RowKit Go.Lib Go.Sort
theorem Sm(b:Nat):∀(vs:List Value) (o:Nat) (w:World),(w.setCells b o vs).os=w.os∧(w.setCells b o vs).tape=w.tape∧(w.setCells b o vs).output=w.output∧(w.setCells b o vs).heap.size=w.heap.size∧∀k,k≠b→(w.setCells b o vs).heap[k]? =w.heap[k]?
 |[],o,w=>⟨rfl,rfl,rfl,rfl,fun _ _=>rfl⟩
 |v::vs,o,w=>by
  obtain⟨h1,h2,h3,h4,h5⟩:=Sm b vs (o+1) (w.setCell ⟨b,o,none⟩ v);refine⟨h1,h2,h3,?_,fun k hk=>?_⟩
  ·rw[World.setCells,h4]
   simp[World.setCell]
  ·rw[World.setCells,h5 k hk]
   simp only[World.setCell];rw[Array.getElem?_modify,if_neg (Ne.symm hk)]
theorem U6(b:Nat):∀(vs:List Value) (o:Nat) (w:World) (c:Array Value) e fz,w.heap[b]? =some (.cells c e fz)→o+vs.length≤c.size→
 ∃c',(w.setCells b o vs).heap[b]? =some (.cells c' e fz)∧c'.size=c.size∧(∀k,k<o∨o+vs.length≤k→c'[k]? =c[k]?)∧∀j v,vs[j]? =some v→c'[o+j]? =some v
 |[],o,w,c,e,fz,h,hl=>⟨c,h,rfl,fun _ _=>rfl,fun j v hv=>by cases hv⟩
 |v::vs,o,w,c,e,fz,h,hl=>by
  simp only[List.length_cons]at hl;have h2:(w.setCell ⟨b,o,none⟩ v).heap[b]? =some (.cells (c.setIfInBounds o v) e fz):=by
   simp only[World.setCell];rw[Array.getElem?_modify,if_pos rfl,h];rfl
  obtain⟨c',h3,h4,h5,h6⟩:=U6 b vs (o+1) _ _ e fz h2 (by simp;omega);refine⟨c',h3,by rw[h4];simp,fun k hk=>?_,fun j u hu=>?_⟩
  ·simp only[List.length_cons]at hk
   rw[h5 k (by omega),Array.getElem?_setIfInBounds,if_neg (by omega)]
  ·cases j with
   |zero=>
    simp only[List.getElem?_cons_zero,Option.some.injEq]at hu;subst hu;rw[h5 (o+0) (by omega),Array.getElem?_setIfInBounds,if_pos (by omega),if_pos (by omega)]
   |succ j=>
    have:=h6 j u (by simpa using hu);rw[show o+(j+1)=o+1+j by omega];exact this
theorem B19{P:Program}(w:World)(t e ty:TypeId)(z:Value)(ht:P.underlying t=some (.slice e))(hv:∀w,(zeroValue e).run P w=.ok z w)(cs:List Value)(hz:z.cells.toList=cs)(h1:∀v,v∈cs→v.oneCell'=true)(b o c:Nat)
 (hc:∀j,j<cs.length→(w.cell? ⟨b,o+j,none⟩).isSome=true)(hf:∀j,j<cs.length→w.frozen? ⟨b,o+j,none⟩=false):
 (Builtin.clear_ #[t] ty #[.slice (some ⟨b,o,none⟩) 1 c]).run P w=.ok (.tuple #[]) (w.setCells b o cs):=by
 have hzc:(Builtin.zeroCells z.cells 1).toList=cs:=by
  rw[←hz];simp[Builtin.zeroCells];apply List.ext_getElem
  ·simp
  ·intro i h1 h2
   simp at h1 h2⊢;rw[Nat.mod_eq_of_lt h1];exact getElem!_pos z.cells i h1
 have hst:=run_storeCells_cells (P:=P) b o cs 0 w (by simpa using hc) (by simpa using hf) h1;simp only[Nat.add_zero]at hst;simp[Builtin.clear_,Go.run_underlying ht,hv,hzc,hst]
theorem C8t:(Tryz.prog.info? 32).map (fun i=>(i.zero,i.size,i.bytes))=some (some (.agg #[.string ⟨#[]⟩,.int .i64 0,.string ⟨#[]⟩,.int .i64 0]),4,48):=by kernel_rfl
def A09:List Value:=[.string ⟨#[]⟩,.int .i64 0,.string ⟨#[]⟩,.int .i64 0]
set_option maxRecDepth 1000000 in
theorem C33(blk off cap n i j:Nat)(news:List Value)(w:World)(hij:j=i+1)(hi:j≤n)(hcap:n≤cap)(hm:n≤4194304)(hlen:news.length=(n - j)*4)
 (hall:∀t,t<n*4→(w.cell? ⟨blk,off+t,none⟩).isSome=true∧w.frozen? ⟨blk,off+t,none⟩=false)
 (hsrc0:∀t u,news[t]? =some u→w.cell? ⟨blk,off+j*4+t,none⟩=some u)(h1c:∀u,u∈news→u.oneCell'=true):
 Calls Tryz.prog 144 #[.slice (some ⟨blk,off,none⟩) n cap,.int .i64 i,.int .i64 j] w fun e w'=>e=.returned (.slice (some ⟨blk,off,none⟩) (n - 1) cap)∧∃q,w'=((w.drewN q).setCells blk (off+i*4) news).setCells blk (off+(n - 1)*4) A09:=by
 obtain⟨A,hA,hsrc⟩:∃A:Addr,(if cap=j then some (⟨blk,off,none⟩:Addr)else some ⟨blk,off+j*4,none⟩)=some A∧Hid (∀t u,news[t]? =some u→w.drew.cell? (A.add t)=some u):=by
  by_cases h:cap=j
  ·refine⟨⟨blk,off,none⟩,by simp[h],fun t u hu=>?_⟩
   have h0:news.length=0:=by rw[hlen];omega
   rw[List.length_eq_zero_iff.1 h0]at hu;simp at hu
  ·refine⟨⟨blk,off+j*4,none⟩,by simp[h],fun t u hu=>?_⟩
   rw[Addr.add_lit];exact hsrc0 t u hu
 have s1:Hid (news.length=(n - j)*4):=hlen;have s2:Hid (∀u∈news,u.oneCell'=true):=h1c;have s3:Hid (∀t,t<news.length→(w.drew.cell? ⟨blk,off+i*4+t,none⟩).isSome=true∧w.drew.frozen? ⟨blk,off+i*4+t,none⟩=false):=by
  intro t ht;rw[hlen]at ht;have:=hall (i*4+t) (by omega);rw[←Nat.add_assoc]at this;exact this
 obtain⟨W1,hW1⟩:∃W1,W1=w.drew.setCells blk (off+i*4) news:=⟨_,rfl⟩
 have hcl:∀ty,(Builtin.clear_ #[24] ty #[.slice (some ⟨blk,off+(i+(n - j))*4,none⟩) (n - (i+(n - j))) (cap - (i+(n - j)))]).run Tryz.prog W1=.ok (.tuple #[]) (W1.setCells blk (off+(i+(n - j))*4) A09):=by
  intro ty;rw[show n - (i+(n - j))=1 by omega];refine B19 W1 24 32 ty _ Tryz.underlying24 Tryz.zeroValue32 A09 rfl (by decide) blk _ _ (fun t hj=>?_) fun t hj=>?_
  ·have hj:t<4:=hj
   have:=hall ((i+(n - j))*4+t) (by omega);rw[←Nat.add_assoc]at this;rw[hW1];exact World.isSome_setCells blk news _ _ _ this.1
  ·have hj:t<4:=hj
   have:=hall ((i+(n - j))*4+t) (by omega);rw[←Nat.add_assoc]at this;rw[hW1,World.frozen?_setCells];exact this.2
 have hW:Hid (W1=w.drew.setCells blk (off+i*4) news):=hW1;have hic:i≤cap:=by omega
 have hjc:j≤cap:=by omega
 have hij2:Hid (j=i+1):=hij;have hlt:i<j:=by omega
 clear hW1 hall hsrc0 h1c hlen hij
 go_enter Tryz.func144,Tryz.ntmps144
 go_wp2_with fail
 obtain⟨i0,hi0,hz0,hz1,hz2⟩:=info_parts C8t;have mixed:Tryz.prog.follows .mixedOrders=true:=mixed
 go_region_law_o (refine step_append_room rfl (.tmp 22) (.tmp 25) 24 rfl 32 i0 4 Tryz.underlying24 hi0 hz1 blk off i cap (by simp[Act.eval,Act.put]) A (n - j) (cap - j) news (by simp[Act.eval,Act.put]) s1.out hsrc.out s2.out (by omega) s3.out ?_;rw[←hW.out])
 go_wp2
 go_ret
 refine⟨by rw[show n - 1=i+(n - j) by have:=hij2.out;omega];rfl,1,?_⟩;rw[show n - 1=i+(n - j) by have:=hij2.out;omega,hW.out];rfl
theorem C4k:∀(l:Tr) (a f:Nat),f<4→(l.flatMap Sj)[a*4+f]? =(l[a]?).bind fun x=>(Sj x)[f]?
 |[],a,f,h=>by simp
 |x::l,0,f,h=>by
  rw[List.flatMap_cons,List.getElem?_append_left (by show _<4;omega),Nat.zero_mul,Nat.zero_add];rfl
 |x::l,a+1,f,h=>by
  have h4:(Sj x).length=4:=rfl;rw[List.flatMap_cons,List.getElem?_append_right (by rw[h4];omega),h4,show(a+1)*4+f - 4=a*4+f by omega,C4k l a f h];rfl
theorem B31:∀(l:Tr),(l.flatMap Sj).length=l.length*4
 |[]=>rfl
 |x::l=>by
  rw[List.flatMap_cons,List.length_append,B31 l,List.length_cons];have h4:(Sj x).length=4:=rfl;omega
theorem C1r{x:It}{f:Nat}{d:AV}(h:(Aa x)[f]? =some d):(Sj x)[f]? =some (Qd d):=by
 rw[←B3c,List.getElem?_map,h];rfl
def A7u(t:Tr)(i:Nat):Tr:=t.take i++t.drop (i+1)
def L9:Bd:=con [.co [some 4],mC,mC] false (Tr×Nat) (fun x=>[.own 4 (x.1.map Aa),.int .i64 x.2,.int .i64 ((x.2+1:Nat):Int)]) (fun x=>x.2<x.1.length∧x.1.length≤4194304) (fun x=>.own 4 ((A7u x.1 x.2).map Aa))
theorem A51{t:Tr}{i:Nat}(h:i<t.length):(A7u t i).length=t.length - 1:=by
 simp[A7u];omega
theorem Ut:Au Tryz.prog 144 L9:=by
 refine C0c (c:=L9) (s:=4) (rows:=fun x=>x.1.map Aa) (rows':=fun x=>(A7u x.1 x.2).map Aa) (fun x=>x.2) (fun x=>((x.2+1:Nat):Int)) rfl (fun _=>rfl) (fun _=>rfl) (fun _=>rfl) (fun x=>Rh x.1) (fun x=>Rh _) (fun⟨t,i⟩ hx=>?_) (fun⟨t,i⟩ hx=>?_) Tryz.call144 ?_
 ·obtain⟨h1,h2⟩:i<t.length∧t.length≤4194304:=hx
  show((A7u t i).map Aa).length≤(t.map Aa).length;rw[List.length_map,List.length_map,A51 h1];omega
 ·obtain⟨h1,h2⟩:i<t.length∧t.length≤4194304:=hx
  show t.map Aa≠[];intro e;have:=congrArg List.length e;have h3:t.length=0:=by simpa using this
  omega
 rintro⟨t,i⟩ hx w b o cap hb hcap ⟨c,e,fz,h1,h2,h3⟩;obtain⟨hi,hl⟩:i<t.length∧t.length≤4194304:=hx;have hcap:t.length≤cap:=by
  have hcap:(t.map Aa).length≤cap:=hcap;rwa[List.length_map]at hcap
 have cellI:∀{a f:Nat} {x:It} {d:AV},t[a]? =some x→(Aa x)[f]? =some d→c[o+(a*4+f)]? =some (Qd d):=fun{a f x d} hx hd=>
  h3 a f d (by
   show As (t.map Aa) a f=some d;unfold As;simp[hx,hd])
 have any:∀k,k<t.length*4→∃a f x d,k=a*4+f∧f<4∧t[a]? =some x∧(Aa x)[f]? =some d:=fun k hk=>by
  obtain⟨x,hx⟩:=B7 (l:=t) (i:=k/4) (by omega);obtain⟨d,hd⟩:=B7 (l:=Aa x) (i:=k%4) (by show k%4<4;omega);exact⟨k/4,k%4,x,d,by omega,by omega,hx,hd⟩
 have hcs:o+t.length*4≤c.size:=by
  obtain⟨a,f,x,d,e1,_,hx,hd⟩:=any (t.length*4 - 1) (by omega);have:=(Array.getElem?_eq_some_iff.1 (cellI hx hd)).1;omega
 have hdl:=B31 (t.drop (i+1));rw[List.length_drop]at hdl;have hcon:=C33 b o cap t.length i (i+1) ((t.drop (i+1)).flatMap Sj) w rfl (by omega) hcap hl hdl (fun k hk=>?_) (fun k u hu=>?_) (fun u hu=>?_)
 ·show Calls Tryz.prog 144 #[.slice (some ⟨b,o,none⟩) (t.map Aa).length cap,.int .i64 i,.int .i64 ((i+1:Nat):Int)] w _
  rw[List.length_map];refine hcon.mono ?_;rintro e' w' ⟨rfl,q,rfl⟩;refine⟨?_,?_⟩
  ·show _=Ending.returned (.slice (some ⟨b,o,none⟩) ((A7u t i).map Aa).length cap)
   rw[List.length_map,A51 hi]
  obtain⟨p1,p2,p3,p4,p5⟩:=Sm b ((t.drop (i+1)).flatMap Sj) (o+i*4) (w.drewN q);obtain⟨q1,q2,q3,q4,q5⟩:=Sm b A09 (o+(t.length - 1)*4) ((w.drewN q).setCells b (o+i*4) ((t.drop (i+1)).flatMap Sj));refine⟨q1.trans p1,q2.trans p2,q3.trans p3,by rw[q4,p4];exact Nat.le_refl _,fun k hk hkb=>(q5 k hkb).trans (p5 k hkb),fun c1 e1 fz1 hc1=>?_⟩;rw[h1]at hc1;simp only[Option.some.injEq,Obj.cells.injEq]at hc1;obtain⟨rfl,rfl,rfl⟩:=hc1;obtain⟨c1,r1,r2,r3,r4⟩:=U6 b ((t.drop (i+1)).flatMap Sj) (o+i*4) (w.drewN q) c e fz h1 (by rw[hdl];omega);obtain⟨c2,s1,s2,s3,s4⟩:=U6 b A09 (o+(t.length - 1)*4) _ c1 e fz r1 (by show _+4≤_;omega);refine⟨c2,s1,s2.trans r2,fun a f d hid=>?_⟩;obtain⟨x,hx,hxd⟩:=A7d hid;have hf:f<4:=Dq hxd;have ha:a<(A7u t i).length:=Dq hx;rw[A51 hi]at ha;have hx:(A7u t i)[a]? =some x:=hx;rw[s3 _ (by omega)];unfold A7u at hx;rcases Nat.lt_or_ge a i with hai|hai
  ·rw[List.getElem?_append_left (by simp;omega),List.getElem?_take,if_pos hai]at hx
   rw[r3 _ (by omega)];exact cellI hx hxd
  ·rw[List.getElem?_append_right (by simp;omega),List.length_take,Nat.min_eq_left (by omega)]at hx
   have:=r4 ((a - i)*4+f) (Qd d) (by rw[C4k _ _ _ hf,hx];exact C1r hxd);rw[show o+(a*4+f)=o+i*4+((a - i)*4+f) by omega];exact this
 ·obtain⟨a,f,x,d,rfl,_,hx,hd⟩:=any k hk
  have hc:=cellI hx hd;have hlt:=(Array.getElem?_eq_some_iff.1 hc).1;refine⟨?_,?_⟩
  ·simp only[World.cell?,h1]
   show(c[o+(a*4+f)]?).isSome=true;rw[hc];rfl
  ·simp only[World.frozen?,h1]
   rcases h2 with h2|h2
   ·simp;omega
   ·simp;omega
 ·have hk:=Dq hu
  rw[hdl]at hk;have e1:k=k/4*4+k%4:=by omega
  rw[e1,C4k _ _ _ (Nat.mod_lt _ (by decide)),List.getElem?_drop]at hu;obtain⟨x,hx⟩:=B7 (l:=t) (i:=i+1+k/4) (by omega);obtain⟨d,hd⟩:=B7 (l:=Aa x) (i:=k%4) (by show k%4<4;omega);rw[hx]at hu;have hu:(Sj x)[k%4]? =some u:=hu;rw[C1r hd]at hu;have hc:=cellI hx hd;simp only[World.cell?,h1];show c[o+(i+1)*4+k]? =some u;rw[←hu,←hc];congr 1;omega
 ·obtain⟨x,_,hx⟩:=List.mem_flatMap.1 hu
  simp[Sj]at hx;rcases hx with rfl|rfl|rfl|rfl<;>rfl
end Go.GH
namespace Go.GH
open Go Go.Proofs
def Dk:Bd:=con [.co [some 4],.rd [none,none,none,none,none,none]] false (Tr×OpR) (fun⟨t,o⟩=>[.agg [.own 4 (t.map Aa)],.agg (Ai o)]) (fun x=>Ar x.1=true∧smT x.1∧smO x.2∧El x.2.path=false) (fun x=>.tup [.agg [.own 4 ((Cp x.1 x.2).1.map Aa)],.int .i64 (Cp x.1 x.2).2])
def A3y:Env:=⟨A4 B5,A4 [(47,E0),(142,Cl),(144,L9)],[0,1,2,3,4,5,6,11,15,28]⟩
theorem A35:B6 A3y (Av Tryz.f109) Tryz.f109.results.toList Dk:=by
 rintro⟨t,o⟩ hs;obtain⟨ok,hs1,hs2,hs3⟩:Ar t=true∧smT t∧smO o∧El o.path=false:=hs;have hl:=Fp ok;have hsrt:=F2 ok;have ho1:=hs2.1;have hg:=Zw (t:=t) hs3;refine⟨trivial,?_⟩;skip;refine⟨(t,o.path),by refine congrArg (fun x=>[AV.agg [AV.rd 4 x],AV.str o.path]) ?_;simp[rdI],fun _=>hs1,?_⟩;skip
 (conv=>whnf);refine⟨fun h1=>?_,fun h1=>?_⟩
 ·have h1:fnd (fun y=>y.path==o.path) t<0:=by simpa using h1
  have hx:Aj t o.path=none:=by
   have:(Aj t o.path).isSome=false:=by rw[hg,decide_eq_false];omega
   simpa using this
  have hr:Cp t o=(t,2):=by simp[Cp,hx]
  rw[show Dk.res (t,o)=.tup [.agg [.own 4 (t.map Aa)],.int .i64 2] by show AV.tup [.agg [.own 4 ((Cp t o).1.map Aa)],.int .i64 (Cp t o).2]=_;rw[hr]];skip;exact⟨trivial,⟨⟨rfl,by first|(simp;done)|(simp;rfl)⟩,trivial⟩,rfl,trivial⟩
 have h1:¬fnd (fun y=>y.path==o.path) t<0:=by simpa using h1
 obtain⟨x,hx⟩:∃x,Aj t o.path=some x:=by
  rw[decide_eq_true (show fnd (fun y:It=>y.path==o.path) t≥0 by omega)]at hg;exact Option.isSome_iff_exists.1 hg
 obtain⟨hat,h0,hxp⟩:=B6q hs3 hx;have hlt:fnd (fun y=>y.path==o.path) t<t.length:=by
  have:=(List.getElem?_eq_some_iff.1 hat).1;omega
 have hlt2:fnd (fun y=>y.path==o.path) t<((List.map Aa t).length:Nat):=by rw[List.length_map];exact hlt
 have hcell:(List.take (List.map Aa t).length (List.drop 0 (List.map Aa t)))[0+(fnd (fun y=>y.path==o.path) t).toNat]? =some (Aa x):=by
  rw[List.drop_zero,List.take_length,Nat.zero_add];exact Ao hat
 have hbusy:=C20 (p:=o.path) ok;have hdrop:=C1o hsrt hat;rw[hxp]at hdrop;repeat((conv=>whnf);first|refine⟨(by kernel_rfl:Bu _ _=true),?_⟩|refine⟨bb,?_⟩|refine⟨Aa x,fun _=>hcell,?_⟩)
 (conv=>whnf);refine⟨fun h2=>?_,fun h2=>?_⟩
 ·have h2:((x.kind==2)!=(o.kind==7))=true:=h2
  have hr:Cp t o=(t,4):=by simp only[Cp,hx];rw[if_pos h2]
  rw[show Dk.res (t,o)=.tup [.agg [.own 4 (t.map Aa)],.int .i64 4] by show AV.tup [.agg [.own 4 ((Cp t o).1.map Aa)],.int .i64 (Cp t o).2]=_;rw[hr]];skip;exact⟨trivial,⟨⟨rfl,by first|(simp;done)|(simp;rfl)⟩,trivial⟩,rfl,trivial⟩
 have h2:((x.kind==2)!=(o.kind==7))=false:=h2;skip;refine⟨(t,o),by refine congrArg (fun x=>[AV.rd 4 x,AV.fn 143 [.pin (Ai o)]]) ?_;simp[rdI],fun _=>hs1,?_⟩;skip
 (conv=>whnf);refine⟨fun h3=>?_,fun h3=>?_⟩
 ·have h3:(t.any fun y=>Bl y.path==o.path)=true:=h3
  have hr:Cp t o=(t,8):=by simp only[Cp,hx];rw[if_neg (by rw[h2];decide),if_pos (by rw[hbusy];exact h3)]
  rw[show Dk.res (t,o)=.tup [.agg [.own 4 (t.map Aa)],.int .i64 8] by show AV.tup [.agg [.own 4 ((Cp t o).1.map Aa)],.int .i64 (Cp t o).2]=_;rw[hr]];skip;exact⟨trivial,⟨⟨rfl,by first|(simp;done)|(simp;rfl)⟩,trivial⟩,rfl,trivial⟩
 have h3:(t.any fun y=>Bl y.path==o.path)=false:=h3;have hr:Cp t o=(A7u t (fnd (fun y=>y.path==o.path) t).toNat,0):=by simp only[Cp,hx];rw[if_neg (by rw[h2];decide),if_neg (by rw[hbusy,h3];decide),hdrop];rfl
 repeat((conv=>whnf);refine⟨_,w64 (bb),?_⟩)
 refine⟨(t,(fnd (fun y=>y.path==o.path) t).toNat),by
  have e:((fnd (fun y=>y.path==o.path) t).toNat:Int)=fnd (fun y=>y.path==o.path) t:=Int.toNat_of_nonneg h0;show[AV.own 4 _,AV.int .i64 (fnd (fun y=>y.path==o.path) t),AV.int .i64 (fnd (fun y=>y.path==o.path) t+1)]=[AV.own 4 (t.map Aa),AV.int .i64 ((fnd (fun y=>y.path==o.path) t).toNat:Int),AV.int .i64 (((fnd (fun y=>y.path==o.path) t).toNat+1:Nat):Int)];rw[Int.natCast_add,e];simp,fun _=>⟨by show(fnd (fun y=>y.path==o.path) t).toNat<t.length;omega,hs1.1⟩,?_⟩
 rw[show Dk.res (t,o)=.tup [.agg [.own 4 ((A7u t (fnd (fun y=>y.path==o.path) t).toNat).map Aa)],.int .i64 0] by show AV.tup [.agg [.own 4 ((Cp t o).1.map Aa)],.int .i64 (Cp t o).2]=_;rw[hr]];skip;exact⟨trivial,⟨⟨rfl,by first|(simp;done)|(simp;rfl)⟩,trivial⟩,rfl,trivial⟩
theorem A1c:Au Tryz.prog 109 Dk:=Al (Bx _ _) (FOk.cons J1 (FOk.cons Po (FOk.cons Ut FOk.nil))) mixed Tryz.func109 rfl Tryz.call109 (by decide) (by kernel_rfl) A35 (by intro _ (y:(Tr×OpR)) _;exact⟨by simp[Dk,con,A9,A8,AV.noRd,A7,Ab,A5,A6,Aa,Ai],by simp[Dk,con,A9,A8,AV.noRd,A7,Ab,A5,A6,Aa,Ai]⟩) (by intro(y:(Tr×OpR)) _;first|(simp[Dk,con,A9,A8,Ad,AV.free,A2,A3,A1,A6,Aa,Ai];done)|(obtain⟨_,_⟩:=y;simp[Dk,con,A9,A8,Ad,AV.free,A2,A3,A1,A6,Aa,Ai];done)|(obtain⟨_,_,_⟩:=y;simp[Dk,con,A9,A8,Ad,AV.free,A2,A3,A1,A6,Aa,Ai];done))
def Ox:Bd:=con [mC,mC] true (Str×Str) (fun⟨p,q⟩=>[.str p,.str q]) (fun x=>x.2.isPrefixOf x.1=true) (fun x=>.str (x.1.drop x.2.length))
theorem Us:Au Tryz.prog 145 Ox:=by
 refine Ps rfl (fun _=>rfl) (fun _=>rfl) (fun _=>rfl) (fun⟨_,_⟩ _=>⟨trivial,trivial,trivial⟩) Tryz.call145 ?_;rintro⟨l,p⟩ hpre y w args ρ hw hR hsz hs;have hpre:p.isPrefixOf l=true:=hpre;have h0:=Hm (hs 0 _ rfl);have h1:=Hm (hs 1 _ rfl);have ha:=B93 hsz h0 h1;rw[ha];refine(Tryz.strings_TrimPrefix (toB l) (toB p) w).mono ?_;rintro e w' ⟨rfl,rfl⟩;refine⟨?_,RowKit.Below.refl _ _⟩;have:Lib.trimPrefix l p=l.drop p.length:=by
  unfold Lib.trimPrefix;rw[if_pos];exact hpre
 show Ending.returned (.string ⟨(Lib.trimPrefix l p).toArray⟩)=_;rw[this];rfl
def Cx:Bd:=con [.co [some 4],.rd [none,none,none,none,none,none]] false (Tr×OpR) (fun⟨t,o⟩=>[.agg [.own 4 (t.map Aa)],.agg (Ai o)]) (fun x=>Ar x.1=true∧smT x.1∧smO x.2∧El x.2.path=false∧El x.2.to=false) (fun x=>.tup [.agg [.own 4 ((Nq x.1 x.2).1.map Aa)],.int .i64 (Nq x.1 x.2).2])
def A0c:Env:=⟨A4 B5,A4 [(44,Gx),(47,E0),(66,I7),(83,F5),(139,Jm),(145,Ox)],[0,1,2,3,4,5,6,7,8,13,20,24,25,26,27,35,56]⟩
theorem Zy:B6 A0c (Av Tryz.f110) Tryz.f110.results.toList Cx:=by
 rintro⟨t,o⟩ hs;obtain⟨ok,hs1,hs2,hs3,hs4⟩:Ar t=true∧smT t∧smO o∧El o.path=false∧El o.to=false:=hs;have hl:=Fp ok;have hsrt:=F2 ok;have ho1:=hs2.1;have ho2:=hs2.2.1;have hg:=Zw (t:=t) hs3;refine⟨trivial,?_⟩;skip;refine⟨(t,o.path),by refine congrArg (fun x=>[AV.agg [AV.rd 4 x],AV.str o.path]) ?_;simp[rdI],fun _=>hs1,?_⟩;skip
 (conv=>whnf);refine⟨fun h1=>?_,fun h1=>?_⟩
 ·have h1:decide (fnd (fun y=>y.path==o.path) t≥0)=false:=by simpa using h1
  have hr:Nq t o=(t,2):=by rw[Nq,hg,h1];rfl
  rw[show Cx.res (t,o)=.tup [.agg [.own 4 (t.map Aa)],.int .i64 2] by show AV.tup [.agg [.own 4 ((Nq t o).1.map Aa)],.int .i64 (Nq t o).2]=_;rw[hr]];skip;exact⟨trivial,⟨⟨rfl,by first|(simp;done)|(simp;rfl)⟩,trivial⟩,rfl,trivial⟩
 have h1:decide (fnd (fun y=>y.path==o.path) t≥0)=true:=by simpa using h1
 skip;refine⟨(t,o.to),by refine congrArg (fun x=>[AV.agg [AV.rd 4 x],AV.str o.to]) ?_;simp[rdI],fun _=>⟨hs1,by show o.to.length≤_;omega,hs4⟩,?_⟩;skip
 (conv=>whnf);refine⟨fun h2=>?_,fun h2=>?_⟩
 ·have h2:(Mq t o.to !=0)=true:=h2
  have hr:Nq t o=(t,Mq t o.to):=by rw[Nq,hg,h1,h2];rfl
  rw[show Cx.res (t,o)=.tup [.agg [.own 4 (t.map Aa)],.int .i64 (Mq t o.to)] by show AV.tup [.agg [.own 4 ((Nq t o).1.map Aa)],.int .i64 (Nq t o).2]=_;rw[hr]];skip;exact⟨trivial,⟨⟨rfl,by first|(simp;done)|(simp;rfl)⟩,trivial⟩,rfl,trivial⟩
 have h2:(Mq t o.to !=0)=false:=h2;have hren:Nq t o=if t.any (stuck o)then(C1g o t,1)else(Kx (t.map (Gh o)),0):=by rw[Nq,hg,h1,h2];rfl
 obtain⟨_,hno⟩:=B5j h2;skip;refine B2 (fun i:Nat=>⟨[(2,⟨none,.bx 1 0⟩),(3,⟨none,.bx 2 0⟩),(4,⟨none,.bx 3 0⟩),(5,⟨none,.int .i64 0⟩),(24,⟨none,.view 1 [(0,0)] 0 t.length⟩),(25,⟨none,.int .i64 t.length⟩),(26,⟨none,.int .i64 i⟩)],[(3,.own 1 [[.own 4 []]]),(2,.own 6 [Ai o]),(1,.own 1 [[.own 4 ((Tl t o i).map Aa)]])],4⟩)
  (fun i=>i≤t.length∧(t.take i).any (stuck o)=false) (fun i=>t.length - i) 0 ?_ ⟨by omega,rfl⟩ ?_
 ·(refine⟨?_,?_,rfl⟩<;>repeat' (first|exact rfl|exact trivial|refine⟨?_,?_⟩|fail)<;>(conv=>whnf))
  all_goals simp[Tl]
 rintro i ⟨hi,hI⟩
 (conv=>whnf);refine⟨fun h3=>?_,fun h3=>?_⟩
 ·have h3:i<t.length:=by simpa using h3
  obtain⟨y,hy⟩:=B7 h3;have hym:=List.mem_of_getElem? hy;have hyl:=(hs1.2 y hym).1;obtain⟨m1,m2,m3⟩:=C7z (o:=o) hy;have hml:=C5f (t:=t) (o:=o) (i:=i);have hcell:((Tl t o i).map Aa)[0+(i:Int).toNat]? =some (Aa y):=by rw[Nat.zero_add,Int.toNat_natCast];exact Ao m1
  have hidx:0+(i:Int).toNat<((Tl t o i).map Aa).length:=by rw[List.length_map,hml];omega
  have hlen2:((Tl t o i).map Aa).length=t.length:=by rw[List.length_map,hml]
  repeat((conv=>whnf);first|refine⟨bb,?_⟩|refine⟨Aa y,fun _=>hcell,?_⟩)
  refine⟨(y.path,o.path),rfl,fun _=>⟨hyl,by show o.path.length≤_;omega⟩,?_⟩;skip
  (conv=>whnf);refine⟨fun h4=>?_,fun h4=>?_⟩
  ·have h4:Cw y.path o.path=true:=h4
   have hmi:=C0z hs3 hs4 h4;have hb:(0:Int)≤(i:Int)∧(i:Int)<((((Tl t o i).map Aa).length:Nat):Int):=⟨by omega,by rw[hlen2];omega⟩
   repeat((conv=>whnf);first|refine⟨(by kernel_rfl:Bu _ _=true),?_⟩|refine⟨fun(h:Cy _)=>by first|assumption|exact absurd (Eq.trans (Eq.symm h) (by assumption):true=false) Bool.noConfusion,?_⟩|refine⟨bb,?_⟩|refine⟨(y.path,o.path),rfl,fun _=>C08 hs3 h4,?_⟩|refine⟨Aa y,hcell,?_⟩|refine⟨_,fun _=>A4f hidx,?_⟩|refine⟨fun _=>⟨hb.1,by rw[List.length_set];exact hb.2⟩,?_⟩)
   have hpl:=A6u ok hym;refine⟨o.to++y.path.drop o.path.length,rfl,fun _=>by show(o.to++y.path.drop o.path.length).length≤4194304;simp;omega,?_⟩;skip
   (conv=>whnf);refine⟨fun h5=>?_,fun h5=>?_⟩
   ·have h5:(!B4 (o.to++y.path.drop o.path.length))=true:=h5
    have hst:stuck o y=true:=by rw[hmi.1]at h5;simpa using h5
    have hr:Nq t o=(C1g o t,1):=by rw[hren,if_pos (List.any_eq_true.2 ⟨y,hym,hst⟩)]
    have hj:=C2b hI hy hst;rw[show Cx.res (t,o)=.tup [.agg [.own 4 (((Tl t o i).set i (C8u o y)).map Aa)],.int .i64 1] by show AV.tup [.agg [.own 4 ((Nq t o).1.map Aa)],.int .i64 (Nq t o).2]=_;rw[hr,m2,hj]];skip;refine⟨trivial,⟨⟨rfl,?_⟩,trivial⟩,rfl,trivial⟩;simp only[List.drop_zero,List.take_length,Nat.zero_add,Int.toNat_natCast,List.map_set];rfl
   have h5:(!B4 (o.to++y.path.drop o.path.length))=false:=h5;have hst:stuck o y=false:=by rw[hmi.1]at h5;simpa using h5
   have hmv:Gh o y=⟨o.to++y.path.drop o.path.length,y.kind,y.data,y.time⟩:=by
    rw[hmi.2 hst,Gh,if_pos h4]
   repeat((conv=>whnf);refine⟨_,w64 (bb),?_⟩)
   refine Bt (i+1) ?_ ⟨h3,by rw[Bk hy,List.any_append,hI];simp[hst]⟩ (by first|omega|(simp;done)|(simp;omega))
   (refine⟨?_,?_,rfl⟩<;>repeat' (first|exact rfl|exact trivial|refine⟨?_,?_⟩|fail)<;>(conv=>whnf))
   rw[←m3,hmv];show[[AV.own 4 _]]=_;rw[List.map_set,Nat.zero_add,Int.toNat_natCast];rfl
  have h4:Cw y.path o.path=false:=h4;have hmo:=T1 (o:=o) h4;repeat((conv=>whnf);refine⟨_,w64 (bb),?_⟩)
  refine Bt (i+1) ?_ ⟨h3,by rw[Bk hy,List.any_append,hI];simp[hmo.2]⟩ (by first|omega|(simp;done)|(simp;omega))
  (refine⟨?_,?_,rfl⟩<;>repeat' (first|exact rfl|exact trivial|refine⟨?_,?_⟩|fail)<;>(conv=>whnf))
  rw[←m3,hmo.1,C63 m1]
 ·have h3:i=t.length:=by
   have:¬i<t.length:=by simpa using h3
   omega
  subst h3;rw[List.take_length]at hI;have hr:Nq t o=(Kx (t.map (Gh o)),0):=by rw[hren,hI];rfl
  have hd:=B3i ok hs3 hs4 hno hI;repeat((conv=>whnf);refine⟨bb,?_⟩)
  refine⟨t.map (Gh o),by refine congrArg (fun x=>[AV.own 4 x,AV.fn 67 []]) ?_;rw[C4u],fun _=>⟨hd,by rw[List.length_map];exact hs1.1⟩,?_⟩;rw[show Cx.res (t,o)=.tup [.agg [.own 4 ((Kx (t.map (Gh o))).map Aa)],.int .i64 0] by show AV.tup [.agg [.own 4 ((Nq t o).1.map Aa)],.int .i64 (Nq t o).2]=_;rw[hr]];skip;exact⟨trivial,⟨⟨rfl,by first|(simp;done)|(simp;rfl)⟩,trivial⟩,rfl,trivial⟩
theorem Y7:Au Tryz.prog 110 Cx:=Al (Bx _ _) (FOk.cons Wc (FOk.cons J1 (FOk.cons Mp (FOk.cons Nn (FOk.cons Z0 (FOk.cons Us FOk.nil)))))) mixed Tryz.func110 rfl Tryz.call110 (by decide) (by kernel_rfl) Zy (by intro _ (y:(Tr×OpR)) _;exact⟨by simp[Cx,con,A9,A8,AV.noRd,A7,Ab,A5,A6,Aa,Ai],by simp[Cx,con,A9,A8,AV.noRd,A7,Ab,A5,A6,Aa,Ai]⟩) (by intro(y:(Tr×OpR)) _;first|(simp[Cx,con,A9,A8,Ad,AV.free,A2,A3,A1,A6,Aa,Ai];done)|(obtain⟨_,_⟩:=y;simp[Cx,con,A9,A8,Ad,AV.free,A2,A3,A1,A6,Aa,Ai];done)|(obtain⟨_,_,_⟩:=y;simp[Cx,con,A9,A8,Ad,AV.free,A2,A3,A1,A6,Aa,Ai];done))
def Bg:Bd:=con [mS 4,.rd [none,none,none,none,none,none]] false (Tr×OpR) (fun⟨t,o⟩=>[rdT t,.agg (Ai o)]) (fun x=>smT x.1∧smO x.2) (fun x=>.tup [.agg [.own 4 ((Ap x.1 x.2).1.map Aa)],.int .i64 (Ap x.1 x.2).2])
def B1y:Env:=⟨A4 B5,A4 [(32,H4),(44,Gx),(58,F0),(105,Ka),(106,Gl),(107,Db),(108,Cs),(109,Dk),(110,Cx)],[0,1,2,3,4,5,6,7,8,16,40,46,47,57,67,76,85]⟩
theorem B0v:B6 B1y (Av Tryz.f59) Tryz.f59.results.toList Bg:=by
 rintro⟨t,o⟩ hs;obtain⟨hs1,hs2⟩:smT t∧smO o:=hs;have ho1:=hs2.1;have ho2:=hs2.2.1;refine⟨trivial,?_⟩;skip;refine⟨t,rfl,fun _=>hs1,?_⟩;repeat((conv=>whnf);refine⟨fun h=>h,?_⟩)
 refine⟨o,rfl,fun _=>trivial,?_⟩;repeat((conv=>whnf);refine⟨fun h=>h,?_⟩)
 (conv=>whnf);refine⟨fun h1=>?_,fun h1=>?_⟩
 ·have h1:(!Ar t|| !Hz o)=true:=h1
  have hr:Ap t o=(t,10):=by rw[Ap,if_pos h1]
  skip;refine⟨t,rfl,fun _=>hs1,?_⟩;rw[show Bg.res (t,o)=.tup [.agg [.own 4 (t.map Aa)],.int .i64 10] by show AV.tup [.agg [.own 4 ((Ap t o).1.map Aa)],.int .i64 (Ap t o).2]=_;rw[hr]];skip;exact⟨trivial,⟨⟨rfl,by simp⟩,trivial⟩,rfl,trivial⟩
 have h1:(!Ar t|| !Hz o)=false:=h1;have ok:Ar t=true:=by revert h1;cases Ar t<;>simp
 have hno:Hz o=true:=by revert h1;cases Hz o<;>simp
 skip;refine⟨o.path,rfl,fun _=>by show o.path.length≤_;omega,?_⟩;repeat((conv=>whnf);refine⟨fun h=>h,?_⟩)
 (conv=>whnf);refine⟨fun h2=>?_,fun h2=>?_⟩
 ·have h2:(!El o.path&&o.kind==8)=true:=h2
  have hp:El o.path=false:=by revert h2;cases El o.path<;>simp
  have hk:(o.kind==8)=true:=by revert h2;cases El o.path<;>simp
  have hne:∀n:Int,n≠8→(o.kind==n)=false:=fun n hn=>by
   rw[beq_eq_false_iff_ne,beq_iff_eq.1 hk];exact fun e=>hn e.symm
  have k0:=hne 0 (by decide);have k1:=hne 1 (by decide);have k2:=hne 2 (by decide);have k3:=hne 3 (by decide);have k4:=hne 4 (by decide);have k5:=hne 5 (by decide);have k6:=hne 6 (by decide);have k7:=hne 7 (by decide);have hd0:Ap t o=if El o.to||Cw o.to o.path then(t,1)else Kk t o:=by
   rw[Ap,if_neg (by rw[h1];decide),if_neg (by rw[hp];decide),k0,k1,k2,k3,k4,k5,k6,k7];rfl
  repeat((conv=>whnf);refine⟨fun(h:Cy _)=>by first|assumption|exact absurd (Eq.trans (Eq.symm h) (by assumption):true=false) Bool.noConfusion,?_⟩)
  refine⟨o.to,rfl,fun _=>by show o.to.length≤_;omega,?_⟩;repeat((conv=>whnf);refine⟨fun h=>h,?_⟩)
  refine⟨(o.to,o.path),rfl,fun _=>⟨by show o.to.length≤_;omega,by show o.path.length≤_;omega⟩,?_⟩;repeat((conv=>whnf);refine⟨fun h=>h,?_⟩)
  (conv=>whnf);refine⟨fun h3=>?_,fun h3=>?_⟩
  ·have h3:(El o.path||(o.kind==8&&(El o.to||Cw o.to o.path)))=true:=h3
   rw[hp,hk]at h3;have h3:(El o.to||Cw o.to o.path)=true:=h3;have hr:Ap t o=(t,1):=by rw[hd0,if_pos h3]
   skip;refine⟨t,rfl,fun _=>hs1,?_⟩;rw[show Bg.res (t,o)=.tup [.agg [.own 4 (t.map Aa)],.int .i64 1] by show AV.tup [.agg [.own 4 ((Ap t o).1.map Aa)],.int .i64 (Ap t o).2]=_;rw[hr]];skip;exact⟨trivial,⟨⟨rfl,by simp⟩,trivial⟩,rfl,trivial⟩
  have h3:(El o.path||(o.kind==8&&(El o.to||Cw o.to o.path)))=false:=h3;rw[hp,hk]at h3;have h3:(El o.to||Cw o.to o.path)=false:=h3;have hto:El o.to=false:=(Bool.or_eq_false_iff.1 h3).1;have hd:Ap t o=Kk t o:=by rw[hd0,if_neg (by rw[h3];decide)]
  obtain⟨e1,e2,e3⟩:=C3s ok hp hto;skip;refine⟨t,rfl,fun _=>hs1,?_⟩;skip
  (conv=>whnf);refine⟨fun h=>Bool.noConfusion (Eq.trans (Eq.symm h) k0),fun _=>?_⟩
  conv=>whnf
  (conv=>whnf);refine⟨fun h=>Bool.noConfusion (Eq.trans (Eq.symm h) k1),fun _=>?_⟩
  conv=>whnf
  (conv=>whnf);refine⟨fun h=>Bool.noConfusion (Eq.trans (Eq.symm h) k2),fun _=>?_⟩
  conv=>whnf
  (conv=>whnf);refine⟨fun h=>Bool.noConfusion (Eq.trans (Eq.symm h) k3),fun _=>?_⟩
  conv=>whnf
  (conv=>whnf);refine⟨fun h=>Bool.noConfusion (Eq.trans (Eq.symm h) k4),fun _=>?_⟩
  conv=>whnf
  (conv=>whnf);refine⟨fun h=>Bool.noConfusion (Eq.trans (Eq.symm h) k5),fun _=>?_⟩
  conv=>whnf
  (conv=>whnf);refine⟨fun h=>Bool.noConfusion (Eq.trans (Eq.symm h) k6),fun _=>?_⟩
  conv=>whnf
  (conv=>whnf);refine⟨fun h=>Bool.noConfusion (Eq.trans (Eq.symm h) k7),fun _=>?_⟩
  conv=>whnf
  (conv=>whnf);refine⟨fun _=>?_,fun h=>Bool.noConfusion (Eq.trans (Eq.symm hk) h)⟩
  skip;refine⟨(t,o),by refine congrArg (fun x=>[AV.agg [AV.own 4 x],AV.agg (Ai o)]) ?_;simp,fun _=>⟨ok,hs1,hs2,hp,hto⟩,?_⟩;skip
  (conv=>whnf);refine⟨fun h9=>?_,fun h9=>?_⟩
  ·have h9:((Nq t o).2 !=0)=true:=h9
   have hr:Ap t o=(t,(Nq t o).2):=by
    have h10:(Nq t o).2≠0:=by simpa using h9
    rw[hd];exact(Prod.ext (e3 (e1▸h10)) e1.symm)
   skip;refine⟨t,rfl,fun _=>hs1,?_⟩;rw[show Bg.res (t,o)=.tup [.agg [.own 4 (t.map Aa)],.int .i64 (Nq t o).2] by show AV.tup [.agg [.own 4 ((Ap t o).1.map Aa)],.int .i64 (Ap t o).2]=_;rw[hr]];skip;exact⟨trivial,⟨⟨rfl,by simp⟩,trivial⟩,rfl,trivial⟩
  have h9:((Nq t o).2 !=0)=false:=h9;have hr:Ap t o=((Nq t o).1,0):=by
   have h10:(Nq t o).2=0:=by simpa using h9
   rw[hd];exact(Prod.ext (e2 (e1▸h10)).symm (e1▸h10))
  rw[show Bg.res (t,o)=.tup [.agg [.own 4 ((Nq t o).1.map Aa)],.int .i64 0] by show AV.tup [.agg [.own 4 ((Ap t o).1.map Aa)],.int .i64 (Ap t o).2]=_;rw[hr]];skip;exact⟨trivial,⟨⟨rfl,by simp⟩,trivial⟩,rfl,trivial⟩
 have h2:(!El o.path&&o.kind==8)=false:=h2;repeat((conv=>whnf);first|refine⟨fun h=>h,?_⟩|refine⟨fun h=>(absurd (Eq.trans (Eq.symm h) (by assumption):true=false) Bool.noConfusion:False),?_⟩)
 refine⟨(o.to,o.path),rfl,fun _=>⟨by show o.to.length≤_;omega,by show o.path.length≤_;omega⟩,?_⟩;repeat((conv=>whnf);first|refine⟨fun h=>h,?_⟩|refine⟨fun(h:Cy _)=>by first|assumption|exact absurd (Eq.trans (Eq.symm h) (by assumption):true=false) Bool.noConfusion,?_⟩|refine⟨fun h=>(absurd (Eq.trans (Eq.symm h) (by assumption):true=false) Bool.noConfusion:False),?_⟩)
 (conv=>whnf);refine⟨fun h3=>?_,fun h3=>?_⟩
 ·have hp:El o.path=true:=by
   have h3:(El o.path||false)=true:=h3;revert h3;cases El o.path<;>simp
  have hr:Ap t o=(t,1):=by rw[Ap,if_neg (by rw[h1];decide),if_pos hp]
  skip;refine⟨t,rfl,fun _=>hs1,?_⟩;rw[show Bg.res (t,o)=.tup [.agg [.own 4 (t.map Aa)],.int .i64 1] by show AV.tup [.agg [.own 4 ((Ap t o).1.map Aa)],.int .i64 (Ap t o).2]=_;rw[hr]];skip;exact⟨trivial,⟨⟨rfl,by simp⟩,trivial⟩,rfl,trivial⟩
 have hp:El o.path=false:=by
  have h3:(El o.path||false)=false:=h3;revert h3;cases El o.path<;>simp
 have k8:(o.kind==8)=false:=by
  rw[hp]at h2;exact h2
 have hd0:Ap t o=if o.kind==0||o.kind==1||o.kind==2 then Cf t o
  else if o.kind==3||o.kind==4||o.kind==5 then D0 t o
  else if o.kind==6||o.kind==7 then Cp t o
  else if El o.to||Cw o.to o.path then(t,1)
  else Kk t o:=by rw[Ap,if_neg (by rw[h1];decide),if_neg (by rw[hp];decide)]
 skip;refine⟨t,rfl,fun _=>hs1,?_⟩;conv=>whnf
 (conv=>whnf);refine⟨fun k0=>?_,fun k0=>?_⟩
 ·have k0:(o.kind==0)=true:=k0
  have hd:Ap t o=Cf t o:=by rw[hd0,k0];rfl
  (conv=>whnf);refine⟨fun _=>?_,fun h=>Bool.noConfusion (Eq.trans (Eq.symm k0) h)⟩
  skip;refine⟨(t,o),by refine congrArg (fun x=>[AV.agg [AV.own 4 x],AV.agg (Ai o)]) ?_;simp,fun _=>⟨ok,hs1,hs2,hp⟩,?_⟩;skip
  (conv=>whnf);refine⟨fun h9=>?_,fun h9=>?_⟩
  ·have h9:((Cf t o).2 !=0)=true:=h9
   have hr:Ap t o=(t,(Cf t o).2):=by
    have h10:(Cf t o).2≠0:=by simpa using h9
    rw[hd];exact(Prod.ext (A8s h10) rfl)
   skip;refine⟨t,rfl,fun _=>hs1,?_⟩;rw[show Bg.res (t,o)=.tup [.agg [.own 4 (t.map Aa)],.int .i64 (Cf t o).2] by show AV.tup [.agg [.own 4 ((Ap t o).1.map Aa)],.int .i64 (Ap t o).2]=_;rw[hr]];skip;exact⟨trivial,⟨⟨rfl,by simp⟩,trivial⟩,rfl,trivial⟩
  have h9:((Cf t o).2 !=0)=false:=h9;have hr:Ap t o=((Cf t o).1,0):=by
   have h10:(Cf t o).2=0:=by simpa using h9
   rw[hd];exact(Prod.ext rfl h10)
  rw[show Bg.res (t,o)=.tup [.agg [.own 4 ((Cf t o).1.map Aa)],.int .i64 0] by show AV.tup [.agg [.own 4 ((Ap t o).1.map Aa)],.int .i64 (Ap t o).2]=_;rw[hr]];skip;exact⟨trivial,⟨⟨rfl,by simp⟩,trivial⟩,rfl,trivial⟩
 have k0:(o.kind==0)=false:=k0;conv=>whnf
 (conv=>whnf);refine⟨fun k1=>?_,fun k1=>?_⟩
 ·have k1:(o.kind==1)=true:=k1
  have hd:Ap t o=Cf t o:=by rw[hd0,k1,k0];rfl
  (conv=>whnf);refine⟨fun _=>?_,fun h=>Bool.noConfusion (Eq.trans (Eq.symm k1) h)⟩
  skip;refine⟨(t,o),by refine congrArg (fun x=>[AV.agg [AV.own 4 x],AV.agg (Ai o)]) ?_;simp,fun _=>⟨ok,hs1,hs2,hp⟩,?_⟩;skip
  (conv=>whnf);refine⟨fun h9=>?_,fun h9=>?_⟩
  ·have h9:((Cf t o).2 !=0)=true:=h9
   have hr:Ap t o=(t,(Cf t o).2):=by
    have h10:(Cf t o).2≠0:=by simpa using h9
    rw[hd];exact(Prod.ext (A8s h10) rfl)
   skip;refine⟨t,rfl,fun _=>hs1,?_⟩;rw[show Bg.res (t,o)=.tup [.agg [.own 4 (t.map Aa)],.int .i64 (Cf t o).2] by show AV.tup [.agg [.own 4 ((Ap t o).1.map Aa)],.int .i64 (Ap t o).2]=_;rw[hr]];skip;exact⟨trivial,⟨⟨rfl,by simp⟩,trivial⟩,rfl,trivial⟩
  have h9:((Cf t o).2 !=0)=false:=h9;have hr:Ap t o=((Cf t o).1,0):=by
   have h10:(Cf t o).2=0:=by simpa using h9
   rw[hd];exact(Prod.ext rfl h10)
  rw[show Bg.res (t,o)=.tup [.agg [.own 4 ((Cf t o).1.map Aa)],.int .i64 0] by show AV.tup [.agg [.own 4 ((Ap t o).1.map Aa)],.int .i64 (Ap t o).2]=_;rw[hr]];skip;exact⟨trivial,⟨⟨rfl,by simp⟩,trivial⟩,rfl,trivial⟩
 have k1:(o.kind==1)=false:=k1;conv=>whnf
 (conv=>whnf);refine⟨fun k2=>?_,fun k2=>?_⟩
 ·have k2:(o.kind==2)=true:=k2
  have hd:Ap t o=Cf t o:=by rw[hd0,k2,k1,k0];rfl
  skip;refine⟨(t,o),by refine congrArg (fun x=>[AV.agg [AV.own 4 x],AV.agg (Ai o)]) ?_;simp,fun _=>⟨ok,hs1,hs2,hp⟩,?_⟩;skip
  (conv=>whnf);refine⟨fun h9=>?_,fun h9=>?_⟩
  ·have h9:((Cf t o).2 !=0)=true:=h9
   have hr:Ap t o=(t,(Cf t o).2):=by
    have h10:(Cf t o).2≠0:=by simpa using h9
    rw[hd];exact(Prod.ext (A8s h10) rfl)
   skip;refine⟨t,rfl,fun _=>hs1,?_⟩;rw[show Bg.res (t,o)=.tup [.agg [.own 4 (t.map Aa)],.int .i64 (Cf t o).2] by show AV.tup [.agg [.own 4 ((Ap t o).1.map Aa)],.int .i64 (Ap t o).2]=_;rw[hr]];skip;exact⟨trivial,⟨⟨rfl,by simp⟩,trivial⟩,rfl,trivial⟩
  have h9:((Cf t o).2 !=0)=false:=h9;have hr:Ap t o=((Cf t o).1,0):=by
   have h10:(Cf t o).2=0:=by simpa using h9
   rw[hd];exact(Prod.ext rfl h10)
  rw[show Bg.res (t,o)=.tup [.agg [.own 4 ((Cf t o).1.map Aa)],.int .i64 0] by show AV.tup [.agg [.own 4 ((Ap t o).1.map Aa)],.int .i64 (Ap t o).2]=_;rw[hr]];skip;exact⟨trivial,⟨⟨rfl,by simp⟩,trivial⟩,rfl,trivial⟩
 have k2:(o.kind==2)=false:=k2;have hd2:=hd0;rw[k0,k1,k2]at hd2;conv=>whnf
 (conv=>whnf);refine⟨fun k3=>?_,fun k3=>?_⟩
 ·have k3:(o.kind==3)=true:=k3
  have hd:Ap t o=D0 t o:=by rw[hd2,k3];rfl
  (conv=>whnf);refine⟨fun _=>?_,fun h=>Bool.noConfusion (Eq.trans (Eq.symm k3) h)⟩
  have hkk:(o.kind==3||o.kind==4||o.kind==5)=true:=by rw[k3];rfl
  skip;refine⟨(t,o),by refine congrArg (fun x=>[AV.agg [AV.own 4 x],AV.agg (Ai o)]) ?_;simp,fun _=>⟨ok,hno,hs1,hs2,hp,hkk⟩,?_⟩;skip
  (conv=>whnf);refine⟨fun h9=>?_,fun h9=>?_⟩
  ·have h9:((D0 t o).2 !=0)=true:=h9
   have hr:Ap t o=(t,(D0 t o).2):=by
    have h10:(D0 t o).2≠0:=by simpa using h9
    rw[hd];exact(Prod.ext (A5t h10) rfl)
   skip;refine⟨t,rfl,fun _=>hs1,?_⟩;rw[show Bg.res (t,o)=.tup [.agg [.own 4 (t.map Aa)],.int .i64 (D0 t o).2] by show AV.tup [.agg [.own 4 ((Ap t o).1.map Aa)],.int .i64 (Ap t o).2]=_;rw[hr]];skip;exact⟨trivial,⟨⟨rfl,by simp⟩,trivial⟩,rfl,trivial⟩
  have h9:((D0 t o).2 !=0)=false:=h9;have hr:Ap t o=((D0 t o).1,0):=by
   have h10:(D0 t o).2=0:=by simpa using h9
   rw[hd];exact(Prod.ext rfl h10)
  rw[show Bg.res (t,o)=.tup [.agg [.own 4 ((D0 t o).1.map Aa)],.int .i64 0] by show AV.tup [.agg [.own 4 ((Ap t o).1.map Aa)],.int .i64 (Ap t o).2]=_;rw[hr]];skip;exact⟨trivial,⟨⟨rfl,by simp⟩,trivial⟩,rfl,trivial⟩
 have k3:(o.kind==3)=false:=k3;conv=>whnf
 (conv=>whnf);refine⟨fun k4=>?_,fun k4=>?_⟩
 ·have k4:(o.kind==4)=true:=k4
  have hd:Ap t o=D0 t o:=by rw[hd2,k4,k3];rfl
  (conv=>whnf);refine⟨fun _=>?_,fun h=>Bool.noConfusion (Eq.trans (Eq.symm k4) h)⟩
  have hkk:(o.kind==3||o.kind==4||o.kind==5)=true:=by rw[k3,k4];rfl
  skip;refine⟨(t,o),by refine congrArg (fun x=>[AV.agg [AV.own 4 x],AV.agg (Ai o)]) ?_;simp,fun _=>⟨ok,hno,hs1,hs2,hp,hkk⟩,?_⟩;skip
  (conv=>whnf);refine⟨fun h9=>?_,fun h9=>?_⟩
  ·have h9:((D0 t o).2 !=0)=true:=h9
   have hr:Ap t o=(t,(D0 t o).2):=by
    have h10:(D0 t o).2≠0:=by simpa using h9
    rw[hd];exact(Prod.ext (A5t h10) rfl)
   skip;refine⟨t,rfl,fun _=>hs1,?_⟩;rw[show Bg.res (t,o)=.tup [.agg [.own 4 (t.map Aa)],.int .i64 (D0 t o).2] by show AV.tup [.agg [.own 4 ((Ap t o).1.map Aa)],.int .i64 (Ap t o).2]=_;rw[hr]];skip;exact⟨trivial,⟨⟨rfl,by simp⟩,trivial⟩,rfl,trivial⟩
  have h9:((D0 t o).2 !=0)=false:=h9;have hr:Ap t o=((D0 t o).1,0):=by
   have h10:(D0 t o).2=0:=by simpa using h9
   rw[hd];exact(Prod.ext rfl h10)
  rw[show Bg.res (t,o)=.tup [.agg [.own 4 ((D0 t o).1.map Aa)],.int .i64 0] by show AV.tup [.agg [.own 4 ((Ap t o).1.map Aa)],.int .i64 (Ap t o).2]=_;rw[hr]];skip;exact⟨trivial,⟨⟨rfl,by simp⟩,trivial⟩,rfl,trivial⟩
 have k4:(o.kind==4)=false:=k4;conv=>whnf
 (conv=>whnf);refine⟨fun k5=>?_,fun k5=>?_⟩
 ·have k5:(o.kind==5)=true:=k5
  have hd:Ap t o=D0 t o:=by rw[hd2,k5,k4,k3];rfl
  have hkk:(o.kind==3||o.kind==4||o.kind==5)=true:=by rw[k3,k4,k5];rfl
  skip;refine⟨(t,o),by refine congrArg (fun x=>[AV.agg [AV.own 4 x],AV.agg (Ai o)]) ?_;simp,fun _=>⟨ok,hno,hs1,hs2,hp,hkk⟩,?_⟩;skip
  (conv=>whnf);refine⟨fun h9=>?_,fun h9=>?_⟩
  ·have h9:((D0 t o).2 !=0)=true:=h9
   have hr:Ap t o=(t,(D0 t o).2):=by
    have h10:(D0 t o).2≠0:=by simpa using h9
    rw[hd];exact(Prod.ext (A5t h10) rfl)
   skip;refine⟨t,rfl,fun _=>hs1,?_⟩;rw[show Bg.res (t,o)=.tup [.agg [.own 4 (t.map Aa)],.int .i64 (D0 t o).2] by show AV.tup [.agg [.own 4 ((Ap t o).1.map Aa)],.int .i64 (Ap t o).2]=_;rw[hr]];skip;exact⟨trivial,⟨⟨rfl,by simp⟩,trivial⟩,rfl,trivial⟩
  have h9:((D0 t o).2 !=0)=false:=h9;have hr:Ap t o=((D0 t o).1,0):=by
   have h10:(D0 t o).2=0:=by simpa using h9
   rw[hd];exact(Prod.ext rfl h10)
  rw[show Bg.res (t,o)=.tup [.agg [.own 4 ((D0 t o).1.map Aa)],.int .i64 0] by show AV.tup [.agg [.own 4 ((Ap t o).1.map Aa)],.int .i64 (Ap t o).2]=_;rw[hr]];skip;exact⟨trivial,⟨⟨rfl,by simp⟩,trivial⟩,rfl,trivial⟩
 have k5:(o.kind==5)=false:=k5;rw[k3,k4,k5]at hd2;conv=>whnf
 (conv=>whnf);refine⟨fun k6=>?_,fun k6=>?_⟩
 ·have k6:(o.kind==6)=true:=k6
  have hd:Ap t o=Cp t o:=by rw[hd2,k6];rfl
  (conv=>whnf);refine⟨fun _=>?_,fun h=>Bool.noConfusion (Eq.trans (Eq.symm k6) h)⟩
  skip;refine⟨(t,o),by refine congrArg (fun x=>[AV.agg [AV.own 4 x],AV.agg (Ai o)]) ?_;simp,fun _=>⟨ok,hs1,hs2,hp⟩,?_⟩;skip
  (conv=>whnf);refine⟨fun h9=>?_,fun h9=>?_⟩
  ·have h9:((Cp t o).2 !=0)=true:=h9
   have hr:Ap t o=(t,(Cp t o).2):=by
    have h10:(Cp t o).2≠0:=by simpa using h9
    rw[hd];exact(Prod.ext (B2z h10) rfl)
   skip;refine⟨t,rfl,fun _=>hs1,?_⟩;rw[show Bg.res (t,o)=.tup [.agg [.own 4 (t.map Aa)],.int .i64 (Cp t o).2] by show AV.tup [.agg [.own 4 ((Ap t o).1.map Aa)],.int .i64 (Ap t o).2]=_;rw[hr]];skip;exact⟨trivial,⟨⟨rfl,by simp⟩,trivial⟩,rfl,trivial⟩
  have h9:((Cp t o).2 !=0)=false:=h9;have hr:Ap t o=((Cp t o).1,0):=by
   have h10:(Cp t o).2=0:=by simpa using h9
   rw[hd];exact(Prod.ext rfl h10)
  rw[show Bg.res (t,o)=.tup [.agg [.own 4 ((Cp t o).1.map Aa)],.int .i64 0] by show AV.tup [.agg [.own 4 ((Ap t o).1.map Aa)],.int .i64 (Ap t o).2]=_;rw[hr]];skip;exact⟨trivial,⟨⟨rfl,by simp⟩,trivial⟩,rfl,trivial⟩
 have k6:(o.kind==6)=false:=k6;conv=>whnf
 (conv=>whnf);refine⟨fun k7=>?_,fun k7=>?_⟩
 ·have k7:(o.kind==7)=true:=k7
  have hd:Ap t o=Cp t o:=by rw[hd2,k7,k6];rfl
  skip;refine⟨(t,o),by refine congrArg (fun x=>[AV.agg [AV.own 4 x],AV.agg (Ai o)]) ?_;simp,fun _=>⟨ok,hs1,hs2,hp⟩,?_⟩;skip
  (conv=>whnf);refine⟨fun h9=>?_,fun h9=>?_⟩
  ·have h9:((Cp t o).2 !=0)=true:=h9
   have hr:Ap t o=(t,(Cp t o).2):=by
    have h10:(Cp t o).2≠0:=by simpa using h9
    rw[hd];exact(Prod.ext (B2z h10) rfl)
   skip;refine⟨t,rfl,fun _=>hs1,?_⟩;rw[show Bg.res (t,o)=.tup [.agg [.own 4 (t.map Aa)],.int .i64 (Cp t o).2] by show AV.tup [.agg [.own 4 ((Ap t o).1.map Aa)],.int .i64 (Ap t o).2]=_;rw[hr]];skip;exact⟨trivial,⟨⟨rfl,by simp⟩,trivial⟩,rfl,trivial⟩
  have h9:((Cp t o).2 !=0)=false:=h9;have hr:Ap t o=((Cp t o).1,0):=by
   have h10:(Cp t o).2=0:=by simpa using h9
   rw[hd];exact(Prod.ext rfl h10)
  rw[show Bg.res (t,o)=.tup [.agg [.own 4 ((Cp t o).1.map Aa)],.int .i64 0] by show AV.tup [.agg [.own 4 ((Ap t o).1.map Aa)],.int .i64 (Ap t o).2]=_;rw[hr]];skip;exact⟨trivial,⟨⟨rfl,by simp⟩,trivial⟩,rfl,trivial⟩
 have k7:(o.kind==7)=false:=k7;exfalso;obtain⟨⟨n1,n2⟩,_⟩:=A53 hno;simp only[beq_eq_false_iff_ne]at k0 k1 k2 k3 k4 k5 k6 k7 k8;omega
theorem A8f:Au Tryz.prog 59 Bg:=Al (Bx _ _) (FOk.cons Wj (FOk.cons Wc (FOk.cons Rc (FOk.cons B47 (FOk.cons A27 (FOk.cons A3w (FOk.cons A3g (FOk.cons A1c (FOk.cons Y7 FOk.nil))))))))) mixed Tryz.func59 rfl Tryz.call59 (by decide) (by kernel_rfl) B0v (by intro _ (y:(Tr×OpR)) _;exact⟨by simp[Bg,con,A9,A8,AV.noRd,A7,Ab,A5,A6,Aa,Ai],by simp[Bg,con,A9,A8,AV.noRd,A7,Ab,A5,A6,Aa,Ai]⟩) (by intro(y:(Tr×OpR)) _;first|(simp[Bg,con,A9,A8,Ad,AV.free,A2,A3,A1,A6,rdT,Aa,Ai];done)|(obtain⟨_,_⟩:=y;simp[Bg,con,A9,A8,Ad,AV.free,A2,A3,A1,A6,rdT,Aa,Ai];done)|(obtain⟨_,_,_⟩:=y;simp[Bg,con,A9,A8,Ad,AV.free,A2,A3,A1,A6,rdT,Aa,Ai];done))
def E8:Bd:=con [mS 4,mS 6] false (Tr×List OpR) (fun⟨t,l⟩=>[rdT t,.rd 6 (l.map Ai)]) (fun x=>smT x.1∧B7p x.2) (fun x=>.tup [.agg [.own 4 ((Gk x.1 x.2).1.map Aa)],.own 1 ((Gk x.1 x.2).2.map Ae)])
def A22:Env:=⟨A4 B5,A4 [(58,F0),(59,Bg)],[0,1,2,4,5,6,7,9,10,11,15,16,17,18]⟩
theorem A1a:B6 A22 (Av Tryz.f20) Tryz.f20.results.toList E8:=by
 rintro⟨t,l⟩ hs;obtain⟨hs1,hs2⟩:smT t∧B7p l:=hs;have hl1:=hs2.1;refine⟨trivial,?_⟩;skip;refine⟨t,rfl,fun _=>hs1,?_⟩;skip;refine B2 (fun i:Nat=>⟨[(4,⟨none,.bx 1 0⟩),(6,⟨none,.bx 2 0⟩),(7,⟨none,.view 3 [] 0 (Gk t (l.take i)).2.length⟩),(15,⟨none,.rd 6 (l.map Ai)⟩),(16,⟨none,.int .i64 l.length⟩),(17,⟨none,.int .i64 i⟩)],[(3,.own 1 ((Gk t (l.take i)).2.map Ae)),(2,.own 1 [[.own 4 ((Gk t (l.take i)).1.map Aa)]]),(1,.own 1 [[.own 4 []]])],4⟩)
  (fun i=>i≤l.length) (fun i=>l.length - i) 0 ?_ (by omega) ?_
 ·(refine⟨?_,?_,rfl⟩<;>repeat' (first|exact rfl|exact trivial|refine⟨?_,?_⟩|fail)<;>(conv=>whnf))
  all_goals simp[setCells,Gk]
 intro i hi;have hi:i≤l.length:=hi;obtain⟨hsm,hln⟩:=A0h hs1 hs2 i hi;have hnext:∀{o:OpR},l[i]? =some o→Gk t (l.take (i+1))=Oa (Gk t (l.take i)) o:=fun h=>Yi h;generalize hout:Gk t (l.take i)=out at hsm hln hnext⊢;obtain⟨out,cs⟩:=out;have hsm:smT out:=hsm;have hln:cs.length=i:=hln
 (conv=>whnf);refine⟨fun h2=>?_,fun h2=>?_⟩
 ·have h2:i<l.length:=by simpa using h2
  obtain⟨o,ho⟩:=B7 h2;have hso:=hs2.2 o (List.mem_of_getElem? ho);repeat((conv=>whnf);refine⟨Ai o,fun _=>⟨by omega,Ao ho⟩,?_⟩)
  refine⟨(out,o),by refine congrArg (fun x=>[AV.agg [AV.rd 4 x],AV.agg (Ai o)]) ?_;simp[rdI],fun _=>⟨hsm,hso⟩,?_⟩;repeat((conv=>whnf);first|refine⟨_,w64 (bb),?_⟩|refine⟨bb,?_⟩|refine⟨fun(r:List AV) hr c hc=>by simp[A6]at hr;(try subst hr);simp at hc;(try subst hc);rfl,?_⟩)
  refine Bt (i+1) ?_ h2 (by first|omega|(simp;done)|(simp;omega));rw[hnext ho]
  (refine⟨?_,?_,rfl⟩<;>repeat' (first|exact rfl|exact trivial|refine⟨?_,?_⟩|fail)<;>(conv=>whnf))
  ·show _+1=(cs++[_]).length
   simp
  ·show _++_=(cs++[(Ap out o).2]).map Ae
   simp[Ae]
  ·show[[AV.own 4 _]]=[[AV.own 4 ((Ap out o).1.map Aa)]]
   simp
 ·have h2:i=l.length:=by
   have:¬i<l.length:=by simpa using h2
   omega
  subst h2;rw[List.take_length]at hout;rw[show E8.res (t,l)=.tup [.agg [.own 4 (out.map Aa)],.own 1 (cs.map Ae)] by show AV.tup [.agg [.own 4 ((Gk t l).1.map Aa)],.own 1 ((Gk t l).2.map Ae)]=_;rw[hout]];skip;exact⟨trivial,⟨⟨rfl,by simp⟩,trivial⟩,P1 (by(try simp only[List.drop_zero,List.take_length,Q1]);simp),trivial⟩
theorem A0e:Au Tryz.prog 20 E8:=Al (Bx _ _) (FOk.cons Rc (FOk.cons A8f FOk.nil)) mixed Tryz.func20 rfl Tryz.call20 (by decide) (by kernel_rfl) A1a (by intro _ (y:(Tr×List OpR)) _;exact⟨by simp[E8,con,A9,A8,AV.noRd,A7,Ab,A5,A6,Aa,Ai,Ae],by simp[E8,con,A9,A8,AV.noRd,A7,Ab,A5,A6,Aa,Ai,Ae]⟩) (by intro(y:(Tr×List OpR)) _;first|(simp[E8,con,A9,A8,Ad,AV.free,A2,A3,A1,A6,rdT,Aa,Ai,Ae];done)|(obtain⟨_,_⟩:=y;simp[E8,con,A9,A8,Ad,AV.free,A2,A3,A1,A6,rdT,Aa,Ai,Ae];done)|(obtain⟨_,_,_⟩:=y;simp[E8,con,A9,A8,Ad,AV.free,A2,A3,A1,A6,rdT,Aa,Ai,Ae];done))
end Go.GH
namespace Go.GH
open Go
theorem C7a{a b:Tr}(h:Ph a b=true):a=b:=by
 simp only[Ph,Bool.and_eq_true,decide_eq_true_eq,List.all_eq_true]at h;obtain⟨h1,h2⟩:=h;apply List.ext_getElem h1;intro i hi hj;have:=h2 i (List.mem_range.2 hi);rw[B9u,List.getElem?_eq_getElem hi,List.getElem?_eq_getElem hj]at this;simp only[C1f,Bool.and_eq_true,beq_iff_eq]at this;obtain⟨⟨⟨e1,e2⟩,e3⟩,e4⟩:=this;cases hx:a[i];cases hy:b[i];rw[hx,hy]at e1 e2 e3 e4;simp only at e1 e2 e3 e4;subst e1 e2 e3 e4;rfl
theorem O5{t:Tr}(ok:Ar t=true){y:It}(hy:y∈t):Bl y.path=sl∨∃z,z∈t∧z.kind=2∧Bl y.path=z.path:=by
 obtain⟨h1,h2,h3⟩:=C2k ok hy;by_cases e:(names y.path).length=1
 ·exact .inl (h2 e)
 ·obtain⟨z,hz,hk,_,ha⟩:=h3 (by omega)
  exact .inr ⟨z,hz,hk,ha⟩
theorem A4d{x:It}{b:Tr}(h:Iz x b=false):∃y,Aj b x.path=some y∧y.kind=x.kind:=by
 unfold Iz at h;cases hg:Aj b x.path with
 |none=>rw[hg]at h;cases h
 |some y=>
  rw[hg]at h;simp only[Oe,Bool.or_eq_false_iff]at h;exact⟨y,rfl,by simpa using h.1⟩
theorem B48{a b:Tr}(oa:Ar a=true)(ob:Ar b=true){x z:It}(hx:x∈a)(hz:z∈a)(hzk:z.kind=2)(hab:Bl x.path=z.path)(hg:Iz x b=false):Iz z b=false:=by
 obtain⟨y,hy,hyk⟩:=A4d hg;have hxs:=(N8 oa hx).2;have hzs:=(N8 oa hz).2;obtain⟨hyb,hyp⟩:=Ys hy hxs;rcases O5 ob hyb with e|⟨w,hw,hwk,hwa⟩
 ·rw[hyp,hab]at e
  rw[e]at hzs;simp at hzs
 ·rw[hyp,hab]at hwa
  have hgw:Aj b z.path=some w:=by rw[hwa];exact Ij ob hw
  unfold Iz;rw[hgw];simp[Oe,hwk,hzk]
theorem C2m:∀{t:Tr} {z:It},dst t→z∈t→t.find? (fun x=>x.path==z.path)=some z
 |a::t,z,hd,hz=>by
  rw[dst,List.pairwise_cons]at hd;rcases List.mem_cons.1 hz with rfl|hz
  ·rw[List.find?_cons,show(z.path==z.path)=true by simp]
  ·have:=hd.1 z hz
   rw[List.find?_cons,show(a.path==z.path)=false by simpa using this];exact C2m hd.2 hz
theorem A0f{t:Tr}(h:srt t):dst t:=h.imp fun{x y} hlt e=>by
 unfold ltP at hlt;rw[e,Dj]at hlt;cases hlt
theorem A0v{t:Tr}(hl:t.length≤40)(hi:∀x,x∈t→Fo x=true)(hs:srt t)(hu:∀x,x∈t→Bl x.path=sl∨∃z,z∈t∧z.kind=2∧Bl x.path=z.path):Ar t=true:=by
 refine Wo hl fun j hj=>?_;have hx:t[j]? =some t[j]:=List.getElem?_eq_getElem hj;have hm:t[j]∈t:=List.getElem_mem hj;unfold chk;rw[hx];simp only[Bool.and_eq_true];refine⟨⟨hi _ hm,?_⟩,?_⟩
 ·by_cases e:j=0
  ·subst e;rfl
  ·have hp:t.getD (j - 1) It.none=t[j - 1]:=by rw[List.getD_eq_getElem?_getD,List.getElem?_eq_getElem (by omega)];rfl
   have:=(List.pairwise_iff_getElem.1 hs) (j - 1) j (by omega) hj (by omega);rw[hp];unfold ltP at this;rw[this];simp
 ·rcases hu _ hm with e|⟨z,hz,hk,e⟩
  ·rw[e];rfl
  ·have hzs:=O3 (hi z hz)
   rw[e,N6,Id hzs,C2m (A0f hs) hz];simp[hk]
theorem B9s{a t:Tr}(oa:Ar a=true)(hs:t.Sublist a)(hu:∀x,x∈t→Bl x.path=sl∨∃z,z∈t∧z.kind=2∧Bl x.path=z.path):Ar t=true:=
 A0v (Nat.le_trans hs.length_le (Fp oa)) (fun x hx=>Dh oa (hs.subset hx)) (List.Pairwise.sublist hs (F2 oa)) hu
theorem B2q:∀(a:Str) (c:UInt8) (r:Str),Ce a (a++c::r)=true
 |[],c,r=>rfl
 |x::a,c,r=>by
  rw[List.cons_append,Ce,B2q a c r];simp
theorem Z9{t:Tr}(ok:Ar t=true){x z:It}(hx:x∈t)(hz:z∈t)(h:Bl x.path=z.path):Ce z.path x.path=true:=by
 obtain⟨hxp,hxs⟩:=N8 ok hx;obtain⟨hzp,hzs⟩:=N8 ok hz;obtain⟨h1,h2,h3⟩:=C2k ok hx;by_cases e:(names x.path).length=1
 ·rw[h2 e]at h
  rw[←h]at hzs;simp at hzs
 ·obtain⟨w,hw,_,hwn,hwa⟩:=h3 (by omega)
  have hwz:w.path=z.path:=by rw[←hwa,h]
  have hc:x.path=z.path++cat [My x.path]:=by
   rw[(Hu hxp hxs).1];conv=>lhs;rw[C72 h1,Od,←hwn,hwz,←(Hu hzp hzs).1]
   rw[←(Hu hxp hxs).1]
  have hl:cat [My x.path]=47::(My x.path++cat []):=rfl;rw[hc,hl];exact B2q _ _ _
def Iw(a b:Tr)(i:Nat):Tr:=a.take i++(a.drop i).filter fun x=> !Iz x b
theorem A4t(a b:Tr)(i:Nat):(Iw a b i).Sublist a:=by
 have h:=List.filter_sublist (p:=fun x=> !Iz x b) (l:=a.drop i);have:=List.Sublist.append (List.Sublist.refl (a.take i)) h;rwa[List.take_append_drop]at this
theorem C7j{a b:Tr}(oa:Ar a=true)(ob:Ar b=true)(i:Nat):Ar (Iw a b i)=true:=by
 refine B9s oa (A4t a b i) fun x hx=>?_;have hxa:=(A4t a b i).subset hx;rcases O5 oa hxa with e|⟨z,hz,hk,e⟩
 ·exact .inl e
 ·refine .inr ⟨z,?_,hk,e⟩
  obtain⟨j,hj,ej⟩:=List.getElem_of_mem hz;by_cases hji:j<i
  ·refine List.mem_append.2 (.inl ?_)
   rw[←ej,List.mem_iff_getElem?];exact⟨j,by rw[List.getElem?_take,if_pos hji,List.getElem?_eq_getElem hj]⟩
  ·have hzd:z∈a.drop i:=by
    rw[List.mem_iff_getElem?];exact⟨j - i,by rw[List.getElem?_drop,show i+(j - i)=j by omega,List.getElem?_eq_getElem hj,ej]⟩
   rcases List.mem_append.1 hx with hx1|hx1
   ·exfalso
    obtain⟨k,hk1⟩:=List.getElem?_of_mem hx1;have hki:k<i:=by
     have:=(List.getElem?_eq_some_iff.1 hk1).1;rw[List.length_take]at this;omega
    rw[List.getElem?_take,if_pos hki]at hk1;have h5:=Px oa hk1 (by rw[List.getElem?_eq_getElem hj,ej]) (by omega:k<j);have h6:=Z9 oa hxa hz e;rw[Ie _ _ h5]at h6;cases h6
   ·obtain⟨_,hg⟩:=List.mem_filter.1 hx1
    have:=B48 oa ob hxa hz hk e (by simpa using hg);exact List.mem_append.2 (.inr (List.mem_filter.2 ⟨hzd,by rw[this];rfl⟩))
theorem B2m{a b:Tr}{i:Nat}{x:It}(hx:a[i]? =some x):Iw a b (i+1)=a.take i++x::(a.drop (i+1)).filter (fun x=> !Iz x b)∧Iw a b i=a.take i++((if Iz x b then[]else[x])++(a.drop (i+1)).filter fun x=> !Iz x b):=by
 have hi:=(List.getElem?_eq_some_iff.1 hx).1;have hd:a.drop i=x::a.drop (i+1):=by
  rw[List.drop_eq_getElem_cons hi,(List.getElem?_eq_some_iff.1 hx).2]
 constructor
 ·rw[Iw,Bk hx,List.append_assoc];rfl
 ·rw[Iw,hd,List.filter_cons]
  cases Iz x b<;>simp
theorem drop_one{a b:Tr}(oa:Ar a=true)(ob:Ar b=true){i:Nat}{x:It}(hx:a[i]? =some x)(hg:Iz x b=true):Ap (Iw a b (i+1)) (Ld x)=(Iw a b i,0):=by
 have ok:=C7j oa ob (i+1);obtain⟨e1,e2⟩:=B2m (b:=b) hx;rw[hg,if_pos rfl,List.nil_append]at e2;have hxa:=List.mem_of_getElem? hx;have hxt:x∈Iw a b (i+1):=by rw[e1];simp
 have hi:=(List.getElem?_eq_some_iff.1 hx).1;have hget:=Ij ok hxt;obtain⟨hxp,hxs⟩:=N8 oa hxa;have hbp:El x.path=false:=by rw[El,hxp,hxs];rfl
 have hbusy:decide (((K2 (Iw a b (i+1)) x.path).length:Int)>0)=false:=by
  rw[C20 ok,List.any_eq_false];intro y hy hh;have hh:Bl y.path=x.path:=by simpa using hh
  have hya:=(A4t a b (i+1)).subset hy;have hk:x.kind=2:=by
   rcases O5 oa hya with e|⟨z,hz,hk,e⟩
   ·rw[hh]at e;rw[e]at hxs;simp at hxs
   ·have:=A77 oa hxa hz (by rw[←hh,e])
    rw[this];exact hk
  have hlt:=Z9 oa hya hxa hh;rw[e1]at hy;rcases List.mem_append.1 hy with hy|hy
  ·obtain⟨k,hk1⟩:=List.getElem?_of_mem hy
   have hki:k<i:=by
    have:=(List.getElem?_eq_some_iff.1 hk1).1;rw[List.length_take]at this;omega
   rw[List.getElem?_take,if_pos hki]at hk1;have h5:=Px oa hk1 hx hki;rw[Ie _ _ h5]at hlt;cases hlt
  ·rcases List.mem_cons.1 hy with rfl|hy
   ·rw[Dj]at hlt;cases hlt
   ·obtain⟨_,hgy⟩:=List.mem_filter.1 hy
    have:=B48 oa ob hya hxa hk hh (by simpa using hgy);rw[hg]at this;cases this
 have hti:(Iw a b (i+1))[i]? =some x:=by
  rw[e1,List.getElem?_append_right (by rw[List.length_take];omega),List.length_take,Nat.min_eq_left (by omega),Nat.sub_self];rfl
 have hwo:J5 (Iw a b (i+1)) x.path=Iw a b i:=by
  rw[C1o (F2 ok) hti,e1,e2];have hl:(a.take i).length=i:=by rw[List.length_take];omega
  rw[List.take_append_of_le_length (by omega),List.take_of_length_le (by omega),List.drop_append,List.drop_of_length_le (by omega),hl];simp
 have hkk:((x.kind==2)!=((Ld x).kind==7))=false:=by
  unfold Ld;cases x.kind==2<;>rfl
 have hgo:(Ld x).path=x.path:=rfl;have hnum:Hz (Ld x)=true:=by
  unfold Hz Ld;cases x.kind==2<;>rfl
 have hk67:((Ld x).kind==0||(Ld x).kind==1||(Ld x).kind==2)=false∧((Ld x).kind==3||(Ld x).kind==4||(Ld x).kind==5)=false∧((Ld x).kind==6||(Ld x).kind==7)=true:=by
  unfold Ld;cases x.kind==2<;>exact⟨rfl,rfl,rfl⟩
 rw[Ap,if_neg (by rw[ok,hnum];decide),if_neg (by rw[hgo,hbp];decide),if_neg (by rw[hk67.1];decide),if_neg (by rw[hk67.2.1];decide),if_pos hk67.2.2,Cp,hgo,hget];simp only;rw[if_neg (by rw[hkk];decide),if_neg (by rw[hbusy];decide),hwo]
theorem A7k{a b:Tr}(oa:Ar a=true)(ob:Ar b=true):∀(i:Nat),i≤a.length→∀codes:List Int,∃n,(Fm a b (a.take i).reverse).foldl Oa (Iw a b i,codes)=(Iw a b 0,codes++List.replicate n 0)
 |0,_,codes=>⟨0,by simp[Fm]⟩
 |i+1,hi,codes=>by
  obtain⟨x,hx⟩:=B7 (l:=a) (i:=i) (by omega);have hr:(a.take (i+1)).reverse=x::(a.take i).reverse:=by rw[Bk hx,List.reverse_append];rfl
  obtain⟨e1,e2⟩:=B2m (b:=b) hx;cases hg:Iz x b with
  |true=>
   have hd:Fm a b (a.take (i+1)).reverse=Ld x::Fm a b (a.take i).reverse:=by rw[hr,Fm,List.filter_cons,if_pos hg];rfl
   obtain⟨n,hn⟩:=A7k oa ob i (by omega) (codes++[0]);refine⟨n+1,?_⟩;rw[hd,List.foldl_cons];have hs:Oa (Iw a b (i+1),codes) (Ld x)=(Iw a b i,codes++[0]):=by
    show((Ap (Iw a b (i+1)) (Ld x)).1,codes++[(Ap (Iw a b (i+1)) (Ld x)).2])=_;rw[drop_one oa ob hx hg]
   rw[hs,hn,List.replicate_succ,List.append_assoc];rfl
  |false=>
   have hd:Fm a b (a.take (i+1)).reverse=Fm a b (a.take i).reverse:=by rw[hr,Fm,List.filter_cons,if_neg (by rw[hg];decide)];rfl
   have hl:Iw a b (i+1)=Iw a b i:=by rw[e1,e2,hg];rfl
   obtain⟨n,hn⟩:=A7k oa ob i (by omega) codes;exact⟨n,by rw[hd,hl,hn]⟩
theorem C4h(a b:Tr):Iw a b a.length=a:=by rw[Iw,List.take_length,List.drop_length];simp
theorem C69{a b:Tr}(oa:Ar a=true)(ob:Ar b=true):∃n,(Fm a b a.reverse).foldl Oa (a,[])=(a.filter (fun x=> !Iz x b),List.replicate n 0):=by
 obtain⟨n,hn⟩:=A7k oa ob a.length (Nat.le_refl _) [];rw[List.take_length,C4h]at hn;exact⟨n,by rw[hn];rfl⟩
def Kl(a b:Tr)(y:It):Option It:=match Aj a y.path with
 |some x=>if Iz x b then none else some x
 |none=>none
def If(a b:Tr)(j:Nat):Tr:=b.take j++(b.drop j).filterMap (Kl a b)
theorem Ko{a b:Tr}(ob:Ar b=true){y x:It}(hy:y∈b)(h:Kl a b y=some x):x∈a∧x.path=y.path∧Iz x b=false:=by
 unfold Kl at h;split at h
 ·rename_i z hz
  split at h
  ·cases h
  ·rename_i hg
   have e:=Option.some.inj h;subst e;obtain⟨h1,h2⟩:=Ys hz (N8 ob hy).2;exact⟨h1,h2,by simpa using hg⟩
 ·cases h
theorem B6f{a b:Tr}(oa:Ar a=true){x y:It}(hx:x∈a)(hp:x.path=y.path)(hg:Iz x b=false):Kl a b y=some x:=by
 unfold Kl;rw[←hp,Ij oa hx];simp[hg]
theorem B4q{a b:Tr}{j:Nat}{x:It}(h:x∈If a b j):x∈b.take j∨∃y,y∈b.drop j∧Kl a b y=some x:=by
 rcases List.mem_append.1 h with h|h
 ·exact .inl h
 ·exact .inr (List.mem_filterMap.1 h)
theorem C2t{a b:Tr}(ob:Ar b=true)(j:Nat):srt (If a b j):=by
 have hs:=F2 ob;have hs2:srt (b.take j++b.drop j):=by rw[List.take_append_drop];exact hs
 obtain⟨h1,h2,h3⟩:=List.pairwise_append.1 hs2;refine List.pairwise_append.2 ⟨h1,?_,fun x hx z hz=>?_⟩
 ·rw[List.pairwise_filterMap]
  refine List.Pairwise.imp_of_mem (fun{u v} hu hv hlt x hx y hy=>?_) h2;have e1:=(Ko ob (List.mem_of_mem_drop hu) hx).2.1;have e2:=(Ko ob (List.mem_of_mem_drop hv) hy).2.1;unfold ltP at hlt⊢;rw[e1,e2];exact hlt
 ·obtain⟨y,hy,hyz⟩:=List.mem_filterMap.1 hz
  have e:=(Ko ob (List.mem_of_mem_drop hy) hyz).2.1;have:=h3 x hx y hy;unfold ltP at this⊢;rw[e];exact this
theorem B51{a b:Tr}(oa:Ar a=true)(ob:Ar b=true)(j:Nat):Ar (If a b j)=true:=by
 have hl:=Fp ob;refine A0v ?_ (fun x hx=>?_) (C2t ob j) fun x hx=>?_
 ·have h1:=List.length_filterMap_le (Kl a b) (b.drop j)
  rw[If,List.length_append,List.length_take];rw[List.length_drop]at h1;omega
 ·rcases B4q hx with h|⟨y,hy,h⟩
  ·exact Dh ob (List.mem_of_mem_take h)
  ·exact Dh oa (Ko ob (List.mem_of_mem_drop hy) h).1
 ·have inb:∀w,w∈b→(∀z,z∈a→z.path=w.path→z.kind=2→Iz z b=false→w∈b.take j∨z∈If a b j):=by
   intro w hw z hz hp hk hg;have:w∈b.take j++b.drop j:=by rw[List.take_append_drop];exact hw
   rcases List.mem_append.1 this with h|h
   ·exact .inl h
   ·exact .inr (List.mem_append.2 (.inr (List.mem_filterMap.2 ⟨w,h,B6f oa hz hp hg⟩)))
  rcases B4q hx with h|⟨y,hy,h⟩
  ·have hxb:=List.mem_of_mem_take h
   rcases O5 ob hxb with e|⟨z,hz,hk,e⟩
   ·exact .inl e
   ·refine .inr ⟨z,?_,hk,e⟩
    have hlt:=Z9 ob hxb hz e;have:z∈b.take j++b.drop j:=by rw[List.take_append_drop];exact hz
    rcases List.mem_append.1 this with h9|h9
    ·exact List.mem_append.2 (.inl h9)
    ·exfalso
     have hs2:srt (b.take j++b.drop j):=by rw[List.take_append_drop];exact F2 ob
     have:=(List.pairwise_append.1 hs2).2.2 x h z h9;unfold ltP at this;rw[Ie _ _ this]at hlt;cases hlt
  ·obtain⟨hxa,hxp,hxg⟩:=Ko ob (List.mem_of_mem_drop hy) h
   rcases O5 oa hxa with e|⟨z,hz,hk,e⟩
   ·exact .inl e
   ·have hzg:=B48 oa ob hxa hz hk e hxg
    obtain⟨w,hw,hwk⟩:=A4d hzg;obtain⟨hwb,hwp⟩:=Ys hw (N8 oa hz).2;rcases inb w hwb z hz hwp.symm hk hzg with h9|h9
    ·exact .inr ⟨w,List.mem_append.2 (.inl h9),by rw[hwk,hk],by rw[e,hwp]⟩
    ·exact .inr ⟨z,h9,hk,e⟩
theorem C6y(a b:Tr):If a b b.length=b:=by rw[If,List.take_length,List.drop_length];simp
theorem A0l{a b:Tr}{j:Nat}{y:It}(hy:b[j]? =some y):If a b j=b.take j++((Kl a b y).toList++(b.drop (j+1)).filterMap (Kl a b))∧If a b (j+1)=b.take j++y::(b.drop (j+1)).filterMap (Kl a b):=by
 have hj:=(List.getElem?_eq_some_iff.1 hy).1;have hd:b.drop j=y::b.drop (j+1):=by
  rw[List.drop_eq_getElem_cons hj,(List.getElem?_eq_some_iff.1 hy).2]
 constructor
 ·rw[If,hd,List.filterMap_cons]
  cases Kl a b y<;>rfl
 ·rw[If,Bk hy,List.append_assoc];rfl
theorem C8j{y:It}(h:Fo y=true):S7 (Lv y)=y∧Hz (Lv y)=true∧(Lv y).path=y.path∧((Lv y).kind==0||(Lv y).kind==1||(Lv y).kind==2)=true∧((Lv y).kind !=0&&decide (((Lv y).data.length:Int)>80))=false:=by
 obtain⟨p,k,d,t⟩:=y;simp only[Fo,Bool.and_eq_true]at h;obtain⟨⟨_,h2⟩,h3⟩:=h;simp only[inB,Bool.and_eq_true,decide_eq_true_eq]at h2;have hk:k=1∨k=2∨k=3:=by omega
 rcases hk with rfl|rfl|rfl
 ·simp[inB]at h3
  refine⟨rfl,?_,rfl,rfl,?_⟩
  ·simp[Hz,Lv,inB];omega
  ·simp[Lv];omega
 ·simp at h3
  obtain⟨rfl,rfl⟩:=h3;exact⟨rfl,rfl,rfl,rfl,rfl⟩
 ·simp[inB]at h3
  refine⟨rfl,?_,rfl,rfl,?_⟩
  ·simp[Hz,Lv,inB];omega
  ·simp[Lv];omega
theorem C7i{a b:Tr}(oa:Ar a=true)(ob:Ar b=true){j:Nat}{y:It}(hy:b[j]? =some y)(hn:Kl a b y=none):Ap (If a b j) (Lv y)=(If a b (j+1),0):=by
 have ok:=B51 oa ob j;have ok2:=B51 oa ob (j+1);obtain⟨e1,e2⟩:=A0l (a:=a) hy;rw[hn]at e1;have e1:If a b j=b.take j++(b.drop (j+1)).filterMap (Kl a b):=e1;have hyb:=List.mem_of_getElem? hy;have hj:=(List.getElem?_eq_some_iff.1 hy).1;obtain⟨n1,n2,n3,n4,n5⟩:=C8j (Dh ob hyb);obtain⟨hyp,hys⟩:=N8 ob hyb;have hbp:El y.path=false:=by rw[El,hyp,hys];rfl
 have hperm:(If a b (j+1)).Perm (y::If a b j):=by rw[e1,e2];exact List.perm_middle
 have hd2:=A0f (F2 ok2);have hdp:=(V0 hperm).1 hd2;have hne:∀z,z∈If a b j→z.path≠y.path:=fun z hz e=>(List.pairwise_cons.1 hdp).1 z hz e.symm;have hput:Hq (If a b j) y=If a b (j+1):=V8 (B6c hne (F2 ok)) (F2 ok2) ((A8r hne).trans hperm.symm);have hno:(Aj (If a b j) y.path).isSome=false:=by
  rw[Id hys];cases hq:(If a b j).find? fun x=>x.path==y.path with
  |none=>rfl
  |some z=>exact absurd (by simpa using List.find?_some hq) (hne z (List.mem_of_find?_eq_some hq))
 have hlen:(((If a b j).length:Int)==40)=false:=by
  have h1:=hperm.length_eq;have h2:=Fp ok2;rw[List.length_cons]at h1;simp;omega
 have hdc:Jq (If a b j) (Bl y.path)=0:=by
  rcases O5 ob hyb with e|⟨z,hz,hk,e⟩
  ·rw[e];rfl
  ·have hlt:=Z9 ob hyb hz e
   have hzt:z∈b.take j:=by
    have hs2:srt (b.take j++b.drop j):=by rw[List.take_append_drop];exact F2 ob
    have:z∈b.take j++b.drop j:=by rw[List.take_append_drop];exact hz
    rcases List.mem_append.1 this with h9|h9
    ·exact h9
    ·exfalso
     rw[List.drop_eq_getElem_cons hj,(List.getElem?_eq_some_iff.1 hy).2]at h9;rcases List.mem_cons.1 h9 with rfl|h9
     ·rw[Dj]at hlt;cases hlt
     ·have hs3:=(List.pairwise_append.1 hs2).2.1
      rw[List.drop_eq_getElem_cons hj,(List.getElem?_eq_some_iff.1 hy).2]at hs3;have:=(List.pairwise_cons.1 hs3).1 z h9;unfold ltP at this;rw[Ie _ _ this]at hlt;cases hlt
   have hzm:z∈If a b j:=List.mem_append.2 (.inl hzt);rw[e,Jq,Ij ok hzm];simp[hk]
 rw[Ap,if_neg (by rw[ok,n2];decide),n3,if_neg (by rw[hbp];decide),if_pos n4,Cf,n3,if_neg (by rw[hdc];decide),if_neg (by rw[hno];decide),if_neg (by rw[n5];decide),if_neg (by rw[hlen];decide),n1,hput]
theorem A6c{a b:Tr}(oa:Ar a=true)(ob:Ar b=true){y x:It}(hy:y∈b)(h:Kl a b y=some x):Aj a y.path=some x∧Aj b x.path=some y∧x.kind=y.kind:=by
 obtain⟨h1,h2,h3⟩:=Ko ob hy h;have hg:Aj b x.path=some y:=by rw[h2];exact Ij ob hy
 refine⟨by rw[←h2];exact Ij oa h1,hg,?_⟩;obtain⟨w,hw,hk⟩:=A4d h3;rw[hg]at hw;rw[Option.some.inj hw];exact hk.symm
theorem B39{a b:Tr}(oa:Ar a=true)(ob:Ar b=true){y x:It}(hy:y∈b)(h:Kl a b y=some x):Fl a b y=if !(x.data==y.data)then[⟨3,y.path,[],0,y.data,y.time⟩,⟨4,y.path,[],y.data.length,[],y.time⟩]else if x.time !=y.time then[⟨5,y.path,[],0,[],y.time⟩]else[]:=by
 obtain⟨h1,_,_⟩:=A6c oa ob hy h;have h3:=(Ko ob hy h).2.2;rw[Fl,h1];simp only[Option.isSome_some,Option.getD_some,h3];rfl
theorem C5z{a b:Tr}{y:It}(h:Kl a b y=none):Fl a b y=[Lv y]:=by
 unfold Kl at h;rw[Fl];split at h
 ·rename_i x hx
  split at h
  ·rename_i hg
   rw[if_pos (by rw[hx];simp[hg])]
  ·cases h
 ·rename_i hx
  rw[if_pos (by rw[hx];rfl)]
theorem C53{a b:Tr}(oa:Ar a=true)(ob:Ar b=true){j:Nat}{y x:It}(hy:b[j]? =some y)(h:Kl a b y=some x)(hd:(x.data==y.data)=true)(ht:(x.time !=y.time)=false):If a b j=If a b (j+1):=by
 have hyb:=List.mem_of_getElem? hy;obtain⟨_,_,hk⟩:=A6c oa ob hyb h;have hp:=(Ko ob hyb h).2.1;obtain⟨e1,e2⟩:=A0l (a:=a) hy;have:x=y:=by
  obtain⟨p,k,d,t⟩:=x;obtain⟨p',k',d',t'⟩:=y;simp at hd ht hk hp;subst hd ht hk hp;rfl
 rw[e1,e2,h,this];rfl
theorem C59{A B:Tr}{y z:It}(h:srt (A++y::B))(hp:z.path=y.path):srt (A++z::B):=by
 obtain⟨h1,h2,h3⟩:=List.pairwise_append.1 h;obtain⟨h4,h5⟩:=List.pairwise_cons.1 h2;refine List.pairwise_append.2 ⟨h1,List.pairwise_cons.2 ⟨fun w hw=>?_,h5⟩,fun u hu w hw=>?_⟩
 ·have:=h4 w hw
  unfold ltP at this⊢;rw[hp];exact this
 ·rcases List.mem_cons.1 hw with rfl|hw
  ·have:=h3 u hu y (by simp)
   unfold ltP at this⊢;rw[hp];exact this
  ·exact h3 u hu w (by simp[hw])
theorem C7t{A B:Tr}{y z:It}(ok:Ar (A++y::B)=true)(hp:z.path=y.path)(hk:z.kind=y.kind)(hi:Fo z=true):Ar (A++z::B)=true:=by
 have hl:=Fp ok;have mem:∀x,x∈A++z::B→x=z∨x∈A++y::B:=by
  intro x hx;rcases List.mem_append.1 hx with h|h
  ·exact .inr (List.mem_append.2 (.inl h))
  ·rcases List.mem_cons.1 h with h|h
   ·exact .inl h
   ·exact .inr (List.mem_append.2 (.inr (by simp[h])))
 have mem2:∀x,x∈A++y::B→x=y∨x∈A++z::B:=by
  intro x hx;rcases List.mem_append.1 hx with h|h
  ·exact .inr (List.mem_append.2 (.inl h))
  ·rcases List.mem_cons.1 h with h|h
   ·exact .inl h
   ·exact .inr (List.mem_append.2 (.inr (by simp[h])))
 refine A0v (by simpa using hl) (fun x hx=>?_) (C59 (F2 ok) hp) fun x hx=>?_
 ·rcases mem x hx with rfl|h
  ·exact hi
  ·exact Dh ok h
 ·have key:∀x',x'∈A++y::B→Bl x'.path=sl∨∃w,w∈A++z::B∧w.kind=2∧Bl x'.path=w.path:=by
   intro x' hx';rcases O5 ok hx' with e|⟨w,hw,hwk,e⟩
   ·exact .inl e
   ·rcases mem2 w hw with rfl|h
    ·exact .inr ⟨z,by simp,by rw[hk,hwk],by rw[e,hp]⟩
    ·exact .inr ⟨w,h,hwk,e⟩
  rcases mem x hx with rfl|h
  ·rw[hp];exact key y (by simp)
  ·exact key x h
theorem B4o{A B:Tr}{x:It}{o:OpR}(ok:Ar (A++x::B)=true)(hn:Hz o=true)(hp:o.path=x.path)(hk:o.kind=3∨o.kind=4∨o.kind=5)(hx:x.kind=1∨x.kind=3∧o.kind=5)(hd:(Eo x.data o).2=true):Ap (A++x::B) o=(A++Um x o::B,0):=by
 have hm:x∈A++x::B:=by simp
 obtain⟨h1,h2⟩:=N8 ok hm;have hbp:El o.path=false:=by rw[hp,El,h1,h2];rfl
 have hi:(A++x::B)[A.length]? =some x:=by simp
 have hput:Hq (A++x::B) (Um x o)=A++Um x o::B:=by
  rw[C4q (x':=Um x o) (F2 ok) hi rfl];simp
 have k1:(o.kind==0||o.kind==1||o.kind==2)=false:=by rcases hk with e|e|e<;>rw[e]<;>rfl
 have k2:(o.kind==3||o.kind==4||o.kind==5)=true:=by rcases hk with e|e|e<;>rw[e]<;>rfl
 have k3:(x.kind==2||(x.kind==3&&o.kind !=5))=false:=by rcases hx with e|⟨e,e2⟩<;>simp[*]
 rw[Ap,if_neg (by rw[ok,hn];decide),if_neg (by rw[hbp];decide),if_neg (by rw[k1];decide),if_pos k2,D0,hp,Ij ok hm];simp only;rw[if_neg (by rw[k3];decide),if_neg (by rw[hd];decide),hput]
theorem B2e{x:It}(h:Fo x=true):0≤x.time∧x.time≤100000∧x.data.length≤80∧(x.kind=1∨x.kind=2∧x.data=[]∧x.time=0∨x.kind=3):=by
 simp only[Fo,Bool.and_eq_true]at h;obtain⟨⟨_,h2⟩,h3⟩:=h;simp only[inB,Bool.and_eq_true,decide_eq_true_eq]at h2;have hk:x.kind=1∨x.kind=2∨x.kind=3:=by omega
 rcases hk with e|e|e
 ·rw[e]at h3;simp[inB]at h3;exact⟨h3.2.1,h3.2.2,by omega,.inl e⟩
 ·rw[e]at h3;simp at h3;rw[h3.1,h3.2];exact⟨by omega,by omega,by simp,.inr (.inl ⟨e,rfl,rfl⟩)⟩
 ·rw[e]at h3;simp[inB]at h3;exact⟨h3.2.1,h3.2.2,by omega,.inr (.inr e)⟩
theorem C17{x y:It}(h1:x.path=y.path)(h2:x.kind=y.kind)(h3:x.data=y.data)(h4:x.time=y.time):x=y:=by
 cases x;cases y;simp only at h1 h2 h3 h4;subst h1 h2 h3 h4;rfl
theorem C61{a b:Tr}(oa:Ar a=true)(ob:Ar b=true){j:Nat}{y:It}(hy:b[j]? =some y)(codes:List Int):∃n,(Fl a b y).foldl Oa (If a b j,codes)=(If a b (j+1),codes++List.replicate n 0):=by
 have one:∀(t t':Tr) (o:OpR) (c:List Int),Ap t o=(t',0)→Oa (t,c) o=(t',c++[0]):=fun t t' o c h=>by
  show((Ap t o).1,c++[(Ap t o).2])=_;rw[h]
 have hyb:=List.mem_of_getElem? hy;cases hs:Kl a b y with
 |none=>
  refine⟨1,?_⟩;rw[C5z hs,List.foldl_cons,one _ _ _ _ (C7i oa ob hy hs)];rfl
 |some x=>
  obtain⟨_,hgb,hk⟩:=A6c oa ob hyb hs;obtain⟨hxa,hp,hg⟩:=Ko ob hyb hs;obtain⟨x1,x2,x3,x4⟩:=B2e (Dh oa hxa);obtain⟨y1,y2,y3,y4⟩:=B2e (Dh ob hyb);have ok:=B51 oa ob j;have ok2:=B51 oa ob (j+1);rw[B39 oa ob hyb hs];cases hd:(x.data==y.data)with
  |true=>
   cases ht:(x.time !=y.time)with
   |false=>
    refine⟨0,?_⟩;rw[C53 oa ob hy hs hd ht];simp
   |true=>
    refine⟨1,?_⟩;obtain⟨e1,e2⟩:=A0l (a:=a) hy;rw[hs]at e1;have e1:If a b j=b.take j++x::(b.drop (j+1)).filterMap (Kl a b):=e1;have hd':x.data=y.data:=by simpa using hd
    have ht':x.time≠y.time:=by simpa using ht
    have hx13:x.kind=1∨x.kind=3:=by
     rcases x4 with e|⟨e,_,e5⟩|e
     ·exact .inl e
     ·rcases y4 with f|⟨f,_,f5⟩|f
      ·omega
      ·exact absurd (by rw[e5,f5]) ht'
      ·omega
     ·exact .inr e
    have h:=B4o (A:=b.take j) (B:=(b.drop (j+1)).filterMap (Kl a b)) (x:=x) (o:=⟨5,y.path,[],0,[],y.time⟩) (by rw[←e1];exact ok) (by simp[Hz,inB];omega) hp.symm (.inr (.inr rfl)) (by rcases hx13 with e|e<;>simp[e]) rfl;have hz:Um x ⟨5,y.path,[],0,[],y.time⟩=y:=C17 hp hk hd' rfl;rw[hz,←e1,←e2]at h;show List.foldl Oa _ [_]=_;rw[List.foldl_cons,one _ _ _ _ h];rfl
  |false=>
   refine⟨2,?_⟩;obtain⟨e1,e2⟩:=A0l (a:=a) hy;rw[hs]at e1;have e1:If a b j=b.take j++x::(b.drop (j+1)).filterMap (Kl a b):=e1;have hd':x.data≠y.data:=by simpa using hd
   have hx1:x.kind=1:=by
    rcases x4 with e|⟨e,e4,_⟩|e
    ·exact e
    ·rcases y4 with f|⟨f,f4,_⟩|f
     ·omega
     ·exact absurd (by rw[e4,f4]) hd'
     ·omega
    ·exfalso
     unfold Iz at hg;rw[hgb]at hg;simp only[Oe,Bool.or_eq_false_iff]at hg;have:=hg.2;rw[e]at this;simp at this;exact hd' this.symm
   have hw:wrote x.data 0 y.data=y.data++x.data.drop y.data.length:=by simp[wrote,inB,pad]
   have hwl:(wrote x.data 0 y.data).length≤80:=by rw[hw,List.length_append,List.length_drop];omega
   have h:=B4o (A:=b.take j) (B:=(b.drop (j+1)).filterMap (Kl a b)) (x:=x) (o:=⟨3,y.path,[],0,y.data,y.time⟩) (by rw[←e1];exact ok) (by simp[Hz,inB];omega) hp.symm (.inl rfl) (.inl hx1) (by show decide (((wrote x.data 0 y.data).length:Int)≤80)=true;simp;omega);have hz:Um x ⟨3,y.path,[],0,y.data,y.time⟩=⟨x.path,x.kind,y.data++x.data.drop y.data.length,y.time⟩:=C17 rfl rfl hw rfl;rw[hz]at h;have hzi:Fo ⟨x.path,x.kind,y.data++x.data.drop y.data.length,y.time⟩=true:=by
    have hpi:=Dh oa hxa;rw[hw]at hwl;simp only[Fo,Bool.and_eq_true]at hpi⊢;refine⟨hpi.1,?_⟩;rw[hx1];simp[inB];simp at hwl;omega
   have h2:=B4o (A:=b.take j) (B:=(b.drop (j+1)).filterMap (Kl a b)) (x:=⟨x.path,x.kind,y.data++x.data.drop y.data.length,y.time⟩) (o:=⟨4,y.path,[],y.data.length,[],y.time⟩) (C7t (y:=x) (by rw[←e1];exact ok) rfl rfl hzi) (by simp[Hz,inB];omega) hp.symm (.inr (.inl rfl)) (.inl hx1) (by show decide ((y.data.length:Int)≤80)=true;simp;omega);have hc:Se (y.data++x.data.drop y.data.length) y.data.length=y.data:=by
    have:inB (y.data.length:Int) 0 100000=true:=by simp[inB];omega
    rw[Se,if_pos this,pad,Int.toNat_natCast,List.append_assoc,List.take_left]
   have hz2:Um ⟨x.path,x.kind,y.data++x.data.drop y.data.length,y.time⟩ ⟨4,y.path,[],y.data.length,[],y.time⟩=y:=C17 hp hk hc rfl;rw[hz2,←e2]at h2;rw[←e1]at h;show List.foldl Oa _ [_,_]=_;rw[List.foldl_cons,one _ _ _ _ h,List.foldl_cons,one _ _ _ _ h2,List.append_assoc];rfl
theorem C28{a b:Tr}(oa:Ar a=true)(ob:Ar b=true):∀(k j:Nat),j+k=b.length→∀codes:List Int,∃n,((b.drop j).flatMap (Fl a b)).foldl Oa (If a b j,codes)=(b,codes++List.replicate n 0)
 |0,j,h,codes=>⟨0,by
   obtain rfl:j=b.length:=by omega
   rw[List.drop_length,C6y];simp⟩
 |k+1,j,h,codes=>by
  obtain⟨y,hy⟩:=B7 (l:=b) (i:=j) (by omega);have hd:b.drop j=y::b.drop (j+1):=by
   rw[List.drop_eq_getElem_cons (by omega),(List.getElem?_eq_some_iff.1 hy).2]
  obtain⟨n,hn⟩:=C61 oa ob hy codes;obtain⟨m,hm⟩:=C28 oa ob k (j+1) (by omega) (codes++List.replicate n 0);refine⟨n+m,?_⟩;rw[hd,List.flatMap_cons,List.foldl_append,hn,hm,List.append_assoc,List.replicate_append_replicate]
theorem C4p{a b:Tr}(oa:Ar a=true)(ob:Ar b=true):If a b 0=a.filter (fun x=> !Iz x b):=by
 have h1:=C2t (a:=a) ob 0;have h2:srt (a.filter (fun x=> !Iz x b)):=List.Pairwise.sublist List.filter_sublist (F2 oa);refine V8 h1 h2 ((List.perm_ext_iff_of_nodup ?_ ?_).2 fun x=>?_)
 ·exact(A0f h1).imp fun h e=>h (by rw[e])
 ·exact(A0f h2).imp fun h e=>h (by rw[e])
 ·rw[List.mem_filter]
  constructor
  ·intro h
   rcases B4q h with h|⟨y,hy,h⟩
   ·simp at h
   ·obtain⟨h3,_,h5⟩:=Ko ob (List.mem_of_mem_drop hy) h
    exact⟨h3,by rw[h5];rfl⟩
  ·rintro⟨hx,hg⟩
   have hg:Iz x b=false:=by simpa using hg
   obtain⟨y,hy,_⟩:=A4d hg;obtain⟨hyb,hyp⟩:=Ys hy (N8 oa hx).2;exact List.mem_append.2 (.inr (List.mem_filterMap.2 ⟨y,by simpa using hyb,B6f oa hx hyp.symm hg⟩))
theorem A6t{a b:Tr}(oa:Ar a=true)(ob:Ar b=true):∃n,Gk a (Ft a b)=(b,List.replicate n 0):=by
 obtain⟨n,hn⟩:=C69 oa ob;obtain⟨m,hm⟩:=C28 oa ob b.length 0 (by omega) (List.replicate n 0);refine⟨n+m,?_⟩;rw[Gk,Ft,if_pos (by rw[oa,ob];rfl),List.foldl_append,hn,←C4p oa ob];rw[List.drop_zero]at hm;rw[hm,List.replicate_append_replicate]
theorem A68{a:Tr}(oa:Ar a=true):Ft a a=[]:=by
 have hg:∀x,x∈a→Iz x a=false:=fun x hx=>by
  unfold Iz;rw[Ij oa hx];simp[Oe]
 rw[Ft,if_pos (by rw[oa];rfl)];have h1:Fm a a a.reverse=[]:=by
  rw[Fm,List.filter_eq_nil_iff.2 fun x hx=>by rw[hg x (by simpa using hx)];decide];rfl
 have h2:a.flatMap (Fl a a)=[]:=List.flatMap_eq_nil_iff.2 fun y hy=>by
  have hs:Kl a a y=some y:=B6f oa hy rfl (hg y hy);rw[B39 oa oa hy hs];simp
 rw[h1,h2];rfl
theorem C5p{a b:Tr}(h:Ar a=false∨Ar b=false):Ft a b=[]:=by
 rw[Ft,if_neg];rcases h with h|h<;>rw[h]<;>simp
theorem A72(a:Tr):Ph a a=true:=by
 simp only[Ph,decide_true,Bool.true_and,List.all_eq_true];intro i hi;rw[B9u,List.getElem?_eq_getElem (List.mem_range.1 hi)];exact C34 _
theorem C41{a b:Tr}(oa:Ar a=true)(ob:Ar b=true):(decide (((Ft a b).length:Int)>0)!=Ph a b)=true:=by
 cases hs:Ph a b with
 |true=>
  rw[C7a hs,A68 ob];rfl
 |false=>
  cases hl:Ft a b with
  |cons _ _=>simp
  |nil=>
   exfalso;obtain⟨n,hn⟩:=A6t oa ob;rw[hl]at hn;have:a=b:=congrArg Prod.fst hn;rw[this,A72]at hs;cases hs
end Go.GH
namespace Go.GH
open Go Go.Proofs
theorem C3n{a b:Tr}(oa:Ar a=true)(ob:Ar b=true):B7p (Ft a b):=by
 refine⟨Nat.le_trans (B42 a b) (by decide),fun o ho=>?_⟩;rw[Ft,if_pos (by rw[oa,ob];rfl)]at ho;rcases List.mem_append.1 ho with h|h
 ·obtain⟨x,hx,rfl⟩:=List.mem_map.1 h
  have hx:=(List.mem_filter.1 hx).1;have:=A6u oa (List.mem_reverse.1 hx);exact⟨by show x.path.length≤_;omega,by show([]:Str).length≤_;decide,by show([]:Str).length≤_;decide⟩
 ·obtain⟨y,hy,h⟩:=List.mem_flatMap.1 h
  have h1:=A6u ob hy;have h2:=B68 ob hy;have hp:∀k d n t,(d=y.data∨d=[])→smO ⟨k,y.path,[],n,d,t⟩:=fun k d n t hd=>by
   have hd:d.length≤80:=by rcases hd with rfl|rfl<;>first|exact h2|exact Nat.zero_le _
   exact⟨by show y.path.length≤_;omega,by show([]:Str).length≤_;decide,by show d.length≤_;omega⟩
  unfold Fl at h;split at h
  ·rw[List.mem_singleton.1 h,Lv]
   split
   ·exact hp _ _ _ _ (.inr rfl)
   ·split<;>exact hp _ _ _ _ (.inl rfl)
  ·split at h
   ·rcases List.mem_cons.1 h with e|h
    ·rw[e];exact hp _ _ _ _ (.inl rfl)
    ·rw[List.mem_singleton.1 h];exact hp _ _ _ _ (.inr rfl)
   ·split at h
    ·rw[List.mem_singleton.1 h];exact hp _ _ _ _ (.inr rfl)
    ·cases h
def Xq:Bd:={Ic with sh:=true,res:=fun(x:Tr×Tr)=>.rd 6 ((Ft x.1 x.2).map Ai)}
theorem A7p:Au Tryz.prog 36 Xq:=J2 _ A99 (fun _=>rfl) rfl (fun x _=>⟨rfl,by show 1≤16;omega,by simp only[Ic,con,frz,Ml,Ni,rdO]⟩)
def Xn:Bd:={H7 with sh:=true,res:=fun(x:Tr×Tr)=>.rd 6 ((Ft x.1 x.2).map Ai)}
theorem A5h:Au Tryz.prog 35 Xn:=J2 _ Xy (fun _=>rfl) rfl (fun x _=>⟨rfl,by show 1≤16;omega,by simp only[H7,con,frz,Ml,Ni,rdO]⟩)
def S5:Bd:={E8 with sh:=true,res:=fun((t,l):Tr×List OpR)=>.tup [.agg [.rd 4 ((Gk t l).1.map Aa)],.rd 1 ((Gk t l).2.map Ae)]}
theorem Ya:Au Tryz.prog 20 S5:=J2 _ A0e (fun _=>rfl) rfl (fun(t,l) _=>⟨rfl,by show 2≤16;omega,by simp only[E8,con,frz,Ml,List.map_cons,List.map_nil,Ni,rdI,rdN]⟩)
def Ff:Bd:=con [mS 1] true Str (fun s=>[.rd 1 (s.map Ag)]) (fun s=>s.length≤9223372036854775807) (fun s=>.bool true)
def A7e:Env:=⟨A4 B5,A4 [(7,Ll),(20,S5),(33,Gi),(34,D9),(35,Xn),(36,Xq),(37,Jl),(38,Fc)],[0,2,3,4,5,6,7,8,10,33,41,54,61]⟩
theorem A6l:B6 A7e (Av Tryz.f6) Tryz.f6.results.toList Ff:=by
 intro(s:Str) hs0;refine⟨trivial,?_⟩;skip;refine⟨s,rfl,fun _=>trivial,?_⟩;skip
 (conv=>whnf);refine⟨fun h0=>?_,fun h0=>?_⟩
 ·skip
  exact⟨trivial,rfl⟩
 have hs:s.length≤1048576:=by
  have h0:decide (1048576<s.length)=false:=h0;simp at h0;omega
 have hc0:=C29 hs;obtain⟨sa,sb⟩:=C7p hc0;skip;refine⟨s,rfl,fun _=>hs,?_⟩;generalize hA:(A26 (L8 s)).1=a at sa;generalize hB:(A26 (L8 s)).2=b at sb;have hdl:=B42 a b;skip;refine⟨(a,b),by rw[←hA,←hB];rfl,fun _=>⟨sa,sb⟩,?_⟩;skip;refine⟨(a,b),by rw[←hA,←hB];rfl,fun _=>⟨sa,sb⟩,?_⟩;repeat((conv=>whnf);refine⟨fun h=>h,?_⟩)
 refine⟨(a,b),by rw[←hA,←hB];rfl,fun _=>⟨sa,sb⟩,?_⟩;repeat((conv=>whnf);refine⟨fun h=>h,?_⟩)
 (conv=>whnf);refine⟨fun h1=>?_,fun h1=>?_⟩
 ·exfalso
  have h1:((((Ft a b).map Ai).length:Int)!=(((Ft a b).map Ai).length:Int)||(((Ft a b).length:Int)!=(((Ft a b).map Ai).length:Int)))=true:=h1;simp at h1
 refine⟨a,by rw[←hA];rfl,fun _=>sa,?_⟩;repeat((conv=>whnf);refine⟨fun h=>h,?_⟩)
 refine⟨b,by rw[←hB];rfl,fun _=>sb,?_⟩;repeat((conv=>whnf);refine⟨fun h=>h,?_⟩)
 (conv=>whnf);refine⟨fun h2=>?_,fun h2=>?_⟩
 ·have h2:Ar a=false∨Ar b=false:=by
   have h2:(!Ar a|| !Ar b)=true:=h2;revert h2;cases Ar a<;>cases Ar b<;>simp
  skip;refine⟨trivial,eqB ?_⟩;show((((Ft a b).map Ai).length:Int)==0)=true;rw[C5p h2];rfl
 have h2:(!Ar a|| !Ar b)=false:=h2;have oa:Ar a=true:=by revert h2;cases Ar a<;>simp
 have ob:Ar b=true:=by revert h2;cases Ar b<;>simp
 have hsm:=C3n oa ob;obtain⟨n,hn⟩:=A6t oa ob;have hnl:n≤120:=by
  have h:=(B3e sa hsm).2;rw[hn,List.length_replicate]at h;omega
 skip;refine⟨(a,Ft a b),by rw[←hA];rfl,fun _=>⟨sa,hsm⟩,?_⟩;skip;refine B2 (fun i:Nat=>⟨[(3,⟨none,.bx 0 0⟩),(4,⟨none,.bx 1 0⟩),(5,⟨none,.rd 6 ((Ft a b).map Ai)⟩),(6,⟨none,.bx 2 0⟩),(7,⟨none,.rd 1 ((List.replicate n 0).map Ae)⟩),(8,⟨none,.int .i64 i⟩)],[(0,.own 1 [[.rd 4 (a.map Aa)]]),(1,.own 1 [[.rd 4 (b.map Aa)]]),(2,.own 1 [[.rd 4 (b.map Aa)]])],3⟩) (fun i=>i≤n) (fun i=>n - i) 0 ?_ (Nat.zero_le _) ?_
 ·(refine⟨?_,?_,rfl⟩<;>repeat' (first|exact rfl|exact trivial|refine⟨?_,?_⟩|fail)<;>(conv=>whnf))
  all_goals first|rfl|(rw[←hA];rfl)|(rw[←hB];rfl)|(rw[hn]<;>rfl)
 intro i hi;have hi:i≤n:=hi;have hln:((List.replicate n (0:Int)).map Ae).length=n:=by simp
 (conv=>whnf);refine⟨fun h3=>?_,fun h3=>?_⟩
 ·have h3:i<n:=by
   have h3:decide ((i:Int)<(((List.replicate n (0:Int)).map Ae).length:Nat))=true:=h3;rw[hln]at h3;simpa using h3
  have hx:(List.replicate n (0:Int))[i]? =some 0:=by simp[List.getElem?_replicate,h3]
  repeat((conv=>whnf);refine⟨Ae 0,fun _=>⟨by omega,Ao hx⟩,?_⟩)
  (conv=>whnf);refine⟨fun h4=>?_,fun h4=>?_⟩
  ·exfalso
   have h4:((0:Int)!=0)=true:=h4;simp at h4
  repeat((conv=>whnf);refine⟨_,w64 (bb),?_⟩)
  refine Bt (i+1) ?_ h3 (by first|omega|(simp;done)|(simp;omega))
  (refine⟨?_,?_,rfl⟩<;>repeat' (first|exact rfl|exact trivial|refine⟨?_,?_⟩|fail)<;>(conv=>whnf))
 have h3:i=n:=by
  have h3:decide ((i:Int)<(((List.replicate n (0:Int)).map Ae).length:Nat))=false:=h3;rw[hln]at h3;simp at h3;omega
 subst h3;skip;refine⟨(b,b),rfl,fun _=>⟨sb,sb⟩,?_⟩;repeat((conv=>whnf);refine⟨fun h=>h,?_⟩)
 refine⟨(a,a),rfl,fun _=>⟨sa,sa⟩,?_⟩;repeat((conv=>whnf);refine⟨fun h=>h,?_⟩)
 refine⟨(a,b),rfl,fun _=>⟨sa,sb⟩,?_⟩;repeat((conv=>whnf);refine⟨fun h=>h,?_⟩)
 refine⟨trivial,eqB ?_⟩;show(Ph b b&&decide (((Ft a a).length:Int)=0)&&(decide ((((Ft a b).map Ai).length:Int)>0)!=Ph a b))=true;rw[A72,A68 oa,List.length_map,C41 oa ob];rfl
theorem A36:Au Tryz.prog 6 Ff:=Al (Bx _ _) (FOk.cons B8n (FOk.cons Ya (FOk.cons A25 (FOk.cons Zp (FOk.cons A5h (FOk.cons A7p (FOk.cons B1a (FOk.cons Nt FOk.nil)))))))) mixed Tryz.func6 rfl Tryz.call6 (by decide) (by kernel_rfl) A6l (by intro _ (y:Str) _;exact⟨by simp[Ff,con,A9,A8,AV.noRd,A7,Ab,A5,A6,Ae,Ag,Ba,Aa,Ai],by simp[Ff,con,A9,A8,AV.noRd,A7,Ab,A5,A6,Ae,Ag,Ba,Aa,Ai]⟩) (by intro(y:Str) _;first|(simp[Ff,con,A9,A8,Ad,AV.free,A2,A3,A1,A6,Aa,Ai,Ae,Ag,Ba];done)|(obtain⟨_,_⟩:=y;simp[Ff,con,A9,A8,Ad,AV.free,A2,A3,A1,A6,Aa,Ai,Ae,Ag,Ba];done)|(obtain⟨_,_,_⟩:=y;simp[Ff,con,A9,A8,Ad,AV.free,A2,A3,A1,A6,Aa,Ai,Ae,Ag,Ba];done))
end Go.GH
