import Derived.Test.YtpbpaijjpglmlaaGreatSA
import Derived.Test.YtpbpaijjpglmlaaGreatChecked
import Derived.Shelf.RegionOpenPlain
import Derived.WalkKit
import Derived.Deep.LoopGhost
import Derived.Lib.Walk
import Derived.Lib.SliceRun
import Derived.Sort.Grow
set_option linter.unusedVariables false
set_option linter.unusedSimpArgs false
set_option maxRecDepth 100000
set_option maxHeartbeats 4000000
noncomputable section
namespace Go.GH
open Go Go.Proofs
def Jh:Bd:=con [mS 1,mC] true (List Int×Int) (fun⟨l,x⟩=>[.rd 1 (l.map Ae),.int .i64 x]) (fun x=>x.1.length≤4611686018427387904) (fun⟨l,x⟩=>.bool (l.contains x))
def B6a:Env:=⟨A4 B5,A4 [],[0,1,4,5,9,17]⟩
theorem B6t:B6 B6a (Av Tryz.f200) Tryz.f200.results.toList Jh:=by
 rintro⟨l,x⟩ hl;have hl:l.length≤4611686018427387904:=hl;refine⟨trivial,?_⟩;skip;refine B2 (fun i:Nat=>⟨[(0,⟨none,.rd 1 (l.map Ae)⟩),(1,⟨none,.int .i64 x⟩),(5,⟨none,.int .i64 i⟩)],[],0⟩) (fun i=>i≤l.length∧(l.take i).contains x=false) (fun i=>l.length - i) 0 ?_ ⟨by omega,rfl⟩ ?_
 ·(refine⟨?_,?_,rfl⟩<;>repeat' (first|exact rfl|exact trivial|refine⟨?_,?_⟩|fail)<;>(conv=>whnf))
 rintro i ⟨hi,hc⟩
 (conv=>whnf);refine⟨fun h1=>?_,fun h1=>?_⟩
 ·have h1:i<l.length:=by simpa using h1
  obtain⟨b,hb⟩:=B7 h1;repeat((conv=>whnf);refine⟨Ae b,fun _=>⟨by omega,Ao hb⟩,?_⟩)
  (conv=>whnf);refine⟨fun h2=>?_,fun h2=>?_⟩
  ·have h2:(b==x)=true:=h2
   have h2:b=x:=by simpa using h2
   skip;refine⟨trivial,eqB (Eq.symm ?_)⟩;have hm:x∈l:=by rw[←h2];exact List.mem_of_getElem? hb
   simpa using hm
  ·have h2:(b==x)=false:=h2
   repeat((conv=>whnf);refine⟨_,w64 (bb),?_⟩)
   refine Bt (i+1) ?_ ⟨h1,?_⟩ (by first|omega|(simp;done)|(simp;omega))
   ·(refine⟨?_,?_,rfl⟩<;>repeat' (first|exact rfl|exact trivial|refine⟨?_,?_⟩|fail)<;>(conv=>whnf))
   ·rw[Bk hb]
    simp at h2 hc⊢;exact⟨hc,fun e=>h2 e.symm⟩
 ·have h1:i=l.length:=by have:¬(i<l.length):=by simpa using h1
                         omega
  subst h1;rw[List.take_length]at hc;skip;exact⟨trivial,eqB hc.symm⟩
theorem B0s:Au Tryz.prog 200 Jh:=Al (Bx _ _) FOk.nil mixed Tryz.func200 rfl Tryz.call200 (by decide) (by kernel_rfl) B6t (by intro _ (y:(List Int×Int)) _;exact⟨by simp[Jh,con,A9,A8,AV.noRd,A7,Ab,A5,A6,Ae,Ag,Ak],by simp[Jh,con,A9,A8,AV.noRd,A7,Ab,A5,A6,Ae,Ag,Ak]⟩) (by intro(y:(List Int×Int)) _;first|(simp[Jh,con,A9,A8,Ad,AV.free,A2,A3,A1,A6,Ae,Ag,Ak];done)|(obtain⟨_,_⟩:=y;simp[Jh,con,A9,A8,Ad,AV.free,A2,A3,A1,A6,Ae,Ag,Ak];done)|(obtain⟨_,_,_⟩:=y;simp[Jh,con,A9,A8,Ad,AV.free,A2,A3,A1,A6,Ae,Ag,Ak];done))
def Jc:Bd:=con [mC,mC] true (Int×Int) (fun⟨a,b⟩=>[.int .i64 a,.int .i64 b]) (fun _=>True) (fun⟨a,b⟩=>.int .i64 (if a<b then a else b))
def B46:Env:=⟨A4 B5,A4 [],[0,1,4,7]⟩
theorem B4f:B6 B46 (Av Tryz.f201) Tryz.f201.results.toList Jc:=by
 rintro⟨a,b⟩ _;refine⟨trivial,?_⟩
 (conv=>whnf);refine⟨fun h1=>?_,fun h1=>?_⟩
 ·have h1:a<b:=by simpa using h1
  skip;exact⟨trivial,Mu (by rw[if_pos h1])⟩
 ·have h1:¬a<b:=by simpa using h1
  skip;exact⟨trivial,Mu (by rw[if_neg h1])⟩
theorem A9w:Au Tryz.prog 201 Jc:=Al (Bx _ _) FOk.nil mixed Tryz.func201 rfl Tryz.call201 (by decide) (by kernel_rfl) B4f (by intro _ (y:(Int×Int)) _;exact⟨by simp[Jc,con,A9,A8,AV.noRd,A7,Ab,A5,A6,Ae,Ag,Ak],by simp[Jc,con,A9,A8,AV.noRd,A7,Ab,A5,A6,Ae,Ag,Ak]⟩) (by intro(y:(Int×Int)) _;first|(simp[Jc,con,A9,A8,Ad,AV.free,A2,A3,A1,A6,Ae,Ag,Ak];done)|(obtain⟨_,_⟩:=y;simp[Jc,con,A9,A8,Ad,AV.free,A2,A3,A1,A6,Ae,Ag,Ak];done)|(obtain⟨_,_,_⟩:=y;simp[Jc,con,A9,A8,Ad,AV.free,A2,A3,A1,A6,Ae,Ag,Ak];done))
def Fg:Bd:=con [mC] false Int (fun n=>[.int .i64 n]) (fun _=>True) (fun n=>.own 1 ((Np n).map Ag))
def B04:Env:=⟨A4 B5,A4 [(76,Ch)],[0,2,3,7,10]⟩
theorem B22:B6 B04 (Av Tryz.f208) Tryz.f208.results.toList Fg:=by
 intro(n:Int) _;refine⟨trivial,?_⟩;skip;refine⟨(n,0,2147483647),rfl,fun _=>trivial,?_⟩
 (conv=>whnf);refine⟨fun h1=>?_,fun h1=>?_⟩
 ·have h1:inB n 0 2147483647=false:=by simpa using h1
  skip;rw[show Fg.res n=.own 1 [] by show AV.own 1 ((Np n).map Ag)=_;rw[Np,if_neg (by rw[h1];decide)];rfl];exact⟨trivial,rfl,rfl⟩
 ·have h1:inB n 0 2147483647=true:=by simpa using h1
  have hn:0≤n∧n≤2147483647:=by simpa[inB]using h1
  have hp:Np n=leb 5 n.toNat:=by rw[Np,if_pos h1]
  refine B2 (fun((m,o,t):Nat×Str×Nat)=>⟨[(0,⟨none,.int .i64 m⟩),(3,⟨none,.view 0 [] 0 o.length⟩)],[(0,.own 1 (o.map Ag))],1⟩)
   (fun(m,o,t)=>m≤2147483647∧o.length+t=5∧m<128^t*8∧o++leb t m=Np n) (fun x=>x.2.2) (n.toNat,[],5) ?_ ⟨by omega,rfl,by omega,hp.symm⟩ ?_
  ·(refine⟨?_,?_,rfl⟩<;>repeat' (first|exact rfl|exact trivial|refine⟨?_,?_⟩|fail)<;>(conv=>whnf))
   all_goals first|rfl|(simp;omega)
  rintro⟨m,o,t⟩ ⟨hm,ho,ht,hI⟩
  (conv=>whnf);refine⟨fun h2=>?_,fun h2=>?_⟩
  ·have h2:127<m:=by have h2:decide ((m:Int)>127)=true:=h2
                     simp at h2;omega
   obtain⟨t,rfl⟩:∃u,t=u+1:=⟨t - 1,by
    have:t≠0:=fun e=>by subst e;simp at ht;omega
    omega⟩
   rw[leb,if_pos h2]at hI;repeat((conv=>whnf);refine⟨bb,?_⟩)
   refine⟨((m%128:Nat):Int),by show((m:Int)).tmod 128=_;rfl,?_⟩;repeat((conv=>whnf);refine⟨_,w64 (bb),?_⟩)
   refine⟨((m%128+128:Nat):Int),by show Int.ofNat ((m%128+128)%256)=_;rw[Nat.mod_eq_of_lt (by omega)];rfl,?_⟩;repeat((conv=>whnf);first|refine⟨bb,?_⟩|refine⟨fun(r:List AV) hr c hc=>by simp[A6]at hr;(try subst hr);simp at hc;(try subst hc);rfl,?_⟩)
   refine⟨((m/128:Nat):Int),by
    show IntKind.i64.wrap ((m:Int).tdiv 128)=_;rw[show(m:Int).tdiv 128=((m/128:Nat):Int)from rfl];exact w64 (by omega),?_⟩
   skip;refine Bt (m/128,o++[UInt8.ofNat (m%128+128)],t) ?_ ⟨by omega,by simp;omega,by rw[Nat.pow_succ]at ht;omega,by rw[←hI];simp⟩ (by first|omega|(simp;done)|(simp;omega))
   (refine⟨?_,?_,rfl⟩<;>repeat' (first|exact rfl|exact trivial|refine⟨?_,?_⟩|fail)<;>(conv=>whnf))
   all_goals first|rfl|(simp[Ag];done)|(simp[Ag,List.take_of_length_le];omega)
  ·have h2:¬127<m:=by have h2:decide ((m:Int)>127)=false:=h2
                      simp at h2;omega
   have hl:leb t m=[UInt8.ofNat m]:=by
    cases t with
    |zero=>rfl
    |succ t=>rw[leb,if_neg h2]
   rw[hl]at hI;refine⟨(m:Int),by show Int.ofNat (m%256)=_;rw[Nat.mod_eq_of_lt (by omega)];rfl,?_⟩;repeat((conv=>whnf);first|refine⟨bb,?_⟩|refine⟨fun(r:List AV) hr c hc=>by simp[A6]at hr;(try subst hr);simp at hc;(try subst hc);rfl,?_⟩)
   rw[show Fg.res n=.own 1 ((o++[UInt8.ofNat m]).map Ag) by rw[hI];rfl];refine⟨trivial,rfl,?_⟩;have:m<256:=by omega
   simp[Ag,List.take_of_length_le];omega
theorem W9:Au Tryz.prog 208 Fg:=Al (Bx _ _) (FOk.cons Di FOk.nil) mixed Tryz.func208 rfl Tryz.call208 (by decide) (by kernel_rfl) B22 (by intro _ (y:Int) _;exact⟨by simp[Fg,con,A9,A8,AV.noRd,A7,Ab,A5,A6,Ae,Ag,Ak],by simp[Fg,con,A9,A8,AV.noRd,A7,Ab,A5,A6,Ae,Ag,Ak]⟩) (by intro(y:Int) _;first|(simp[Fg,con,A9,A8,Ad,AV.free,A2,A3,A1,A6,Ae,Ag,Ak];done)|(obtain⟨_,_⟩:=y;simp[Fg,con,A9,A8,Ad,AV.free,A2,A3,A1,A6,Ae,Ag,Ak];done)|(obtain⟨_,_,_⟩:=y;simp[Fg,con,A9,A8,Ad,AV.free,A2,A3,A1,A6,Ae,Ag,Ak];done))
def Fu:Bd:=con [mS 1,mC] false (Str×Int) (fun⟨b,a⟩=>[.rd 1 (b.map Ag),.int .i64 a]) (fun x=>x.1.length≤4611686018427387904) (fun⟨b,a⟩=>.tup [.int .i64 (((F4 b a).getD (0,0)).1:Nat),.int .i64 (((F4 b a).getD (0,0)).2:Nat),.bool (F4 b a).isSome])
def B1b:Env:=⟨A4 B5,A4 [],[0,1,4,5,6,7,8,9,11,23,39,49]⟩
theorem B0l:B6 B1b (Av Tryz.f203) Tryz.f203.results.toList Fu:=by
 rintro⟨b,a⟩ hb;have hb:b.length≤4611686018427387904:=hb;refine⟨trivial,?_⟩;have fin:∀{o:Option (Nat×Nat)},o=F4 b a→Fu.res (b,a)=.tup [.int .i64 ((o.getD (0,0)).1:Nat),.int .i64 ((o.getD (0,0)).2:Nat),.bool o.isSome]:=fun h=>by rw[h];rfl
 skip;refine B2 (fun((k,n):Nat×Nat)=>⟨[(0,⟨none,.rd 1 (b.map Ag)⟩),(1,⟨none,.int .i64 a⟩),(7,⟨none,.int .i64 n⟩),(8,⟨none,.int .i64 k⟩)],[],0⟩)
  (fun(k,n)=>k≤5∧n<2^(7*k)∧gN b a (5 - k) k n=F4 b a) (fun x=>5 - x.1) (0,0) ?_ ⟨by omega,by omega,rfl⟩ ?_
 ·(refine⟨?_,?_,rfl⟩<;>repeat' (first|exact rfl|exact trivial|refine⟨?_,?_⟩|fail)<;>(conv=>whnf))
 rintro⟨k,n⟩ ⟨hk,hn,hI⟩
 (conv=>whnf);refine⟨fun h1=>?_,fun h1=>?_⟩
 ·have h1:k<5:=by have h1:decide ((k:Int)<5)=true:=h1
                  simp at h1;omega
  obtain⟨f,hf⟩:∃f,5 - k=f+1:=⟨4 - k,by omega⟩
  have hf2:5 - (k+1)=f:=by omega
  rw[hf,gN]at hI;have hn2:n<2^35:=Nat.lt_of_lt_of_le hn (Nat.pow_le_pow_right (by omega) (by omega));repeat((conv=>whnf);first|refine⟨fun h=>h,?_⟩|refine⟨_,w64 (bb),?_⟩)
  (conv=>whnf);refine⟨fun h2=>?_,fun h2=>?_⟩
  ·have h2:a<0∨a≥(b.length:Int) - k:=by
    have h2:(decide (a<0)||decide (a≥(((b.map Ag).length:Nat):Int) - k))=true:=h2;rw[List.length_map]at h2;simpa using h2
   rw[if_pos h2]at hI;skip;rw[fin hI];exact⟨trivial,rfl,rfl,rfl,trivial⟩
  have h2:¬(a<0∨a≥(b.length:Int) - k):=by
   have h2:(decide (a<0)||decide (a≥(((b.map Ag).length:Nat):Int) - k))=false:=h2;rw[List.length_map]at h2;simp at h2;omega
  rw[if_neg h2]at hI;obtain⟨x,hx⟩:=B7 (l:=b) (i:=(a+k).toNat) (by omega);have hx1:b.getD (a+k).toNat 0=x:=by rw[List.getD_eq_getElem?_getD,hx];rfl
  have hxl:=x.toNat_lt;rw[hx1]at hI;obtain⟨s1,s2⟩:=shN (d:=x.toNat%128) (k:=k) (by omega) h1;have s3:(x.toNat%128)<<<(7*k)<2^35:=Nat.lt_of_lt_of_le s1 (Nat.pow_le_pow_right (by omega) (by omega));have s4:n|||(x.toNat%128)<<<(7*k)<2^(7*k+7):=Nat.or_lt_two_pow (Nat.lt_of_lt_of_le hn (Nat.pow_le_pow_right (by omega) (by omega))) s1;repeat((conv=>whnf);first|refine⟨_,w64 (bb),?_⟩|refine⟨bb,?_⟩|refine⟨Ag x,fun _=>⟨by omega,Ao hx⟩,?_⟩)
  refine⟨((x.toNat%128:Nat):Int),rfl,?_⟩;repeat((conv=>whnf);first|refine⟨_,w64 (bb),?_⟩|refine⟨bb,?_⟩)
  refine⟨(((x.toNat%128)<<<(7*k):Nat):Int),by
   show IntKind.i64.wrap (((x.toNat%128:Nat):Int)*2^min (7*(k:Int)).toNat 64)=_;rw[show min (7*(k:Int)).toNat 64=7*k by omega,←s2];rw[←s2]at s3;rw[show(((x.toNat%128:Nat):Int)*2^(7*k))=((x.toNat%128*2^(7*k):Nat):Int) by rw[Int.natCast_mul,Int.natCast_pow];rfl];exact w64 (by omega),?_⟩
  skip;refine⟨((n|||(x.toNat%128)<<<(7*k):Nat):Int),orN (by omega) (by omega),?_⟩;generalize hm:n|||(x.toNat%128)<<<(7*k)=m at hI s4⊢;skip
  (conv=>whnf);refine⟨fun h3=>?_,fun h3=>?_⟩
  ·have h3:x.toNat<128:=by have h3:decide ((x.toNat:Int)<128)=true:=h3
                           simp at h3;omega
   rw[if_pos h3]at hI;repeat((conv=>whnf);refine⟨fun h=>h,?_⟩)
   (conv=>whnf);refine⟨fun h4=>?_,fun h4=>?_⟩
   ·have h4:(k>0∧x.toNat=0)∨m>2147483647:=by
     have h4:((decide ((k:Int)>0)&&((x.toNat:Int)==0))||decide ((m:Int)>2147483647))=true:=h4;simp at h4;omega
    rw[if_pos h4]at hI;skip;rw[fin hI];exact⟨trivial,rfl,rfl,rfl,trivial⟩
   ·have h4:¬((k>0∧x.toNat=0)∨m>2147483647):=by
     have h4:((decide ((k:Int)>0)&&((x.toNat:Int)==0))||decide ((m:Int)>2147483647))=false:=h4;simp at h4;omega
    rw[if_neg h4]at hI;repeat((conv=>whnf);refine⟨_,w64 (bb),?_⟩)
    rw[fin hI];refine⟨trivial,rfl,Mu ?_,rfl,trivial⟩;show _=(((a+k+1).toNat:Nat):Int);omega
  ·have h3:¬x.toNat<128:=by have h3:decide ((x.toNat:Int)<128)=false:=h3
                            simp at h3;omega
   rw[if_neg h3]at hI;repeat((conv=>whnf);refine⟨_,w64 (bb),?_⟩)
   refine Bt (k+1,m) ?_ ⟨by omega,by rw[show 7*(k+1)=7*k+7 by omega];exact s4,by rw[hf2];exact hI⟩ (by show 5 - (k+1)<5 - k;omega)
   (refine⟨?_,?_,rfl⟩<;>repeat' (first|exact rfl|exact trivial|refine⟨?_,?_⟩|fail)<;>(conv=>whnf))
 ·have h1:k=5:=by have h1:decide ((k:Int)<5)=false:=h1
                  simp at h1;omega
  subst h1;skip;rw[fin hI];exact⟨trivial,rfl,rfl,rfl,trivial⟩
theorem Vv:Au Tryz.prog 203 Fu:=Al (Bx _ _) FOk.nil mixed Tryz.func203 rfl Tryz.call203 (by decide) (by kernel_rfl) B0l (by intro _ (y:(Str×Int)) _;exact⟨by simp[Fu,con,A9,A8,AV.noRd,A7,Ab,A5,A6,Ae,Ag,Ak],by simp[Fu,con,A9,A8,AV.noRd,A7,Ab,A5,A6,Ae,Ag,Ak]⟩) (by intro(y:(Str×Int)) _;first|(simp[Fu,con,A9,A8,Ad,AV.free,A2,A3,A1,A6,Ae,Ag,Ak];done)|(obtain⟨_,_⟩:=y;simp[Fu,con,A9,A8,Ad,AV.free,A2,A3,A1,A6,Ae,Ag,Ak];done)|(obtain⟨_,_,_⟩:=y;simp[Fu,con,A9,A8,Ad,AV.free,A2,A3,A1,A6,Ae,Ag,Ak];done))
end Go.GH
namespace Go.GH
open Go
structure Nd where
 kind:Int
 gen:Int
 time:Int
 size:Int
 blocks:List Int
def Nd.zero:Nd:=⟨0,0,0,0,[]⟩
structure Fs where
 nodes:List Nd
 data:List Str
def Ay(n:Nd):List AV:=[.int .i64 n.kind,.int .i64 n.gen,.int .i64 n.time,.int .i64 n.size,.rd 1 (n.blocks.map Ae)]
def B1(n:Nd):List AV:=[.int .i64 n.kind,.int .i64 n.gen,.int .i64 n.time,.int .i64 n.size,.own 1 (n.blocks.map Ae)]
theorem rdD(l:List Nd):D1 (l.map Ay)=l.map Ay:=Kc (fun n=>by simp[Ay,Is,AV.toRd,rdN]) l
theorem rdW(l:List Nd):D1 (l.map B1)=l.map Ay:=by
 induction l with
 |nil=>rfl
 |cons n l ih=>simp only[List.map_cons,D1,ih];simp[Ay,B1,Is,AV.toRd,rdN]
def At(f:Fs):List AV:=[.rd 5 (f.nodes.map Ay),.rd 1 (f.data.map A6)]
def B3(f:Fs):List AV:=[.own 5 (f.nodes.map B1),.own 1 (f.data.map A6)]
def smF(f:Fs):Prop:=f.nodes.length≤65536∧f.data.length≤65536∧(∀n,n∈f.nodes→n.blocks.length≤65536)∧∀s,s∈f.data→s.length≤4194304
def Gu(s:Int):Int:=if s≤0 then 0 else if s≥80 then 5 else(s+15).tdiv 16
theorem Tw(s:Int):0≤Gu s∧Gu s≤5:=by
 unfold Gu;split
 ·omega
 ·split
  ·omega
  ·rw[Int.tdiv_eq_ediv_of_nonneg (by omega)];omega
def Yh(l:List Int)(i:Nat):Bool:=match l[i]? with
 |none=>false
 |some b=>inB b 0 35&& !(l.take i).contains b
def Jo(n:Nd):Bool:=if n.kind==0 then n.gen==0&&n.time==0&&n.size==0&&n.blocks.length==0
 else inB n.kind 1 3&&inB n.gen 0 1000000&&inB n.time 0 100000&&inB n.size 0 80&&decide ((n.blocks.length:Int)=Gu n.size)&& !(n.kind==2&&(n.gen !=0||n.time !=0))&&(List.range n.blocks.length).all (Yh n.blocks)
theorem U0{n:Nd}(h:Jo n=true):n.blocks.length≤5:=by
 unfold Jo at h;have:=Tw n.size;split at h
 ·simp at h;rw[h.2];simp
 ·simp only[Bool.and_eq_true,decide_eq_true_eq]at h
  omega
theorem B9c{n:Nd}(h:Jo n=true)(hk:n.kind=0):n=Nd.zero:=by
 obtain⟨k,g,t,s,b⟩:=n;simp only at hk;subst hk;simp[Jo]at h;obtain⟨⟨⟨h1,h2⟩,h3⟩,h4⟩:=h;simp[Nd.zero,h1,h2,h3,h4]
def Gr(n:Nat)(o:List Int)(b:Int):List Int:=if inB b 0 (n - 1)then o.set b.toNat (o.getD b.toNat 0+1)else o.set n (o.getD n 0+1)
def M6(l:List Nd):List Int:=l.flatMap Nd.blocks
def Te(n:Nat)(l:List Int):List Int:=l.foldl (Gr n) (List.replicate (n+1) 0)
def O6(f:Fs):List Int:=Te f.data.length (M6 f.nodes)
theorem Z1(n:Nat)(o:List Int)(b:Int):(Gr n o b).length=o.length:=by unfold Gr;split<;>simp
theorem Xv(n:Nat):∀(l:List Int) (o:List Int),(l.foldl (Gr n) o).length=o.length
 |[],o=>rfl
 |b::l,o=>by rw[List.foldl_cons,Xv n l,Z1]
theorem Xb(n:Nat)(l:List Int):(Te n l).length=n+1:=by rw[Te,Xv];simp
theorem Ux(o:List Int)(i k:Nat)(v:Int):(o.set i v).getD k 0=if i=k∧k<o.length then v else o.getD k 0:=by
 simp only[List.getD_eq_getElem?_getD,List.getElem?_set];by_cases h:i=k
 ·subst h
  by_cases h2:i<o.length
  ·simp[h2]
  ·simp[h2]
 ·simp[h]
theorem A2j{n:Nat}{o:List Int}{b:Int}{m:Int}(h:∀k,0≤o.getD k 0∧o.getD k 0≤m)(k:Nat):0≤(Gr n o b).getD k 0∧(Gr n o b).getD k 0≤m+1∧o.getD k 0≤(Gr n o b).getD k 0:=by
 unfold Gr;have h1:=h k;have h2:=h b.toNat;have h3:=h n;split
 ·rw[Ux]
  split
  ·rename_i e
   obtain⟨rfl,_⟩:=e;omega
  ·omega
 ·rw[Ux]
  split
  ·rename_i e
   obtain⟨rfl,_⟩:=e;omega
  ·omega
theorem Tk{n:Nat}:∀{l:List Int} {o:List Int} {m:Int},(∀k,0≤o.getD k 0∧o.getD k 0≤m)→∀k,0≤(l.foldl (Gr n) o).getD k 0∧(l.foldl (Gr n) o).getD k 0≤m+l.length∧o.getD k 0≤(l.foldl (Gr n) o).getD k 0
 |[],o,m,h,k=>by have:=h k;simp only[List.foldl_nil,List.length_nil];omega
 |b::l,o,m,h,k=>by
  have h1:=fun k=>A2j (n:=n) (b:=b) h k;have h2:=Tk (n:=n) (l:=l) (m:=m+1) (fun k=>⟨(h1 k).1,(h1 k).2.1⟩) k;have h3:=h1 k;rw[List.foldl_cons,List.length_cons];omega
theorem X3(n k:Nat):(List.replicate n (0:Int)).getD k 0=0:=by
 rw[List.getD_eq_getElem?_getD,List.getElem?_replicate];split<;>rfl
theorem B75(n:Nat)(l:List Int)(k:Nat):0≤(Te n l).getD k 0∧(Te n l).getD k 0≤l.length:=by
 have:=Tk (n:=n) (l:=l) (o:=List.replicate (n+1) 0) (m:=0) (fun k=>by rw[X3];omega) k;unfold Te;omega
theorem B89{n:Nat}:∀{l:List Int} {o:List Int},o.length=n+1→(∀k,0≤o.getD k 0)→(l.foldl (Gr n) o).getD n 0≤o.getD n 0→∀b,b∈l→0≤b∧b<n
 |[],o,_,_,_,b,hb=>by cases hb
 |a::l,o,hl,h0,h,b,hb=>by
  have hM:∃m:Int,∀k,o.getD k 0≤m:=by
   clear h hl h0 hb;induction o with
   |nil=>exact⟨0,fun k=>by simp⟩
   |cons x o ih=>
    obtain⟨m,hm⟩:=ih;refine⟨max x m,fun k=>?_⟩;cases k with
    |zero=>simp;omega
    |succ k=>have:=hm k;simp only[List.getD_cons_succ];omega
  obtain⟨m,hm⟩:=hM;have s1:=fun k=>A2j (n:=n) (b:=a) (m:=m) (fun k=>⟨h0 k,hm k⟩) k;have s2:=Tk (n:=n) (l:=l) (m:=m+1) (fun k=>⟨(s1 k).1,(s1 k).2.1⟩) n;rw[List.foldl_cons]at h;have s3:=s1 n;have e:(Gr n o a).getD n 0=o.getD n 0:=by omega
  have ha:0≤a∧a<n:=by
   by_cases c:inB a 0 (n - 1)=true
   ·simp[inB]at c;omega
   ·exfalso
    unfold Gr at e;rw[if_neg c,Ux,if_pos ⟨rfl,by omega⟩]at e;omega
  rcases List.mem_cons.1 hb with rfl|hb
  ·exact ha
  ·exact B89 (o:=Gr n o a) (by rw[Z1];exact hl) (fun k=>(s1 k).1) (by omega) b hb
def A1b(s:Int)(k:Nat):Int:=if 16<s - (k:Int)*16 then 16 else s - (k:Int)*16
def Y5(f:Fs)(k:Nat):Bool:=match f.data[k]? with
 |none=>false
 |some s=> !(decide ((O6 f).getD k 0>1)||((O6 f).getD k 0==0&&s !=[])||decide ((s.length:Int)>16))
def B5g(f:Fs)(n:Nd)(k:Nat):Bool:=match n.blocks[k]? with
 |none=>false
 |some b=>decide (((f.data.getD b.toNat []).length:Int)=A1b n.size k)
def A65(f:Fs)(n:Nd):Bool:=(List.range n.blocks.length).all (B5g f n)
def Ez(f:Fs):Bool:=inB f.nodes.length 2 10&&inB f.data.length 1 36&&(f.nodes.headD .zero).kind==2&&f.nodes.all Jo&& !decide ((O6 f).getD f.data.length 0>0)&&(List.range f.data.length).all (Y5 f)&&f.nodes.all (A65 f)
def inR(f:Fs):Prop:=∀n,n∈f.nodes→∀b,b∈n.blocks→0≤b∧b<f.data.length
theorem C4t{l:List Nd}{n:Nd}(h:n∈l){b:Int}(hb:b∈n.blocks):b∈M6 l:=List.mem_flatMap.2 ⟨n,h,hb⟩
theorem B86{f:Fs}(h:(O6 f).getD f.data.length 0≤0):inR f:=fun n hn b hb=>
 B89 (n:=f.data.length) (l:=M6 f.nodes) (o:=List.replicate (f.data.length+1) 0) (by simp) (fun k=>by rw[X3];omega) (by rw[X3];exact h) b (C4t hn hb)
structure S4(f:Fs):Prop where
 nn:2≤f.nodes.length∧f.nodes.length≤10
 nd:1≤f.data.length∧f.data.length≤36
 top:(f.nodes.headD .zero).kind=2
 all:∀n,n∈f.nodes→Jo n=true
 inr:inR f
 dat:∀s,s∈f.data→s.length≤16
 sm:smF f
theorem A02{f:Fs}(h:Ez f=true):S4 f:=by
 simp only[Ez,Bool.and_eq_true,List.all_eq_true,Bool.not_eq_true',decide_eq_false_iff_not]at h;obtain⟨⟨⟨⟨⟨⟨h1,h2⟩,h3⟩,h4⟩,h5⟩,h6⟩,h7⟩:=h;simp[inB]at h1 h2;have hd:∀s,s∈f.data→s.length≤16:=by
  intro s hs;obtain⟨k,hk,e⟩:=List.getElem_of_mem hs;have:=h6 k (List.mem_range.2 hk);simp only[Y5,List.getElem?_eq_getElem hk,e,Bool.not_eq_true',Bool.or_eq_false_iff,decide_eq_false_iff_not]at this;omega
 exact⟨by omega,by omega,by simpa using h3,h4,B86 (by omega),hd,by omega,by omega,fun n hn=>by have:=U0 (h4 n hn);omega,fun s hs=>by have:=hd s hs;omega⟩
def Js(f:Fs)(i:Nat):Str:=match f.nodes[i]? with
 |none=>[]
 |some n=>n.blocks.flatMap fun b=>f.data.getD b.toNat []
theorem X0{d:List Str}{m:Nat}(hd:∀s,s∈d→s.length≤m):∀(l:List Int),(l.flatMap fun b=>d.getD b.toNat []).length≤l.length*m
 |[]=>by simp
 |b::l=>by
  have h1:=X0 hd l;have h2:(d.getD b.toNat []).length≤m:=by
   rw[List.getD_eq_getElem?_getD];cases h:d[b.toNat]? with
   |none=>simp
   |some s=>exact hd s (List.mem_of_getElem? h)
  rw[List.flatMap_cons,List.length_append,List.length_cons,Nat.add_mul];omega
theorem P5{f:Fs}(h:S4 f)(i:Nat):(Js f i).length≤80:=by
 unfold Js;cases hn:f.nodes[i]? with
 |none=>simp
 |some n=>
  have h1:=X0 h.dat n.blocks;have h2:=U0 (h.all n (List.mem_of_getElem? hn));have h3:n.blocks.length*16≤5*16:=Nat.mul_le_mul_right _ h2;show(n.blocks.flatMap _).length≤_;omega
def Iu(f:Fs)(i:Nat):Option (List En):=match f.nodes[i]? with
 |none=>none
 |some n=>if n.kind==2 then Sv (Js f i)else none
def Lt(f:Fs)(i:Nat):Int:=(f.nodes.getD i .zero).kind
def Qa(s:List Int)(i:Nat):List Int:=s.set i (s.getD i 0+1)
def C73(f:Fs)(i:Nat)(e:En):Bool:=decide (e.node≥f.nodes.length)||Lt f e.node.toNat==0||(e.name==hid&&(i !=0||Lt f e.node.toNat !=1))
def W5(rec:Nat→List Int→List Int×Bool)(f:Fs)(i:Nat):List En→List Int→List Int×Bool
 |[],o=>(o,true)
 |e::r,o=>if C73 f i e then(o,false)else if(rec e.node.toNat o).2 then W5 rec f i r (rec e.node.toNat o).1 else(o,false)
def Hy(f:Fs):Nat→Nat→List Int→List Int×Bool
 |0,i,s=>(Qa s i,false)
 |d+1,i,s=>if(Qa s i).getD i 0>1 then(Qa s i,false)else if Lt f i !=2 then(Qa s i,true)else match Iu f i with
  |none=>(Qa s i,false)
  |some l=>W5 (Hy f d) f i l (Qa s i)
def zrs(n:Nat):List Int:=List.replicate n 0
def Ki(f:Fs):Bool:=Ez f&&(Hy f 5 0 (zrs f.nodes.length)).2&&(List.range f.nodes.length).all fun i=>((Hy f 5 0 (zrs f.nodes.length)).1.getD i 0==1)==(Lt f i !=0)
def Yj(f:Fs)(d i:Nat):Prop:=∃s,(Hy f d i s).2=true
theorem B2j{rec:Nat→List Int→List Int×Bool}{f:Fs}{i:Nat}:∀{l:List En} {o:List Int},(W5 rec f i l o).2=true→∀e,e∈l→C73 f i e=false∧∃s,(rec e.node.toNat s).2=true
 |[],o,h,e,he=>by cases he
 |a::l,o,h,e,he=>by
  rw[W5]at h;split at h
  ·cases h
  ·rename_i h1
   split at h
   ·rename_i h2
    rcases List.mem_cons.1 he with rfl|he
    ·exact⟨by simpa using h1,_,h2⟩
    ·exact B2j h e he
   ·cases h
theorem Lw{f:Fs}{d i:Nat}(h:Yj f d i):d≠0∧∀l,Iu f i=some l→∀e,e∈l→e.node<f.nodes.length∧Lt f e.node.toNat≠0∧(e.name=hid→Lt f e.node.toNat=1)∧Yj f (d - 1) e.node.toNat:=by
 obtain⟨s,h⟩:=h;cases d with
 |zero=>cases h
 |succ d=>
  refine⟨by omega,fun l hl e he=>?_⟩;rw[Hy]at h;split at h
  ·cases h
  split at h
  ·rename_i h1
   have:Lt f i=2:=by
    unfold Iu at hl;split at hl
    ·cases hl
    ·rename_i n hn
     split at hl
     ·rename_i hk
      rw[Lt,List.getD_eq_getElem?_getD,hn];simpa using hk
     ·cases hl
   rw[this]at h1;cases h1
  rw[hl]at h;obtain⟨h1,h2⟩:=B2j h e he;simp only[C73,Bool.or_eq_false_iff,decide_eq_false_iff_not]at h1;obtain⟨⟨h3,h4⟩,h5⟩:=h1;refine⟨by omega,by simpa using h4,fun hn=>?_,h2⟩;rw[hn]at h5;simp at h5;exact h5.2
theorem Rk{f:Fs}(h:Ki f=true):S4 f∧Ez f=true∧Yj f 5 0:=by
 simp only[Ki,Bool.and_eq_true]at h;exact⟨A02 h.1.1,h.1.1,_,h.1.2⟩
theorem C5u{s:Str}{l:List En}(h:Sv s=some l):Dt l=true:=by
 unfold Sv at h;split at h
 ·cases h
 ·split at h
  ·rename_i h2;simp only[Option.some.injEq]at h;subst h;exact h2
  ·cases h
theorem Rf{f:Fs}{i:Nat}{l:List En}(h:Iu f i=some l):Dt l=true:=by
 unfold Iu at h;split at h
 ·cases h
 ·split at h
  ·exact C5u h
  ·cases h
theorem Jk{l:List En}(h:Dt l=true){e:En}(he:e∈l):Y4 e.name=true∧1≤e.node∧e.node≤9:=by
 simp only[Dt,Bool.and_eq_true,List.all_eq_true]at h;obtain⟨k,hk,e1⟩:=List.getElem_of_mem he;have:=h.1 k (List.mem_range.2 hk);simp only[A30,List.getElem?_eq_getElem hk,e1,Bool.and_eq_true,Bool.not_eq_true',C1y,Bool.or_eq_false_iff,Bool.not_eq_false']at this;have h2:=this.1.1.2;simp[inB]at h2;exact⟨this.1.1.1,h2⟩
theorem Qg{s:Str}(h:Y4 s=true):1≤s.length∧s.length≤6:=by
 simp only[Y4,Bool.or_eq_true]at h;rcases h with h|h
 ·have:s=hid:=by simpa using h
  subst this;decide
 ·simp only[D5,Bool.and_eq_true,inB,decide_eq_true_eq]at h
  omega
theorem A80{n:Int}(h:inB n 0 2147483647=true):1≤(Np n).length:=by
 unfold Np;rw[if_pos h,leb];split<;>simp
theorem C0o{e:En}(h:Y4 e.name=true)(h1:1≤e.node)(h2:e.node≤9):3≤(U7 e).length:=by
 have a:=Qg h;have b:=A80 (n:=e.name.length) (by simp[inB];omega);have c:=A80 (n:=e.node) (by simp[inB];omega);simp only[U7,Th,List.length_append];omega
theorem Oz{l:List En}(h:Dt l=true):l.length≤26:=by
 have key:∀(l:List En),(∀e,e∈l→3≤(U7 e).length)→3*l.length≤(G5 l).length:=by
  intro l;induction l with
  |nil=>intro _;simp[G5]
  |cons e l ih=>
   intro hm;have h1:=hm e (by simp);have h2:=ih fun x hx=>hm x (by simp[hx]);simp only[G5,List.flatMap_cons,List.length_append,List.length_cons]at*;omega
 have h1:=key l fun e he=>by
  obtain⟨a,b,c⟩:=Jk h he;exact C0o a b c
 simp only[Dt,Bool.and_eq_true,decide_eq_true_eq]at h;omega
def Ej(f:Fs):Nat→List Str→Int
 |i,[]=>i
 |i,s::r=>match Iu f i with
  |none=> -1
  |some l=>if Ge l s<0 then -1 else Ej f (Ge l s).toNat r
theorem S9{l:List En}{s:Str}:Ge l s= -1∨∃e,e∈l∧e.name=s∧Ge l s=e.node:=by
 unfold Ge;split
 ·exact .inl rfl
 ·rename_i e he
  exact .inr ⟨e,List.mem_of_find?_eq_some he,by simpa using List.find?_some he,rfl⟩
theorem Vm{f:Fs}:∀{l:List Str} {d i:Nat},Yj f d i→i<f.nodes.length→Ej f i l<0∧Ej f i l= -1∨(0≤Ej f i l∧Ej f i l<f.nodes.length∧∃d',Yj f d' (Ej f i l).toNat)
 |[],d,i,h,hi=>by
  right;rw[Ej];exact⟨by omega,by omega,d,by simpa using h⟩
 |s::r,d,i,h,hi=>by
  rw[Ej];split
  ·left;omega
  ·rename_i l hl
   split
   ·left;omega
   ·rename_i hd
    rcases S9 (l:=l) (s:=s)with e|⟨e,he,_,e1⟩
    ·rw[e]at hd;omega
    ·obtain⟨q1,_,_,q2⟩:=(Lw h).2 l hl e he
     have q3:=(Jk (Rf hl) he).2;rw[e1];exact Vm q2 (by omega)
def L7(rec:Nat→List Str→Tr→Tr)(f:Fs)(ns:List Str)(t:Tr)(e:En):Tr:=if e.name==hid then t
 else if Lt f e.node.toNat==2 then rec e.node.toNat (ns++[e.name]) (Hq t ⟨E3 (ns++[e.name]),2,[],0⟩)
 else Hq t ⟨E3 (ns++[e.name]),Lt f e.node.toNat,Js f e.node.toNat,(f.nodes.getD e.node.toNat .zero).time⟩
def I6(f:Fs):Nat→Nat→List Str→Tr→Tr
 |0,i,ns,t=>t
 |d+1,i,ns,t=>((Iu f i).getD []).foldl (L7 (I6 f d) f ns) t
def Hf(f:Fs):Tr:=if Ki f then I6 f 5 0 [] []else[]
theorem B97{n:Nd}(h:Jo n=true):0≤n.size∧n.size≤80:=by
 unfold Jo at h;split at h
 ·simp at h;rw[h.1.2];decide
 ·simp only[Bool.and_eq_true,inB,decide_eq_true_eq]at h
  omega
theorem X1{α:Type}{l:List α}{p:α→Bool}{a:α}(h:a∈l)(e:p a=false):l.all p=false:=by
 rw[List.all_eq_false];exact⟨a,h,by rw[e];decide⟩
def A01(n d:Int):Fs:=if inB n 2 10&&inB d 1 36 then⟨⟨2,0,0,0,[]⟩::List.replicate (n.toNat - 1) Nd.zero,List.replicate d.toNat []⟩else⟨[],[]⟩
def isN(f:Fs)(i:Int):Bool:=Ez f&&inB i 0 ((f.nodes.length:Int) - 1)&&(f.nodes.getD i.toNat .zero).kind !=0
end Go.GH
namespace Go.GH
open Go Go.Proofs
def Ey:Bd:=con [mC] true Int (fun n=>[.int .i64 n]) (fun _=>True) (fun n=>.int .i64 (Gu n))
def A1q:Env:=⟨A4 B5,A4 [],[0,2,4,6]⟩
theorem A29:B6 A1q (Av Tryz.f194) Tryz.f194.results.toList Ey:=by
 intro(n:Int) _;refine⟨trivial,?_⟩
 (conv=>whnf);refine⟨fun h1=>?_,fun h1=>?_⟩
 ·have h1:n≤0:=by simpa using h1
  skip;exact⟨trivial,Mu (by rw[Gu,if_pos h1])⟩
 have h1:¬n≤0:=by simpa using h1
 skip
 (conv=>whnf);refine⟨fun h2=>?_,fun h2=>?_⟩
 ·have h2:n≥80:=by simpa using h2
  skip;exact⟨trivial,Mu (by rw[Gu,if_neg h1,if_pos h2])⟩
 have h2:¬n≥80:=by simpa using h2
 have h3:=Int.tdiv_eq_ediv_of_nonneg (a:=n+15) (b:=16) (by omega);repeat((conv=>whnf);first|refine⟨_,w64 (bb),?_⟩|refine⟨bb,?_⟩)
 refine⟨(n+15).tdiv 16,by
  show IntKind.i64.wrap ((n+16 - 1).tdiv 16)=_;rw[show n+16 - 1=n+15 by omega,h3];exact w64 (by omega),?_⟩
 skip;exact⟨trivial,Mu (by rw[Gu,if_neg h1,if_neg h2])⟩
theorem S6:Au Tryz.prog 194 Ey:=Al (Bx _ _) FOk.nil mixed Tryz.func194 rfl Tryz.call194 (by decide) (by kernel_rfl) A29 (by intro _ (y:Int) _;exact⟨by simp[Ey,con,A9,A8,AV.noRd,A7,Ab,A5,A6,Ae,Ag,Ak],by simp[Ey,con,A9,A8,AV.noRd,A7,Ab,A5,A6,Ae,Ag,Ak]⟩) (by intro(y:Int) _;first|(simp[Ey,con,A9,A8,Ad,AV.free,A2,A3,A1,A6,Ae,Ag,Ak];done)|(obtain⟨_,_⟩:=y;simp[Ey,con,A9,A8,Ad,AV.free,A2,A3,A1,A6,Ae,Ag,Ak];done)|(obtain⟨_,_,_⟩:=y;simp[Ey,con,A9,A8,Ad,AV.free,A2,A3,A1,A6,Ae,Ag,Ak];done))
def G8:Bd:=con [mC] false Str A6 (fun s=>s.length≤8388608) (fun s=>.own 1 ((Th s).map Ag))
def A5v:Env:=⟨A4 B5,A4 [(208,Fg)],[0,2]⟩
theorem A8a:B6 A5v (Av Tryz.f207) Tryz.f207.results.toList G8:=by
 intro(s:Str) hs;have hs:s.length≤8388608:=hs;refine⟨trivial,?_⟩;have hp:=Qp s.length;skip;refine⟨(s.length:Int),rfl,fun _=>trivial,?_⟩;repeat((conv=>whnf);first|refine⟨bb,?_⟩|refine⟨C1c (fun a=>by simp[Ag,Ak,Ae,A6,AV.isOwn]),?_⟩)
 rw[show G8.res s=.own 1 ((Np s.length++s).map Ag)from rfl];refine⟨trivial,rfl,?_⟩;show List.take _ (List.drop 0 (_++List.take s.length (List.drop 0 (s.map Ag))))=_;first|rfl|exact trivial|(simp[tkM,Ag,Ae,Ak,A6,List.take_of_length_le];done)|(simp[tkM,List.take_of_length_le];omega)
theorem A3m:Au Tryz.prog 207 G8:=Al (Bx _ _) (FOk.cons W9 FOk.nil) mixed Tryz.func207 rfl Tryz.call207 (by decide) (by kernel_rfl) A8a (by intro _ (y:Str) _;exact⟨by simp[G8,con,A9,A8,AV.noRd,A7,Ab,A5,A6,Ae,Ag,Ak],by simp[G8,con,A9,A8,AV.noRd,A7,Ab,A5,A6,Ae,Ag,Ak]⟩) (by intro(y:Str) _;first|(simp[G8,con,A9,A8,Ad,AV.free,A2,A3,A1,A6,Ae,Ag,Ak];done)|(obtain⟨_,_⟩:=y;simp[G8,con,A9,A8,Ad,AV.free,A2,A3,A1,A6,Ae,Ag,Ak];done)|(obtain⟨_,_,_⟩:=y;simp[G8,con,A9,A8,Ad,AV.free,A2,A3,A1,A6,Ae,Ag,Ak];done))
def G4:Bd:=con [mS 1,mC] false (Str×Int) (fun⟨b,a⟩=>[.rd 1 (b.map Ag),.int .i64 a]) (fun x=>x.1.length≤1099511627776) (fun⟨b,a⟩=>.tup [.str ((J6 b a).getD ([],0)).1,.int .i64 (((J6 b a).getD ([],0)).2:Nat),.bool (J6 b a).isSome])
def A7l:Env:=⟨A4 B5,A4 [(203,Fu)],[0,1,4,5,6,7,8,9,26]⟩
theorem A7s:B6 A7l (Av Tryz.f202) Tryz.f202.results.toList G4:=by
 rintro⟨b,a⟩ hb;have hb:b.length≤1099511627776:=hb;refine⟨trivial,?_⟩;have fin:∀{o:Option (Str×Nat)},o=J6 b a→G4.res (b,a)=.tup [.str (o.getD ([],0)).1,.int .i64 ((o.getD ([],0)).2:Nat),.bool o.isSome]:=fun h=>by rw[h];rfl
 skip;refine⟨(b,a),by(repeat' (first|refine By ?_ ?_|refine C2 ?_|refine Bs ?_|refine C0 ?_|exact rfl))<;>simp[rdI,rdO,rdE,rdB,rdN,rdS,rdD,rdW,tkM],fun _=>by show b.length≤_;omega,?_⟩;have hle:((F4 b a).getD (0,0)).1≤2147483647∧((F4 b a).getD (0,0)).2≤b.length:=by
  cases hg:F4 b a with
  |none=>simp
  |some r=>have:=Xa (n:=r.1) (x:=r.2) hg;show r.1≤_∧r.2≤_;omega
 repeat((conv=>whnf);first|refine⟨fun h=>h,?_⟩|refine⟨_,w64 (bb),?_⟩)
 (conv=>whnf);refine⟨fun h1=>?_,fun h1=>?_⟩
 ·have hI:none=J6 b a:=by
   have h1:(!(F4 b a).isSome||decide ((((F4 b a).getD (0,0)).1:Int)>(((b.map Ag).length:Nat):Int) - (((F4 b a).getD (0,0)).2:Nat)))=true:=h1;rw[List.length_map]at h1;rw[J6];revert h1 hle;cases F4 b a with
   |none=>intros;rfl
   |some r=>
    obtain⟨n,x⟩:=r;intro hle h1;have:n>b.length - x:=by simp at h1 hle;omega
    simp[this]
  skip;rw[fin hI];exact⟨trivial,rfl,rfl,rfl,trivial⟩
 ·obtain⟨n,x,hg,hn⟩:∃n x,F4 b a=some (n,x)∧¬n>b.length - x:=by
   have h1:(!(F4 b a).isSome||decide ((((F4 b a).getD (0,0)).1:Int)>(((b.map Ag).length:Nat):Int) - (((F4 b a).getD (0,0)).2:Nat)))=false:=h1;rw[List.length_map]at h1;revert h1 hle;cases F4 b a with
   |none=>intro _ h;cases h
   |some r=>
    obtain⟨n,x⟩:=r;intro hle h1;exact⟨n,x,rfl,by simp at h1 hle;omega⟩
  have hI:some ((b.drop x).take n,x+n)=J6 b a:=by rw[J6,hg];simp[hn]
  have e1:((F4 b a).getD (0,0)).1=n:=by rw[hg];rfl
  have e2:((F4 b a).getD (0,0)).2=x:=by rw[hg];rfl
  have hg2:=Xa hg;repeat((conv=>whnf);first|refine⟨_,w64 (bb),?_⟩|refine⟨fun _=>⟨bb,bb,bb⟩,?_⟩)
  refine⟨(b.drop x).take n,by
   show List.take _ _=((b.drop x).take n).map Ag;rw[e1,e2,show((x:Int)+(n:Int)).toNat - (x:Int).toNat=n by omega,show(x:Int).toNat=x by omega,List.map_take,List.map_drop],?_⟩
  repeat((conv=>whnf);refine⟨_,w64 (bb),?_⟩)
  rw[fin hI];refine⟨trivial,rfl,Mu ?_,rfl,trivial⟩;show((((F4 b a).getD (0,0)).2:Nat):Int)+((((F4 b a).getD (0,0)).1:Nat):Int)=((x+n:Nat):Int);rw[e1,e2];omega
theorem A3o:Au Tryz.prog 202 G4:=Al (Bx _ _) (FOk.cons Vv FOk.nil) mixed Tryz.func202 rfl Tryz.call202 (by decide) (by kernel_rfl) A7s (by intro _ (y:(Str×Int)) _;exact⟨by simp[G4,con,A9,A8,AV.noRd,A7,Ab,A5,A6,Ae,Ag,Ak],by simp[G4,con,A9,A8,AV.noRd,A7,Ab,A5,A6,Ae,Ag,Ak]⟩) (by intro(y:(Str×Int)) _;first|(simp[G4,con,A9,A8,Ad,AV.free,A2,A3,A1,A6,Ae,Ag,Ak];done)|(obtain⟨_,_⟩:=y;simp[G4,con,A9,A8,Ad,AV.free,A2,A3,A1,A6,Ae,Ag,Ak];done)|(obtain⟨_,_,_⟩:=y;simp[G4,con,A9,A8,Ad,AV.free,A2,A3,A1,A6,Ae,Ag,Ak];done))
def Ih:Bd:=con [mC] true Str A6 (fun s=>s.length≤4611686018427387904) (fun s=>.bool (Y4 s))
def B0o:Env:=⟨A4 B5,A4 [(118,Gy)],[0,2]⟩
theorem A97:B6 B0o (Av Tryz.f211) Tryz.f211.results.toList Ih:=by
 intro(s:Str) hs;refine⟨trivial,?_⟩;repeat((conv=>whnf);refine⟨fun h=>h,?_⟩)
 refine⟨s,rfl,fun _=>hs,?_⟩;repeat((conv=>whnf);refine⟨fun h=>h,?_⟩)
 exact⟨trivial,rfl⟩
theorem A8q:Au Tryz.prog 211 Ih:=Al (Bx _ _) (FOk.cons Wg FOk.nil) mixed Tryz.func211 rfl Tryz.call211 (by decide) (by kernel_rfl) A97 (by intro _ (y:Str) _;exact⟨by simp[Ih,con,A9,A8,AV.noRd,A7,Ab,A5,A6,Ae,Ag,Ak],by simp[Ih,con,A9,A8,AV.noRd,A7,Ab,A5,A6,Ae,Ag,Ak]⟩) (by intro(y:Str) _;first|(simp[Ih,con,A9,A8,Ad,AV.free,A2,A3,A1,A6,Ae,Ag,Ak];done)|(obtain⟨_,_⟩:=y;simp[Ih,con,A9,A8,Ad,AV.free,A2,A3,A1,A6,Ae,Ag,Ak];done)|(obtain⟨_,_,_⟩:=y;simp[Ih,con,A9,A8,Ad,AV.free,A2,A3,A1,A6,Ae,Ag,Ak];done))
def G3:Bd:=con [mS 2,mC] true (List En×Str) (fun⟨l,s⟩=>[.rd 2 (l.map Ak),.str s]) (fun x=>x.1.length≤1099511627776) (fun⟨l,s⟩=>.int .i64 (Ge l s))
def A4r:Env:=⟨A4 B5,A4 [],[0,1,4,5,9,18]⟩
theorem A7q:B6 A4r (Av Tryz.f188) Tryz.f188.results.toList G3:=by
 rintro⟨l,s⟩ hl;have hl:l.length≤1099511627776:=hl;refine⟨trivial,?_⟩;skip;refine B2 (fun i:Nat=>⟨[(0,⟨none,.rd 2 (l.map Ak)⟩),(1,⟨none,.str s⟩),(5,⟨none,.int .i64 i⟩)],[],0⟩) (fun i=>i≤l.length∧((l.take i).find? fun e=>e.name==s)=none) (fun i=>l.length - i) 0 ?_ ⟨by omega,rfl⟩ ?_
 ·(refine⟨?_,?_,rfl⟩<;>repeat' (first|exact rfl|exact trivial|refine⟨?_,?_⟩|fail)<;>(conv=>whnf))
 rintro i ⟨hi,hc⟩
 (conv=>whnf);refine⟨fun h1=>?_,fun h1=>?_⟩
 ·have h1:i<l.length:=by simpa using h1
  obtain⟨b,hb⟩:=B7 h1;have hs:l=l.take i++b::l.drop (i+1):=by
   have:=List.take_append_drop i l;rw[List.drop_eq_getElem_cons h1]at this;rw[List.getElem?_eq_getElem h1]at hb;rw[←Option.some.inj hb];exact this.symm
  repeat((conv=>whnf);refine⟨Ak b,fun _=>⟨by omega,Ao hb⟩,?_⟩)
  (conv=>whnf);refine⟨fun h2=>?_,fun h2=>?_⟩
  ·have h2:(b.name==s)=true:=h2
   repeat((conv=>whnf);refine⟨Ak b,fun _=>⟨by omega,Ao hb⟩,?_⟩)
   refine⟨trivial,Mu ?_⟩;show b.node=Ge l s;have:l.find? (fun e=>e.name==s)=some b:=by rw[hs,List.find?_append,hc,List.find?_cons,h2];rfl
   rw[Ge,this]
  ·have h2:(b.name==s)=false:=h2
   repeat((conv=>whnf);refine⟨_,w64 (bb),?_⟩)
   refine Bt (i+1) ?_ ⟨h1,?_⟩ (by first|omega|(simp;done)|(simp;omega))
   ·(refine⟨?_,?_,rfl⟩<;>repeat' (first|exact rfl|exact trivial|refine⟨?_,?_⟩|fail)<;>(conv=>whnf))
   ·rw[Bk hb,List.find?_append,hc,List.find?_cons,h2];rfl
 ·have h1:i=l.length:=by have:¬(i<l.length):=by simpa using h1
                         omega
  subst h1;rw[List.take_length]at hc;skip;exact⟨trivial,Mu (by rw[Ge,hc])⟩
theorem Uf:Au Tryz.prog 188 G3:=Al (Bx _ _) FOk.nil mixed Tryz.func188 rfl Tryz.call188 (by decide) (by kernel_rfl) A7q (by intro _ (y:(List En×Str)) _;exact⟨by simp[G3,con,A9,A8,AV.noRd,A7,Ab,A5,A6,Ae,Ag,Ak],by simp[G3,con,A9,A8,AV.noRd,A7,Ab,A5,A6,Ae,Ag,Ak]⟩) (by intro(y:(List En×Str)) _;first|(simp[G3,con,A9,A8,Ad,AV.free,A2,A3,A1,A6,Ae,Ag,Ak];done)|(obtain⟨_,_⟩:=y;simp[G3,con,A9,A8,Ad,AV.free,A2,A3,A1,A6,Ae,Ag,Ak];done)|(obtain⟨_,_,_⟩:=y;simp[G3,con,A9,A8,Ad,AV.free,A2,A3,A1,A6,Ae,Ag,Ak];done))
def H5:Bd:=con [mS 2] false (List En) (fun l=>[.rd 2 (l.map Ak)]) (fun l=>l.length≤1099511627) (fun l=>.own 2 (l.map Ak))
def B14:Env:=⟨A4 B5,A4 [],[0,2]⟩
theorem A9k:B6 B14 (Av Tryz.f206) Tryz.f206.results.toList H5:=by
 intro(l:List En) hl;have hl:l.length≤1099511627:=hl;refine⟨trivial,?_⟩;repeat((conv=>whnf);refine⟨bb,?_⟩)
 refine⟨trivial,rfl,?_⟩;simp
theorem V4:Au Tryz.prog 206 H5:=Al (Bx _ _) FOk.nil mixed Tryz.func206 rfl Tryz.call206 (by decide) (by kernel_rfl) A9k (by intro _ (y:(List En)) _;exact⟨by simp[H5,con,A9,A8,AV.noRd,A7,Ab,A5,A6,Ae,Ag,Ak],by simp[H5,con,A9,A8,AV.noRd,A7,Ab,A5,A6,Ae,Ag,Ak]⟩) (by intro(y:(List En)) _;first|(simp[H5,con,A9,A8,Ad,AV.free,A2,A3,A1,A6,Ae,Ag,Ak];done)|(obtain⟨_,_⟩:=y;simp[H5,con,A9,A8,Ad,AV.free,A2,A3,A1,A6,Ae,Ag,Ak];done)|(obtain⟨_,_,_⟩:=y;simp[H5,con,A9,A8,Ad,AV.free,A2,A3,A1,A6,Ae,Ag,Ak];done))
def Fd:Bd:=con [mS 2] true (List En) (fun l=>[.rd 2 (l.map Ak)]) (fun l=>l.length≤1099511627∧szE l≤4398046511104∧∀e,e∈l→e.name.length≤8388608) (fun l=>.str (G5 l))
def A6b:Env:=⟨A4 B5,A4 [(207,G8),(208,Fg)],[0,2,3,4,9]⟩
theorem A5f:B6 A6b (Av Tryz.f193) Tryz.f193.results.toList Fd:=by
 intro(l:List En) hl;obtain⟨hl,hz,hs⟩:l.length≤1099511627∧szE l≤4398046511104∧∀e,e∈l→e.name.length≤8388608:=hl;refine⟨trivial,?_⟩;skip;refine B2 (fun i:Nat=>⟨[(0,⟨none,.rd 2 (l.map Ak)⟩),(3,⟨none,.view 0 [] 0 (G5 (l.take i)).length⟩),(4,⟨none,.int .i64 i⟩)],[(0,.own 1 ((G5 (l.take i)).map Ag))],1⟩) (fun i=>i≤l.length) (fun i=>l.length - i) 0 ?_ (Nat.zero_le _) ?_
 ·(refine⟨?_,?_,rfl⟩<;>repeat' (first|exact rfl|exact trivial|refine⟨?_,?_⟩|fail)<;>(conv=>whnf))
 intro i hi;have hi:i≤l.length:=hi;have hlen:(G5 (l.take i)).length≤szE l:=by
  have h1:=Rt (l.take i);have h2:=A04 (l.take i) (l.drop i);rw[List.take_append_drop]at h2;omega
 (conv=>whnf);refine⟨fun h1=>?_,fun h1=>?_⟩
 ·have h1:i<l.length:=by simpa using h1
  obtain⟨b,hb⟩:=B7 h1;have hbs:=hs b (List.mem_of_getElem? hb);have hp:=Qp b.name.length;have hp2:=Qp b.node;have hpt:(Th b.name).length≤b.name.length+6:=by simp[Th];omega
  repeat((conv=>whnf);refine⟨Ak b,fun _=>⟨by omega,Ao hb⟩,?_⟩)
  refine⟨b.name,rfl,fun _=>hbs,?_⟩;repeat((conv=>whnf);first|refine⟨bb,?_⟩|refine⟨Ak b,fun _=>⟨by omega,Ao hb⟩,?_⟩|refine⟨C1c (fun a=>by simp[Ag,Ak,Ae,A6,AV.isOwn]),?_⟩)
  refine⟨b.node,rfl,fun _=>trivial,?_⟩;repeat((conv=>whnf);first|refine⟨_,w64 (bb),?_⟩|refine⟨bb,?_⟩|refine⟨C1c (fun a=>by simp[Ag,Ak,Ae,A6,AV.isOwn]),?_⟩)
  refine Bt (i+1) ?_ h1 (by first|omega|(simp;done)|(simp;omega));rw[Bk hb,show G5 (l.take i++[b])=G5 (l.take i)++(Th b.name++Np b.node) by simp[G5,U7]]
  (refine⟨?_,?_,rfl⟩<;>repeat' (first|exact rfl|exact trivial|refine⟨?_,?_⟩|fail)<;>(conv=>whnf))
  all_goals first|rfl|exact trivial|(simp[tkM,Ag,Ae,Ak,A6,List.take_of_length_le];done)|(simp[tkM,List.take_of_length_le];omega)
 ·have h1:i=l.length:=by have:¬(i<l.length):=by simpa using h1
                         omega
  subst h1;rw[List.take_length];skip;refine⟨G5 l,by show List.take _ _=(G5 l).map Ag;first|rfl|exact trivial|(simp[tkM,Ag,Ae,Ak,A6,List.take_of_length_le];done)|(simp[tkM,List.take_of_length_le];omega),?_⟩;skip;exact⟨trivial,rfl⟩
theorem Pe:Au Tryz.prog 193 Fd:=Al (Bx _ _) (FOk.cons A3m (FOk.cons W9 FOk.nil)) mixed Tryz.func193 rfl Tryz.call193 (by decide) (by kernel_rfl) A5f (by intro _ (y:(List En)) _;exact⟨by simp[Fd,con,A9,A8,AV.noRd,A7,Ab,A5,A6,Ae,Ag,Ak],by simp[Fd,con,A9,A8,AV.noRd,A7,Ab,A5,A6,Ae,Ag,Ak]⟩) (by intro(y:(List En)) _;first|(simp[Fd,con,A9,A8,Ad,AV.free,A2,A3,A1,A6,Ae,Ag,Ak];done)|(obtain⟨_,_⟩:=y;simp[Fd,con,A9,A8,Ad,AV.free,A2,A3,A1,A6,Ae,Ag,Ak];done)|(obtain⟨_,_,_⟩:=y;simp[Fd,con,A9,A8,Ad,AV.free,A2,A3,A1,A6,Ae,Ag,Ak];done))
def Ex:Bd:=con [mS 2] true (List En) (fun l=>[.rd 2 (l.map Ak)]) (fun l=>l.length≤1099511627∧szE l≤4398046511104∧∀e,e∈l→e.name.length≤8388608) (fun l=>.bool (Dt l))
def A0x:Env:=⟨A4 B5,A4 [(76,Ch),(193,Fd),(211,Ih)],[0,2,3,4,8,44,47,60]⟩
theorem A20:B6 A0x (Av Tryz.f204) Tryz.f204.results.toList Ex:=by
 intro(l:List En) hl;obtain⟨hl,hz,hs⟩:l.length≤1099511627∧szE l≤4398046511104∧∀e,e∈l→e.name.length≤8388608:=hl;refine⟨trivial,?_⟩;have hbad:∀{i:Nat},i<l.length→A30 l i=false→Dt l=false:=by
  intro i h e;rw[Dt,Bool.and_eq_false_iff];left;rw[List.all_eq_false];exact⟨i,List.mem_range.2 h,by rw[e];decide⟩
 skip;refine B2 (fun i:Nat=>⟨[(0,⟨none,.rd 2 (l.map Ak)⟩),(3,⟨none,.int .i64 i⟩)],[],0⟩) (fun i=>i≤l.length∧∀j,j<i→A30 l j=true) (fun i=>l.length - i) 0 ?_ ⟨Nat.zero_le _,fun j hj=>absurd hj (Nat.not_lt_zero _)⟩ ?_
 ·(refine⟨?_,?_,rfl⟩<;>repeat' (first|exact rfl|exact trivial|refine⟨?_,?_⟩|fail)<;>(conv=>whnf))
 rintro i ⟨hi,hI⟩
 (conv=>whnf);refine⟨fun h1=>?_,fun h1=>?_⟩
 ·have h1:i<l.length:=by simpa using h1
  obtain⟨b,hb⟩:=B7 h1;have hbs:=hs b (List.mem_of_getElem? hb);repeat((conv=>whnf);refine⟨Ak b,fun _=>⟨by omega,Ao hb⟩,?_⟩)
  refine⟨b.name,rfl,fun _=>by show b.name.length≤_;omega,?_⟩;generalize hpv:l.getD (i - 1) b=pv;have hprev:0<i→l[i - 1]? =some pv:=fun h=>by
   rw[←hpv,List.getD_eq_getElem?_getD,List.getElem?_eq_getElem (by omega)];rfl
  have hix:∀{A:Bool},Cy (some (A&&decide ((i:Int)>0)))→(0:Int)≤(i:Int) - 1∧(l.map Ak)[((i:Int) - 1).toNat]? =some (Ak pv):=by
   intro A h;have hi0:0<i:=by simp[Cy]at h;omega
   exact⟨by omega,by rw[show((i:Int) - 1).toNat=i - 1 by omega];exact Ao (hprev hi0)⟩
  repeat((conv=>whnf);first|refine⟨fun h=>h,?_⟩|refine⟨(by kernel_rfl:Bu _ _=true),?_⟩|refine⟨_,w64 (bb),?_⟩|refine⟨Ak b,fun _=>⟨by omega,Ao hb⟩,?_⟩|refine⟨Ak pv,fun h=>hix h,?_⟩|refine⟨(_,_,_),rfl,fun _=>trivial,?_⟩)
  (conv=>whnf);refine⟨fun h3=>?_,fun h3=>?_⟩
  ·have h3:C1y i b pv=true:=h3
   skip;exact⟨trivial,eqB (hbad h1 (by rw[A30,hb];simp only[hpv,h3];rfl)).symm⟩
  have h3:C1y i b pv=false:=h3;skip;refine B2 (fun k:Nat=>⟨[(0,⟨none,.rd 2 (l.map Ak)⟩),(3,⟨none,.int .i64 i⟩),(4,⟨none,.int .i64 k⟩)],[],0⟩) (fun k=>k≤i∧((l.take k).any fun x=>x.node==b.node)=false) (fun k=>i - k) 0 ?_ ⟨Nat.zero_le _,rfl⟩ ?_
  ·(refine⟨?_,?_,rfl⟩<;>repeat' (first|exact rfl|exact trivial|refine⟨?_,?_⟩|fail)<;>(conv=>whnf))
  rintro k ⟨hk,hK⟩
  (conv=>whnf);refine⟨fun h4=>?_,fun h4=>?_⟩
  ·have h4:k<i:=by have h4:decide ((k:Int)<i)=true:=h4
                   simp at h4;omega
   obtain⟨y,hy⟩:=B7 (l:=l) (i:=k) (by omega);repeat((conv=>whnf);first|refine⟨(by kernel_rfl:Bu _ _=true),?_⟩|refine⟨Ak y,fun _=>⟨by omega,Ao hy⟩,?_⟩|refine⟨Ak b,fun _=>⟨by omega,Ao hb⟩,?_⟩)
   (conv=>whnf);refine⟨fun h5=>?_,fun h5=>?_⟩
   ·have h5:(y.node==b.node)=true:=h5
    skip;refine⟨trivial,eqB (hbad h1 ?_).symm⟩;rw[A30,hb];have:((l.take i).any fun x=>x.node==b.node)=true:=List.any_eq_true.2 ⟨y,by
     rw[List.mem_iff_getElem?];exact⟨k,by rw[List.getElem?_take,if_pos h4];exact hy⟩,h5⟩
    simp only[this];simp
   ·have h5:(y.node==b.node)=false:=h5
    repeat((conv=>whnf);refine⟨_,w64 (bb),?_⟩)
    refine Bt (k+1) ?_ ⟨h4,?_⟩ (by first|omega|(simp;done)|(simp;omega))
    ·(refine⟨?_,?_,rfl⟩<;>repeat' (first|exact rfl|exact trivial|refine⟨?_,?_⟩|fail)<;>(conv=>whnf))
    ·rw[Bk hy,List.any_append,hK,List.any_cons,h5];rfl
  ·have h4:k=i:=by have h4:decide ((k:Int)<i)=false:=h4
                   simp at h4;omega
   subst h4;repeat((conv=>whnf);refine⟨_,w64 (bb),?_⟩)
   refine Bt (k+1) ?_ ⟨h1,fun j hj=>?_⟩ (by first|omega|(simp;done)|(simp;omega))
   ·(refine⟨?_,?_,rfl⟩<;>repeat' (first|exact rfl|exact trivial|refine⟨?_,?_⟩|fail)<;>(conv=>whnf))
   ·rcases Nat.lt_or_ge j k with h|h
    ·exact hI j h
    ·rw[show j=k by omega,A30,hb];simp only[hpv,h3,hK];rfl
 ·have h1:i=l.length:=by have:¬(i<l.length):=by simpa using h1
                         omega
  subst h1;skip;refine⟨l,rfl,fun _=>⟨hl,hz,hs⟩,?_⟩;skip;refine⟨trivial,eqB ?_⟩;have:(List.range l.length).all (A30 l)=true:=List.all_eq_true.2 fun j hj=>hI j (List.mem_range.1 hj);rw[Dt,this,Bool.true_and,Bool.eq_iff_iff];simp;omega
theorem Rq:Au Tryz.prog 204 Ex:=Al (Bx _ _) (FOk.cons Di (FOk.cons Pe (FOk.cons A8q FOk.nil))) mixed Tryz.func204 rfl Tryz.call204 (by decide) (by kernel_rfl) A20 (by intro _ (y:(List En)) _;exact⟨by simp[Ex,con,A9,A8,AV.noRd,A7,Ab,A5,A6,Ae,Ag,Ak],by simp[Ex,con,A9,A8,AV.noRd,A7,Ab,A5,A6,Ae,Ag,Ak]⟩) (by intro(y:(List En)) _;first|(simp[Ex,con,A9,A8,Ad,AV.free,A2,A3,A1,A6,Ae,Ag,Ak];done)|(obtain⟨_,_⟩:=y;simp[Ex,con,A9,A8,Ad,AV.free,A2,A3,A1,A6,Ae,Ag,Ak];done)|(obtain⟨_,_,_⟩:=y;simp[Ex,con,A9,A8,Ad,AV.free,A2,A3,A1,A6,Ae,Ag,Ak];done))
def I5:Bd:=con [mC] false Str A6 (fun s=>s.length≤1048576) (fun s=>.tup [.own 2 (((Sv s).getD []).map Ak),.bool (Sv s).isSome])
def B55:Env:=⟨A4 B5,A4 [(202,G4),(203,Fu),(204,Ex)],[0,2,3,4,5,6,7,8,9,10,11,12,19,28,38,49]⟩
theorem B5y:B6 B55 (Av Tryz.f187) Tryz.f187.results.toList I5:=by
 intro(s:Str) hs;have hs:s.length≤1048576:=hs;refine⟨trivial,?_⟩;have fin:∀{o:Option (List En)},o=Sv s→I5.res s=.tup [.own 2 ((o.getD []).map Ak),.bool o.isSome]:=fun h=>by rw[h];rfl
 skip;refine B2 (fun((a,o,f):Nat×List En×Nat)=>⟨[(4,⟨none,.view 0 [] 0 o.length⟩),(5,⟨none,.view 1 [] 0 s.length⟩),(6,⟨none,.int .i64 a⟩)],[(0,.own 2 (o.map Ak)),(1,.own 1 (s.map Ag))],2⟩)
  (fun(a,o,f)=>a≤s.length∧s.length≤a+f∧szE o≤12*a∧(∀e,e∈o→e.name.length≤1048576)∧A2n s f a o=A2n s s.length 0 []) (fun x=>x.2.2) (0,[],s.length) ?_ ⟨Nat.zero_le _,by omega,Nat.le_refl _,fun e he=>absurd he (by simp),rfl⟩ ?_
 ·(refine⟨?_,?_,rfl⟩<;>repeat' (first|exact rfl|exact trivial|refine⟨?_,?_⟩|fail)<;>(conv=>whnf))
 rintro⟨a,o,f⟩ ⟨ha,hf,hz,hnm,hI⟩;have hol:=C1v o
 (conv=>whnf);refine⟨fun h1=>?_,fun h1=>?_⟩
 ·have h1:a<s.length:=by have h1:decide ((a:Int)<(s.length:Nat))=true:=h1
                         simp at h1;omega
  obtain⟨f,rfl⟩:∃g,f=g+1:=⟨f - 1,by omega⟩
  rw[A2n,if_pos h1]at hI;skip;refine⟨(s,(a:Int)),by(repeat' (first|refine By ?_ ?_|refine C2 ?_|refine Bs ?_|refine C0 ?_|exact rfl))<;>simp[rdI,rdO,rdE,rdB,rdN,rdS,rdD,rdW,tkM],fun _=>by show s.length≤_;omega,?_⟩;have no:A2n s s.length 0 []=none→none=Sv s:=fun h=>by rw[Sv,h]
  skip
  (conv=>whnf);refine⟨fun h2=>?_,fun h2=>?_⟩
  ·have h2:J6 s a=none:=by
    have h2:(!(J6 s a).isSome)=true:=h2;simpa using h2
   rw[h2]at hI;skip;rw[fin (no hI.symm)];exact⟨trivial,⟨rfl,rfl⟩,rfl,trivial⟩
  obtain⟨nm,x,hg⟩:∃nm x,J6 s a=some (nm,x):=by
   have h2:(!(J6 s a).isSome)=false:=h2;cases h:J6 s a with
   |none=>rw[h]at h2;cases h2
   |some r=>exact⟨r.1,r.2,rfl⟩
  have e1:((J6 s a).getD ([],0)).1=nm:=by rw[hg];rfl
  have e2:((J6 s a).getD ([],0)).2=x:=by rw[hg];rfl
  have hx:=C1d hg;rw[hg]at hI;simp only at hI;skip;refine⟨(s,(x:Int)),by rw[←e2];exact by(repeat' (first|refine By ?_ ?_|refine C2 ?_|refine Bs ?_|refine C0 ?_|exact rfl))<;>simp[rdI,rdO,rdE,rdB,rdN,rdS,rdD,rdW,tkM],fun _=>by show s.length≤_;omega,?_⟩;skip
  (conv=>whnf);refine⟨fun h3=>?_,fun h3=>?_⟩
  ·have h3:F4 s x=none:=by
    have h3:(!(F4 s x).isSome)=true:=h3;simpa using h3
   rw[h3]at hI;skip;rw[fin (no hI.symm)];exact⟨trivial,⟨rfl,rfl⟩,rfl,trivial⟩
  obtain⟨n,y,hg2⟩:∃n y,F4 s x=some (n,y):=by
   have h3:(!(F4 s x).isSome)=false:=h3;cases h:F4 s x with
   |none=>rw[h]at h3;cases h3
   |some r=>exact⟨r.1,r.2,rfl⟩
  have e3:((F4 s x).getD (0,0)).1=n:=by rw[hg2];rfl
  have e4:((F4 s x).getD (0,0)).2=y:=by rw[hg2];rfl
  have hy:=Xa hg2;rw[hg2]at hI;simp only at hI;repeat((conv=>whnf);first|refine⟨bb,?_⟩|refine⟨Ls (by rfl),?_⟩)
  refine Bt (y,o++[⟨nm,n⟩],f) ?_ ⟨by omega,by omega,by rw[A04];simp[szE]at hz⊢;omega,fun e he=>by
   rcases List.mem_append.1 he with he|he
   ·exact hnm e he
   ·rw[List.mem_singleton]at he;subst he;show nm.length≤_;omega,hI⟩ (by first|omega|(simp;done)|(simp;omega))
  (refine⟨?_,?_,rfl⟩<;>repeat' (first|exact rfl|exact trivial|refine⟨?_,?_⟩|fail)<;>(conv=>whnf))
  all_goals first|(rw[e4];done)|(show((((F4 s x).getD (0,0)).2:Nat):Int)=_;rw[e4];done)|(simp[tkM,Ak,e1,e3,List.take_of_length_le];done)
 ·have h1:¬a<s.length:=by have h1:decide ((a:Int)<(s.length:Nat))=false:=h1
                          simp at h1;omega
  have hI2:A2n s s.length 0 []=some o:=by
   rw[←hI];cases f<;>rw[A2n,if_neg h1]
  skip;have hn:∀e,e∈o→e.name.length≤8388608:=fun e he=>Nat.le_trans (hnm e he) (by omega);refine⟨o,by(repeat' (first|refine By ?_ ?_|refine C2 ?_|refine Bs ?_|refine C0 ?_|exact rfl))<;>simp[rdI,rdO,rdE,rdB,rdN,rdS,rdD,rdW,tkM],fun _=>⟨by omega,by omega,hn⟩,?_⟩
  (conv=>whnf);refine⟨fun h2=>?_,fun h2=>?_⟩
  ·have h2:(!Dt o)=true:=h2
   have hd:none=Sv s:=by rw[Sv,hI2];simp at h2;simp[h2]
   skip;rw[fin hd];exact⟨trivial,⟨rfl,rfl⟩,rfl,trivial⟩
  ·have h2:(!Dt o)=false:=h2
   have hd:some o=Sv s:=by rw[Sv,hI2];simp at h2;simp[h2]
   skip;rw[fin hd];refine⟨trivial,⟨rfl,?_⟩,rfl,trivial⟩;first|rfl|exact trivial|(simp[tkM,Ag,Ae,Ak,A6,List.take_of_length_le];done)|(simp[tkM,List.take_of_length_le];omega)
theorem A9h:Au Tryz.prog 187 I5:=Al (Bx _ _) (FOk.cons A3o (FOk.cons Vv (FOk.cons Rq FOk.nil))) mixed Tryz.func187 rfl Tryz.call187 (by decide) (by kernel_rfl) B5y (by intro _ (y:Str) _;exact⟨by simp[I5,con,A9,A8,AV.noRd,A7,Ab,A5,A6,Ae,Ag,Ak],by simp[I5,con,A9,A8,AV.noRd,A7,Ab,A5,A6,Ae,Ag,Ak]⟩) (by intro(y:Str) _;first|(simp[I5,con,A9,A8,Ad,AV.free,A2,A3,A1,A6,Ae,Ag,Ak];done)|(obtain⟨_,_⟩:=y;simp[I5,con,A9,A8,Ad,AV.free,A2,A3,A1,A6,Ae,Ag,Ak];done)|(obtain⟨_,_,_⟩:=y;simp[I5,con,A9,A8,Ad,AV.free,A2,A3,A1,A6,Ae,Ag,Ak];done))
def G0:Bd:=con [mS 2,mC,mC] false (List En×En) (fun⟨l,e⟩=>[.rd 2 (l.map Ak),.str e.name,.int .i64 e.node]) (fun x=>smE x.1∧x.2.name.length≤1048576) (fun⟨l,e⟩=>.tup [.own 2 ((I4 l e).1.map Ak),.bool (I4 l e).2])
def B10:Env:=⟨A4 B5,A4 [(204,Ex),(206,H5)],[0,1,2,6,7,8,9,10,17,26,49]⟩
theorem B1c:B6 B10 (Av Tryz.f205) Tryz.f205.results.toList G0:=by
 rintro⟨l,e⟩ hl;obtain⟨⟨hl,hz,hs⟩,he⟩:smE l∧e.name.length≤1048576:=hl;refine⟨trivial,?_⟩;repeat((conv=>whnf);refine⟨_,w64 (bb),?_⟩)
 refine B2 (fun((j,a):Nat×Nat)=>⟨[(0,⟨none,.rd 2 (l.map Ak)⟩),(1,⟨none,.str e.name⟩),(2,⟨none,.int .i64 e.node⟩),(8,⟨none,.int .i64 a⟩),(9,⟨none,.int .i64 ((j:Int) - 1)⟩)],[],0⟩) (fun(j,a)=>j≤l.length∧a=j+((l.drop j).findIdx fun x=>Ce e.name x.name)) (fun x=>x.1) (l.length,l.length) ?_ ⟨Nat.le_refl _,by simp⟩ ?_
 ·(refine⟨?_,?_,rfl⟩<;>repeat' (first|exact rfl|exact trivial|refine⟨?_,?_⟩|fail)<;>(conv=>whnf))
  all_goals first|(show((l.map Ak).length:Int)=_;simp;done)|(show((l.map Ak).length:Int) - 1=(l.length:Int) - 1;simp;done)
 rintro⟨j,a⟩ ⟨hj,ha⟩;have hj:j≤l.length:=hj
 (conv=>whnf);refine⟨fun h1=>?_,fun h1=>?_⟩
 ·have h1:1≤j:=by have h1:decide ((j:Int) - 1≥0)=true:=h1
                  simp at h1;omega
  obtain⟨k,rfl⟩:∃k,j=k+1:=⟨j - 1,by omega⟩
  obtain⟨b,hb⟩:=B7 (l:=l) (i:=k) (by omega);have hst:=C3a (s:=e.name) hb;repeat((conv=>whnf);refine⟨Ak b,fun _=>⟨by omega,by rw[show(((k+1:Nat):Int) - 1).toNat=k by omega];exact Ao hb⟩,?_⟩)
  (conv=>whnf);refine⟨fun h2=>?_,fun h2=>?_⟩
  ·have h2:Ce e.name b.name=true:=h2
   rw[if_pos h2]at hst;repeat((conv=>whnf);refine⟨_,w64 (bb),?_⟩)
   refine Bt (k,k) ?_ ⟨by omega,by omega⟩ (by first|omega|(simp;done)|(simp;omega))
   (refine⟨?_,?_,rfl⟩<;>repeat' (first|exact rfl|exact trivial|refine⟨?_,?_⟩|fail)<;>(conv=>whnf))
   all_goals first|(show(((k+1:Nat):Int) - 1)=_;omega)|(show(((k+1:Nat):Int) - 1) - 1=(k:Int) - 1;omega)
  ·have h2:Ce e.name b.name=false:=h2
   rw[if_neg (by rw[h2];decide)]at hst;repeat((conv=>whnf);refine⟨_,w64 (bb),?_⟩)
   refine Bt (k,a) ?_ ⟨by omega,by omega⟩ (by first|omega|(simp;done)|(simp;omega))
   (refine⟨?_,?_,rfl⟩<;>repeat' (first|exact rfl|exact trivial|refine⟨?_,?_⟩|fail)<;>(conv=>whnf))
   all_goals first|(show(((k+1:Nat):Int) - 1) - 1=(k:Int) - 1;omega)
 ·have h1:j=0:=by have h1:decide ((j:Int) - 1≥0)=false:=h1
                  simp at h1;omega
  subst h1;have hal:=A5l l e.name;have ha:a=Tg l e.name:=by rw[ha];simp[Tg]
  rw[←ha]at hal;have hpl:=A6d l e;have hps:=B2v l e;have hpm:=fun x (h:x∈N4 l e)=>A6q h;have hpe:N4 l e=l.take a++[e]++l.drop a:=by rw[ha];rfl
  have sm2:(N4 l e).length≤1099511627∧szE (N4 l e)≤4398046511104∧∀x,x∈N4 l e→x.name.length≤8388608:=⟨by omega,by omega,fun x hx=>by
   rcases hpm x hx with rfl|h
   ·omega
   ·have:=hs x h;omega⟩
  have sm1:l.length≤1099511627∧szE l≤4398046511104∧∀x,x∈l→x.name.length≤8388608:=⟨by omega,by omega,fun x hx=>by have:=hs x hx;omega⟩
  clear hpl hps hpm;generalize hout:N4 l e=out at hpe sm2;repeat((conv=>whnf);refine⟨fun _=>⟨bb,bb,bb⟩,?_⟩)
  refine⟨l.take a,by refine By (Bs ?_) rfl;show((l.map Ak).drop 0).take _=_;simp[List.map_take],fun _=>by show(l.take a).length≤_;rw[List.length_take];omega,?_⟩;repeat((conv=>whnf);first|refine⟨fun _=>⟨bb,bb,bb⟩,?_⟩|refine⟨bb,?_⟩|refine⟨Ls (by rfl),?_⟩)
  refine⟨l,rfl,fun _=>sm1,?_⟩;repeat((conv=>whnf);refine⟨fun h=>h,?_⟩)
  refine⟨out,by
   refine By (Bs ?_) rfl;rw[hpe];refine(congrArg D1 ?_).trans (rdE _);simp[List.take_of_length_le,Ak];exact List.take_of_length_le (by simp;omega),fun _=>sm2,?_⟩
  repeat((conv=>whnf);refine⟨fun h=>h,?_⟩)
  (conv=>whnf);refine⟨fun h2=>?_,fun h2=>?_⟩
  ·have h2:(!Dt l|| !Dt out)=true:=h2
   have hd:I4 l e=(l,false):=by
    rw[I4,hout,if_neg];revert h2;cases Dt l<;>cases Dt out<;>simp
   skip;refine⟨l,rfl,fun _=>by show l.length≤_;omega,?_⟩;skip;rw[show G0.res (l,e)=.tup [.own 2 (l.map Ak),.bool false] by show AV.tup [.own 2 ((I4 l e).1.map Ak),.bool (I4 l e).2]=_;rw[hd]];exact⟨trivial,⟨rfl,by simp⟩,rfl,trivial⟩
  ·have h2:(!Dt l|| !Dt out)=false:=h2
   have hd:I4 l e=(l.take a++[e]++l.drop a,true):=by
    rw[I4,hout,if_pos,hpe];revert h2;cases Dt l<;>cases Dt out<;>simp
   skip;rw[show G0.res (l,e)=.tup [.own 2 ((l.take a++[e]++l.drop a).map Ak),.bool true] by show AV.tup [.own 2 ((I4 l e).1.map Ak),.bool (I4 l e).2]=_;rw[hd]];refine⟨trivial,⟨rfl,?_⟩,rfl,trivial⟩;simp[List.take_of_length_le,Ak];exact List.take_of_length_le (by simp;omega)
theorem A7o:Au Tryz.prog 205 G0:=Al (Bx _ _) (FOk.cons Rq (FOk.cons V4 FOk.nil)) mixed Tryz.func205 rfl Tryz.call205 (by decide) (by kernel_rfl) B1c (by intro _ (y:(List En×En)) _;exact⟨by simp[G0,con,A9,A8,AV.noRd,A7,Ab,A5,A6,Ae,Ag,Ak],by simp[G0,con,A9,A8,AV.noRd,A7,Ab,A5,A6,Ae,Ag,Ak]⟩) (by intro(y:(List En×En)) _;first|(simp[G0,con,A9,A8,Ad,AV.free,A2,A3,A1,A6,Ae,Ag,Ak];done)|(obtain⟨_,_⟩:=y;simp[G0,con,A9,A8,Ad,AV.free,A2,A3,A1,A6,Ae,Ag,Ak];done)|(obtain⟨_,_,_⟩:=y;simp[G0,con,A9,A8,Ad,AV.free,A2,A3,A1,A6,Ae,Ag,Ak];done))
def Fe:Bd:=con [mS 2,mC] false (List En×Str) (fun⟨l,s⟩=>[.rd 2 (l.map Ak),.str s]) (fun x=>x.1.length≤1048576) (fun⟨l,s⟩=>.tup [.own 2 ((Ia l s).map Ak),.bool (l.any fun e=>e.name==s)])
def A4u:Env:=⟨A4 B5,A4 [(206,H5)],[0,1,4,5,6,10,19]⟩
theorem A7i:B6 A4u (Av Tryz.f192) Tryz.f192.results.toList Fe:=by
 rintro⟨l,s⟩ hl;have hl:l.length≤1048576:=hl;refine⟨trivial,?_⟩;skip;refine B2 (fun i:Nat=>⟨[(0,⟨none,.rd 2 (l.map Ak)⟩),(1,⟨none,.str s⟩),(6,⟨none,.int .i64 i⟩)],[],0⟩) (fun i=>i≤l.length∧((l.take i).any fun e=>e.name==s)=false) (fun i=>l.length - i) 0 ?_ ⟨Nat.zero_le _,rfl⟩ ?_
 ·(refine⟨?_,?_,rfl⟩<;>repeat' (first|exact rfl|exact trivial|refine⟨?_,?_⟩|fail)<;>(conv=>whnf))
 rintro i ⟨hi,hc⟩
 (conv=>whnf);refine⟨fun h1=>?_,fun h1=>?_⟩
 ·have h1:i<l.length:=by simpa using h1
  obtain⟨b,hb⟩:=B7 h1;repeat((conv=>whnf);refine⟨Ak b,fun _=>⟨by omega,Ao hb⟩,?_⟩)
  (conv=>whnf);refine⟨fun h2=>?_,fun h2=>?_⟩
  ·have h2:(b.name==s)=true:=h2
   have he:=C64 hb hc h2;have ht:(l.any fun e=>e.name==s)=true:=List.any_eq_true.2 ⟨b,List.mem_of_getElem? hb,h2⟩;repeat((conv=>whnf);refine⟨fun _=>⟨bb,bb,bb⟩,?_⟩)
   refine⟨l.take i,by refine By (Bs ?_) rfl;show((l.map Ak).drop 0).take _=_;simp[List.map_take],fun _=>by show(l.take i).length≤_;rw[List.length_take];omega,?_⟩;repeat((conv=>whnf);first|refine⟨(by kernel_rfl:Bu _ _=true),?_⟩|refine⟨_,w64 (bb),?_⟩|refine⟨fun _=>⟨bb,bb,bb⟩,?_⟩|refine⟨bb,?_⟩)
   rw[show Fe.res (l,s)=.tup [.own 2 ((l.take i++l.drop (i+1)).map Ak),.bool true] by show AV.tup [.own 2 ((Ia l s).map Ak),.bool (l.any fun e=>e.name==s)]=_;rw[he,ht]];refine⟨trivial,⟨rfl,?_⟩,rfl,trivial⟩;rw[show((i:Int)+1).toNat=i+1 by omega];simp[List.take_of_length_le]
  ·have h2:(b.name==s)=false:=h2
   repeat((conv=>whnf);refine⟨_,w64 (bb),?_⟩)
   refine Bt (i+1) ?_ ⟨h1,by rw[Bk hb,List.any_append,hc,List.any_cons,h2];rfl⟩ (by first|omega|(simp;done)|(simp;omega))
   (refine⟨?_,?_,rfl⟩<;>repeat' (first|exact rfl|exact trivial|refine⟨?_,?_⟩|fail)<;>(conv=>whnf))
 ·have h1:i=l.length:=by have:¬(i<l.length):=by simpa using h1
                         omega
  subst h1;rw[List.take_length]at hc;have he:=C68 hc;skip;refine⟨l,rfl,fun _=>by show l.length≤_;omega,?_⟩;skip;rw[show Fe.res (l,s)=.tup [.own 2 (l.map Ak),.bool false] by show AV.tup [.own 2 ((Ia l s).map Ak),.bool (l.any fun e=>e.name==s)]=_;rw[he,hc]];exact⟨trivial,⟨rfl,by simp⟩,rfl,trivial⟩
theorem A3a:Au Tryz.prog 192 Fe:=Al (Bx _ _) (FOk.cons V4 FOk.nil) mixed Tryz.func192 rfl Tryz.call192 (by decide) (by kernel_rfl) A7i (by intro _ (y:(List En×Str)) _;exact⟨by simp[Fe,con,A9,A8,AV.noRd,A7,Ab,A5,A6,Ae,Ag,Ak],by simp[Fe,con,A9,A8,AV.noRd,A7,Ab,A5,A6,Ae,Ag,Ak]⟩) (by intro(y:(List En×Str)) _;first|(simp[Fe,con,A9,A8,Ad,AV.free,A2,A3,A1,A6,Ae,Ag,Ak];done)|(obtain⟨_,_⟩:=y;simp[Fe,con,A9,A8,Ad,AV.free,A2,A3,A1,A6,Ae,Ag,Ak];done)|(obtain⟨_,_,_⟩:=y;simp[Fe,con,A9,A8,Ad,AV.free,A2,A3,A1,A6,Ae,Ag,Ak];done))
def Il:Bd:=con [.rd [none,none,none,none,some 1]] true Nd (fun n=>[.agg (Ay n)]) (fun n=>n.blocks.length≤65536) (fun n=>.bool (Jo n))
def B0a:Env:=⟨A4 B5,A4 [(76,Ch),(194,Ey),(200,Jh)],[0,1,2,3,6,56,69,74,95]⟩
theorem A9a:B6 B0a (Av Tryz.f184) Tryz.f184.results.toList Il:=by
 intro(n:Nd) hn;have hn:n.blocks.length≤65536:=hn;refine⟨trivial,?_⟩
 (conv=>whnf);refine⟨fun h1=>?_,fun h1=>?_⟩
 ·have h1:(n.kind==0)=true:=h1
  repeat((conv=>whnf);refine⟨fun h=>h,?_⟩)
  refine⟨trivial,eqB ?_⟩;show _=Jo n;rw[Jo,if_pos h1];have e:((((n.blocks.map Ae).length:Nat):Int)==0)=(n.blocks.length==0):=by rw[List.length_map,Bool.eq_iff_iff];simp
  show(n.gen==0&&n.time==0&&n.size==0&&((((n.blocks.map Ae).length:Nat):Int)==0))=_;rw[e]
 have h1:(n.kind==0)=false:=h1;have hno:Jo n=(inB n.kind 1 3&&inB n.gen 0 1000000&&inB n.time 0 100000&&inB n.size 0 80&&decide ((n.blocks.length:Int)=Gu n.size)&& !(n.kind==2&&(n.gen !=0||n.time !=0))&&(List.range n.blocks.length).all (Yh n.blocks)):=by
  rw[Jo,if_neg (by rw[h1];decide)]
 repeat((conv=>whnf);first|refine⟨fun h=>h,?_⟩|refine⟨(by kernel_rfl:Bu _ _=true),?_⟩|refine⟨(_,_,_),rfl,fun _=>trivial,?_⟩|refine⟨n.size,rfl,fun _=>trivial,?_⟩)
 (conv=>whnf);refine⟨fun h2=>?_,fun h2=>?_⟩
 ·have h2:(!inB n.kind 1 3|| !inB n.gen 0 1000000|| !inB n.time 0 100000|| !inB n.size 0 80||(((n.blocks.map Ae).length:Nat):Int)!=Gu n.size)=true:=h2
  skip;refine⟨trivial,eqB ?_⟩;show false=Jo n;rw[List.length_map]at h2;rw[hno];clear hno;by_cases hb:(n.blocks.length:Int)=Gu n.size
  ·simp[hb]at h2⊢;intros;simp_all
  ·simp[hb]
 have h2:(!inB n.kind 1 3|| !inB n.gen 0 1000000|| !inB n.time 0 100000|| !inB n.size 0 80||(((n.blocks.map Ae).length:Nat):Int)!=Gu n.size)=false:=h2;rw[List.length_map]at h2;simp only[Bool.or_eq_false_iff,Bool.not_eq_false',bne_eq_false_iff_eq]at h2;obtain⟨⟨⟨⟨p1,p2⟩,p3⟩,p4⟩,p5⟩:=h2;rw[p1,p2,p3,p4,p5]at hno;repeat((conv=>whnf);refine⟨fun h=>h,?_⟩)
 (conv=>whnf);refine⟨fun h3=>?_,fun h3=>?_⟩
 ·have h3:((n.kind==2)&&(n.gen !=0||n.time !=0))=true:=h3
  skip;refine⟨trivial,eqB ?_⟩;show false=Jo n;rw[hno,h3];simp
 have h3:((n.kind==2)&&(n.gen !=0||n.time !=0))=false:=h3;rw[h3]at hno;have hno:Jo n=(List.range n.blocks.length).all (Yh n.blocks):=by rw[hno];simp
 have hbad:∀{i:Nat},i<n.blocks.length→Yh n.blocks i=false→false=Jo n:=by
  intro i h e;rw[hno];symm;rw[List.all_eq_false];exact⟨i,List.mem_range.2 h,by rw[e];decide⟩
 skip;refine B2 (fun i:Nat=>⟨[(1,⟨none,.bx 0 0⟩),(3,⟨none,.int .i64 i⟩)],[(0,.own 5 [Ay n])],1⟩) (fun i=>i≤n.blocks.length∧∀j,j<i→Yh n.blocks j=true) (fun i=>n.blocks.length - i) 0 ?_ ⟨Nat.zero_le _,fun j hj=>absurd hj (Nat.not_lt_zero _)⟩ ?_
 ·(refine⟨?_,?_,rfl⟩<;>repeat' (first|exact rfl|exact trivial|refine⟨?_,?_⟩|fail)<;>(conv=>whnf))
 rintro i ⟨hi,hI⟩
 (conv=>whnf);refine⟨fun h4=>?_,fun h4=>?_⟩
 ·have h4:i<n.blocks.length:=by simpa using h4
  obtain⟨b,hb⟩:=B7 h4;repeat((conv=>whnf);first|refine⟨fun h=>h,?_⟩|refine⟨fun _=>⟨bb,bb,bb⟩,?_⟩|refine⟨Ae b,fun _=>⟨by omega,Ao hb⟩,?_⟩|refine⟨(_,_,_),rfl,fun _=>trivial,?_⟩)
  refine⟨(n.blocks.take i,b),by refine By (Bs ?_) rfl;simp[List.map_take],fun _=>by show(n.blocks.take i).length≤_;rw[List.length_take];omega,?_⟩;repeat((conv=>whnf);first|refine⟨fun h=>h,?_⟩|refine⟨(by kernel_rfl:Bu _ _=true),?_⟩)
  (conv=>whnf);refine⟨fun h5=>?_,fun h5=>?_⟩
  ·have h5:(!inB b 0 35||(n.blocks.take i).contains b)=true:=h5
   skip;refine⟨trivial,eqB (hbad h4 ?_)⟩;rw[Yh,hb];show(inB b 0 35&& !(n.blocks.take i).contains b)=false;revert h5;cases inB b 0 35<;>cases(n.blocks.take i).contains b<;>simp
  ·have h5:(!inB b 0 35||(n.blocks.take i).contains b)=false:=h5
   repeat((conv=>whnf);refine⟨_,w64 (bb),?_⟩)
   refine Bt (i+1) ?_ ⟨h4,fun j hj=>?_⟩ (by first|omega|(simp;done)|(simp;omega))
   ·(refine⟨?_,?_,rfl⟩<;>repeat' (first|exact rfl|exact trivial|refine⟨?_,?_⟩|fail)<;>(conv=>whnf))
   ·rcases Nat.lt_or_ge j i with h|h
    ·exact hI j h
    ·rw[show j=i by omega,Yh,hb]
     show(inB b 0 35&& !(n.blocks.take i).contains b)=true;revert h5;cases inB b 0 35<;>cases(n.blocks.take i).contains b<;>simp
 ·have h4:i=n.blocks.length:=by have:¬(i<n.blocks.length):=by simpa using h4
                                omega
  subst h4;skip;exact⟨trivial,eqB (hno.trans (List.all_eq_true.2 fun j hj=>hI j (List.mem_range.1 hj))).symm⟩
theorem A8i:Au Tryz.prog 184 Il:=Al (Bx _ _) (FOk.cons Di (FOk.cons S6 (FOk.cons B0s FOk.nil))) mixed Tryz.func184 rfl Tryz.call184 (by decide) (by kernel_rfl) A9a (by intro _ (y:Nd) _;exact⟨by simp[Il,con,A9,A8,AV.noRd,A7,Ab,A5,A6,Ae,Ag,Ak,Ay,At],by simp[Il,con,A9,A8,AV.noRd,A7,Ab,A5,A6,Ae,Ag,Ak,Ay,At]⟩) (by intro(y:Nd) _;first|(simp[Il,con,A9,A8,Ad,AV.free,A2,A3,A1,A6,Ae,Ag,Ak,Ay,At];done)|(obtain⟨_,_⟩:=y;simp[Il,con,A9,A8,Ad,AV.free,A2,A3,A1,A6,Ae,Ag,Ak,Ay,At];done)|(obtain⟨_,_,_⟩:=y;simp[Il,con,A9,A8,Ad,AV.free,A2,A3,A1,A6,Ae,Ag,Ak,Ay,At];done))
def Fv:Bd:=con [.rd [some 5,some 1]] false Fs (fun f=>[.agg (At f)]) smF (fun f=>.own 1 ((O6 f).map Ae))
def B0b:Env:=⟨A4 B5,A4 [(76,Ch)],[0,1,2,3,4,5,6,16,27,44]⟩
theorem B1j:B6 B0b (Av Tryz.f185) Tryz.f185.results.toList Fv:=by
 intro(f:Fs) hf;obtain⟨hn,hd,hbl,hs⟩:smF f:=hf;refine⟨trivial,?_⟩;repeat((conv=>whnf);first|refine⟨_,w64 (bb),?_⟩|refine⟨bb,?_⟩)
 refine B2 (fun i:Nat=>⟨[(1,⟨none,.bx 0 0⟩),(3,⟨none,.view 1 [] 0 (f.data.length+1)⟩),(4,⟨none,.int .i64 i⟩)],[(0,.own 2 [At f]),(1,.own 1 ((Te f.data.length (M6 (f.nodes.take i))).map Ae))],2⟩) (fun i=>i≤f.nodes.length) (fun i=>f.nodes.length - i) 0 ?_ (Nat.zero_le _) ?_
 ·(refine⟨?_,?_,rfl⟩<;>repeat' (first|exact rfl|exact trivial|refine⟨?_,?_⟩|fail)<;>(conv=>whnf))
  all_goals first|(show((f.data.map A6).length+1)=_;simp;done)|(show List.replicate ((f.data.map A6).length+1) (Ae 0)=List.map Ae (List.replicate (f.data.length+1) 0);simp;done)
 intro i hi;have hi:i≤f.nodes.length:=hi
 (conv=>whnf);refine⟨fun h1=>?_,fun h1=>?_⟩
 ·have h1:i<f.nodes.length:=by simpa using h1
  obtain⟨n,hn⟩:=B7 h1;have hbn:=hbl n (List.mem_of_getElem? hn);skip;refine B2 (fun k:Nat=>⟨[(1,⟨none,.bx 0 0⟩),(3,⟨none,.view 1 [] 0 (f.data.length+1)⟩),(4,⟨none,.int .i64 i⟩),(5,⟨none,.int .i64 k⟩)],[(0,.own 2 [At f]),(1,.own 1 ((Te f.data.length (M6 (f.nodes.take i)++n.blocks.take k)).map Ae))],2⟩) (fun k=>k≤n.blocks.length) (fun k=>n.blocks.length - k) 0 ?_ (Nat.zero_le _) ?_
  ·(refine⟨?_,?_,rfl⟩<;>repeat' (first|exact rfl|exact trivial|refine⟨?_,?_⟩|fail)<;>(conv=>whnf))
   all_goals simp
  intro k hk;have hk:k≤n.blocks.length:=hk;repeat((conv=>whnf);refine⟨Ay n,fun _=>⟨by omega,Ao hn⟩,?_⟩)
  (conv=>whnf);refine⟨fun h2=>?_,fun h2=>?_⟩
  ·have h2:k<n.blocks.length:=by simpa using h2
   obtain⟨b,hb⟩:=B7 h2;repeat((conv=>whnf);first|refine⟨_,w64 (bb),?_⟩|refine⟨Ay n,fun _=>⟨by omega,Ao hn⟩,?_⟩|refine⟨Ae b,fun _=>⟨by omega,Ao hb⟩,?_⟩)
   refine⟨(b,0,_),rfl,fun _=>trivial,?_⟩;have hbd:=fun k'=>B75 f.data.length (M6 (f.nodes.take i)++n.blocks.take k) k';have hst:Te f.data.length (M6 (f.nodes.take i)++n.blocks.take (k+1))=Gr f.data.length (Te f.data.length (M6 (f.nodes.take i)++n.blocks.take k)) b:=by
    rw[Bk hb,←List.append_assoc];simp[Te]
   have hul:=Xb f.data.length (M6 (f.nodes.take i)++n.blocks.take k);have htl:(M6 (f.nodes.take i)++n.blocks.take k).length≤4611686018427387904:=by
    have h1:(M6 (f.nodes.take i)).length≤(f.nodes.take i).length*65536:=by
     have:∀(l:List Nd),(∀n,n∈l→n.blocks.length≤65536)→(M6 l).length≤l.length*65536:=by
      intro l;induction l with
      |nil=>intro _;simp[M6]
      |cons a l ih=>
       intro h;have h1:=ih fun n hn=>h n (by simp[hn]);have h2:=h a (by simp);simp only[M6,List.flatMap_cons,List.length_append,List.length_cons]at*;omega
     exact this _ fun n hn=>hbl n (List.mem_of_mem_take hn)
    rw[List.length_append,List.length_take];rw[List.length_take]at h1;have:min i f.nodes.length*65536≤65536*65536:=Nat.mul_le_mul_right _ (by omega);omega
   generalize Te f.data.length (M6 (f.nodes.take i)++n.blocks.take k)=U at hbd hst hul⊢
   (conv=>whnf);refine⟨fun h3=>?_,fun h3=>?_⟩
   ·have h3:inB b 0 ((f.data.length:Int) - 1)=true:=by
     have h3:inB b 0 (((f.data.map A6).length:Nat) - 1:Int)=true:=h3;rw[List.length_map]at h3;exact h3
    have h3':0≤b∧b≤(f.data.length:Int) - 1:=by simpa[inB]using h3
    have hgb:=hbd b.toNat;rw[Gr,if_pos h3]at hst;obtain⟨v,hv⟩:=B7 (l:=U) (i:=b.toNat) (by omega);have hv1:U.getD b.toNat 0=v:=by rw[List.getD_eq_getElem?_getD,hv];rfl
    rw[hv1]at hst hgb;repeat((conv=>whnf);first|refine⟨_,w64 (bb),?_⟩|refine⟨bb,?_⟩|refine⟨Ae v,fun _=>by rw[Nat.zero_add];exact Ao hv,?_⟩|refine⟨Ae v,by rw[Nat.zero_add];exact Ao hv,?_⟩)
    refine Bt (k+1) ?_ h2 (by first|omega|(simp;done)|(simp;omega));rw[hst]
    (refine⟨?_,?_,rfl⟩<;>repeat' (first|exact rfl|exact trivial|refine⟨?_,?_⟩|fail)<;>(conv=>whnf))
    all_goals (rw[List.map_set];simp[Ae])
   ·have h3:¬inB b 0 ((f.data.length:Int) - 1)=true:=by
     have h3:inB b 0 (((f.data.map A6).length:Nat) - 1:Int)=false:=h3;rw[List.length_map]at h3;rw[h3];decide
    rw[Gr,if_neg h3]at hst;have hgb:=hbd f.data.length;obtain⟨v,hv⟩:=B7 (l:=U) (i:=f.data.length) (by omega);have hv1:U.getD f.data.length 0=v:=by rw[List.getD_eq_getElem?_getD,hv];rfl
    rw[hv1]at hst hgb;repeat((conv=>whnf);first|refine⟨(by kernel_rfl:Bu _ _=true),?_⟩|refine⟨_,w64 (bb),?_⟩|refine⟨bb,?_⟩|refine⟨Ae v,fun _=>by rw[Nat.zero_add,show((((f.data.map A6).length:Nat):Int)).toNat=f.data.length by simp];exact Ao hv,?_⟩|refine⟨Ae v,by rw[Nat.zero_add,show((((f.data.map A6).length:Nat):Int)).toNat=f.data.length by simp];exact Ao hv,?_⟩)
    refine Bt (k+1) ?_ h2 (by first|omega|(simp;done)|(simp;omega));rw[hst]
    (refine⟨?_,?_,rfl⟩<;>repeat' (first|exact rfl|exact trivial|refine⟨?_,?_⟩|fail)<;>(conv=>whnf))
    all_goals (rw[List.map_set];simp[Ae])
  ·have h2:k=n.blocks.length:=by have:¬(k<n.blocks.length):=by simpa using h2
                                 omega
   subst h2;rw[List.take_length];repeat((conv=>whnf);refine⟨_,w64 (bb),?_⟩)
   refine Bt (i+1) ?_ h1 (by first|omega|(simp;done)|(simp;omega));rw[Bk hn,show M6 (f.nodes.take i++[n])=M6 (f.nodes.take i)++n.blocks by simp[M6]]
   (refine⟨?_,?_,rfl⟩<;>repeat' (first|exact rfl|exact trivial|refine⟨?_,?_⟩|fail)<;>(conv=>whnf))
 ·have h1:i=f.nodes.length:=by have:¬(i<f.nodes.length):=by simpa using h1
                               omega
  subst h1;rw[List.take_length];have hul:=Xb f.data.length (M6 f.nodes);skip;rw[show Fv.res f=.own 1 ((Te f.data.length (M6 f.nodes)).map Ae)from rfl];exact⟨trivial,rfl,by simp only[List.drop_zero];exact List.take_of_length_le (by simp[hul])⟩
theorem Vk:Au Tryz.prog 185 Fv:=Al (Bx _ _) (FOk.cons Di FOk.nil) mixed Tryz.func185 rfl Tryz.call185 (by decide) (by kernel_rfl) B1j (by intro _ (y:Fs) _;exact⟨by simp[Fv,con,A9,A8,AV.noRd,A7,Ab,A5,A6,Ae,Ag,Ak,Ay,At],by simp[Fv,con,A9,A8,AV.noRd,A7,Ab,A5,A6,Ae,Ag,Ak,Ay,At]⟩) (by intro(y:Fs) _;first|(simp[Fv,con,A9,A8,Ad,AV.free,A2,A3,A1,A6,Ae,Ag,Ak,Ay,At];done)|(obtain⟨_,_⟩:=y;simp[Fv,con,A9,A8,Ad,AV.free,A2,A3,A1,A6,Ae,Ag,Ak,Ay,At];done)|(obtain⟨_,_,_⟩:=y;simp[Fv,con,A9,A8,Ad,AV.free,A2,A3,A1,A6,Ae,Ag,Ak,Ay,At];done))
def Hd:Bd:=con [mC,mC] true (Int×Nat) (fun⟨s,k⟩=>[.int .i64 s,.int .i64 k]) (fun x=>0≤x.1∧x.1≤80∧x.2≤1000000) (fun⟨s,k⟩=>.int .i64 (A1b s k))
def A9t:Env:=⟨A4 B5,A4 [(201,Jc)],[0,1,4]⟩
theorem B0e:B6 A9t (Av Tryz.f186) Tryz.f186.results.toList Hd:=by
 rintro⟨s,k⟩ hs;obtain⟨h1,h2,h3⟩:0≤s∧s≤80∧k≤1000000:=hs;refine⟨trivial,?_⟩;repeat((conv=>whnf);refine⟨_,w64 (bb),?_⟩)
 refine⟨(16,s - (k:Int)*16),rfl,fun _=>trivial,?_⟩;skip;exact⟨trivial,rfl⟩
theorem Vj:Au Tryz.prog 186 Hd:=Al (Bx _ _) (FOk.cons A9w FOk.nil) mixed Tryz.func186 rfl Tryz.call186 (by decide) (by kernel_rfl) B0e (by intro _ (y:(Int×Nat)) _;exact⟨by simp[Hd,con,A9,A8,AV.noRd,A7,Ab,A5,A6,Ae,Ag,Ak,Ay,At,B1,B3],by simp[Hd,con,A9,A8,AV.noRd,A7,Ab,A5,A6,Ae,Ag,Ak,Ay,At,B1,B3]⟩) (by intro(y:(Int×Nat)) _;first|(simp[Hd,con,A9,A8,Ad,AV.free,A2,A3,A1,A6,Ae,Ag,Ak,Ay,At,B1,B3];done)|(obtain⟨_,_⟩:=y;simp[Hd,con,A9,A8,Ad,AV.free,A2,A3,A1,A6,Ae,Ag,Ak,Ay,At,B1,B3];done)|(obtain⟨_,_,_⟩:=y;simp[Hd,con,A9,A8,Ad,AV.free,A2,A3,A1,A6,Ae,Ag,Ak,Ay,At,B1,B3];done))
def Hb:Bd:=con [.rd [some 5,some 1],mC] true (Fs×Nat) (fun⟨f,i⟩=>[.agg (At f),.int .i64 i]) (fun x=>smF x.1∧inR x.1∧x.2<x.1.nodes.length) (fun⟨f,i⟩=>.str (Js f i))
def A9i:Env:=⟨A4 B5,A4 [],[0,1,2,4,5,6,15]⟩
theorem A96:B6 A9i (Av Tryz.f161) Tryz.f161.results.toList Hb:=by
 rintro⟨f,i⟩ hf;obtain⟨⟨hn,hd,hbl,hs⟩,hr,hi⟩:smF f∧inR f∧i<f.nodes.length:=hf;refine⟨trivial,?_⟩;obtain⟨n,hn⟩:=B7 hi;have hbn:=hbl n (List.mem_of_getElem? hn);have hrn:=hr n (List.mem_of_getElem? hn);have hres:Js f i=n.blocks.flatMap fun b=>f.data.getD b.toNat []:=by rw[Js,hn]
 skip;refine B2 (fun k:Nat=>⟨[(1,⟨none,.int .i64 i⟩),(2,⟨none,.bx 0 0⟩),(5,⟨none,.str ((n.blocks.take k).flatMap fun b=>f.data.getD b.toNat [])⟩),(6,⟨none,.int .i64 k⟩)],[(0,.own 2 [At f])],1⟩) (fun k=>k≤n.blocks.length) (fun k=>n.blocks.length - k) 0 ?_ (Nat.zero_le _) ?_
 ·(refine⟨?_,?_,rfl⟩<;>repeat' (first|exact rfl|exact trivial|refine⟨?_,?_⟩|fail)<;>(conv=>whnf))
 intro k hk;have hk:k≤n.blocks.length:=hk;repeat((conv=>whnf);refine⟨Ay n,fun _=>⟨by omega,Ao hn⟩,?_⟩)
 (conv=>whnf);refine⟨fun h2=>?_,fun h2=>?_⟩
 ·have h2:k<n.blocks.length:=by simpa using h2
  obtain⟨b,hb⟩:=B7 h2;have hb2:=hrn b (List.mem_of_getElem? hb);obtain⟨s,hs2⟩:=B7 (l:=f.data) (i:=b.toNat) (by omega);have hl1:=X0 hs (n.blocks.take k);have hl2:=hs s (List.mem_of_getElem? hs2);have hl3:(n.blocks.take k).length*4194304≤65536*4194304:=Nat.mul_le_mul_right _ (by rw[List.length_take];omega);repeat((conv=>whnf);first|refine⟨(by kernel_rfl:Bu _ _=true),?_⟩|refine⟨_,w64 (bb),?_⟩|refine⟨bb,?_⟩|refine⟨Ay n,fun _=>⟨by omega,Ao hn⟩,?_⟩|refine⟨Ae b,fun _=>⟨by omega,Ao hb⟩,?_⟩|refine⟨A6 s,fun _=>⟨by omega,Ao hs2⟩,?_⟩)
  refine Bt (k+1) ?_ h2 (by first|omega|(simp;done)|(simp;omega));rw[Bk hb,List.flatMap_append,show[b].flatMap (fun b=>f.data.getD b.toNat [])=s by simp[List.getD_eq_getElem?_getD,hs2]]
  (refine⟨?_,?_,rfl⟩<;>repeat' (first|exact rfl|exact trivial|refine⟨?_,?_⟩|fail)<;>(conv=>whnf))
 ·have h2:k=n.blocks.length:=by have:¬(k<n.blocks.length):=by simpa using h2
                                omega
  subst h2;rw[List.take_length];skip;exact⟨trivial,eqS hres.symm⟩
theorem Vd:Au Tryz.prog 161 Hb:=Al (Bx _ _) FOk.nil mixed Tryz.func161 rfl Tryz.call161 (by decide) (by kernel_rfl) A96 (by intro _ (y:(Fs×Nat)) _;exact⟨by simp[Hb,con,A9,A8,AV.noRd,A7,Ab,A5,A6,Ae,Ag,Ak,Ay,At,B1,B3],by simp[Hb,con,A9,A8,AV.noRd,A7,Ab,A5,A6,Ae,Ag,Ak,Ay,At,B1,B3]⟩) (by intro(y:(Fs×Nat)) _;first|(simp[Hb,con,A9,A8,Ad,AV.free,A2,A3,A1,A6,Ae,Ag,Ak,Ay,At,B1,B3];done)|(obtain⟨_,_⟩:=y;simp[Hb,con,A9,A8,Ad,AV.free,A2,A3,A1,A6,Ae,Ag,Ak,Ay,At,B1,B3];done)|(obtain⟨_,_,_⟩:=y;simp[Hb,con,A9,A8,Ad,AV.free,A2,A3,A1,A6,Ae,Ag,Ak,Ay,At,B1,B3];done))
def Ei:Bd:=con [.rd [some 5,some 1],mC] false (Fs×Nat) (fun⟨f,i⟩=>[.agg (At f),.int .i64 i]) (fun x=>smF x.1∧inR x.1∧x.2<x.1.nodes.length∧(Js x.1 x.2).length≤1048576) (fun⟨f,i⟩=>.tup [.own 2 (((Iu f i).getD []).map Ak),.bool (Iu f i).isSome])
def B56:Env:=⟨A4 B5,A4 [(161,Hb),(187,I5)],[0,1,2,4,5,12]⟩
theorem B6m:B6 B56 (Av Tryz.f160) Tryz.f160.results.toList Ei:=by
 rintro⟨f,i⟩ hf;obtain⟨hsm,hr,hi,hl⟩:smF f∧inR f∧i<f.nodes.length∧(Js f i).length≤1048576:=hf;refine⟨trivial,?_⟩;obtain⟨n,hn⟩:=B7 hi;have fin:∀{o:Option (List En)},o=Iu f i→Ei.res (f,i)=.tup [.own 2 ((o.getD []).map Ak),.bool o.isSome]:=fun h=>by rw[h];rfl
 repeat((conv=>whnf);refine⟨Ay n,fun _=>⟨by omega,Ao hn⟩,?_⟩)
 (conv=>whnf);refine⟨fun h1=>?_,fun h1=>?_⟩
 ·have h1:(n.kind !=2)=true:=h1
  have hd:none=Iu f i:=by rw[Iu,hn];simp only;rw[if_neg (by simpa using h1)]
  skip;rw[fin hd];exact⟨trivial,⟨rfl,rfl⟩,rfl,trivial⟩
 ·have h1:(n.kind !=2)=false:=h1
  have hd:Iu f i=Sv (Js f i):=by rw[Iu,hn];simp only;rw[if_pos (by simpa using h1)]
  skip;refine⟨(f,i),by(repeat' (first|refine By ?_ ?_|refine C2 ?_|refine Bs ?_|refine C0 ?_|exact rfl))<;>simp[rdI,rdO,rdE,rdB,rdN,rdS,rdD,rdW,tkM],fun _=>⟨hsm,hr,hi⟩,?_⟩;skip;refine⟨Js f i,rfl,fun _=>hl,?_⟩;skip;rw[fin hd.symm];exact⟨trivial,⟨rfl,by simp⟩,rfl,trivial⟩
theorem Kq:Au Tryz.prog 160 Ei:=Al (Bx _ _) (FOk.cons Vd (FOk.cons A9h FOk.nil)) mixed Tryz.func160 rfl Tryz.call160 (by decide) (by kernel_rfl) B6m (by intro _ (y:(Fs×Nat)) _;exact⟨by simp[Ei,con,A9,A8,AV.noRd,A7,Ab,A5,A6,Ae,Ag,Ak,Ay,At,B1,B3],by simp[Ei,con,A9,A8,AV.noRd,A7,Ab,A5,A6,Ae,Ag,Ak,Ay,At,B1,B3]⟩) (by intro(y:(Fs×Nat)) _;first|(simp[Ei,con,A9,A8,Ad,AV.free,A2,A3,A1,A6,Ae,Ag,Ak,Ay,At,B1,B3];done)|(obtain⟨_,_⟩:=y;simp[Ei,con,A9,A8,Ad,AV.free,A2,A3,A1,A6,Ae,Ag,Ak,Ay,At,B1,B3];done)|(obtain⟨_,_,_⟩:=y;simp[Ei,con,A9,A8,Ad,AV.free,A2,A3,A1,A6,Ae,Ag,Ak,Ay,At,B1,B3];done))
def F7:Bd:=con [.rd [some 5,some 1]] true Fs (fun f=>[.agg (At f)]) smF (fun f=>.bool (Ez f))
def A7m:Env:=⟨A4 B5,A4 [(76,Ch),(184,Il),(185,Fv),(186,Hd)],[0,1,2,3,4,5,6,7,8,28,33,42,51,56,87,92,104,121]⟩
theorem A5e:B6 A7m (Av Tryz.f158) Tryz.f158.results.toList F7:=by
 intro(f:Fs) hf;have hsm:smF f:=hf;obtain⟨hnl,hdl,hbl,hs⟩:=hsm;refine⟨trivial,?_⟩;generalize hhd:f.nodes.headD .zero=n0;have hn0:0<f.nodes.length→f.nodes[0]? =some n0:=fun h=>by
  rw[←hhd];cases hq:f.nodes with
  |nil=>rw[hq]at h;cases h
  |cons a l=>rfl
 have hg0:∀{B:Bool},Cy (some (!(!inB (((f.nodes.map Ay).length:Nat):Int) 2 10||B)))→(0:Int)≤0∧(f.nodes.map Ay)[(0:Int).toNat]? =some (Ay n0):=by
  intro B h;have h:(!(!inB (((f.nodes.map Ay).length:Nat):Int) 2 10||B))=true:=h;rw[List.length_map]at h;simp[inB]at h;exact⟨by omega,Ao (hn0 (by omega))⟩
 repeat((conv=>whnf);first|refine⟨fun h=>h,?_⟩|refine⟨(_,_,_),rfl,fun _=>trivial,?_⟩|refine⟨Ay n0,fun h=>hg0 h,?_⟩)
 (conv=>whnf);refine⟨fun h1=>?_,fun h1=>?_⟩
 ·have h1:(!inB (((f.nodes.map Ay).length:Nat):Int) 2 10|| !inB (((f.data.map A6).length:Nat):Int) 1 36||n0.kind !=2)=true:=h1
  skip;refine⟨trivial,eqB ?_⟩;show false=Ez f;rw[List.length_map,List.length_map]at h1;rw[Ez,hhd];revert h1;cases inB f.nodes.length 2 10<;>cases inB f.data.length 1 36<;>cases hk:(n0.kind==2)<;>simp[bne,hk]
 have h1:(!inB (((f.nodes.map Ay).length:Nat):Int) 2 10|| !inB (((f.data.map A6).length:Nat):Int) 1 36||n0.kind !=2)=false:=h1;rw[List.length_map,List.length_map]at h1;have hsh:Ez f=(f.nodes.all Jo&& !decide ((O6 f).getD f.data.length 0>0)&&(List.range f.data.length).all (Y5 f)&&f.nodes.all (A65 f)):=by
  rw[Ez,hhd];revert h1;cases inB f.nodes.length 2 10<;>cases inB f.data.length 1 36<;>cases hk:(n0.kind==2)<;>simp[bne,hk]
 have hnn:2≤f.nodes.length∧f.nodes.length≤10∧1≤f.data.length∧f.data.length≤36:=by
  simp only[Bool.or_eq_false_iff,Bool.not_eq_false']at h1;simp[inB]at h1;omega
 skip;refine B2 (fun i:Nat=>⟨[(1,⟨none,.bx 0 0⟩),(3,⟨none,.int .i64 i⟩)],[(0,.own 2 [At f])],1⟩) (fun i=>i≤f.nodes.length∧∀n,n∈f.nodes.take i→Jo n=true) (fun i=>f.nodes.length - i) 0 ?_ ⟨Nat.zero_le _,fun n hn=>absurd hn (by simp)⟩ ?_
 ·(refine⟨?_,?_,rfl⟩<;>repeat' (first|exact rfl|exact trivial|refine⟨?_,?_⟩|fail)<;>(conv=>whnf))
 rintro i ⟨hi,hI⟩
 (conv=>whnf);refine⟨fun h2=>?_,fun h2=>?_⟩
 ·have h2:i<f.nodes.length:=by simpa using h2
  obtain⟨n,hn⟩:=B7 h2;repeat((conv=>whnf);refine⟨Ay n,fun _=>⟨by omega,Ao hn⟩,?_⟩)
  refine⟨n,by(repeat' (first|refine By ?_ ?_|refine C2 ?_|refine Bs ?_|refine C0 ?_|exact rfl))<;>simp[rdI,rdO,rdE,rdB,rdN,rdS,rdD,rdW,tkM],fun _=>hbl n (List.mem_of_getElem? hn),?_⟩;skip
  (conv=>whnf);refine⟨fun h3=>?_,fun h3=>?_⟩
  ·have h3:(!Jo n)=true:=h3
   skip;refine⟨trivial,eqB ?_⟩;show false=Ez f;rw[hsh,X1 (List.mem_of_getElem? hn) (by simpa using h3)];rfl
  ·have h3:(!Jo n)=false:=h3
   repeat((conv=>whnf);refine⟨_,w64 (bb),?_⟩)
   refine Bt (i+1) ?_ ⟨h2,fun m hm=>?_⟩ (by first|omega|(simp;done)|(simp;omega))
   ·(refine⟨?_,?_,rfl⟩<;>repeat' (first|exact rfl|exact trivial|refine⟨?_,?_⟩|fail)<;>(conv=>whnf))
   ·rw[Bk hn,List.mem_append]at hm
    rcases hm with hm|hm
    ·exact hI m hm
    ·rw[List.mem_singleton]at hm;subst hm;simpa using h3
 have h2:i=f.nodes.length:=by have:¬(i<f.nodes.length):=by simpa using h2
                              omega
 subst h2;rw[List.take_length]at hI;have hsh:Ez f=(!decide ((O6 f).getD f.data.length 0>0)&&(List.range f.data.length).all (Y5 f)&&f.nodes.all (A65 f)):=by
  rw[hsh,List.all_eq_true.2 hI,Bool.true_and]
 skip;refine⟨f,by(repeat' (first|refine By ?_ ?_|refine C2 ?_|refine Bs ?_|refine C0 ?_|exact rfl))<;>simp[rdI,rdO,rdE,rdB,rdN,rdS,rdD,rdW,tkM],fun _=>⟨hnl,hdl,hbl,hs⟩,?_⟩;have hul:(O6 f).length=f.data.length+1:=Xb _ _;have hub:=fun k=>B75 f.data.length (M6 f.nodes) k;obtain⟨u0,hu0⟩:=B7 (l:=O6 f) (i:=f.data.length) (by omega);have hu1:(O6 f).getD f.data.length 0=u0:=by rw[List.getD_eq_getElem?_getD,hu0];rfl
 repeat((conv=>whnf);first|refine⟨bb,?_⟩|refine⟨Ae u0,fun _=>by rw[Nat.zero_add,show((((f.data.map A6).length:Nat):Int)).toNat=f.data.length by simp];exact Ao hu0,?_⟩)
 (conv=>whnf);refine⟨fun h4=>?_,fun h4=>?_⟩
 ·have h4:decide (u0>0)=true:=h4
  skip;refine⟨trivial,eqB ?_⟩;show false=Ez f;rw[hsh,hu1,h4];rfl
 have h4:decide (u0>0)=false:=h4;rw[hu1,h4]at hsh;have hr:inR f:=B86 (by rw[hu1];simpa using h4);skip;refine B2 (fun k:Nat=>⟨[(1,⟨none,.bx 0 0⟩),(4,⟨none,.view 1 [] 0 (O6 f).length⟩),(5,⟨none,.int .i64 k⟩)],[(0,.own 2 [At f]),(1,.own 1 ((O6 f).map Ae))],2⟩) (fun k=>k≤f.data.length∧∀j,j<k→Y5 f j=true) (fun k=>f.data.length - k) 0 ?_ ⟨Nat.zero_le _,fun j hj=>absurd hj (Nat.not_lt_zero _)⟩ ?_
 ·(refine⟨?_,?_,rfl⟩<;>repeat' (first|exact rfl|exact trivial|refine⟨?_,?_⟩|fail)<;>(conv=>whnf))
  all_goals simp
 rintro k ⟨hk,hK⟩
 (conv=>whnf);refine⟨fun h5=>?_,fun h5=>?_⟩
 ·have h5:k<f.data.length:=by simpa using h5
  obtain⟨s,hs1⟩:=B7 h5;obtain⟨u,hu⟩:=B7 (l:=O6 f) (i:=k) (by omega);have hu2:(O6 f).getD k 0=u:=by rw[List.getD_eq_getElem?_getD,hu];rfl
  have hsl:=hs s (List.mem_of_getElem? hs1);repeat((conv=>whnf);first|refine⟨fun h=>h,?_⟩|refine⟨bb,?_⟩|refine⟨Ae u,fun _=>by rw[Nat.zero_add];exact Ao hu,?_⟩|refine⟨A6 s,fun _=>⟨by omega,Ao hs1⟩,?_⟩)
  have hdc:Y5 f k= !(decide (u>1)||(u==0&&s !=[])||decide ((s.length:Int)>16)):=by rw[Y5,hs1];simp only[hu2]
  (conv=>whnf);refine⟨fun h6=>?_,fun h6=>?_⟩
  ·have h6:(decide (u>1)||(u==0&&s !=[])||decide ((s.length:Int)>16))=true:=h6
   skip;refine⟨trivial,eqB ?_⟩;show false=Ez f;rw[hsh,X1 (List.mem_range.2 h5) (by rw[hdc,h6];rfl)];rfl
  ·have h6:(decide (u>1)||(u==0&&s !=[])||decide ((s.length:Int)>16))=false:=h6
   repeat((conv=>whnf);refine⟨_,w64 (bb),?_⟩)
   refine Bt (k+1) ?_ ⟨h5,fun j hj=>?_⟩ (by first|omega|(simp;done)|(simp;omega))
   ·(refine⟨?_,?_,rfl⟩<;>repeat' (first|exact rfl|exact trivial|refine⟨?_,?_⟩|fail)<;>(conv=>whnf))
   ·rcases Nat.lt_or_ge j k with h|h
    ·exact hK j h
    ·rw[show j=k by omega,hdc,h6];rfl
 have h5:k=f.data.length:=by have:¬(k<f.data.length):=by simpa using h5
                             omega
 subst h5;have hsh:Ez f=f.nodes.all (A65 f):=by
  rw[hsh,List.all_eq_true.2 fun j hj=>hK j (List.mem_range.1 hj)];simp
 skip;refine B2 (fun i:Nat=>⟨[(1,⟨none,.bx 0 0⟩),(6,⟨none,.int .i64 i⟩)],[(0,.own 2 [At f])],1⟩) (fun i=>i≤f.nodes.length∧∀n,n∈f.nodes.take i→A65 f n=true) (fun i=>f.nodes.length - i) 0 ?_ ⟨Nat.zero_le _,fun n hn=>absurd hn (by simp)⟩ ?_
 ·(refine⟨?_,?_,rfl⟩<;>repeat' (first|exact rfl|exact trivial|refine⟨?_,?_⟩|fail)<;>(conv=>whnf))
 rintro i ⟨hi,hJ⟩
 (conv=>whnf);refine⟨fun h6=>?_,fun h6=>?_⟩
 ·have h6:i<f.nodes.length:=by simpa using h6
  obtain⟨n,hn⟩:=B7 h6;have hnm:=List.mem_of_getElem? hn;have hbn:=hbl n hnm;have hsz:=B97 (hI n hnm);repeat((conv=>whnf);refine⟨Ay n,fun _=>⟨by omega,Ao hn⟩,?_⟩)
  refine B2 (fun k:Nat=>⟨[(1,⟨none,.bx 0 0⟩),(6,⟨none,.int .i64 i⟩),(7,⟨none,.bx 1 0⟩),(8,⟨none,.int .i64 k⟩)],[(0,.own 2 [At f]),(1,.own 5 [Ay n])],2⟩) (fun k=>k≤n.blocks.length∧∀j,j<k→B5g f n j=true) (fun k=>n.blocks.length - k) 0 ?_ ⟨Nat.zero_le _,fun j hj=>absurd hj (Nat.not_lt_zero _)⟩ ?_
  ·(refine⟨?_,?_,rfl⟩<;>repeat' (first|exact rfl|exact trivial|refine⟨?_,?_⟩|fail)<;>(conv=>whnf))
  rintro k ⟨hk,hL⟩
  (conv=>whnf);refine⟨fun h7=>?_,fun h7=>?_⟩
  ·have h7:k<n.blocks.length:=by simpa using h7
   obtain⟨b,hb⟩:=B7 h7;have hb2:=hr n hnm b (List.mem_of_getElem? hb);obtain⟨s,hs1⟩:=B7 (l:=f.data) (i:=b.toNat) (by omega);have hs2:f.data.getD b.toNat []=s:=by rw[List.getD_eq_getElem?_getD,hs1];rfl
   have hlc:B5g f n k=decide ((s.length:Int)=A1b n.size k):=by rw[B5g,hb];simp only[hs2]
   repeat((conv=>whnf);first|refine⟨Ae b,fun _=>⟨by omega,Ao hb⟩,?_⟩|refine⟨A6 s,fun _=>⟨by omega,Ao hs1⟩,?_⟩)
   refine⟨(n.size,k),rfl,fun _=>⟨hsz.1,hsz.2,by show k≤1000000;omega⟩,?_⟩;repeat((conv=>whnf);refine⟨(by kernel_rfl:Bu _ _=true),?_⟩)
   (conv=>whnf);refine⟨fun h8=>?_,fun h8=>?_⟩
   ·have h8:((s.length:Int)!=A1b n.size k)=true:=h8
    skip;refine⟨trivial,eqB ?_⟩;show false=Ez f;rw[hsh,X1 hnm (X1 (List.mem_range.2 h7) (by rw[hlc];simpa using h8))]
   ·have h8:((s.length:Int)!=A1b n.size k)=false:=h8
    repeat((conv=>whnf);refine⟨_,w64 (bb),?_⟩)
    refine Bt (k+1) ?_ ⟨h7,fun j hj=>?_⟩ (by first|omega|(simp;done)|(simp;omega))
    ·(refine⟨?_,?_,rfl⟩<;>repeat' (first|exact rfl|exact trivial|refine⟨?_,?_⟩|fail)<;>(conv=>whnf))
    ·rcases Nat.lt_or_ge j k with h|h
     ·exact hL j h
     ·rw[show j=k by omega,hlc];simpa using h8
  have h7:k=n.blocks.length:=by have:¬(k<n.blocks.length):=by simpa using h7
                                omega
  subst h7;repeat((conv=>whnf);refine⟨_,w64 (bb),?_⟩)
  refine Bt (i+1) ?_ ⟨h6,fun m hm=>?_⟩ (by first|omega|(simp;done)|(simp;omega))
  ·(refine⟨?_,?_,rfl⟩<;>repeat' (first|exact rfl|exact trivial|refine⟨?_,?_⟩|fail)<;>(conv=>whnf))
  ·rw[Bk hn,List.mem_append]at hm
   rcases hm with hm|hm
   ·exact hJ m hm
   ·rw[List.mem_singleton]at hm;subst hm;exact List.all_eq_true.2 fun j hj=>hL j (List.mem_range.1 hj)
 have h6:i=f.nodes.length:=by have:¬(i<f.nodes.length):=by simpa using h6
                              omega
 subst h6;rw[List.take_length]at hJ;skip;exact⟨trivial,eqB (by show true=Ez f;rw[hsh,List.all_eq_true.2 hJ])⟩
theorem Pc:Au Tryz.prog 158 F7:=Al (Bx _ _) (FOk.cons Di (FOk.cons A8i (FOk.cons Vk (FOk.cons Vj FOk.nil)))) mixed Tryz.func158 rfl Tryz.call158 (by decide) (by kernel_rfl) A5e (by intro _ (y:Fs) _;exact⟨by simp[F7,con,A9,A8,AV.noRd,A7,Ab,A5,A6,Ae,Ag,Ak,Ay,At,B1,B3],by simp[F7,con,A9,A8,AV.noRd,A7,Ab,A5,A6,Ae,Ag,Ak,Ay,At,B1,B3]⟩) (by intro(y:Fs) _;first|(simp[F7,con,A9,A8,Ad,AV.free,A2,A3,A1,A6,Ae,Ag,Ak,Ay,At,B1,B3];done)|(obtain⟨_,_⟩:=y;simp[F7,con,A9,A8,Ad,AV.free,A2,A3,A1,A6,Ae,Ag,Ak,Ay,At,B1,B3];done)|(obtain⟨_,_,_⟩:=y;simp[F7,con,A9,A8,Ad,AV.free,A2,A3,A1,A6,Ae,Ag,Ak,Ay,At,B1,B3];done))
def Jj:Bd:=con [.rd [some 5,some 1],mC] true (Fs×Int) (fun⟨f,i⟩=>[.agg (At f),.int .i64 i]) (fun x=>smF x.1) (fun⟨f,i⟩=>.bool (isN f i))
def B9l:Env:=⟨A4 B5,A4 [(76,Ch),(158,F7)],[0,1,2,4]⟩
theorem B9q:B6 B9l (Av Tryz.f191) Tryz.f191.results.toList Jj:=by
 rintro⟨f,i⟩ hsm;have hsm:smF f:=hsm;have hnl:=hsm.1;refine⟨trivial,?_⟩;have hg:∀{A:Bool},Cy (some (A&&inB i 0 ((((f.nodes.map Ay).length:Nat):Int) - 1)))→(0:Int)≤i∧(f.nodes.map Ay)[i.toNat]? =some (Ay (f.nodes.getD i.toNat .zero)):=by
  intro A h;have h:(A&&inB i 0 ((((f.nodes.map Ay).length:Nat):Int) - 1))=true:=h;rw[List.length_map]at h;simp[inB]at h;refine⟨by omega,Ao ?_⟩;rw[List.getD_eq_getElem?_getD,List.getElem?_eq_getElem (by omega)];rfl
 skip;refine⟨f,by(repeat' (first|refine By ?_ ?_|refine C2 ?_|refine Bs ?_|refine C0 ?_|exact rfl))<;>simp[rdI,rdO,rdE,rdB,rdN,rdS,rdD,rdW,tkM],fun _=>hsm,?_⟩;repeat((conv=>whnf);first|refine⟨fun h=>h,?_⟩|refine⟨_,w64 (bb),?_⟩|refine⟨(_,_,_),rfl,fun _=>trivial,?_⟩|refine⟨Ay (f.nodes.getD i.toNat .zero),fun h=>hg h,?_⟩)
 refine⟨trivial,eqB ?_⟩;show(Ez f&&inB i 0 ((((f.nodes.map Ay).length:Nat):Int) - 1)&&(f.nodes.getD i.toNat .zero).kind !=0)=_;rw[List.length_map];rfl
theorem A03:Au Tryz.prog 191 Jj:=Al (Bx _ _) (FOk.cons Di (FOk.cons Pc FOk.nil)) mixed Tryz.func191 rfl Tryz.call191 (by decide) (by kernel_rfl) B9q (by intro _ (y:(Fs×Int)) _;exact⟨by simp[Jj,con,A9,A8,AV.noRd,A7,Ab,A5,A6,Ae,Ag,Ak,Ay,At,B1,B3],by simp[Jj,con,A9,A8,AV.noRd,A7,Ab,A5,A6,Ae,Ag,Ak,Ay,At,B1,B3]⟩) (by intro(y:(Fs×Int)) _;first|(simp[Jj,con,A9,A8,Ad,AV.free,A2,A3,A1,A6,Ae,Ag,Ak,Ay,At,B1,B3];done)|(obtain⟨_,_⟩:=y;simp[Jj,con,A9,A8,Ad,AV.free,A2,A3,A1,A6,Ae,Ag,Ak,Ay,At,B1,B3];done)|(obtain⟨_,_,_⟩:=y;simp[Jj,con,A9,A8,Ad,AV.free,A2,A3,A1,A6,Ae,Ag,Ak,Ay,At,B1,B3];done))
def Gg:Bd:=con [mC,mC] true (Int×Int) (fun⟨t,g⟩=>[.int .i64 t,.int .i64 g]) (fun _=>True) (fun⟨t,g⟩=>.bool (inB t 0 100000&&inB g 0 1000000))
def A7z:Env:=⟨A4 B5,A4 [(76,Ch)],[0,1,4]⟩
theorem A6a:B6 A7z (Av Tryz.f163) Tryz.f163.results.toList Gg:=by
 rintro⟨t,g⟩ _;refine⟨trivial,?_⟩;repeat((conv=>whnf);first|refine⟨fun h=>h,?_⟩|refine⟨(_,_,_),rfl,fun _=>trivial,?_⟩)
 exact⟨trivial,rfl⟩
theorem Ug:Au Tryz.prog 163 Gg:=Al (Bx _ _) (FOk.cons Di FOk.nil) mixed Tryz.func163 rfl Tryz.call163 (by decide) (by kernel_rfl) A6a (by intro _ (y:(Int×Int)) _;exact⟨by simp[Gg,con,A9,A8,AV.noRd,A7,Ab,A5,A6,Ae,Ag,Ak,Ay,At,B1,B3],by simp[Gg,con,A9,A8,AV.noRd,A7,Ab,A5,A6,Ae,Ag,Ak,Ay,At,B1,B3]⟩) (by intro(y:(Int×Int)) _;first|(simp[Gg,con,A9,A8,Ad,AV.free,A2,A3,A1,A6,Ae,Ag,Ak,Ay,At,B1,B3];done)|(obtain⟨_,_⟩:=y;simp[Gg,con,A9,A8,Ad,AV.free,A2,A3,A1,A6,Ae,Ag,Ak,Ay,At,B1,B3];done)|(obtain⟨_,_,_⟩:=y;simp[Gg,con,A9,A8,Ad,AV.free,A2,A3,A1,A6,Ae,Ag,Ak,Ay,At,B1,B3];done))
def Ev:Bd:=con [.rd [some 5,some 1]] false Fs (fun f=>[.agg (At f)]) smF (fun f=>.agg (B3 f))
def A9v:Env:=⟨A4 B5,A4 [(130,Fx)],[0,1,2,3,4,5,14]⟩
theorem B0x:B6 A9v (Av Tryz.f162) Tryz.f162.results.toList Ev:=by
 intro(f:Fs) hf;obtain⟨hnl,hdl,hbl,hs⟩:smF f:=hf;refine⟨trivial,?_⟩;skip;refine⟨f.data,by(repeat' (first|refine By ?_ ?_|refine C2 ?_|refine Bs ?_|refine C0 ?_|exact rfl))<;>simp[rdI,rdO,rdE,rdB,rdN,rdS,rdD,rdW,tkM],fun _=>by show f.data.length≤_;omega,?_⟩;skip;refine B2 (fun i:Nat=>⟨[(1,⟨none,.bx 0 0⟩),(2,⟨none,.bx 2 0⟩),(3,⟨none,.bx 1 0⟩),(4,⟨none,.int .i64 i⟩)],[(0,.own 2 [At f]),(1,.own 2 [[.own 5 ((f.nodes.take i).map B1),.own 1 (f.data.map A6)]]),(2,.own 2 [[.own 5 [],.own 1 []]])],3⟩) (fun i=>i≤f.nodes.length) (fun i=>f.nodes.length - i) 0 ?_ (Nat.zero_le _) ?_
 ·(refine⟨?_,?_,rfl⟩<;>repeat' (first|exact rfl|exact trivial|refine⟨?_,?_⟩|fail)<;>(conv=>whnf))
  all_goals simp[tkM,setCells]
 intro i hi;have hi:i≤f.nodes.length:=hi
 (conv=>whnf);refine⟨fun h1=>?_,fun h1=>?_⟩
 ·have h1:i<f.nodes.length:=by simpa using h1
  obtain⟨n,hn⟩:=B7 h1;have hbn:=hbl n (List.mem_of_getElem? hn);repeat((conv=>whnf);first|refine⟨_,w64 (bb),?_⟩|refine⟨bb,?_⟩|refine⟨Ay n,fun _=>⟨by omega,Ao hn⟩,?_⟩)
  refine Bt (i+1) ?_ h1 (by first|omega|(simp;done)|(simp;omega));rw[Bk hn]
  (refine⟨?_,?_,rfl⟩<;>repeat' (first|exact rfl|exact trivial|refine⟨?_,?_⟩|fail)<;>(conv=>whnf))
  all_goals (simp[B1,List.take_of_length_le];rfl)
 ·have h1:i=f.nodes.length:=by have:¬(i<f.nodes.length):=by simpa using h1
                               omega
  subst h1;rw[List.take_length];skip;exact⟨trivial,⟨rfl,by simp[tkM]⟩,⟨rfl,by simp[tkM]⟩,trivial⟩
theorem No:Au Tryz.prog 162 Ev:=Al (Bx _ _) (FOk.cons Qu FOk.nil) mixed Tryz.func162 rfl Tryz.call162 (by decide) (by kernel_rfl) B0x (by intro _ (y:Fs) _;exact⟨by simp[Ev,con,A9,A8,AV.noRd,A7,Ab,A5,A6,Ae,Ag,Ak,Ay,At,B1,B3],by simp[Ev,con,A9,A8,AV.noRd,A7,Ab,A5,A6,Ae,Ag,Ak,Ay,At,B1,B3]⟩) (by intro(y:Fs) _;first|(simp[Ev,con,A9,A8,Ad,AV.free,A2,A3,A1,A6,Ae,Ag,Ak,Ay,At,B1,B3];done)|(obtain⟨_,_⟩:=y;simp[Ev,con,A9,A8,Ad,AV.free,A2,A3,A1,A6,Ae,Ag,Ak,Ay,At,B1,B3];done)|(obtain⟨_,_,_⟩:=y;simp[Ev,con,A9,A8,Ad,AV.free,A2,A3,A1,A6,Ae,Ag,Ak,Ay,At,B1,B3];done))
def Li:Bd:={Ev with sh:=true,res:=fun(f:Fs)=>.agg (At f)}
theorem Mj:Au Tryz.prog 162 Li:=J2 _ No (fun _=>rfl) rfl (fun f _=>⟨rfl,by show 2≤16;omega,by simp only[Ev,con,frz,Ml,B3,At,List.map_cons,List.map_nil,Ni,rdW,rdS]⟩)
def Gf:Bd:=con [mC,mC] false (Int×Int) (fun⟨n,d⟩=>[.int .i64 n,.int .i64 d]) (fun _=>True) (fun⟨n,d⟩=>.tup [.agg (B3 (A01 n d)),.bool (inB n 2 10&&inB d 1 36)])
def B4a:Env:=⟨A4 B5,A4 [(76,Ch)],[0,1,4,5,6,14]⟩
theorem B4z:B6 B4a (Av Tryz.f122) Tryz.f122.results.toList Gf:=by
 rintro⟨n,d⟩ _;refine⟨trivial,?_⟩;repeat((conv=>whnf);first|refine⟨fun h=>h,?_⟩|refine⟨(_,_,_),rfl,fun _=>trivial,?_⟩)
 (conv=>whnf);refine⟨fun h1=>?_,fun h1=>?_⟩
 ·have h1:(!inB n 2 10|| !inB d 1 36)=true:=h1
  have h2:(inB n 2 10&&inB d 1 36)=false:=by revert h1;cases inB n 2 10<;>cases inB d 1 36<;>simp
  skip;rw[show Gf.res (n,d)=.tup [.agg [.own 5 [],.own 1 []],.bool false] by show AV.tup [.agg (B3 (A01 n d)),.bool (inB n 2 10&&inB d 1 36)]=_;rw[A01,h2];rfl];exact⟨trivial,⟨⟨rfl,rfl⟩,⟨rfl,rfl⟩,trivial⟩,rfl,trivial⟩
 ·have h1:(!inB n 2 10|| !inB d 1 36)=false:=h1
  have h2:(inB n 2 10&&inB d 1 36)=true:=by revert h1;cases inB n 2 10<;>cases inB d 1 36<;>simp
  obtain⟨p,rfl⟩:∃p:Nat,n=((p+2:Nat):Int):=⟨(n - 2).toNat,by simp[inB]at h2;omega⟩
  obtain⟨q,rfl⟩:∃q:Nat,d=(q:Int):=⟨d.toNat,by simp[inB]at h2;omega⟩
  have h3:p≤8∧q≤36:=by simp[inB]at h2;omega
  repeat((conv=>whnf);first|refine⟨(by kernel_rfl:Bu _ _=true),?_⟩|refine⟨bb,?_⟩)
  refine⟨B1 Nd.zero,rfl,?_⟩;skip;rw[show Gf.res (((p+2:Nat):Int),(q:Int))=.tup [.agg [.own 5 (B1 ⟨2,0,0,0,[]⟩::List.replicate (p+1) (B1 Nd.zero)),.own 1 (List.replicate q (A6 []))],.bool true] by
   show AV.tup [.agg (B3 (A01 ((p+2:Nat):Int) (q:Int))),.bool (inB ((p+2:Nat):Int) 2 10&&inB (q:Int) 1 36)]=_;rw[A01,h2];simp[B3];omega]
  refine⟨trivial,⟨⟨rfl,?_⟩,⟨rfl,?_⟩,trivial⟩,rfl,trivial⟩
  ·refine congrArg (fun r=>B1 ⟨2,0,0,0,[]⟩::B1 Nd.zero::r) (?_:_=List.replicate p (B1 Nd.zero))
   simp[B1,Nd.zero]
  ·simp[A6]
theorem B09:Au Tryz.prog 122 Gf:=Al (Bx _ _) (FOk.cons Di FOk.nil) mixed Tryz.func122 rfl Tryz.call122 (by decide) (by kernel_rfl) B4z (by intro _ (y:(Int×Int)) _;exact⟨by simp[Gf,con,A9,A8,AV.noRd,A7,Ab,A5,A6,Ae,Ag,Ak,Ay,At,B1,B3],by simp[Gf,con,A9,A8,AV.noRd,A7,Ab,A5,A6,Ae,Ag,Ak,Ay,At,B1,B3]⟩) (by intro(y:(Int×Int)) _;first|(simp[Gf,con,A9,A8,Ad,AV.free,A2,A3,A1,A6,Ae,Ag,Ak,Ay,At,B1,B3];done)|(obtain⟨_,_⟩:=y;simp[Gf,con,A9,A8,Ad,AV.free,A2,A3,A1,A6,Ae,Ag,Ak,Ay,At,B1,B3];done)|(obtain⟨_,_,_⟩:=y;simp[Gf,con,A9,A8,Ad,AV.free,A2,A3,A1,A6,Ae,Ag,Ak,Ay,At,B1,B3];done))
def Xx:Bd:={Gf with sh:=true,res:=fun((n,d):Int×Int)=>.tup [.agg (At (A01 n d)),.bool (inB n 2 10&&inB d 1 36)]}
theorem A82:Au Tryz.prog 122 Xx:=J2 _ B09 (fun _=>rfl) rfl (fun(n,d) _=>⟨rfl,by show 2≤16;omega,by simp only[Gf,con,frz,Ml,B3,At,List.map_cons,List.map_nil,Ni,rdW,rdS]⟩)
end Go.GH
namespace Go.GH
open Go
def X6(n:Nd)(k:Int):Nd:=⟨k,n.gen,n.time,n.size,n.blocks⟩
def Yt(f:Fs):Option Nat:=f.nodes.findIdx? fun n=>n.kind==0
def C7(f:Fs)(k:Int):Fs×Int×Bool:=if Ez f&&inB k 1 3 then match Yt f with
 |some i=>(⟨f.nodes.set i (X6 (f.nodes.getD i .zero) k),f.data⟩,i,true)
 |none=>(f, -1,false)
 else(f, -1,false)
def clr(d:List Str)(b:Int):List Str:=d.set b.toNat []
def Nv(d:List Str)(l:List Int):List Str:=l.foldl clr d
def I8(f:Fs)(i:Int):Nd:=f.nodes.getD i.toNat .zero
def I3(f:Fs)(i:Int):Fs×Bool:=if isN f i&&i !=0 then(⟨f.nodes.set i.toNat .zero,Nv f.data (I8 f i).blocks⟩,true)else(f,false)
def Pm(u:List Int)(n:Nat):List Int:=((List.range n).filter fun b=>u.getD b 0==0).map fun b=>((b:Nat):Int)
def A1j(s:Str)(bs:List Int)(d:List Str)(k:Nat):List Str:=d.set (bs.getD k 0).toNat ((s.drop (k*16)).take (A1b s.length k).toNat)
def Sk(s:Str)(bs:List Int)(k:Nat)(d:List Str):List Str:=(List.range k).foldl (A1j s bs) d
def need(s:Str):Nat:=(Gu s.length).toNat
def B79(f:Fs)(i:Int)(s:Str):List Int:=(I8 f i).blocks.take (need s)
def J7(f:Fs)(i:Int)(s:Str):List Int:=B79 f i s++(Pm (O6 f) f.data.length).take (need s - (B79 f i s).length)
def Oy(f:Fs)(i:Int)(s:Str):Bool:=isN f i&&decide (s.length≤80)&& !decide ((J7 f i s).length<need s)
def Wv(f:Fs)(i:Int)(s:Str):List Str:=Sk s (J7 f i s) (need s) (Nv f.data ((I8 f i).blocks.drop (need s)))
def A4j(n:Nd)(s:Str)(l:List Int):Nd:=⟨n.kind,n.gen,n.time,s.length,l⟩
def Bh(f:Fs)(i:Int)(s:Str):Fs×Bool:=if Oy f i s then(⟨f.nodes.set i.toNat (A4j (I8 f i) s (J7 f i s)),Wv f i s⟩,true)else(f,false)
theorem O4:∀(l:List Int) (d:List Str),(Nv d l).length=d.length
 |[],d=>rfl
 |b::l,d=>by
  show(Nv (clr d b) l).length=_;rw[O4 l];simp[clr]
theorem Y6(s:Str)(bs:List Int)(d:List Str):∀(k:Nat),(Sk s bs k d).length=d.length
 |0=>rfl
 |k+1=>by rw[Sk,List.range_succ,List.foldl_append];show(A1j s bs (Sk s bs k d) k).length=_;rw[A1j,List.length_set,Y6 s bs d k]
theorem A2h(s:Str)(bs:List Int)(d:List Str)(k:Nat):Sk s bs (k+1) d=A1j s bs (Sk s bs k d) k:=by
 rw[Sk,List.range_succ,List.foldl_append];rfl
theorem A6x(u:List Int)(b:Nat):Pm u (b+1)=Pm u b++if u.getD b 0==0 then[((b:Nat):Int)]else[]:=by
 rw[Pm,List.range_succ,List.filter_append,List.map_append];show Pm u b++_=_;cases h:(u.getD b 0==0)<;>simp[h]<;>simp_all
theorem C3g(u:List Int):∀{b n:Nat},b≤n→∃r,Pm u n=Pm u b++r
 |b,n,h=>by
  induction n with
  |zero=>exact⟨[],by simp[show b=0 by omega]⟩
  |succ n ih=>
   rcases Nat.lt_or_ge b (n+1)with h2|h2
   ·obtain⟨r,hr⟩:=ih (by omega)
    rw[A6x,hr,List.append_assoc];exact⟨_,rfl⟩
   ·exact⟨[],by rw[show b=n+1 by omega];simp⟩
theorem C44{u:List Int}{n:Nat}{b:Int}(h:b∈Pm u n):0≤b∧b<n:=by
 simp only[Pm,List.mem_map,List.mem_filter,List.mem_range]at h;obtain⟨k,⟨h1,_⟩,rfl⟩:=h;omega
theorem B4x{f:Fs}{i:Int}(h:isN f i=true):S4 f∧0≤i∧i.toNat<f.nodes.length∧f.nodes[i.toNat]? =some (I8 f i)∧(I8 f i).kind≠0:=by
 simp only[isN,Bool.and_eq_true]at h;obtain⟨⟨h1,h2⟩,h3⟩:=h;simp[inB]at h2;refine⟨A02 h1,by omega,by omega,?_,by simpa[I8]using h3⟩;rw[I8,List.getD_eq_getElem?_getD,List.getElem?_eq_getElem (by omega)];rfl
theorem Xi{f:Fs}{i:Int}{s:Str}(h:isN f i=true):∀b,b∈J7 f i s→0≤b∧b<f.data.length:=by
 obtain⟨hs,_,_,hn,_⟩:=B4x h;intro b hb;rcases List.mem_append.1 hb with hb|hb
 ·exact hs.inr _ (List.mem_of_getElem? hn) b (List.mem_of_mem_take hb)
 ·exact C44 (List.mem_of_mem_take hb)
theorem C91{l:List Int}{k nd:Nat}{b:Int}(h:l[k]? =some b)(hk:k<nd):(l.take (k+1)).take nd=(l.take k).take nd++[b]∧(l.take (k+1)).drop nd=(l.take k).drop nd:=by
 have hl:=(List.getElem?_eq_some_iff.1 h).1;rw[Bk h];constructor
 ·have a1:(l.take k++[b]).take nd=l.take k++[b]:=List.take_of_length_le (by simp;omega)
  have a2:(l.take k).take nd=l.take k:=List.take_of_length_le (by simp;omega);rw[a1,a2]
 ·have a1:(l.take k++[b]).drop nd=[]:=List.drop_of_length_le (by simp;omega)
  have a2:(l.take k).drop nd=[]:=List.drop_of_length_le (by simp;omega);rw[a1,a2]
theorem C8z{l:List Int}{k nd:Nat}{b:Int}(h:l[k]? =some b)(hk:nd≤k):(l.take (k+1)).take nd=(l.take k).take nd∧(l.take (k+1)).drop nd=(l.take k).drop nd++[b]:=by
 have hl:=(List.getElem?_eq_some_iff.1 h).1;rw[Bk h];have h1:(l.take k).length=k:=by rw[List.length_take];omega
 constructor
 ·rw[List.take_append_of_le_length (by omega)]
 ·rw[List.drop_append_of_le_length (by omega)]
theorem C3p(d:List Str)(l:List Int)(b:Int):Nv d (l++[b])=(Nv d l).set b.toNat []:=by rw[Nv,List.foldl_append];rfl
theorem C4l{u:List Int}{n b m:Nat}(h:b≤n)(hm:(Pm u b).length≤m)(hx:(Pm u b).length=m∨b=n):Pm u b=(Pm u n).take m:=by
 rcases hx with hx|rfl
 ·obtain⟨r,hr⟩:=C3g u h
  rw[hr,List.take_append_of_le_length (by omega),List.take_of_length_le (by omega)]
 ·rw[List.take_of_length_le hm]
theorem C2q{s:Str}{k:Nat}(hs:s.length≤80)(hk:k<need s):0≤A1b s.length k∧k*16+(A1b s.length k).toNat≤s.length∧(A1b s.length k).toNat≤16:=by
 have h1:16*k<s.length:=by
  unfold need at hk;unfold Gu at hk;split at hk
  ·omega
  ·split at hk
   ·omega
   ·rw[Int.tdiv_eq_ediv_of_nonneg (by omega)]at hk;omega
 unfold A1b;split<;>omega
theorem C9c{l:List Int}{k:Nat}(h:k<l.length):l[k]? =some (l.getD k 0):=by
 rw[List.getD_eq_getElem?_getD,List.getElem?_eq_getElem h];rfl
def Pf(f:Fs)(s:List Int):Prop:=s.length=f.nodes.length∧∀k,0≤s.getD k 0∧s.getD k 0≤1
theorem C2o{f:Fs}{s:List Int}{i:Nat}(h:Pf f s)(h1:¬(Qa s i).getD i 0>1):Pf f (Qa s i):=by
 refine⟨by rw[Qa,List.length_set];exact h.1,fun k=>?_⟩;have hk:=h.2 k;have hi:=h.2 i;unfold Qa at h1⊢;rw[Ux]at h1⊢;by_cases e:i=k∧k<s.length
 ·obtain⟨rfl,e⟩:=e
  rw[if_pos ⟨rfl,e⟩]at h1⊢;omega
 ·rw[if_neg e];exact hk
theorem B77{rec:Nat→List Int→List Int×Bool}{f:Fs}{i:Nat}(hr:∀i s,Pf f s→(rec i s).2=true→Pf f (rec i s).1):∀{l:List En} {o:List Int},Pf f o→(W5 rec f i l o).2=true→Pf f (W5 rec f i l o).1
 |[],o,ho,h=>ho
 |e::l,o,ho,h=>by
  rw[W5]at h⊢;split
  ·exact ho
  ·rename_i h1
   rw[if_neg h1]at h;split
   ·rename_i h2
    rw[if_pos h2]at h;exact B77 hr (hr _ _ ho h2) h
   ·exact ho
theorem A59{f:Fs}:∀{d i:Nat} {s:List Int},Pf f s→(Hy f d i s).2=true→Pf f (Hy f d i s).1
 |0,i,s,hs,h=>by cases h
 |d+1,i,s,hs,h=>by
  rw[Hy]at h⊢;split
  ·rename_i h1;rw[if_pos h1]at h;cases h
  ·rename_i h1
   rw[if_neg h1]at h;have hb:=C2o hs h1;split
   ·exact hb
   ·rename_i h2
    rw[if_neg h2]at h;split
    ·exact hb
    ·rename_i l hl
     rw[hl]at h;exact B77 (fun i s hs h=>A59 hs h) hb h
theorem P7{f:Fs}{i:Nat}{n:Nd}(h:f.nodes[i]? =some n):Lt f i=n.kind:=by
 rw[Lt,List.getD_eq_getElem?_getD,h];rfl
theorem B8q(f:Fs):Pf f (zrs f.nodes.length):=⟨by simp[zrs],fun k=>by rw[zrs,X3];omega⟩
theorem Wy{f:Fs}{i:Nat}(h:(Iu f i).isSome=true):Iu f i=some ((Iu f i).getD []):=by
 cases hd:Iu f i with
 |none=>rw[hd]at h;cases h
 |some l=>rfl
end Go.GH
namespace Go.GH
open Go Go.Proofs
def Es:Bd:=con [.rd [some 5,some 1],mC] false (Fs×Int) (fun⟨f,k⟩=>[.agg (At f),.int .i64 k]) (fun x=>smF x.1) (fun⟨f,k⟩=>.tup [.agg (B3 (C7 f k).1),.int .i64 (C7 f k).2.1,.bool (C7 f k).2.2])
def A3t:Env:=⟨A4 B5,A4 [(76,Ch),(158,F7),(162,Ev)],[0,1,2,4,5,6,7,8,18,24,33]⟩
theorem A43:B6 A3t (Av Tryz.f189) Tryz.f189.results.toList Es:=by
 rintro⟨f,kd⟩ hsm;have hsm:smF f:=hsm;have hnl:=hsm.1;refine⟨trivial,?_⟩;have fin:∀{r:Fs×Int×Bool},r=C7 f kd→Es.res (f,kd)=.tup [.agg (B3 r.1),.int .i64 r.2.1,.bool r.2.2]:=fun h=>by rw[h];rfl
 skip;refine⟨f,by(repeat' (first|refine By ?_ ?_|refine C2 ?_|refine Bs ?_|refine C0 ?_|exact rfl))<;>simp[rdI,rdO,rdE,rdB,rdN,rdS,rdD,rdW,tkM],fun _=>hsm,?_⟩;skip;refine⟨f,by(repeat' (first|refine By ?_ ?_|refine C2 ?_|refine Bs ?_|refine C0 ?_|exact rfl))<;>simp[rdI,rdO,rdE,rdB,rdN,rdS,rdD,rdW,tkM],fun _=>hsm,?_⟩;repeat((conv=>whnf);first|refine⟨fun h=>h,?_⟩|refine⟨(_,_,_),rfl,fun _=>trivial,?_⟩)
 (conv=>whnf);refine⟨fun h1=>?_,fun h1=>?_⟩
 ·have h1:(!Ez f|| !inB kd 1 3)=true:=h1
  have hd:(f, -1,false)=C7 f kd:=by rw[C7,if_neg];revert h1;cases Ez f<;>cases inB kd 1 3<;>simp
  skip;rw[fin hd];exact⟨trivial,⟨⟨rfl,by simp[tkM]⟩,⟨rfl,by simp[tkM]⟩,trivial⟩,rfl,rfl,trivial⟩
 have h1:(!Ez f|| !inB kd 1 3)=false:=h1;have h1':(Ez f&&inB kd 1 3)=true:=by revert h1;cases Ez f<;>cases inB kd 1 3<;>simp
 have hnm:C7 f kd=match Yt f with
  |some i=>(⟨f.nodes.set i (X6 (f.nodes.getD i .zero) kd),f.data⟩,i,true)
  |none=>(f, -1,false):=by rw[C7,if_pos h1']<;>(cases Yt f<;>rfl)
 skip;refine B2 (fun i:Nat=>⟨[(1,⟨none,.int .i64 kd⟩),(2,⟨none,.bx 0 0⟩),(4,⟨none,.bx 1 0⟩),(7,⟨none,.bx 2 0⟩),(8,⟨none,.int .i64 i⟩)],[(0,.own 2 [At f]),(1,.own 2 [[.own 5 [],.own 1 []]]),(2,.own 2 [B3 f])],3⟩) (fun i=>i≤f.nodes.length∧∀n,n∈f.nodes.take i→(n.kind==0)=false) (fun i=>f.nodes.length - i) 0 ?_ ⟨Nat.zero_le _,fun n hn=>absurd hn (by simp)⟩ ?_
 ·(refine⟨?_,?_,rfl⟩<;>repeat' (first|exact rfl|exact trivial|refine⟨?_,?_⟩|fail)<;>(conv=>whnf))
  all_goals simp[tkM,setCells,B3]
 rintro i ⟨hi,hI⟩
 (conv=>whnf);refine⟨fun h2=>?_,fun h2=>?_⟩
 ·have h2:i<f.nodes.length:=by simpa using h2
  obtain⟨n,hn⟩:=B7 h2;repeat((conv=>whnf);refine⟨Ay n,fun _=>⟨by omega,Ao hn⟩,?_⟩)
  (conv=>whnf);refine⟨fun h3=>?_,fun h3=>?_⟩
  ·have h3:(n.kind==0)=true:=h3
   have hfr:Yt f=some i:=by
    rw[Yt,List.findIdx?_eq_some_iff_getElem];refine⟨h2,?_,fun j hj=>?_⟩
    ·rw[List.getElem?_eq_getElem h2]at hn
     rw[Option.some.inj hn];exact h3
    ·have:=hI f.nodes[j] (by rw[List.mem_iff_getElem?];exact⟨j,by rw[List.getElem?_take,if_pos hj,List.getElem?_eq_getElem]⟩)
     rw[this];decide
   have hd:(⟨f.nodes.set i (X6 n kd),f.data⟩,(i:Int),true)=C7 f kd:=by
    rw[hnm,hfr];simp only[List.getD_eq_getElem?_getD,hn];rfl
   repeat((conv=>whnf);first|refine⟨bb,?_⟩|refine⟨B1 n,by rw[Nat.zero_add];exact Ao hn,?_⟩)
   rw[fin hd];refine⟨trivial,⟨⟨rfl,?_⟩,⟨rfl,?_⟩,trivial⟩,rfl,rfl,trivial⟩;all_goals simp[tkM,List.map_set,B1,X6,List.take_of_length_le]
  ·have h3:(n.kind==0)=false:=h3
   repeat((conv=>whnf);refine⟨_,w64 (bb),?_⟩)
   refine Bt (i+1) ?_ ⟨h2,fun m hm=>?_⟩ (by first|omega|(simp;done)|(simp;omega))
   ·(refine⟨?_,?_,rfl⟩<;>repeat' (first|exact rfl|exact trivial|refine⟨?_,?_⟩|fail)<;>(conv=>whnf))
   ·rw[Bk hn,List.mem_append]at hm
    rcases hm with hm|hm
    ·exact hI m hm
    ·rw[List.mem_singleton]at hm;subst hm;exact h3
 have h2:i=f.nodes.length:=by have:¬(i<f.nodes.length):=by simpa using h2
                              omega
 subst h2;rw[List.take_length]at hI;have hfr:Yt f=none:=by rw[Yt,List.findIdx?_eq_none_iff];exact hI
 have hd:(f, -1,false)=C7 f kd:=by rw[hnm,hfr]
 skip;rw[fin hd];exact⟨trivial,⟨⟨rfl,by simp[tkM]⟩,⟨rfl,by simp[tkM]⟩,trivial⟩,rfl,rfl,trivial⟩
theorem A1p:Au Tryz.prog 189 Es:=Al (Bx _ _) (FOk.cons Di (FOk.cons Pc (FOk.cons No FOk.nil))) mixed Tryz.func189 rfl Tryz.call189 (by decide) (by kernel_rfl) A43 (by intro _ (y:(Fs×Int)) _;exact⟨by simp[Es,con,A9,A8,AV.noRd,A7,Ab,A5,A6,Ae,Ag,Ak,Ay,At,B1,B3],by simp[Es,con,A9,A8,AV.noRd,A7,Ab,A5,A6,Ae,Ag,Ak,Ay,At,B1,B3]⟩) (by intro(y:(Fs×Int)) _;first|(simp[Es,con,A9,A8,Ad,AV.free,A2,A3,A1,A6,Ae,Ag,Ak,Ay,At,B1,B3];done)|(obtain⟨_,_⟩:=y;simp[Es,con,A9,A8,Ad,AV.free,A2,A3,A1,A6,Ae,Ag,Ak,Ay,At,B1,B3];done)|(obtain⟨_,_,_⟩:=y;simp[Es,con,A9,A8,Ad,AV.free,A2,A3,A1,A6,Ae,Ag,Ak,Ay,At,B1,B3];done))
def T9:Bd:={Es with sh:=true,res:=fun((f,k):Fs×Int)=>.tup [.agg (At (C7 f k).1),.int .i64 (C7 f k).2.1,.bool (C7 f k).2.2]}
theorem A0a:Au Tryz.prog 189 T9:=J2 _ A1p (fun _=>rfl) rfl (fun(f,k) _=>⟨rfl,by show 2≤16;omega,by simp only[Es,con,frz,Ml,B3,At,List.map_cons,List.map_nil,Ni,rdW,rdS]⟩)
def Et:Bd:=con [.rd [some 5,some 1],mC] false (Fs×Int) (fun⟨f,k⟩=>[.agg (At f),.int .i64 k]) (fun x=>smF x.1) (fun⟨f,k⟩=>.tup [.agg (B3 (I3 f k).1),.bool (I3 f k).2])
def A3u:Env:=⟨A4 B5,A4 [(162,Ev),(191,Jj)],[0,1,2,4,5,6,7,17,27]⟩
theorem A3r:B6 A3u (Av Tryz.f169) Tryz.f169.results.toList Et:=by
 rintro⟨f,i⟩ hsm;have hsm:smF f:=hsm;have hnl:=hsm.1;refine⟨trivial,?_⟩;have fin:∀{r:Fs×Bool},r=I3 f i→Et.res (f,i)=.tup [.agg (B3 r.1),.bool r.2]:=fun h=>by rw[h];rfl
 skip;refine⟨f,by(repeat' (first|refine By ?_ ?_|refine C2 ?_|refine Bs ?_|refine C0 ?_|exact rfl))<;>simp[rdI,rdO,rdE,rdB,rdN,rdS,rdD,rdW,tkM],fun _=>hsm,?_⟩;skip;refine⟨(f,i),by(repeat' (first|refine By ?_ ?_|refine C2 ?_|refine Bs ?_|refine C0 ?_|exact rfl))<;>simp[rdI,rdO,rdE,rdB,rdN,rdS,rdD,rdW,tkM],fun _=>hsm,?_⟩;repeat((conv=>whnf);refine⟨fun h=>h,?_⟩)
 (conv=>whnf);refine⟨fun h1=>?_,fun h1=>?_⟩
 ·have h1:(!isN f i||i==0)=true:=h1
  have hd:(f,false)=I3 f i:=by rw[I3,if_neg];revert h1;cases isN f i<;>cases hi:(i==0)<;>simp[bne,hi]
  skip;rw[fin hd];exact⟨trivial,⟨⟨rfl,by simp[tkM]⟩,⟨rfl,by simp[tkM]⟩,trivial⟩,rfl,trivial⟩
 have h1:(!isN f i||i==0)=false:=h1;have h1':(isN f i&&i !=0)=true:=by revert h1;cases isN f i<;>cases hi:(i==0)<;>simp[bne,hi]
 have hin:isN f i=true:=by revert h1';cases isN f i<;>simp
 have hd:(⟨f.nodes.set i.toNat .zero,Nv f.data (I8 f i).blocks⟩,true)=I3 f i:=by rw[I3,if_pos h1']
 obtain⟨hsh,hi0,hil,hn,hk⟩:=B4x hin;generalize I8 f i=n at hn hk hd;obtain⟨j,rfl⟩:∃j:Nat,i=j:=⟨i.toNat,by omega⟩
 rw[Int.toNat_natCast]at hil hn hd;have hbn:=hsm.2.2.1 n (List.mem_of_getElem? hn);have hrn:=hsh.inr n (List.mem_of_getElem? hn);skip;refine B2 (fun k:Nat=>⟨[(1,⟨none,.int .i64 j⟩),(2,⟨none,.bx 0 0⟩),(4,⟨none,.bx 1 0⟩),(6,⟨none,.bx 2 0⟩),(7,⟨none,.int .i64 k⟩)],[(0,.own 2 [At f]),(1,.own 2 [[.own 5 [],.own 1 []]]),(2,.own 2 [[.own 5 (f.nodes.map B1),.own 1 ((Nv f.data (n.blocks.take k)).map A6)]])],3⟩) (fun k=>k≤n.blocks.length) (fun k=>n.blocks.length - k) 0 ?_ (Nat.zero_le _) ?_
 ·(refine⟨?_,?_,rfl⟩<;>repeat' (first|exact rfl|exact trivial|refine⟨?_,?_⟩|fail)<;>(conv=>whnf))
  all_goals simp[tkM,Nv,setCells]
 intro k hk;have hk:k≤n.blocks.length:=hk;have hdl:=O4 (n.blocks.take k) f.data;repeat((conv=>whnf);refine⟨Ay n,fun _=>⟨by omega,Ao hn⟩,?_⟩)
 (conv=>whnf);refine⟨fun h2=>?_,fun h2=>?_⟩
 ·have h2:k<n.blocks.length:=by simpa using h2
  obtain⟨b,hb⟩:=B7 h2;have hb2:=hrn b (List.mem_of_getElem? hb);obtain⟨s,hs1⟩:=B7 (l:=Nv f.data (n.blocks.take k)) (i:=b.toNat) (by omega);have hst:Nv f.data (n.blocks.take (k+1))=(Nv f.data (n.blocks.take k)).set b.toNat []:=by rw[Bk hb,Nv,List.foldl_append];rfl
  repeat((conv=>whnf);first|refine⟨(by kernel_rfl:Bu _ _=true),?_⟩|refine⟨_,w64 (bb),?_⟩|refine⟨bb,?_⟩|refine⟨Ay n,fun _=>⟨by omega,Ao hn⟩,?_⟩|refine⟨Ae b,fun _=>⟨by omega,Ao hb⟩,?_⟩|refine⟨A6 s,by rw[Nat.zero_add];exact Ao hs1,?_⟩)
  refine Bt (k+1) ?_ h2 (by first|omega|(simp;done)|(simp;omega));rw[hst]
  (refine⟨?_,?_,rfl⟩<;>repeat' (first|exact rfl|exact trivial|refine⟨?_,?_⟩|fail)<;>(conv=>whnf))
  all_goals (rw[List.map_set,show 0+b.toNat=b.toNat from Nat.zero_add _];rfl)
 have h2:k=n.blocks.length:=by have:¬(k<n.blocks.length):=by simpa using h2
                               omega
 subst h2;rw[List.take_length];repeat((conv=>whnf);first|refine⟨bb,?_⟩|refine⟨B1 n,by rw[Nat.zero_add];exact Ao hn,?_⟩)
 rw[fin hd];refine⟨trivial,⟨⟨rfl,?_⟩,⟨rfl,?_⟩,trivial⟩,rfl,trivial⟩<;>simp[tkM,List.map_set,B1,Nd.zero,List.take_of_length_le,setCells]
theorem A18:Au Tryz.prog 169 Et:=Al (Bx _ _) (FOk.cons No (FOk.cons A03 FOk.nil)) mixed Tryz.func169 rfl Tryz.call169 (by decide) (by kernel_rfl) A3r (by intro _ (y:(Fs×Int)) _;exact⟨by simp[Et,con,A9,A8,AV.noRd,A7,Ab,A5,A6,Ae,Ag,Ak,Ay,At,B1,B3],by simp[Et,con,A9,A8,AV.noRd,A7,Ab,A5,A6,Ae,Ag,Ak,Ay,At,B1,B3]⟩) (by intro(y:(Fs×Int)) _;first|(simp[Et,con,A9,A8,Ad,AV.free,A2,A3,A1,A6,Ae,Ag,Ak,Ay,At,B1,B3];done)|(obtain⟨_,_⟩:=y;simp[Et,con,A9,A8,Ad,AV.free,A2,A3,A1,A6,Ae,Ag,Ak,Ay,At,B1,B3];done)|(obtain⟨_,_,_⟩:=y;simp[Et,con,A9,A8,Ad,AV.free,A2,A3,A1,A6,Ae,Ag,Ak,Ay,At,B1,B3];done))
def Sp:Bd:={Et with sh:=true,res:=fun((f,k):Fs×Int)=>.tup [.agg (At (I3 f k).1),.bool (I3 f k).2]}
theorem A0k:Au Tryz.prog 169 Sp:=J2 _ A18 (fun _=>rfl) rfl (fun(f,k) _=>⟨rfl,by show 2≤16;omega,by simp only[Et,con,frz,Ml,B3,At,List.map_cons,List.map_nil,Ni,rdW,rdS]⟩)
def Do:Bd:=con [.rd [some 5,some 1],mC,mC] false (Fs×Int×Str) (fun⟨f,i,s⟩=>[.agg (At f),.int .i64 i,.str s]) (fun x=>smF x.1∧x.2.2.length≤4611686018427387904) (fun⟨f,i,s⟩=>.tup [.agg (B3 (Bh f i s).1),.bool (Bh f i s).2])
def A0q:Env:=⟨A4 B5,A4 [(162,Ev),(185,Fv),(186,Hd),(191,Jj),(194,Ey)],[0,1,2,3,6,7,8,9,10,11,12,13,14,15,26,42,47,82,89,97,102]⟩
theorem A1x:B6 A0q (Av Tryz.f171) Tryz.f171.results.toList Do:=by
 rintro⟨f,i,s⟩ hx;obtain⟨hsm,hsl⟩:smF f∧s.length≤4611686018427387904:=hx;have hnl:=hsm.1;have hdl0:=hsm.2.1;refine⟨trivial,?_⟩;have fin:∀{r:Fs×Bool},r=Bh f i s→Do.res (f,i,s)=.tup [.agg (B3 r.1),.bool r.2]:=fun h=>by rw[h];rfl
 skip;refine⟨f,by(repeat' (first|refine By ?_ ?_|refine C2 ?_|refine Bs ?_|refine C0 ?_|exact rfl))<;>simp[rdI,rdO,rdE,rdB,rdN,rdS,rdD,rdW,tkM],fun _=>hsm,?_⟩;skip;refine⟨(f,i),by(repeat' (first|refine By ?_ ?_|refine C2 ?_|refine Bs ?_|refine C0 ?_|exact rfl))<;>simp[rdI,rdO,rdE,rdB,rdN,rdS,rdD,rdW,tkM],fun _=>hsm,?_⟩;repeat((conv=>whnf);refine⟨fun h=>h,?_⟩)
 (conv=>whnf);refine⟨fun h1=>?_,fun h1=>?_⟩
 ·have h1:(!isN f i||decide ((s.length:Int)>80))=true:=h1
  have hd:(f,false)=Bh f i s:=by
   rw[Bh,if_neg];rw[Oy];by_cases h2:s.length≤80
   ·have:isN f i=false:=by
     rw[Bool.or_eq_true]at h1;rcases h1 with h1|h1
     ·simpa using h1
     ·simp at h1;omega
    rw[this];simp
   ·simp[h2]
  skip;rw[fin hd];exact⟨trivial,⟨⟨rfl,by simp[tkM]⟩,⟨rfl,by simp[tkM]⟩,trivial⟩,rfl,trivial⟩
 have h1:(!isN f i||decide ((s.length:Int)>80))=false:=h1;rw[Bool.or_eq_false_iff]at h1;obtain⟨h1,h2⟩:=h1;have hin:isN f i=true:=by simpa using h1
 have hs80:s.length≤80:=by simp at h2;omega
 have hcw:Oy f i s= !decide ((J7 f i s).length<need s):=by rw[Oy,hin];simp[hs80]
 have hnb:=fun b hb=>Xi (s:=s) hin b hb;have hbf:=Tw (s.length:Int);have hneed:(need s:Int)=Gu (s.length:Int):=by rw[need];omega
 obtain⟨hsh,hi0,hil,hn,hk⟩:=B4x hin;have hkp:B79 f i s=(I8 f i).blocks.take (need s):=rfl;have hnbd:J7 f i s=B79 f i s++(Pm (O6 f) f.data.length).take (need s - (B79 f i s).length):=rfl;have hndd:Wv f i s=Sk s (J7 f i s) (need s) (Nv f.data ((I8 f i).blocks.drop (need s))):=rfl;have hnn:Bh f i s=if Oy f i s then(⟨f.nodes.set i.toNat (A4j (I8 f i) s (J7 f i s)),Wv f i s⟩,true)else(f,false):=rfl
 generalize Wv f i s=ND at hndd hnn;generalize J7 f i s=NB at hnb hnbd hndd hnn hcw;generalize B79 f i s=KP at hkp hnbd;generalize I8 f i=n at hn hk hkp hndd hnn;obtain⟨j,rfl⟩:∃j:Nat,i=j:=⟨i.toNat,by omega⟩
 rw[Int.toNat_natCast]at hil hn hnn;have hbn:=U0 (hsh.all n (List.mem_of_getElem? hn));have hrn:=hsh.inr n (List.mem_of_getElem? hn);skip;refine⟨f,by(repeat' (first|refine By ?_ ?_|refine C2 ?_|refine Bs ?_|refine C0 ?_|exact rfl))<;>simp[rdI,rdO,rdE,rdB,rdN,rdS,rdD,rdW,tkM],fun _=>hsm,?_⟩;skip;refine⟨(s.length:Int),rfl,fun _=>trivial,?_⟩;skip;refine B2
  (fun((k,bl,dt):Nat×List Int×List Str)=>⟨[(1,⟨none,.int .i64 j⟩),(2,⟨none,.str s⟩),(3,⟨none,.bx 0 0⟩),(6,⟨none,.bx 1 0⟩),(8,⟨none,.bx 2 0⟩),(9,⟨none,.view 3 [] 0 (O6 f).length⟩),(10,⟨none,.int .i64 (need s)⟩),(11,⟨none,.view 4 [] 0 bl.length⟩),(12,⟨none,.int .i64 k⟩)],[(0,.own 2 [At f]),(1,.own 2 [[.own 5 [],.own 1 []]]),(2,.own 2 [[.own 5 (f.nodes.map B1),.own 1 (dt.map A6)]]),(3,.own 1 ((O6 f).map Ae)),(4,.own 1 (bl.map Ae))],5⟩)
  (fun(k,bl,dt)=>k≤n.blocks.length∧bl=(n.blocks.take k).take (need s)∧dt=Nv f.data ((n.blocks.take k).drop (need s))) (fun x=>n.blocks.length - x.1) (0,[],f.data) ?_ ⟨Nat.zero_le _,by simp,by simp[Nv]⟩ ?_
 ·(refine⟨?_,?_,rfl⟩<;>repeat' (first|exact rfl|exact trivial|refine⟨?_,?_⟩|fail)<;>(conv=>whnf))
  all_goals first|exact hneed.symm|simp[tkM,setCells]
 rintro⟨k,bl,dt⟩ ⟨hk,hbl,hdt⟩;have hbl5:bl.length≤5:=by rw[hbl];simp;omega
 repeat((conv=>whnf);refine⟨Ay n,fun _=>⟨by omega,Ao hn⟩,?_⟩)
 (conv=>whnf);refine⟨fun h3=>?_,fun h3=>?_⟩
 ·have h3:k<n.blocks.length:=by simpa using h3
  obtain⟨b,hb⟩:=B7 h3;have hb2:=hrn b (List.mem_of_getElem? hb);skip
  (conv=>whnf);refine⟨fun h4=>?_,fun h4=>?_⟩
  ·have h4:k<need s:=by have h4:decide ((k:Int)<(need s:Nat))=true:=h4
                        simp at h4;omega
   obtain⟨e1,e2⟩:=C91 hb h4;repeat((conv=>whnf);first|refine⟨_,w64 (bb),?_⟩|refine⟨bb,?_⟩|refine⟨fun(r:List AV) hr c hc=>by simp[A6]at hr;(try subst hr);simp at hc;(try subst hc);rfl,?_⟩|refine⟨Ay n,fun _=>⟨by omega,Ao hn⟩,?_⟩|refine⟨Ae b,fun _=>⟨by omega,Ao hb⟩,?_⟩)
   refine Bt (k+1,bl++[b],dt) ?_ ⟨h3,by rw[e1,hbl],by rw[e2,hdt]⟩ (by first|omega|(simp;done)|(simp;omega))
   (refine⟨?_,?_,rfl⟩<;>repeat' (first|exact rfl|exact trivial|refine⟨?_,?_⟩|fail)<;>(conv=>whnf))
   all_goals simp[tkM,Ae]
  ·have h4:need s≤k:=by have h4:decide ((k:Int)<(need s:Nat))=false:=h4
                        simp at h4;omega
   obtain⟨e1,e2⟩:=C8z hb h4;have hdl:=O4 ((n.blocks.take k).drop (need s)) f.data;rw[←hdt]at hdl;obtain⟨x,hx⟩:=B7 (l:=dt) (i:=b.toNat) (by omega);repeat((conv=>whnf);first|refine⟨(by kernel_rfl:Bu _ _=true),?_⟩|refine⟨_,w64 (bb),?_⟩|refine⟨bb,?_⟩|refine⟨Ay n,fun _=>⟨by omega,Ao hn⟩,?_⟩|refine⟨Ae b,fun _=>⟨by omega,Ao hb⟩,?_⟩|refine⟨A6 x,by rw[Nat.zero_add];exact Ao hx,?_⟩)
   refine Bt (k+1,bl,dt.set b.toNat []) ?_ ⟨h3,by rw[e1,hbl],by rw[e2,C3p,hdt]⟩ (by first|omega|(simp;done)|(simp;omega))
   (refine⟨?_,?_,rfl⟩<;>repeat' (first|exact rfl|exact trivial|refine⟨?_,?_⟩|fail)<;>(conv=>whnf))
   all_goals (rw[List.map_set,show 0+b.toNat=b.toNat from Nat.zero_add _];rfl)
 have h3:k=n.blocks.length:=by have:¬(k<n.blocks.length):=by simpa using h3
                               omega
 subst h3;rw[List.take_length]at hbl hdt;rw[←hdt]at hndd;rw[←hkp]at hbl;subst hbl;have hdl:=O4 (n.blocks.drop (need s)) f.data;rw[←hdt]at hdl;have hul:(O6 f).length=f.data.length+1:=Xb _ _;have hkl:bl.length≤need s:=by rw[hkp,List.length_take];omega
 have hn5:need s≤5:=by omega
 skip;refine B2
  (fun((k,bl,dt):Nat×List Int×List Str)=>⟨[(1,⟨none,.int .i64 j⟩),(2,⟨none,.str s⟩),(3,⟨none,.bx 0 0⟩),(6,⟨none,.bx 1 0⟩),(8,⟨none,.bx 2 0⟩),(9,⟨none,.view 3 [] 0 (O6 f).length⟩),(10,⟨none,.int .i64 (need s)⟩),(11,⟨none,.view 4 [] 0 bl.length⟩),(13,⟨none,.int .i64 k⟩)],[(0,.own 2 [At f]),(1,.own 2 [[.own 5 [],.own 1 []]]),(2,.own 2 [[.own 5 (f.nodes.map B1),.own 1 (dt.map A6)]]),(3,.own 1 ((O6 f).map Ae)),(4,.own 1 (bl.map Ae))],5⟩)
  (fun(b,l,d)=>b≤f.data.length∧l=bl++Pm (O6 f) b∧l.length≤need s∧d=dt) (fun x=>f.data.length - x.1) (0,bl,dt) ?_ ⟨Nat.zero_le _,by simp[Pm],hkl,rfl⟩ ?_
 ·(refine⟨?_,?_,rfl⟩<;>repeat' (first|exact rfl|exact trivial|refine⟨?_,?_⟩|fail)<;>(conv=>whnf))
 rintro⟨b,l,d⟩ ⟨hb,hl,hll,rfl⟩;repeat((conv=>whnf);refine⟨fun h=>h,?_⟩)
 (conv=>whnf);refine⟨fun h4=>?_,fun h4=>?_⟩
 ·have h4:b<f.data.length∧l.length<need s:=by
   have h4:(decide ((b:Int)<((f.data.map A6).length:Nat))&&decide ((l.length:Int)<(need s:Nat)))=true:=h4;simp at h4;omega
  obtain⟨u,hu⟩:=B7 (l:=O6 f) (i:=b) (by omega);have hu2:(O6 f).getD b 0=u:=by rw[List.getD_eq_getElem?_getD,hu];rfl
  have hfs:=A6x (O6 f) b;rw[hu2]at hfs;repeat((conv=>whnf);first|refine⟨bb,?_⟩|refine⟨Ae u,fun _=>by rw[Nat.zero_add];exact Ao hu,?_⟩)
  (conv=>whnf);refine⟨fun h5=>?_,fun h5=>?_⟩
  ·have h5:(u==0)=true:=h5
   rw[h5,if_pos rfl]at hfs;repeat((conv=>whnf);first|refine⟨_,w64 (bb),?_⟩|refine⟨bb,?_⟩|refine⟨fun(r:List AV) hr c hc=>by simp[A6]at hr;(try subst hr);simp at hc;(try subst hc);rfl,?_⟩)
   refine Bt (b+1,l++[(b:Int)],d) ?_ ⟨h4.1,by rw[hfs,hl,List.append_assoc],by simp;omega,rfl⟩ (by first|omega|(simp;done)|(simp;omega))
   (refine⟨?_,?_,rfl⟩<;>repeat' (first|exact rfl|exact trivial|refine⟨?_,?_⟩|fail)<;>(conv=>whnf))
   all_goals simp[tkM,Ae]
  ·have h5:(u==0)=false:=h5
   rw[h5]at hfs;repeat((conv=>whnf);refine⟨_,w64 (bb),?_⟩)
   refine Bt (b+1,l,d) ?_ ⟨h4.1,by rw[hfs,hl];simp,hll,rfl⟩ (by first|omega|(simp;done)|(simp;omega))
   (refine⟨?_,?_,rfl⟩<;>repeat' (first|exact rfl|exact trivial|refine⟨?_,?_⟩|fail)<;>(conv=>whnf))
 have h4:b=f.data.length∨l.length=need s:=by
  have h4:(decide ((b:Int)<((f.data.map A6).length:Nat))&&decide ((l.length:Int)<(need s:Nat)))=false:=h4;simp at h4;omega
 have hNB:NB=l:=by
  rw[hnbd,hl];congr 1;rw[hl]at hll h4;rw[List.length_append]at hll h4;exact(C4l hb (by omega) (by omega)).symm
 subst hNB;skip
 (conv=>whnf);refine⟨fun h5=>?_,fun h5=>?_⟩
 ·have h5:NB.length<need s:=by have h5:decide ((NB.length:Int)<(need s:Nat))=true:=h5
                               simp at h5;omega
  have hd:(f,false)=Bh f j s:=by rw[hnn,hcw];simp[h5]
  skip;refine⟨f,by(repeat' (first|refine By ?_ ?_|refine C2 ?_|refine Bs ?_|refine C0 ?_|exact rfl))<;>simp[rdI,rdO,rdE,rdB,rdN,rdS,rdD,rdW,tkM],fun _=>hsm,?_⟩;skip;rw[fin hd];exact⟨trivial,⟨⟨rfl,by simp[tkM]⟩,⟨rfl,by simp[tkM]⟩,trivial⟩,rfl,trivial⟩
 have h5:¬NB.length<need s:=by have h5:decide ((NB.length:Int)<(need s:Nat))=false:=h5
                               simp at h5;omega
 have hd:(⟨f.nodes.set j (A4j n s NB),ND⟩,true)=Bh f j s:=by rw[hnn,hcw];simp[h5]
 skip;refine B2
  (fun((k,bl,dt):Nat×List Int×List Str)=>⟨[(1,⟨none,.int .i64 j⟩),(2,⟨none,.str s⟩),(3,⟨none,.bx 0 0⟩),(6,⟨none,.bx 1 0⟩),(8,⟨none,.bx 2 0⟩),(9,⟨none,.view 3 [] 0 (O6 f).length⟩),(10,⟨none,.int .i64 (need s)⟩),(11,⟨none,.view 4 [] 0 bl.length⟩),(14,⟨none,.int .i64 k⟩)],[(0,.own 2 [At f]),(1,.own 2 [[.own 5 [],.own 1 []]]),(2,.own 2 [[.own 5 (f.nodes.map B1),.own 1 (dt.map A6)]]),(3,.own 1 ((O6 f).map Ae)),(4,.own 1 (bl.map Ae))],5⟩)
  (fun(k,l,d')=>k≤need s∧l=NB∧d'=Sk s NB k d) (fun x=>need s - x.1) (0,NB,d) ?_ ⟨Nat.zero_le _,rfl,rfl⟩ ?_
 ·(refine⟨?_,?_,rfl⟩<;>repeat' (first|exact rfl|exact trivial|refine⟨?_,?_⟩|fail)<;>(conv=>whnf))
 rintro⟨k,l,d'⟩ ⟨hk,rfl,hd'⟩
 (conv=>whnf);refine⟨fun h6=>?_,fun h6=>?_⟩
 ·have h6:k<need s:=by have h6:decide ((k:Int)<(need s:Nat))=true:=h6
                       simp at h6;omega
  obtain⟨p1,p2,p3⟩:=C2q hs80 h6;have hb:=C9c (l:=l) (k:=k) (by omega);have hps:=A2h s l d k;rw[←hd',A1j]at hps;generalize l.getD k 0=b at hb hps;have hb2:=hnb b (List.mem_of_getElem? hb);have hdl2:=Y6 s l d k;rw[←hd']at hdl2;obtain⟨x,hx⟩:=B7 (l:=d') (i:=b.toNat) (by omega);repeat((conv=>whnf);first|refine⟨_,w64 (bb),?_⟩|refine⟨bb,?_⟩|refine⟨Ae b,fun _=>by rw[Nat.zero_add];exact Ao hb,?_⟩)
  refine⟨((s.length:Int),k),rfl,fun _=>⟨by show(0:Int)≤(s.length:Int);omega,by show(s.length:Int)≤80;omega,by show k≤1000000;omega⟩,?_⟩;repeat((conv=>whnf);first|refine⟨(by kernel_rfl:Bu _ _=true),?_⟩|refine⟨_,w64 (bb),?_⟩|refine⟨fun _=>⟨bb,bb,bb⟩,?_⟩|refine⟨bb,?_⟩|refine⟨A6 x,by rw[Nat.zero_add];exact Ao hx,?_⟩)
  refine Bt (k+1,l,d'.set b.toNat ((s.drop (k*16)).take (A1b s.length k).toNat)) ?_ ⟨h6,rfl,hps.symm⟩ (by first|omega|(simp;done)|(simp;omega))
  (refine⟨?_,?_,rfl⟩<;>repeat' (first|exact rfl|exact trivial|refine⟨?_,?_⟩|fail)<;>(conv=>whnf))
  all_goals (rw[List.map_set,show 0+b.toNat=b.toNat from Nat.zero_add _,show((k:Int)*16+A1b (s.length:Int) k).toNat - ((k:Int)*16).toNat=(A1b (s.length:Int) k).toNat by omega,show((k:Int)*16).toNat=k*16 by omega];rfl)
 have h6:k=need s:=by have h6:decide ((k:Int)<(need s:Nat))=false:=h6
                      simp at h6;omega
 subst h6;repeat((conv=>whnf);first|refine⟨bb,?_⟩|refine⟨B1 n,by rw[Nat.zero_add];exact Ao hn,?_⟩|refine⟨fun _=>⟨by omega,by rw[List.length_set,List.length_map];omega⟩,?_⟩|refine⟨(B1 n).set (0+3) (AV.int IntKind.i64 (s.length:Int)),by simp[hil],?_⟩)
 rw[fin hd];refine⟨trivial,⟨⟨rfl,?_⟩,⟨rfl,?_⟩,trivial⟩,rfl,trivial⟩
 ·simp[List.map_set,B1,A4j,setCells,List.take_of_length_le,tkM]
 ·show _=ND.map A6
  rw[hndd,←hd'];simp[tkM]
theorem Rp:Au Tryz.prog 171 Do:=Al (Bx _ _) (FOk.cons No (FOk.cons Vk (FOk.cons Vj (FOk.cons A03 (FOk.cons S6 FOk.nil))))) mixed Tryz.func171 rfl Tryz.call171 (by decide) (by kernel_rfl) A1x (by intro _ (y:(Fs×Int×Str)) _;exact⟨by simp[Do,con,A9,A8,AV.noRd,A7,Ab,A5,A6,Ae,Ag,Ak,Ay,At,B1,B3],by simp[Do,con,A9,A8,AV.noRd,A7,Ab,A5,A6,Ae,Ag,Ak,Ay,At,B1,B3]⟩) (by intro(y:(Fs×Int×Str)) _;first|(simp[Do,con,A9,A8,Ad,AV.free,A2,A3,A1,A6,Ae,Ag,Ak,Ay,At,B1,B3];done)|(obtain⟨_,_⟩:=y;simp[Do,con,A9,A8,Ad,AV.free,A2,A3,A1,A6,Ae,Ag,Ak,Ay,At,B1,B3];done)|(obtain⟨_,_,_⟩:=y;simp[Do,con,A9,A8,Ad,AV.free,A2,A3,A1,A6,Ae,Ag,Ak,Ay,At,B1,B3];done))
def L4:Bd:={Do with sh:=true,res:=fun((f,i,s):Fs×Int×Str)=>.tup [.agg (At (Bh f i s).1),.bool (Bh f i s).2]}
theorem Mm:Au Tryz.prog 171 L4:=J2 _ Rp (fun _=>rfl) rfl (fun(f,i,s) _=>⟨rfl,by show 2≤16;omega,by simp only[Do,con,frz,Ml,B3,At,List.map_cons,List.map_nil,Ni,rdW,rdS]⟩)
def Fz(d:Nat):Bd:=con [.rd [some 5,some 1],mC,mC,mS 1] false (Fs×Nat×List Int) (fun⟨f,i,s⟩=>[.agg (At f),.int .i64 i,.int .i64 (6 - (d:Int)),.rd 1 (s.map Ae)]) (fun x=>d≠0∧d≤6∧S4 x.1∧x.2.1<x.1.nodes.length∧Pf x.1 x.2.2) (fun⟨f,i,s⟩=>.tup [.own 1 ((Hy f (d - 1) i s).1.map Ae),.bool (Hy f (d - 1) i s).2])
def B1u(d:Nat):Env:=⟨A4 B5,A4 [(159,Fz d),(160,Ei)],[0,1,2,3,4,8,9,10,11,12,13,14,15,16,36,44,53,58,79,99,111]⟩
theorem B27(d:Nat):B6 (B1u d) (Av Tryz.f159) Tryz.f159.results.toList (Fz (d+1)):=by
 rintro⟨f,i,s⟩ hx;obtain⟨_,hd6,hsh,hi,hs⟩:d+1≠0∧d+1≤6∧S4 f∧i<f.nodes.length∧Pf f s:=hx;have hsm:=hsh.sm;have hnl:=hsm.1;have hnn:=hsh.nn;obtain⟨hs1,hs2⟩:=hs;refine⟨trivial,?_⟩;have fin:∀{r:List Int×Bool},r=Hy f d i s→(Fz (d+1)).res (f,i,s)=.tup [.own 1 (r.1.map Ae),.bool r.2]:=fun h=>by rw[h];rfl
 obtain⟨v,hv⟩:=B7 (l:=s) (i:=i) (by omega);have hv1:s.getD i 0=v:=by rw[List.getD_eq_getElem?_getD,hv];rfl
 have hvb:=hs2 i;rw[hv1]at hvb;have hbp:Qa s i=s.set i (v+1):=by rw[Qa,hv1]
 have hbl:(Qa s i).length=s.length:=by rw[Qa,List.length_set]
 have hbi:(Qa s i).getD i 0=v+1:=by rw[hbp,Ux,if_pos ⟨rfl,by omega⟩]
 have hbi2:(Qa s i)[i]? =some (v+1):=by rw[hbp];exact List.getElem?_set_self (by omega)
 obtain⟨n,hn⟩:=B7 hi;have hkn:=P7 hn;have q1:(List.take 0 (List.drop 0 ([]:List (List AV)))++s.map Ae)[0+((i:Int)).toNat]? =some (Ae v):=by simp[hv]
 have q2:((List.take 0 (List.drop 0 ([]:List (List AV)))++s.map Ae).set (0+((i:Int)).toNat) ((Ae v).set 0 (.int .i64 (v+1))))[0+((i:Int)).toNat]? =some (Ae (v+1)):=by
  simp only[List.take_zero,List.nil_append,Nat.zero_add,Int.toNat_natCast];rw[List.getElem?_set_self (by rw[List.length_map];omega)];rfl
 have hend:List.take ((List.take 0 (List.drop 0 ([]:List (List AV)))).length+(s.map Ae).length) (List.drop 0 ((List.take 0 (List.drop 0 ([]:List (List AV)))++s.map Ae).set (0+((i:Int)).toNat) ((Ae v).set 0 (.int .i64 (v+1)))))=(s.set i (v+1)).map Ae:=by simp[List.map_set,Ae,List.take_of_length_le]
 repeat((conv=>whnf);first|refine⟨fun h=>h,?_⟩|refine⟨_,w64 (bb),?_⟩|refine⟨bb,?_⟩|refine⟨Ae v,fun _=>q1,?_⟩|refine⟨Ae v,q1,?_⟩|refine⟨Ae (v+1),fun _=>q2,?_⟩)
 (conv=>whnf);refine⟨fun h1=>?_,fun h1=>?_⟩
 ·have h1:(decide (v+1>1)||decide (6 - ((d+1:Nat):Int)>4))=true:=h1
  have hd:(Qa s i,false)=Hy f d i s:=by
   cases d with
   |zero=>rfl
   |succ d=>
    have:v+1>1:=by simp at h1;omega
    rw[Hy,hbi,if_pos this]
  skip;rw[fin hd];refine⟨trivial,⟨rfl,?_⟩,rfl,trivial⟩;rw[hbp];exact hend
 have h1:(decide (v+1>1)||decide (6 - ((d+1:Nat):Int)>4))=false:=h1;obtain⟨e,rfl⟩:∃e,d=e+1:=⟨d - 1,by simp at h1;omega⟩
 have hv1':¬v+1>1:=by simp at h1;omega
 have hsg:Hy f (e+1) i s=if Lt f i !=2 then(Qa s i,true)else match Iu f i with
  |none=>(Qa s i,false)
  |some l=>W5 (Hy f e) f i l (Qa s i):=by rw[Hy,hbi,if_neg hv1']<;>(cases Iu f i<;>rfl)
 rw[hkn]at hsg;repeat((conv=>whnf);refine⟨Ay n,fun _=>⟨by omega,Ao hn⟩,?_⟩)
 (conv=>whnf);refine⟨fun h2=>?_,fun h2=>?_⟩
 ·have h2:(n.kind !=2)=true:=h2
  have hd:(Qa s i,true)=Hy f (e+1) i s:=by rw[hsg,if_pos h2]
  skip;rw[fin hd];refine⟨trivial,⟨rfl,?_⟩,rfl,trivial⟩;rw[hbp];exact hend
 have h2:(n.kind !=2)=false:=h2;rw[if_neg (by rw[h2];decide)]at hsg;have hrl:=P5 hsh i;skip;refine⟨(f,i),by(repeat' (first|refine By ?_ ?_|refine C2 ?_|refine Bs ?_|refine C0 ?_|exact rfl))<;>simp[rdI,rdO,rdE,rdB,rdN,rdS,rdD,rdW,tkM],fun _=>⟨hsm,hsh.inr,hi,by show(Js f i).length≤_;omega⟩,?_⟩;skip
 (conv=>whnf);refine⟨fun h3=>?_,fun h3=>?_⟩
 ·have h3:(!(Iu f i).isSome)=true:=h3
  have hd:(Qa s i,false)=Hy f (e+1) i s:=by rw[hsg];simp at h3;rw[h3]
  skip;rw[fin hd];refine⟨trivial,⟨rfl,?_⟩,rfl,trivial⟩;rw[hbp];exact hend
 have h3:(!(Iu f i).isSome)=false:=h3;have hdn:=Wy (f:=f) (i:=i) (by simpa using h3);have hlo:=Rf hdn;have hll:=Oz hlo;rw[hdn]at hsg;generalize hl:(Iu f i).getD []=l at hsg hdn hlo hll;have hem:=fun x (hx:x∈l)=>(Jk hlo hx).2;have hb0:=C2o ⟨hs1,hs2⟩ (by rw[hbi];exact hv1');skip;refine B2 (fun((k,o):Nat×List Int)=>⟨[(1,⟨none,.int .i64 i⟩),(2,⟨none,.int .i64 (6 - ((e+1+1:Nat):Int))⟩),(4,⟨none,.bx 0 0⟩),(10,⟨none,.view 1 [] 0 o.length⟩),(11,⟨none,.view 2 [] 0 l.length⟩),(13,⟨none,.int .i64 k⟩)],[(0,.own 2 [At f]),(1,.own 1 (o.map Ae)),(2,.own 2 (l.map Ak))],3⟩)
  (fun(k,o)=>k≤l.length∧Pf f o∧W5 (Hy f e) f i (l.drop k) o=Hy f (e+1) i s) (fun x=>l.length - x.1) (0,Qa s i) ?_ ⟨Nat.zero_le _,hb0,by rw[List.drop_zero,hsg]⟩ ?_
 ·(refine⟨?_,?_,rfl⟩<;>repeat' (first|exact rfl|exact trivial|refine⟨?_,?_⟩|fail)<;>(conv=>whnf))
  all_goals first|(rw[hbl];simp;done)|(simp;done)|(rw[hbp];simp[List.map_set,Ae])
 rintro⟨k,o⟩ ⟨hk,ho,hI⟩;have hol:=ho.1
 (conv=>whnf);refine⟨fun h4=>?_,fun h4=>?_⟩
 ·have h4:k<l.length:=by have h4:decide ((k:Int)<((l.length:Nat):Int))=true:=h4
                         simp at h4;omega
  obtain⟨b,hb⟩:=B7 h4;obtain⟨hb1,hb9⟩:=hem b (List.mem_of_getElem? hb);have hdr:l.drop k=b::l.drop (k+1):=by
   rw[List.drop_eq_getElem_cons h4];rw[List.getElem?_eq_getElem h4]at hb;rw[Option.some.inj hb]
  rw[hdr,W5]at hI;have hg:∀{A:Bool},Cy (some (!(decide (b.node≥(((f.nodes.map Ay).length:Nat):Int)))))→(0:Int)≤b.node∧(f.nodes.map Ay)[b.node.toNat]? =some (Ay (f.nodes.getD b.node.toNat .zero)):=by
   intro A h;have h:(!(decide (b.node≥(((f.nodes.map Ay).length:Nat):Int))))=true:=h;rw[List.length_map]at h;simp at h;refine⟨by omega,Ao ?_⟩;rw[List.getD_eq_getElem?_getD,List.getElem?_eq_getElem (by omega)];rfl
  repeat((conv=>whnf);first|refine⟨fun h=>h,?_⟩|refine⟨bb,?_⟩|refine⟨Ak b,fun _=>by rw[Nat.zero_add];exact Ao hb,?_⟩|refine⟨Ay (f.nodes.getD b.node.toNat .zero),fun h=>hg (A:=true) h,?_⟩)
  have hbE:C73 f i b=(decide (b.node≥(f.nodes.length:Int))||(f.nodes.getD b.node.toNat .zero).kind==0||(b.name==hid&&(i !=0||(f.nodes.getD b.node.toNat .zero).kind !=1))):=rfl
  (conv=>whnf);refine⟨fun h5=>?_,fun h5=>?_⟩
  ·have h5:(decide (b.node≥(((f.nodes.map Ay).length:Nat):Int))||(f.nodes.getD b.node.toNat .zero).kind==0)=true:=h5
   rw[List.length_map]at h5;rw[h5,Bool.true_or]at hbE;rw[hbE,if_pos rfl]at hI;skip;rw[fin hI];refine⟨trivial,⟨rfl,?_⟩,rfl,trivial⟩;simp[tkM]
  have h5:(decide (b.node≥(((f.nodes.map Ay).length:Nat):Int))||(f.nodes.getD b.node.toNat .zero).kind==0)=false:=h5;rw[List.length_map]at h5;rw[h5,Bool.false_or]at hbE;have hbl2:b.node<f.nodes.length:=by
   rw[Bool.or_eq_false_iff]at h5;simpa using h5.1
  obtain⟨y,hy⟩:=B7 (l:=f.nodes) (i:=b.node.toNat) (by omega);have hy2:f.nodes.getD b.node.toNat .zero=y:=by rw[List.getD_eq_getElem?_getD,hy];rfl
  rw[hy2]at hbE;repeat((conv=>whnf);first|refine⟨fun h=>h,?_⟩|refine⟨bb,?_⟩|refine⟨Ak b,fun _=>by rw[Nat.zero_add];exact Ao hb,?_⟩|refine⟨Ay y,fun _=>⟨by omega,Ao hy⟩,?_⟩)
  (conv=>whnf);refine⟨fun h6=>?_,fun h6=>?_⟩
  ·have h6:(b.name==hid&&(i !=0||y.kind !=1))=true:=by
    have h6:(b.name==hid&&((((i:Int))!=0)||y.kind !=1))=true:=h6;rw[show(((i:Int))!=0)=(i !=0) by rw[Bool.eq_iff_iff];simp]at h6;exact h6
   rw[h6]at hbE;rw[hbE,if_pos rfl]at hI;skip;rw[fin hI];refine⟨trivial,⟨rfl,?_⟩,rfl,trivial⟩;simp[tkM]
  have h6:(b.name==hid&&(i !=0||y.kind !=1))=false:=by
   have h6:(b.name==hid&&((((i:Int))!=0)||y.kind !=1))=false:=h6;rw[show(((i:Int))!=0)=(i !=0) by rw[Bool.eq_iff_iff];simp]at h6;exact h6
  rw[h6]at hbE;rw[hbE,if_neg (by decide)]at hI;repeat((conv=>whnf);refine⟨_,w64 (bb),?_⟩)
  refine⟨(f,b.node.toNat,o),by
   refine By ?_ (By ?_ (By ?_ (By ?_ rfl)))
   ·exact by(repeat' (first|refine By ?_ ?_|refine C2 ?_|refine Bs ?_|refine C0 ?_|exact rfl))<;>simp[rdI,rdO,rdE,rdB,rdN,rdS,rdD,rdW,tkM]
   ·show AV.int .i64 b.node=.int .i64 ((b.node.toNat:Nat):Int);rw[Int.toNat_of_nonneg (by omega)]
   ·show AV.int .i64 (6 - ((e+1+1:Nat):Int)+1)=.int .i64 (6 - ((e+1:Nat):Int));congr 1;omega
   ·exact by(repeat' (first|refine By ?_ ?_|refine C2 ?_|refine Bs ?_|refine C0 ?_|exact rfl))<;>simp[rdI,rdO,rdE,rdB,rdN,rdS,rdD,rdW,tkM],fun _=>⟨by omega,by show e+1≤6;omega,hsh,by show b.node.toNat<f.nodes.length;omega,ho⟩,?_⟩
  have hso:=A59 (d:=e) (i:=b.node.toNat) ho;skip
  (conv=>whnf);refine⟨fun h7=>?_,fun h7=>?_⟩
  ·have h7:(!(Hy f e b.node.toNat o).2)=true:=h7
   rw[if_neg (by simpa using h7)]at hI;skip;rw[fin hI];refine⟨trivial,⟨rfl,?_⟩,rfl,trivial⟩;simp[tkM]
  have h7:(Hy f e b.node.toNat o).2=true:=by
   have h7:(!(Hy f e b.node.toNat o).2)=false:=h7;simpa using h7
  rw[if_pos h7]at hI;repeat((conv=>whnf);refine⟨_,w64 (bb),?_⟩)
  refine Bt (k+1,(Hy f e b.node.toNat o).1) ?_ ⟨h4,hso h7,hI⟩ (by first|omega|(simp;done)|(simp;omega))
  (refine⟨?_,?_,rfl⟩<;>repeat' (first|exact rfl|exact trivial|refine⟨?_,?_⟩|fail)<;>(conv=>whnf))
  all_goals simp
 have h4:k=l.length:=by have h4:decide ((k:Int)<((l.length:Nat):Int))=false:=h4
                        simp at h4;omega
 subst h4;rw[List.drop_length,W5]at hI;skip;rw[fin hI];refine⟨trivial,⟨rfl,?_⟩,rfl,trivial⟩;simp
theorem Vt:∀d:Nat,Au Tryz.prog 159 (Fz d)
 |0=>fun x hx=>absurd rfl hx.1
 |d+1=>Al (Bx _ _) (FOk.cons (Vt d) (FOk.cons Kq FOk.nil)) mixed Tryz.func159 rfl Tryz.call159 (Nat.le_of_ble_eq_true rfl) (by kernel_rfl) (B27 d) (by intro _ (y:(Fs×Nat×List Int)) _;exact⟨by simp[Fz,con,A9,A8,AV.noRd,A7,Ab,A5,A6,Ae,Ag,Ak,Ay,At,B1,B3],by simp[Fz,con,A9,A8,AV.noRd,A7,Ab,A5,A6,Ae,Ag,Ak,Ay,At,B1,B3]⟩) (by intro(y:(Fs×Nat×List Int)) _;first|(simp[Fz,con,A9,A8,Ad,AV.free,A2,A3,A1,A6,Ae,Ag,Ak,Ay,At,B1,B3];done)|(obtain⟨_,_⟩:=y;simp[Fz,con,A9,A8,Ad,AV.free,A2,A3,A1,A6,Ae,Ag,Ak,Ay,At,B1,B3];done)|(obtain⟨_,_,_⟩:=y;simp[Fz,con,A9,A8,Ad,AV.free,A2,A3,A1,A6,Ae,Ag,Ak,Ay,At,B1,B3];done))
def Gj:Bd:=con [.rd [some 5,some 1]] true Fs (fun f=>[.agg (At f)]) smF (fun f=>.bool (Ki f))
def B98:Env:=⟨A4 B5,A4 [(158,F7),(159,Fz 6)],[0,1,2,3,4,5,8,19,24,39]⟩
theorem B7s:B6 B98 (Av Tryz.f120) Tryz.f120.results.toList Gj:=by
 intro(f:Fs) hsm;have hsm:smF f:=hsm;have hnl:=hsm.1;refine⟨trivial,?_⟩;skip;refine⟨f,by(repeat' (first|refine By ?_ ?_|refine C2 ?_|refine Bs ?_|refine C0 ?_|exact rfl))<;>simp[rdI,rdO,rdE,rdB,rdN,rdS,rdD,rdW,tkM],fun _=>hsm,?_⟩;skip
 (conv=>whnf);refine⟨fun h1=>?_,fun h1=>?_⟩
 ·have h1:(!Ez f)=true:=h1
  skip;exact⟨trivial,eqB (by show false=Ki f;rw[Ki];simp at h1;rw[h1];rfl)⟩
 have h1:Ez f=true:=by have h1:(!Ez f)=false:=h1
                       simpa using h1
 have hsh:=A02 h1;have hnn:=hsh.nn;have hfo:Ki f=((Hy f 5 0 (zrs f.nodes.length)).2&&(List.range f.nodes.length).all fun i=>((Hy f 5 0 (zrs f.nodes.length)).1.getD i 0==1)==(Lt f i !=0)):=by rw[Ki,h1,Bool.true_and]
 repeat((conv=>whnf);refine⟨bb,?_⟩)
 refine⟨(f,0,zrs f.nodes.length),by
  refine By ?_ (By rfl (By rfl (By (Bs ?_) rfl)))
  ·exact by(repeat' (first|refine By ?_ ?_|refine C2 ?_|refine Bs ?_|refine C0 ?_|exact rfl))<;>simp[rdI,rdO,rdE,rdB,rdN,rdS,rdD,rdW,tkM]
  ·refine(congrArg D1 (?_:_=(zrs f.nodes.length).map Ae)).trans (rdN _)
   simp[zrs,Ae],fun _=>⟨by omega,by omega,hsh,by show 0<f.nodes.length;omega,B8q f⟩,?_⟩
 have hso:=A59 (d:=5) (i:=0) (B8q f);repeat((conv=>whnf);refine⟨(by kernel_rfl:Bu _ _=true),?_⟩)
 (conv=>whnf);refine⟨fun h2=>?_,fun h2=>?_⟩
 ·have h2:(!(Hy f 5 0 (zrs f.nodes.length)).2)=true:=h2
  skip;exact⟨trivial,eqB (by show false=Ki f;rw[hfo];simp at h2;rw[h2];rfl)⟩
 have h2:(Hy f 5 0 (zrs f.nodes.length)).2=true:=by
  have h2:(!(Hy f 5 0 (zrs f.nodes.length)).2)=false:=h2;simpa using h2
 rw[h2,Bool.true_and]at hfo;have hso:=(hso h2).1;skip;refine B2 (fun i:Nat=>⟨[(1,⟨none,.bx 0 0⟩),(3,⟨none,.view 1 [] 0 (Hy f 5 0 (zrs f.nodes.length)).1.length⟩),(5,⟨none,.int .i64 i⟩)],[(0,.own 2 [At f]),(1,.own 1 ((Hy f 5 0 (zrs f.nodes.length)).1.map Ae))],2⟩) (fun i=>i≤f.nodes.length∧∀j,j<i→(((Hy f 5 0 (zrs f.nodes.length)).1.getD j 0==1)==(Lt f j !=0))=true) (fun i=>f.nodes.length - i) 0 ?_ ⟨Nat.zero_le _,fun j hj=>absurd hj (Nat.not_lt_zero _)⟩ ?_
 ·(refine⟨?_,?_,rfl⟩<;>repeat' (first|exact rfl|exact trivial|refine⟨?_,?_⟩|fail)<;>(conv=>whnf))
  all_goals simp
 rintro i ⟨hi,hI⟩
 (conv=>whnf);refine⟨fun h3=>?_,fun h3=>?_⟩
 ·have h3:i<f.nodes.length:=by simpa using h3
  obtain⟨n,hn⟩:=B7 h3;obtain⟨v,hv⟩:=B7 (l:=(Hy f 5 0 (zrs f.nodes.length)).1) (i:=i) (by omega);have hv1:(Hy f 5 0 (zrs f.nodes.length)).1.getD i 0=v:=by rw[List.getD_eq_getElem?_getD,hv];rfl
  have hkn:=P7 hn;repeat((conv=>whnf);first|refine⟨(by kernel_rfl:Bu _ _=true),?_⟩|refine⟨bb,?_⟩|refine⟨Ay n,fun _=>⟨by omega,Ao hn⟩,?_⟩|refine⟨Ae v,fun _=>by rw[Nat.zero_add];exact Ao hv,?_⟩)
  (conv=>whnf);refine⟨fun h4=>?_,fun h4=>?_⟩
  ·have h4:(!((v==1)==(n.kind !=0)))=true:=h4
   skip;refine⟨trivial,eqB ?_⟩;show false=Ki f;rw[hfo,X1 (List.mem_range.2 h3) (by rw[hv1,hkn];simpa using h4)]
  have h4:((v==1)==(n.kind !=0))=true:=by
   have h4:(!((v==1)==(n.kind !=0)))=false:=h4;simpa using h4
  repeat((conv=>whnf);refine⟨_,w64 (bb),?_⟩)
  refine Bt (i+1) ?_ ⟨h3,fun j hj=>?_⟩ (by first|omega|(simp;done)|(simp;omega))
  ·(refine⟨?_,?_,rfl⟩<;>repeat' (first|exact rfl|exact trivial|refine⟨?_,?_⟩|fail)<;>(conv=>whnf))
  ·rcases Nat.lt_or_ge j i with h|h
   ·exact hI j h
   ·rw[show j=i by omega,hv1,hkn];exact h4
 have h3:i=f.nodes.length:=by have:¬(i<f.nodes.length):=by simpa using h3
                              omega
 subst h3;skip;exact⟨trivial,eqB (by show true=Ki f;rw[hfo,List.all_eq_true.2 fun j hj=>hI j (List.mem_range.1 hj)])⟩
theorem N1:Au Tryz.prog 120 Gj:=Al (Bx _ _) (FOk.cons Pc (FOk.cons (Vt 6) FOk.nil)) mixed Tryz.func120 rfl Tryz.call120 (by decide) (by kernel_rfl) B7s (by intro _ (y:Fs) _;exact⟨by simp[Gj,con,A9,A8,AV.noRd,A7,Ab,A5,A6,Ae,Ag,Ak,Ay,At,B1,B3],by simp[Gj,con,A9,A8,AV.noRd,A7,Ab,A5,A6,Ae,Ag,Ak,Ay,At,B1,B3]⟩) (by intro(y:Fs) _;first|(simp[Gj,con,A9,A8,Ad,AV.free,A2,A3,A1,A6,Ae,Ag,Ak,Ay,At,B1,B3];done)|(obtain⟨_,_⟩:=y;simp[Gj,con,A9,A8,Ad,AV.free,A2,A3,A1,A6,Ae,Ag,Ak,Ay,At,B1,B3];done)|(obtain⟨_,_,_⟩:=y;simp[Gj,con,A9,A8,Ad,AV.free,A2,A3,A1,A6,Ae,Ag,Ak,Ay,At,B1,B3];done))
end Go.GH
namespace Go.GH
open Go
def Qz:Nat→Nat
 |0=>0
 |1=>0
 |d+2=>26*(1+Qz (d+1))
def smI(t:Tr):Prop:=∀x,x∈t→x.path.length≤4194304∧x.data.length≤4194304
def B9i(l:List Str):Prop:=l.length≤20∧∀s,s∈l→s.length≤6
theorem C8d{l:List Str}{m:Nat}(h:∀s,s∈l→s.length≤m):(l.map List.length).sum≤l.length*m:=by
 induction l with
 |nil=>simp
 |cons a l ih=>
  have h1:=ih fun s hs=>h s (by simp[hs]);have h2:=h a (by simp);simp only[List.map_cons,List.sum_cons,List.length_cons,Nat.add_mul];omega
theorem B8j{l:List Str}(h:B9i l):l.length+(l.map List.length).sum≤140:=by
 have h1:=C8d h.2;have h2:l.length*6≤20*6:=Nat.mul_le_mul_right _ h.1;have:=h.1;omega
theorem Yw{l:List Str}{s:Str}(h:B9i l)(hl:l.length≤19)(hs:s.length≤6):B9i (l++[s]):=⟨by simp;omega,fun a ha=>by
 rcases List.mem_append.1 ha with ha|ha
 ·exact h.2 a ha
 ·rw[List.mem_singleton]at ha;subst ha;exact hs⟩
theorem C8e{t:Tr}{x:It}(h:smI t)(hx:x.path.length≤4194304∧x.data.length≤4194304):smI (Hq t x):=fun y hy=>by
 rcases A7x hy with rfl|h2
 ·exact hx
 ·exact h y h2
theorem B2i{rec:Nat→List Str→Tr→Tr}{f:Fs}{ns:List Str}{t:Tr}{e:En}{c:Nat}(hsh:S4 f)(hn:B9i ns)(hnl:ns.length≤19)(he:e.name.length≤6)
 (hr:∀t,smI t→(rec e.node.toNat (ns++[e.name]) t).length≤t.length+c∧smI (rec e.node.toNat (ns++[e.name]) t))(ht:smI t):
 (L7 rec f ns t e).length≤t.length+(1+c)∧smI (L7 rec f ns t e):=by
 have hp:(E3 (ns++[e.name])).length≤4194304:=by
  have h1:=Yl (ns++[e.name]);have h2:=B8j (Yw hn hnl he);omega
 unfold L7;split
 ·exact⟨by omega,ht⟩
 split
 ·have hq:=C8e (x:=⟨E3 (ns++[e.name]),2,[],0⟩) ht ⟨hp,by simp⟩
  have hl:=T8 (x:=⟨E3 (ns++[e.name]),2,[],0⟩) (l:=t);obtain⟨h1,h2⟩:=hr _ hq;exact⟨by omega,h2⟩
 ·have hq:=C8e (x:=⟨E3 (ns++[e.name]),Lt f e.node.toNat,Js f e.node.toNat,(f.nodes.getD e.node.toNat .zero).time⟩) ht ⟨hp,by have:=P5 hsh e.node.toNat;show(Js f e.node.toNat).length≤_;omega⟩
  have hl:=T8 (x:=⟨E3 (ns++[e.name]),Lt f e.node.toNat,Js f e.node.toNat,(f.nodes.getD e.node.toNat .zero).time⟩) (l:=t);exact⟨by omega,hq⟩
theorem A17{f:Fs}(hsh:S4 f):∀{d i:Nat} {ns:List Str} {t:Tr},Yj f d i→B9i ns→ns.length+d≤20→smI t→(I6 f d i ns t).length≤t.length+Qz d∧smI (I6 f d i ns t)
 |0,i,ns,t,h,hn,hd,ht=>absurd rfl (Lw h).1
 |d+1,i,ns,t,h,hn,hd,ht=>by
  rw[I6];cases hl:Iu f i with
  |none=>simp only[Option.getD_none,List.foldl_nil];exact⟨by omega,ht⟩
  |some l=>
   have hm:=(Lw h).2 l hl;have hlo:=Rf hl;have hll:=Oz hlo;simp only[Option.getD_some];have key:∀(m:List En) (t:Tr),(∀e,e∈m→e∈l)→smI t→(m.foldl (L7 (I6 f d) f ns) t).length≤t.length+m.length*(1+Qz d)∧smI (m.foldl (L7 (I6 f d) f ns) t):=by
    intro m;induction m with
    |nil=>intro t _ ht;exact⟨by simp,ht⟩
    |cons e m ih=>
     intro t hmem ht;have he:=hmem e (by simp);have hen:=Qg (Jk hlo he).1;have hok:=(hm e he).2.2.2;rw[Nat.add_sub_cancel]at hok;have hns:=Yw hn (by omega) hen.2;obtain⟨h1,h2⟩:=B2i (rec:=I6 f d) (c:=Qz d) hsh hn (by omega) hen.2 (fun t ht=>A17 hsh hok hns (by simp;omega) ht) ht;obtain⟨h3,h4⟩:=ih _ (fun x hx=>hmem x (by simp[hx])) h2;refine⟨?_,h4⟩;rw[List.foldl_cons,List.length_cons,Nat.add_mul];omega
   obtain⟨h1,h2⟩:=key l t (fun e he=>he) ht;refine⟨?_,h2⟩;cases d with
   |zero=>
    have:l=[]:=by
     cases l with
     |nil=>rfl
     |cons e l=>exact absurd rfl (Lw (hm e (by simp)).2.2.2).1
    subst this;exact Nat.le_refl _
   |succ d=>
    have:l.length*(1+Qz (d+1))≤26*(1+Qz (d+1)):=Nat.mul_le_mul_right _ hll;show _≤t.length+26*(1+Qz (d+1));omega
theorem C48:∀{d:Nat},d≤5→Qz d≤475254
 |0,_|1,_|2,_|3,_|4,_|5,_=>by decide
theorem A0w(f:Fs):smT (Hf f)∧(Hf f).length≤475254:=by
 unfold Hf;split
 ·rename_i h
  obtain⟨hsh,_,hok⟩:=Rk h;obtain⟨h1,h2⟩:=A17 (ns:=[]) (t:=[]) hsh hok ⟨by simp,by simp⟩ (by simp) (fun x hx=>by cases hx);have:=C48 (d:=5) (by omega);simp only[List.length_nil]at h1;exact⟨⟨by omega,h2⟩,by omega⟩
 ·exact⟨⟨by simp,by simp⟩,by simp⟩
theorem A2f{f:Fs}{d:Nat}{ns:List Str}{l:List En}{k:Nat}{e:En}{t:Tr}(h:l[k]? =some e):(l.take (k+1)).foldl (L7 (I6 f d) f ns) t=L7 (I6 f d) f ns ((l.take k).foldl (L7 (I6 f d) f ns) t) e:=A7y h
theorem C0u{f:Fs}{e:Nat}{ns:List Str}{l:List En}{t0:Tr}(hsh:S4 f)(hn:B9i ns)(hnl:ns.length+(e+2)≤20)(hll:l.length≤26)(hlm:∀x,x∈l→x.name.length≤6∧1≤x.node∧x.node<f.nodes.length∧Yj f e x.node.toNat)(ht:smI t0)(htl:t0.length+Qz (e+1)≤4194304)(k:Nat)(hk:k≤l.length):
 ((l.take k).foldl (L7 (I6 f e) f ns) t0).length≤4194304∧(k<l.length→((l.take k).foldl (L7 (I6 f e) f ns) t0).length+(1+Qz e)≤4194304)∧smI ((l.take k).foldl (L7 (I6 f e) f ns) t0):=by
 have hc:l.length*(1+Qz e)≤Qz (e+1):=by
  cases e with
  |zero=>
   have:l=[]:=by
    cases l with
    |nil=>rfl
    |cons x l=>exact absurd rfl (Lw (hlm x (by simp)).2.2.2).1
   subst this;exact Nat.zero_le _
  |succ d=>exact Nat.mul_le_mul_right _ hll
 have key:∀k,k≤l.length→((l.take k).foldl (L7 (I6 f e) f ns) t0).length≤t0.length+k*(1+Qz e)∧smI ((l.take k).foldl (L7 (I6 f e) f ns) t0):=by
  intro k;induction k with
  |zero=>intro _;exact⟨by simp,ht⟩
  |succ k ih=>
   intro hk;obtain⟨h1,h2⟩:=ih (by omega);obtain⟨b,hb⟩:=B7 (l:=l) (i:=k) (by omega);obtain⟨q1,_,_,q4⟩:=hlm b (List.mem_of_getElem? hb);rw[A2f hb];obtain⟨h3,h4⟩:=B2i (rec:=I6 f e) (c:=Qz e) hsh hn (by omega) q1 (fun t ht=>A17 hsh q4 (Yw hn (by omega) q1) (by simp;omega) ht) h2;refine⟨?_,h4⟩;rw[Nat.add_mul];omega
 obtain⟨h1,h2⟩:=key k hk;have h3:k*(1+Qz e)≤l.length*(1+Qz e):=Nat.mul_le_mul_right _ hk;refine⟨by omega,fun hkl=>?_,h2⟩;have h4:(k+1)*(1+Qz e)≤l.length*(1+Qz e):=Nat.mul_le_mul_right _ hkl;rw[Nat.add_mul]at h4;omega
end Go.GH
namespace Go.Proofs
open Go.Shelf Go.RowKit Go.Lib Go.Sort
theorem Tryz.clone_none(a:Option Addr)(c:Nat)(w:World):Calls Tryz.prog 104 #[.slice a 0 c] w fun e w'=>(∃a',e=.returned (.slice a' 0 0))∧Below w.heap.size w w':=by
 have q22:∀(w:World) (a:Option Addr) (n c n' c':Nat),(binOp .eql 24 (.slice a n c) (.slice none n' c')).run Tryz.prog w=.ok (.bool a.isNone) w:=fun w a n c n' c'=>Lib.run_eql_slice_nil w _ _ a n c n' c' Tryz.underlying24;cases a with
 |none=>
  go_enter Tryz.func104,Tryz.ntmps104
  go_wp2
  go_ret
  exact⟨⟨none,rfl⟩,Below.refl _ _⟩
 |some q=>
  go_enter Tryz.func104,Tryz.ntmps104
  go_wp2
  go_ret
  exact⟨⟨_,rfl⟩,(Below.refl _ w).alloc (Nat.le_refl _) _⟩
theorem Tryz.byPath_calls(p d:ByteArray)(k t:Int)(p' d':ByteArray)(k' t':Int)(W:World):Calls Tryz.prog 67 #[.agg #[.string p,.int .i64 k,.string d,.int .i64 t],.agg #[.string p',.int .i64 k',.string d',.int .i64 t']] W fun e w'=>e=.returned (.int .i64 (Lib.compareBytes p.data.toList p'.data.toList))∧∃q os',w'=grow (W.drewN q) os':=by
 have hcon:=fun W'=>Tryz.strings_Compare p p' W';generalize Lib.compareBytes p.data.toList p'.data.toList=r at hcon⊢
 go_enter Tryz.func67,Tryz.ntmps67
 go_wp2_with (go_at_call 115;refine(hcon _).mono ?_;rintro e w' ⟨rfl,rfl⟩)
 go_ret
 exact⟨rfl,0,_,by rw[alloc_eq_grow,alloc_eq_grow,grow_grow];rfl⟩
end Go.Proofs
namespace Go.GH
open Go Go.Proofs
def Fh:Bd:=con [mS 4,.rd [none,none,none,none]] false (Tr×It) (fun⟨l,x⟩=>[.rd 4 (l.map Aa),.agg (Aa x)]) (fun x=>smT x.1) (fun x=>.own 4 ((Hq x.1 x.2).map Aa))
def B24:Env:=⟨A4 B5,A4 [],[0,1,3,4,5,6,7,12,26,38,47]⟩
theorem B1e:B6 B24 (Av Tryz.f68) Tryz.f68.results.toList Fh:=by
 rintro⟨l,x⟩ hs;obtain⟨hs1,hs2⟩:smT l:=hs;refine⟨trivial,?_⟩;skip;refine B2 (fun i:Nat=>⟨[(0,⟨none,.rd 4 (l.map Aa)⟩),(3,⟨none,.bx 0 0⟩),(5,⟨none,.view 1 [] 0 ((P2 (l.take i) x).1.map Aa).length⟩),(6,⟨none,.bool (P2 (l.take i) x).2⟩),(7,⟨none,.int .i64 i⟩)],[(1,.own 4 ((P2 (l.take i) x).1.map Aa)),(0,.own 4 [Aa x])],2⟩)
  (fun i=>i≤l.length) (fun i=>l.length - i) 0 ?_ (by omega) ?_
 ·(refine⟨?_,?_,rfl⟩<;>repeat' (first|exact rfl|exact trivial|refine⟨?_,?_⟩|fail)<;>(conv=>whnf))
  all_goals simp[P2]
 intro i hi;have hi:i≤l.length:=hi;have hlen:=B35 (x:=x) (l:=l.take i) (out:=[]) (d:=false);have hlen:(P2 (l.take i) x).1.length≤8388608:=by
  have h3:(l.take i).length≤l.length:=by simp;omega
  simp only[List.length_nil]at hlen;show(List.foldl (Cm x) ([],false) (l.take i)).1.length≤_;omega
 (conv=>whnf);refine⟨fun h2=>?_,fun h2=>?_⟩
 ·have h2:i<l.length:=by simpa using h2
  obtain⟨y,hy⟩:=B7 h2;have hnx:=C14 (x:=x) hy;generalize hst:P2 (l.take i) x=st at hlen hnx⊢;obtain⟨out,d⟩:=st;have hlen:out.length≤8388608:=hlen;repeat((conv=>whnf);first|refine⟨fun h=>h,?_⟩|refine⟨(by kernel_rfl:Bu _ _=true),?_⟩|refine⟨Aa y,fun _=>⟨by omega,Ao hy⟩,?_⟩)
  (conv=>whnf);refine⟨fun h3=>?_,fun h3=>?_⟩
  ·have h3:(!d&&Ce x.path y.path)=true:=h3
   repeat((conv=>whnf);first|refine⟨(by kernel_rfl:Bu _ _=true),?_⟩|refine⟨bb,?_⟩|refine⟨Ls (by rfl),?_⟩|refine⟨Aa y,fun _=>⟨by omega,Ao hy⟩,?_⟩)
   (conv=>whnf);refine⟨fun h4=>?_,fun h4=>?_⟩
   ·have h4:(!(y.path==x.path))=true:=h4
    have hn:Cm x (out,d) y=(out++[x]++[y],true):=by simp only[Cm,h3,h4,if_true,Bool.true_or]
    repeat((conv=>whnf);first|refine⟨_,w64 (bb),?_⟩|refine⟨bb,?_⟩|refine⟨Ls (by rfl),?_⟩|refine⟨Aa y,fun _=>⟨by omega,Ao hy⟩,?_⟩)
    refine Bt (i+1) ?_ h2 (by first|omega|(simp;done)|(simp;omega));rw[hnx,hn]
    (refine⟨?_,?_,rfl⟩<;>repeat' (first|exact rfl|exact trivial|refine⟨?_,?_⟩|fail)<;>(conv=>whnf))
    all_goals first|(simp[Aa];done)|(simp[Aa];rw[List.take_of_length_le (by simp)];simp)
   ·have h4:(!(y.path==x.path))=false:=h4
    have hn:Cm x (out,d) y=(out++[x],true):=by simp[Cm,h3,h4]
    repeat((conv=>whnf);refine⟨_,w64 (bb),?_⟩)
    refine Bt (i+1) ?_ h2 (by first|omega|(simp;done)|(simp;omega));rw[hnx,hn]
    (refine⟨?_,?_,rfl⟩<;>repeat' (first|exact rfl|exact trivial|refine⟨?_,?_⟩|fail)<;>(conv=>whnf))
    all_goals simp[Aa]
  have h3:(!d&&Ce x.path y.path)=false:=h3;repeat((conv=>whnf);first|refine⟨(by kernel_rfl:Bu _ _=true),?_⟩|refine⟨Aa y,fun _=>⟨by omega,Ao hy⟩,?_⟩)
  (conv=>whnf);refine⟨fun h4=>?_,fun h4=>?_⟩
  ·have h4:(!(y.path==x.path))=true:=h4
   have hn:Cm x (out,d) y=(out++[y],d):=by simp only[Cm,h3,h4];simp
   repeat((conv=>whnf);first|refine⟨_,w64 (bb),?_⟩|refine⟨bb,?_⟩|refine⟨Ls (by rfl),?_⟩|refine⟨Aa y,fun _=>⟨by omega,Ao hy⟩,?_⟩)
   refine Bt (i+1) ?_ h2 (by first|omega|(simp;done)|(simp;omega));rw[hnx,hn]
   (refine⟨?_,?_,rfl⟩<;>repeat' (first|exact rfl|exact trivial|refine⟨?_,?_⟩|fail)<;>(conv=>whnf))
   all_goals simp[Aa]
  ·have h4:(!(y.path==x.path))=false:=h4
   have hn:Cm x (out,d) y=(out,d):=by simp[Cm,h3,h4]
   repeat((conv=>whnf);refine⟨_,w64 (bb),?_⟩)
   refine Bt (i+1) ?_ h2 (by first|omega|(simp;done)|(simp;omega));rw[hnx,hn]
   (refine⟨?_,?_,rfl⟩<;>repeat' (first|exact rfl|exact trivial|refine⟨?_,?_⟩|fail)<;>(conv=>whnf))
   all_goals simp[Aa]
 ·have h2:i=l.length:=by
   have:¬i<l.length:=by simpa using h2
   omega
  subst h2;rw[List.take_length]at hlen⊢;have hp:Hq l x=if(P2 l x).2 then(P2 l x).1 else(P2 l x).1++[x]:=rfl
  generalize hst:P2 l x=st at hlen hp⊢;obtain⟨out,d⟩:=st;have hlen:out.length≤8388608:=hlen;skip
  (conv=>whnf);refine⟨fun h5=>?_,fun h5=>?_⟩
  ·have h5:d=false:=by simpa using h5
   repeat((conv=>whnf);first|refine⟨bb,?_⟩|refine⟨Ls (by rfl),?_⟩)
   exact⟨trivial,P1 (by show _=(Hq l x).map Aa;rw[hp,h5];simp[Aa];rw[List.take_of_length_le (by simp)])⟩
  ·have h5:d=true:=by simpa using h5
   skip;exact⟨trivial,P1 (by show _=(Hq l x).map Aa;rw[hp,h5];simp)⟩
theorem Na:Au Tryz.prog 68 Fh:=Al (Bx _ _) FOk.nil mixed Tryz.func68 rfl Tryz.call68 (by decide) (by kernel_rfl) B1e (by intro _ (y:(Tr×It)) _;exact⟨by simp[Fh,con,A9,A8,AV.noRd,A7,Ab,A5,A6,Aa],by simp[Fh,con,A9,A8,AV.noRd,A7,Ab,A5,A6,Aa]⟩) (by intro(y:(Tr×It)) _;first|(simp[Fh,con,A9,A8,Ad,AV.free,A2,A3,A1,A6,Aa];done)|(obtain⟨_,_⟩:=y;simp[Fh,con,A9,A8,Ad,AV.free,A2,A3,A1,A6,Aa];done)|(obtain⟨_,_,_⟩:=y;simp[Fh,con,A9,A8,Ad,AV.free,A2,A3,A1,A6,Aa];done))
def Ds:Bd:=con [mS 4] false Tr (fun t=>[rdT t]) smT (fun t=>.agg [.own 4 (t.map Aa)])
def A69:Env:=⟨A4 B5,A4 [],[0,1,2]⟩
theorem A6o:B6 A69 (Av Tryz.f54) Tryz.f54.results.toList Ds:=by
 intro(t:Tr) hs;obtain⟨hs1,hs2⟩:smT t:=hs;refine⟨trivial,?_⟩;repeat((conv=>whnf);refine⟨bb,?_⟩)
 refine⟨trivial,⟨rfl,?_⟩,trivial⟩;simp
theorem J9:Au Tryz.prog 54 Ds:=Al (Bx _ _) FOk.nil mixed Tryz.func54 rfl Tryz.call54 (by decide) (by kernel_rfl) A6o (by intro _ (y:Tr) _;exact⟨by simp[Ds,con,A9,A8,AV.noRd,A7,Ab,A5,A6,Aa],by simp[Ds,con,A9,A8,AV.noRd,A7,Ab,A5,A6,Aa]⟩) (by intro(y:Tr) _;first|(simp[Ds,con,A9,A8,Ad,AV.free,A2,A3,A1,A6,rdT,Aa];done)|(obtain⟨_,_⟩:=y;simp[Ds,con,A9,A8,Ad,AV.free,A2,A3,A1,A6,rdT,Aa];done)|(obtain⟨_,_,_⟩:=y;simp[Ds,con,A9,A8,Ad,AV.free,A2,A3,A1,A6,rdT,Aa];done))
def Q2:Bd:=con [mS 4] false Tr (fun t=>[.rd 4 (t.map Aa)]) (fun t=>smT t∧t≠[]) (fun t=>.own 4 (t.map Aa))
def C57:Env:=⟨A4 B5,A4 [],[0,2,4]⟩
theorem C4y:B6 C57 (Av Tryz.f104) Tryz.f104.results.toList Q2:=by
 intro(t:Tr) hs;obtain⟨⟨hs1,hs2⟩,hne⟩:smT t∧t≠[]:=hs;refine⟨trivial,?_⟩;skip;conv=>whnf
 obtain⟨x,r,rfl⟩:∃x r,t=x::r:=by cases t with|nil=>exact absurd rfl hne|cons x r=>exact⟨x,r,rfl⟩
 refine⟨⟨_,_,rfl⟩,?_⟩;skip;conv=>whnf
 refine⟨fun h=>absurd h (by decide),fun _=>?_⟩;repeat((conv=>whnf);refine⟨bb,?_⟩)
 exact⟨trivial,P1 (by simp)⟩
theorem C2y:Au Tryz.prog 104 Q2:=Al (Bx _ _) FOk.nil mixed Tryz.func104 rfl Tryz.call104 (by decide) (by kernel_rfl) C4y (by intro _ (y:Tr) _;exact⟨by simp[Q2,con,A9,A8,AV.noRd,A7,Ab,A5,A6,Aa],by simp[Q2,con,A9,A8,AV.noRd,A7,Ab,A5,A6,Aa]⟩) (by intro(y:Tr) _;first|(simp[Q2,con,A9,A8,Ad,AV.free,A2,A3,A1,A6,Aa];done)|(obtain⟨_,_⟩:=y;simp[Q2,con,A9,A8,Ad,AV.free,A2,A3,A1,A6,Aa];done)|(obtain⟨_,_,_⟩:=y;simp[Q2,con,A9,A8,Ad,AV.free,A2,A3,A1,A6,Aa];done))
def Lu:Bd:=con [mS 4] false Tr (fun t=>[.rd 4 (t.map Aa)]) smT (fun t=>.own 4 (t.map Aa))
theorem Vo:Au Tryz.prog 104 Lu:=by
 intro t ht;cases t with
 |nil=>
  refine C37 (s:=4) (c:=Lu) (x:=[]) rfl rfl rfl rfl rfl Tryz.call104 ?_;intro a cap w;refine(Tryz.clone_none a cap w).mono ?_;rintro e w' ⟨⟨a',rfl⟩,hb⟩;exact⟨a',rfl,hb⟩
 |cons x r=>exact C2y (x::r) ⟨ht,by simp⟩
def F0:Bd:=con [mS 4] false Tr (fun t=>[rdT t]) smT (fun t=>.agg [.own 4 (t.map Aa)])
def A15:Env:=⟨A4 B5,A4 [(104,Lu)],[0,1,2]⟩
theorem A0o:B6 A15 (Av Tryz.f58) Tryz.f58.results.toList F0:=by
 intro(t:Tr) hs;refine⟨trivial,?_⟩;skip;refine⟨t,by refine C94 ?_;simp[rdI],fun _=>hs,?_⟩;skip;refine⟨trivial,⟨rfl,?_⟩,trivial⟩;simp
theorem Rc:Au Tryz.prog 58 F0:=Al (Bx _ _) (FOk.cons Vo FOk.nil) mixed Tryz.func58 rfl Tryz.call58 (by decide) (by kernel_rfl) A0o (by intro _ (y:Tr) _;exact⟨by simp[F0,con,A9,A8,AV.noRd,A7,Ab,A5,A6,Aa],by simp[F0,con,A9,A8,AV.noRd,A7,Ab,A5,A6,Aa]⟩) (by intro(y:Tr) _;first|(simp[F0,con,A9,A8,Ad,AV.free,A2,A3,A1,A6,rdT,Aa];done)|(obtain⟨_,_⟩:=y;simp[F0,con,A9,A8,Ad,AV.free,A2,A3,A1,A6,rdT,Aa];done)|(obtain⟨_,_,_⟩:=y;simp[F0,con,A9,A8,Ad,AV.free,A2,A3,A1,A6,rdT,Aa];done))
def Eu:Bd:=con [.rd [some 5,some 1],mS 1] true (Fs×List Str) (fun⟨f,l⟩=>[.agg (At f),.rd 1 (l.map A6)]) (fun x=>Ki x.1=true∧x.2.length≤1048576) (fun⟨f,l⟩=>.int .i64 (Ej f 0 l))
def A95:Env:=⟨A4 B5,A4 [(160,Ei),(188,G3)],[0,1,2,4,5,6,7,8,12,22,30]⟩
theorem B1t:B6 A95 (Av Tryz.f164) Tryz.f164.results.toList Eu:=by
 rintro⟨f,l⟩ hx;obtain⟨hok,hl⟩:Ki f=true∧l.length≤1048576:=hx;obtain⟨hsh,_,hat⟩:=Rk hok;have hsm:=hsh.sm;have hnn:=hsh.nn;refine⟨trivial,?_⟩;have fin:∀{r:Int},r=Ej f 0 l→Eu.res (f,l)=.int .i64 r:=fun h=>by rw[h];rfl
 skip;refine B2 (fun((k,i):Nat×Nat)=>⟨[(1,⟨none,.rd 1 (l.map A6)⟩),(2,⟨none,.bx 0 0⟩),(5,⟨none,.int .i64 i⟩),(6,⟨none,.int .i64 k⟩)],[(0,.own 2 [At f])],1⟩)
  (fun(k,i)=>k≤l.length∧i<f.nodes.length∧(∃d,Yj f d i)∧Ej f i (l.drop k)=Ej f 0 l) (fun x=>l.length - x.1) (0,0) ?_ ⟨Nat.zero_le _,by show 0<f.nodes.length;omega,⟨5,hat⟩,by rw[List.drop_zero]⟩ ?_
 ·(refine⟨?_,?_,rfl⟩<;>repeat' (first|exact rfl|exact trivial|refine⟨?_,?_⟩|fail)<;>(conv=>whnf))
 rintro⟨k,i⟩ ⟨hk,hi,⟨d,hd⟩,hI⟩
 (conv=>whnf);refine⟨fun h1=>?_,fun h1=>?_⟩
 ·have h1:k<l.length:=by simpa using h1
  obtain⟨s,hs⟩:=B7 h1;have hdr:l.drop k=s::l.drop (k+1):=by
   rw[List.drop_eq_getElem_cons h1];rw[List.getElem?_eq_getElem h1]at hs;rw[Option.some.inj hs]
  rw[hdr,Ej]at hI;have hrl:=P5 hsh i;skip;refine⟨(f,i),by(repeat' (first|refine By ?_ ?_|refine C2 ?_|refine Bs ?_|refine C0 ?_|exact rfl))<;>simp[rdI,rdO,rdE,rdB,rdN,rdS,rdD,rdW,tkM],fun _=>⟨hsm,hsh.inr,hi,by show(Js f i).length≤_;omega⟩,?_⟩;skip
  (conv=>whnf);refine⟨fun h3=>?_,fun h3=>?_⟩
  ·have h3:(!(Iu f i).isSome)=true:=h3
   have h3:Iu f i=none:=by simpa using h3
   rw[h3]at hI;skip;rw[fin hI];exact⟨trivial,rfl⟩
  have h3:(!(Iu f i).isSome)=false:=h3;have hdn:=Wy (f:=f) (i:=i) (by simpa using h3);have hlo:=Rf hdn;have hll:=Oz hlo;rw[hdn]at hI;generalize (Iu f i).getD []=m at hI hdn hlo hll;simp only at hI;repeat((conv=>whnf);refine⟨A6 s,fun _=>⟨by omega,Ao hs⟩,?_⟩)
  refine⟨(m,s),by(repeat' (first|refine By ?_ ?_|refine C2 ?_|refine Bs ?_|refine C0 ?_|exact rfl))<;>simp[rdI,rdO,rdE,rdB,rdN,rdS,rdD,rdW,tkM],fun _=>by show m.length≤_;omega,?_⟩;have hdm:=S9 (l:=m) (s:=s);generalize hq:Ge m s=q at hI hdm;skip
  (conv=>whnf);refine⟨fun h4=>?_,fun h4=>?_⟩
  ·have h4:decide (Ge m s<0)=true:=h4
   rw[hq]at h4;rw[if_pos (by simpa using h4)]at hI;skip;rw[fin hI];exact⟨trivial,rfl⟩
  have h4:decide (Ge m s<0)=false:=h4;rw[hq]at h4;have h4:¬q<0:=by simpa using h4
  rw[if_neg h4]at hI;obtain⟨hqn,hqd⟩:q.toNat<f.nodes.length∧Yj f (d - 1) q.toNat:=by
   rcases hdm with e|⟨e,he,_,e1⟩
   ·omega
   ·have:=(Lw hd).2 m hdn e he
    rw[e1];have h9:=(Jk hlo he).2;exact⟨by omega,this.2.2.2⟩
  repeat((conv=>whnf);refine⟨_,w64 (bb),?_⟩)
  refine Bt (k+1,q.toNat) ?_ ⟨h1,hqn,⟨_,hqd⟩,hI⟩ (by first|omega|(simp;done)|(simp;omega))
  (refine⟨?_,?_,rfl⟩<;>repeat' (first|exact rfl|exact trivial|refine⟨?_,?_⟩|fail)<;>(conv=>whnf))
  all_goals (show Ge m s=((q.toNat:Nat):Int);rw[hq];omega)
 have h1:k=l.length:=by have:¬(k<l.length):=by simpa using h1
                        omega
 subst h1;rw[List.drop_length,Ej]at hI;skip;rw[fin hI];exact⟨trivial,rfl⟩
theorem N7:Au Tryz.prog 164 Eu:=Al (Bx _ _) (FOk.cons Kq (FOk.cons Uf FOk.nil)) mixed Tryz.func164 rfl Tryz.call164 (by decide) (by kernel_rfl) B1t (by intro _ (y:(Fs×List Str)) _;exact⟨by simp[Eu,con,A9,A8,AV.noRd,A7,Ab,A5,A6,Ae,Ag,Ak,Ay,At,B1,B3,Aa],by simp[Eu,con,A9,A8,AV.noRd,A7,Ab,A5,A6,Ae,Ag,Ak,Ay,At,B1,B3,Aa]⟩) (by intro(y:(Fs×List Str)) _;first|(simp[Eu,con,A9,A8,Ad,AV.free,A2,A3,A1,A6,Aa,Ae,Ag,Ak,Ay,At,B1,B3];done)|(obtain⟨_,_⟩:=y;simp[Eu,con,A9,A8,Ad,AV.free,A2,A3,A1,A6,Aa,Ae,Ag,Ak,Ay,At,B1,B3];done)|(obtain⟨_,_,_⟩:=y;simp[Eu,con,A9,A8,Ad,AV.free,A2,A3,A1,A6,Aa,Ae,Ag,Ak,Ay,At,B1,B3];done))
def Er(d:Nat):Bd:=con [.rd [some 5,some 1],mC,mS 1,.co [some 4]] false (Fs×Nat×List Str×Tr) (fun⟨f,i,ns,t⟩=>[.agg (At f),.int .i64 i,.rd 1 (ns.map A6),.own 4 (t.map Aa)]) (fun x=>d≠0∧d≤6∧S4 x.1∧Yj x.1 (d - 1) x.2.1∧x.2.1<x.1.nodes.length∧B9i x.2.2.1∧x.2.2.1.length+d≤20∧smI x.2.2.2∧x.2.2.2.length+Qz (d - 1)≤4194304) (fun⟨f,i,ns,t⟩=>.own 4 ((I6 f (d - 1) i ns t).map Aa))
def A45(d:Nat):Env:=⟨A4 B5,A4 [(121,Er d),(68,Fh),(119,Fy),(130,Fx),(160,Ei),(161,Hb)],[0,1,2,3,4,8,9,11,12,13,14,24,32,58]⟩
theorem A3f(d:Nat):B6 (A45 d) (Av Tryz.f121) Tryz.f121.results.toList (Er (d+1)):=by
 rintro⟨f,i,ns,t0⟩ hx;obtain⟨_,hd6,hsh,hat,hi,hns,hnd,hti,htl⟩:d+1≠0∧d+1≤6∧S4 f∧Yj f d i∧i<f.nodes.length∧B9i ns∧ns.length+(d+1)≤20∧smI t0∧t0.length+Qz d≤4194304:=hx;obtain⟨e,rfl⟩:∃e,d=e+1:=⟨d - 1,by have:=(Lw hat).1;omega⟩
 have hsm:=hsh.sm;have hnn:=hsh.nn;have hmm:=(Lw hat).2;rw[Nat.add_sub_cancel]at hmm;have hnsl:=hns.1;refine⟨trivial,?_⟩;have fin:∀{r:Tr},r=I6 f (e+1) i ns t0→(Er (e+1+1)).res (f,i,ns,t0)=.own 4 (r.map Aa):=fun h=>by rw[h];rfl
 have hrl:=P5 hsh i;skip;refine⟨(f,i),by(repeat' (first|refine By ?_ ?_|refine C2 ?_|refine Bs ?_|refine C0 ?_|exact rfl))<;>simp[rdI,rdO,rdE,rdB,rdN,rdS,rdD,rdW,tkM],fun _=>⟨hsm,hsh.inr,hi,by show(Js f i).length≤_;omega⟩,?_⟩;have hbn:I6 f (e+1) i ns t0=((Iu f i).getD []).foldl (L7 (I6 f e) f ns) t0:=rfl;obtain⟨hll,hlm⟩:((Iu f i).getD []).length≤26∧∀x,x∈(Iu f i).getD []→x.name.length≤6∧1≤x.node∧x.node<f.nodes.length∧Yj f e x.node.toNat:=by
  cases hdn:Iu f i with
  |none=>exact⟨by simp,fun x hx=>by cases hx⟩
  |some l=>
   have hlo:=Rf hdn;refine⟨Oz hlo,fun x hx=>?_⟩;have h1:=hmm l hdn x hx;have h2:=Jk hlo hx;exact⟨(Qg h2.1).2,h2.2.1,h1.1,h1.2.2.2⟩
 generalize hl:(Iu f i).getD []=l at hbn hll hlm;have hsz:=C0u hsh hns (by omega) hll hlm hti htl;have htk:=fun{k:Nat} {x:En} (h:l[k]? =some x)=>A2f (f:=f) (d:=e) (ns:=ns) (t:=t0) h;skip;refine B2 (fun((k,t):Nat×Tr)=>⟨[(1,⟨none,.int .i64 i⟩),(2,⟨none,.rd 1 (ns.map A6)⟩),(3,⟨none,.view 1 [] 0 t.length⟩),(4,⟨none,.bx 2 0⟩),(9,⟨none,.view 3 [] 0 l.length⟩),(11,⟨none,.int .i64 k⟩)],[(1,.own 4 (t.map Aa)),(2,.own 2 [At f]),(3,.own 2 (l.map Ak))],4⟩)
  (fun(k,t)=>k≤l.length∧t=(l.take k).foldl (L7 (I6 f e) f ns) t0) (fun x=>l.length - x.1) (0,t0) ?_ ⟨Nat.zero_le _,by simp⟩ ?_
 ·(refine⟨?_,?_,rfl⟩<;>repeat' (first|exact rfl|exact trivial|refine⟨?_,?_⟩|fail)<;>(conv=>whnf))
  all_goals simp[hl]
 rintro⟨k,t⟩ ⟨hk,ht⟩
 (conv=>whnf);refine⟨fun h1=>?_,fun h1=>?_⟩
 ·have h1:k<l.length:=by have h1:decide ((k:Int)<((l.length:Nat):Int))=true:=h1
                         simp at h1;omega
  obtain⟨b,hb⟩:=B7 h1;obtain⟨hb6,hb1,hbl,hbk⟩:=hlm b (List.mem_of_getElem? hb);obtain⟨_,hs2,hs3⟩:=hsz k hk;have hs2:=hs2 h1;have hnx:=htk hb;rw[←ht]at hs2 hs3 hnx;have hsmt:smT t:=⟨by omega,hs3⟩
  obtain⟨y,hy⟩:=B7 (l:=f.nodes) (i:=b.node.toNat) (by omega);have hy2:f.nodes.getD b.node.toNat .zero=y:=by rw[List.getD_eq_getElem?_getD,hy];rfl
  have hky:Lt f b.node.toNat=y.kind:=P7 hy;unfold L7 at hnx;rw[hky,hy2]at hnx;have hnn2:=Yw hns (by omega) hb6;have hpl:=B8j hnn2;repeat((conv=>whnf);first|refine⟨bb,?_⟩|refine⟨Ak b,fun _=>by rw[Nat.zero_add];exact Ao hb,?_⟩)
  (conv=>whnf);refine⟨fun h2=>?_,fun h2=>?_⟩
  ·have h2:(b.name==hid)=true:=h2
   rw[if_pos h2]at hnx;repeat((conv=>whnf);refine⟨_,w64 (bb),?_⟩)
   refine Bt (k+1,t) ?_ ⟨h1,hnx.symm⟩ (by first|omega|(simp;done)|(simp;omega))
   (refine⟨?_,?_,rfl⟩<;>repeat' (first|exact rfl|exact trivial|refine⟨?_,?_⟩|fail)<;>(conv=>whnf))
  have h2:(b.name==hid)=false:=h2;rw[if_neg (by rw[h2];decide)]at hnx;repeat((conv=>whnf);first|refine⟨(by kernel_rfl:Bu _ _=true),?_⟩|refine⟨bb,?_⟩|refine⟨Ak b,fun _=>by rw[Nat.zero_add];exact Ao hb,?_⟩|refine⟨Ay y,fun _=>⟨by omega,Ao hy⟩,?_⟩)
  refine⟨ns,by(repeat' (first|refine By ?_ ?_|refine C2 ?_|refine Bs ?_|refine C0 ?_|exact rfl))<;>simp[rdI,rdO,rdE,rdB,rdN,rdS,rdD,rdW,tkM],fun _=>by show ns.length≤_;omega,?_⟩;repeat((conv=>whnf);first|refine⟨(by kernel_rfl:Bu _ _=true),?_⟩|refine⟨bb,?_⟩|refine⟨fun(r:List AV) hr c hc=>by simp[A6]at hr;(try subst hr);simp at hc;(try subst hc);rfl,?_⟩|refine⟨Ak b,fun _=>by rw[Nat.zero_add];exact Ao hb,?_⟩)
  refine⟨ns++[b.name],by
   refine By (Bs ?_) rfl;refine(congrArg D1 (?_:_=(ns++[b.name]).map A6)).trans (rdS _);simp[tkM,A6,List.take_of_length_le],fun _=>by show(ns++[b.name]).length+((ns++[b.name]).map List.length).sum<4194304;omega,?_⟩
  repeat((conv=>whnf);refine⟨(by kernel_rfl:Bu _ _=true),?_⟩)
  have hnode:AV.int .i64 b.node=.int .i64 ((b.node.toNat:Nat):Int):=by rw[Int.toNat_of_nonneg (by omega)]
  have hpo:(E3 (ns++[b.name])).length≤4194304:=by
   have:=Yl (ns++[b.name]);omega
  (conv=>whnf);refine⟨fun h3=>?_,fun h3=>?_⟩
  ·have h3:(y.kind==2)=true:=h3
   have hk2:y.kind=2:=by simpa using h3
   rw[if_pos h3]at hnx;have hpl1:=T8 (x:=⟨E3 (ns++[b.name]),2,[],0⟩) (l:=t);have hpi:=C8e (x:=⟨E3 (ns++[b.name]),2,[],0⟩) hs3 ⟨hpo,by simp⟩;repeat((conv=>whnf);first|refine⟨bb,?_⟩|refine⟨Ak b,fun _=>by rw[Nat.zero_add];exact Ao hb,?_⟩)
   refine⟨(t,⟨E3 (ns++[b.name]),2,[],0⟩),by
    refine By (Bs ?_) (By ?_ rfl)
    ·refine(congrArg D1 (?_:_=t.map Aa)).trans (rdI _)
     simp[tkM]
    ·show AV.agg [.str (E3 (ns++[b.name])),.int .i64 y.kind,.str [],.int .i64 0]=_
     rw[hk2];rfl,fun _=>hsmt,?_⟩
   skip;refine⟨(f,b.node.toNat,ns++[b.name],Hq t ⟨E3 (ns++[b.name]),2,[],0⟩),by
    refine By ?_ (By hnode (By (Bs ?_) (By (C0 ?_) rfl)))
    ·exact by(repeat' (first|refine By ?_ ?_|refine C2 ?_|refine Bs ?_|refine C0 ?_|exact rfl))<;>simp[rdI,rdO,rdE,rdB,rdN,rdS,rdD,rdW,tkM]
    ·refine(congrArg D1 (?_:_=(ns++[b.name]).map A6)).trans (rdS _)
     simp[tkM,A6,List.take_of_length_le]
    ·simp[tkM],fun _=>⟨by omega,by show e+1≤6;omega,hsh,hbk,by show b.node.toNat<f.nodes.length;omega,hnn2,by show(ns++[b.name]).length+(e+1)≤20;simp;omega,hpi,by show(Hq t _).length+Qz e≤4194304;omega⟩,?_⟩
   repeat((conv=>whnf);first|refine⟨(by kernel_rfl:Bu _ _=true),?_⟩|refine⟨_,w64 (bb),?_⟩)
   refine Bt (k+1,I6 f e b.node.toNat (ns++[b.name]) (Hq t ⟨E3 (ns++[b.name]),2,[],0⟩)) ?_ ⟨h1,hnx.symm⟩ (by first|omega|(simp;done)|(simp;omega))
   (refine⟨?_,?_,rfl⟩<;>repeat' (first|exact rfl|exact trivial|refine⟨?_,?_⟩|fail)<;>(conv=>whnf))
   all_goals simp
  have h3:(y.kind==2)=false:=h3;rw[if_neg (by rw[h3];decide)]at hnx;have hrl:=P5 hsh b.node.toNat;repeat((conv=>whnf);first|refine⟨bb,?_⟩|refine⟨Ak b,fun _=>by rw[Nat.zero_add];exact Ao hb,?_⟩)
  refine⟨(f,b.node.toNat),By (by(repeat' (first|refine By ?_ ?_|refine C2 ?_|refine Bs ?_|refine C0 ?_|exact rfl))<;>simp[rdI,rdO,rdE,rdB,rdN,rdS,rdD,rdW,tkM]) (By hnode rfl),fun _=>⟨hsm,hsh.inr,by show b.node.toNat<f.nodes.length;omega⟩,?_⟩;repeat((conv=>whnf);refine⟨(by kernel_rfl:Bu _ _=true),?_⟩)
  refine⟨(t,⟨E3 (ns++[b.name]),y.kind,Js f b.node.toNat,y.time⟩),by
   refine By (Bs ?_) (By ?_ rfl)
   ·refine(congrArg D1 (?_:_=t.map Aa)).trans (rdI _)
    simp[tkM]
   ·rfl,fun _=>hsmt,?_⟩
  repeat((conv=>whnf);refine⟨_,w64 (bb),?_⟩)
  refine Bt (k+1,Hq t ⟨E3 (ns++[b.name]),y.kind,Js f b.node.toNat,y.time⟩) ?_ ⟨h1,hnx.symm⟩ (by first|omega|(simp;done)|(simp;omega))
  (refine⟨?_,?_,rfl⟩<;>repeat' (first|exact rfl|exact trivial|refine⟨?_,?_⟩|fail)<;>(conv=>whnf))
  all_goals simp
 have h1:k=l.length:=by have h1:decide ((k:Int)<((l.length:Nat):Int))=false:=h1
                        simp at h1;omega
 subst h1;rw[List.take_length]at ht;skip;rw[fin (ht.trans hbn.symm)];exact⟨trivial,rfl,by simp⟩
theorem Td:∀d:Nat,Au Tryz.prog 121 (Er d)
 |0=>fun x hx=>absurd rfl hx.1
 |d+1=>Al (Bx _ _) (FOk.cons (Td d) (FOk.cons Na (FOk.cons Pz (FOk.cons Qu (FOk.cons Kq (FOk.cons Vd FOk.nil)))))) mixed Tryz.func121 rfl Tryz.call121 (Nat.le_of_ble_eq_true rfl) (by kernel_rfl) (A3f d) (by intro _ (y:(Fs×Nat×List Str×Tr)) _;exact⟨by simp[Er,con,A9,A8,AV.noRd,A7,Ab,A5,A6,Ae,Ag,Ak,Ay,At,B1,B3,Aa],by simp[Er,con,A9,A8,AV.noRd,A7,Ab,A5,A6,Ae,Ag,Ak,Ay,At,B1,B3,Aa]⟩) (by intro(y:(Fs×Nat×List Str×Tr)) _;first|(simp[Er,con,A9,A8,Ad,AV.free,A2,A3,A1,A6,Aa,Ae,Ag,Ak,Ay,At,B1,B3];done)|(obtain⟨_,_⟩:=y;simp[Er,con,A9,A8,Ad,AV.free,A2,A3,A1,A6,Aa,Ae,Ag,Ak,Ay,At,B1,B3];done)|(obtain⟨_,_,_⟩:=y;simp[Er,con,A9,A8,Ad,AV.free,A2,A3,A1,A6,Aa,Ae,Ag,Ak,Ay,At,B1,B3];done))
def H8:Bd:=con [.rd [some 5,some 1]] false Fs (fun f=>[.agg (At f)]) smF (fun f=>.agg [.own 4 ((Hf f).map Aa)])
def B0y:Env:=⟨A4 B5,A4 [(120,Gj),(121,Er 6)],[0,1,2,5]⟩
theorem B0t:B6 B0y (Av Tryz.f78) Tryz.f78.results.toList H8:=by
 intro(f:Fs) hsm;have hsm:smF f:=hsm;refine⟨trivial,?_⟩;have fin:∀{r:Tr},r=Hf f→H8.res f=.agg [.own 4 (r.map Aa)]:=fun h=>by rw[h];rfl
 skip;refine⟨f,by(repeat' (first|refine By ?_ ?_|refine C2 ?_|refine Bs ?_|refine C0 ?_|exact rfl))<;>simp[rdI,rdO,rdE,rdB,rdN,rdS,rdD,rdW,tkM],fun _=>hsm,?_⟩;skip
 (conv=>whnf);refine⟨fun h1=>?_,fun h1=>?_⟩
 ·have h1:(!Ki f)=true:=h1
  skip;rw[fin (r:=[]) (by rw[Hf];simp at h1;rw[h1];rfl)];exact⟨trivial,⟨rfl,rfl⟩,trivial⟩
 have h1:Ki f=true:=by have h1:(!Ki f)=false:=h1
                       simpa using h1
 obtain⟨hsh,_,hok⟩:=Rk h1;have hnn:=hsh.nn;skip;refine⟨(f,0,[],[]),by
  refine By ?_ (By rfl (By rfl (By rfl rfl)));exact by(repeat' (first|refine By ?_ ?_|refine C2 ?_|refine Bs ?_|refine C0 ?_|exact rfl))<;>simp[rdI,rdO,rdE,rdB,rdN,rdS,rdD,rdW,tkM],fun _=>⟨by omega,by omega,hsh,hok,by show 0<f.nodes.length;omega,⟨by simp,by simp⟩,by simp,(fun x hx=>absurd hx (by simp)),by show 0+Qz 5≤4194304;decide⟩,?_⟩
 skip;rw[fin (r:=I6 f 5 0 [] []) (by rw[Hf,if_pos h1])];refine⟨trivial,⟨rfl,?_⟩,trivial⟩;simp
theorem A63:Au Tryz.prog 78 H8:=Al (Bx _ _) (FOk.cons N1 (FOk.cons (Td 6) FOk.nil)) mixed Tryz.func78 rfl Tryz.call78 (by decide) (by kernel_rfl) B0t (by intro _ (y:Fs) _;exact⟨by simp[H8,con,A9,A8,AV.noRd,A7,Ab,A5,A6,Ae,Ag,Ak,Ay,At,B1,B3,Aa],by simp[H8,con,A9,A8,AV.noRd,A7,Ab,A5,A6,Ae,Ag,Ak,Ay,At,B1,B3,Aa]⟩) (by intro(y:Fs) _;first|(simp[H8,con,A9,A8,Ad,AV.free,A2,A3,A1,A6,Aa,Ae,Ag,Ak,Ay,At,B1,B3];done)|(obtain⟨_,_⟩:=y;simp[H8,con,A9,A8,Ad,AV.free,A2,A3,A1,A6,Aa,Ae,Ag,Ak,Ay,At,B1,B3];done)|(obtain⟨_,_,_⟩:=y;simp[H8,con,A9,A8,Ad,AV.free,A2,A3,A1,A6,Aa,Ae,Ag,Ak,Ay,At,B1,B3];done))
end Go.GH
