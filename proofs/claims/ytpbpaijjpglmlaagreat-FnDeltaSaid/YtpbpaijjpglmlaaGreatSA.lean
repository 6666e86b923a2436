import Derived.Test.YtpbpaijjpglmlaaGreatGE
import Derived.Shelf.Strings.OnBuilder
import Derived.Test.YtpbpaijjpglmlaaGreatChecked
import Derived.Shelf.Strings.Builder1
import Derived.Shelf.Strings.Builder2
import Derived.Shelf.Small.Bits
import Derived.Shelf.Small.Strs
import Derived.Shelf.Strings.BuilderF
import Derived.Shelf.Strings.BuilderK
import Derived.Shelf.Strings.Builder2Cap
import Derived.Shelf.Strconv.Itoa0
import Derived.Shelf.Strings.Prefix
import Derived.Shelf.Bits.Mul64
import Derived.Shelf.Strings.Repeat
import Derived.Lib.ItoaNum
import Derived.Lib.Repeat
import Derived.Lib.AtoiAll
import Derived.Lib.Bytealg
import Derived.Test.YtpbpaijjpglmlaaGreatRows
import Derived.WalkKit
import Derived.ProofKit
import Derived.OpenShut
import Derived.ChangeOld
import Derived.Below
import Derived.SizedLaws
set_option linter.unusedVariables false
set_option linter.unusedSimpArgs false
set_option maxRecDepth 100000
set_option maxHeartbeats 4000000
noncomputable section
namespace Go.GH
open Go
abbrev Str:=List UInt8
def mC:Mz:=.rd [none]
def mS(k:Nat):Mz:=.rd [some k]
def con(ms:List Mz)(sc:Bool)(α:Type)(enc:α→List AV)(pre:α→Prop)(res:α→AV):Bd:=⟨ms,sc,false,α,enc,pre,res,fun _=>[],fun _=>True,false⟩
def A9(gw:World→Prop)(ms:List Mz)(sc:Bool)(α:Type)(enc:α→List AV)(pre:α→Prop)(res:α→AV):Bd:=⟨ms,sc,false,α,enc,pre,res,fun _=>[],gw,false⟩
def A8(sh:Bool)(ms:List Mz)(α:Type)(enc:α→List AV)(pre:α→Prop)(res:α→AV)(out:α→List AV):Bd:=⟨ms,false,sh,α,enc,pre,res,out,fun _=>True,false⟩
def Ad(ms:List Mz)(α:Type)(enc:α→List AV)(pre:α→Prop)(res:α→AV):Bd:=⟨ms,false,true,α,enc,pre,res,fun _=>[],fun _=>True,true⟩
def A6(s:Str):List AV:=[.str s]
def inB(x lo hi:Int):Bool:=decide (x≥lo)&&decide (x≤hi)
def Aq(c:UInt8):Str→List Str
 |[]=>[[]]
 |x::r=>if x=c then[]::Aq c r else match Aq c r with
  |h::t=>(x::h)::t
  |[]=>[[x]]
theorem Lf(c:UInt8):∀s,Aq c s≠[]
 |[]=>by simp[Aq]
 |x::r=>by
  unfold Aq;split
  ·simp
  ·split<;>simp
theorem U9{c:UInt8}:∀{a:Str},(∀x,x∈a→x≠c)→Aq c a=[a]
 |[],_=>rfl
 |x::r,h=>by
  rw[Aq,if_neg (h x (by simp)),U9 (a:=r) fun y hy=>h y (by simp[hy])]
theorem Ts{c:UInt8}{b:Str}:∀{a:Str},(∀x,x∈a→x≠c)→Aq c (a++c::b)=a::Aq c b
 |[],_=>by simp[Aq]
 |x::r,h=>by
  rw[List.cons_append,Aq,if_neg (h x (by simp)),Ts (a:=r) fun y hy=>h y (by simp[hy])]
theorem R9{c:UInt8}:∀(s:Str),(Aq c s).length≤s.length+1
 |[]=>by simp[Aq]
 |x::r=>by
  have:=R9 (c:=c) r;unfold Aq;split
  ·simp;omega
  ·split
   ·rename_i h t heq;rw[heq]at this;simp at this⊢;omega
   ·simp
theorem P0{c:UInt8}:∀(s:Str) (p:Str),p∈Aq c s→p.length≤s.length
 |[],p,h=>by simp[Aq]at h;subst h;simp
 |x::r,p,h=>by
  unfold Aq at h;split at h
  ·rcases List.mem_cons.1 h with rfl|h
   ·simp
   ·have:=P0 r p h;simp;omega
  ·split at h
   ·rename_i h' t heq
    rcases List.mem_cons.1 h with rfl|h
    ·have:=P0 (c:=c) r h' (by rw[heq];simp)
     simp;omega
    ·have:=P0 (c:=c) r p (by rw[heq];simp[h])
     simp;omega
   ·simp at h;subst h;simp
def A5c(b:UInt8):Bool:=(decide ((b.toNat:Int)≥97)&&decide ((b.toNat:Int)≤122))||(decide ((b.toNat:Int)≥48)&&decide ((b.toNat:Int)≤57))
theorem C8b(b:UInt8):((decide ((b.toNat:Int)<97)||decide ((b.toNat:Int)>122))&&(decide ((b.toNat:Int)<48)||decide ((b.toNat:Int)>57)))= !A5c b:=by
 unfold A5c;by_cases h1:(b.toNat:Int)<97<;>by_cases h2:(b.toNat:Int)>122<;>by_cases h3:(b.toNat:Int)<48<;>by_cases h4:(b.toNat:Int)>57<;>simp[h1,h2,h3,h4,Int.not_le.2,Int.not_lt.1]<;>omega
def D5(s:Str):Bool:=inB s.length 1 6&&s.all A5c
theorem Bk{α:Type}{l:List α}{i:Nat}{x:α}(h:l[i]? =some x):l.take (i+1)=l.take i++[x]:=by
 rw[List.take_add_one,h];rfl
@[simp]theorem take_map_len {α β:Type}(f:α→β)(l:List α):(l.map f).take l.length=l.map f:=by
 rw[List.take_of_length_le (by simp)]
theorem Q1{α:Type}{a b:List α}:(a++b).take (a.length+b.length)=a++b:=by
 rw[List.take_of_length_le (by simp)]
@[simp]theorem take_rest {α:Type}{l:List α}{k:Nat}:(l.drop k).take (l.length - k)=l.drop k:=by
 rw[List.take_of_length_le (by simp)]
theorem B7{α:Type}{l:List α}{i:Nat}(h:i<l.length):∃x,l[i]? =some x:=⟨l[i],List.getElem?_eq_getElem h⟩
theorem Dq{α:Type}{l:List α}{i:Nat}{x:α}(h:l[i]? =some x):i<l.length:=by
 rcases Nat.lt_or_ge i l.length with hl|hl
 ·exact hl
 ·rw[List.getElem?_eq_none hl]at h;cases h
theorem Ao{α β:Type}{l:List α}{f:α→β}{i:Nat}{x:α}(h:l[i]? =some x):(l.map f)[i]? =some (f x):=by simp[h]
theorem A5{α:Type}{f:α→List AV}{l:List α}:Ab (l.map f)↔∀a,a∈l→A7 (f a):=by
 induction l with
 |nil=>simp[Ab]
 |cons a l ih=>simp[Ab,ih]
theorem Kc{α:Type}{f:α→List AV}(h:∀a,Is (f a)=f a)(l:List α):D1 (l.map f)=l.map f:=by
 induction l with
 |nil=>rfl
 |cons a l ih=>simp[D1,ih,h]
theorem rdS(l:List Str):D1 (l.map A6)=l.map A6:=Kc (fun _=>rfl) l
theorem C5q(l:List Str)(a b:Nat):D1 (((l.map A6).drop a).take b)=((l.drop a).take b).map A6:=by
 rw[←List.map_drop,←List.map_take,rdS]
theorem eqB{a b:Bool}(h:a=b):Vw (.bool a) (.bool b):=by subst h;rfl
theorem Mu{k:IntKind}{a b:Int}(h:a=b):Vw (.int k a) (.int k b):=by subst h;rfl
theorem eqS{a b:Str}(h:a=b):Vw (.str a) (.str b):=by subst h;rfl
theorem Ls{rows:List (List AV)}(h:(rows.all fun r=>r.all fun c=> !c.isOwn)=true):∀(r:List AV),r∈rows→∀c,c∈r→c.isOwn=false:=by
 intro r hr c hc;have:=List.all_eq_true.1 (List.all_eq_true.1 h r hr) c hc;simpa using this
theorem lns:(∀{α:Type} (n:Nat) (l:List α),(l.take n).length=min n l.length)∧(∀{α:Type} (n:Nat) (l:List α),(l.drop n).length=l.length - n)∧(∀{α β:Type} (f:α→β) (l:List α),(l.map f).length=l.length)∧(∀{α:Type} (a b:List α),(a++b).length=a.length+b.length)∧
 (∀{α:Type} (a:α) (l:List α),(a::l).length=l.length+1)∧(∀{α:Type},([]:List α).length=0)∧(∀{α:Type} (n:Nat) (a:α),(List.replicate n a).length=n):=
 ⟨fun _ _=>List.length_take,fun _ _=>List.length_drop,fun _ _=>List.length_map _,fun _ _=>List.length_append,fun _ _=>List.length_cons,List.length_nil,fun _ _=>List.length_replicate⟩
theorem bb{p:Prop}(h:p:=by(show(_:Prop));first|omega|((try dsimp only at*);(try simp only[lns]at*);omega)):p:=h
theorem C2i{s:Nat}{b:List (List AV)}(h:b=[]):Vw .nils (.own s b):=by subst h;rfl
theorem P1{s:Nat}{a b:List (List AV)}(h:a=b):Vw (.own s a) (.own s b):=by subst h;exact⟨rfl,rfl⟩
structure Gp(c:UInt8)(s:Str)(i fr:Nat)(out:List Str):Prop where
 le:fr≤i
 il:i≤s.length
 no:∀x,x∈(s.drop fr).take (i - fr)→x≠c
 eq:Aq c s=out++Aq c (s.drop fr)
 len:out.length≤fr
theorem A8c{α:Type}{s:List α}{fr i:Nat}{b:α}(h:fr≤i)(hb:s[i]? =some b):s.drop fr=(s.drop fr).take (i - fr)++b::s.drop (i+1):=by
 have hi:=Dq hb;rw[←List.take_append_drop (i - fr) (s.drop fr)];congr 1
 ·rw[List.take_append_drop]
 ·rw[List.drop_drop,show fr+(i - fr)=i by omega,←List.getElem_cons_drop hi]
  congr 1;rw[List.getElem?_eq_getElem hi]at hb;exact Option.some.inj hb
theorem Gp.zero(c:UInt8)(s:Str):Gp c s 0 0 []:=⟨by omega,by omega,by simp,rfl,by simp⟩
theorem Gp.pass{c:UInt8}{s:Str}{i fr:Nat}{out:List Str}(h:Gp c s i fr out){b:UInt8}(hb:s[i]? =some b)(hc:b≠c):Gp c s (i+1) fr out:=by
 have hi:=Dq hb;have hle:=h.le;refine⟨by omega,by omega,fun x hx=>?_,h.eq,h.len⟩;rw[show i+1 - fr=(i - fr)+1 by omega,List.take_add_one,List.mem_append]at hx;rcases hx with hx|hx
 ·exact h.no x hx
 ·rw[List.getElem?_drop,show fr+(i - fr)=i by omega,hb]at hx
  simp at hx;exact hx▸hc
theorem Gp.hit{c:UInt8}{s:Str}{i fr:Nat}{out:List Str}(h:Gp c s i fr out){b:UInt8}(hb:s[i]? =some b)(hc:b=c):Gp c s (i+1) (i+1) (out++[(s.drop fr).take (i - fr)]):=by
 have hi:=Dq hb;have hle:=h.le;have hlen:=h.len;subst hc;refine⟨by omega,by omega,by simp,?_,by simp;omega⟩;rw[h.eq,A8c hle hb,Ts h.no];have e:((s.drop fr).take (i - fr)++b::s.drop (i+1)).take (i - fr)=(s.drop fr).take (i - fr):=by
  rw[←A8c hle hb]
 simp[e]
theorem Gp.fin{c:UInt8}{s:Str}{fr:Nat}{out:List Str}(h:Gp c s s.length fr out):Aq c s=out++[(s.drop fr).take (s.length - fr)]:=by
 have e:(s.drop fr).take (s.length - fr)=s.drop fr:=by rw[List.take_of_length_le (by simp)]
 have hn:=h.no;rw[e]at hn;rw[h.eq,e,U9 hn]
theorem Gp.fin'{c:UInt8}{s:Str}{fr:Nat}{out:List Str}(h:Gp c s s.length fr out):Aq c s=out++[s.drop fr]:=by
 rw[h.fin,List.take_of_length_le (by simp)]
theorem C19{a b:UInt8}:(((a.toNat:Int)==(b.toNat:Int))=true)↔a=b:=by
 rw[beq_iff_eq];constructor
 ·intro h
  have h:a.toNat=b.toNat:=by omega
  exact UInt8.toNat_inj.1 h
 ·rintro rfl;rfl
def sml(n:Nat):Prop:=n≤4194304
def sl:Str:=[47]
def B4(p:Str):Bool:=(p==sl)||(inB (Aq 47 p).length 2 5&&((Aq 47 p).headD []==[])&&((Aq 47 p).drop 1).all D5)
def names(p:Str):List Str:=if B4 p&& !(p==sl)then(Aq 47 p).drop 1 else[]
def cat:List Str→Str
 |[]=>[]
 |a::r=>47::(a++cat r)
def L6(l:List Str):Str:=match l with
 |[]=>sl
 |l=>cat l
def E3(l:List Str):Str:=if decide (l.length≤4)&&l.all D5 then L6 l else[]
def Bl(p:Str):Str:=if B4 p then E3 ((names p).take ((names p).length - 1))else[]
theorem Od:∀(a b:List Str),cat (a++b)=cat a++cat b
 |[],b=>rfl
 |x::a,b=>by simp[cat,Od a b]
theorem A0z{s:Str}(h:D5 s=true):∀x,x∈s→x≠47:=by
 simp only[D5,Bool.and_eq_true,List.all_eq_true]at h;rintro x hx rfl;have:=h.2 _ hx;revert this;decide
theorem A2o{c:UInt8}:∀(a b:Str),∃x,Aq c (a++c::b)=Aq c a++x::((Aq c b).drop 1)∧x=(Aq c b).headD []
 |[],b=>by
  have:=Lf c b;cases h:Aq c b with
  |nil=>exact absurd h this
  |cons y r=>exact⟨y,by simp[Aq,h],rfl⟩
 |y::a,b=>by
  obtain⟨x,h1,h2⟩:=A2o (c:=c) a b;refine⟨x,?_,h2⟩;simp only[List.cons_append,Aq];split
  ·rw[h1];rfl
  ·rw[h1]
   have:=Lf c a;cases h:Aq c a with
   |nil=>exact absurd h this
   |cons z r=>rfl
theorem A76{c:UInt8}(a b:Str):Aq c (a++c::b)=Aq c a++Aq c b:=by
 obtain⟨x,h1,h2⟩:=A2o (c:=c) a b;rw[h1,h2];have:=Lf c b;cases h:Aq c b with
 |nil=>exact absurd h this
 |cons y r=>rfl
theorem A9m:∀(l:List Str),(Aq 47 (cat l)).length=1+(l.map fun a=>(Aq 47 a).length).sum∨l=[]:=by
 intro l;induction l with
 |nil=>exact .inr rfl
 |cons a r ih=>
  left;simp only[cat,Aq,if_pos,List.length_cons,List.map_cons,List.sum_cons];rcases ih with ih|rfl
  ·cases r with
   |nil=>simp[cat];omega
   |cons b r=>
    simp only[cat]at ih⊢;rw[A76,List.length_append];simp only[Aq,if_pos,List.length_cons]at ih;simp only[List.map_cons,List.sum_cons]at ih⊢;omega
  ·simp[cat];omega
theorem Sq{l:List Str}(h:∀a,a∈l→∀x,x∈a→x≠47)(hl:l≠[]):Aq 47 (cat l)=[]::l:=by
 induction l with
 |nil=>exact absurd rfl hl
 |cons a r ih=>
  simp only[cat,Aq,if_pos];congr 1;cases r with
  |nil=>simp only[cat,List.append_nil];exact U9 (h a (by simp))
  |cons b r=>
   have:=ih (fun x hx=>h x (by simp[hx])) (by simp);simp only[cat]at this⊢;rw[Ts (h a (by simp))];simp only[Aq,if_pos,List.cons.injEq,true_and]at this;rw[this]
theorem Su(c:UInt8)(s:Str):1≤(Aq c s).length:=by
 have:=Lf c s;cases h:Aq c s with
 |nil=>exact absurd h this
 |cons=>simp
theorem B2d{c:UInt8}:∀{s:Str},(Aq c s).length=1→∀x,x∈s→x≠c
 |[],_,x,hx=>by cases hx
 |y::r,h,x,hx=>by
  unfold Aq at h;split at h
  ·have:=Su c r;simp only[List.length_cons]at h;omega
  ·rename_i hy
   have hr:(Aq c r).length=1:=by
    split at h
    ·rename_i heq;rw[heq];simpa using h
    ·rename_i heq;exact absurd heq (Lf c r)
   rcases List.mem_cons.1 hx with rfl|hx
   ·exact hy
   ·exact B2d hr x hx
theorem B80:∀{l:List Str} {f:Str→Nat},(∀a,1≤f a)→(l.map f).sum=l.length→∀a,a∈l→f a=1
 |[],_,_,_,a,ha=>by cases ha
 |b::r,f,hf,h,a,ha=>by
  have hge:∀(r:List Str),r.length≤(r.map f).sum:=by
   intro r;induction r with
   |nil=>simp
   |cons x r ih=>have:=hf x;simp;omega
  have h1:=hge r;have h2:=hf b;simp only[List.map_cons,List.sum_cons,List.length_cons]at h;rcases List.mem_cons.1 ha with rfl|ha
  ·omega
  ·exact B80 hf (by omega) a ha
theorem B8g(l:List Str):E3 l=if B4 (L6 l)&&decide ((names (L6 l)).length=l.length)then L6 l else[]:=by
 cases l with
 |nil=>rfl
 |cons a r=>
  show E3 (a::r)=if B4 (cat (a::r))&&decide ((names (cat (a::r))).length=(a::r).length)then cat (a::r)else[]
  have hlen:=A9m (a::r);generalize hl:a::r=l at*;have hne:l≠[]:=by rw[←hl];simp
  have hlen:(Aq 47 (cat l)).length=1+(l.map fun a=>(Aq 47 a).length).sum:=hlen.resolve_right hne;have hc:L6 l=cat l:=by subst hl;rfl
  by_cases hg:(decide (l.length≤4)&&l.all D5)=true
  ·rw[E3,if_pos hg,hc]
   simp only[Bool.and_eq_true,decide_eq_true_eq,List.all_eq_true]at hg;have hs:=Sq (fun a ha=>A0z (hg.2 a ha)) hne;have hne':(cat l==sl)=false:=by
    subst hl;rw[beq_eq_false_iff_ne];intro e;have ha:=hg.2 a (by simp);have:1≤a.length:=by
     simp only[D5,inB,Bool.and_eq_true,decide_eq_true_eq]at ha;omega
    have e2:=congrArg List.length e;simp only[cat,sl,List.length_cons,List.length_append,List.length_nil]at e2;omega
   have hl1:1≤l.length:=by subst hl;simp
   have hp:B4 (cat l)=true:=by
    simp only[B4,hne',hs,Bool.false_or,Bool.and_eq_true,inB,decide_eq_true_eq];refine⟨⟨⟨by simp;omega,by simp;omega⟩,rfl⟩,by simpa using hg.2⟩
   rw[if_pos];simp[hp,names,hne',hs]
  ·rw[E3,if_neg hg,if_neg]
   intro h;apply hg;simp only[Bool.and_eq_true,decide_eq_true_eq]at h;obtain⟨h1,h2⟩:=h;simp only[names,h1,Bool.true_and]at h2;have hl1:1≤l.length:=by subst hl;simp
   by_cases he:(cat l==sl)=true
   ·simp[he]at h2;omega
   ·have he:(cat l==sl)=false:=by simpa using he
    rw[he]at h2;simp only[Bool.not_false,if_true,List.length_drop]at h2;have hsum:(l.map fun a=>(Aq 47 a).length).sum=l.length:=by omega
    have hno:∀a,a∈l→∀x,x∈a→x≠47:=fun a ha=>B2d (B80 (fun a=>Su 47 a) hsum a ha);have hs:=Sq hno hne;simp only[B4,he,hs,Bool.false_or,Bool.and_eq_true,inB,decide_eq_true_eq]at h1;simp only[Bool.and_eq_true,decide_eq_true_eq];refine⟨?_,by simpa using h1.2⟩;have:=h1.1.1.2;simp at this;omega
theorem Zu:∀(l:List Str),(cat l).length=l.length+(l.map List.length).sum
 |[]=>rfl
 |a::r=>by simp[cat,Zu r];omega
theorem A5a(l:List Str):(L6 l).length≤l.length+(l.map List.length).sum+1:=by
 cases l with
 |nil=>simp[L6,sl]
 |cons a r=>simp only[L6];rw[Zu];omega
theorem Yl(l:List Str):(E3 l).length≤l.length+(l.map List.length).sum+1:=by
 unfold E3;split
 ·exact A5a l
 ·simp
theorem Ku{p:Str}:(names p).all D5=true:=by
 unfold names;split
 ·rename_i h
  simp only[Bool.and_eq_true,B4,Bool.or_eq_true,Bool.not_eq_true']at h;rcases h.1 with h1|h1
  ·rw[h.2]at h1;cases h1
  ·exact h1.2
 ·rfl
theorem Gv{p:Str}:(names p).length≤4:=by
 unfold names;split
 ·rename_i h
  simp only[Bool.and_eq_true,B4,Bool.or_eq_true,Bool.not_eq_true',inB,decide_eq_true_eq]at h;rcases h.1 with h1|h1
  ·rw[h.2]at h1;cases h1
  ·have:=h1.1.1.2
   simp;omega
 ·simp
theorem Tp{s:Str}(h:D5 s=true):s.length≤6:=by
 simp only[D5,inB,Bool.and_eq_true,decide_eq_true_eq]at h;omega
theorem C2w{l:List Str}{k:Nat}(h:∀a,a∈l→a.length≤k):(l.map List.length).sum≤l.length*k:=by
 induction l with
 |nil=>simp
 |cons a r ih=>
  have:=ih fun x hx=>h x (by simp[hx]);have:=h a (by simp);simp only[List.map_cons,List.sum_cons,List.length_cons,Nat.add_mul];omega
theorem A1e{p:Str}:((names p).map List.length).sum≤24:=by
 have h:=C2w (l:=names p) (k:=6) fun a ha=>Tp (List.all_eq_true.1 Ku a ha);have:=Gv (p:=p);omega
theorem A5n(l:List Str)(k:Nat):((l.take k).map List.length).sum≤(l.map List.length).sum:=by
 induction l generalizing k with
 |nil=>simp
 |cons a r ih=>
  cases k with
  |zero=>simp
  |succ k=>have:=ih k;simp only[List.take_succ_cons,List.map_cons,List.sum_cons];omega
theorem C1j{α:Type}{l:List α}{i:Nat}{x:α}(h1:1≤i)(h:l[i]? =some x):(l.take (i+1)).drop 1=(l.take i).drop 1++[x]:=by
 rw[Bk h,List.drop_append_of_le_length];have:=Dq h;simp;omega
structure It where
 path:Str
 kind:Int
 data:Str
 time:Int
def It.none:It:=⟨[],0,[],0⟩
def It.top:It:=⟨sl,2,[],0⟩
abbrev Tr:=List It
def Aa(x:It):List AV:=[.str x.path,.int .i64 x.kind,.str x.data,.int .i64 x.time]
def rdT(t:Tr):AV:=.agg [.rd 4 (t.map Aa)]
theorem rdI(l:List It):D1 (l.map Aa)=l.map Aa:=Kc (fun _=>rfl) l
def Aj(t:Tr)(p:Str):Option It:=if p==sl then some It.top else t.find? fun x=>x.path==p
def Mx(o:Option It):AV:=.tup [.agg (Aa (o.getD It.none)),.bool o.isSome]
def Fo(x:It):Bool:=B4 x.path&& !(x.path==sl)&&inB x.kind 1 3&&(if x.kind==2 then x.data==[]&&x.time==0 else decide ((x.data.length:Int)≤80)&&inB x.time 0 100000)
def N6(t:Tr)(p:Str):Bool:=(Aj t p).isSome&&((Aj t p).getD It.none).kind==2
def chk(t:Tr)(i:Nat):Bool:=match t[i]? with
 |some x=>Fo x&&(i==0||Ce ((t.getD (i - 1) It.none).path) x.path)&&N6 t (Bl x.path)
 |none=>true
def Ar(t:Tr):Bool:=decide (t.length≤40)&&(List.range t.length).all (chk t)
def smT(t:Tr):Prop:=t.length≤4194304∧∀x,x∈t→x.path.length≤4194304∧x.data.length≤4194304
theorem Dj:∀a,Ce a a=false
 |[]=>rfl
 |x::a=>by simp[Ce,Dj a]
theorem Ry:∀a b,Ce a b=true∨a=b∨Ce b a=true
 |[],[]=>.inr (.inl rfl)
 |[],_::_=>.inl rfl
 |_::_,[]=>.inr (.inr rfl)
 |x::a,y::b=>by
  simp only[Ce];have tri:x<y∨x=y∨y<x:=by
   rcases Nat.lt_trichotomy x.toNat y.toNat with h|h|h
   ·exact .inl h
   ·exact .inr (.inl (UInt8.toNat_inj.1 h))
   ·exact .inr (.inr h)
  rcases tri with h|rfl|h
  ·left;simp[h]
  ·rcases Ry a b with h|rfl|h
   ·left;simp[h]
   ·right;left;rfl
   ·right;right;simp[h]
  ·right;right;simp[h]
theorem Ie:∀a b,Ce a b=true→Ce b a=false
 |[],[],h=>by cases h
 |[],_::_,_=>rfl
 |_::_,[],h=>by cases h
 |x::a,y::b,h=>by
  simp only[Ce,Bool.or_eq_true,Bool.and_eq_true,decide_eq_true_eq,beq_iff_eq]at h;simp only[Ce,Bool.or_eq_false_iff,Bool.and_eq_false_iff,decide_eq_false_iff_not,beq_eq_false_iff_ne];rcases h with h|⟨rfl,h⟩
  ·exact⟨UInt8.not_lt.2 (UInt8.le_of_lt h),.inl fun e=>by subst e;exact UInt8.lt_irrefl _ h⟩
  ·exact⟨UInt8.lt_irrefl _,.inr (Ie a b h)⟩
theorem C4b(a b:Str):(Ce b a||b==a)= !Ce a b:=by
 rcases Ry a b with h|rfl|h
 ·rw[h,Ie _ _ h]
  have:(b==a)=false:=by
   rw[beq_eq_false_iff_ne];rintro rfl;rw[Dj]at h;cases h
  rw[this];rfl
 ·simp[Dj]
 ·rw[h,Ie _ _ h];rfl
theorem A8l{α:Type}{p:α→Bool}{l:List α}{i:Nat}{x:α}(h:(l.take i).find? p=none)(hx:l[i]? =some x)(hp:p x=true):l.find? p=some x:=by
 rw[←List.take_append_drop i l,List.find?_append,h];have hi:=Dq hx;rw[←List.getElem_cons_drop hi,List.find?_cons];rw[List.getElem?_eq_getElem hi]at hx;rw[Option.some.inj hx,hp];rfl
theorem A6e{α:Type}{p:α→Bool}{l:List α}{i:Nat}{x:α}(h:(l.take i).find? p=none)(hx:l[i]? =some x)(hp:p x=false):(l.take (i+1)).find? p=none:=by
 rw[Bk hx,List.find?_append,h];simp[hp]
theorem C2e{t:Tr}{f:Nat→Bool}{n:Nat}:(List.range n).all f=true↔∀j,j<n→f j=true:=by simp
theorem A6y{t:Tr}{i:Nat}(hi:i<t.length)(h:chk t i=false):Ar t=false:=by
 have:(List.range t.length).all (chk t)=false:=by
  rw[List.all_eq_false];exact⟨i,List.mem_range.2 hi,by simp[h]⟩
 rw[Ar,this,Bool.and_false]
theorem Wo{t:Tr}(h:t.length≤40)(h2:∀j,j<t.length→chk t j=true):Ar t=true:=by
 rw[Ar,Bool.and_eq_true];exact⟨by simpa using h,C2e (t:=t).2 h2⟩
section
variable{t:Tr}{i:Nat}{b pv:It}
def C62(i:Nat)(b pv:It):Bool:= !B4 b.path||b.path==sl||(decide ((i:Int)>0)&&(Ce b.path pv.path||b.path==pv.path))|| !inB b.kind 1 3||decide ((b.data.length:Int)>80)|| !inB b.time 0 100000
def C4d(b:It):Bool:=(b.kind==2)&&(!(b.data==[])||b.time !=0)
theorem Ym(hb:t[i]? =some b)(hp:t.getD (i - 1) It.none=pv):chk t i=(Fo b&&(i==0||Ce pv.path b.path)&&N6 t (Bl b.path)):=by
 unfold chk;rw[hb];simp only[hp]
theorem A4y:(Fo b&&(i==0||Ce pv.path b.path))=(!C62 i b pv&& !C4d b):=by
 unfold C62 C4d Fo;rw[C4b];have e1:decide ((i:Int)>0)= !(i==0):=by
  rw[Bool.eq_iff_iff];simp;omega
 have e2:(b.data==[])=true→decide ((b.data.length:Int)>80)=false:=by
  intro h;have:b.data=[]:=by simpa using h
  rw[this];rfl
 have e3:(b.time==0)=true→inB b.time 0 100000=true:=by
  intro h;have:b.time=0:=by simpa using h
  rw[this];rfl
 have e4:decide ((b.data.length:Int)≤80)= !decide ((b.data.length:Int)>80):=by
  rw[Bool.eq_iff_iff];simp
 have e5:(b.time !=0)= !(b.time==0):=rfl;rw[e1,e4,e5];revert e2 e3;generalize B4 b.path=P;generalize (b.path==sl)=S;generalize (i==0)=I;generalize Ce pv.path b.path=O;generalize inB b.kind 1 3=K;generalize (b.kind==2)=D;generalize (b.data==[])=E;generalize (b.time==0)=Z;generalize decide ((b.data.length:Int)>80)=L;generalize inB b.time 0 100000=T;revert P S I O K D E Z L T;decide
theorem C4r(hb:t[i]? =some b)(hp:t.getD (i - 1) It.none=pv)(h:C62 i b pv=true):chk t i=false:=by
 rw[Ym hb hp,A4y,h];rfl
theorem C6g(hb:t[i]? =some b)(h:C4d b=true):chk t i=false:=by
 rw[Ym hb rfl,A4y,h];simp
theorem B9m(hb:t[i]? =some b)(h:N6 t (Bl b.path)=false):chk t i=false:=by
 rw[Ym hb rfl,h];simp
theorem C5k(hb:t[i]? =some b)(hp:t.getD (i - 1) It.none=pv)(h1:C62 i b pv=false)(h2:C4d b=false)(h3:N6 t (Bl b.path)=true):chk t i=true:=by
 rw[Ym hb hp,A4y,h1,h2,h3];rfl
end
theorem A7y{α β:Type}{f:β→α→β}{l:List α}{i:Nat}{x:α}{b:β}(h:l[i]? =some x):(l.take (i+1)).foldl f b=f ((l.take i).foldl f b) x:=by
 rw[Bk h,List.foldl_append];rfl
def fnd{α:Type}(p:α→Bool)(l:List α):Int:=if l.any p then(l.findIdx p:Int)else -1
theorem A4n{α:Type}{p:α→Bool}{l:List α}{i:Nat}{x:α}(h:(l.take i).any p=false)(hx:l[i]? =some x)(px:p x=true):fnd p l=i:=by
 have hi:=Dq hx;have ha:l.any p=true:=List.any_eq_true.2 ⟨x,List.mem_of_getElem? hx,px⟩;rw[fnd,if_pos ha];congr 1;have e:l=l.take i++x::l.drop (i+1):=by
  have:=A8c (fr:=0) (Nat.zero_le i) hx;simpa using this
 have h2:(l.take i).findIdx p=i:=by
  rw[List.findIdx_eq_length_of_false]
  ·simp;omega
  ·intro y hy
   have:=List.any_eq_false.1 h y hy;simpa using this
 conv=>lhs;rw[e]
 rw[List.findIdx_append,h2];simp[List.findIdx_cons,px];omega
theorem Sw{α:Type}{p:α→Bool}{l:List α}(h:l.any p=false):fnd p l= -1:=by
 rw[fnd,if_neg];simp[h]
theorem Ou{α:Type}{p:α→Bool}{l:List α}{i:Nat}{x:α}(h:(l.take i).any p=false)(hx:l[i]? =some x)(px:p x=false):(l.take (i+1)).any p=false:=by
 rw[Bk hx,List.any_append,h];simp[px]
theorem Pv{α:Type}{p:α→Bool}{l:List α}:(decide (fnd p l≥0))=l.any p:=by
 rw[fnd];split
 ·rename_i h;rw[h];simp
 ·rename_i h
  have:l.any p=false:=by simpa using h
  rw[this];rfl
theorem C8h{α:Type}{p:α→Bool}{l:List α}: -1≤fnd p l∧fnd p l≤l.length:=by
 rw[fnd];split
 ·have:=List.findIdx_le_length (p:=p) (xs:=l)
  omega
 ·omega
theorem Zl{α:Type}{p:α→Bool}{l:List α}(h:l.any p=true):∃x,l[(fnd p l).toNat]? =some x∧l.find? p=some x:=by
 rw[fnd,if_pos h];have hl:l.findIdx p<l.length:=List.findIdx_lt_length_of_exists (by simpa using h);refine⟨l[l.findIdx p],by simp[hl],?_⟩;rw[List.find?_eq_some_iff_getElem];refine⟨List.findIdx_getElem (w:=hl),l.findIdx p,hl,rfl,fun j hj=>?_⟩;have:=List.not_of_lt_findIdx hj;simpa using this
theorem Z8{α:Type}{p:α→Bool}{l:List α}(h:l.any p=false):l.find? p=none:=by
 rw[List.find?_eq_none];intro x hx;exact List.any_eq_false.1 h x hx
end Go.GH
namespace Go.GH
def smL(l:List Str):Prop:=l.length≤4194304∧∀s,s∈l→s.length≤4194304
end Go.GH
namespace Go.GH
open Go Go.Proofs
def toB(s:Str):ByteArray:=⟨⟨s⟩⟩
theorem C6v{y:Ctx}{w:World}{h:Ah}{n:Nat→Prop}{ρ:Option Nat→Am}{l:List Str}{v:Value}(hs:Az y w h n ρ (.rd 1 (l.map A6)) v)(hw:y.wr=w):
 ∃a cap,v=.slice a l.length cap∧l.length≤cap∧(l≠[]→∃b o,a=some ⟨b,o,none⟩∧y.R b∧∀(j:Nat) s,l[j]? =some s→w.cell? ⟨b,o+j,none⟩=some (Dn s)):=by
 cases hs with
 |cell hr=>
  cases hr with
  |rd u hcap hrow hc hr=>
   rename_i a cap;refine⟨a,cap,by simp,by simpa using hcap,fun hne=>?_⟩;have at_:∀(j:Nat) s,l[j]? =some s→As (l.map A6) j 0=some (.str s):=by
    intro j s hj;simp[As,hj,A6]
   obtain⟨x,hx⟩:∃x,l[0]? =some x:=B7 (List.length_pos_iff.2 hne);obtain⟨b,o,ha,hR,_,_⟩:=hc 0 0 _ (at_ 0 x hx);refine⟨b,o,ha,hR,fun j s hj=>?_⟩;obtain⟨b',o',ha',_,_,hcell⟩:=hc j 0 _ (at_ j s hj);have hrep:=hr j 0 _ (at_ j s hj);rw[ha]at ha';simp only[Option.some.injEq,Addr.mk.injEq,and_true]at ha';obtain⟨rfl,rfl⟩:=ha';have hu:u j 0=Dn s:=Hm (h:=h) (n:=n) (ρ:=ρ) (.cell hrep);rw[hw,hu]at hcell;simpa using hcell
theorem C4x:∀{l:List Str} {s:Str},s∈l→s.length≤(l.map List.length).sum
 |a::r,s,h=>by
  rcases List.mem_cons.1 h with rfl|h
  ·simp
  ·have:=C4x h;simp;omega
theorem C5i(l:List Str):sl++Lib.join l sl=L6 l:=by
 cases l with
 |nil=>rfl
 |cons a r=>
  have:∀(r:List Str),Lib.joinTail sl r=cat r:=by
   intro r;induction r with
   |nil=>rfl
   |cons b r ih=>
    rw[cat,←ih];simp[Lib.joinTail,sl]
  rw[Lib.join_cons,this];simp[L6,cat,sl]
end Go.GH
namespace Go.GH
open Go
def C1f(a b:It):Bool:=a.path==b.path&&a.kind==b.kind&&a.data==b.data&&a.time==b.time
theorem C34(a:It):C1f a a=true:=by simp[C1f]
end Go.GH
namespace Go.GH
open Go Go.Proofs
def B5:List (Nat×Ty):=[
 (2,⟨.int .i64,1,8,[.int .i64 0],[none]⟩),
 (3,⟨.int .i64,1,8,[.int .i64 0],[none]⟩),
 (4,⟨.bool,1,1,[.bool false],[none]⟩),
 (5,⟨.int .u8,1,1,[.int .u8 0],[none]⟩),
 (6,⟨.int .u8,1,1,[.int .u8 0],[none]⟩),
 (7,⟨.struct [(0,2),(1,3),(2,4),(3,6)],4,24,[.int .i64 0,.int .i64 0,.bool false,.int .u8 0],[none,none,none,none]⟩),
 (8,⟨.struct [(0,2),(1,3),(2,4),(3,6)],4,24,[.int .i64 0,.int .i64 0,.bool false,.int .u8 0],[none,none,none,none]⟩),
 (9,⟨.str,1,16,[.str []],[none]⟩),
 (10,⟨.str,1,16,[.str []],[none]⟩),
 (11,⟨.str,1,16,[.str []],[none]⟩),
 (12,⟨.int .u64,1,8,[.int .u64 0],[none]⟩),
 (15,⟨.ptr 229,1,8,[.undef],[none]⟩),
 (16,⟨.ptr 232,1,8,[.undef],[none]⟩),
 (17,⟨.ptr 239,1,8,[.undef],[none]⟩),
 (20,⟨.iface,1,16,[.nilI],[none]⟩),
 (21,⟨.int .i32,1,4,[.int .i32 0],[none]⟩),
 (22,⟨.slice 5,1,24,[.own 1 []],[some 1]⟩),
 (24,⟨.slice 32,1,24,[.own 4 []],[some 4]⟩),
 (25,⟨.struct [(0,24)],1,24,[.own 4 []],[some 4]⟩),
 (26,⟨.struct [(0,24)],1,24,[.own 4 []],[some 4]⟩),
 (31,⟨.struct [(0,9),(1,3),(2,9),(3,3)],4,48,[.str [],.int .i64 0,.str [],.int .i64 0],[none,none,none,none]⟩),
 (32,⟨.struct [(0,9),(1,3),(2,9),(3,3)],4,48,[.str [],.int .i64 0,.str [],.int .i64 0],[none,none,none,none]⟩),
 (36,⟨.slice 9,1,24,[.own 1 []],[some 1]⟩),
 (39,⟨.slice 116,1,24,[.own 4 []],[some 4]⟩),
 (40,⟨.struct [(0,39)],1,24,[.own 4 []],[some 4]⟩),
 (41,⟨.struct [(0,39)],1,24,[.own 4 []],[some 4]⟩),
 (42,⟨.slice 80,1,24,[.own 6 []],[some 6]⟩),
 (45,⟨.slice 3,1,24,[.own 1 []],[some 1]⟩),
 (49,⟨.slice 84,1,24,[.own 6 []],[some 6]⟩),
 (65,⟨.ptr 100,1,8,[.undef],[none]⟩),
 (79,⟨.struct [(0,3),(1,9),(2,9),(3,3),(4,9),(5,3)],6,72,[.int .i64 0,.str [],.str [],.int .i64 0,.str [],.int .i64 0],[none,none,none,none,none,none]⟩),
 (80,⟨.struct [(0,3),(1,9),(2,9),(3,3),(4,9),(5,3)],6,72,[.int .i64 0,.str [],.str [],.int .i64 0,.str [],.int .i64 0],[none,none,none,none,none,none]⟩),
 (84,⟨.struct [(0,3),(1,9),(2,9),(3,3),(4,9),(5,3)],6,72,[.int .i64 0,.str [],.str [],.int .i64 0,.str [],.int .i64 0],[none,none,none,none,none,none]⟩),
 (99,⟨.struct [(0,22),(1,3),(2,3)],3,40,[.own 1 [],.int .i64 0,.int .i64 0],[some 1,none,none]⟩),
 (100,⟨.struct [(0,22),(1,3),(2,3)],3,40,[.own 1 [],.int .i64 0,.int .i64 0],[some 1,none,none]⟩),
 (102,⟨.slice 171,1,24,[.own 5 []],[some 5]⟩),
 (103,⟨.struct [(0,102),(1,36)],2,48,[.own 5 [],.own 1 []],[some 5,some 1]⟩),
 (104,⟨.struct [(0,102),(1,36)],2,48,[.own 5 [],.own 1 []],[some 5,some 1]⟩),
 (116,⟨.struct [(0,9),(1,3),(2,9),(3,3)],4,48,[.str [],.int .i64 0,.str [],.int .i64 0],[none,none,none,none]⟩),
 (124,⟨.int .u64,1,8,[.int .u64 0],[none]⟩),
 (138,⟨.ptr 140,1,8,[.undef],[none]⟩),
 (139,⟨.struct [(0,138),(1,22)],2,32,[.undef,.own 1 []],[none,some 1]⟩),
 (140,⟨.struct [(0,138),(1,22)],2,32,[.undef,.own 1 []],[none,some 1]⟩),
 (142,⟨.iface,1,16,[.nilI],[none]⟩),
 (143,⟨.iface,1,16,[.nilI],[none]⟩),
 (150,⟨.ptr 32,1,8,[.undef],[none]⟩),
 (157,⟨.int .i64,1,8,[.int .i64 0],[none]⟩),
 (165,⟨.int .u32,1,4,[.int .u32 0],[none]⟩),
 (167,⟨.int .u64,1,8,[.int .u64 0],[none]⟩),
 (170,⟨.struct [(0,3),(1,3),(2,3),(3,3),(4,45)],5,56,[.int .i64 0,.int .i64 0,.int .i64 0,.int .i64 0,.own 1 []],[none,none,none,none,some 1]⟩),
 (171,⟨.struct [(0,3),(1,3),(2,3),(3,3),(4,45)],5,56,[.int .i64 0,.int .i64 0,.int .i64 0,.int .i64 0,.own 1 []],[none,none,none,none,some 1]⟩),
 (172,⟨.slice 176,1,24,[.own 2 []],[some 2]⟩),
 (175,⟨.struct [(0,9),(1,3)],2,24,[.str [],.int .i64 0],[none,none]⟩),
 (176,⟨.struct [(0,9),(1,3)],2,24,[.str [],.int .i64 0],[none,none]⟩),
 (189,⟨.ptr 5,1,8,[.undef],[none]⟩),
 (190,⟨.int .u64,1,8,[.int .u64 0],[none]⟩),
 (194,⟨.ptr 3,1,8,[.undef],[none]⟩),
 (213,⟨.ptr 190,1,8,[.undef],[none]⟩),
 (233,⟨.int .u8,1,1,[.int .u8 0],[none]⟩),
 (234,⟨.int .u8,1,1,[.int .u8 0],[none]⟩),
 (236,⟨.int .i32,1,4,[.int .i32 0],[none]⟩),
 (237,⟨.int .i32,1,4,[.int .i32 0],[none]⟩)]
theorem C8i:C24 Tryz.prog B5=true:=by kernel_rfl
theorem Bx(F:Nat→Option Bd)(kp:List Nat):TOk Tryz.prog ⟨A4 B5,F,kp⟩:=fun t ty h=>C1w C8i t ty h
theorem mixed:Tryz.prog.follows .mixedOrders=true:=by kernel_rfl
def Av(f:Func):Code:=match f.body with
 |some c=>c
 |none=>.skip
def Ch:Bd:=con [mC,mC,mC] true (Int×Int×Int) (fun x=>[.int .i64 x.1,.int .i64 x.2.1,.int .i64 x.2.2]) (fun _=>True) (fun x=>.bool (inB x.1 x.2.1 x.2.2))
def B7a:Env:=⟨A4 B5,A4 [],[0,1,2,6]⟩
theorem B76:B6 B7a (Av Tryz.f76) Tryz.f76.results.toList Ch:=by
 rintro⟨x,lo,hi⟩ _;refine⟨trivial,?_⟩;repeat((conv=>whnf);refine⟨fun h=>h,?_⟩)
 exact⟨trivial,rfl⟩
theorem Di:Au Tryz.prog 76 Ch:=Al (Bx _ _) FOk.nil mixed Tryz.func76 rfl Tryz.call76 (by decide) (by kernel_rfl) B76 (by intro _ (y:(Int×Int×Int)) _;exact⟨by simp[Ch,con,A9,A8,AV.noRd,A7,Ab,A5,A6],by simp[Ch,con,A9,A8,AV.noRd,A7,Ab,A5,A6]⟩) (by intro(y:(Int×Int×Int)) _;first|(simp[Ch,con,A9,A8,Ad,AV.free,A2,A3,A1,A6];done)|(obtain⟨_,_⟩:=y;simp[Ch,con,A9,A8,Ad,AV.free,A2,A3,A1,A6];done)|(obtain⟨_,_,_⟩:=y;simp[Ch,con,A9,A8,Ad,AV.free,A2,A3,A1,A6];done))
def Dx:Bd:=con [mC,mC,mC] true (Int×Int×Int) (fun x=>[.int .i64 x.1,.int .i64 x.2.1,.int .i64 x.2.2]) (fun _=>True) (fun x=>.bool (inB x.1 x.2.1 x.2.2))
def A9j:Env:=⟨A4 B5,A4 [],[0,1,2,6]⟩
theorem B25:B6 A9j (Av Tryz.f91) Tryz.f91.results.toList Dx:=by
 rintro⟨x,lo,hi⟩ _;refine⟨trivial,?_⟩;repeat((conv=>whnf);refine⟨fun h=>h,?_⟩)
 exact⟨trivial,rfl⟩
theorem Iy:Au Tryz.prog 91 Dx:=Al (Bx _ _) FOk.nil mixed Tryz.func91 rfl Tryz.call91 (by decide) (by kernel_rfl) B25 (by intro _ (y:(Int×Int×Int)) _;exact⟨by simp[Dx,con,A9,A8,AV.noRd,A7,Ab,A5,A6],by simp[Dx,con,A9,A8,AV.noRd,A7,Ab,A5,A6]⟩) (by intro(y:(Int×Int×Int)) _;first|(simp[Dx,con,A9,A8,Ad,AV.free,A2,A3,A1,A6];done)|(obtain⟨_,_⟩:=y;simp[Dx,con,A9,A8,Ad,AV.free,A2,A3,A1,A6];done)|(obtain⟨_,_,_⟩:=y;simp[Dx,con,A9,A8,Ad,AV.free,A2,A3,A1,A6];done))
def Gy:Bd:=con [mC] true Str A6 (fun s=>s.length≤4611686018427387904) (fun s=>.bool (D5 s))
def B0n:Env:=⟨A4 B5,A4 [(76,Ch)],[0,2,3,7,11,36]⟩
theorem A9r:B6 B0n (Av Tryz.f118) Tryz.f118.results.toList Gy:=by
 intro(s:Str) hs;have hs:s.length≤4611686018427387904:=hs;refine⟨trivial,?_⟩;conv=>whnf
 refine⟨(s.length,1,6),rfl,fun _=>trivial,?_⟩;conv=>whnf
 refine⟨fun h=>?_,fun h=>?_⟩
 ·conv=>whnf
  have h:inB s.length 1 6=false:=by simpa using h
  exact⟨trivial,eqB (by simp[D5,h])⟩
 have h:inB s.length 1 6=true:=by simpa using h
 conv=>whnf
 refine B2 (fun i:Nat=>⟨[(0,⟨none,.str s⟩),(3,⟨none,.int .i64 i⟩)],[],0⟩) (fun i=>i≤s.length∧(s.take i).all A5c=true) (fun i=>s.length - i) 0 ?_ ⟨by omega,rfl⟩ ?_
 ·exact⟨⟨rfl,rfl,trivial⟩,trivial,rfl⟩
 rintro i ⟨hi,ha⟩;conv=>whnf
 refine⟨fun h1=>?_,fun h1=>?_⟩
 ·have h1:i<s.length:=by simpa using h1
  obtain⟨b,hb⟩:=B7 h1;repeat first
   |((conv=>whnf);refine⟨fun h=>h,?_⟩)
   |((conv=>whnf);refine⟨b,fun _=>⟨Int.natCast_nonneg _,hb⟩,?_⟩)
  refine⟨fun h2=>?_,fun h2=>?_⟩
  ·conv=>whnf
   have h2:(!A5c b)=true:=h2;refine⟨trivial,eqB (Eq.symm ?_)⟩;have hm:b∈s:=List.mem_of_getElem? hb;simp only[D5,Bool.and_eq_false_iff];exact .inr (by rw[List.all_eq_false];exact⟨b,hm,by simpa using h2⟩)
  ·have h2:A5c b=true:=by have:(!A5c b)=false:=h2;simpa using this
   conv=>whnf
   refine⟨_,w64 (by omega),?_⟩;conv=>whnf
   refine Bt (i+1) ?_ ⟨by omega,?_⟩ (by omega)
   ·exact⟨⟨rfl,rfl,trivial⟩,trivial,rfl⟩
   ·rw[Bk hb];simp[ha,h2]
 ·have h1:i=s.length:=by have:¬(i<s.length):=by simpa using h1
                         omega
  subst h1;conv=>whnf
  rw[List.take_length]at ha;exact⟨trivial,eqB (by simp[D5,h,ha])⟩
theorem Wg:Au Tryz.prog 118 Gy:=Al (Bx _ _) (FOk.cons Di FOk.nil) mixed Tryz.func118 rfl Tryz.call118 (by decide) (by kernel_rfl) A9r (by intro _ (y:Str) _;exact⟨by simp[Gy,con,A9,A8,AV.noRd,A7,Ab,A5,A6],by simp[Gy,con,A9,A8,AV.noRd,A7,Ab,A5,A6]⟩) (by intro(y:Str) _;first|(simp[Gy,con,A9,A8,Ad,AV.free,A2,A3,A1,A6];done)|(obtain⟨_,_⟩:=y;simp[Gy,con,A9,A8,Ad,AV.free,A2,A3,A1,A6];done)|(obtain⟨_,_,_⟩:=y;simp[Gy,con,A9,A8,Ad,AV.free,A2,A3,A1,A6];done))
def H0:Bd:=con [mC] true Str A6 (fun s=>s.length≤4611686018427387904) (fun s=>.bool (D5 s))
def B1p:Env:=⟨A4 B5,A4 [(91,Dx)],[0,2,3,7,9,10,11,34]⟩
theorem B1h:B6 B1p (Av Tryz.f94) Tryz.f94.results.toList H0:=by
 intro(s:Str) hs;have hs:s.length≤4611686018427387904:=hs;refine⟨trivial,?_⟩;conv=>whnf
 refine⟨(s.length,1,6),rfl,fun _=>trivial,?_⟩;conv=>whnf
 refine⟨fun h=>?_,fun h=>?_⟩
 ·conv=>whnf
  have h:inB s.length 1 6=false:=by simpa using h
  exact⟨trivial,eqB (by simp[D5,h])⟩
 have h:inB s.length 1 6=true:=by simpa using h
 conv=>whnf
 refine B2 (fun i:Nat=>⟨[(0,⟨none,.str s⟩),(9,⟨none,.int .i64 s.length⟩),(10,⟨none,.int .i64 i⟩)],[],0⟩) (fun i=>i≤s.length∧(s.take i).all A5c=true) (fun i=>s.length - i) 0 ?_ ⟨by omega,rfl⟩ ?_
 ·exact⟨⟨rfl,rfl,rfl,trivial⟩,trivial,rfl⟩
 rintro i ⟨hi,ha⟩;conv=>whnf
 refine⟨fun h1=>?_,fun h1=>?_⟩
 ·have h1:i<s.length:=by simpa using h1
  obtain⟨b,hb⟩:=B7 h1;repeat first
   |((conv=>whnf);refine⟨fun h=>h,?_⟩)
   |((conv=>whnf);refine⟨b,fun _=>⟨Int.natCast_nonneg _,hb⟩,?_⟩)
  refine⟨fun h2=>?_,fun h2=>?_⟩
  ·conv=>whnf
   have h2:(!A5c b)=true:=(C8b b).symm.trans h2;refine⟨trivial,eqB (Eq.symm ?_)⟩;have hm:b∈s:=List.mem_of_getElem? hb;simp only[D5,Bool.and_eq_false_iff];exact .inr (by rw[List.all_eq_false];exact⟨b,hm,by simpa using h2⟩)
  ·have h2:A5c b=true:=by have:(!A5c b)=false:=(C8b b).symm.trans h2
                          simpa using this
   conv=>whnf
   refine⟨_,w64 (by omega),?_⟩;conv=>whnf
   refine Bt (i+1) ?_ ⟨by omega,?_⟩ (by omega)
   ·exact⟨⟨rfl,rfl,rfl,trivial⟩,trivial,rfl⟩
   ·rw[Bk hb];simp[ha,h2]
 ·have h1:i=s.length:=by have:¬(i<s.length):=by simpa using h1
                         omega
  subst h1;conv=>whnf
  rw[List.take_length]at ha;exact⟨trivial,eqB (by simp[D5,h,ha])⟩
theorem Vy:Au Tryz.prog 94 H0:=Al (Bx _ _) (FOk.cons Iy FOk.nil) mixed Tryz.func94 rfl Tryz.call94 (by decide) (by kernel_rfl) B1h (by intro _ (y:Str) _;exact⟨by simp[H0,con,A9,A8,AV.noRd,A7,Ab,A5,A6],by simp[H0,con,A9,A8,AV.noRd,A7,Ab,A5,A6]⟩) (by intro(y:Str) _;first|(simp[H0,con,A9,A8,Ad,AV.free,A2,A3,A1,A6];done)|(obtain⟨_,_⟩:=y;simp[H0,con,A9,A8,Ad,AV.free,A2,A3,A1,A6];done)|(obtain⟨_,_,_⟩:=y;simp[H0,con,A9,A8,Ad,AV.free,A2,A3,A1,A6];done))
def I9:Bd:=con [mC,mC] false (Str×UInt8) (fun x=>[.str x.1,.int .u8 x.2.toNat]) (fun x=>sml x.1.length) (fun x=>.own 1 ((Aq x.2 x.1).map A6))
def B5h:Env:=⟨A4 B5,A4 [],[0,1,4,5,6,7,12,25]⟩
theorem B5i:B6 B5h (Av Tryz.f117) Tryz.f117.results.toList I9:=by
 rintro⟨s,c⟩ hs;have hs:s.length≤4194304:=hs;refine⟨trivial,?_⟩;conv=>whnf
 refine B2 (fun((i,fr,out):Nat×Nat×List Str)=>⟨[(0,⟨none,.str s⟩),(1,⟨none,.int .u8 c.toNat⟩),(5,⟨none,.view 0 [] 0 (out.map A6).length⟩),(6,⟨none,.int .i64 fr⟩),(7,⟨none,.int .i64 i⟩)],[(0,.own 1 (out.map A6))],1⟩)
  (fun(i,fr,out)=>Gp c s i fr out∨(i=s.length+1∧out=Aq c s)) (fun x=>s.length+2 - x.1) (0,0,[]) ?_ (.inl (Gp.zero c s)) ?_
 ·(refine⟨?_,?_,rfl⟩<;>repeat' (first|exact rfl|exact trivial|refine⟨?_,?_⟩|fail)<;>(conv=>whnf))
 rintro⟨i,fr,out⟩ hI
 (conv=>whnf);refine⟨fun h1=>?_,fun h1=>?_⟩
 ·have h1:i≤s.length:=by simpa using h1
  have hI:Gp c s i fr out:=by
   rcases hI with h|h
   ·exact h
   ·omega
  have hle:=hI.le;have hlen:=hI.len;repeat((conv=>whnf);refine⟨fun h=>h,?_⟩)
  conv=>whnf
  rcases Nat.lt_or_ge i s.length with hi|hi
  ·obtain⟨b,hb⟩:=B7 hi
   refine⟨b,fun _=>⟨Int.natCast_nonneg _,hb⟩,?_⟩;repeat((conv=>whnf);refine⟨fun h=>h,?_⟩)
   (conv=>whnf);refine⟨fun h2=>?_,fun h2=>?_⟩
   ·have h2:b=c:=by
     have h2:((i:Int)==(s.length:Int)||((b.toNat:Int)==(c.toNat:Int)))=true:=h2;rcases Bool.or_eq_true _ _▸h2 with h|h
     ·simp at h;omega
     ·exact C19.1 h
    repeat((conv=>whnf);first|refine⟨_,w64 (bb),?_⟩|refine⟨fun _=>⟨bb,bb,bb⟩,?_⟩|refine⟨bb,?_⟩|refine⟨fun(r:List AV) hr c hc=>by simp[A6]at hr;(try subst hr);simp at hc;(try subst hc);rfl,?_⟩)
    refine Bt (i+1,i+1,_) ?_ (.inl (hI.hit hb h2)) (by first|omega|(simp;done)|(simp;omega))
    (refine⟨?_,?_,rfl⟩<;>repeat' (first|exact rfl|exact trivial|refine⟨?_,?_⟩|fail)<;>(conv=>whnf))
    all_goals simp[A6]
   ·have h2:b≠c:=by
     have h2:((i:Int)==(s.length:Int)||((b.toNat:Int)==(c.toNat:Int)))=false:=h2;simp at h2;exact fun e=>h2.2 (by rw[e])
    conv=>whnf
    refine⟨_,w64 (by omega),?_⟩;conv=>whnf
    refine Bt (i+1,fr,out) ?_ (.inl (hI.pass hb h2)) (by first|omega|(simp;done)|(simp;omega))
    (refine⟨?_,?_,rfl⟩<;>repeat' (first|exact rfl|exact trivial|refine⟨?_,?_⟩|fail)<;>(conv=>whnf))
  ·have e:i=s.length:=by omega
   subst e;refine⟨0,fun h=>by simp[Cy]at h,?_⟩;repeat((conv=>whnf);refine⟨fun h=>h,?_⟩)
   (conv=>whnf);refine⟨fun h2=>?_,fun h2=>?_⟩
   ·repeat((conv=>whnf);first|refine⟨_,w64 (bb),?_⟩|refine⟨fun _=>⟨bb,bb,bb⟩,?_⟩|refine⟨bb,?_⟩|refine⟨fun(r:List AV) hr c hc=>by simp[A6]at hr;(try subst hr);simp at hc;(try subst hc);rfl,?_⟩)
    refine Bt (s.length+1,s.length+1,_) ?_ (.inr ⟨rfl,hI.fin.symm⟩) (by first|omega|(simp;done)|(simp;omega))
    (refine⟨?_,?_,rfl⟩<;>repeat' (first|exact rfl|exact trivial|refine⟨?_,?_⟩|fail)<;>(conv=>whnf))
    all_goals simp[A6]
   ·simp at h2
 ·have h1:s.length<i:=by simpa using h1
  have hI:out=Aq c s:=by
   rcases hI with h|h
   ·have:=h.il;omega
   ·exact h.2
  conv=>whnf
  exact⟨trivial,P1 (by simp[hI])⟩
theorem Y0:Au Tryz.prog 117 I9:=Al (Bx _ _) FOk.nil mixed Tryz.func117 rfl Tryz.call117 (by decide) (by kernel_rfl) B5i (by intro _ (y:(Str×UInt8)) _;exact⟨by simp[I9,con,A9,A8,AV.noRd,A7,Ab,A5,A6],by simp[I9,con,A9,A8,AV.noRd,A7,Ab,A5,A6]⟩) (by intro(y:(Str×UInt8)) _;first|(simp[I9,con,A9,A8,Ad,AV.free,A2,A3,A1,A6];done)|(obtain⟨_,_⟩:=y;simp[I9,con,A9,A8,Ad,AV.free,A2,A3,A1,A6];done)|(obtain⟨_,_,_⟩:=y;simp[I9,con,A9,A8,Ad,AV.free,A2,A3,A1,A6];done))
def Jn:Bd:=con [mC,mC] false (Str×UInt8) (fun x=>[.str x.1,.int .u8 x.2.toNat]) (fun x=>sml x.1.length) (fun x=>.own 1 ((Aq x.2 x.1).map A6))
def B4n:Env:=⟨A4 B5,A4 [],[0,1,4,5,6,7,12,19]⟩
theorem B5a:B6 B4n (Av Tryz.f90) Tryz.f90.results.toList Jn:=by
 rintro⟨s,c⟩ hs;have hs:s.length≤4194304:=hs;refine⟨trivial,?_⟩;conv=>whnf
 refine B2 (fun((i,fr,out):Nat×Nat×List Str)=>⟨[(0,⟨none,.str s⟩),(1,⟨none,.int .u8 c.toNat⟩),(5,⟨none,.view 0 [] 0 (out.map A6).length⟩),(6,⟨none,.int .i64 fr⟩),(7,⟨none,.int .i64 i⟩)],[(0,.own 1 (out.map A6))],1⟩)
  (fun(i,fr,out)=>Gp c s i fr out) (fun x=>s.length - x.1) (0,0,[]) ?_ (Gp.zero c s) ?_
 ·(refine⟨?_,?_,rfl⟩<;>repeat' (first|exact rfl|exact trivial|refine⟨?_,?_⟩|fail)<;>(conv=>whnf))
 rintro⟨i,fr,out⟩ hI;have hI:Gp c s i fr out:=hI;have hle:=hI.le;have hlen:=hI.len;have hil:=hI.il
 (conv=>whnf);refine⟨fun h1=>?_,fun h1=>?_⟩
 ·have h1:i<s.length:=by simpa using h1
  obtain⟨b,hb⟩:=B7 h1;conv=>whnf
  refine⟨b,fun _=>⟨Int.natCast_nonneg _,hb⟩,?_⟩
  (conv=>whnf);refine⟨fun h2=>?_,fun h2=>?_⟩
  ·have h2:b=c:=C19.1 h2
   repeat((conv=>whnf);first|refine⟨_,w64 (bb),?_⟩|refine⟨fun _=>⟨bb,bb,bb⟩,?_⟩|refine⟨bb,?_⟩|refine⟨fun(r:List AV) hr c hc=>by simp[A6]at hr;(try subst hr);simp at hc;(try subst hc);rfl,?_⟩)
   refine Bt (i+1,i+1,_) ?_ (hI.hit hb h2) (by first|omega|(simp;done)|(simp;omega))
   (refine⟨?_,?_,rfl⟩<;>repeat' (first|exact rfl|exact trivial|refine⟨?_,?_⟩|fail)<;>(conv=>whnf))
   all_goals simp[A6]
  ·have h2:b≠c:=fun e=>by rw[C19.2 e]at h2;cases h2
   repeat((conv=>whnf);refine⟨_,w64 (bb),?_⟩)
   refine Bt (i+1,fr,out) ?_ (hI.pass hb h2) (by first|omega|(simp;done)|(simp;omega))
   (refine⟨?_,?_,rfl⟩<;>repeat' (first|exact rfl|exact trivial|refine⟨?_,?_⟩|fail)<;>(conv=>whnf))
 ·have h1:i=s.length:=by
   have:¬i<s.length:=by simpa using h1
   omega
  subst h1;repeat((conv=>whnf);first|refine⟨fun _=>⟨bb,bb,bb⟩,?_⟩|refine⟨bb,?_⟩|refine⟨fun(r:List AV) hr c hc=>by simp[A6]at hr;(try subst hr);simp at hc;(try subst hc);rfl,?_⟩)
  exact⟨trivial,P1 (by(try simp only[List.drop_zero,List.take_length,Q1]);simp[hI.fin',A6])⟩
theorem B0c:Au Tryz.prog 90 Jn:=Al (Bx _ _) FOk.nil mixed Tryz.func90 rfl Tryz.call90 (by decide) (by kernel_rfl) B5a (by intro _ (y:(Str×UInt8)) _;exact⟨by simp[Jn,con,A9,A8,AV.noRd,A7,Ab,A5,A6],by simp[Jn,con,A9,A8,AV.noRd,A7,Ab,A5,A6]⟩) (by intro(y:(Str×UInt8)) _;first|(simp[Jn,con,A9,A8,Ad,AV.free,A2,A3,A1,A6];done)|(obtain⟨_,_⟩:=y;simp[Jn,con,A9,A8,Ad,AV.free,A2,A3,A1,A6];done)|(obtain⟨_,_,_⟩:=y;simp[Jn,con,A9,A8,Ad,AV.free,A2,A3,A1,A6];done))
def D3:Bd:=con [mC] true Str A6 (fun s=>sml s.length) (fun s=>.bool (B4 s))
def A9y:Env:=⟨A4 B5,A4 [(76,Ch),(117,I9),(118,Gy)],[0,2,3,4,6,18,22,30]⟩
theorem A9n:B6 A9y (Av Tryz.f75) Tryz.f75.results.toList D3:=by
 intro(s:Str) hs;have hs:s.length≤4194304:=hs;refine⟨trivial,?_⟩
 (conv=>whnf);refine⟨fun h1=>?_,fun h1=>?_⟩
 ·conv=>whnf
  exact⟨trivial,eqB (by have h1:(s==sl)=true:=h1;simp[B4,h1])⟩
 have h1:(s==sl)=false:=h1;conv=>whnf
 refine⟨(s,47),rfl,fun _=>hs,?_⟩;conv=>whnf
 have hq:=R9 (c:=47) s;have hp:=Su 47 s;have hd:B4 s=(inB (Aq 47 s).length 2 5&&((Aq 47 s).headD []==[])&&((Aq 47 s).drop 1).all D5):=by simp[B4,h1]
 refine⟨((Aq 47 s).length,2,5),by(try simp only[List.length_map]);rfl,fun _=>trivial,?_⟩;obtain⟨a,ha⟩:=B7 hp;have hh:(Aq 47 s).headD []=a:=by
  cases hx:Aq 47 s with
  |nil=>rw[hx]at ha;cases ha
  |cons y r=>rw[hx]at ha;simpa using ha
 rw[hh]at hd;repeat((conv=>whnf);first|refine⟨fun h=>h,?_⟩|refine⟨bb,?_⟩|refine⟨A6 a,fun _=>Ao ha,?_⟩)
 (conv=>whnf);refine⟨fun h2=>?_,fun h2=>?_⟩
 ·conv=>whnf
  exact⟨trivial,eqB (by
   have h2:((!inB (Aq 47 s).length 2 5)|| !(a==[]))=true:=h2;rw[hd];revert h2;cases inB (Aq 47 s).length 2 5<;>cases(a==[])<;>simp)⟩
 have h2:inB (Aq 47 s).length 2 5=true∧(a==[])=true:=by
  have h2:((!inB (Aq 47 s).length 2 5)|| !(a==[]))=false:=h2;revert h2;cases inB (Aq 47 s).length 2 5<;>cases(a==[])<;>simp
 rw[h2.1,h2.2,Bool.true_and,Bool.true_and]at hd;conv=>whnf
 refine B2 (fun i:Nat=>⟨[(3,⟨none,.view 0 [] 0 ((Aq 47 s).map A6).length⟩),(4,⟨none,.int .i64 i⟩)],[(0,.own 1 ((Aq 47 s).map A6))],1⟩)
  (fun i=>1≤i∧i≤(Aq 47 s).length∧(((Aq 47 s).take i).drop 1).all D5=true) (fun i=>(Aq 47 s).length - i) 1 ?_ ⟨by omega,hp,by
    have:((Aq 47 s).take 1).drop 1=[]:=by rw[List.drop_eq_nil_iff];simp;omega
    rw[this];rfl⟩ ?_
 ·(refine⟨?_,?_,rfl⟩<;>repeat' (first|exact rfl|exact trivial|refine⟨?_,?_⟩|fail)<;>(conv=>whnf))
 rintro i ⟨hi1,hi,hI⟩
 (conv=>whnf);refine⟨fun h3=>?_,fun h3=>?_⟩
 ·have h3:i<(Aq 47 s).length:=by simpa using h3
  obtain⟨b,hb⟩:=B7 h3;repeat((conv=>whnf);first|refine⟨bb,?_⟩|refine⟨A6 b,fun _=>by simp[hb],?_⟩)
  conv=>whnf
  refine⟨b,rfl,fun _=>?_,?_⟩
  ·have:=P0 s b (List.mem_of_getElem? hb)
   show b.length≤4611686018427387904;omega
  (conv=>whnf);refine⟨fun h4=>?_,fun h4=>?_⟩
  ·conv=>whnf
   exact⟨trivial,eqB (by
    have h4:(!D5 b)=true:=h4;rw[hd];refine(List.all_eq_false.2 ⟨b,?_,by simpa using h4⟩).symm;have:((Aq 47 s).drop 1)[i - 1]? =some b:=by rw[List.getElem?_drop,show 1+(i - 1)=i by omega,hb]
    exact List.mem_of_getElem? this)⟩
  ·repeat((conv=>whnf);refine⟨_,w64 (bb),?_⟩)
   refine Bt (i+1) ?_ ⟨by omega,h3,?_⟩ (by first|omega|(simp;done)|(simp;omega))
   ·(refine⟨?_,?_,rfl⟩<;>repeat' (first|exact rfl|exact trivial|refine⟨?_,?_⟩|fail)<;>(conv=>whnf))
   ·have h4:(!D5 b)=false:=h4
    rw[C1j hi1 hb,List.all_append,hI];simpa using h4
 ·have h3:i=(Aq 47 s).length:=by
   have:¬i<(Aq 47 s).length:=by simpa using h3
   omega
  subst h3;rw[List.take_length]at hI;conv=>whnf
  exact⟨trivial,eqB (by rw[hd,hI])⟩
theorem Gb:Au Tryz.prog 75 D3:=Al (Bx _ _) (FOk.cons Di (FOk.cons Y0 (FOk.cons Wg FOk.nil))) mixed Tryz.func75 rfl Tryz.call75 (by decide) (by kernel_rfl) A9n (by intro _ (y:Str) _;exact⟨by simp[D3,con,A9,A8,AV.noRd,A7,Ab,A5,A6],by simp[D3,con,A9,A8,AV.noRd,A7,Ab,A5,A6]⟩) (by intro(y:Str) _;first|(simp[D3,con,A9,A8,Ad,AV.free,A2,A3,A1,A6];done)|(obtain⟨_,_⟩:=y;simp[D3,con,A9,A8,Ad,AV.free,A2,A3,A1,A6];done)|(obtain⟨_,_,_⟩:=y;simp[D3,con,A9,A8,Ad,AV.free,A2,A3,A1,A6];done))
def Fx:Bd:=con [mS 1] false (List Str) (fun l=>[.rd 1 (l.map A6)]) (fun l=>sml l.length) (fun l=>.own 1 (l.map A6))
def B28:Env:=⟨A4 B5,A4 [],[0,2]⟩
theorem A8x:B6 B28 (Av Tryz.f130) Tryz.f130.results.toList Fx:=by
 intro(l:List Str) hs;have hs:l.length≤4194304:=hs;refine⟨trivial,?_⟩;repeat((conv=>whnf);refine⟨bb,?_⟩)
 exact⟨trivial,P1 (by(try simp only[List.drop_zero,List.take_length,Q1]);simp)⟩
theorem Qu:Au Tryz.prog 130 Fx:=Al (Bx _ _) FOk.nil mixed Tryz.func130 rfl Tryz.call130 (by decide) (by kernel_rfl) A8x (by intro _ (y:(List Str)) _;exact⟨by simp[Fx,con,A9,A8,AV.noRd,A7,Ab,A5,A6],by simp[Fx,con,A9,A8,AV.noRd,A7,Ab,A5,A6]⟩) (by intro(y:(List Str)) _;first|(simp[Fx,con,A9,A8,Ad,AV.free,A2,A3,A1,A6];done)|(obtain⟨_,_⟩:=y;simp[Fx,con,A9,A8,Ad,AV.free,A2,A3,A1,A6];done)|(obtain⟨_,_,_⟩:=y;simp[Fx,con,A9,A8,Ad,AV.free,A2,A3,A1,A6];done))
def Ek:Bd:=con [mC] false Str A6 (fun l=>sml l.length) (fun l=>.own 1 ((names l).map A6))
def B5p:Env:=⟨A4 B5,A4 [(75,D3),(117,I9),(130,Fx)],[0,2,9]⟩
theorem B4l:B6 B5p (Av Tryz.f85) Tryz.f85.results.toList Ek:=by
 intro(s:Str) hs;have hs:s.length≤4194304:=hs;refine⟨trivial,?_⟩;conv=>whnf
 refine⟨s,rfl,fun _=>hs,?_⟩;repeat((conv=>whnf);refine⟨fun h=>h,?_⟩)
 (conv=>whnf);refine⟨fun h1=>?_,fun h1=>?_⟩
 ·conv=>whnf
  exact⟨trivial,P1 (by
   have h1:((!B4 s)||(s==sl))=true:=h1;have:names s=[]:=by
    rw[names,if_neg];revert h1;cases B4 s<;>cases(s==sl)<;>simp
   rw[this];rfl)⟩
 have h1:((!B4 s)||(s==sl))=false:=h1;have hd:names s=(Aq 47 s).drop 1:=by
  rw[names,if_pos];revert h1;cases B4 s<;>cases(s==sl)<;>simp
 have hq:=R9 (c:=47) s;have hp:=Su 47 s;conv=>whnf
 refine⟨(s,47),rfl,fun _=>hs,?_⟩;repeat((conv=>whnf);refine⟨fun _=>⟨bb,bb,bb⟩,?_⟩)
 refine⟨(Aq 47 s).drop 1,by refine congrArg (fun x=>[AV.rd 1 x]) ?_;rw[C5q,List.take_of_length_le (by simp)];rfl,fun _=>by show _≤_;simp;omega,?_⟩;conv=>whnf
 exact⟨trivial,P1 (by rw[hd];(try simp only[List.drop_zero,List.take_length,Q1]))⟩
theorem Kv:Au Tryz.prog 85 Ek:=Al (Bx _ _) (FOk.cons Gb (FOk.cons Y0 (FOk.cons Qu FOk.nil))) mixed Tryz.func85 rfl Tryz.call85 (by decide) (by kernel_rfl) B4l (by intro _ (y:Str) _;exact⟨by simp[Ek,con,A9,A8,AV.noRd,A7,Ab,A5,A6],by simp[Ek,con,A9,A8,AV.noRd,A7,Ab,A5,A6]⟩) (by intro(y:Str) _;first|(simp[Ek,con,A9,A8,Ad,AV.free,A2,A3,A1,A6];done)|(obtain⟨_,_⟩:=y;simp[Ek,con,A9,A8,Ad,AV.free,A2,A3,A1,A6];done)|(obtain⟨_,_,_⟩:=y;simp[Ek,con,A9,A8,Ad,AV.free,A2,A3,A1,A6];done))
def Fy:Bd:=con [mS 1] true (List Str) (fun l=>[.rd 1 (l.map A6)]) (fun l=>l.length+(l.map List.length).sum<4194304) (fun l=>.str (E3 l))
def B01:Env:=⟨A4 B5,A4 [(75,D3),(85,Ek)],[0,2,3,4,8,20,31]⟩
theorem B1n:B6 B01 (Av Tryz.f119) Tryz.f119.results.toList Fy:=by
 intro(l:List Str) hs;have hs:l.length+(l.map List.length).sum<4194304:=hs;refine⟨trivial,?_⟩;skip;refine B2 (fun i:Nat=>⟨[(0,⟨none,.rd 1 (l.map A6)⟩),(3,⟨none,.str (cat (l.take i))⟩),(4,⟨none,.int .i64 i⟩)],[],0⟩) (fun i=>i≤l.length) (fun i=>l.length - i) 0 ?_ (by omega) ?_
 ·(refine⟨?_,?_,rfl⟩<;>repeat' (first|exact rfl|exact trivial|refine⟨?_,?_⟩|fail)<;>(conv=>whnf))
 intro i hi
 (conv=>whnf);refine⟨fun h1=>?_,fun h1=>?_⟩
 ·have h1:i<l.length:=by simpa using h1
  obtain⟨b,hb⟩:=B7 h1;have hl:(cat (l.take i)).length+b.length+1≤4194304:=by
   have h2:=A5n l (i+1);rw[Bk hb]at h2;rw[Zu];simp at h2⊢;omega
  repeat((conv=>whnf);first|refine⟨_,w64 (bb),?_⟩|refine⟨bb,?_⟩|refine⟨A6 b,fun _=>⟨by omega,by simp[hb]⟩,?_⟩)
  refine Bt (i+1) ?_ h1 (by first|omega|(simp;done)|(simp;omega))
  ·(refine⟨?_,?_,rfl⟩<;>repeat' (first|exact rfl|exact trivial|refine⟨?_,?_⟩|fail)<;>(conv=>whnf))
   rw[Bk hb,Od];simp[cat]
 ·have h1:i=l.length:=by
   have hi:i≤l.length:=hi;have:¬i<l.length:=by simpa using h1
   omega
  subst h1;rw[List.take_length];have hl:=A5a l;have e:L6 l=if(l.length==0)=true then sl else cat l:=by cases l<;>rfl
  have hps:=B8g l;have hpl:(L6 l).length≤4194304:=by omega
  (conv=>whnf);refine⟨fun h2=>?_,fun h2=>?_⟩
  ·have h2:l=[]:=by simpa using h2
   have hc:sl=L6 l:=by subst h2;rfl
   conv=>whnf
   refine⟨L6 l,by rw[←hc];rfl,fun _=>hpl,?_⟩
   (conv=>whnf);refine⟨fun h3=>?_,fun h3=>?_⟩
   ·have h3:B4 (L6 l)=true:=by
     have h3:(!!B4 (L6 l))=true:=h3;simpa using h3
    repeat((conv=>whnf);refine⟨fun(h:Cy _)=>by first|assumption|exact absurd (Eq.trans (Eq.symm h) (by assumption):true=false) Bool.noConfusion,?_⟩)
    refine⟨L6 l,by rw[←hc];rfl,fun _=>hpl,?_⟩;repeat((conv=>whnf);refine⟨fun h=>h,?_⟩)
    (conv=>whnf);refine⟨fun h4=>?_,fun h4=>?_⟩
    ·conv=>whnf
     exact⟨trivial,eqS (by
      have h4:((!B4 (L6 l))|| !((((names (L6 l)).map A6).length:Int)==((l.map A6).length:Int)))=true:=h4;rw[hps,if_neg];rw[h3]at h4⊢;simp at h4⊢;omega)⟩
    ·conv=>whnf
     exact⟨trivial,eqS (by
      have h4:((!B4 (L6 l))|| !((((names (L6 l)).map A6).length:Int)==((l.map A6).length:Int)))=false:=h4;rw[hps,if_pos]
      ·exact hc
      rw[h3]at h4⊢;simp at h4⊢;omega)⟩
   ·have h3:B4 (L6 l)=false:=by
     have h3:(!!B4 (L6 l))=false:=h3;simpa using h3
    repeat((conv=>whnf);first|refine⟨fun h=>h,?_⟩|refine⟨fun(h:Cy _)=>by first|assumption|exact absurd (Eq.trans (Eq.symm h) (by assumption):true=false) Bool.noConfusion,?_⟩|refine⟨fun h=>(absurd (Eq.trans (Eq.symm h) (by assumption):true=false) Bool.noConfusion:False),?_⟩)
    (conv=>whnf);refine⟨fun h4=>?_,fun h4=>?_⟩
    ·conv=>whnf
     exact⟨trivial,eqS (by rw[hps,if_neg];simp[h3])⟩
    ·cases h4
  ·have h2:l≠[]:=by simpa using h2
   have hc:cat l=L6 l:=by rw[e,if_neg];simpa using h2
   conv=>whnf
   refine⟨L6 l,by rw[←hc];rfl,fun _=>hpl,?_⟩
   (conv=>whnf);refine⟨fun h3=>?_,fun h3=>?_⟩
   ·have h3:B4 (L6 l)=true:=by
     have h3:(!!B4 (L6 l))=true:=h3;simpa using h3
    repeat((conv=>whnf);refine⟨fun(h:Cy _)=>by first|assumption|exact absurd (Eq.trans (Eq.symm h) (by assumption):true=false) Bool.noConfusion,?_⟩)
    refine⟨L6 l,by rw[←hc];rfl,fun _=>hpl,?_⟩;repeat((conv=>whnf);refine⟨fun h=>h,?_⟩)
    (conv=>whnf);refine⟨fun h4=>?_,fun h4=>?_⟩
    ·conv=>whnf
     exact⟨trivial,eqS (by
      have h4:((!B4 (L6 l))|| !((((names (L6 l)).map A6).length:Int)==((l.map A6).length:Int)))=true:=h4;rw[hps,if_neg];rw[h3]at h4⊢;simp at h4⊢;omega)⟩
    ·conv=>whnf
     exact⟨trivial,eqS (by
      have h4:((!B4 (L6 l))|| !((((names (L6 l)).map A6).length:Int)==((l.map A6).length:Int)))=false:=h4;rw[hps,if_pos]
      ·exact hc
      rw[h3]at h4⊢;simp at h4⊢;omega)⟩
   ·have h3:B4 (L6 l)=false:=by
     have h3:(!!B4 (L6 l))=false:=h3;simpa using h3
    repeat((conv=>whnf);first|refine⟨fun h=>h,?_⟩|refine⟨fun(h:Cy _)=>by first|assumption|exact absurd (Eq.trans (Eq.symm h) (by assumption):true=false) Bool.noConfusion,?_⟩|refine⟨fun h=>(absurd (Eq.trans (Eq.symm h) (by assumption):true=false) Bool.noConfusion:False),?_⟩)
    (conv=>whnf);refine⟨fun h4=>?_,fun h4=>?_⟩
    ·conv=>whnf
     exact⟨trivial,eqS (by rw[hps,if_neg];simp[h3])⟩
    ·cases h4
theorem Pz:Au Tryz.prog 119 Fy:=Al (Bx _ _) (FOk.cons Gb (FOk.cons Kv FOk.nil)) mixed Tryz.func119 rfl Tryz.call119 (by decide) (by kernel_rfl) B1n (by intro _ (y:(List Str)) _;exact⟨by simp[Fy,con,A9,A8,AV.noRd,A7,Ab,A5,A6],by simp[Fy,con,A9,A8,AV.noRd,A7,Ab,A5,A6]⟩) (by intro(y:(List Str)) _;first|(simp[Fy,con,A9,A8,Ad,AV.free,A2,A3,A1,A6];done)|(obtain⟨_,_⟩:=y;simp[Fy,con,A9,A8,Ad,AV.free,A2,A3,A1,A6];done)|(obtain⟨_,_,_⟩:=y;simp[Fy,con,A9,A8,Ad,AV.free,A2,A3,A1,A6];done))
def Gc:Bd:=con [mC] true Str A6 (fun l=>sml l.length) (fun l=>.str (Bl l))
def B4u:Env:=⟨A4 B5,A4 [(75,D3),(85,Ek),(119,Fy)],[0,2,3,8,11]⟩
theorem B50:B6 B4u (Av Tryz.f77) Tryz.f77.results.toList Gc:=by
 intro(s:Str) hs;have hs:s.length≤4194304:=hs;refine⟨trivial,?_⟩;conv=>whnf
 refine⟨s,rfl,fun _=>hs,?_⟩;conv=>whnf
 refine⟨s,rfl,fun _=>hs,?_⟩
 (conv=>whnf);refine⟨fun h1=>?_,fun h1=>?_⟩
 ·have h1:B4 s=false:=by
   have h1:(!B4 s)=true:=h1;simpa using h1
  conv=>whnf
  exact⟨trivial,eqS (by simp[Bl,h1])⟩
 have h1:B4 s=true:=by
  have h1:(!B4 s)=false:=h1;simpa using h1
 have hd:Bl s=E3 ((names s).take ((names s).length - 1)):=by simp[Bl,h1]
 (conv=>whnf);refine⟨fun h2=>?_,fun h2=>?_⟩
 ·have h2:names s=[]:=by simpa using h2
  conv=>whnf
  exact⟨trivial,eqS (by rw[hd,h2];rfl)⟩
 have h2:0<(names s).length:=by
  have:names s≠[]:=by simpa using h2
  exact List.length_pos_iff.2 this
 have hnl:=Gv (p:=s);have hns:=A1e (p:=s);repeat((conv=>whnf);first|refine⟨_,w64 (bb),?_⟩|refine⟨fun _=>⟨bb,bb,bb⟩,?_⟩)
 refine⟨(names s).take ((names s).length - 1),by
  refine congrArg (fun x=>[AV.rd 1 x]) ?_;rw[C5q];simp only[Int.toNat_natCast,List.drop_zero,List.length_map];congr 2;omega,fun _=>?_,?_⟩
 ·have:=A5n (names s) ((names s).length - 1)
  show _<_;rw[List.length_take];omega
 conv=>whnf
 exact⟨trivial,eqS hd.symm⟩
theorem Ol:Au Tryz.prog 77 Gc:=Al (Bx _ _) (FOk.cons Gb (FOk.cons Kv (FOk.cons Pz FOk.nil))) mixed Tryz.func77 rfl Tryz.call77 (by decide) (by kernel_rfl) B50 (by intro _ (y:Str) _;exact⟨by simp[Gc,con,A9,A8,AV.noRd,A7,Ab,A5,A6],by simp[Gc,con,A9,A8,AV.noRd,A7,Ab,A5,A6]⟩) (by intro(y:Str) _;first|(simp[Gc,con,A9,A8,Ad,AV.free,A2,A3,A1,A6];done)|(obtain⟨_,_⟩:=y;simp[Gc,con,A9,A8,Ad,AV.free,A2,A3,A1,A6];done)|(obtain⟨_,_,_⟩:=y;simp[Gc,con,A9,A8,Ad,AV.free,A2,A3,A1,A6];done))
def Ci:Bd:=con [mS 4,mC] true (Tr×Str) (fun x=>[rdT x.1,.str x.2]) (fun x=>smT x.1) (fun x=>Mx (Aj x.1 x.2))
def A5m:Env:=⟨A4 B5,A4 [],[0,1,2,4,5,6,8,14,24]⟩
theorem A75:B6 A5m (Av Tryz.f45) Tryz.f45.results.toList Ci:=by
 rintro⟨t,p⟩ hs;obtain⟨hs1,hs2⟩:smT t:=hs;refine⟨trivial,?_⟩
 (conv=>whnf);refine⟨fun h1=>?_,fun h1=>?_⟩
 ·have h1:(p==sl)=true:=h1
  conv=>whnf
  rw[show Ci.res (t,p)=.tup [.agg (Aa It.top),.bool true] by show Mx (Aj t p)=_;simp[Aj,h1];rfl];exact⟨trivial,⟨rfl,rfl,rfl,rfl,trivial⟩,rfl,trivial⟩
 have h1:(p==sl)=false:=h1;skip;refine B2 (fun i:Nat=>⟨[(1,⟨none,.str p⟩),(2,⟨none,.bx 0 0⟩),(4,⟨none,.bx 1 0⟩),(6,⟨none,.int .i64 i⟩)],[(1,.own 4 [Aa It.none]),(0,.own 1 [[.rd 4 (t.map Aa)]])],2⟩)
  (fun i=>i≤t.length∧(t.take i).find? (fun x=>x.path==p)=none) (fun i=>t.length - i) 0 ?_ ⟨by omega,rfl⟩ ?_
 ·(refine⟨?_,?_,rfl⟩<;>repeat' (first|exact rfl|exact trivial|refine⟨?_,?_⟩|fail)<;>(conv=>whnf))
 rintro i ⟨hi,hI⟩
 (conv=>whnf);refine⟨fun h2=>?_,fun h2=>?_⟩
 ·have h2:i<t.length:=by simpa using h2
  obtain⟨b,hb⟩:=B7 h2;repeat((conv=>whnf);refine⟨Aa b,fun _=>⟨by omega,by simp[hb]⟩,?_⟩)
  (conv=>whnf);refine⟨fun h3=>?_,fun h3=>?_⟩
  ·have h3:(b.path==p)=true:=h3
   repeat((conv=>whnf);refine⟨Aa b,fun _=>⟨by omega,by simp[hb]⟩,?_⟩)
   rw[show Ci.res (t,p)=.tup [.agg (Aa b),.bool true] by show Mx (Aj t p)=_;simp[Aj,h1,A8l hI hb h3,Mx]];exact⟨trivial,⟨rfl,rfl,rfl,rfl,trivial⟩,rfl,trivial⟩
  ·have h3:(b.path==p)=false:=h3
   repeat((conv=>whnf);refine⟨_,w64 (bb),?_⟩)
   refine Bt (i+1) ?_ ⟨h2,A6e hI hb h3⟩ (by first|omega|(simp;done)|(simp;omega))
   (refine⟨?_,?_,rfl⟩<;>repeat' (first|exact rfl|exact trivial|refine⟨?_,?_⟩|fail)<;>(conv=>whnf))
 ·have h2:i=t.length:=by
   have:¬i<t.length:=by simpa using h2
   omega
  subst h2;rw[List.take_length]at hI;skip;rw[show Ci.res (t,p)=.tup [.agg (Aa It.none),.bool false] by show Mx (Aj t p)=_;simp[Aj,h1,hI,Mx]];exact⟨trivial,⟨rfl,rfl,rfl,rfl,trivial⟩,rfl,trivial⟩
theorem Fj:Au Tryz.prog 45 Ci:=Al (Bx _ _) FOk.nil mixed Tryz.func45 rfl Tryz.call45 (by decide) (by kernel_rfl) A75 (by intro _ (y:Tr×Str) _;refine⟨?_,trivial⟩;show AV.noRd (Mx (Aj y.1 y.2));simp[Mx,AV.noRd,A7,Aa]) (by intro(y:(Tr×Str)) _;first|(simp[Ci,con,A9,A8,Ad,AV.free,A2,A3,A1,A6,rdT,Aa];done)|(obtain⟨_,_⟩:=y;simp[Ci,con,A9,A8,Ad,AV.free,A2,A3,A1,A6,rdT,Aa];done)|(obtain⟨_,_,_⟩:=y;simp[Ci,con,A9,A8,Ad,AV.free,A2,A3,A1,A6,rdT,Aa];done))
def Fc:Bd:=con [mS 4] true Tr (fun t=>[rdT t]) smT (fun t=>.bool (Ar t))
def A8z:Env:=⟨A4 B5,A4 [(45,Ci),(75,D3),(76,Ch),(77,Gc)],[0,1,2,3,4,5,6,10,15,65,78,93]⟩
theorem B1k:B6 A8z (Av Tryz.f38) Tryz.f38.results.toList Fc:=by
 intro(t:Tr) hs;obtain⟨hs1,hs2⟩:smT t:=hs;refine⟨trivial,?_⟩
 (conv=>whnf);refine⟨fun h1=>?_,fun h1=>?_⟩
 ·conv=>whnf
  exact⟨trivial,eqB (by have h1:¬t.length≤40:=by simp at h1;omega
                        simp[Ar,h1])⟩
 have h1:t.length≤40:=by simp at h1;omega
 skip;refine B2 (fun i:Nat=>⟨[(1,⟨none,.bx 0 0⟩),(3,⟨none,.int .i64 i⟩)],[(0,.own 1 [[.rd 4 (t.map Aa)]])],1⟩)
  (fun i=>i≤t.length∧∀j,j<i→chk t j=true) (fun i=>t.length - i) 0 ?_ ⟨by omega,fun j hj=>by omega⟩ ?_
 ·(refine⟨?_,?_,rfl⟩<;>repeat' (first|exact rfl|exact trivial|refine⟨?_,?_⟩|fail)<;>(conv=>whnf))
 rintro i ⟨hi,hI⟩
 (conv=>whnf);refine⟨fun h2=>?_,fun h2=>?_⟩
 ·have h2:i<t.length:=by simpa using h2
  obtain⟨b,hb⟩:=B7 h2;have hbs:=hs2 b (List.mem_of_getElem? hb);have hbad:∀{q:Bool},chk t i=q→q=false→Ar t=false:=fun h e=>A6y h2 (h.trans e);repeat((conv=>whnf);refine⟨Aa b,fun _=>⟨by omega,by simp[hb]⟩,?_⟩)
  conv=>whnf
  refine⟨b.path,rfl,fun _=>hbs.1,?_⟩;generalize hpv:t.getD (i - 1) It.none=pv;have hprev:0<i→t[i - 1]? =some pv:=fun h=>by
   rw[←hpv,List.getD_eq_getElem?_getD,List.getElem?_eq_getElem (by omega)];rfl
  have hix:∀{A:Bool},Cy (some (A&&decide ((i:Int)>0)))→(0:Int)≤(i:Int) - 1∧(t.map Aa)[((i:Int) - 1).toNat]? =some (Aa pv):=by
   intro A h;have hi0:0<i:=by simp[Cy]at h;omega
   exact⟨by omega,by rw[show((i:Int) - 1).toNat=i - 1 by omega];exact Ao (hprev hi0)⟩
  repeat((conv=>whnf);first|refine⟨fun h=>h,?_⟩|refine⟨(by kernel_rfl:Bu _ _=true),?_⟩|refine⟨_,w64 (bb),?_⟩|refine⟨Aa pv,fun h=>hix h,?_⟩|refine⟨(_,_,_),rfl,fun _=>trivial,?_⟩)
  (conv=>whnf);refine⟨fun h3=>?_,fun h3=>?_⟩
  ·conv=>whnf
   exact⟨trivial,eqB (hbad (C4r hb hpv h3) rfl).symm⟩
  have h3:C62 i b pv=false:=h3;repeat((conv=>whnf);refine⟨fun h=>h,?_⟩)
  (conv=>whnf);refine⟨fun h4=>?_,fun h4=>?_⟩
  ·conv=>whnf
   exact⟨trivial,eqB (hbad (C6g hb h4) rfl).symm⟩
  have h4:C4d b=false:=h4;conv=>whnf
  refine⟨b.path,rfl,fun _=>hbs.1,?_⟩;conv=>whnf
  refine⟨(t,Bl b.path),rfl,fun _=>⟨hs1,hs2⟩,?_⟩;repeat((conv=>whnf);first|refine⟨fun h=>h,?_⟩|refine⟨(by kernel_rfl:Bu _ _=true),?_⟩)
  (conv=>whnf);refine⟨fun h5=>?_,fun h5=>?_⟩
  ·conv=>whnf
   exact⟨trivial,eqB (hbad (B9m hb (by
    have h5:(!(Aj t (Bl b.path)).isSome||((Aj t (Bl b.path)).getD It.none).kind !=2)=true:=h5;unfold N6;revert h5;cases(Aj t (Bl b.path)).isSome<;>simp)) rfl).symm⟩
  have h5:N6 t (Bl b.path)=true:=by
   have h5:(!(Aj t (Bl b.path)).isSome||((Aj t (Bl b.path)).getD It.none).kind !=2)=false:=h5;unfold N6;revert h5;cases(Aj t (Bl b.path)).isSome<;>simp
  repeat((conv=>whnf);refine⟨_,w64 (bb),?_⟩)
  refine Bt (i+1) ?_ ⟨h2,fun j hj=>?_⟩ (by first|omega|(simp;done)|(simp;omega))
  ·(refine⟨?_,?_,rfl⟩<;>repeat' (first|exact rfl|exact trivial|refine⟨?_,?_⟩|fail)<;>(conv=>whnf))
  ·rcases Nat.lt_or_ge j i with h|h
   ·exact hI j h
   ·rw[show j=i by omega];exact C5k hb hpv h3 h4 h5
 ·have h2:i=t.length:=by
   have:¬i<t.length:=by simpa using h2
   omega
  subst h2;conv=>whnf
  exact⟨trivial,eqB (Wo h1 hI).symm⟩
theorem Nt:Au Tryz.prog 38 Fc:=Al (Bx _ _) (FOk.cons Fj (FOk.cons Gb (FOk.cons Di (FOk.cons Ol FOk.nil)))) mixed Tryz.func38 rfl Tryz.call38 (by decide) (by kernel_rfl) B1k (by intro _ (y:Tr) _;exact⟨by simp[Fc,con,A9,A8,AV.noRd,A7,Ab,A5,A6],by simp[Fc,con,A9,A8,AV.noRd,A7,Ab,A5,A6]⟩) (by intro(y:Tr) _;first|(simp[Fc,con,A9,A8,Ad,AV.free,A2,A3,A1,A6,rdT,Aa];done)|(obtain⟨_,_⟩:=y;simp[Fc,con,A9,A8,Ad,AV.free,A2,A3,A1,A6,rdT,Aa];done)|(obtain⟨_,_,_⟩:=y;simp[Fc,con,A9,A8,Ad,AV.free,A2,A3,A1,A6,rdT,Aa];done))
end Go.GH
namespace Go.Proofs
open Go.Shelf
def Tryz.lays156_ren:Go.Shelf.Ren:=⟨fun|156=>95|165=>132|166=>133|169=>134|240=>172|241=>173|276=>195|277=>196|n=>n,fun|31=>36|9=>9|3=>3|4=>4|0=>0|20=>20|72=>140|76=>144|70=>138|37=>22|75=>143|127=>189|164=>207|5=>5|80=>146|n=>n,fun|n=>n⟩
theorem Tryz.lays156:Go.Proofs.Lays.n156 Tryz.prog Tryz.lays156_ren:={
 mixed:=by kernel_rfl
 f156:=Tryz.func95.trans (congrArg some (by kernel_rfl))
 f165:=Tryz.func132.trans (congrArg some (by kernel_rfl))
 f166:=Tryz.func133.trans (congrArg some (by kernel_rfl))
 f169:=Tryz.func134.trans (congrArg some (by kernel_rfl))
 f240:=Tryz.func172.trans (congrArg some (by kernel_rfl))
 f241:=Tryz.func173.trans (congrArg some (by kernel_rfl))
 f276:=Tryz.func195.trans (congrArg some (by kernel_rfl))
 f277:=Tryz.func196.trans (congrArg some (by kernel_rfl))
 t0:=Tryz.underlying0
 a0:=Tryz.isAgg0
 z0:=Tryz.sizeOf0
 v0:=Tryz.zeroValue0
 t3:=Tryz.underlying3
 a3:=Tryz.isAgg3
 z3:=Tryz.sizeOf3
 v3:=Tryz.zeroValue3
 t4:=Tryz.underlying4
 a4:=Tryz.isAgg4
 z4:=Tryz.sizeOf4
 v4:=Tryz.zeroValue4
 t9:=Tryz.underlying9
 a9:=Tryz.isAgg9
 z9:=Tryz.sizeOf9
 v9:=Tryz.zeroValue9
 t20:=Tryz.underlying20
 a20:=Tryz.isAgg20
 z20:=Tryz.sizeOf20
 v20:=Tryz.zeroValue20
 t31:=Tryz.underlying36
 a31:=Tryz.isAgg36
 z31:=Tryz.sizeOf36
 v31:=Tryz.zeroValue36
 t37:=Tryz.underlying22
 a37:=Tryz.isAgg22
 z37:=Tryz.sizeOf22
 v37:=Tryz.zeroValue22
 t70:=Tryz.underlying138
 a70:=Tryz.isAgg138
 z70:=Tryz.sizeOf138
 v70:=Tryz.zeroValue138
 t72:=Tryz.underlying140
 a72:=Tryz.isAgg140
 z72:=Tryz.sizeOf140
 v72:=Tryz.zeroValue140
 t75:=Tryz.underlying143
 a75:=Tryz.isAgg143
 z75:=Tryz.sizeOf143
 v75:=Tryz.zeroValue143
 t76:=Tryz.underlying144
 a76:=Tryz.isAgg144
 z76:=Tryz.sizeOf144
 v76:=Tryz.zeroValue144
 t127:=Tryz.underlying189
 a127:=Tryz.isAgg189
 z127:=Tryz.sizeOf189
 v127:=Tryz.zeroValue189
 t164:=Tryz.underlying207
 a164:=Tryz.isAgg207
 z164:=Tryz.sizeOf207
 v164:=Tryz.zeroValue207}
theorem Tryz.Builder_Extra_156:Builder.Extra Tryz.prog Tryz.lays156_ren:={
 sizeBuilder:=by kernel_rfl
 liesBuilder:=by kernel_rfl
 t5:=Tryz.underlying5
 a5:=Tryz.isAgg5
 z5:=Tryz.sizeOf5
 v5:=Tryz.zeroValue5
 infoByte:=by kernel_rfl
 cellsByte:=by kernel_rfl
 sizeByte:=by kernel_rfl
 neB5:=by decide}
open Go.RowKit in
theorem Tryz.strings_Join_none(a:Option Addr)(c:Nat)(sep:ByteArray)(w:World):
 Calls Tryz.prog 95 #[.slice a 0 c,.string sep] w fun e w'=>e=.returned (.string ⟨#[]⟩)∧w'=w:=Any.strings_Join_none Tryz.lays156 Tryz.Builder_Extra_156 a c sep w
open Go.RowKit in
theorem Tryz.strings_Join(bk o c:Nat)(xs:List ByteArray)(sep:ByteArray)(w:World)(hcells:∀(j:Nat) x,xs[j]? =some x→w.cell? ⟨bk,o+j,none⟩=some (.string x))(hbk:bk<w.heap.size)(hN:xs.length≤140737488355328)(hcap:xs.length≤c)(hlen:(Lib.join (xs.map (·.data.toList)) sep.data.toList).length≤140737488355328):
 Calls Tryz.prog 95 #[.slice (some ⟨bk,o,none⟩) xs.length c,.string sep] w fun e w'=>e=.returned (.string ⟨(Lib.join (xs.map (·.data.toList)) sep.data.toList).toArray⟩)∧Below w.heap.size w w':=Any.strings_Join Tryz.lays156 Tryz.Builder_Extra_156 bk o c xs sep w hcells hbk hN hcap hlen
def Tryz.lays106_ren:Go.Shelf.Ren:=⟨fun|106=>115|213=>157|265=>183|n=>n,fun|9=>9|3=>3|n=>n,fun|n=>n⟩
theorem Tryz.lays106:Go.Proofs.Lays.n106 Tryz.prog Tryz.lays106_ren:={
 mixed:=by kernel_rfl
 f106:=Tryz.func115.trans (congrArg some (by kernel_rfl))
 f213:=Tryz.func157.trans (congrArg some (by kernel_rfl))
 f265:=Tryz.func183.trans (congrArg some (by kernel_rfl))
 t3:=Tryz.underlying3
 a3:=Tryz.isAgg3
 z3:=Tryz.sizeOf3
 v3:=Tryz.zeroValue3
 t9:=Tryz.underlying9
 a9:=Tryz.isAgg9
 z9:=Tryz.sizeOf9
 v9:=Tryz.zeroValue9}
open Go.RowKit in
theorem Tryz.strings_Compare(a b:ByteArray)(w:World):
 Calls Tryz.prog 115 #[.string a,.string b] w fun e w'=>e=.returned (.int .i64 (Lib.compareBytes a.data.toList b.data.toList))∧w'=w:=Any.strings_Compare Tryz.lays106 a b w
def Tryz.lays99_ren:Go.Shelf.Ren:=⟨fun|99=>84|206=>129|n=>n,fun|9=>9|4=>4|3=>3|n=>n,fun|n=>n⟩
theorem Tryz.lays99:Go.Proofs.Lays.n99 Tryz.prog Tryz.lays99_ren:={
 mixed:=by kernel_rfl
 f99:=Tryz.func84.trans (congrArg some (by kernel_rfl))
 f206:=Tryz.func129.trans (congrArg some (by kernel_rfl))
 t3:=Tryz.underlying3
 a3:=Tryz.isAgg3
 z3:=Tryz.sizeOf3
 v3:=Tryz.zeroValue3
 t4:=Tryz.underlying4
 a4:=Tryz.isAgg4
 z4:=Tryz.sizeOf4
 v4:=Tryz.zeroValue4
 t9:=Tryz.underlying9
 a9:=Tryz.isAgg9
 z9:=Tryz.sizeOf9
 v9:=Tryz.zeroValue9}
open Go.RowKit Go.Lib in
theorem Tryz.strings_HasPrefix(s p:ByteArray)(w:World):
 Calls Tryz.prog 84 #[.string s,.string p] w fun e w'=>e=.returned (.bool (Lib.hasPrefix s.data.toList p.data.toList))∧w'=w:=Any.strings_HasPrefix Tryz.lays99 s p w
def Tryz.lays101_ren:Go.Shelf.Ren:=⟨fun|101=>145|208=>177|206=>129|n=>n,fun|9=>9|4=>4|3=>3|n=>n,fun|n=>n⟩
theorem Tryz.lays101:Go.Proofs.Lays.n101 Tryz.prog Tryz.lays101_ren:={
 mixed:=by kernel_rfl
 f101:=Tryz.func145.trans (congrArg some (by kernel_rfl))
 f206:=Tryz.func129.trans (congrArg some (by kernel_rfl))
 f208:=Tryz.func177.trans (congrArg some (by kernel_rfl))
 t3:=Tryz.underlying3
 a3:=Tryz.isAgg3
 z3:=Tryz.sizeOf3
 v3:=Tryz.zeroValue3
 t4:=Tryz.underlying4
 a4:=Tryz.isAgg4
 z4:=Tryz.sizeOf4
 v4:=Tryz.zeroValue4
 t9:=Tryz.underlying9
 a9:=Tryz.isAgg9
 z9:=Tryz.sizeOf9
 v9:=Tryz.zeroValue9}
open Go.RowKit Go.Lib in
theorem Tryz.strings_TrimPrefix(s p:ByteArray)(w:World):
 Calls Tryz.prog 145 #[.string s,.string p] w fun e w'=>e=.returned (.string ⟨(Lib.trimPrefix s.data.toList p.data.toList).toArray⟩)∧w'=w:=Any.strings_TrimPrefix Tryz.lays101 s p w
def Tryz.lays105_ren:Go.Shelf.Ren:=⟨fun|105=>176|212=>197|99=>84|165=>132|166=>133|170=>198|169=>134|263=>209|264=>210|206=>129|240=>172|241=>173|276=>195|277=>196|n=>n,fun|9=>9|3=>3|4=>4|20=>20|0=>0|46=>124|109=>210|5=>5|72=>140|76=>144|51=>165|146=>224|53=>167|148=>226|70=>138|37=>22|75=>143|127=>189|164=>207|80=>146|n=>n,fun|n=>n⟩
theorem Tryz.lays105:Go.Proofs.Lays.n105 Tryz.prog Tryz.lays105_ren:={
 mixed:=by kernel_rfl
 f99:=Tryz.func84.trans (congrArg some (by kernel_rfl))
 f105:=Tryz.func176.trans (congrArg some (by kernel_rfl))
 f165:=Tryz.func132.trans (congrArg some (by kernel_rfl))
 f166:=Tryz.func133.trans (congrArg some (by kernel_rfl))
 f169:=Tryz.func134.trans (congrArg some (by kernel_rfl))
 f170:=Tryz.func198.trans (congrArg some (by kernel_rfl))
 f206:=Tryz.func129.trans (congrArg some (by kernel_rfl))
 f212:=Tryz.func197.trans (congrArg some (by kernel_rfl))
 f240:=Tryz.func172.trans (congrArg some (by kernel_rfl))
 f241:=Tryz.func173.trans (congrArg some (by kernel_rfl))
 f263:=Tryz.func209.trans (congrArg some (by kernel_rfl))
 f264:=Tryz.func210.trans (congrArg some (by kernel_rfl))
 f276:=Tryz.func195.trans (congrArg some (by kernel_rfl))
 f277:=Tryz.func196.trans (congrArg some (by kernel_rfl))
 t0:=Tryz.underlying0
 a0:=Tryz.isAgg0
 z0:=Tryz.sizeOf0
 v0:=Tryz.zeroValue0
 t3:=Tryz.underlying3
 a3:=Tryz.isAgg3
 z3:=Tryz.sizeOf3
 v3:=Tryz.zeroValue3
 t4:=Tryz.underlying4
 a4:=Tryz.isAgg4
 z4:=Tryz.sizeOf4
 v4:=Tryz.zeroValue4
 t5:=Tryz.underlying5
 a5:=Tryz.isAgg5
 z5:=Tryz.sizeOf5
 v5:=Tryz.zeroValue5
 t9:=Tryz.underlying9
 a9:=Tryz.isAgg9
 z9:=Tryz.sizeOf9
 v9:=Tryz.zeroValue9
 t20:=Tryz.underlying20
 a20:=Tryz.isAgg20
 z20:=Tryz.sizeOf20
 v20:=Tryz.zeroValue20
 t37:=Tryz.underlying22
 a37:=Tryz.isAgg22
 z37:=Tryz.sizeOf22
 v37:=Tryz.zeroValue22
 t46:=Tryz.underlying124
 a46:=Tryz.isAgg124
 z46:=Tryz.sizeOf124
 v46:=Tryz.zeroValue124
 t51:=Tryz.underlying165
 a51:=Tryz.isAgg165
 z51:=Tryz.sizeOf165
 v51:=Tryz.zeroValue165
 t53:=Tryz.underlying167
 a53:=Tryz.isAgg167
 z53:=Tryz.sizeOf167
 v53:=Tryz.zeroValue167
 t70:=Tryz.underlying138
 a70:=Tryz.isAgg138
 z70:=Tryz.sizeOf138
 v70:=Tryz.zeroValue138
 t72:=Tryz.underlying140
 a72:=Tryz.isAgg140
 z72:=Tryz.sizeOf140
 v72:=Tryz.zeroValue140
 t75:=Tryz.underlying143
 a75:=Tryz.isAgg143
 z75:=Tryz.sizeOf143
 v75:=Tryz.zeroValue143
 t76:=Tryz.underlying144
 a76:=Tryz.isAgg144
 z76:=Tryz.sizeOf144
 v76:=Tryz.zeroValue144
 t109:=Tryz.underlying210
 a109:=Tryz.isAgg210
 z109:=Tryz.sizeOf210
 v109:=Tryz.zeroValue210
 t127:=Tryz.underlying189
 a127:=Tryz.isAgg189
 z127:=Tryz.sizeOf189
 v127:=Tryz.zeroValue189
 t146:=Tryz.underlying224
 a146:=Tryz.isAgg224
 z146:=Tryz.sizeOf224
 v146:=Tryz.zeroValue224
 t148:=Tryz.underlying226
 a148:=Tryz.isAgg226
 z148:=Tryz.sizeOf226
 v148:=Tryz.zeroValue226
 t164:=Tryz.underlying207
 a164:=Tryz.isAgg207
 z164:=Tryz.sizeOf207
 v164:=Tryz.zeroValue207}
theorem Tryz.Builder_Extra_105:Builder.Extra Tryz.prog Tryz.lays105_ren:={
 sizeBuilder:=by kernel_rfl
 liesBuilder:=by kernel_rfl
 t5:=Tryz.underlying5
 a5:=Tryz.isAgg5
 z5:=Tryz.sizeOf5
 v5:=Tryz.zeroValue5
 infoByte:=by kernel_rfl
 cellsByte:=by kernel_rfl
 sizeByte:=by kernel_rfl
 neB5:=by decide}
open Go.RowKit Go.Lib in
theorem Tryz.strings_Repeat(s:ByteArray)(c:Nat)(w:World)(hc:c≤9223372036854775807)(hlen:s.size*c≤140737488355328):
 Calls Tryz.prog 176 #[.string s,.int .i64 c] w fun e w'=>e=.returned (.string ⟨(Lib.repeatL s.data.toList c).toArray⟩)∧Below w.heap.size w w':=Any.strings_Repeat Tryz.lays105 Tryz.Builder_Extra_105 s c w hc hlen
end Go.Proofs
namespace Go.GH
open Go Go.Proofs
def Dw:Bd:=con [mC] true Str A6 (fun s=>s.length≤4611686018427387904) (fun s=>.bool (!D5 s))
def Yv:Env:=⟨A4 B5,A4 [(94,H0)],[0,2]⟩
theorem Z7:B6 Yv (Av Tryz.f93) Tryz.f93.results.toList Dw:=by
 intro(s:Str) hs;have hs:s.length≤4611686018427387904:=hs;refine⟨trivial,?_⟩;conv=>whnf
 refine⟨s,rfl,fun _=>hs,?_⟩;conv=>whnf
 exact⟨trivial,rfl⟩
theorem Mn:Au Tryz.prog 93 Dw:=Al (Bx _ _) (FOk.cons Vy FOk.nil) mixed Tryz.func93 rfl Tryz.call93 (by decide) (by kernel_rfl) Z7 (by intro _ (y:Str) _;exact⟨by simp[Dw,con,A9,A8,AV.noRd,A7,Ab,A5,A6],by simp[Dw,con,A9,A8,AV.noRd,A7,Ab,A5,A6]⟩) (by intro(y:Str) _;first|(simp[Dw,con,A9,A8,Ad,AV.free,A2,A3,A1,A6];done)|(obtain⟨_,_⟩:=y;simp[Dw,con,A9,A8,Ad,AV.free,A2,A3,A1,A6];done)|(obtain⟨_,_,_⟩:=y;simp[Dw,con,A9,A8,Ad,AV.free,A2,A3,A1,A6];done))
def Ew:Bd:=con [mC] true Str A6 (fun s=>s.length≤4611686018427387904) (fun s=>.bool (!D5 s))
def A42:Env:=⟨A4 B5,A4 [(94,H0)],[0,2]⟩
theorem A3k:B6 A42 (Av Tryz.f96) Tryz.f96.results.toList Ew:=by
 intro(s:Str) hs;have hs:s.length≤4611686018427387904:=hs;refine⟨trivial,?_⟩;conv=>whnf
 refine⟨s,rfl,fun _=>hs,?_⟩;conv=>whnf
 exact⟨trivial,rfl⟩
theorem Oc:Au Tryz.prog 96 Ew:=Al (Bx _ _) (FOk.cons Vy FOk.nil) mixed Tryz.func96 rfl Tryz.call96 (by decide) (by kernel_rfl) A3k (by intro _ (y:Str) _;exact⟨by simp[Ew,con,A9,A8,AV.noRd,A7,Ab,A5,A6],by simp[Ew,con,A9,A8,AV.noRd,A7,Ab,A5,A6]⟩) (by intro(y:Str) _;first|(simp[Ew,con,A9,A8,Ad,AV.free,A2,A3,A1,A6];done)|(obtain⟨_,_⟩:=y;simp[Ew,con,A9,A8,Ad,AV.free,A2,A3,A1,A6];done)|(obtain⟨_,_,_⟩:=y;simp[Ew,con,A9,A8,Ad,AV.free,A2,A3,A1,A6];done))
def Cq:Bd:=con [mS 1,mC] true (List Str×Bool) (fun x=>[.rd 1 (x.1.map A6),.fn (bif x.2 then 93 else 96) []]) (fun x=>smL x.1) (fun x=>.int .i64 (fnd (fun s=> !D5 s) x.1))
def R7:Env:=⟨A4 B5,A4 [(93,Dw),(96,Ew)],[0,1,4,5,7,8,9,16]⟩
theorem R5:B6 R7 (Av Tryz.f131) Tryz.f131.results.toList Cq:=by
 rintro⟨l,q⟩ hs;obtain⟨hs1,hs2⟩:smL l:=hs;cases q with
 |true=>
  refine⟨trivial,?_⟩;conv=>whnf
  refine B2 (fun i:Nat=>⟨[(0,⟨none,.rd 1 (l.map A6)⟩),(1,⟨none,.fn 93 []⟩),(7,⟨none,.int .i64 l.length⟩),(8,⟨none,.int .i64 i⟩)],[],0⟩)
   (fun i=>i≤l.length∧(l.take i).any (fun s=> !D5 s)=false) (fun i=>l.length - i) 0 ?_ ⟨by omega,rfl⟩ ?_
  ·(refine⟨?_,?_,rfl⟩<;>repeat' (first|exact rfl|exact trivial|refine⟨?_,?_⟩|fail)<;>(conv=>whnf))
   all_goals simp
  rintro i ⟨hi,hI⟩
  (conv=>whnf);refine⟨fun h1=>?_,fun h1=>?_⟩
  ·have h1:i<l.length:=by simpa using h1
   obtain⟨b,hb⟩:=B7 h1;have hbs:=hs2 b (List.mem_of_getElem? hb);repeat((conv=>whnf);refine⟨A6 b,fun _=>⟨by omega,by simp[hb]⟩,?_⟩)
   refine⟨b,rfl,fun _=>by show _≤_;omega,?_⟩
   (conv=>whnf);refine⟨fun h2=>?_,fun h2=>?_⟩
   ·have h2:(!D5 b)=true:=h2
    conv=>whnf
    exact⟨trivial,Mu (A4n hI hb h2).symm⟩
   ·have h2:(!D5 b)=false:=h2
    repeat((conv=>whnf);refine⟨_,w64 (bb),?_⟩)
    refine Bt (i+1) ?_ ⟨h1,Ou hI hb h2⟩ (by first|omega|(simp;done)|(simp;omega))
    (refine⟨?_,?_,rfl⟩<;>repeat' (first|exact rfl|exact trivial|refine⟨?_,?_⟩|fail)<;>(conv=>whnf))
  ·have h1:i=l.length:=by
    have:¬i<l.length:=by simpa using h1
    omega
   subst h1;rw[List.take_length]at hI;conv=>whnf
   exact⟨trivial,Mu (Sw hI).symm⟩
 |false=>
  refine⟨trivial,?_⟩;conv=>whnf
  refine B2 (fun i:Nat=>⟨[(0,⟨none,.rd 1 (l.map A6)⟩),(1,⟨none,.fn 96 []⟩),(7,⟨none,.int .i64 l.length⟩),(8,⟨none,.int .i64 i⟩)],[],0⟩)
   (fun i=>i≤l.length∧(l.take i).any (fun s=> !D5 s)=false) (fun i=>l.length - i) 0 ?_ ⟨by omega,rfl⟩ ?_
  ·(refine⟨?_,?_,rfl⟩<;>repeat' (first|exact rfl|exact trivial|refine⟨?_,?_⟩|fail)<;>(conv=>whnf))
   all_goals simp
  rintro i ⟨hi,hI⟩
  (conv=>whnf);refine⟨fun h1=>?_,fun h1=>?_⟩
  ·have h1:i<l.length:=by simpa using h1
   obtain⟨b,hb⟩:=B7 h1;have hbs:=hs2 b (List.mem_of_getElem? hb);repeat((conv=>whnf);refine⟨A6 b,fun _=>⟨by omega,by simp[hb]⟩,?_⟩)
   refine⟨b,rfl,fun _=>by show _≤_;omega,?_⟩
   (conv=>whnf);refine⟨fun h2=>?_,fun h2=>?_⟩
   ·have h2:(!D5 b)=true:=h2
    conv=>whnf
    exact⟨trivial,Mu (A4n hI hb h2).symm⟩
   ·have h2:(!D5 b)=false:=h2
    repeat((conv=>whnf);refine⟨_,w64 (bb),?_⟩)
    refine Bt (i+1) ?_ ⟨h1,Ou hI hb h2⟩ (by first|omega|(simp;done)|(simp;omega))
    (refine⟨?_,?_,rfl⟩<;>repeat' (first|exact rfl|exact trivial|refine⟨?_,?_⟩|fail)<;>(conv=>whnf))
  ·have h1:i=l.length:=by
    have:¬i<l.length:=by simpa using h1
    omega
   subst h1;rw[List.take_length]at hI;conv=>whnf
   exact⟨trivial,Mu (Sw hI).symm⟩
theorem Qq:Au Tryz.prog 131 Cq:=Al (Bx _ _) (FOk.cons Mn (FOk.cons Oc FOk.nil)) mixed Tryz.func131 rfl Tryz.call131 (by decide) (by kernel_rfl) R5 (by intro _ (y:(List Str×Bool)) _;exact⟨by simp[Cq,con,A9,A8,AV.noRd,A7,Ab,A5,A6],by simp[Cq,con,A9,A8,AV.noRd,A7,Ab,A5,A6]⟩) (by intro(y:(List Str×Bool)) _;first|(simp[Cq,con,A9,A8,Ad,AV.free,A2,A3,A1,A6];done)|(obtain⟨_,_⟩:=y;simp[Cq,con,A9,A8,Ad,AV.free,A2,A3,A1,A6];done)|(obtain⟨_,_,_⟩:=y;simp[Cq,con,A9,A8,Ad,AV.free,A2,A3,A1,A6];done))
def Ws:Bd:=con [mS 1,mC] true (List Str×Str) (fun x=>[.rd 1 (x.1.map A6),.str x.2]) (fun x=>(Lib.join x.1 x.2).length≤16777216∧x.1.length≤4194304) (fun x=>.str (Lib.join x.1 x.2))
theorem A34:Au Tryz.prog 95 Ws:=by
 refine Ps rfl (fun _=>rfl) (fun _=>rfl) (fun _=>rfl) (fun x _=>⟨A1.2 fun _ _=>⟨trivial,trivial⟩,trivial,trivial⟩) Tryz.call95 ?_;rintro⟨l,p⟩ hpre y w args ρ hw hR hsz hs;obtain⟨hp1,hp2⟩:(Lib.join l p).length≤16777216∧l.length≤4194304:=hpre;have h0:=hs 0 _ rfl;have h1:=Hm (hs 1 _ rfl);obtain⟨a,cap,e0,hcap,hcell⟩:=C6v h0 hw;have hsz:args.size=2:=hsz;have ha:args=#[.slice a l.length cap,.string (toB p)]:=by
  apply Array.ext
  ·simp[hsz]
  ·intro i hi1 hi2
   have:i=0∨i=1:=by omega
   rcases this with rfl|rfl
   ·rw[Array.getD_eq_getD_getElem?,Array.getElem?_eq_getElem hi1]at e0;simpa using e0
   ·rw[Array.getD_eq_getD_getElem?,Array.getElem?_eq_getElem hi1]at h1;simpa[Dn,toB]using h1
 rw[ha];cases l with
 |nil=>
  refine(Tryz.strings_Join_none a cap (toB p) w).mono ?_;rintro e w' ⟨rfl,rfl⟩;exact⟨rfl,RowKit.Below.refl _ _⟩
 |cons x r=>
  obtain⟨b,o,rfl,hb,hc⟩:=hcell (by simp);have e:((x::r).map toB).map (fun z=>z.data.toList)=x::r:=by
   rw[List.map_map];simp[Function.comp_def,toB]
  have hJ:=Tryz.strings_Join b o cap ((x::r).map toB) (toB p) w (fun j z hz=>by
   rw[List.getElem?_map]at hz;cases hq:(x::r)[j]? with
   |none=>rw[hq]at hz;cases hz
   |some s0=>
    rw[hq]at hz;simp only[Option.map_some,Option.some.injEq]at hz;subst hz;exact hc j s0 hq) (hR b hb) (by simp at hp2⊢;omega) (by simpa using hcap) (by
     rw[e];simp only[toB];omega)
  rw[e]at hJ;rw[List.length_map]at hJ;exact hJ
def Bz:Bd:=con [mS 1,mC] true (List Str×Bool) (fun x=>[.rd 1 (x.1.map A6),.fn (bif x.2 then 93 else 96) []]) (fun x=>smL x.1) (fun x=>.bool (x.1.any fun s=> !D5 s))
def Pd:Env:=⟨A4 B5,A4 [(131,Cq),(93,Dw),(96,Ew)],[0,1,4]⟩
theorem Pb:B6 Pd (Av Tryz.f92) Tryz.f92.results.toList Bz:=by
 rintro⟨l,q⟩ hs;refine⟨trivial,?_⟩;cases q with
 |true=>
  conv=>whnf
  refine⟨(l,true),rfl,fun _=>hs,?_⟩;conv=>whnf
  exact⟨trivial,eqB Pv⟩
 |false=>
  conv=>whnf
  refine⟨(l,false),rfl,fun _=>hs,?_⟩;conv=>whnf
  exact⟨trivial,eqB Pv⟩
theorem K8:Au Tryz.prog 92 Bz:=Al (Bx _ _) (FOk.cons Qq (FOk.cons Mn (FOk.cons Oc FOk.nil))) mixed Tryz.func92 rfl Tryz.call92 (by decide) (by kernel_rfl) Pb (by intro _ (y:(List Str×Bool)) _;exact⟨by simp[Bz,con,A9,A8,AV.noRd,A7,Ab,A5,A6],by simp[Bz,con,A9,A8,AV.noRd,A7,Ab,A5,A6]⟩) (by intro(y:(List Str×Bool)) _;first|(simp[Bz,con,A9,A8,Ad,AV.free,A2,A3,A1,A6];done)|(obtain⟨_,_⟩:=y;simp[Bz,con,A9,A8,Ad,AV.free,A2,A3,A1,A6];done)|(obtain⟨_,_,_⟩:=y;simp[Bz,con,A9,A8,Ad,AV.free,A2,A3,A1,A6];done))
def Fi:Bd:=con [mC] false Str A6 (fun s=>sml s.length) (fun s=>.tup [.own 1 ((names s).map A6),.bool (B4 s)])
def A3n:Env:=⟨A4 B5,A4 [(90,Jn),(91,Dx),(92,Bz),(93,Dw)],[0,2,3,4,6,18,21]⟩
theorem A33:B6 A3n (Av Tryz.f50) Tryz.f50.results.toList Fi:=by
 intro(s:Str) hs;have hs:s.length≤4194304:=hs;refine⟨trivial,?_⟩
 (conv=>whnf);refine⟨fun h1=>?_,fun h1=>?_⟩
 ·have h1:(s==sl)=true:=h1
  have hp:B4 s=true:=by simp[B4,h1]
  have hn:names s=[]:=by simp[names,h1]
  conv=>whnf
  exact⟨trivial,C2i (by rw[hn];rfl),eqB hp.symm,trivial⟩
 have h1:(s==sl)=false:=h1;conv=>whnf
 refine⟨(s,47),rfl,fun _=>hs,?_⟩;conv=>whnf
 have hq:=R9 (c:=47) s;have hp:=Su 47 s;have hd:B4 s=(inB (Aq 47 s).length 2 5&&((Aq 47 s).headD []==[])&&((Aq 47 s).drop 1).all D5):=by simp[B4,h1]
 have hn:names s=if B4 s then(Aq 47 s).drop 1 else[]:=by simp[names,h1]
 obtain⟨a,ha⟩:=B7 hp;have hh:(Aq 47 s).headD []=a:=by
  cases hx:Aq 47 s with
  |nil=>rw[hx]at ha;cases ha
  |cons y r=>rw[hx]at ha;simpa using ha
 rw[hh]at hd;repeat((conv=>whnf);first|refine⟨fun h=>h,?_⟩|refine⟨bb,?_⟩|refine⟨A6 a,fun _=>Ao ha,?_⟩)
 refine⟨((Aq 47 s).length,2,5),by(try simp only[List.length_map]);rfl,fun _=>trivial,?_⟩;repeat((conv=>whnf);refine⟨fun h=>h,?_⟩)
 (conv=>whnf);refine⟨fun h2=>?_,fun h2=>?_⟩
 ·have hf:B4 s=false:=by
   have h2:(!(a==[])||(!inB (Aq 47 s).length 2 5))=true:=h2;rw[hd];revert h2;cases inB (Aq 47 s).length 2 5<;>cases(a==[])<;>simp
  rw[hf]at hn;conv=>whnf
  exact⟨trivial,C2i (by rw[hn];rfl),eqB hf.symm,trivial⟩
 have h2:inB (Aq 47 s).length 2 5=true∧(a==[])=true:=by
  have h2:(!(a==[])||(!inB (Aq 47 s).length 2 5))=false:=h2;revert h2;cases inB (Aq 47 s).length 2 5<;>cases(a==[])<;>simp
 rw[h2.1,h2.2,Bool.true_and,Bool.true_and]at hd;repeat((conv=>whnf);refine⟨fun _=>⟨bb,bb,bb⟩,?_⟩)
 refine⟨((Aq 47 s).drop 1,true),?_,fun _=>?_,?_⟩
 ·refine congrArg (fun x=>[AV.rd 1 x,AV.fn 93 []]) ?_
  rw[C5q,List.take_of_length_le (by simp)];rfl
 ·refine⟨by simp;omega,fun x hx=>?_⟩
  have:=P0 s x (List.mem_of_mem_drop hx);omega
 have hany:((Aq 47 s).drop 1).any (fun s=> !D5 s)= !B4 s:=by rw[hd,List.not_all_eq_any_not]
 (conv=>whnf);refine⟨fun h3=>?_,fun h3=>?_⟩
 ·have h3:((Aq 47 s).drop 1).any (fun s=> !D5 s)=true:=h3
  have hf:B4 s=false:=by rw[hany]at h3;simpa using h3
  rw[hf]at hn;conv=>whnf
  exact⟨trivial,C2i (by rw[hn];rfl),eqB hf.symm,trivial⟩
 ·have h3:((Aq 47 s).drop 1).any (fun s=> !D5 s)=false:=h3
  have hf:B4 s=true:=by rw[hany]at h3;simpa using h3
  rw[hf,if_pos rfl]at hn;repeat((conv=>whnf);refine⟨fun _=>⟨bb,bb,bb⟩,?_⟩)
  refine⟨trivial,?_,eqB hf.symm,trivial⟩;refine P1 ?_;rw[hn];simp;rw[List.take_of_length_le (by simp)]
theorem Sx:Au Tryz.prog 50 Fi:=Al (Bx _ _) (FOk.cons B0c (FOk.cons Iy (FOk.cons K8 (FOk.cons Mn FOk.nil)))) mixed Tryz.func50 rfl Tryz.call50 (by decide) (by kernel_rfl) A33 (by intro _ (y:Str) _;exact⟨by simp[Fi,con,A9,A8,AV.noRd,A7,Ab,A5,A6],by simp[Fi,con,A9,A8,AV.noRd,A7,Ab,A5,A6]⟩) (by intro(y:Str) _;first|(simp[Fi,con,A9,A8,Ad,AV.free,A2,A3,A1,A6];done)|(obtain⟨_,_⟩:=y;simp[Fi,con,A9,A8,Ad,AV.free,A2,A3,A1,A6];done)|(obtain⟨_,_,_⟩:=y;simp[Fi,con,A9,A8,Ad,AV.free,A2,A3,A1,A6];done))
end Go.GH
namespace Go.GH
open Go
def Cw(p q:Str):Bool:=B4 p&&B4 q&&(names q).isPrefixOf (names p)
theorem B4w{p:Str}(h:(Aq 47 p).headD []=[])(h2:2≤(Aq 47 p).length):∃r,p=47::r∧Aq 47 r=(Aq 47 p).drop 1:=by
 cases p with
 |nil=>simp[Aq]at h2
 |cons x r=>
  by_cases hx:x=47
  ·subst hx;exact⟨r,rfl,by simp[Aq]⟩
  ·simp only[Aq,if_neg hx]at h
   split at h
   ·simp at h
   ·simp at h
theorem B2u:∀(s:Str),cat (Aq 47 s)=47::s
 |[]=>rfl
 |x::r=>by
  unfold Aq;have ih:=B2u r;split
  ·rename_i hx;rw[cat,ih,hx];rfl
  ·have:=Lf 47 r
   cases h:Aq 47 r with
   |nil=>exact absurd h this
   |cons y t=>
    rw[h]at ih;simp only[cat,List.cons_append]at ih⊢;rw[List.cons.injEq]at ih;rw[←ih.2]
theorem Hu{p:Str}(h:B4 p=true)(h2:(p==sl)=false):p=cat (names p)∧names p≠[]:=by
 have hn:names p=(Aq 47 p).drop 1:=by simp[names,h,h2]
 simp only[B4,h2,Bool.false_or,Bool.and_eq_true,inB,decide_eq_true_eq,beq_iff_eq]at h;obtain⟨⟨⟨h3,h4⟩,h5⟩,h6⟩:=h;obtain⟨r,hr,hs⟩:=B4w h5 (by omega);rw[hn,←hs];exact⟨by rw[B2u,hr],Lf _ _⟩
theorem B7v{p:Str}:∀a,a∈names p→∀x,x∈a→x≠47:=fun a ha=>A0z (List.all_eq_true.1 Ku a ha)
theorem A7b:names sl=[]:=by simp[names]
theorem B5t{p q:Str}(hp:B4 p=true)(hq:B4 q=true):((p==q)||(q==sl)||(q++sl).isPrefixOf p)=Cw p q:=by
 have e0:Cw p q=(names q).isPrefixOf (names p):=by simp[Cw,hp,hq]
 rw[e0];by_cases h1:(p==q)=true
 ·have:p=q:=by simpa using h1
  subst this;rw[h1];simp
 have h1:(p==q)=false:=by simpa using h1
 by_cases h2:(q==sl)=true
 ·rw[h2]
  have:q=sl:=by simpa using h2
  subst this;rw[A7b];simp
 have h2:(q==sl)=false:=by simpa using h2
 obtain⟨cq,nq⟩:=Hu hq h2;rw[h1,h2,Bool.false_or,Bool.false_or];by_cases h3:(p==sl)=true
 ·have:p=sl:=by simpa using h3
  subst this;rw[A7b];have hl:1≤q.length:=by
   rw[cq,Zu];have:=List.length_pos_iff.2 nq;omega
  have e1:(q++sl).isPrefixOf sl=false:=by
   rw[Bool.eq_false_iff];intro h;have:=(List.isPrefixOf_iff_prefix.1 h).length_le;simp[sl]at this;subst this;simp at hl
  rw[e1];cases hn:names q with
  |nil=>exact absurd hn nq
  |cons x r=>rfl
 have h3:(p==sl)=false:=by simpa using h3
 obtain⟨cp,np⟩:=Hu hp h3;have sp:=Sq (B7v (p:=p)) np;have sq:=Sq (B7v (p:=q)) nq;rw[←cp]at sp;rw[←cq]at sq;rw[Bool.eq_iff_iff,List.isPrefixOf_iff_prefix,List.isPrefixOf_iff_prefix];constructor
 ·rintro⟨t,ht⟩
  have ht:q++47::t=p:=by rw[←ht];simp[sl]
  have sp2:Aq 47 (q++47::t)=[]::names p:=by rw[ht];exact sp
  rw[A76,sq,List.cons_append,List.cons.injEq]at sp2;exact⟨_,sp2.2⟩
 ·rintro⟨r,hr⟩
  cases r with
  |nil=>
   rw[List.append_nil]at hr;rw[←hr,←cq]at cp;subst cp;simp at h1
  |cons a r=>
   rw[←hr,Od,←cq]at cp;refine⟨a++cat r,?_⟩;rw[cp];simp[cat,sl]
theorem A9e{a b:List Str}:(decide ((b.length:Int)≤a.length)&&(a.take b.length==b))=b.isPrefixOf a:=by
 rw[Bool.eq_iff_iff,List.isPrefixOf_iff_prefix,List.prefix_iff_eq_take];simp only[Bool.and_eq_true,decide_eq_true_eq,beq_iff_eq];constructor
 ·rintro⟨_,h⟩;exact h.symm
 ·intro h
  refine⟨?_,h.symm⟩;have:=congrArg List.length h;simp at this;omega
theorem C98{s s2:Nat}{x x' y y':List (List AV)}(h1:x=x')(h2:y=y'):[AV.rd s x,AV.rd s2 y]=[AV.rd s x',AV.rd s2 y']:=by rw[h1,h2]
theorem B93{args:Array Value}{p q:Str}(hsz:args.size=2)(h0:args.getD 0 undef=Dn p)(h1:args.getD 1 undef=Dn q):args=#[.string (toB p),.string (toB q)]:=by
 apply Array.ext
 ·simp[hsz]
 ·intro i hi1 hi2
  have:i=0∨i=1:=by omega
  rcases this with rfl|rfl
  ·rw[Array.getD_eq_getD_getElem?,Array.getElem?_eq_getElem hi1]at h0;simpa[Dn,toB]using h0
  ·rw[Array.getD_eq_getD_getElem?,Array.getElem?_eq_getElem hi1]at h1;simpa[Dn,toB]using h1
theorem B92{p:Str}:smL (names p):=by
 refine⟨by have:=Gv (p:=p);omega,fun s hs=>?_⟩;have:=Tp (List.all_eq_true.1 (Ku (p:=p)) s hs);omega
theorem C6m{l:List Str}{k:Nat}(h:smL l):smL (l.take k):=by
 refine⟨by have:=h.1;simp;omega,fun s hs=>h.2 s (List.mem_of_mem_take hs)⟩
structure OpR where
 kind:Int
 path:Str
 «to»:Str
 at_:Int
 data:Str
 time:Int
def Ai(o:OpR):List AV:=[.int .i64 o.kind,.str o.path,.str o.to,.int .i64 o.at_,.str o.data,.int .i64 o.time]
def OpR.zero:OpR:=⟨0,[],[],0,[],0⟩
theorem rdO(l:List OpR):D1 (l.map Ai)=l.map Ai:=Kc (fun _=>rfl) l
def Oe(x:It)(o:Option It):Bool:=match o with
 |none=>true
 |some y=>y.kind !=x.kind||((x.kind==3)&& !(y.data==x.data))
def Iz(x:It)(b:Tr):Bool:=Oe x (Aj b x.path)
def Lv(y:It):OpR:=if y.kind==2 then⟨0,y.path,[],0,[],0⟩else if y.kind==3 then⟨2,y.path,[],0,y.data,y.time⟩else⟨1,y.path,[],0,y.data,y.time⟩
def Ld(x:It):OpR:=⟨if x.kind==2 then 7 else 6,x.path,[],0,[],0⟩
def Fl(a b:Tr)(y:It):List OpR:=
 if !(Aj a y.path).isSome||Iz ((Aj a y.path).getD It.none) b then[Lv y]
 else if !(((Aj a y.path).getD It.none).data==y.data)then[⟨3,y.path,[],0,y.data,y.time⟩,⟨4,y.path,[],y.data.length,[],y.time⟩]
 else if((Aj a y.path).getD It.none).time !=y.time then[⟨5,y.path,[],0,[],y.time⟩]else[]
def Fm(a b:Tr)(l:Tr):List OpR:=((l.filter fun x=>Iz x b).map Ld)
def Ft(a b:Tr):List OpR:=if Ar a&&Ar b then Fm a b a.reverse++b.flatMap (Fl a b)else[]
theorem Ov:∀{a b c:Str},Ce a b=true→Ce b c=true→Ce a c=true
 |[],[],_,h,_=>by cases h
 |[],_::_,[],_,h=>by cases h
 |[],_::_,_::_,_,_=>rfl
 |_::_,[],_,h,_=>by cases h
 |_::_,_::_,[],_,h=>by cases h
 |x::a,y::b,z::c,h1,h2=>by
  simp only[Ce,Bool.or_eq_true,Bool.and_eq_true,decide_eq_true_eq,beq_iff_eq]at h1 h2⊢;rcases h1 with h1|⟨rfl,h1⟩
  ·rcases h2 with h2|⟨rfl,h2⟩
   ·exact .inl (UInt8.lt_trans h1 h2)
   ·exact .inl h1
  ·rcases h2 with h2|⟨rfl,h2⟩
   ·exact .inl h2
   ·exact .inr ⟨rfl,Ov h1 h2⟩
section
variable{t:Tr}
theorem B9w(h:Ar t=true){i:Nat}(hi:i<t.length):chk t i=true:=by
 rw[Ar,Bool.and_eq_true]at h;exact(C2e (t:=t)).1 h.2 i hi
theorem Fp(h:Ar t=true):t.length≤40:=by
 rw[Ar,Bool.and_eq_true]at h;simpa using h.1
theorem Qi(h:Ar t=true){i:Nat}{x:It}(hx:t[i]? =some x):Fo x=true∧(i=0∨Ce (t.getD (i - 1) It.none).path x.path=true)∧N6 t (Bl x.path)=true:=by
 have:=B9w h (Dq hx);rw[Ym hx rfl]at this;simp only[Bool.and_eq_true,Bool.or_eq_true,beq_iff_eq]at this;exact⟨this.1.1,this.1.2,this.2⟩
theorem Dh(h:Ar t=true){x:It}(hx:x∈t):Fo x=true:=by
 obtain⟨i,hi⟩:=List.mem_iff_getElem?.1 hx;exact(Qi h hi).1
theorem Px(h:Ar t=true):∀{j i:Nat} {x y:It},t[i]? =some x→t[j]? =some y→i<j→Ce x.path y.path=true
 |0,i,x,y,hx,hy,hij=>by omega
 |j+1,i,x,y,hx,hy,hij=>by
  have hj:=Dq hy;obtain⟨z,hz⟩:=B7 (l:=t) (i:=j) (by omega);have h1:Ce z.path y.path=true:=by
   have:=(Qi h hy).2.1;rcases this with h0|h0
   ·omega
   ·rw[Nat.add_sub_cancel,List.getD_eq_getElem?_getD,hz]at h0;exact h0
  rcases Nat.lt_or_ge i j with hi|hi
  ·exact Ov (Px h hx hz hi) h1
  ·have:i=j:=by omega
   subst this;rw[hx]at hz;rw[Option.some.inj hz];exact h1
theorem A77(h:Ar t=true){x y:It}(hx:x∈t)(hy:y∈t)(e:x.path=y.path):x=y:=by
 obtain⟨i,hi⟩:=List.mem_iff_getElem?.1 hx;obtain⟨j,hj⟩:=List.mem_iff_getElem?.1 hy;rcases Nat.lt_trichotomy i j with hij|rfl|hij
 ·have:=Px h hi hj hij
  rw[e,Dj]at this;cases this
 ·rw[hi]at hj;exact Option.some.inj hj
 ·have:=Px h hj hi hij
  rw[e,Dj]at this;cases this
theorem O3{x:It}(h:Fo x=true):(x.path==sl)=false:=by
 unfold Fo at h;simp only[Bool.and_eq_true,Bool.not_eq_true']at h;exact h.1.1.2
theorem Id{p:Str}(h:(p==sl)=false):Aj t p=t.find? fun x=>x.path==p:=by
 rw[Aj,if_neg (by simp[h])]
theorem Ij(h:Ar t=true){x:It}(hx:x∈t):Aj t x.path=some x:=by
 rw[Id (O3 (Dh h hx))];cases hf:t.find? fun z=>z.path==x.path with
 |none=>
  have:=List.find?_eq_none.1 hf x hx;simp at this
 |some y=>
  have h1:=List.find?_some hf;have h2:=List.mem_of_find?_eq_some hf;rw[A77 h h2 hx (by simpa using h1)]
end
theorem C2f{s:Nat}{c:List AV}{x x':List (List AV)}(h1:x=x'):[AV.agg c,AV.agg [AV.rd s x]]=[AV.agg c,AV.agg [AV.rd s x']]:=by rw[h1]
theorem C3c{a b:Tr}(ha:Ar a=true)(hb:Ar b=true){x y:It}(hx:x∈a)(hy:y∈b)(e:x.path=y.path)(h:Iz x b=false):(!(x.data==y.data))=((y.kind==1)&& !(x.data==y.data)):=by
 have hg:Aj b x.path=some y:=by rw[e];exact Ij hb hy
 have ix:=Dh ha hx;have iy:=Dh hb hy;simp only[Iz,hg,Oe,Bool.or_eq_false_iff,Bool.and_eq_false_iff,bne_eq_false_iff_eq,Bool.not_eq_false',beq_eq_false_iff_ne,beq_iff_eq]at h;obtain⟨hk,hd⟩:=h;by_cases h1:y.kind=1
 ·simp[h1]
 have e1:(y.kind==1)=false:=by simpa using h1
 rw[e1,Bool.false_and];unfold Fo at ix iy;simp only[Bool.and_eq_true,inB,decide_eq_true_eq]at ix iy;by_cases h2:y.kind=2
 ·have hx2:x.kind=2:=by omega
  simp[h2,hx2]at ix iy;rw[ix.2.1,iy.2.1];rfl
 ·have h3:y.kind=3:=by omega
  rcases hd with hd|hd
  ·omega
  ·rw[hd];simp
theorem A1y{a b:Tr}(ha:Ar a=true){x:It}(hx:x∈a):Oe x (b.find? fun z=>z.path==x.path)=Iz x b:=by
 rw[Iz,Id (O3 (Dh ha hx))]
theorem C7k{a b:Tr}(ob:Ar b=true){y:It}(hy:y∈b):
 (Aj a y.path=none∧fnd (fun z=>z.path==y.path) a= -1)∨∃x,Aj a y.path=some x∧x∈a∧x.path=y.path∧0≤fnd (fun z=>z.path==y.path) a∧a[(fnd (fun z=>z.path==y.path) a).toNat]? =some x:=by
 rw[Id (O3 (Dh ob hy))];cases hq:a.any fun z=>z.path==y.path with
 |false=>exact .inl ⟨Z8 hq,Sw hq⟩
 |true=>
  obtain⟨x,h1,h2⟩:=Zl hq;refine .inr ⟨x,h2,List.mem_of_find?_eq_some h2,?_,?_,h1⟩
  ·have:=List.find?_some h2;simpa using this
  ·rw[fnd,if_pos hq];omega
theorem A5k(a b:Tr)(y:It):(Fl a b y).length≤2:=by
 unfold Fl;split
 ·simp
 ·split
  ·simp
  ·split<;>simp
theorem B33{α β:Type}{f:α→List β}{l:List α}{i:Nat}{x:α}(h:l[i]? =some x):(l.take (i+1)).flatMap f=(l.take i).flatMap f++f x:=by
 rw[Bk h,List.flatMap_append];simp
theorem Yr{α β:Type}{f:α→List β}(hf:∀x,(f x).length≤2):∀(l:List α),(l.flatMap f).length≤2*l.length
 |[]=>by simp
 |a::r=>by
  have:=Yr hf r;have:=hf a;simp only[List.flatMap_cons,List.length_append,List.length_cons];omega
def back(t:Tr)(i:Nat):Tr:=(t.drop i).reverse
theorem X5{t:Tr}{i:Nat}{x:It}(h:t[i]? =some x):back t i=back t (i+1)++[x]:=by
 unfold back;have hi:=Dq h;rw[←List.getElem_cons_drop hi,List.reverse_cons];rw[List.getElem?_eq_getElem hi]at h;rw[Option.some.inj h]
theorem X9{a b l:Tr}{x:It}(h:Iz x b=true):Fm a b (l++[x])=Fm a b l++[Ld x]:=by simp[Fm,h]
theorem A62{a b l:Tr}{x:It}(h:Iz x b=false):Fm a b (l++[x])=Fm a b l:=by simp[Fm,h]
theorem A1k{a b l:Tr}:(Fm a b l).length≤l.length:=by
 unfold Fm;rw[List.length_map];exact List.length_filter_le _ _
theorem B42(a b:Tr):(Ft a b).length≤120:=by
 unfold Ft;split
 ·rename_i h
  rw[Bool.and_eq_true]at h;have h1:=Fp h.1;have h2:=Fp h.2;have h3:=A1k (a:=a) (b:=b) (l:=a.reverse);have h4:=Yr (A5k a b) b;rw[List.length_append];rw[List.length_reverse]at h3;omega
 ·simp
def ltP(x y:It):Prop:=Ce x.path y.path=true
def srt(l:Tr):Prop:=l.Pairwise ltP
def dst(l:Tr):Prop:=l.Pairwise fun x y=>x.path≠y.path
def leB(a b:It):Bool:= !Ce b.path a.path
def Kx(l:Tr):Tr:=l.mergeSort leB
theorem C93{x y:It}(h:ltP x y):x.path≠y.path:=by
 intro e;unfold ltP at h;rw[e,Dj]at h;cases h
theorem C25{l:Tr}(h:srt l):dst l:=List.Pairwise.imp (fun hh=>C93 hh) h
theorem V0{l m:Tr}(h:l.Perm m):dst l↔dst m:=h.pairwise_iff fun hh=>Ne.symm hh
theorem B3l(a b c:It)(h1:leB a b=true)(h2:leB b c=true):leB a c=true:=by
 unfold leB at*;simp only[Bool.not_eq_true']at*;cases h:Ce c.path a.path with
 |false=>rfl
 |true=>
  rcases Ry b.path c.path with h3|h3|h3
  ·rw[Ov h3 h]at h1;cases h1
  ·rw[h3,h]at h1;cases h1
  ·rw[h3]at h2;cases h2
theorem C3u(a b:It):(leB a b||leB b a)=true:=by
 unfold leB;cases h:Ce b.path a.path with
 |false=>rfl
 |true=>rw[Ie _ _ h];rfl
theorem Q3(l:Tr):(Kx l).Perm l:=List.mergeSort_perm l leB
theorem B3k(l:Tr):(Kx l).length=l.length:=(Q3 l).length_eq
theorem C86{a b:It}(h1:leB a b=true)(h2:a.path≠b.path):ltP a b:=by
 unfold leB at h1;rcases Ry a.path b.path with h|h|h
 ·exact h
 ·exact absurd h h2
 ·rw[h]at h1;cases h1
theorem C5m{l:Tr}(h1:l.Pairwise fun a b=>leB a b=true)(h2:dst l):srt l:=by
 have:=h1.and h2;exact this.imp fun hh=>C86 hh.1 hh.2
theorem A24{l:Tr}(h:dst l):srt (Kx l):=C5m (List.pairwise_mergeSort B3l C3u l) ((V0 (Q3 l)).2 h)
theorem V8{l m:Tr}(h1:srt l)(h2:srt m)(h:l.Perm m):l=m:=by
 refine h.eq_of_pairwise (fun a b _ _ hab hba=>?_) h1 h2;rw[ltP,Ie _ _ hab]at hba;cases hba
theorem C4v{l m:Tr}(hd:dst l)(h1:m.Pairwise fun a b=>leB a b=true)(h2:m.Perm l):m=Kx l:=
 V8 (C5m h1 ((V0 h2).2 hd)) (A24 hd) (h2.trans (Q3 l).symm)
theorem C94{s:Nat}{x x':List (List AV)}(h:x=x'):[AV.rd s x]=[AV.rd s x']:=by rw[h]
def Cm(x:It)(s:Tr×Bool)(y:It):Tr×Bool:=
 let d:= !s.2&&Ce x.path y.path
 (s.1++(if d then[x]else[])++(if !(y.path==x.path)then[y]else[]),d||s.2)
def P2(l:Tr)(x:It):Tr×Bool:=l.foldl (Cm x) ([],false)
def Hq(l:Tr)(x:It):Tr:=if(P2 l x).2 then(P2 l x).1 else(P2 l x).1++[x]
theorem A8n{x:It}:∀{l out:Tr},(∀y,y∈l→y.path≠x.path)→l.foldl (Cm x) (out,true)=(out++l,true)
 |[],out,h=>by simp
 |y::l,out,h=>by
  have hy:(y.path==x.path)=false:=by simpa using h y (by simp)
  rw[List.foldl_cons];have:Cm x (out,true) y=(out++[y],true):=by simp[Cm,hy]
  rw[this,A8n fun z hz=>h z (by simp[hz])];simp
theorem C51{x:It}:∀{l out:Tr},(∀y,y∈l→y.path≠x.path)→
 (let s:=l.foldl (Cm x) (out,false);if s.2 then s.1 else s.1++[x])=out++(l.takeWhile fun y=> !Ce x.path y.path)++x::l.dropWhile fun y=> !Ce x.path y.path
 |[],out,h=>by simp
 |y::l,out,h=>by
  have hy:(y.path==x.path)=false:=by simpa using h y (by simp)
  rw[List.foldl_cons];cases hl:Ce x.path y.path with
  |true=>
   have:Cm x (out,false) y=(out++[x]++[y],true):=by simp[Cm,hy,hl]
   rw[this,A8n fun z hz=>h z (by simp[hz])];simp[hl]
  |false=>
   have:Cm x (out,false) y=(out++[y],false):=by simp[Cm,hy,hl]
   rw[this,C51 fun z hz=>h z (by simp[hz])];simp[hl]
theorem C56{l:Tr}{x:It}(h:∀y,y∈l→y.path≠x.path):Hq l x=(l.takeWhile fun y=> !Ce x.path y.path)++x::l.dropWhile fun y=> !Ce x.path y.path:=by
 have:=C51 (out:=[]) h;exact this
theorem A8r{l:Tr}{x:It}(h:∀y,y∈l→y.path≠x.path):(Hq l x).Perm (x::l):=by
 rw[C56 h];refine List.perm_middle.trans ?_;rw[List.takeWhile_append_dropWhile]
theorem Vx{p:It→Bool}:∀{l:Tr} {y:It},y∈l.takeWhile p→p y=true
 |a::l,y,h=>by
  rw[List.takeWhile_cons]at h;split at h
  ·rcases List.mem_cons.1 h with rfl|h
   ·assumption
   ·exact Vx h
  ·cases h
theorem Uz{x:It}:∀{l:Tr},srt l→∀y,y∈l.dropWhile (fun y=> !Ce x.path y.path)→ltP x y
 |[],_,y,h=>by simp at h
 |a::l,hs,y,h=>by
  rw[List.dropWhile_cons]at h;have hs':=List.pairwise_cons.1 hs;split at h
  ·exact Uz hs'.2 y h
  ·rename_i hp
   have hxa:ltP x a:=by simpa[ltP]using hp
   rcases List.mem_cons.1 h with rfl|h
   ·exact hxa
   ·exact Ov hxa (hs'.1 y h)
theorem B6c{l:Tr}{x:It}(h:∀y,y∈l→y.path≠x.path)(hs:srt l):srt (Hq l x):=by
 rw[C56 h];have hsplit:srt ((l.takeWhile fun y=> !Ce x.path y.path)++l.dropWhile fun y=> !Ce x.path y.path):=by rw[List.takeWhile_append_dropWhile];exact hs
 obtain⟨h1,h2,h3⟩:=List.pairwise_append.1 hsplit;have hx:∀y,y∈(l.takeWhile fun y=> !Ce x.path y.path)→ltP y x:=fun y hy=>by
  have hp:=Vx hy;exact C86 (a:=y) (b:=x) hp (h y ((List.takeWhile_prefix _).subset hy))
 refine List.pairwise_append.2 ⟨h1,List.pairwise_cons.2 ⟨Uz hs,h2⟩,fun y hy z hz=>?_⟩;rcases List.mem_cons.1 hz with rfl|hz
 ·exact hx y hy
 ·exact h3 y hy z hz
theorem F2{t:Tr}(h:Ar t=true):srt t:=by
 refine List.pairwise_iff_getElem.2 fun i j hi hj hij=>?_;exact Px h (List.getElem?_eq_getElem hi) (List.getElem?_eq_getElem hj) hij
theorem B3h{s:Nat}{x x':List (List AV)}{c:List AV}(h:x=x'):[AV.rd s x,.agg c]=[AV.rd s x',.agg c]:=by rw[h]
theorem C14{l:Tr}{x y:It}{i:Nat}(h:l[i]? =some y):P2 (l.take (i+1)) x=Cm x (P2 (l.take i) x) y:=A7y h
theorem B35{x:It}:∀{l out:Tr} {d:Bool},(l.foldl (Cm x) (out,d)).1.length≤out.length+2*l.length
 |[],out,d=>by simp
 |y::l,out,d=>by
  rw[List.foldl_cons];obtain⟨o',d',h⟩:∃o' d',Cm x (out,d) y=(o',d'):=⟨_,_,rfl⟩
  have h1:o'.length≤out.length+2:=by
   have:o'=(Cm x (out,d) y).1:=by rw[h]
   rw[this];unfold Cm;dsimp only;split<;>split<;>simp
  rw[h];have:=B35 (x:=x) (l:=l) (out:=o') (d:=d');simp only[List.length_cons];omega
theorem A7x{l:Tr}{x y:It}(h:y∈Hq l x):y=x∨y∈l:=by
 have go:∀{l out:Tr} {d:Bool},y∈(l.foldl (Cm x) (out,d)).1→y=x∨y∈out∨y∈l:=by
  intro l;induction l with
  |nil=>intro out d h;exact .inr (.inl h)
  |cons z l ih=>
   intro out d h;rw[List.foldl_cons]at h;rcases ih (out:=(Cm x (out,d) z).1) (d:=(Cm x (out,d) z).2) h with h|h|h
   ·exact .inl h
   ·unfold Cm at h
    simp only[List.mem_append]at h;rcases h with(h|h)|h
    ·exact .inr (.inl h)
    ·split at h
     ·exact .inl (by simpa using h)
     ·cases h
    ·split at h
     ·exact .inr (.inr (by simp at h;simp[h]))
     ·cases h
   ·exact .inr (.inr (by simp[h]))
 unfold Hq at h;split at h
 ·rcases go h with h|h|h
  ·exact .inl h
  ·cases h
  ·exact .inr h
 ·rcases List.mem_append.1 h with h|h
  ·rcases go h with h|h|h
   ·exact .inl h
   ·cases h
   ·exact .inr h
  ·exact .inl (by simpa using h)
def C95:Nat→Nat→Str→Str
 |0,_,out=>out
 |f+1,k,out=>if k=0 then out else C95 f (k/10) (UInt8.ofNat (48+k%10)::out)
theorem A4f{α:Type}{l:List α}{i:Nat}{x:α}(h:i<l.length):(l.set i x)[i]? =some x:=by simp[h]
theorem B4s{α:Type}{l:List α}{i:Nat}{x y:α}:(l.set i x).set i y=l.set i y:=by simp
def dig(n:Nat):Str:=if n=0 then[48]else C95 64 n []
def C99:Str:=[48,49,50,51,52,53,54,55,56,57,97,98,99,100,101,102]
def hx(n:Nat):UInt8:=C99.getD n 0
def C9g(s:Str):Str:=s.flatMap fun b=>[hx (b.toNat/16),hx (b.toNat%16)]
def Hz(o:OpR):Bool:=inB o.kind 0 8&&inB o.at_ 0 1000&&inB o.time 0 100000
def C88(s:Str):Bool:=s==[]||B4 s
def C9a(o:OpR):Bool:=Hz o&&C88 o.path&&C88 o.to&&decide (o.data.length≤80)
def C8n(o:OpR):Str:=dig o.kind.toNat++[32]++o.path++[32]++o.to++[32]++dig o.at_.toNat++[32]++dig o.time.toNat++[32]
def C8m(o:OpR):Str:=if C9a o then C8n o++C9g o.data else[]
theorem On{x a b:Int}:inB x a b=true↔a≤x∧x≤b:=by simp[inB]
theorem A53{o:OpR}(h:Hz o=true):(0≤o.kind∧o.kind≤8)∧(0≤o.at_∧o.at_≤1000)∧(0≤o.time∧o.time≤100000):=by
 simp only[Hz,Bool.and_eq_true,On]at h;exact⟨h.1.1,h.1.2,h.2⟩
def smO(o:OpR):Prop:=o.path.length≤1048576∧o.to.length≤1048576∧o.data.length≤1048576
def B7p(l:List OpR):Prop:=l.length≤1048576∧∀o,o∈l→smO o
def Jq(t:Tr)(p:Str):Int:=match Aj t p with
 |none=>2
 |some x=>if x.kind==2 then 0 else 4
def S7(o:OpR):It:=if o.kind==0 then⟨o.path,2,[],0⟩else⟨o.path,if o.kind==2 then 3 else 1,o.data,o.time⟩
def pad(old:Str)(n:Nat):Str:=old++List.replicate (n - old.length) 0
def wrote(old:Str)(a:Int)(d:Str):Str:=if inB a 0 100000 then(pad old a.toNat).take a.toNat++d++(pad old a.toNat).drop (a.toNat+d.length)else old
def Se(old:Str)(n:Int):Str:=if inB n 0 100000 then(pad old n.toNat).take n.toNat else old
def Eo(old:Str)(o:OpR):Str×Bool:=
 if o.kind==3 then(wrote old o.at_ o.data,decide (((wrote old o.at_ o.data).length:Int)≤80))else if o.kind==4 then(Se old o.at_,decide (o.at_≤80))else(old,true)
def Cf(t:Tr)(o:OpR):Tr×Int:=
 if Jq t (Bl o.path)!=0 then(t,Jq t (Bl o.path))
 else if(Aj t o.path).isSome then(t,3)
 else if o.kind !=0&&decide ((o.data.length:Int)>80)then(t,9)
 else if(t.length:Int)==40 then(t,5)
 else(Hq t (S7 o),0)
def Um(x:It)(o:OpR):It:=⟨x.path,x.kind,(Eo x.data o).1,o.time⟩
def D0(t:Tr)(o:OpR):Tr×Int:=match Aj t o.path with
 |none=>(t,2)
 |some x=>if x.kind==2||(x.kind==3&&o.kind !=5)then(t,4)else if !(Eo x.data o).2 then(t,9)else(Hq t (Um x o),0)
def My(p:Str):Str:=(names p).getLastD []
def A08(t:Tr)(p:Str):Tr:=t.filter fun y=>Bl y.path==p
def K2(t:Tr)(p:Str):List Str:=if Ar t&&N6 t p then(A08 t p).map fun y=>My y.path else[]
def J5(t:Tr)(p:Str):Tr:=t.filter fun y=> !(y.path==p)
def Cp(t:Tr)(o:OpR):Tr×Int:=match Aj t o.path with
 |none=>(t,2)
 |some x=>if(x.kind==2)!=(o.kind==7)then(t,4)else if decide (((K2 t o.path).length:Int)>0)then(t,8)else(J5 t o.path,0)
def Gh(o:OpR)(x:It):It:=if Cw x.path o.path then⟨E3 (names o.to++(names x.path).drop (names o.path).length),x.kind,x.data,x.time⟩else x
def stuck(o:OpR)(x:It):Bool:=Cw x.path o.path&&(Gh o x).path==[]
def Kk(t:Tr)(o:OpR):Tr×Int:=
 if !(Aj t o.path).isSome then(t,2)
 else if Jq t (Bl o.to)!=0 then(t,Jq t (Bl o.to))
 else if(Aj t o.to).isSome then(t,3)
 else if t.any (stuck o)then(t,1)
 else((t.map (Gh o)).foldl Hq [],0)
def El(p:Str):Bool:= !B4 p||p==sl
def Ap(t:Tr)(o:OpR):Tr×Int:=
 if !Ar t|| !Hz o then(t,10)
 else if El o.path then(t,1)
 else if o.kind==0||o.kind==1||o.kind==2 then Cf t o
 else if o.kind==3||o.kind==4||o.kind==5 then D0 t o
 else if o.kind==6||o.kind==7 then Cp t o
 else if El o.to||Cw o.to o.path then(t,1)
 else Kk t o
theorem Yz{t:Tr}{x:It}(ht:srt t)(h:∀y,y∈t→y.path≠x.path):dst (t++[x])∧Hq t x=Kx (t++[x]):=by
 have hp:(Hq t x).Perm (t++[x]):=(A8r h).trans (List.perm_append_comm (l₁:=[x]) (l₂:=t));have hs:=B6c h ht;have hd:dst (t++[x]):=(V0 hp).1 (C25 hs);exact⟨hd,V8 hs (A24 hd) (hp.trans (Q3 _).symm)⟩
theorem B8y{x:It}:∀{l out:Tr},(∀y,y∈l→Ce x.path y.path=false∧y.path≠x.path)→l.foldl (Cm x) (out,false)=(out++l,false)
 |[],out,h=>by simp
 |y::l,out,h=>by
  obtain⟨h1,h2⟩:=h y (by simp);have hy:(y.path==x.path)=false:=by simpa using h2
  rw[List.foldl_cons];have:Cm x (out,false) y=(out++[y],false):=by simp[Cm,hy,h1]
  rw[this,B8y fun z hz=>h z (by simp[hz])];simp
theorem C6d{A B:Tr}{x x':It}(hp:x'.path=x.path)(hA:∀y,y∈A→Ce y.path x.path=true)(hB:∀y,y∈B→Ce x.path y.path=true):Hq (A++x::B) x'=A++x'::B:=by
 have h1:A.foldl (Cm x') ([],false)=(A,false):=by
  have:=B8y (x:=x') (l:=A) (out:=[]) fun y hy=>⟨by rw[hp];exact Ie _ _ (hA y hy),fun e=>by
   have:=hA y hy;rw[e,hp,Dj]at this;cases this⟩
  simpa using this
 have h2:Cm x' (A,false) x=(A,false):=by simp[Cm,hp,Dj]
 unfold Hq P2;rw[List.foldl_append,List.foldl_cons,h1,h2];cases B with
 |nil=>simp
 |cons b B=>
  have hb:=hB b (by simp);have hne:(b.path==x'.path)=false:=by
   rw[hp,beq_eq_false_iff_ne];intro e;rw[e,Dj]at hb;cases hb
  have h3:Cm x' (A,false) b=(A++[x']++[b],true):=by simp[Cm,hp,hb,hp▸hne]
  rw[List.foldl_cons,h3,A8n fun z hz e=>by
   have:=hB z (by simp[hz]);rw[←hp,←e,Dj]at this;cases this]
  simp
theorem B37{t:Tr}(ht:srt t){i:Nat}{x:It}(hx:t[i]? =some x):t=t.take i++x::t.drop (i+1)∧(∀y,y∈t.take i→Ce y.path x.path=true)∧∀y,y∈t.drop (i+1)→Ce x.path y.path=true:=by
 have hlt:=Dq hx;have e:t=t.take i++x::t.drop (i+1):=by
  rw[List.getElem?_eq_getElem hlt]at hx;simp only[Option.some.injEq]at hx;rw[←hx,List.getElem_cons_drop,List.take_append_drop]
 have h:=ht;rw[e]at h;obtain⟨h1,h2,h3⟩:=List.pairwise_append.1 h;exact⟨e,fun y hy=>h3 y hy x (by simp),fun y hy=>(List.pairwise_cons.1 h2).1 y hy⟩
theorem C4q{t:Tr}(ht:srt t){i:Nat}{x x':It}(hx:t[i]? =some x)(hp:x'.path=x.path):Hq t x'=t.set i x':=by
 obtain⟨e,hA,hB⟩:=B37 ht hx;have hlt:=Dq hx;conv=>lhs;rw[e]
 rw[C6d hp hA hB,List.set_eq_take_append_cons_drop,if_pos hlt]
theorem C1o{t:Tr}(ht:srt t){i:Nat}{x:It}(hx:t[i]? =some x):J5 t x.path=t.take i++t.drop (i+1):=by
 obtain⟨e,hA,hB⟩:=B37 ht hx;conv=>lhs;rw[e]
 unfold J5;have f1:(t.take i).filter (fun y=> !(y.path==x.path))=t.take i:=List.filter_eq_self.2 fun y hy=>by
  have:=hA y hy;simp only[Bool.not_eq_true',beq_eq_false_iff_ne];intro e;rw[e,Dj]at this;cases this
 have f2:(t.drop (i+1)).filter (fun y=> !(y.path==x.path))=t.drop (i+1):=List.filter_eq_self.2 fun y hy=>by
  have:=hB y hy;simp only[Bool.not_eq_true',beq_eq_false_iff_ne];intro e;rw[e,Dj]at this;cases this
 rw[List.filter_append,List.filter_cons,f1,f2];simp
theorem B7j:∀{l out:Tr},srt out→dst (out++l)→srt (l.foldl Hq out)∧(l.foldl Hq out).Perm (out++l)
 |[],out,h1,_=>⟨h1,by simp⟩
 |y::l,out,h1,h2=>by
  have h3:∀z,z∈out→z.path≠y.path:=fun z hz=>(List.pairwise_append.1 h2).2.2 z hz y (by simp);have hp:(Hq out y++l).Perm (out++y::l):=((A8r h3).append_right l).trans (List.perm_middle (a:=y) (l₁:=out) (l₂:=l)).symm;rw[List.foldl_cons];obtain⟨q1,q2⟩:=B7j (l:=l) (B6c h3 h1) ((V0 hp).2 h2);exact⟨q1,q2.trans hp⟩
theorem C30{l:Tr}(h:dst l):l.foldl Hq []=Kx l:=by
 obtain⟨h1,h2⟩:=B7j (l:=l) (out:=[]) List.Pairwise.nil (by simpa using h);exact V8 h1 (A24 h) (by simpa using h2.trans (by simpa using(Q3 l).symm))
theorem A1f{l:List Str}(hl:l≠[])(hn:l.all D5=true):B4 (cat l)=decide (l.length≤4)∧(cat l==sl)=false∧(l.length≤4→names (cat l)=l):=by
 have hs:Aq 47 (cat l)=[]::l:=Sq (fun a ha=>A0z (List.all_eq_true.1 hn a ha)) hl;have h1:(cat l==sl)=false:=by
  rw[beq_eq_false_iff_ne];intro e;rw[e]at hs;have:l=[[]]:=by
   have h2:Aq 47 sl=[[],[]]:=rfl;rw[h2]at hs;exact(List.cons.inj hs).2.symm
  subst this;exact absurd hn (by decide)
 have hp:1≤l.length:=List.length_pos_iff.2 hl;have h2:B4 (cat l)=decide (l.length≤4):=by
  unfold B4;rw[h1,hs];simp only[Bool.false_or,List.length_cons,List.headD_cons,List.drop_one,List.tail_cons,hn,Bool.and_true,beq_self_eq_true,inB];by_cases h:l.length≤4
  ·simp[h];omega
  ·simp[h];omega
 refine⟨h2,h1,fun h=>?_⟩;have h3:B4 (cat l)=true:=by rw[h2];simpa using h
 rw[names,h3,h1,hs];simp
theorem C7r{l:List Str}(hl:l≠[]):L6 l=cat l:=by
 cases l with
 |nil=>exact absurd rfl hl
 |cons a l=>rfl
theorem Ti{l:List Str}(hl:l≠[])(hn:l.all D5=true):E3 l=if l.length≤4 then cat l else[]:=by
 unfold E3;rw[hn,C7r hl];by_cases h:l.length≤4<;>simp[h]
theorem C8g{l:List Str}(hl:l≠[]):cat l≠[]:=by
 cases l with
 |nil=>exact absurd rfl hl
 |cons a l=>simp[cat]
theorem X7{p q:Str}(hq:(q==sl)=false)(h:Cw p q=true):∃r,names p=names q++r∧p=q++cat r∧B4 p=true∧B4 q=true∧(p==sl)=false:=by
 simp only[Cw,Bool.and_eq_true]at h;obtain⟨⟨h1,h2⟩,h3⟩:=h;obtain⟨r,hr⟩:=List.isPrefixOf_iff_prefix.1 h3;obtain⟨cq,nq⟩:=Hu h2 hq;have hp:(p==sl)=false:=by
  rw[beq_eq_false_iff_ne];intro e;rw[e,A7b]at hr;exact nq (List.append_eq_nil_iff.1 hr).1
 obtain⟨cp,np⟩:=Hu h1 hp;refine⟨r,hr.symm,?_,h1,h2,hp⟩;rw[cp,←hr,Od,←cq]
theorem Tx{o:OpR}{x:It}(ho:El o.path=false)(ht:El o.to=false)(h:Cw x.path o.path=true):
 ∃r,names x.path=names o.path++r∧x.path=o.path++cat r∧(names o.to++r).all D5=true∧names o.to++r≠[]∧o.to++cat r=cat (names o.to++r)∧(Gh o x).path=if(names o.to++r).length≤4 then cat (names o.to++r)else[]:=by
 simp only[El,Bool.or_eq_false_iff]at ho ht;obtain⟨r,h1,h2,_⟩:=X7 ho.2 h;obtain⟨ct,nt⟩:=Hu (p:=o.to) (by simpa using ht.1) ht.2;have hr:(names o.to++r).all D5=true:=by
  rw[List.all_append,Ku,Bool.true_and,List.all_eq_true];intro y hy;exact List.all_eq_true.1 (Ku (p:=x.path)) y (by rw[h1];simp[hy])
 have hne:names o.to++r≠[]:=fun e=>nt (List.append_eq_nil_iff.1 e).1;refine⟨r,h1,h2,hr,hne,?_,?_⟩
 ·rw[Od,←ct]
 ·unfold Gh
  rw[if_pos h];show E3 (names o.to++(names x.path).drop (names o.path).length)=_;rw[h1,List.drop_left,Ti hne hr]
theorem C0z{o:OpR}{x:It}(ho:El o.path=false)(ht:El o.to=false)(h:Cw x.path o.path=true):
 B4 (o.to++x.path.drop o.path.length)= !stuck o x∧(stuck o x=false→o.to++x.path.drop o.path.length=(Gh o x).path):=by
 obtain⟨r,h1,h2,h3,h4,h5,h6⟩:=Tx ho ht h;have e:x.path.drop o.path.length=cat r:=by rw[h2,List.drop_left]
 rw[e,h5];have hk:=(A1f h4 h3).1;rw[hk];unfold stuck;rw[h,h6,Bool.true_and];by_cases hl:(names o.to++r).length≤4
 ·rw[if_pos hl]
  exact⟨by rw[decide_eq_true hl,(beq_eq_false_iff_ne).2 (C8g h4)];rfl,fun _=>rfl⟩
 ·rw[if_neg hl]
  exact⟨by rw[decide_eq_false hl];rfl,fun h=>absurd h (by decide)⟩
theorem T1{o:OpR}{x:It}(h:Cw x.path o.path=false):Gh o x=x∧stuck o x=false:=by
 unfold stuck Gh;rw[h];simp
theorem A2u{t:Tr}(ok:Ar t=true):∀(n:Nat) (y:It),y∈t→(names y.path).length≤n→∀q,(q==sl)=false→Cw y.path q=true→(Aj t q).isSome=true
 |0,y,hy,hn,q,hq,hw=>by
  have hi:=Dh ok hy;have hsl:=O3 hi;simp only[Fo,Bool.and_eq_true]at hi;have:=(Hu hi.1.1.1 hsl).2;exact absurd (List.eq_nil_of_length_eq_zero (by omega)) this
 |n+1,y,hy,hn,q,hq,hw=>by
  obtain⟨r,h1,h2,hp,hqk,hsl⟩:=X7 hq hw;obtain⟨cq,nq⟩:=Hu hqk hq;obtain⟨cp,np⟩:=Hu hp hsl;by_cases hr:r=[]
  ·subst hr
   have:y.path=q:=by rw[h2];simp[cat]
   rw[←this,Ij ok hy];rfl
  ·
   obtain⟨i,hi⟩:=List.getElem?_of_mem hy;have hd:=(Qi ok hi).2.2;have hrl:0<r.length:=List.length_pos_iff.2 hr;have hql:0<(names q).length:=List.length_pos_iff.2 nq;have hl:(names y.path).length=(names q).length+r.length:=by rw[h1,List.length_append]
   obtain⟨u,hu⟩:∃u,u=(names y.path).take ((names y.path).length - 1):=⟨_,rfl⟩
   have hul:u.length=(names y.path).length - 1:=by rw[hu,List.length_take];omega
   have hune:u≠[]:=fun e=>by rw[e]at hul;simp at hul;omega
   have hun:u.all D5=true:=by
    rw[List.all_eq_true];intro z hz;rw[hu]at hz;exact List.all_eq_true.1 Ku z (List.mem_of_mem_take hz)
   have h4:=Gv (p:=y.path);have hab:Bl y.path=cat u:=by
    rw[Bl,if_pos hp,←hu,Ti hune hun,if_pos (by omega)]
   obtain⟨k1,k2,k3⟩:=A1f hune hun;have hnu:=k3 (by omega);rw[hab]at hd;simp only[N6,Bool.and_eq_true]at hd;rw[Id k2]at hd;obtain⟨z,hz⟩:=Option.isSome_iff_exists.1 hd.1;have hzm:=List.mem_of_find?_eq_some hz;have hzp:z.path=cat u:=by simpa using List.find?_some hz
   refine A2u ok n z hzm (by rw[hzp,hnu];omega) q hq ?_;simp only[Cw,Bool.and_eq_true];refine⟨⟨by rw[hzp,k1];simp;omega,hqk⟩,?_⟩;rw[hzp,hnu,List.isPrefixOf_iff_prefix,hu,h1];have e1:(names q++r).length - 1=(names q).length+(r.length - 1):=by rw[List.length_append];omega
   refine⟨r.take (r.length - 1),?_⟩;rw[e1,List.take_append,List.take_of_length_le (by omega:(names q).length≤(names q).length+(r.length - 1)),Nat.add_sub_cancel_left]
theorem B3i{t:Tr}{o:OpR}(ok:Ar t=true)(ho:El o.path=false)(ht:El o.to=false)(hno:(Aj t o.to).isSome=false)(hs:t.any (stuck o)=false):dst (t.map (Gh o)):=by
 have hns:∀x,x∈t→stuck o x=false:=fun x hx=>by
  have:=List.any_eq_false.1 hs x hx;simpa using this
 have hto:(o.to==sl)=false:=by simp only[El,Bool.or_eq_false_iff]at ht;exact ht.2
 have hto2:B4 o.to=true:=by simp only[El,Bool.or_eq_false_iff]at ht;simpa using ht.1
 have free:∀x y,x∈t→y∈t→Cw x.path o.path=true→(Gh o x).path≠y.path:=by
  intro x y hx hy hw e;obtain⟨r,h1,h2,h3,h4,h5,h6⟩:=Tx ho ht hw;have hst:=hns x hx;by_cases hl:(names o.to++r).length≤4
  ·rw[if_pos hl,e]at h6
   obtain⟨k1,k2,k3⟩:=A1f h4 h3;have:(Aj t o.to).isSome=true:=by
    refine A2u ok _ y hy (Nat.le_refl _) o.to hto ?_;simp only[Cw,Bool.and_eq_true];refine⟨⟨by rw[h6,k1];simpa using hl,hto2⟩,?_⟩;rw[h6,k3 hl,List.isPrefixOf_iff_prefix];exact⟨r,rfl⟩
   rw[hno]at this;cases this
  ·rw[if_neg hl]at h6
   unfold stuck at hst;rw[hw,h6]at hst;cases hst
 refine List.pairwise_map.2 (List.Pairwise.imp_of_mem (fun{x y} hx hy hxy=>?_) (C25 (F2 ok)));have hxy:x.path≠y.path:=hxy;cases hwx:Cw x.path o.path with
 |false=>
  rw[(T1 hwx).1];cases hwy:Cw y.path o.path with
  |false=>rw[(T1 hwy).1];exact hxy
  |true=>exact fun e=>free y x hy hx hwy e.symm
 |true=>
  cases hwy:Cw y.path o.path with
  |false=>rw[(T1 hwy).1];exact free x y hx hy hwx
  |true=>
   intro e;obtain⟨r,h1,h2,h3,h4,h5,h6⟩:=Tx ho ht hwx;obtain⟨r',g1,g2,g3,g4,g5,g6⟩:=Tx ho ht hwy;have sx:=hns x hx;have sy:=hns y hy;by_cases hl:(names o.to++r).length≤4
   ·by_cases gl:(names o.to++r').length≤4
    ·rw[if_pos hl]at h6
     rw[if_pos gl]at g6;rw[h6,g6]at e;have e2:=congrArg names e;rw[(A1f h4 h3).2.2 hl,(A1f g4 g3).2.2 gl]at e2;have:r=r':=List.append_cancel_left e2;exact hxy (by rw[h2,g2,this])
    ·rw[if_neg gl]at g6
     unfold stuck at sy;rw[hwy,g6]at sy;cases sy
   ·rw[if_neg hl]at h6
    unfold stuck at sx;rw[hwx,h6]at sx;cases sx
theorem B5f(old:Str)(n:Nat):(pad old n).length=max old.length n:=by
 unfold pad;simp;omega
theorem B7w{old:Str}{n:Int}(h:inB n 0 100000=true):((Se old n).length:Int)=n:=by
 rw[On]at h;unfold Se;rw[if_pos (by rw[On];exact h),List.length_take,B5f];omega
theorem C4g{t:Tr}{o:OpR}{x:It}(ok:Ar t=true)(hn:Hz o=true)(hx:x∈t)(hk:(x.kind==2)=false):decide (((Eo x.data o).1.length:Int)>80)= !(Eo x.data o).2:=by
 obtain⟨_,⟨a1,a2⟩,_⟩:=A53 hn;unfold Eo;split
 ·simp only
  by_cases h:(((wrote x.data o.at_ o.data).length:Int)≤80)
  ·rw[decide_eq_false (by omega),decide_eq_true h];rfl
  ·rw[decide_eq_true (by omega),decide_eq_false h];rfl
 ·split
  ·simp only
   rw[B7w (by rw[On];omega)];by_cases h:o.at_≤80
   ·rw[decide_eq_false (by omega),decide_eq_true h];rfl
   ·rw[decide_eq_true (by omega),decide_eq_false h];rfl
  ·simp only
   have hi:=Dh ok hx;simp only[Fo,hk,Bool.false_eq_true,if_false,Bool.and_eq_true,decide_eq_true_eq]at hi;have:=hi.2.1;simp;omega
theorem C20{t:Tr}{p:Str}(ok:Ar t=true):decide (((K2 t p).length:Int)>0)=t.any fun y=>Bl y.path==p:=by
 unfold K2;rw[ok,Bool.true_and];cases hk:t.any (fun y=>Bl y.path==p)with
 |false=>
  have:A08 t p=[]:=List.filter_eq_nil_iff.2 fun y hy=>by
   have:=List.any_eq_false.1 hk y hy;simpa using this
  rw[this];split<;>simp
 |true=>
  obtain⟨y,hy,he⟩:=List.any_eq_true.1 hk;obtain⟨i,hi⟩:=List.getElem?_of_mem hy;have hd:=(Qi ok hi).2.2;have he:Bl y.path=p:=by simpa using he
  rw[he]at hd;rw[if_pos hd];have:0<(A08 t p).length:=List.length_pos_of_mem (List.mem_filter.2 ⟨hy,by simpa using he⟩);simp;omega
theorem A7v{t:Tr}{p:Str}(hp:El p=false):Aj t p=t.find? fun x=>x.path==p:=by
 simp only[El,Bool.or_eq_false_iff]at hp;exact Id hp.2
theorem Zw{t:Tr}{p:Str}(hp:El p=false):(Aj t p).isSome=decide (fnd (fun y=>y.path==p) t≥0):=by
 rw[A7v hp,Pv];cases h:t.any (fun y=>y.path==p)with
 |true=>
  obtain⟨x,_,hx⟩:=Zl h;rw[hx];rfl
 |false=>rw[Z8 h];rfl
theorem B6q{t:Tr}{p:Str}(hp:El p=false){x:It}(h:Aj t p=some x):t[(fnd (fun y=>y.path==p) t).toNat]? =some x∧0≤fnd (fun y=>y.path==p) t∧x.path=p:=by
 rw[A7v hp]at h;have ha:t.any (fun y=>y.path==p)=true:=List.any_eq_true.2 ⟨x,List.mem_of_find?_eq_some h,List.find?_some (p:=fun y:It=>y.path==p) h⟩;obtain⟨y,h1,h2⟩:=Zl ha;have:=Pv (p:=fun y:It=>y.path==p) (l:=t);rw[ha]at this;rw[h]at h2;obtain rfl:=Option.some.inj h2;exact⟨h1,by simpa using this,by simpa using List.find?_some (p:=fun y:It=>y.path==p) h⟩
theorem C83{n:Nat}{z:Int}(h:z.toNat=n):(List.drop 0 (List.replicate z.toNat [AV.int .u8 0])).take z.toNat=(List.replicate n (0:UInt8)).map fun b=>[AV.int .u8 b.toNat]:=by
 rw[h];simp
theorem B60{s:Str}{n:Int}(h:inB n 0 100000=false):Se s n=s:=by simp[Se,h]
theorem C6e{s:Str}{k:Nat}(h:inB k 0 100000=true)(hk:k≤s.length):Se s k=s.take k:=by
 simp[Se,h,pad,List.take_append_of_le_length hk]
theorem C4s{s:Str}{k:Nat}(h:inB k 0 100000=true)(hk:s.length≤k):Se s k=s++List.replicate (k - s.length) 0:=by
 have:(pad s k).length=k:=by rw[B5f];omega
 rw[Se,if_pos h,Int.toNat_natCast,List.take_of_length_le (by omega)];rfl
theorem A0p{s d:Str}{n:Int}(h:inB n 0 100000=false):wrote s n d=s:=by simp[wrote,h]
theorem Zq{s d:Str}{k:Nat}(h:inB k 0 100000=true)(hk:k≤s.length):wrote s k d=s.take k++d++s.drop (k+d.length):=by
 have e:pad s k=s:=by simp[pad,show k - s.length=0 by omega]
 rw[wrote,if_pos h,Int.toNat_natCast,e]
theorem A6r{s d:Str}{k:Nat}(h:inB k 0 100000=true)(hk:s.length≤k):wrote s k d=s++List.replicate (k - s.length) 0++d:=by
 have e:(pad s k).length=k:=by rw[B5f];omega
 rw[wrote,if_pos h,Int.toNat_natCast,List.take_of_length_le (by omega),List.drop_eq_nil_of_le (by omega),List.append_nil];rfl
theorem C47{s d:Str}{n:Int}:(wrote s n d).length≤s.length+d.length+100000:=by
 cases h:inB n 0 100000 with
 |false=>rw[A0p h];omega
 |true=>
  have:=On.1 h;obtain⟨k,rfl⟩:∃k:Nat,n=k:=⟨n.toNat,by omega⟩
  rcases Nat.le_total k s.length with hk|hk
  ·rw[Zq h hk];simp;omega
  ·rw[A6r h hk];simp;omega
theorem B95{x:It}:∀{l out:Tr} {d:Bool},(l.foldl (Cm x) (out,d)).1.length+(if(l.foldl (Cm x) (out,d)).2 then 0 else 1)≤out.length+l.length+(if d then 0 else 1)
 |[],out,d=>by exact Nat.le_refl _
 |y::l,out,d=>by
  rw[List.foldl_cons];obtain⟨o',d',h⟩:∃o' d',Cm x (out,d) y=(o',d'):=⟨_,_,rfl⟩
  have h1:o'.length+(if d' then 0 else 1)≤out.length+1+(if d then 0 else 1):=by
   have e1:o'=(Cm x (out,d) y).1:=by rw[h]
   have e2:d'=(Cm x (out,d) y).2:=by rw[h]
   rw[e1,e2];unfold Cm;dsimp only;cases d<;>cases Ce x.path y.path<;>cases(y.path==x.path)<;>simp<;>omega
  rw[h];have:=B95 (x:=x) (l:=l) (out:=o') (d:=d');simp only[List.length_cons];omega
theorem T8{x:It}{l:Tr}:(Hq l x).length≤l.length+1:=by
 have:=B95 (x:=x) (l:=l) (out:=[]) (d:=false);unfold Hq;rw[show P2 l x=l.foldl (Cm x) ([],false)from rfl];split
 ·rename_i h;simp[h]at this;exact this
 ·rename_i h;simp[h]at this;simp;exact this
theorem B9o:∀{l out:Tr},(l.foldl Hq out).length≤out.length+l.length
 |[],out=>by simp
 |x::l,out=>by
  have h1:=B9o (l:=l) (out:=Hq out x);have h2:=T8 (x:=x) (l:=out);simp only[List.foldl_cons,List.length_cons];omega
theorem B7f{y:It}:∀{l out:Tr},y∈l.foldl Hq out→y∈out∨y∈l
 |[],out,h=>.inl h
 |x::l,out,h=>by
  rcases B7f (l:=l) (out:=Hq out x) h with h|h
  ·rcases A7x h with h|h
   ·exact .inr (by simp[h])
   ·exact .inl h
  ·exact .inr (by simp[h])
theorem C1x{a b:Str}{k:Nat}:((names a++(names b).drop k).map List.length).sum≤48∧(names a++(names b).drop k).length≤8:=by
 have h1:(names a++(names b).drop k).length≤8:=by
  have:=Gv (p:=a);have:=Gv (p:=b);simp;omega
 have h2:=C2w (l:=names a++(names b).drop k) (k:=6) fun s hs=>by
  rcases List.mem_append.1 hs with h|h
  ·exact Tp (List.all_eq_true.1 Ku s h)
  ·exact Tp (List.all_eq_true.1 Ku s (List.mem_of_mem_drop h))
 exact⟨by omega,h1⟩
theorem C3w{o:OpR}{x:It}(h:x.path.length≤4194304):(Gh o x).path.length≤4194304:=by
 unfold Gh;split
 ·have h1:=C1x (a:=o.to) (b:=x.path) (k:=(names o.path).length)
  have h2:=Yl (names o.to++(names x.path).drop (names o.path).length);show(E3 _).length≤_;omega
 ·exact h
theorem C00{o:OpR}{x:It}:(Gh o x).data=x.data:=by
 unfold Gh;split<;>rfl
theorem C5w{t:Tr}{o:OpR}(hs:smT t)(i:Nat):smT (((t.take i).map (Gh o)).foldl Hq []):=by
 refine⟨?_,fun y hy=>?_⟩
 ·have h1:=B9o (l:=(t.take i).map (Gh o)) (out:=[])
  have h2:=hs.1;have h3:((t.take i).map (Gh o)).length≤t.length:=by simp;omega
  simp only[List.length_nil]at h1;omega
 ·rcases B7f hy with h|h
  ·cases h
  ·obtain⟨x,hx,rfl⟩:=List.mem_map.1 h
   have:=hs.2 x (List.mem_of_mem_take hx);exact⟨C3w this.1,by rw[C00];exact this.2⟩
theorem C75(A B C:List Str)(h:C.length≤B.length):D1
 (List.take
   ((List.take (List.map A6 A).length (List.drop 0 (List.map A6 A))).length+
     (List.take ((((List.map A6 B).length:Nat):Int).toNat - (((List.map A6 C).length:Nat):Int).toNat)
       (List.drop (0+(((List.map A6 C).length:Nat):Int).toNat) (List.map A6 B))).length)
   (List.drop 0
     (List.take (List.map A6 A).length (List.drop 0 (List.map A6 A))++
       List.take ((((List.map A6 B).length:Nat):Int).toNat - (((List.map A6 C).length:Nat):Int).toNat)
        (List.drop (0+(((List.map A6 C).length:Nat):Int).toNat) (List.map A6 B)))))=
 List.map A6 (A++B.drop C.length):=by
 have e1:List.take (List.map A6 A).length (List.drop 0 (List.map A6 A))=A.map A6:=by simp
 have e2:List.take ((((List.map A6 B).length:Nat):Int).toNat - (((List.map A6 C).length:Nat):Int).toNat)
       (List.drop (0+(((List.map A6 C).length:Nat):Int).toNat) (List.map A6 B))=(B.drop C.length).map A6:=by
  rw[Int.toNat_natCast,Int.toNat_natCast,Nat.zero_add,List.length_map,List.length_map,←List.map_drop];rw[List.take_of_length_le (by simp)]
 rw[e1,e2,List.drop_zero,←List.length_append,List.take_length,←List.map_append,rdS]
theorem C5h{t:Tr}{x:It}(h:smT t)(hl:t.length≤40)(hx:x.path.length≤4194304∧x.data.length≤4194304):smT (Hq t x):=by
 refine⟨?_,fun y hy=>?_⟩
 ·have:=T8 (x:=x) (l:=t)
  omega
 ·rcases A7x hy with rfl|hy
  ·exact hx
  ·exact h.2 y hy
theorem B68{t:Tr}(ok:Ar t=true){x:It}(hx:x∈t):x.data.length≤80:=by
 have h:=Dh ok hx;unfold Fo at h;simp only[Bool.and_eq_true]at h;have h:=h.2;split at h
 ·simp only[Bool.and_eq_true,beq_iff_eq]at h
  rw[h.1];simp
 ·simp only[Bool.and_eq_true,decide_eq_true_eq]at h
  omega
theorem C0s{s:Str}{o:OpR}(hs:s.length≤80)(ho:o.data.length≤1048576):(Eo s o).1.length≤4194304:=by
 unfold Eo;split
 ·have:=C47 (s:=s) (d:=o.data) (n:=o.at_)
  show(wrote _ _ _).length≤_;omega
 ·split
  ·show(Se _ _).length≤_
   cases h:inB o.at_ 0 100000 with
   |false=>rw[B60 h];omega
   |true=>
    have h1:=B7w (old:=s) h;have h2:=On.1 h;omega
  ·show s.length≤_
   omega
theorem C06{t:Tr}{o:OpR}(ht:smT t)(ho:smO o):smT (Ap t o).1:=by
 unfold Ap;by_cases hb:(!Ar t|| !Hz o)=true
 ·rw[if_pos hb];exact ht
 rw[if_neg hb];have ok:Ar t=true:=by revert hb;cases Ar t<;>simp
 have hl:=Fp ok;by_cases h1:El o.path=true
 ·rw[if_pos h1];exact ht
 rw[if_neg h1];have h1:El o.path=false:=by simpa using h1
 obtain⟨o1,o2,o3⟩:=ho;split
 ·unfold Cf
  split
  ·exact ht
  split
  ·exact ht
  split
  ·exact ht
  split
  ·exact ht
  refine C5h ht hl ?_;unfold S7;split
  ·exact⟨by show o.path.length≤_;omega,by show([]:Str).length≤_;simp⟩
  ·exact⟨by show o.path.length≤_;omega,by show o.data.length≤_;omega⟩
 split
 ·unfold D0
  cases hx:Aj t o.path with
  |none=>exact ht
  |some x=>
   have hxm:=List.mem_of_getElem? (B6q h1 hx).1;have hd:=B68 ok hxm;dsimp only;split
   ·exact ht
   split
   ·exact ht
   exact C5h ht hl ⟨(ht.2 x hxm).1,C0s hd o3⟩
 split
 ·unfold Cp
  cases hx:Aj t o.path with
  |none=>exact ht
  |some x=>
   dsimp only;split
   ·exact ht
   split
   ·exact ht
   refine⟨?_,fun y hy=>ht.2 y (List.mem_filter.1 hy).1⟩;have:=List.length_filter_le (fun y:It=> !(y.path==o.path)) t;have h2:=ht.1;show(List.filter _ _).length≤_;omega
 split
 ·exact ht
 unfold Kk;split
 ·exact ht
 split
 ·exact ht
 split
 ·exact ht
 split
 ·exact ht
 have:=C5w (o:=o) ht t.length;rw[List.take_length]at this;exact this
def Oa(s:Tr×List Int)(o:OpR):Tr×List Int:=((Ap s.1 o).1,s.2++[(Ap s.1 o).2])
def Gk(t:Tr)(l:List OpR):Tr×List Int:=l.foldl Oa (t,[])
theorem Yi{t:Tr}{l:List OpR}{i:Nat}{o:OpR}(h:l[i]? =some o):Gk t (l.take (i+1))=Oa (Gk t (l.take i)) o:=by
 unfold Gk;rw[Bk h,List.foldl_append];rfl
theorem A0h{t:Tr}{l:List OpR}(ht:smT t)(hl:B7p l):∀i,i≤l.length→smT (Gk t (l.take i)).1∧(Gk t (l.take i)).2.length=i
 |0,_=>⟨ht,rfl⟩
 |i+1,h=>by
  obtain⟨o,ho⟩:=B7 (l:=l) (i:=i) (by omega);obtain⟨h1,h2⟩:=A0h ht hl i (by omega);rw[Yi ho];refine⟨C06 h1 (hl.2 o (List.mem_of_getElem? ho)),?_⟩;simp[Oa,h2]
def atP:Str⊕OpR→It→Bool
 |.inl p,y=>y.path==p
 |.inr o,y=>Bl y.path==o.path
def atC:Str⊕OpR→List AV
 |.inl p=>[.str p]
 |.inr o=>Ai o
theorem Bo(x:Str⊕OpR):A2 (atC x):=by cases x<;>simp[atC,Ai,A2,AV.free]
theorem Bm(x:Str⊕OpR):A7 (atC x):=by cases x<;>simp[atC,Ai,A7,AV.noRd]
def Mq(t:Tr)(p:Str):Int:=if Jq t (Bl p)!=0 then Jq t (Bl p)else if(Aj t p).isSome then 3 else 0
theorem B6z{t:Tr}{p:Str}(h:(Mq t p !=0)=true):(Jq t (Bl p)!=0)=true∧Mq t p=Jq t (Bl p)∨(Jq t (Bl p)!=0)=false∧(Aj t p).isSome=true∧Mq t p=3:=by
 unfold Mq at h⊢;cases h1:(Jq t (Bl p)!=0)with
 |true=>exact .inl ⟨rfl,by rw[if_pos rfl]⟩
 |false=>
  rw[h1]at h;cases h2:(Aj t p).isSome with
  |true=>exact .inr ⟨rfl,rfl,rfl⟩
  |false=>rw[h2]at h;cases h
theorem B5j{t:Tr}{p:Str}(h:(Mq t p !=0)=false):(Jq t (Bl p)!=0)=false∧(Aj t p).isSome=false:=by
 unfold Mq at h;cases h1:(Jq t (Bl p)!=0)with
 |true=>rw[h1,if_pos rfl]at h;rw[h1]at h;cases h
 |false=>
  rw[h1]at h;cases h2:(Aj t p).isSome with
  |true=>rw[h2]at h;cases h
  |false=>exact⟨rfl,rfl⟩
theorem C6b{t:Tr}{o:OpR}(h:(Mq t o.path !=0)=true):Cf t o=(t,Mq t o.path):=by
 rcases B6z h with⟨h1,h2⟩|⟨h1,h2,h3⟩
 ·rw[Cf,if_pos h1,h2]
 ·rw[Cf,if_neg (by rw[h1];decide),if_pos h2,h3]
theorem C8v{t:Tr}{p:Str}(hp:El p=false)(h:(Aj t p).isSome=false):∀y,y∈t→y.path≠p:=by
 intro y hy e;rw[A7v hp]at h;have:t.find? (fun x=>x.path==p)=none:=by simpa using h
 have:=List.find?_eq_none.1 this y hy;simp[e]at this
theorem Zv:∀n,Lib.repeatL [(0:UInt8)] n=List.replicate n 0
 |0=>rfl
 |n+1=>by rw[Lib.repeatL,Zv n];rfl
end Go.GH
namespace Go.GH
open Go Go.Proofs
def F5:Bd:=con [mC] true Str A6 (fun s=>sml s.length) (fun s=>.bool (B4 s))
def B0w:Env:=⟨A4 B5,A4 [(50,Fi)],[0,2,4]⟩
theorem A91:B6 B0w (Av Tryz.f83) Tryz.f83.results.toList F5:=by
 intro(s:Str) hs;refine⟨trivial,?_⟩;conv=>whnf
 refine⟨s,rfl,fun _=>hs,?_⟩;conv=>whnf
 exact⟨trivial,rfl⟩
theorem Nn:Au Tryz.prog 83 F5:=Al (Bx _ _) (FOk.cons Sx FOk.nil) mixed Tryz.func83 rfl Tryz.call83 (by decide) (by kernel_rfl) A91 (by intro _ (y:Str) _;exact⟨by simp[F5,con,A9,A8,AV.noRd,A7,Ab,A5,A6,Aa,Ai,Bo,Bm],by simp[F5,con,A9,A8,AV.noRd,A7,Ab,A5,A6,Aa,Ai,Bo,Bm]⟩) (by intro(y:Str) _;first|(simp[F5,con,A9,A8,Ad,AV.free,A2,A3,A1,A6,Aa,Ai,Bo,Bm];done)|(obtain⟨_,_⟩:=y;simp[F5,con,A9,A8,Ad,AV.free,A2,A3,A1,A6,Aa,Ai,Bo,Bm];done)|(obtain⟨_,_,_⟩:=y;simp[F5,con,A9,A8,Ad,AV.free,A2,A3,A1,A6,Aa,Ai,Bo,Bm];done))
def Io:Bd:=con [mS 1] true (List Str) (fun l=>[.rd 1 (l.map A6)]) (fun l=>l.length+(l.map List.length).sum<4194304) (fun l=>.str (E3 l))
def B0f:Env:=⟨A4 B5,A4 [(92,Bz),(95,Ws),(96,Ew)],[0,2,3,13]⟩
theorem B2c:B6 B0f (Av Tryz.f51) Tryz.f51.results.toList Io:=by
 intro(l:List Str) hs;have hs:l.length+(l.map List.length).sum<4194304:=hs;have hl:=A5a l;have hj:=C5i l;have hjl:(Lib.join l sl).length+1=(L6 l).length:=by rw[←hj];simp[sl]
 have hsm:smL l:=⟨by omega,fun s hs=>by
  have:s.length≤(l.map List.length).sum:=C4x hs;omega⟩
 refine⟨trivial,?_⟩;conv=>whnf
 refine⟨(l,sl),rfl,fun _=>⟨by show(Lib.join l sl).length≤_;omega,by show l.length≤_;omega⟩,?_⟩;conv=>whnf
 refine⟨by show 1+(Lib.join l sl).length≤_;omega,?_⟩;repeat((conv=>whnf);refine⟨fun h=>h,?_⟩)
 refine⟨(l,false),rfl,fun _=>hsm,?_⟩;repeat((conv=>whnf);refine⟨fun h=>h,?_⟩)
 have e:(decide (l.length≤4)&&l.all D5)= !(decide (((l.map A6).length:Int)>4)||l.any fun s=> !D5 s):=by
  rw[List.all_eq_not_any_not,Bool.not_or];congr 1;rw[Bool.eq_iff_iff];simp;omega
 (conv=>whnf);refine⟨fun h1=>?_,fun h1=>?_⟩
 ·conv=>whnf
  exact⟨trivial,eqS (by
   rw[E3,e,show(_||_)=true from h1];rfl)⟩
 ·conv=>whnf
  exact⟨trivial,eqS (by
   rw[E3,e,show(_||_)=false from h1];exact hj)⟩
theorem A8v:Au Tryz.prog 51 Io:=Al (Bx _ _) (FOk.cons K8 (FOk.cons A34 (FOk.cons Oc FOk.nil))) mixed Tryz.func51 rfl Tryz.call51 (by decide) (by kernel_rfl) B2c (by intro _ (y:(List Str)) _;exact⟨by simp[Io,con,A9,A8,AV.noRd,A7,Ab,A5,A6,Aa,Ai,Bo,Bm],by simp[Io,con,A9,A8,AV.noRd,A7,Ab,A5,A6,Aa,Ai,Bo,Bm]⟩) (by intro(y:(List Str)) _;first|(simp[Io,con,A9,A8,Ad,AV.free,A2,A3,A1,A6,Aa,Ai,Bo,Bm];done)|(obtain⟨_,_⟩:=y;simp[Io,con,A9,A8,Ad,AV.free,A2,A3,A1,A6,Aa,Ai,Bo,Bm];done)|(obtain⟨_,_,_⟩:=y;simp[Io,con,A9,A8,Ad,AV.free,A2,A3,A1,A6,Aa,Ai,Bo,Bm];done))
def Hc:Bd:=con [mC] true Str A6 (fun l=>sml l.length) (fun l=>.str (Bl l))
def B4t:Env:=⟨A4 B5,A4 [(50,Fi),(51,Io)],[0,2,3,4,11]⟩
theorem B49:B6 B4t (Av Tryz.f48) Tryz.f48.results.toList Hc:=by
 intro(s:Str) hs;have hs:s.length≤4194304:=hs;refine⟨trivial,?_⟩;conv=>whnf
 refine⟨s,rfl,fun _=>hs,?_⟩
 (conv=>whnf);refine⟨fun h1=>?_,fun h1=>?_⟩
 ·have h1:B4 s=false:=by
   have h1:(!B4 s)=true:=h1;simpa using h1
  conv=>whnf
  exact⟨trivial,eqS (by simp[Bl,h1])⟩
 have h1:B4 s=true:=by
  have h1:(!B4 s)=false:=h1;simpa using h1
 have hd:Bl s=E3 ((names s).take ((names s).length - 1)):=by simp[Bl,h1]
 have hnl:=Gv (p:=s);have hns:=A1e (p:=s);repeat((conv=>whnf);refine⟨_,w64 (bb),?_⟩)
 conv=>whnf
 refine⟨(((names s).length - 1:Nat):Int),by simp only[List.length_map];split<;>omega,?_⟩;repeat((conv=>whnf);refine⟨fun _=>⟨bb,bb,bb⟩,?_⟩)
 refine⟨(names s).take ((names s).length - 1),by
  refine congrArg (fun x=>[AV.rd 1 x]) ?_;rw[C5q];simp only[Int.toNat_natCast,List.drop_zero,List.length_map];rfl,fun _=>?_,?_⟩
 ·have:=A5n (names s) ((names s).length - 1)
  show _<_;rw[List.length_take];omega
 conv=>whnf
 exact⟨trivial,eqS hd.symm⟩
theorem Sf:Au Tryz.prog 48 Hc:=Al (Bx _ _) (FOk.cons Sx (FOk.cons A8v FOk.nil)) mixed Tryz.func48 rfl Tryz.call48 (by decide) (by kernel_rfl) B49 (by intro _ (y:Str) _;exact⟨by simp[Hc,con,A9,A8,AV.noRd,A7,Ab,A5,A6,Aa,Ai,Bo,Bm],by simp[Hc,con,A9,A8,AV.noRd,A7,Ab,A5,A6,Aa,Ai,Bo,Bm]⟩) (by intro(y:Str) _;first|(simp[Hc,con,A9,A8,Ad,AV.free,A2,A3,A1,A6,Aa,Ai,Bo,Bm];done)|(obtain⟨_,_⟩:=y;simp[Hc,con,A9,A8,Ad,AV.free,A2,A3,A1,A6,Aa,Ai,Bo,Bm];done)|(obtain⟨_,_,_⟩:=y;simp[Hc,con,A9,A8,Ad,AV.free,A2,A3,A1,A6,Aa,Ai,Bo,Bm];done))
def Im:Bd:=con [mC] true Int (fun x=>[.int .i64 x]) (fun _=>True) (fun x=>.bool (inB x 1 3))
def B05:Env:=⟨A4 B5,A4 [(91,Dx)],[0,2]⟩
theorem B1z:B6 B05 (Av Tryz.f116) Tryz.f116.results.toList Im:=by
 intro(x:Int) hs;refine⟨trivial,?_⟩;conv=>whnf
 refine⟨(x,1,3),rfl,fun _=>trivial,?_⟩;conv=>whnf
 exact⟨trivial,rfl⟩
theorem A66:Au Tryz.prog 116 Im:=Al (Bx _ _) (FOk.cons Iy FOk.nil) mixed Tryz.func116 rfl Tryz.call116 (by decide) (by kernel_rfl) B1z (by intro _ (y:Int) _;exact⟨by simp[Im,con,A9,A8,AV.noRd,A7,Ab,A5,A6,Aa,Ai,Bo,Bm],by simp[Im,con,A9,A8,AV.noRd,A7,Ab,A5,A6,Aa,Ai,Bo,Bm]⟩) (by intro(y:Int) _;first|(simp[Im,con,A9,A8,Ad,AV.free,A2,A3,A1,A6,Aa,Ai,Bo,Bm];done)|(obtain⟨_,_⟩:=y;simp[Im,con,A9,A8,Ad,AV.free,A2,A3,A1,A6,Aa,Ai,Bo,Bm];done)|(obtain⟨_,_,_⟩:=y;simp[Im,con,A9,A8,Ad,AV.free,A2,A3,A1,A6,Aa,Ai,Bo,Bm];done))
def Ig:Bd:=con [.rd [none,none,none,none]] true It (fun x=>[.agg (Aa x)]) (fun x=>x.path.length≤4194304∧x.data.length≤4194304) (fun x=>.bool (Fo x))
def A9p:Env:=⟨A4 B5,A4 [(83,F5),(91,Dx),(116,Im)],[0,1,2,17,20]⟩
theorem B0r:B6 A9p (Av Tryz.f69) Tryz.f69.results.toList Ig:=by
 intro(x:It) hs;obtain⟨hs1,hs2⟩:x.path.length≤4194304∧x.data.length≤4194304:=hs;refine⟨trivial,?_⟩;conv=>whnf
 refine⟨x.path,rfl,fun _=>hs1,?_⟩;repeat((conv=>whnf);first|refine⟨fun h=>h,?_⟩|refine⟨x.kind,rfl,fun _=>trivial,?_⟩)
 (conv=>whnf);refine⟨fun h1=>?_,fun h1=>?_⟩
 ·conv=>whnf
  exact⟨trivial,eqB (by
   have h1:(!B4 x.path||x.path==sl|| !inB x.kind 1 3)=true:=h1;unfold Fo;revert h1;cases B4 x.path<;>cases(x.path==sl)<;>cases inB x.kind 1 3<;>simp)⟩
 have h1:(B4 x.path&& !(x.path==sl)&&inB x.kind 1 3)=true:=by
  have h1:(!B4 x.path||x.path==sl|| !inB x.kind 1 3)=false:=h1;revert h1;cases B4 x.path<;>cases(x.path==sl)<;>cases inB x.kind 1 3<;>simp
 (conv=>whnf);refine⟨fun h2=>?_,fun h2=>?_⟩
 ·repeat((conv=>whnf);refine⟨fun h=>h,?_⟩)
  have h2:(x.kind==2)=true:=h2;exact⟨trivial,eqB (by unfold Fo;rw[h1,if_pos h2];rfl)⟩
 ·repeat((conv=>whnf);first|refine⟨fun h=>h,?_⟩|refine⟨(_,_,_),rfl,fun _=>trivial,?_⟩)
  have h2:(x.kind==2)=false:=h2;exact⟨trivial,eqB (by unfold Fo;rw[h1,if_neg (by rw[h2];exact Bool.false_ne_true)];rfl)⟩
theorem A8t:Au Tryz.prog 69 Ig:=Al (Bx _ _) (FOk.cons Nn (FOk.cons Iy (FOk.cons A66 FOk.nil))) mixed Tryz.func69 rfl Tryz.call69 (by decide) (by kernel_rfl) B0r (by intro _ (y:It) _;exact⟨by simp[Ig,con,A9,A8,AV.noRd,A7,Ab,A5,A6,Aa,Ai,Bo,Bm],by simp[Ig,con,A9,A8,AV.noRd,A7,Ab,A5,A6,Aa,Ai,Bo,Bm]⟩) (by intro(y:It) _;first|(simp[Ig,con,A9,A8,Ad,AV.free,A2,A3,A1,A6,Aa,Ai,Bo,Bm];done)|(obtain⟨_,_⟩:=y;simp[Ig,con,A9,A8,Ad,AV.free,A2,A3,A1,A6,Aa,Ai,Bo,Bm];done)|(obtain⟨_,_,_⟩:=y;simp[Ig,con,A9,A8,Ad,AV.free,A2,A3,A1,A6,Aa,Ai,Bo,Bm];done))
def Gm:Bd:=con [.rd [none,none,none,none],.rd []] true (It×Str) (fun x=>[.agg (Aa x.1),.pin [.str x.2]]) (fun _=>True) (fun x=>.bool (x.1.path==x.2))
def A38:Env:=⟨A4 B5,A4 [],[0,1,2,3]⟩
theorem A3d:B6 A38 (Av Tryz.f88) Tryz.f88.results.toList Gm:=by
 rintro⟨x,p⟩ hs;refine⟨trivial,?_⟩;conv=>whnf
 exact⟨trivial,rfl⟩
theorem A1t:Au Tryz.prog 88 Gm:=Al (Bx _ _) FOk.nil mixed Tryz.func88 rfl Tryz.call88 (by decide) (by kernel_rfl) A3d (by intro _ (y:(It×Str)) _;exact⟨by simp[Gm,con,A9,A8,AV.noRd,A7,Ab,A5,A6,Aa,Ai,Bo,Bm],by simp[Gm,con,A9,A8,AV.noRd,A7,Ab,A5,A6,Aa,Ai,Bo,Bm]⟩) (by intro(y:(It×Str)) _;first|(simp[Gm,con,A9,A8,Ad,AV.free,A2,A3,A1,A6,Aa,Ai,Bo,Bm];done)|(obtain⟨_,_⟩:=y;simp[Gm,con,A9,A8,Ad,AV.free,A2,A3,A1,A6,Aa,Ai,Bo,Bm];done)|(obtain⟨_,_,_⟩:=y;simp[Gm,con,A9,A8,Ad,AV.free,A2,A3,A1,A6,Aa,Ai,Bo,Bm];done))
def Eg:Bd:=con [.rd [none,none,none,none],.rd []] true (It×OpR) (fun x=>[.agg (Aa x.1),.pin (Ai x.2)]) (fun x=>x.1.path.length≤4194304) (fun x=>.bool (Bl x.1.path==x.2.path))
def Zc:Env:=⟨A4 B5,A4 [(48,Hc)],[0,1,2,3]⟩
theorem Zx:B6 Zc (Av Tryz.f143) Tryz.f143.results.toList Eg:=by
 rintro⟨x,o⟩ hs;have hs:x.path.length≤4194304:=hs;refine⟨trivial,?_⟩;skip;refine⟨x.path,rfl,fun _=>hs,?_⟩;repeat((conv=>whnf);refine⟨(by kernel_rfl:Bu _ _=true),?_⟩)
 exact⟨trivial,rfl⟩
theorem Qc:Au Tryz.prog 143 Eg:=Al (Bx _ _) (FOk.cons Sf FOk.nil) mixed Tryz.func143 rfl Tryz.call143 (by decide) (by kernel_rfl) Zx (by intro _ (y:(It×OpR)) _;exact⟨by simp[Eg,con,A9,A8,AV.noRd,A7,Ab,A5,A6,Aa,Ai,Bo,Bm],by simp[Eg,con,A9,A8,AV.noRd,A7,Ab,A5,A6,Aa,Ai,Bo,Bm]⟩) (by intro(y:(It×OpR)) _;first|(simp[Eg,con,A9,A8,Ad,AV.free,A2,A3,A1,A6,Aa,Ai,Bo,Bm];done)|(obtain⟨_,_⟩:=y;simp[Eg,con,A9,A8,Ad,AV.free,A2,A3,A1,A6,Aa,Ai,Bo,Bm];done)|(obtain⟨_,_,_⟩:=y;simp[Eg,con,A9,A8,Ad,AV.free,A2,A3,A1,A6,Aa,Ai,Bo,Bm];done))
def atF:Str⊕OpR→Nat
 |.inl _=>88
 |.inr _=>143
def Co:Bd:=con [mS 4,mC] true (Tr×(Str⊕OpR)) (fun x=>[.rd 4 (x.1.map Aa),.fn (atF x.2) [.pin (atC x.2)]]) (fun x=>smT x.1) (fun x=>.int .i64 (fnd (atP x.2) x.1))
def T7:Env:=⟨A4 B5,A4 [(88,Gm),(143,Eg)],[0,1,4,5,7,8,9,16]⟩
theorem Sz:B6 T7 (Av Tryz.f87) Tryz.f87.results.toList Co:=by
 rintro⟨l,q⟩ hs;obtain⟨hs1,hs2⟩:smT l:=hs;cases q with
 |inl p=>
  refine⟨trivial,?_⟩;conv=>whnf
  refine B2 (fun i:Nat=>⟨[(0,⟨none,.rd 4 (l.map Aa)⟩),(1,⟨none,.fn 88 [.pin [.str p]]⟩),(7,⟨none,.int .i64 l.length⟩),(8,⟨none,.int .i64 i⟩)],[],0⟩)
   (fun i=>i≤l.length∧(l.take i).any (atP (.inl p))=false) (fun i=>l.length - i) 0 ?_ ⟨by omega,rfl⟩ ?_
  ·(refine⟨?_,?_,rfl⟩<;>repeat' (first|exact rfl|exact trivial|refine⟨?_,?_⟩|fail)<;>(conv=>whnf))
   all_goals simp
  rintro i ⟨hi,hI⟩
  (conv=>whnf);refine⟨fun h1=>?_,fun h1=>?_⟩
  ·have h1:i<l.length:=by simpa using h1
   obtain⟨b,hb⟩:=B7 h1;have hbl:=(hs2 b (List.mem_of_getElem? hb)).1;repeat((conv=>whnf);refine⟨Aa b,fun _=>⟨by omega,by simp[hb]⟩,?_⟩)
   refine⟨(b,p),rfl,fun _=>trivial,?_⟩
   (conv=>whnf);refine⟨fun h2=>?_,fun h2=>?_⟩
   ·have h2:atP (.inl p) b=true:=h2
    conv=>whnf
    exact⟨trivial,Mu (A4n hI hb h2).symm⟩
   ·have h2:atP (.inl p) b=false:=h2
    repeat((conv=>whnf);refine⟨_,w64 (bb),?_⟩)
    refine Bt (i+1) ?_ ⟨h1,Ou hI hb h2⟩ (by first|omega|(simp;done)|(simp;omega))
    (refine⟨?_,?_,rfl⟩<;>repeat' (first|exact rfl|exact trivial|refine⟨?_,?_⟩|fail)<;>(conv=>whnf))
  ·have h1:i=l.length:=by
    have:¬i<l.length:=by simpa using h1
    omega
   subst h1;rw[List.take_length]at hI;conv=>whnf
   exact⟨trivial,Mu (Sw hI).symm⟩
 |inr o=>
  refine⟨trivial,?_⟩;conv=>whnf
  refine B2 (fun i:Nat=>⟨[(0,⟨none,.rd 4 (l.map Aa)⟩),(1,⟨none,.fn 143 [.pin (Ai o)]⟩),(7,⟨none,.int .i64 l.length⟩),(8,⟨none,.int .i64 i⟩)],[],0⟩)
   (fun i=>i≤l.length∧(l.take i).any (atP (.inr o))=false) (fun i=>l.length - i) 0 ?_ ⟨by omega,rfl⟩ ?_
  ·(refine⟨?_,?_,rfl⟩<;>repeat' (first|exact rfl|exact trivial|refine⟨?_,?_⟩|fail)<;>(conv=>whnf))
   all_goals simp
  rintro i ⟨hi,hI⟩
  (conv=>whnf);refine⟨fun h1=>?_,fun h1=>?_⟩
  ·have h1:i<l.length:=by simpa using h1
   obtain⟨b,hb⟩:=B7 h1;have hbl:=(hs2 b (List.mem_of_getElem? hb)).1;repeat((conv=>whnf);refine⟨Aa b,fun _=>⟨by omega,by simp[hb]⟩,?_⟩)
   refine⟨(b,o),rfl,fun _=>hbl,?_⟩
   (conv=>whnf);refine⟨fun h2=>?_,fun h2=>?_⟩
   ·have h2:atP (.inr o) b=true:=h2
    conv=>whnf
    exact⟨trivial,Mu (A4n hI hb h2).symm⟩
   ·have h2:atP (.inr o) b=false:=h2
    repeat((conv=>whnf);refine⟨_,w64 (bb),?_⟩)
    refine Bt (i+1) ?_ ⟨h1,Ou hI hb h2⟩ (by first|omega|(simp;done)|(simp;omega))
    (refine⟨?_,?_,rfl⟩<;>repeat' (first|exact rfl|exact trivial|refine⟨?_,?_⟩|fail)<;>(conv=>whnf))
  ·have h1:i=l.length:=by
    have:¬i<l.length:=by simpa using h1
    omega
   subst h1;rw[List.take_length]at hI;conv=>whnf
   exact⟨trivial,Mu (Sw hI).symm⟩
theorem M7:Au Tryz.prog 87 Co:=Al (Bx _ _) (FOk.cons A1t (FOk.cons Qc FOk.nil)) mixed Tryz.func87 rfl Tryz.call87 (by decide) (by kernel_rfl) Sz (by intro _ (y:(Tr×(Str⊕OpR))) _;exact⟨by simp[Co,con,A9,A8,AV.noRd,A7,Ab,A5,A6,Aa,Ai,Bo,Bm],by simp[Co,con,A9,A8,AV.noRd,A7,Ab,A5,A6,Aa,Ai,Bo,Bm]⟩) (by intro(y:(Tr×(Str⊕OpR))) _;first|(simp[Co,con,A9,A8,Ad,AV.free,A2,A3,A1,A6,Aa,Ai,Bo,Bm];done)|(obtain⟨_,_⟩:=y;simp[Co,con,A9,A8,Ad,AV.free,A2,A3,A1,A6,Aa,Ai,Bo,Bm];done)|(obtain⟨_,_,_⟩:=y;simp[Co,con,A9,A8,Ad,AV.free,A2,A3,A1,A6,Aa,Ai,Bo,Bm];done))
def E0:Bd:=con [mS 4,mC] true (Tr×Str) (fun x=>[rdT x.1,.str x.2]) (fun x=>smT x.1) (fun x=>.int .i64 (fnd (fun y=>y.path==x.2) x.1))
def B0z:Env:=⟨A4 B5,A4 [(87,Co)],[0,1,2,3,4]⟩
theorem A94:B6 B0z (Av Tryz.f47) Tryz.f47.results.toList E0:=by
 rintro⟨l,p⟩ hs;have hs:smT l:=hs;refine⟨trivial,?_⟩;conv=>whnf
 refine⟨(l,.inl p),rfl,fun _=>hs,?_⟩;conv=>whnf
 exact⟨trivial,rfl⟩
theorem J1:Au Tryz.prog 47 E0:=Al (Bx _ _) (FOk.cons M7 FOk.nil) mixed Tryz.func47 rfl Tryz.call47 (by decide) (by kernel_rfl) A94 (by intro _ (y:(Tr×Str)) _;exact⟨by simp[E0,con,A9,A8,AV.noRd,A7,Ab,A5,A6,Aa,Ai,Bo,Bm],by simp[E0,con,A9,A8,AV.noRd,A7,Ab,A5,A6,Aa,Ai,Bo,Bm]⟩) (by intro(y:(Tr×Str)) _;first|(simp[E0,con,A9,A8,Ad,AV.free,A2,A3,A1,A6,rdT,Aa,Ai,Bo,Bm];done)|(obtain⟨_,_⟩:=y;simp[E0,con,A9,A8,Ad,AV.free,A2,A3,A1,A6,rdT,Aa,Ai,Bo,Bm];done)|(obtain⟨_,_,_⟩:=y;simp[E0,con,A9,A8,Ad,AV.free,A2,A3,A1,A6,rdT,Aa,Ai,Bo,Bm];done))
def F6:Bd:=con [mS 4,mC] true (Tr×Str) (fun x=>[rdT x.1,.str x.2]) (fun x=>smT x.1) (fun x=>Mx (Aj x.1 x.2))
def A5d:Env:=⟨A4 B5,A4 [(47,E0)],[0,1,2,4,5,6,8,14]⟩
theorem A5s:B6 A5d (Av Tryz.f11) Tryz.f11.results.toList F6:=by
 rintro⟨t,p⟩ hs;obtain⟨hs1,hs2⟩:smT t:=hs;refine⟨trivial,?_⟩
 (conv=>whnf);refine⟨fun h1=>?_,fun h1=>?_⟩
 ·have h1:(p==sl)=true:=h1
  conv=>whnf
  rw[show F6.res (t,p)=.tup [.agg (Aa It.top),.bool true] by show Mx (Aj t p)=_;simp[Aj,h1];rfl];exact⟨trivial,⟨rfl,rfl,rfl,rfl,trivial⟩,rfl,trivial⟩
 have h1:(p==sl)=false:=h1;have hd:Aj t p=t.find? (fun y=>y.path==p):=by simp[Aj,h1]
 conv=>whnf
 refine⟨(t,p),rfl,fun _=>⟨hs1,hs2⟩,?_⟩
 (conv=>whnf);refine⟨fun h2=>?_,fun h2=>?_⟩
 ·have h2:t.any (fun y=>y.path==p)=false:=by
   rw[←Pv];simpa using h2
  conv=>whnf
  rw[show F6.res (t,p)=.tup [.agg (Aa It.none),.bool false] by show Mx (Aj t p)=_;rw[hd,Z8 h2];rfl];exact⟨trivial,⟨rfl,rfl,rfl,rfl,trivial⟩,rfl,trivial⟩
 ·have h2:t.any (fun y=>y.path==p)=true:=by
   rw[←Pv];simpa using h2
  obtain⟨b,hb1,hb2⟩:=Zl h2;have hg:=C8h (p:=fun y:It=>y.path==p) (l:=t);have hp0:0≤fnd (fun y:It=>y.path==p) t:=by have:=Pv (p:=fun y:It=>y.path==p) (l:=t);rw[h2]at this;simpa using this
  repeat((conv=>whnf);refine⟨Aa b,fun _=>⟨hp0,Ao hb1⟩,?_⟩)
  rw[show F6.res (t,p)=.tup [.agg (Aa b),.bool true] by show Mx (Aj t p)=_;rw[hd,hb2];rfl];exact⟨trivial,⟨rfl,rfl,rfl,rfl,trivial⟩,rfl,trivial⟩
theorem Uc:Au Tryz.prog 11 F6:=Al (Bx _ _) (FOk.cons J1 FOk.nil) mixed Tryz.func11 rfl Tryz.call11 (by decide) (by kernel_rfl) A5s (by intro _ (y:Tr×Str) _;refine⟨?_,trivial⟩;show AV.noRd (Mx (Aj y.1 y.2));simp[Mx,AV.noRd,A7,Aa]) (by intro(y:(Tr×Str)) _;first|(simp[F6,con,A9,A8,Ad,AV.free,A2,A3,A1,A6,rdT,Aa,Ai,Bo,Bm];done)|(obtain⟨_,_⟩:=y;simp[F6,con,A9,A8,Ad,AV.free,A2,A3,A1,A6,rdT,Aa,Ai,Bo,Bm];done)|(obtain⟨_,_,_⟩:=y;simp[F6,con,A9,A8,Ad,AV.free,A2,A3,A1,A6,rdT,Aa,Ai,Bo,Bm];done))
def H4:Bd:=con [mS 4] true Tr (fun t=>[rdT t]) smT (fun t=>.bool (Ar t))
def B06:Env:=⟨A4 B5,A4 [(11,F6),(48,Hc),(69,Ig)],[0,1,2,3,4,5,6,10,12,13,14,15,37,52]⟩
theorem B1r:B6 B06 (Av Tryz.f32) Tryz.f32.results.toList H4:=by
 intro(t:Tr) hs;obtain⟨hs1,hs2⟩:smT t:=hs;refine⟨trivial,?_⟩
 (conv=>whnf);refine⟨fun h1=>?_,fun h1=>?_⟩
 ·conv=>whnf
  exact⟨trivial,eqB (by have h1:¬t.length≤40:=by simp at h1;omega
                        simp[Ar,h1])⟩
 have h1:t.length≤40:=by simp at h1;omega
 skip;refine B2 (fun i:Nat=>⟨[(1,⟨none,.bx 0 0⟩),(12,⟨none,.rd 4 (t.map Aa)⟩),(13,⟨none,.int .i64 t.length⟩),(14,⟨none,.int .i64 i⟩)],[(0,.own 1 [[.rd 4 (t.map Aa)]])],1⟩)
  (fun i=>i≤t.length∧∀j,j<i→chk t j=true) (fun i=>t.length - i) 0 ?_ ⟨by omega,fun j hj=>by omega⟩ ?_
 ·(refine⟨?_,?_,rfl⟩<;>repeat' (first|exact rfl|exact trivial|refine⟨?_,?_⟩|fail)<;>(conv=>whnf))
  all_goals simp
 rintro i ⟨hi,hI⟩
 (conv=>whnf);refine⟨fun h2=>?_,fun h2=>?_⟩
 ·have h2:i<t.length:=by simpa using h2
  obtain⟨b,hb⟩:=B7 h2;have hbs:=hs2 b (List.mem_of_getElem? hb);have hbad:∀{q:Bool},chk t i=q→q=false→Ar t=false:=fun h e=>A6y h2 (h.trans e);generalize hpv:t.getD (i - 1) It.none=pv;have hprev:0<i→t[i - 1]? =some pv:=fun h=>by
   rw[←hpv,List.getD_eq_getElem?_getD,List.getElem?_eq_getElem (by omega)];rfl
  have hix:∀{A:Bool},Cy (some (A&&decide ((i:Int)>0)))→(0:Int)≤(i:Int) - 1∧(t.map Aa)[((i:Int) - 1).toNat]? =some (Aa pv):=by
   intro A h;have hi0:0<i:=by simp[Cy]at h;omega
   exact⟨by omega,by rw[show((i:Int) - 1).toNat=i - 1 by omega];exact Ao (hprev hi0)⟩
  repeat((conv=>whnf);refine⟨Aa b,fun _=>⟨by omega,by simp[hb]⟩,?_⟩)
  refine⟨b,rfl,fun _=>hbs,?_⟩;repeat((conv=>whnf);first|refine⟨fun h=>h,?_⟩|refine⟨(by kernel_rfl:Bu _ _=true),?_⟩|refine⟨_,w64 (bb),?_⟩|refine⟨Aa pv,fun h=>hix h,?_⟩)
  have e1:decide ((i:Int)>0)= !(i==0):=by
   rw[Bool.eq_iff_iff];simp;omega
  (conv=>whnf);refine⟨fun h3=>?_,fun h3=>?_⟩
  ·have h3:(!Fo b||(decide ((i:Int)>0)&& !Ce pv.path b.path))=true:=h3
   conv=>whnf
   exact⟨trivial,eqB (hbad (Ym hb hpv) (by
    rw[e1]at h3;revert h3;cases Fo b<;>cases(i==0)<;>cases Ce pv.path b.path<;>simp)).symm⟩
  have h3:(Fo b&&(i==0||Ce pv.path b.path))=true:=by
   have h3:(!Fo b||(decide ((i:Int)>0)&& !Ce pv.path b.path))=false:=h3;rw[e1]at h3;revert h3;cases Fo b<;>cases(i==0)<;>cases Ce pv.path b.path<;>simp
  conv=>whnf
  refine⟨b.path,rfl,fun _=>hbs.1,?_⟩;conv=>whnf
  refine⟨(t,Bl b.path),rfl,fun _=>⟨hs1,hs2⟩,?_⟩;repeat((conv=>whnf);first|refine⟨fun h=>h,?_⟩|refine⟨(by kernel_rfl:Bu _ _=true),?_⟩)
  (conv=>whnf);refine⟨fun h5=>?_,fun h5=>?_⟩
  ·conv=>whnf
   exact⟨trivial,eqB (hbad (B9m hb (by
    have h5:(!(Aj t (Bl b.path)).isSome||((Aj t (Bl b.path)).getD It.none).kind !=2)=true:=h5;unfold N6;revert h5;cases(Aj t (Bl b.path)).isSome<;>simp)) rfl).symm⟩
  have h5:N6 t (Bl b.path)=true:=by
   have h5:(!(Aj t (Bl b.path)).isSome||((Aj t (Bl b.path)).getD It.none).kind !=2)=false:=h5;unfold N6;revert h5;cases(Aj t (Bl b.path)).isSome<;>simp
  repeat((conv=>whnf);refine⟨_,w64 (bb),?_⟩)
  refine Bt (i+1) ?_ ⟨h2,fun j hj=>?_⟩ (by first|omega|(simp;done)|(simp;omega))
  ·(refine⟨?_,?_,rfl⟩<;>repeat' (first|exact rfl|exact trivial|refine⟨?_,?_⟩|fail)<;>(conv=>whnf))
  ·rcases Nat.lt_or_ge j i with h|h
   ·exact hI j h
   ·rw[show j=i by omega,Ym hb hpv,h3,h5];rfl
 ·have h2:i=t.length:=by
   have:¬i<t.length:=by simpa using h2
   omega
  subst h2;conv=>whnf
  exact⟨trivial,eqB (Wo h1 hI).symm⟩
theorem Wj:Au Tryz.prog 32 H4:=Al (Bx _ _) (FOk.cons Uc (FOk.cons Sf (FOk.cons A8t FOk.nil))) mixed Tryz.func32 rfl Tryz.call32 (by decide) (by kernel_rfl) B1r (by intro _ (y:Tr) _;exact⟨by simp[H4,con,A9,A8,AV.noRd,A7,Ab,A5,A6],by simp[H4,con,A9,A8,AV.noRd,A7,Ab,A5,A6]⟩) (by intro(y:Tr) _;first|(simp[H4,con,A9,A8,Ad,AV.free,A2,A3,A1,A6,rdT,Aa];done)|(obtain⟨_,_⟩:=y;simp[H4,con,A9,A8,Ad,AV.free,A2,A3,A1,A6,rdT,Aa];done)|(obtain⟨_,_,_⟩:=y;simp[H4,con,A9,A8,Ad,AV.free,A2,A3,A1,A6,rdT,Aa];done))
end Go.GH
namespace Go.GH
open Go
def C9d(b:UInt8):Bool:=decide (48≤b.toNat)&&decide (b.toNat≤57)
def C9f(a:Nat)(s:Str):Nat:=s.foldl (fun a b=>10*a+(b.toNat - 48)) a
def C90(s:Str):Nat:=C9f 0 s
def C8x(s:Str):Bool:=decide (1≤s.length)&&decide (s.length≤6)&&s.all C9d&&(dig (C90 s)==s)
def num(s:Str):Option Nat:=if C8x s then some (C90 s)else none
def C3m(c:UInt8):Int:=fnd (fun b=>b==c) C99
def C8y(a b:UInt8):UInt8:=UInt8.ofNat (16*(C3m a).toNat+(C3m b).toNat)
def Xj:Str→Option Str
 |[]=>some []
 |[_]=>none
 |a::b::r=>if(decide (C3m a<0)||decide (C3m b<0))=true then none else(Xj r).map (C8y a b::·)
theorem C6f{s:Str}{i:Nat}{a b:UInt8}(ha:s[i]? =some a)(hb:s[i+1]? =some b):s.drop i=a::b::s.drop (i+2):=by
 have h1:=Dq ha;have h2:=Dq hb;rw[List.drop_eq_getElem_cons h1,List.drop_eq_getElem_cons h2];rw[List.getElem?_eq_getElem h1]at ha;rw[List.getElem?_eq_getElem h2]at hb;simp only[Option.some.injEq]at ha hb;rw[ha,hb]
def Yb(s:Str)(i:Nat)(out:Str):Prop:=i≤s.length∧i%2=0∧out.length≤i∧Xj s=(Xj (s.drop i)).map (out++·)
theorem Yb.zero(s:Str):Yb s 0 []:=⟨by omega,rfl,by simp,by rw[List.drop_zero];cases Xj s<;>simp⟩
theorem Yb.next{s:Str}{i:Nat}{out:Str}(h:Yb s i out){a b:UInt8}(ha:s[i]? =some a)(hb:s[i+1]? =some b)(hn:(decide (C3m a<0)||decide (C3m b<0))=false):Yb s (i+2) (out++[C8y a b]):=by
 obtain⟨h1,h2,h3,h4⟩:=h;have:=Dq hb;refine⟨by omega,by omega,by simp;omega,?_⟩;rw[h4,C6f ha hb,Xj,if_neg (by simp[hn])];cases Xj (s.drop (i+2))<;>simp
theorem Yb.fin{s out:Str}(h:Yb s s.length out):Xj s=some out:=by
 rw[h.2.2.2,List.drop_length];simp[Xj]
def C85(w:List Str):OpR:=⟨((num (w.getD 0 [])).getD 0:Nat),w.getD 1 [],w.getD 2 [],((num (w.getD 3 [])).getD 0:Nat),(Xj (w.getD 5 [])).getD [],((num (w.getD 4 [])).getD 0:Nat)⟩
def C8c(s:Str)(w:List Str):Bool:=decide (w.length=6)&&(num (w.getD 0 [])).isSome&&(num (w.getD 3 [])).isSome&&(num (w.getD 4 [])).isSome&&(Xj (w.getD 5 [])).isSome&&(C8m (C85 w)==s)
def C6k(s:Str):Option OpR:=if C8c s (Aq 32 s)then some (C85 (Aq 32 s))else none
def C0q:List Str→Option (List OpR)
 |[]=>some []
 |a::r=>match C6k a with
  |none=>none
  |some o=>(C0q r).map (o::·)
def Zt(ls:List Str):Option (List OpR):=if ls.getD (ls.length - 1) []==[]then C0q (ls.take (ls.length - 1))else none
def Zj(s:Str):Option (List OpR):=Zt (Aq 10 s)
def B1d(s:Str):Str×Str×Bool:=if fnd (fun b=>b==10) s≥0 then(s.take (fnd (fun b=>b==10) s).toNat,s.drop ((fnd (fun b=>b==10) s).toNat+1),true)else(s,[],false)
theorem C3i{p:UInt8→Bool}{s:Str}(h:0≤fnd p s):∃x,s[(fnd p s).toNat]? =some x∧p x=true∧∀y,y∈s.take (fnd p s).toNat→p y=false:=by
 have ha:s.any p=true:=by
  rcases Bool.eq_false_or_eq_true (s.any p)with h1|h1
  ·exact h1
  ·rw[Sw h1]at h;omega
 have e:(fnd p s).toNat=s.findIdx p:=by unfold fnd;rw[if_pos ha];simp
 rw[e];have hlt:s.findIdx p<s.length:=List.findIdx_lt_length.2 (List.any_eq_true.1 ha);refine⟨s[s.findIdx p],List.getElem?_eq_getElem hlt,List.findIdx_getElem,fun y hy=>?_⟩;obtain⟨j,hj⟩:=List.getElem?_of_mem hy;have hjl:j<s.findIdx p:=by
  have:=Dq hj;rw[List.length_take]at this;omega
 rw[List.getElem?_take_of_lt hjl]at hj;have h1:=List.not_of_lt_findIdx hjl;have hjs:j<s.length:=by omega
 rw[List.getElem?_eq_getElem hjs]at hj;simp only[Option.some.injEq]at hj;rw[←hj];simpa using h1
theorem C5o{s:Str}(h:(B1d s).2.2=true):s=(B1d s).1++10::(B1d s).2.1∧∀x,x∈(B1d s).1→x≠10:=by
 unfold B1d at h⊢;by_cases hf:fnd (fun b=>b==10) s≥0
 ·rw[if_pos hf]
  obtain⟨x,h1,h2,h3⟩:=C3i hf;have hx:x=10:=by simpa using h2
  subst hx;refine⟨?_,fun y hy=>by simpa using h3 y hy⟩;have hlt:=Dq h1;have e:s.drop (fnd (fun b=>b==10) s).toNat=10::s.drop ((fnd (fun b=>b==10) s).toNat+1):=by
   rw[List.drop_eq_getElem_cons hlt];rw[List.getElem?_eq_getElem hlt]at h1;simp only[Option.some.injEq]at h1;rw[h1]
  show s=s.take _++10::s.drop _;rw[←e,List.take_append_drop]
 ·rw[if_neg hf]at h;cases h
theorem C42:Zj []=some []:=rfl
theorem A9d{a:Str}{r:List Str}(hr:r≠[]):Zt (a::r)=match C6k a with
 |none=>none
 |some o=>(Zt r).map (o::·):=by
 have hl:0<r.length:=List.length_pos_iff.2 hr;obtain⟨k,hk⟩:∃k,r.length=k+1:=⟨r.length - 1,by omega⟩
 unfold Zt;rw[List.length_cons,hk];simp only[Nat.add_sub_cancel,List.getD_cons_succ,List.take_succ_cons];by_cases h:(r.getD k []==[])=true
 ·rw[if_pos h,if_pos h,C0q]
 ·rw[if_neg h,if_neg h]
  cases C6k a<;>rfl
theorem C39{a b:Str}(ha:∀x,x∈a→x≠10):Zj (a++10::b)=match C6k a with
 |none=>none
 |some o=>(Zj b).map (o::·):=by
 unfold Zj;rw[Ts ha,A9d (Lf 10 b)]
def Y8(s r:Str)(out:List OpR):Prop:=out.length+r.length≤s.length∧Zj s=(Zj r).map (out++·)
theorem Y8.zero(s:Str):Y8 s s []:=⟨by simp,by cases Zj s<;>simp⟩
theorem Y8.fin{s:Str}{out:List OpR}(h:Y8 s [] out):Zj s=some out:=by rw[h.2,C42];simp
theorem Y8.next{s r:Str}{out:List OpR}(h:Y8 s r out)(hc:(B1d r).2.2=true){o:OpR}(ho:C6k (B1d r).1=some o):Y8 s (B1d r).2.1 (out++[o])∧(B1d r).2.1.length<r.length:=by
 obtain⟨e,hn⟩:=C5o hc;have hl:=congrArg List.length e;simp at hl;refine⟨⟨by have:=h.1;simp;omega,?_⟩,by omega⟩;rw[h.2];conv=>lhs;rw[e]
 rw[C39 hn,ho];cases Zj (B1d r).2.1<;>simp
structure Cur where
 b:Str
 i:Nat
 h:Int
def Ag(b:UInt8):List AV:=[.int .u8 b.toNat]
def Ba(c:Cur):List AV:=[.rd 1 (c.b.map Ag),.int .i64 c.i,.int .i64 c.h]
def Dd(c:Cur):Prop:=c.i≤c.b.length∧c.b.length≤1048576
def B4p(a b:Int):Int:=IntKind.i64.wrap (BitVec.ofInt IntKind.i64.bits a&&&BitVec.ofInt IntKind.i64.bits b).toNat
def C92(a b:Int):Int:=IntKind.i64.wrap (BitVec.ofInt IntKind.i64.bits a^^^BitVec.ofInt IntKind.i64.bits b).toNat
def C7h(a b:Int):Int:=IntKind.i64.wrap (a*b)
def C5n(a b:Int):Int:=IntKind.i64.wrap (a+b)
theorem C2a{a:Int}{m:Nat}(hm:m<2^62):0≤B4p a m∧B4p a m≤m:=by
 have h:((BitVec.ofInt 64 a&&&BitVec.ofInt 64 (m:Int)).toNat:Nat)≤m:=by
  rw[BitVec.toNat_and];refine Nat.le_trans Nat.and_le_right ?_;rw[BitVec.ofInt_natCast,BitVec.toNat_ofNat];exact Nat.mod_le _ _
 have e:B4p a m=((BitVec.ofInt 64 a&&&BitVec.ofInt 64 (m:Int)).toNat:Int):=w64 (a:=((BitVec.ofInt 64 a&&&BitVec.ofInt 64 (m:Int)).toNat:Int)) (by omega);rw[e];omega
def Qo(h:Int):Int:=C5n (C7h h 6364136223846793005) 1442695040888963407
def x0(h:Int):Int:=B4p (C92 (h.fdiv (2^min (33:Int).toNat IntKind.i64.bits)) (h.fdiv (2^min (45:Int).toNat IntKind.i64.bits))) 255
def Qb(c:Cur):Int:=match c.b[c.i]? with
 |some y=>B4p (x0 (Qo c.h)+y.toNat) 255
 |none=>x0 (Qo c.h)
def Hr(c:Cur):Cur:=⟨c.b,if c.i<c.b.length then c.i+1 else c.i,Qo c.h⟩
theorem C82(h:Int):0≤x0 h∧x0 h≤255:=C2a (m:=255) (by decide)
theorem Rd(c:Cur):0≤Qb c∧Qb c≤255:=by
 unfold Qb;split
 ·exact C2a (m:=255) (by decide)
 ·exact C82 _
theorem Nr{c:Cur}(h:Dd c):Dd (Hr c):=by
 obtain⟨h1,h2⟩:=h;refine⟨?_,h2⟩;show(if c.i<c.b.length then c.i+1 else c.i)≤c.b.length;split<;>omega
def C3(c:Cur)(n:Int):Int:=if n≤0 then 0 else if n≤256 then(Qb c).tmod n else(Qb c*16777216+Qb (Hr c)*65536+Qb (Hr (Hr c))*256+Qb (Hr (Hr (Hr c)))).tmod n
def An(c:Cur)(n:Int):Cur:=if n≤0 then c else if n≤256 then Hr c else Hr (Hr (Hr (Hr c)))
theorem Rb(c:Cur)(n:Int):0≤C3 c n∧(0<n→C3 c n<n):=by
 have c0:=Rd c;have c1:=Rd (Hr c);have c2:=Rd (Hr (Hr c));have c3:=Rd (Hr (Hr (Hr c)));unfold C3;split
 ·omega
 ·rename_i h
  split
  ·exact⟨Int.tmod_nonneg _ c0.1,fun hn=>Int.tmod_lt_of_pos _ hn⟩
  ·exact⟨Int.tmod_nonneg _ (by omega),fun hn=>Int.tmod_lt_of_pos _ hn⟩
theorem Bi{c:Cur}{n:Int}(h:Dd c):Dd (An c n):=by
 unfold An;split
 ·exact h
 ·split
  ·exact Nr h
  ·exact Nr (Nr (Nr (Nr h)))
def C89(h:Int)(x:UInt8):Int:=B4p (C5n (C5n (C7h h 131) x.toNat) 7) 1073741823
def C9i(s:Str):Int:=(s.take 4000).foldl C89 (26583+s.length)
def L8(s:Str):Cur:=⟨s,0,C9i s⟩
theorem C29{s:Str}(h:s.length≤1048576):Dd (L8 s):=⟨Nat.zero_le _,h⟩
theorem C0y{α β:Type}{f:β→α→β}{z:β}{l:List α}{i:Nat}{x:α}(h:l[i]? =some x):(l.take (i+1)).foldl f z=f ((l.take i).foldl f z) x:=by
 rw[Bk h,List.foldl_append];rfl
end Go.GH
namespace Go.GH
open Go Go.Proofs
end Go.GH
namespace Go.GH
open Go Go.Proofs
open Go.ChangeShapes Go.WideShapes Go.ChangeAt Go.RowKit
end Go.GH
namespace Go.GH
open Go
def Gw(c:Cur)(l:List Int):Int:=l.getD (C3 c l.length).toNat 0
def Ii(c:Cur)(l:List Str):Str:=l.getD (C3 c l.length).toNat []
def Ae(n:Int):List AV:=[.int .i64 n]
theorem B36{c:Cur}{l:List Int}(h:0<l.length):l[(C3 c l.length).toNat]? =some (Gw c l):=by
 have:=Rb c l.length;have:=this.2 (by omega);rw[Gw,List.getD_eq_getElem?_getD,List.getElem?_eq_getElem (by omega)];rfl
theorem B3m{c:Cur}{l:List Str}(h:0<l.length):l[(C3 c l.length).toNat]? =some (Ii c l):=by
 have:=Rb c l.length;have:=this.2 (by omega);rw[Ii,List.getD_eq_getElem?_getD,List.getElem?_eq_getElem (by omega)];rfl
theorem B2f{c:Cur}{l:List Int}(h:0<l.length):Gw c l∈l:=List.mem_of_getElem? (B36 h)
theorem C2z{c:Cur}{l:List Str}(h:0<l.length):Ii c l∈l:=List.mem_of_getElem? (B3m h)
theorem X2{c:Cur}{l:List Str}(h:0<l.length){k:Nat}(hk:(l.all fun s=>decide (s.length≤k))=true):(Ii c l).length≤k:=by
 have:=List.all_eq_true.1 hk _ (C2z (c:=c) h);simpa using this
def Vu:List Str:=[[],[47],[97],[47,65],[47,97,47],[47,47],[47,116,111,111,108,111,110,103],[47,97,47,98,47,99,47,100,47,101],[47,97,47,98,47,99,47,100],[47,97,32,98],[47,126,48],[47,97,47,46,46]]
def Cg:List Str:=[[47,97],[47,98],[47,97,47,120],[47,97,47,121],[47,98,47,120],[47,99],[47,97,47,120,47,122],[47,100],[47,97,47,98],[47,101,47,102]]
def Nx(c:Cur):Str:=if C3 c 12=0 then Ii (An c 12) Vu else Ii (An c 12) Cg
def Ow(c:Cur):Cur:=if C3 c 12=0 then An (An c 12) 12 else An (An c 12) 10
theorem A1w(c:Cur):(Nx c).length≤20:=by
 unfold Nx;split
 ·exact X2 (by decide) (by decide)
 ·exact X2 (by decide) (by decide)
theorem Wa{c:Cur}(h:Dd c):Dd (Ow c):=by
 unfold Ow;split
 ·exact Bi (Bi h)
 ·exact Bi (Bi h)
def Mc:List Int:=[0,1,5,15,16,17,33,64,80,81]
def Uu:Nat→Nat→Cur→Str→Str×Cur
 |0,i,c,s=>(s,c)
 |k+1,i,c,s=>Uu k (i+1) (An c 2) (s++[UInt8.ofNat (97+(i+(C3 c 2).toNat)%26)])
def Xd(c:Cur):Nat:=(Gw c Mc).toNat
def Si(c:Cur):Str:=(Uu (Xd c) 0 (An c 10) []).1
def Nu(c:Cur):Cur:=(Uu (Xd c) 0 (An c 10) []).2
theorem B30:∀(k i:Nat) (c:Cur) (s:Str),(Uu k i c s).1.length=s.length+k
 |0,i,c,s=>rfl
 |k+1,i,c,s=>by rw[Uu,B30 k];simp;omega
theorem B81:∀(k i:Nat) {c:Cur} (s:Str),Dd c→Dd (Uu k i c s).2
 |0,i,c,s,h=>h
 |k+1,i,c,s,h=>by rw[Uu];exact B81 k _ _ (Bi h)
theorem B7c(c:Cur):0≤Gw c Mc∧Gw c Mc≤81:=by
 have h:=B2f (c:=c) (l:=Mc) (by decide);have:(Mc.all fun n=>decide (0≤n)&&decide (n≤81))=true:=by decide
 have:=List.all_eq_true.1 this _ h;simpa using this
theorem Yq(c:Cur):(Si c).length≤81:=by
 have:=B7c c;rw[Si,B30,Xd];simp;omega
theorem Xc{c:Cur}(h:Dd c):Dd (Nu c):=B81 _ _ _ (Bi h)
def N5:List Int:=[0,1,1,1,2,3,3,3,4,5,6,7,8,8]
def C76:List Int:=[0,1,10,16,40,79]
def C7u:List Int:=[0,1,16,50,80,81]
def B85:List Str:=[[],[65],[66,67,68],[48,49,50,51,52,53,54,55,56,57,97,98,99,100,101,102,88,89]]
def C6q(k:Int)(p:Str)(t:Int)(c:Cur):OpR:=
 if k=8 then⟨k,p,Nx c,0,[],t⟩else if k=3 then⟨k,p,[],Gw c C76,Ii (An c 6) B85,t⟩else if k=4 then⟨k,p,[],Gw c C7u,[],t⟩else⟨k,p,[],0,Si c,t⟩
def C58(k:Int)(c:Cur):Cur:=if k=8 then Ow c else if k=3 then An (An c 6) 4 else if k=4 then An c 6 else Nu c
def opC(c:Cur):Cur:=An (Ow (An c 14)) 9
def opX(c:Cur):OpR:=C6q (Gw c N5) (Nx (An c 14)) (C3 (Ow (An c 14)) 9) (opC c)
def opN(c:Cur):Cur:=C58 (Gw c N5) (opC c)
def smD(o:OpR):Prop:=o.path.length≤100∧o.to.length≤100∧o.data.length≤100
theorem C5x{c:Cur}(h:Dd c):Dd (opC c):=Bi (Wa (Bi h))
theorem C8l{c:Cur}(h:Dd c):Dd (opN c):=by
 have h:=C5x h;unfold opN C58;split
 ·exact Wa h
 ·split
  ·exact Bi (Bi h)
  ·split
   ·exact Bi h
   ·exact Xc h
theorem C8p(c:Cur):smD (opX c):=by
 have h1:=A1w (An c 14);have h2:=A1w (opC c);have h3:=Yq (opC c);have h4:(Ii (An (opC c) 6) B85).length≤100:=X2 (by decide) (by decide);unfold opX C6q smD;split
 ·exact⟨by show(Nx _).length≤_;omega,by show(Nx _).length≤_;omega,by simp⟩
 ·split
  ·exact⟨by show(Nx _).length≤_;omega,by simp,h4⟩
  ·split
   ·exact⟨by show(Nx _).length≤_;omega,by simp,by simp⟩
   ·exact⟨by show(Nx _).length≤_;omega,by simp,by show(Si _).length≤_;omega⟩
def Nf:Nat→Cur→List OpR→List OpR×Cur
 |0,c,l=>(l,c)
 |k+1,c,l=>Nf k (opN c) (l++[opX c])
theorem B2y:∀(k:Nat) (c:Cur) (l:List OpR),(Nf k c l).1.length=l.length+k
 |0,c,l=>rfl
 |k+1,c,l=>by rw[Nf,B2y k];simp;omega
theorem B72:∀(k:Nat) (c:Cur) {l:List OpR},(∀o,o∈l→smD o)→∀o,o∈(Nf k c l).1→smD o
 |0,c,l,h=>h
 |k+1,c,l,h=>by
  rw[Nf];refine B72 k _ fun o ho=>?_;rcases List.mem_append.1 ho with ho|ho
  ·exact h o ho
  ·have:o=opX c:=by simpa using ho
   rw[this];exact C8p c
theorem leO{k a m:Int}{p t d:Str}{o:OpR}(h:o=⟨k,p,t,a,d,m⟩):Vw (.agg [.int .i64 k,.str p,.str t,.int .i64 a,.str d,.int .i64 m]) (.agg (Ai o)):=by
 subst h;exact⟨rfl,rfl,rfl,rfl,rfl,rfl,trivial⟩
theorem By{a a':AV}{l l':List AV}(h:a=a')(h2:l=l'):a::l=a'::l':=by rw[h,h2]
theorem C2{l l':List AV}(h:l=l'):AV.agg l=.agg l':=by rw[h]
theorem Bs{s:Nat}{x x':List (List AV)}(h:x=x'):AV.rd s x=.rd s x':=by rw[h]
theorem C0{s:Nat}{x x':List (List AV)}(h:x=x'):AV.own s x=.own s x':=by rw[h]
theorem C1c{α:Type}{f:α→List AV}(h:∀a,∀c,c∈f a→c.isOwn=false){l:List α}{o n:Nat}:∀r,r∈((l.map f).drop o).take n→∀c,c∈r→c.isOwn=false:=by
 intro r hr c hc;obtain⟨a,_,rfl⟩:=List.mem_map.1 (List.mem_of_mem_drop (List.mem_of_mem_take hr));exact h a c hc
theorem rdB(l:Str):D1 (l.map Ag)=l.map Ag:=Kc (fun _=>rfl) l
theorem rdN(l:List Int):D1 (l.map Ae)=l.map Ae:=Kc (fun _=>rfl) l
theorem tkM{α β:Type}{f:α→β}{l:List α}:(l.map f).take l.length=l.map f:=by rw[←List.map_take,List.take_length]
def leb:Nat→Nat→Str
 |0,n=>[UInt8.ofNat n]
 |f+1,n=>if n>127 then UInt8.ofNat (n%128+128)::leb f (n/128)else[UInt8.ofNat n]
def Np(n:Int):Str:=if inB n 0 2147483647 then leb 5 n.toNat else[]
theorem C2u:∀(f n:Nat),(leb f n).length≤f+1
 |0,n=>by simp[leb]
 |f+1,n=>by
  rw[leb];split
  ·have:=C2u f (n/128);simp;omega
  ·simp
theorem Qp(n:Int):(Np n).length≤6:=by
 unfold Np;split
 ·exact C2u _ _
 ·simp
def gN(b:Str)(a:Int):Nat→Nat→Nat→Option (Nat×Nat)
 |0,k,n=>none
 |f+1,k,n=>
  if a<0∨a≥(b.length:Int) - k then none
  else if(b.getD (a+k).toNat 0).toNat<128 then
   if(k>0∧(b.getD (a+k).toNat 0).toNat=0)∨n|||((b.getD (a+k).toNat 0).toNat%128)<<<(7*k)>2147483647 then none
   else some (n|||((b.getD (a+k).toNat 0).toNat%128)<<<(7*k),(a+k+1).toNat)
  else gN b a f (k+1) (n|||((b.getD (a+k).toNat 0).toNat%128)<<<(7*k))
def F4(b:Str)(a:Int):Option (Nat×Nat):=gN b a 5 0 0
theorem C87{b:Str}{a:Int}:∀{f k n:Nat} {r:Nat×Nat},gN b a f k n=some r→0≤a∧r.1≤2147483647∧a.toNat<r.2∧r.2≤b.length
 |0,k,n,r,h=>by cases h
 |f+1,k,n,r,h=>by
  rw[gN]at h;split at h
  ·cases h
  rename_i h1;split at h
  ·split at h
   ·cases h
   ·rename_i h2 h3
    simp only[Option.some.injEq]at h;subst h;refine⟨by omega,by omega,?_,?_⟩<;>dsimp only<;>omega
  ·exact C87 h
theorem Xa{b:Str}{a:Int}{n x:Nat}(h:F4 b a=some (n,x)):0≤a∧n≤2147483647∧a.toNat<x∧x≤b.length:=C87 h
def J6(b:Str)(a:Int):Option (Str×Nat):=match F4 b a with
 |none=>none
 |some (n,x)=>if n>b.length - x then none else some ((b.drop x).take n,x+n)
theorem C1d{b:Str}{a:Int}{s:Str}{x:Nat}(h:J6 b a=some (s,x)):0≤a∧a.toNat+s.length<x∧x≤b.length:=by
 unfold J6 at h;split at h
 ·cases h
 ·rename_i n y hg
  split at h
  ·cases h
  ·rename_i h2
   simp only[Option.some.injEq,Prod.mk.injEq]at h;obtain⟨rfl,rfl⟩:=h;have:=Xa hg;simp;omega
def Th(s:Str):Str:=Np s.length++s
structure En where
 name:Str
 node:Int
def Ak(e:En):List AV:=[.str e.name,.int .i64 e.node]
theorem rdE(l:List En):D1 (l.map Ak)=l.map Ak:=Kc (fun _=>rfl) l
def U7(e:En):Str:=Th e.name++Np e.node
def G5(l:List En):Str:=l.flatMap U7
def szE(l:List En):Nat:=(l.map fun e=>e.name.length+12).sum
theorem B7h(e:En):(U7 e).length≤e.name.length+12:=by
 have:=Qp e.name.length;have:=Qp e.node;simp[U7,Th];omega
theorem Rt:∀(l:List En),(G5 l).length≤szE l
 |[]=>by simp[G5,szE]
 |e::l=>by
  have h1:=B7h e;have h2:=Rt l;simp only[G5,szE,List.flatMap_cons,List.length_append,List.map_cons,List.sum_cons]at*;omega
theorem Wi(e:En)(l:List En):szE (e::l)=e.name.length+12+szE l:=by simp[szE]
theorem A04(l m:List En):szE (l++m)=szE l+szE m:=by simp[szE]
theorem C1v:∀(l:List En),12*l.length≤szE l
 |[]=>by simp
 |e::l=>by have:=C1v l;rw[Wi];simp;omega
def hid:Str:=[126]
def Y4(s:Str):Bool:=s==hid||D5 s
def C1y(i:Nat)(e pv:En):Bool:= !Y4 e.name|| !inB e.node 1 9||(decide ((i:Int)>0)&&(Ce e.name pv.name||e.name==pv.name))
def A30(l:List En)(i:Nat):Bool:=match l[i]? with
 |none=>false
 |some e=> !C1y i e (l.getD (i - 1) e)&& !((l.take i).any fun x=>x.node==e.node)
def Dt(l:List En):Bool:=(List.range l.length).all (A30 l)&&decide ((G5 l).length≤80)
def A2n(b:Str):Nat→Nat→List En→Option (List En)
 |0,a,out=>if a<b.length then none else some out
 |f+1,a,out=>if a<b.length then match J6 b a with
   |none=>none
   |some (s,x)=>match F4 b x with
    |none=>none
    |some (n,y)=>A2n b f y (out++[⟨s,n⟩])
  else some out
def Sv(s:Str):Option (List En):=match A2n s s.length 0 []with
 |none=>none
 |some l=>if Dt l then some l else none
def Ge(l:List En)(s:Str):Int:=match l.find? fun e=>e.name==s with
 |none=> -1
 |some e=>e.node
def Tg(l:List En)(s:Str):Nat:=l.findIdx fun e=>Ce s e.name
def N4(l:List En)(e:En):List En:=l.take (Tg l e.name)++[e]++l.drop (Tg l e.name)
def I4(l:List En)(e:En):List En×Bool:=if Dt l&&Dt (N4 l e)then(N4 l e,true)else(l,false)
def Ia(l:List En)(s:Str):List En:=l.eraseP fun e=>e.name==s
theorem orN{a b:Nat}(ha:a<2^62)(hb:b<2^62):IntKind.i64.wrap (BitVec.ofInt IntKind.i64.bits (a:Int)|||BitVec.ofInt IntKind.i64.bits (b:Int)).toNat=((a|||b:Nat):Int):=by
 have h:((BitVec.ofInt 64 (a:Int)|||BitVec.ofInt 64 (b:Int)).toNat:Nat)=a|||b:=by
  rw[BitVec.toNat_or,BitVec.ofInt_natCast,BitVec.ofInt_natCast,BitVec.toNat_ofNat,BitVec.toNat_ofNat,Nat.mod_eq_of_lt (by omega),Nat.mod_eq_of_lt (by omega)]
 have h2:=Nat.or_lt_two_pow ha hb;show IntKind.i64.wrap ((BitVec.ofInt 64 (a:Int)|||BitVec.ofInt 64 (b:Int)).toNat:Int)=_;rw[h];exact w64 (by omega)
theorem shN{d k:Nat}(hd:d<128)(hk:k<5):(d<<<(7*k):Nat)<2^(7*k+7)∧d*2^(7*k)=d<<<(7*k):=by
 rw[Nat.shiftLeft_eq,Nat.pow_add];refine⟨?_,rfl⟩;rw[Nat.mul_comm];exact Nat.mul_lt_mul_of_pos_left (by omega) (Nat.two_pow_pos _)
end Go.GH
namespace Go.GH
theorem A5l(l:List En)(s:Str):Tg l s≤l.length:=List.findIdx_le_length
theorem C3a{l:List En}{s:Str}{j:Nat}{e:En}(h:l[j]? =some e):j+((l.drop j).findIdx fun e=>Ce s e.name)=if Ce s e.name then j else j+1+((l.drop (j+1)).findIdx fun e=>Ce s e.name):=by
 have hj:=(List.getElem?_eq_some_iff.1 h).1;rw[List.drop_eq_getElem_cons hj,List.findIdx_cons,(List.getElem?_eq_some_iff.1 h).2];cases Ce s e.name
 ·simp;omega
 ·simp
theorem B2v(l:List En)(e:En):szE (N4 l e)=szE l+(e.name.length+12):=by
 have h:=A04 (l.take (Tg l e.name)) (l.drop (Tg l e.name));rw[List.take_append_drop]at h;rw[N4,A04,A04,h];simp[szE];omega
theorem A6d(l:List En)(e:En):(N4 l e).length=l.length+1:=by
 have:=A5l l e.name;simp[N4];omega
theorem A6q{l:List En}{e x:En}(h:x∈N4 l e):x=e∨x∈l:=by
 simp only[N4,List.mem_append,List.mem_singleton]at h;rcases h with(h|h)|h
 ·exact .inr (List.mem_of_mem_take h)
 ·exact .inl h
 ·exact .inr (List.mem_of_mem_drop h)
def smE(l:List En):Prop:=l.length≤1048576∧szE l≤1099511627776∧∀e,e∈l→e.name.length≤1048576
theorem C64{l:List En}{s:Str}{i:Nat}{e:En}(h:l[i]? =some e)(hn:((l.take i).any fun e=>e.name==s)=false)(he:(e.name==s)=true):Ia l s=l.take i++l.drop (i+1):=by
 have hj:=(List.getElem?_eq_some_iff.1 h).1;have hs:l=l.take i++e::l.drop (i+1):=by
  have:=List.take_append_drop i l;rw[List.drop_eq_getElem_cons hj,(List.getElem?_eq_some_iff.1 h).2]at this;exact this.symm
 have h1:Ia l s=Ia (l.take i++e::l.drop (i+1)) s:=congrArg (fun x=>Ia x s) hs;rw[h1,Ia,List.eraseP_append_right _ (by
  intro b hb;have:=List.any_eq_false.1 hn b hb;simpa using this),List.eraseP_cons_of_pos (p:=fun e:En=>e.name==s) (by simpa using he)]
theorem C68{l:List En}{s:Str}(hn:(l.any fun e=>e.name==s)=false):Ia l s=l:=by
 rw[Ia,List.eraseP_of_forall_not];intro a ha;have:=List.any_eq_false.1 hn a ha;simpa using this
end Go.GH
