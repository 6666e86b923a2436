import Derived.Test.YtpbpaijjpglmlaaGreatGC
import Derived.Scope
import Derived.KernelRfl
import Derived.IntWalk
import Derived.Deep.Slices
import Derived.SizedLaws
import Derived.ChangeShapes
import Derived.OpenShut
import Derived.ChangeSame
import Derived.RowKit
set_option linter.unusedVariables false
set_option linter.unusedSimpArgs false
namespace Go.GH
open Go
section
variable{P:Program}{E:Env}{x:Ctx}{w w':World}{h:Ah}{n n':Nat→Prop}{ρ:Option Nat→Am}{id:Nat}{S:Af}
theorem C2n{S S':Af}:∀{ys:List Operand},OAg ys S S'→P8 S' ys=P8 S ys
 |[],h=>rfl
 |y::ys,h=>by
  simp only[P8];rw[C2n h.tail];cases y with
  |tmp d=>simp only[Ri];rw[h d (by simp)]
  |_=>rfl
theorem Ji.touched{ops:List Oper}{o:Oper}{S S':Af}(h:Ji ops o S S'):touched S' o=touched S o:=C2n h.oag
theorem B40{S S':Af}:∀{l:List Operand},OAg l S S'→Vf S' l=Vf S l
 |[],_=>rfl
 |x::l,h=>by
  have ih:=B40 (l:=l) h.tail;cases x<;>simp only[Vf]<;>try exact ih
  rename_i d;rw[ih];unfold Lo;rw[h d (by simp)]
theorem A6h{S:Af}{d i:Nat}(hi:i∈Lo S d):∀{l:List Operand},.tmp d∈l→i∈Vf S l
 |x::l,h=>by
  rcases List.mem_cons.1 h with e|h
  ·subst e
   exact List.mem_append.2 (.inl hi)
  ·have ih:=A6h hi h
   cases x<;>simp only[Vf]<;>first|exact ih|exact List.mem_append.2 (.inr ih)
theorem Ji.lookIds{ops:List Oper}{o:Oper}{S S':Af}(h:Ji ops o S S'):lookIds S' o=lookIds S o:=B40 h.oag
theorem Ji.readIds{ops:List Oper}{o:Oper}{S S':Af}(h:Ji ops o S S'):readIds S' o=readIds S o:=by
 have ht:=h.touched;unfold Go.GH.readIds;cases hop:o.op<;>simp only<;>exact ht
theorem Ji.gIds{ops:List Oper}{o:Oper}{S S':Af}(h:Ji ops o S S'):gIds S' ops o=gIds S ops o:=by
 unfold Go.GH.gIds;cases hg:o.guard with
 |none=>rfl
 |some jb=>
  obtain⟨j,b⟩:=jb;simp only;cases hj:ops[j]? with
  |none=>rfl
  |some oj=>
   simp only;cases hd:oj.dst with
   |none=>rfl
   |some d=>
    simp only[Ri];rw[h d (by unfold Oper.looksAt;rw[hg];refine List.mem_append.2 (.inr ?_);simp[hj,hd])]
theorem Ji.wroteIds{ops:List Oper}{o:Oper}{S S':Af}(h:Ji ops o S S'):wroteIds E id S' o=wroteIds E id S o:=by
 unfold Go.GH.wroteIds C0i;rw[h.touched]
theorem Ji.written{ops:List Oper}{o:Oper}{S S':Af}(h:Ji ops o S S'):written E id S' o=written E id S o:=by
 unfold Go.GH.written Pi;rw[h.wroteIds]
theorem Ua{g:Nat}:∀{l:List Nat},g∈l→g+2000000014∈far l
 |x::l,h=>by
  rcases List.mem_cons.1 h with rfl|h
  ·exact List.mem_cons_self
  ·exact List.mem_cons_of_mem _ (Ua h)
theorem P6{o:Oper}{g:Nat}(h:g∈Pi E id S o):g+2000000014∈written E id S o:=List.mem_append.2 (.inr (Ua h))
theorem Oo{o:Oper}{g:Nat}(h:g∈wroteIds E id S o):g∈written E id S o:=List.mem_append.2 (.inl h)
theorem A8g{o:Oper}{g:Nat}(h:g∈Pi E id S o):1000000007∈Pi E id S o:=by
 unfold Pi at h⊢;cases hp:Og E o<;>rw[hp]at h
 ·simp only at h⊢
  unfold Go.GH.wroteIds at h⊢;cases hv:Cd E o<;>rw[hv]at h
  ·simp
  ·cases h
 ·cases h
theorem B4y{o:Oper}{c:Option Bool}{v:AV}{gs:List Nat}(hk:∀g,g∈gs→g∈Pi E id S o)(hu:∀i,i∈v.keepU→i∉Pi E id S o):vsL gs ⟨c,v⟩=⟨c,v⟩:=by
 cases gs with
 |nil=>rfl
 |cons g gs=>exact C1s (fun e he hi=>hu e hi (hk e he)) fun hi=>hu _ hi (A8g (hk g (by simp)))
theorem A21{ops:List Oper}{o:Oper}{d:Nat}(hd:d∈o.looksAt ops.toArray){i:Nat}(hi:i∈Lo S d):i∈lookIds S o++gIds S ops o:=by
 have hi0:i∈Ri S (.tmp d):=by
  unfold Lo at hi;simp only[Ri];cases hl:A4 S d with
  |none=>rw[hl]at hi;cases hi
  |some s=>rw[hl]at hi;exact C32 hi
 unfold Oper.looksAt at hd;rcases List.mem_append.1 hd with hd|hd
 ·refine List.mem_append.2 (.inl ?_)
  obtain⟨y,hy,e⟩:=List.mem_filterMap.1 hd;have ey:y=.tmp d:=by cases y<;>simp at e;rw[e]
  rw[ey]at hy;exact A6h hi hy
 ·refine List.mem_append.2 (.inr ?_)
  unfold gIds;cases hg:o.guard with
  |none=>rw[hg]at hd;cases hd
  |some jb=>
   obtain⟨j,b⟩:=jb;rw[hg]at hd;simp only at hd⊢;cases hj:ops[j]? with
   |none=>simp[hj]at hd
   |some oj=>
    simp only;cases hdd:oj.dst with
    |none=>simp[hj,hdd]at hd
    |some d'=>
     have:d=d':=by simpa[hj,hdd]using hd
     subst this;exact hi0
theorem A8m{a b:List Nat}{g:Nat}(ha:g∈a)(hb:g∈b):Rr a b=true:=by
 unfold Rr;exact List.any_eq_true.2 ⟨g,ha,Z3.2 hb⟩
theorem B87{al:Bool}{f f':List Nat×List Nat}(h:Yk al f f'=false):(∀g,g∈f.2→g∉f'.1)∧(∀g,g∈f.1→g∉f'.2)∧(al=true∨f.2=[]∨f'.2=[]):=by
 unfold Yk at h;simp only[Bool.or_eq_false_iff,Bool.and_eq_false_iff,Bool.not_eq_false',List.isEmpty_iff]at h;exact⟨fun g h1 h2=>by rw[A8m h1 h2]at h;exact absurd h.1.1 (by simp),fun g h1 h2=>by rw[A8m h1 h2]at h;exact absurd h.1.2 (by simp),h.2⟩
def HEq(h h':Ah):Prop:=∀g,A4 h' g=A4 h g
theorem HEq.trans{h h' h'':Ah}(a:HEq h h')(b:HEq h' h''):HEq h h'':=fun g=>(b g).trans (a g)
theorem B8m{ops:List Oper}{o:Oper}{S S1:Af}{h h1 h2:Ah}{a:Nat}{v:Option AV}(hv:Cd E o=false)(hx:Kw E ops id o S h S1 h1)(he:Ix a v h h2)(hid:a<id∨id+16≤a)(ha:a∉touched S o):
 ∃h12,Kw E ops id o S h2 S1 h12∧Ix a v h1 h12:=by
 unfold Kw at hx;obtain⟨g,hk,tg⟩:=Tv hx;have step:(B0 E id o none S h fun a b=>a=S1∧b=h1)→∃h12,(B0 E id o none S h2 fun a b=>a=S1∧b=h12)∧Ix a v h1 h12:=by
  intro hk;have h3:=C0m hv he hid ha (K':=fun S' h'=>S'=S1∧Ix a v h1 h') hk fun S' h' h2' he' hh=>⟨hh.1,hh.2▸he'⟩
  obtain⟨gs,u,h12,⟨e1,e2⟩,_,t⟩:=Wp hv h3;exact⟨h12,t S _ Lh ⟨e1,rfl⟩,e2⟩
 cases g with
 |none=>
  obtain⟨h12,k1,k2⟩:=step hk;exact⟨h12,by unfold Kw;exact tg _ k1,k2⟩
 |some b=>
  have e:∀S h K,Lg E id o (some b) S h K=((b=true→B0 E id o none S h K)∧(b=false→K (Bc S o.dst (some false) .undef) h)):=by intro S h K;unfold Lg;rw[hv]
  rw[e]at hk;cases b with
  |true=>
   obtain⟨h12,k1,k2⟩:=step (hk.1 rfl);exact⟨h12,by unfold Kw;exact tg _ (by rw[e];exact⟨fun _=>k1,by simp⟩),k2⟩
  |false=>
   obtain⟨e1,e2⟩:=hk.2 rfl;subst e2;exact⟨h2,by unfold Kw;exact tg _ (by rw[e];exact⟨by simp,fun _=>⟨e1,rfl⟩⟩),he⟩
theorem A5w{o:Oper}(hv:Cd E o=false):1000000007∈written E id S o:=by
 unfold written wroteIds;rw[hv];simp
theorem SEq.set{S S':Af}{d:Option Nat}{c:Option Bool}{v:AV}(h:SEq S S'):SEq (Bc S d c v) (Bc S' d c v):=fun k=>by rw[Ef,Ef,h k]
theorem SEq.voids{S S':Af}{gs:List Nat}(h:SEq S S'):SEq (C4 gs S) (C4 gs S'):=fun k=>by rw[Fb,Fb,h k]
theorem SEq.trans{S S' S'':Af}(h:SEq S S')(h':SEq S' S''):SEq S S'':=fun k=>(h' k).trans (h k)
theorem SEq.dst{S S':Af}{o:Oper}(h:SEq S S'):Ql S' o=Ql S o:=by
 unfold Ql;cases o.dst with
 |none=>rfl
 |some d=>simp only[Lo];rw[h d]
theorem C7v(l:List Nat)(k:Nat):∃a,k≤a∧a∉l:=by
 refine⟨k+l.sum+1,by omega,fun h=>?_⟩;have:∀(l:List Nat) (x:Nat),x∈l→x≤l.sum:=by
  intro l;induction l with
  |nil=>intro x hx;cases hx
  |cons y l ih=>
   intro x hx;simp only[List.sum_cons];rcases List.mem_cons.1 hx with rfl|hx
   ·omega
   ·have:=ih x hx;omega
 have:=this l _ h;omega
theorem C79{ops:List Oper}{o:Oper}{S1 S':Af}{h1 h':Ah}(hx:Kw E ops id o S h S1 h1)(he:SEq S S')(hh:HEq h h'):∃S1' h1',Kw E ops id o S' h' S1' h1'∧SEq S1 S1'∧HEq h1 h1'∧E2 E ops id o S' S1'=E2 E ops id o S S1:=by
 have foot:∀{S1'},SEq S1 S1'→E2 E ops id o S' S1'=E2 E ops id o S S1:=fun h=>by
  unfold E2;rw[(he.agree (ops:=ops)).readIds,(he.agree (ops:=ops)).lookIds,(he.agree (ops:=ops)).gIds,(he.agree (ops:=ops)).written,h.dst]
 rcases T0 hx with⟨c,v,rfl,rfl,t⟩|⟨hv,gs,v,rfl,fr,_,t⟩
 ·exact⟨_,_,t S' h' he.agree (fun g _=>hh g),he.set,hh,foot he.set⟩
 ·have hx2:=t S' he.agree
  obtain⟨a,ha1,ha2⟩:=C7v (touched S' o++written E id S o) (id+16);simp only[List.mem_append,not_or]at ha2;obtain⟨h12,k1,k2⟩:=B8m hv hx2 (a:=a) (v:=A4 h' a) ⟨fun g _=>hh g,rfl⟩ (.inr ha1) ha2.1;refine⟨_,h12,k1,he.voids.set,fun g=>?_,foot he.voids.set⟩;by_cases hg:g=a
  ·subst hg
   rw[k2.at_,hh g,fr.2 g fun h=>ha2.2 (Oo h)]
  ·exact k2.eq g hg
theorem C50{ops:List Oper}{b:Nat}{l:List Xg}{S:Af}{h:Ah}{Sn:Af}{hn:Ah}(hc:Xp E ops b l S h Sn hn):∀{S':Af} {h':Ah},SEq S S'→HEq h h'→∃Sn' hn',Xp E ops b l S' h' Sn' hn'∧SEq Sn Sn'∧HEq hn hn':=by
 induction hc with
 |nil=>intro S' h' he hh;exact⟨S',h',.nil,he,hh⟩
 |cons hx hr ih=>
  intro S' h' he hh;obtain⟨S1',h1',h1,h2,h3,h4⟩:=C79 hx he hh;obtain⟨Sn',hn',h5,h6,h7⟩:=ih h2 h3;exact⟨Sn',hn',by rw[←h4];exact .cons h1 h5,h6,h7⟩
theorem B6d{t:Option Nat}{v:AV}{S:Af}{h:Ah}{K:AV→Af→Ah→Prop}(hv:v.ids1=[])(hk:Em S h t v K):∃c,K c S h∧∀S' h' K',K' c S' h'→Em S' h' t v K':=by
 cases v<;>simp only[Em]at hk⊢<;>first
  |exact⟨_,hk,fun _ _ _ h=>h⟩
  |(cases hv;done)
  |(cases t with
    |none=>exact hk.elim
    |some s=>exact⟨_,hk,fun _ _ _ h=>h⟩)
theorem Xl:∀{ts:List (Option Nat)} {vs:List AV} {S:Af} {h:Ah} {K:List AV→Af→Ah→Prop},G9 vs=[]→C1 S h ts vs K→∃cs,K cs S h∧∀S' h' K',K' cs S' h'→C1 S' h' ts vs K'
 |[],[],S,h,K,hv,hk=>⟨_,hk,fun _ _ _ h=>h⟩
 |[],_::_,S,h,K,hv,hk=>hk.elim
 |_::_,[],S,h,K,hv,hk=>hk.elim
 |t::ts,v::vs,S,h,K,hv,hk=>by
  simp only[G9,List.append_eq_nil_iff]at hv;simp only[C1]at hk⊢;obtain⟨c,hk,t1⟩:=B6d hv.1 hk;obtain⟨cs,hk,t2⟩:=Xl hv.2 hk;exact⟨_,hk,fun S' h' K' hk'=>t1 S' h' _ (t2 S' h' (fun cs S'' h''=>K' (c::cs) S'' h'') hk')⟩
theorem Zs{ts:List (Option Nat)}:∀{vs:List AV} {S:Af} {h:Ah} {K:List (List AV)→Af→Ah→Prop},Fn vs=[]→Jy S h ts vs K→∃cs,K cs S h∧∀S' h' K',K' cs S' h'→Jy S' h' ts vs K'
 |[],S,h,K,hv,hk=>⟨_,hk,fun _ _ _ h=>h⟩
 |v::vs,S,h,K,hv,hk=>by
  simp only[Fn,List.append_eq_nil_iff]at hv;simp only[Jy]at hk⊢;obtain⟨c,hk,t1⟩:=Xl (List.eq_nil_iff_forall_not_mem.2 fun i hi=>by
   have:=Jx i hi;rw[hv.1]at this;cases this) hk
  obtain⟨cs,hk,t2⟩:=Zs hv.2 hk;exact⟨_,hk,fun S' h' K' hk'=>t1 S' h' _ (t2 S' h' (fun cs S'' h''=>K' (c::cs) S'' h'') hk')⟩
theorem C1q:∀(l:List Nat),(far l).length=l.length
 |[]=>rfl
 |x::l=>by simp[far,C1q l]
theorem B9f{o:Oper}{t n:Nat}{parts:Array (Nat×Operand)}(hop:o.op=.buildSlice t n parts){ops:List Oper}{S':Af}(ha:Zg o (E2 E ops id o S S')=true):touched S o=[]:=by
 have ha:Nat.beq (written E id S o).length 34=true:=by
  unfold Zg at ha;rw[hop]at ha;exact ha
 have ha:=Nat.eq_of_beq_eq_true ha;have hv:Cd E o=false:=by unfold Cd;rw[hop]
 have hp:Og E o=false:=by unfold Og;rw[hop]
 have hw:C0i E S o=touched S o:=by unfold C0i;rw[hop]
 unfold written Pi at ha;rw[hp]at ha;simp only[List.length_append,C1q]at ha;unfold wroteIds at ha;rw[hv,hw]at ha;simp only[List.length_append,List.length_cons,List.length_range']at ha;exact List.eq_nil_of_length_eq_zero (by omega)
theorem C15{ops:List Oper}{o:Oper}{S S':Af}{h h':Ah}(ha:Zg o (E2 E ops id o S S')=true)(hx:Kw E ops id o S h S' h'):
 (∃r v,S'=Bc S o.dst none v∧h'=(id,r)::h∧(∀c gs,vsL gs ⟨c,v⟩=⟨c,v⟩)∧∀S1 h1,Ji ops o S S1→Kw E ops id o S1 h1 (Bc S1 o.dst none v) ((id,r)::h1))∨
 ∃c v,S'=Bc S o.dst c v∧h'=h∧∀S1 h1,Ji ops o S S1→HAg (readIds S o) h h1→Kw E ops id o S1 h1 (Bc S1 o.dst c v) h1:=by
 rcases T0 hx with h1|⟨hv,gs,v,_,_,_,_⟩
 ·exact .inr h1
 have hx0:=hx;unfold Kw at hx;obtain⟨g,hk,tg⟩:=Tv hx;have vb:∀{f:Nat} c gs,vsL gs ⟨c,.bx id f⟩=⟨c,.bx id f⟩:=by
  intro f c gs;induction gs with
  |nil=>rfl
  |cons e gs ih=>simp only[vsL,vs1,L0,Hg];exact ih
 have vv:∀{p l:Nat} c gs,vsL gs ⟨c,.view id [] p l⟩=⟨c,.view id [] p l⟩:=by
  intro p l c gs;induction gs with
  |nil=>rfl
  |cons e gs ih=>simp only[vsL,vs1,L0,Hg];exact ih
 have step:(B0 E id o none S h fun a b=>a=S'∧b=h')→∃r v,S'=Bc S o.dst none v∧h'=(id,r)::h∧(∀c gs,vsL gs ⟨c,v⟩=⟨c,v⟩)∧∀S1 h1,OAg o.op.operands.toList S S1→B0 E id o none S1 h1 fun a b=>a=Bc S1 o.dst none v∧b=(id,r)::h1:=by
  intro hk;cases hop:o.op with
  |alloc t=>
   simp only[B0,hop]at hk;obtain⟨ty,ht,e1,e2⟩:=B9 hk;exact⟨_,_,e1.symm,e2.symm,vb,fun S1 h1 _=>by simp only[B0,hop];exact Cr ht ⟨trivial,rfl⟩⟩
  |makeSlice t l c=>
   simp only[B0,hop]at hk;obtain⟨ty,hk,t0⟩:=G6 hk;obtain⟨v1,hk,i1,t1⟩:=C9 hk;obtain⟨v2,hk,i2,t2⟩:=C9 hk;cases v1<;>try exact hk.elim
   cases v2<;>try exact hk.elim
   obtain⟨q1,q2,q3,q4,e1,e2⟩:=hk;refine⟨_,_,e1.symm,e2.symm,vv,fun S1 h1 oa=>?_⟩;simp only[B0,hop];exact t0 _ (t1 S1 _ (oa.one (by simp[Op.operands])) (t2 S1 _ (oa.one (by simp[Op.operands])) ⟨q1,q2,q3,q4,rfl,rfl⟩))
  |buildSlice t m parts=>
   have htc:=B9f hop ha;unfold touched at htc;rw[hop]at htc;simp only[B0,hop]at hk;obtain⟨ty,hk,t0⟩:=G6 hk;obtain⟨e1,hk⟩:=Bj hk;obtain⟨vs,hk,i1,t1⟩:=Hs hk;have hvs:Fn vs=[]:=List.eq_nil_iff_forall_not_mem.2 fun i hi=>by
    have h3:=i1 i hi;have h4:P8 S (parts.toList.map fun q=>q.2)=[]:=by simpa[Op.operands]using htc
    rw[h4]at h3;cases h3
   obtain⟨rows,hk,t2⟩:=Zs hvs hk;cases hr:R8 0 (parts.toList.map fun q=>q.1)<;>rw[hr]at hk<;>simp only at hk;obtain⟨e2,e3,e4⟩:=C8 hk;refine⟨_,_,e3.symm,e4.symm,vv,fun S1 h1 oa=>?_⟩;simp only[B0,hop];refine t0 _ (F8 e1 (t1 S1 _ (oa.mono (by simp[Op.operands])) (t2 S1 h1 _ ?_)));rw[hr];exact K3 e2 ⟨rfl,rfl⟩
  |_=>exfalso;unfold Zg at ha;rw[hop]at ha;cases ha
 cases g with
 |none=>
  obtain⟨r,v,e1,e2,e3,t⟩:=step hk;refine .inl ⟨r,v,e1,e2,e3,fun S1 h1 hag=>?_⟩;unfold Kw;rw[←K5 hag];exact tg _ (t S1 h1 hag.oag)
 |some b=>
  have e:∀S h K,Lg E id o (some b) S h K=((b=true→B0 E id o none S h K)∧(b=false→K (Bc S o.dst (some false) .undef) h)):=by intro S h K;unfold Lg;rw[hv]
  rw[e]at hk;cases b with
  |true=>
   obtain⟨r,v,e1,e2,e3,t⟩:=step (hk.1 rfl);refine .inl ⟨r,v,e1,e2,e3,fun S1 h1 hag=>?_⟩;unfold Kw;rw[←K5 hag];exact tg _ (by rw[e];exact⟨fun _=>t S1 h1 hag.oag,by simp⟩)
  |false=>
   obtain⟨e1,e2⟩:=hk.2 rfl;refine .inr ⟨_,_,e1.symm,e2.symm,fun S1 h1 hag _=>?_⟩;unfold Kw;rw[←K5 hag];exact tg _ (by rw[e];exact⟨by simp,fun _=>⟨rfl,rfl⟩⟩)
theorem A7h{o:Oper}(hv:Cd E o=false):readIds S o=touched S o:=by
 unfold readIds;unfold Cd at hv;cases hop:o.op<;>simp only<;>rw[hop]at hv<;>cases hv
theorem C3f{ops:List Oper}{idj idi:Nat}{oj oi:Oper}{S S1 S2:Af}{h h1 h2:Ah}(hj:Kw E ops idj oj S h S1 h1)(hi:Kw E ops idi oi S1 h1 S2 h2)(hap:Oper.apart ops.toArray oj oi=true)
 (hids:idi+16≤idj∨idj+16≤idi)(hcl:Yk (Zg oi (E2 E ops idi oi S1 S2)) (E2 E ops idj oj S S1) (E2 E ops idi oi S1 S2)=false):
 ∃S1' h1' S2' h2',Kw E ops idi oi S h S1' h1'∧Kw E ops idj oj S1' h1' S2' h2'∧SEq S2 S2'∧HEq h2 h2'∧E2 E ops idi oi S S1'=E2 E ops idi oi S1 S2∧E2 E ops idj oj S1' S2'=E2 E ops idj oj S S1:=by
 obtain⟨ap1,ap2,ap3⟩:=Oper.apart_spec hap;obtain⟨c1,c2,c3⟩:=B87 hcl;have agi:∀{S:Af} {c:Option Bool} {v:AV},Ji ops oi (Bc S oj.dst c v) S:=fun{S c v} d hd=>by
  rw[Ef,if_neg];intro e;exact ap1 d e hd
 have agj:∀{S:Af} {c:Option Bool} {v:AV},Ji ops oj S (Bc S oi.dst c v):=fun{S c v} d hd=>by
  rw[Ef,if_neg];intro e;exact ap3 d e hd
 have hne:∀k,oj.dst=some k→oi.dst≠some k:=ap2;have comm:∀{S:Af} {c c':Option Bool} {v v':AV},SEq (Bc (Bc S oj.dst c v) oi.dst c' v') (Bc (Bc S oi.dst c' v') oj.dst c v):=fun{S c c' v v'} k=>by
  simp only[Ef];by_cases e1:oj.dst=some k
  ·rw[if_pos e1,if_neg (hne k e1),if_pos e1]
  ·rw[if_neg e1]
   by_cases e2:oi.dst=some k
   ·rw[if_pos e2,if_pos e2]
   ·rw[if_neg e2,if_neg e2,if_neg e1]
 have dset:∀{S S':Af} {o:Oper} {c:Option Bool} {v:AV},Ql (Bc S o.dst c v) o=Ql (Bc S' o.dst c v) o:=fun{S S' o c v}=>by
  unfold Ql;cases hd:o.dst with
  |none=>rfl
  |some d=>simp only[Lo,Ef,if_true]
 have foot:∀{o:Oper} {id:Nat} {S S' T T':Af},Ji ops o S S'→Ql T' o=Ql T o→E2 E ops id o S' T'=E2 E ops id o S T:=fun{o id S S' T T'} h hd=>by
  unfold E2;rw[h.readIds,h.lookIds,h.gIds,h.written,hd]
 rcases T0 hj with⟨c,v,rfl,rfl,tj⟩|⟨hvj,gs,v,rfl,fj,kj,tj⟩
 ·rcases T0 hi with⟨c',v',rfl,rfl,ti⟩|⟨hvi,gs,v',rfl,fi,ki,ti⟩
  ·exact⟨_,_,_,_,ti S _ agi (fun _ _=>rfl),tj _ _ agj (fun _ _=>rfl),comm,fun _=>rfl,foot agi dset,foot agj dset⟩
  ·
   have hw:∀g,g∈(E2 E ops idj oj S (Bc S oj.dst c v)).1→g∉written E idi (Bc S oj.dst c v) oi:=c2;have hag:Ji ops oj S (Bc (C4 gs S) oi.dst none v'):=fun d hd=>by
    rw[Ef,if_neg (fun e=>ap3 d e hd),Fb];cases hl:A4 S d with
    |none=>rfl
    |some s=>
     have hu:∀i,i∈s.v.keepU→i∉Pi E idi (Bc S oj.dst c v) oi:=fun i hi hk=>hw (i+2000000014) (by
      have:=A21 hd (S:=S) (i:=i) (by simp only[Lo,hl];exact hi);unfold E2;refine List.mem_append.2 (.inr (Ua ?_));simp only[List.mem_append]at this⊢;exact this.imp (fun h=>h) .inl) (P6 hk)
     simp only[Option.map_some];rw[B4y (c:=s.c) (v:=s.v) ki hu]
   have hti:=ti S agi;have htj:=tj (Bc (C4 gs S) oi.dst none v') h2 hag (fun g hg=>fi.2 g fun hgw=>hw g (by unfold E2;simp[hg]) (Oo hgw));refine⟨_,_,_,_,hti,htj,fun k=>?_,fun _=>rfl,foot agi dset,foot hag dset⟩;simp only[Ef,Fb];by_cases e1:oj.dst=some k
   ·rw[if_pos e1,if_neg (hne k e1),if_pos e1]
    have hu:∀i,i∈v.keepU→i∉Pi E idi (Bc S oj.dst c v) oi:=fun i hi hk=>hw (i+2000000014) (by
     unfold E2;refine List.mem_append.2 (.inr (Ua (List.mem_append.2 (.inr (List.mem_append.2 (.inr ?_))))));unfold Ql;rw[e1];simp only[Lo,Ef,if_true];exact hi) (P6 hk)
    simp only[Option.map_some];rw[B4y ki hu]
   ·rw[if_neg e1,if_neg e1]
 ·have vb:∀(c':Option Bool) (v':AV),S2=Bc (Bc (C4 gs S) oj.dst none v) oi.dst c' v'→h2=h1→
   (∀S1 h1',Ji ops oi (Bc (C4 gs S) oj.dst none v) S1→HAg (readIds (Bc (C4 gs S) oj.dst none v) oi) h1 h1'→Kw E ops idi oi S1 h1' (Bc S1 oi.dst c' v') h1')→
   ∃S1' h1' S2' h2',Kw E ops idi oi S h S1' h1'∧Kw E ops idj oj S1' h1' S2' h2'∧SEq S2 S2'∧HEq h2 h2'∧E2 E ops idi oi S S1'=E2 E ops idi oi (Bc (C4 gs S) oj.dst none v) S2∧E2 E ops idj oj S1' S2'=E2 E ops idj oj S (Bc (C4 gs S) oj.dst none v):=by
   rintro c' v' rfl rfl ti;have hw:∀g,g∈written E idj S oj→g∉(E2 E ops idi oi (Bc (C4 gs S) oj.dst none v) (Bc (Bc (C4 gs S) oj.dst none v) oi.dst c' v')).1:=c1;have hag:Ji ops oi (Bc (C4 gs S) oj.dst none v) S:=fun d hd=>by
    rw[Ef,if_neg (fun e=>ap1 d e hd),Fb];cases hl:A4 S d with
    |none=>rfl
    |some s=>
     simp only[Option.map_some];cases gs with
     |nil=>rfl
     |cons g0 gs0=>
     rcases A1g (g0::gs0) s with h|h
     ·rw[h]
     ·exfalso
      have hm:=A21 hd (S:=Bc (C4 (g0::gs0) S) oj.dst none v) (i:=1000000007) (by
       simp only[Lo];rw[Ef,if_neg (fun e=>ap1 d e hd),Fb,hl];simp only[Option.map_some,h];exact Ww (by simp[AV.idsU]) (.inl rfl))
      refine hw _ (P6 (A8g (kj g0 (by simp)))) ?_;unfold E2;refine List.mem_append.2 (.inr (Ua ?_));simp only[List.mem_append]at hm⊢;exact hm.imp (fun h=>h) .inl
   have hti:=ti S h hag (fun g hg=>(fj.2 g fun hgw=>hw g (Oo hgw) (by unfold E2;simp[hg])).symm);have htj:=tj (Bc S oi.dst c' v') agj;refine⟨_,_,_,_,hti,htj,fun k=>?_,fun _=>rfl,foot hag dset,foot agj dset⟩;simp only[Ef,Fb];by_cases e1:oj.dst=some k
   ·rw[if_pos e1,if_neg (hne k e1),if_pos e1]
   ·rw[if_neg e1,if_neg e1]
    by_cases e2:oi.dst=some k
    ·rw[if_pos e2,if_pos e2]
     have hu:∀i,i∈v'.keepU→i∉Pi E idj S oj:=fun i hi hk=>hw _ (P6 hk) (by
      unfold E2;refine List.mem_append.2 (.inr (Ua (List.mem_append.2 (.inr (List.mem_append.2 (.inr ?_))))));unfold Ql;rw[e2];simp only[Lo,Ef,if_true];exact hi)
     simp only[Option.map_some];rw[B4y kj hu]
    ·rw[if_neg e2,if_neg e2]
  rcases T0 hi with⟨c',v',e1,e2,ti⟩|⟨hvi,gs2,v',e1,fi,ki,ti⟩
  ·exact vb c' v' e1 e2 ti
  ·rcases c3 with hal|h|h
   ·have hw:∀g,g∈written E idj S oj→g∉(E2 E ops idi oi (Bc (C4 gs S) oj.dst none v) S2).1:=c1
    have hag:Ji ops oi (Bc (C4 gs S) oj.dst none v) S:=fun d hd=>by
     rw[Ef,if_neg (fun e=>ap1 d e hd),Fb];cases hl:A4 S d with
     |none=>rfl
     |some s=>
      simp only[Option.map_some];cases gs with
      |nil=>rfl
      |cons g0 gs0=>
      rcases A1g (g0::gs0) s with h|h
      ·rw[h]
      ·exfalso
       have hm:=A21 hd (S:=Bc (C4 (g0::gs0) S) oj.dst none v) (i:=1000000007) (by
        simp only[Lo];rw[Ef,if_neg (fun e=>ap1 d e hd),Fb,hl];simp only[Option.map_some,h];exact Ww (by simp[AV.idsU]) (.inl rfl))
       refine hw _ (P6 (A8g (kj g0 (by simp)))) ?_;unfold E2;refine List.mem_append.2 (.inr (Ua ?_));simp only[List.mem_append]at hm⊢;exact hm.imp (fun h=>h) .inl
    rcases C15 hal hi with⟨r,v3,e1,e2,e3,ta⟩|⟨c',v2,e1,e2,t2⟩
    ·subst e1
     subst e2;have hti:=ta S h hag;have hj2:=tj (Bc S oi.dst none v3) agj;have hnt:idi∉touched (Bc S oi.dst none v3) oj:=fun hh=>by
      have h3:idi∈written E idi (Bc (C4 gs S) oj.dst none v) oi:=by
       refine Oo ?_;unfold wroteIds;rw[hvi];refine List.mem_append.2 (.inl (List.mem_cons_of_mem _ ?_));simp[List.mem_range']
      refine c2 idi ?_ h3;unfold E2;have e:touched (Bc S oi.dst none v3) oj=touched S oj:=(agj (S:=S) (c:=none) (v:=v3)).touched;rw[e]at hh;have hr:readIds S oj=touched S oj:=A7h hvj;rw[hr];exact List.mem_append.2 (.inl hh)
     obtain⟨h12,k1,k2⟩:=B8m hvj hj2 (h2:=(idi,r)::h) (a:=idi) (v:=some r) ⟨fun g hg=>by rw[Ac,if_neg (Ne.symm hg)],by rw[Ac,if_pos rfl]⟩ (by omega) hnt;refine⟨_,_,_,_,hti,k1,fun k=>?_,fun g=>?_,foot hag dset,foot agj dset⟩
     ·simp only[Ef,Fb]
      by_cases e1:oj.dst=some k
      ·rw[if_pos e1,if_neg (hne k e1),if_pos e1]
      ·rw[if_neg e1,if_neg e1]
       by_cases e2:oi.dst=some k
       ·rw[if_pos e2,if_pos e2]
        simp only[Option.map_some,e3]
       ·rw[if_neg e2,if_neg e2]
     ·by_cases hg:g=idi
      ·subst hg
       rw[k2.at_,Ac,if_pos rfl]
      ·rw[k2.eq g hg,Ac,if_neg (Ne.symm hg)]
    ·exact vb c' v2 e1 e2 t2
   ·exfalso
    have:(1000000007:Nat)∈(E2 E ops idj oj S (Bc (C4 gs S) oj.dst none v)).2:=A5w hvj;rw[h]at this;cases this
   ·exfalso
    have:(1000000007:Nat)∈(E2 E ops idi oi (Bc (C4 gs S) oj.dst none v) S2).2:=A5w hvi;rw[h]at this;cases this
theorem A2k{ops:List Oper}{b:Nat}{i:Nat}{oi:Oper}{fi:List Nat×List Nat}{l2:List Xg}:∀{l1:List Xg} {S:Af} {h:Ah} {Sn:Af} {hn:Ah},Xp E ops b (l1++(i,oi,fi)::l2) S h Sn hn→
 (∀q,q∈l1→q.1<i∧Oper.apart ops.toArray q.2.1 oi=true∧Yk (Zg oi fi) q.2.2 fi=false)→∃S1 h1 Sn' hn',Kw E ops (b+16*i) oi S h S1 h1∧Xp E ops b (l1++l2) S1 h1 Sn' hn'∧SEq Sn Sn'∧HEq hn hn'∧fi=E2 E ops (b+16*i) oi S S1
 |[],S,h,Sn,hn,hc,hq=>by
  cases hc with
  |cons hx hr=>exact⟨_,_,_,_,hx,hr,fun _=>rfl,fun _=>rfl,rfl⟩
 |(j,oj,fj)::l1,S,h,Sn,hn,hc,hq=>by
  cases hc with
  |cons hx hr=>
   obtain⟨S2,h2,Sn1,hn1,hx2,hr2,e1,g1,rfl⟩:=A2k hr (fun q hm=>hq q (by simp[hm]));obtain⟨q0,q1,q2⟩:=hq (j,oj,E2 E ops (b+16*j) oj S _) List.mem_cons_self;have q0:j<i:=q0;obtain⟨S1',h1',S2',h2',s1,s2,s3,g3,s4,s5⟩:=C3f hx hx2 q1 (.inr (by omega)) q2;obtain⟨Sn',hn',r1,r2,r3⟩:=C50 hr2 s3 g3;exact⟨S1',h1',Sn',hn',s1,by rw[←s5];exact .cons s2 r1,e1.trans r2,g1.trans r3,s4.symm⟩
end
def B9r(acc:Array Nat)(o:Oper):Array Nat:=acc.push (CheckFast.one (fun i=>acc.getD i 0) o)
def A37(l:List Oper):Array Nat:=l.foldl B9r #[]
theorem C7d(ops:List Oper):Region.before ops.toArray=A37 ops:=by
 unfold Region.before A37;rw[←Array.foldl_toList];rfl
theorem B9e(l r:List Oper):A37 (l++r)=r.foldl B9r (A37 l):=by
 unfold A37;rw[List.foldl_append]
theorem B2k:∀(l:List Oper) (A:Array Nat),(l.foldl B9r A).size=A.size+l.length
 |[],A=>rfl
 |o::l,A=>by rw[List.foldl_cons,B2k l];simp[B9r];omega
theorem B3x(l:List Oper):(A37 l).size=l.length:=by
 have:=B2k l #[];simpa[A37]using this
theorem B71{i:Nat}:∀(l:List Oper) (A:Array Nat),i<A.size→(l.foldl B9r A).getD i 0=A.getD i 0
 |[],A,_=>rfl
 |o::l,A,h=>by
  rw[List.foldl_cons,B71 l _ (by simp[B9r];omega)];simp[B9r,Array.getD_eq_getD_getElem?,Array.getElem?_push,Nat.ne_of_lt h]
theorem B9j(l r:List Oper){i:Nat}(hi:i<l.length):(A37 (l++r)).getD i 0=(A37 l).getD i 0:=by
 rw[B9e,B71 _ _ (by rw[B3x];exact hi)]
theorem C77(l r:List Oper)(o:Oper):(A37 (l++o::r)).getD l.length 0=CheckFast.one (fun i=>(A37 l).getD i 0) o:=by
 have e:l++o::r=(l++[o])++r:=by simp
 rw[e,B9j _ _ (by simp),B9e];have hs:=B3x l;simp only[List.foldl_cons,List.foldl_nil,B9r,Array.getD_eq_getD_getElem?,Array.getElem?_push,hs,if_true,Option.getD_some]
theorem B9n{look:Nat→Nat}{j:Nat}:∀(l:List Edge) (s:Nat),(l.foldl (fun s e=>if Region.binds .any e then s|||2^e.on|||look e.on else s) s).testBit j=true→s.testBit j=true∨∃e,e∈l∧Region.binds .any e=true∧(j=e.on∨(look e.on).testBit j=true)
 |[],s,h=>.inl h
 |e::l,s,h=>by
  rw[List.foldl_cons]at h;rcases B9n l _ h with h|⟨e',h1,h2⟩
  ·by_cases hb:Region.binds .any e=true
   ·rw[if_pos hb]at h
    simp only[Nat.testBit_or,Bool.or_eq_true,Nat.testBit_two_pow,decide_eq_true_eq]at h;rcases h with(h|h)|h
    ·exact .inl h
    ·exact .inr ⟨e,by simp,hb,.inl h.symm⟩
    ·exact .inr ⟨e,by simp,hb,.inr h⟩
   ·rw[if_neg hb]at h;exact .inl h
  ·exact .inr ⟨e',by simp[h1],h2⟩
theorem C0b{ops:List Oper}{i j:Nat}{o:Oper}(ho:ops[i]? =some o)(hb:∀e,e∈o.after.toList→Region.binds .any e=true→e.on<i)(hj:((Region.before ops.toArray).getD i 0).testBit j=true):
 ∃e,e∈o.after.toList∧Region.binds .any e=true∧(j=e.on∨((Region.before ops.toArray).getD e.on 0).testBit j=true):=by
 rw[C7d]at hj⊢;obtain⟨l,r,rfl,rfl⟩:∃l r,ops=l++o::r∧l.length=i:=by
  have hi:i<ops.length:=by
   rcases Nat.lt_or_ge i ops.length with h|h
   ·exact h
   ·rw[List.getElem?_eq_none h]at ho;cases ho
  refine⟨ops.take i,ops.drop (i+1),?_,by simp;omega⟩;have:ops.drop i=o::ops.drop (i+1):=by
   rw[List.drop_eq_getElem_cons hi];congr 1;rw[List.getElem?_eq_getElem hi]at ho;exact Option.some.inj ho
  rw[←this,List.take_append_drop]
 rw[C77]at hj;unfold CheckFast.one at hj;rw[←Array.foldl_toList]at hj;rcases B9n (look:=fun i=>(A37 l).getD i 0) _ _ hj with h|⟨e,h1,h2,h3⟩
 ·simp at h
 ·exact⟨e,h1,h2,h3.imp (fun h=>h) fun h=>by rw[B9j _ _ (hb e h1 h2)];exact h⟩
section
variable{P:Program}{E:Env}{x:Ctx}{w w':World}{h:Ah}{n n':Nat→Prop}{ρ:Option Nat→Am}{id:Nat}{S:Af}
def C8w(ops:List Oper):Prop:=∀(i:Nat) o,ops[i]? =some o→∀e,e∈o.after.toList→Region.binds .any e=true→e.on<i
def Lst(listed:Array Bool)(i:Nat):Prop:=listed[i]? =some true
def C5a(ops:List Oper)(listed:Array Bool):Prop:=∀(i:Nat) o,ops[i]? =some o→Lst listed i→∀e,e∈o.after.toList→Region.binds .any e=true→Lst listed e.on
theorem C10{ops:List Oper}{listed:Array Bool}(hB:C8w ops)(hC:C5a ops listed):∀(i:Nat) {o:Oper} {j:Nat},ops[i]? =some o→(∀e,e∈o.after.toList→Region.binds .any e=true→Lst listed e.on)→
 ((Region.before ops.toArray).getD i 0).testBit j=true→Lst listed j:=by
 intro i;induction i using Nat.strongRecOn with
 |_ i ih=>
  intro o j ho hl hj;obtain⟨e,h1,h2,h3⟩:=C0b ho (hB i o ho) hj;rcases h3 with rfl|h3
  ·exact hl e h1 h2
  ·have he:=hB i o ho e h1 h2
   have hi:i<ops.length:=by
    rcases Nat.lt_or_ge i ops.length with h|h
    ·exact h
    ·rw[List.getElem?_eq_none h]at ho;cases ho
   have ho':ops[e.on]? =some ops[e.on]:=List.getElem?_eq_getElem (by omega);exact ih e.on he ho' (hC _ _ ho' (hl e h1 h2)) h3
theorem A1m{ops:List Oper}{listed:Array Bool}(hs:listed.size=ops.length){i:Nat}:i∈Region.ready .any ops.toArray listed↔listed[i]? =some false∧∃o,ops[i]? =some o∧∀e,e∈o.after.toList→Region.binds .any e=true→Lst listed e.on:=by
 unfold Region.ready Lst;rw[List.mem_filter,List.mem_range];simp only[List.size_toArray];constructor
 ·rintro⟨h1,h2⟩
  have ho:ops[i]? =some ops[i]:=List.getElem?_eq_getElem h1;simp only[List.getElem?_toArray,ho,Option.map_some,Option.getD_some,Bool.and_eq_true,Bool.not_eq_true']at h2;refine⟨?_,_,ho,fun e he hb=>?_⟩
  ·have hi:i<listed.size:=by omega
   have:=h2.1;simp[Array.getD_eq_getD_getElem?,hi]at this;simp[hi,this]
  ·have:=Array.all_eq_true'.1 h2.2 e (by simpa using he)
   simp only[Bool.or_eq_true,Bool.not_eq_true',hb]at this;rcases this with h|h
   ·cases h
   ·cases hq:listed[e.on]? with
    |none=>simp[Array.getD_eq_getD_getElem?,hq]at h
    |some b=>simp[Array.getD_eq_getD_getElem?,hq]at h;rw[h]
 ·rintro⟨h1,o,ho,h2⟩
  have hi:i<listed.size:=by
   rcases Nat.lt_or_ge i listed.size with h|h
   ·exact h
   ·rw[Array.getElem?_eq_none h]at h1;cases h1
  refine⟨by omega,?_⟩;simp only[List.getElem?_toArray,ho,Option.map_some,Option.getD_some,Bool.and_eq_true,Bool.not_eq_true'];refine⟨by simp[Array.getD_eq_getD_getElem?,h1],Array.all_eq_true'.2 fun e he=>?_⟩;cases hb:Region.binds .any e with
  |false=>rfl
  |true=>
   have:=h2 e (by simpa using he) hb;simp[Array.getD_eq_getD_getElem?,this]
theorem C43(hT:TOk P E)(hF:FE P E x){N:Nat}{ops:List Oper}{b:Nat}{Q:Exit→Act→World→Prop}(hd:∀o,o∈ops→∀k,o.dst=some k→k<N)(hB:C8w ops):
 ∀(fuel:Nat) {listed:Array Bool} {l:List Xg} {S:Af} {h:Ah} {Sn:Af} {hn:Ah} {n:Nat→Prop} {a:Act} {w:World},
 l.length=fuel→Xp E ops b l S h Sn hn→Sts x N S h n a w→listed.size=ops.length→(∀i,listed[i]? =some false↔∃q,q∈l∧q.1=i)→(∀q,q∈l→ops[q.1]? =some q.2.1)→l.Pairwise (fun q q'=>q.1<q'.1)→
 l.Pairwise (fun q q'=>((Region.before ops.toArray).getD q'.1 0).testBit q.1=true∨(Oper.apart ops.toArray q.2.1 q'.2.1=true∧Yk (Zg q'.2.1 q'.2.2) q.2.2 q'.2.2=false))→C5a ops listed→
 (∀g,n g→g<b+16*ops.length)→(∀q,q∈l→Tb n (b+16*q.1))→(∀S' h' a w n',SEq Sn S'→HEq hn h'→(∀g,n' g→g<b+16*ops.length)→Sts x N S' h' n' a w→Q .normal a w)→
 wpAny P .any ops.toArray Q fuel listed a w:=by
 intro fuel;induction fuel with
 |zero=>
  intro listed l S h Sn hn n a w hlen hc hst hsz hli hat hinc hpr hcl hlt hfr hQ;have:l=[]:=List.eq_nil_of_length_eq_zero hlen;subst this;cases hc;refine⟨?_,hQ _ _ a w n (fun _=>rfl) (fun _=>rfl) hlt hst⟩;refine List.eq_nil_iff_forall_not_mem.2 fun i hi=>?_;obtain⟨q,hq,_⟩:=(hli i).1 ((A1m hsz).1 hi).1;cases hq
 |succ fuel ih=>
  intro listed l S h Sn hn n a w hlen hc hst hsz hli hat hinc hpr hcl hlt hfr hQ;have hnot:∀{i},i<ops.length→(∀q,q∈l→q.1≠i)→Lst listed i:=by
   intro i hi hq;unfold Lst;have hi':i<listed.size:=by omega
   cases hb:listed[i]with
   |true=>simp[hi',hb]
   |false=>
    obtain⟨q,h1,h2⟩:=(hli i).1 (by simp[hi',hb]);exact absurd h2 (hq q h1)
  refine⟨fun hr=>?_,fun i hi=>?_⟩
  ·exfalso
   match l,hlen with
   |q::r,_=>
    have ho:=hat q (by simp);have hi:q.1<ops.length:=by
     rcases Nat.lt_or_ge q.1 ops.length with h|h
     ·exact h
     ·rw[List.getElem?_eq_none h]at ho;cases ho
    have:q.1∈Region.ready .any ops.toArray listed:=(A1m hsz).2 ⟨(hli _).2 ⟨q,by simp,rfl⟩,_,ho,fun e he hb=>hnot (by have:=hB _ _ ho e he hb;omega) fun q' hq' e'=>by
     have h1:=hB _ _ ho e he hb;rcases List.mem_cons.1 hq' with rfl|hq'
     ·omega
     ·have:=(List.pairwise_cons.1 hinc).1 q' hq'
      omega⟩
    rw[hr]at this;cases this
  ·obtain⟨h1,o,ho,h2⟩:=(A1m hsz).1 hi
   obtain⟨q,hq,rfl⟩:=(hli i).1 h1;obtain⟨l1,l2,rfl⟩:=List.append_of_mem hq;have ho':=hat q hq;rw[ho]at ho';simp only[Option.some.injEq]at ho';subst ho';obtain⟨i,oi,fi⟩:=q;simp only at*;have hp:=List.pairwise_append.1 hpr;obtain⟨S1,h1',Sn',hn',hx,hc',e1,e1h,e2⟩:=A2k hc fun q' hq'=>by
    refine⟨(List.pairwise_append.1 hinc).2.2 q' hq' (i,oi,fi) (by simp),?_⟩;rcases hp.2.2 q' hq' (i,oi,fi) (by simp)with hb|hb
    ·exfalso
     have:=C10 hB hcl i ho h2 hb;have hf:=(hli q'.1).2 ⟨q',by simp[hq'],rfl⟩;unfold Lst at this;rw[this]at hf;cases hf
    ·exact hb
   have hs:=A8h hT hF hx hst ⟨_,hlt⟩ (hfr _ hq) (hd _ (List.mem_of_getElem? ho)) Q;have hi':i<ops.length:=by
    rcases Nat.lt_or_ge i ops.length with h|h
    ·exact h
    ·rw[List.getElem?_eq_none h]at ho;cases ho
   have hinc':=List.pairwise_append.1 hinc;have hne:∀q',q'∈l1++l2→q'.1≠i:=by
    intro q' hq' e;rcases List.mem_append.1 hq' with h|h
    ·have:=hinc'.2.2 q' h (i,oi,fi) (by simp)
     simp only at this;omega
    ·have:=(List.pairwise_cons.1 hinc'.2.1).1 q' h
     simp only at this;omega
   have hsub:(l1++l2).Sublist (l1++(i,oi,fi)::l2):=(List.Sublist.refl l1).append (List.sublist_cons_self _ _);have main:=hs.mono (R':=wpAny P .any ops.toArray Q fuel (listed.setIfInBounds i true)) fun a' w' h'=>ih (listed:=listed.setIfInBounds i true) (by simp at hlen⊢;omega) hc' h' (by simpa using hsz) (fun k=>?_) (fun q' hq'=>hat q' (hsub.mem hq')) (hinc.sublist hsub) (hpr.sublist hsub) (fun k o' hk hl e he hb=>?_) (fun g hg=>?_) (fun q' hq' g k1 k2 hg=>?_) (fun S' h' a w n' hs' hh' hn' hst'=>hQ S' h' a w n' (e1.trans hs') (e1h.trans hh') hn' hst')
   ·have he:ops.toArray[i]? =some oi:=by simpa using ho
    unfold wpOp;rw[he];exact main
   ·rw[Array.getElem?_setIfInBounds]
    by_cases hk:i=k
    ·subst hk
     simp only[if_true];constructor
     ·intro h;split at h<;>simp at h
     ·rintro⟨q',hq',e⟩;exact absurd e (hne q' hq')
    ·rw[if_neg hk,hli k]
     constructor
     ·rintro⟨q',hq',e⟩
      refine⟨q',?_,e⟩;rcases List.mem_append.1 hq' with h|h
      ·simp[h]
      ·rcases List.mem_cons.1 h with rfl|h
       ·exact absurd e hk
       ·simp[h]
     ·rintro⟨q',hq',e⟩
      exact⟨q',hsub.mem hq',e⟩
   ·have keep:∀j,Lst listed j→Lst (listed.setIfInBounds i true) j:=by
     intro j hj;unfold Lst at*;rw[Array.getElem?_setIfInBounds];by_cases e:i=j
     ·rw[if_pos e,if_pos (by omega)]
     ·rw[if_neg e];exact hj
    unfold Lst at hl;rw[Array.getElem?_setIfInBounds]at hl;by_cases e':i=k
    ·subst e'
     rw[hk]at ho;simp only[Option.some.injEq]at ho;subst ho;exact keep _ (h2 e he hb)
    ·rw[if_neg e']at hl
     exact keep _ (hcl k o' hk hl e he hb)
   ·rcases hg with hg|⟨g1,g2⟩
    ·exact hlt g hg
    ·omega
   ·rcases hg with hg|⟨g1,g2⟩
    ·exact hfr q' (hsub.mem hq') g k1 k2 hg
    ·have:=hne q' hq'
     omega
end
theorem B4e{x:Ctx}{w:World}{h:Ah}{n:Nat→Prop}{ρ:Option Nat→Am}{u:Value}(hs:Az x w h n ρ (.rd 1 [[]]) u):False:=by
 cases hs with
 |cell hr=>
  cases hr with
  |rd _ _ hrow=>have:=hrow [] (by simp);simp at this
theorem B2w{m:List (Nat×Nat)}:∀{l:List Nat},Qr m l=true→∀g,g∈l→∃g',A4 m g=some g'
 |[],_,g,hg=>by cases hg
 |x::l,h,g,hg=>by
  simp only[Qr]at h;cases hl:A4 m x with
  |none=>rw[hl]at h;cases h
  |some y=>
   rw[hl]at h;rcases List.mem_cons.1 hg with rfl|hg
   ·exact⟨y,hl⟩
   ·exact B2w h g hg
theorem Nz{α:Type}{g:Nat}{y:α}:∀{l:List (Nat×α)},A4 l g=some y→(g,y)∈l
 |(k,z)::l,h=>by
  rw[Ac]at h;by_cases e:k=g
  ·rw[if_pos e]at h
   simp only[Option.some.injEq]at h;subst e;subst h;simp
  ·rw[if_neg e]at h
   exact List.mem_cons_of_mem _ (Nz h)
theorem C3x{m:List (Nat×Nat)}(h:nodup (m.map (·.2))=true):∀{a b c:Nat},(a,c)∈m→(b,c)∈m→a=b:=by
 induction m with
 |nil=>intro a b c ha;cases ha
 |cons q r ih=>
  intro a b c ha hb;simp only[List.map_cons,nodup,Bool.and_eq_true,Bool.not_eq_true']at h;have hno:∀a c,(a,c)∈r→q.2≠c:=by
   intro a c hm e;have:=h.1;rw[Z3.2 (List.mem_map.2 ⟨(a,c),hm,e.symm⟩)]at this;cases this
  rcases List.mem_cons.1 ha with e|ha<;>rcases List.mem_cons.1 hb with e'|hb
  ·rw[←e']at e;exact(Prod.mk.injEq .. ▸e).1
  ·exact absurd (by rw[←e]) (hno _ _ hb)
  ·exact absurd (by rw[←e']) (hno _ _ ha)
  ·exact ih h.2 ha hb
theorem A10{b:Nat}:∀{l:List Nat},A2g b l=true→∀g,g∈l→g<b
 |[],_,g,hg=>by cases hg
 |x::l,h,g,hg=>by
  simp only[A2g,Bool.and_eq_true]at h;rcases List.mem_cons.1 hg with rfl|hg
  ·exact Nat.le_of_ble_eq_true h.1
  ·exact A10 h.2 g hg
theorem B3u{k:Nat}:∀{m:List (Nat×Nat)},keeps k m=true→∀a b,(a,b)∈m→a=b∨k≤a
 |[],_,a,b,hm=>by cases hm
 |(x,y)::m,h,a,b,hm=>by
  simp only[keeps,Bool.and_eq_true,Bool.or_eq_true]at h;rcases List.mem_cons.1 hm with e|hm
  ·simp only[Prod.mk.injEq]at e
   obtain⟨rfl,rfl⟩:=e;rcases h.1 with h|h
   ·exact .inl (Nat.eq_of_beq_eq_true h)
   ·exact .inr (Nat.le_of_ble_eq_true h)
  ·exact B3u h.2 a b hm
theorem Yd{h:Ah}{m:List (Nat×Nat)}{g:Nat}{r:AV}:∀{t:Ah},Pt h m t→A4 t g=some r→∃g',A4 m g=some g'∧A4 h g'=some r
 |(k,z)::t,he,hl=>by
  simp only[Pt]at he;rw[Ac]at hl;by_cases e:k=g
  ·rw[if_pos e]at hl
   simp only[Option.some.injEq]at hl;subst e;subst hl;cases hm:A4 m k with
   |none=>rw[hm]at he;exact he.1.elim
   |some g'=>
    rw[hm]at he;refine⟨g',rfl,?_⟩;cases hg:A4 h g' with
    |none=>simp only[hg]at he;exact he.1.elim
    |some r=>simp only[hg]at he;rw[he.1]
  ·rw[if_neg e]at hl
   exact Yd he.2 hl
theorem A31{S:Af}{m:List (Nat×Nat)}{d:Nat}{s:B20}:∀{t:Af},T4 S m t→A4 t d=some s→s.c=none∧Qr m s.v.ids2=true∧∃c,A4 S d=some ⟨c,s.v.ren m⟩∧Cy c
 |(k,z)::t,he,hl=>by
  simp only[T4]at he;rw[Ac]at hl;by_cases e:k=d
  ·rw[if_pos e]at hl
   simp only[Option.some.injEq]at hl;subst e;subst hl;obtain⟨h1,h2,_⟩:=he;cases hc:z.c with
   |some c=>rw[hc]at h1;exact h1.elim
   |none=>
    rw[hc]at h1;refine⟨rfl,h2,?_⟩;cases hS:A4 S k with
    |none=>simp only[hS]at h1
    |some s0=>
     obtain⟨c0,v0⟩:=s0;simp only[hS]at h1;cases c0 with
     |none=>simp only at h1;exact⟨none,by rw[h1],trivial⟩
     |some b=>simp only at h1;exact⟨some b,by rw[h1.2],h1.1⟩
  ·rw[if_neg e]at hl
   exact A31 he.2.2 hl
section
variable{P:Program}{E:Env}{x:Ctx}{w w':World}{h h2:Ah}{n n':Nat→Prop}{ρ:Option Nat→Am}{id:Nat}{S:Af}
def Kh(h2:Ah)(m:List (Nat×Nat))(ρ:Option Nat→Am):Option Nat→Am
 |none=>Ax
 |some g=>match A4 h2 g with
  |some _=>match A4 m g with
   |some g'=>ρ (some g')
   |none=>Ax
  |none=>Ax
theorem A5y{m:List (Nat×Nat)}{b:Nat}(he:Pt h m h2)(hb:A2g b (m.map (·.1))=true){v:AV}{u:Value}(hs:Az x w h n ρ (v.ren1 m) u)(ha:∀g,g∈v.ids1→∃g',A4 m g=some g'):Az x w h2 (fun g=>g<b) (Kh h2 m ρ) v u:=by
 have hn:∀{g g'},A4 m g=some g'→g<b:=fun hl=>A10 hb _ (List.mem_map.2 ⟨_,Nz hl,rfl⟩);have look:∀{g g'},A4 m g=some g'→A4 h2 g=none∨∃r,A4 h2 g=some r∧A4 h g'=some r∧Kh h2 m ρ (some g)=ρ (some g'):=by
  intro g g' hm;cases hl:A4 h2 g with
  |none=>exact .inl rfl
  |some r=>
   obtain⟨g2,e1,e2⟩:=Yd he hl;rw[hm]at e1;simp only[Option.some.injEq]at e1;subst e1;exact .inr ⟨r,rfl,e2,by simp only[Kh,hl,hm]⟩
 cases v with
 |view g p o l=>
  obtain⟨g',hm⟩:=ha g (by simp[AV.ids1]);have hs':Az x w h n ρ (.view g' p o l) u:=by simpa[AV.ren1,hm]using hs
  rcases look hm with hl|⟨r,h1,h2',h3⟩
  ·cases hs' with
   |cell hr=>cases hr
   |gone=>exact .gone hl (hn hm)
   |view0=>exact .gone hl (hn hm)
   |view=>exact .gone hl (hn hm)
  ·have hget':∀p,hget h2 g p=hget h g' p:=fun p=>by unfold hget;rw[h1,h2']
   cases hs' with
   |cell hr=>cases hr
   |gone hg=>rw[hg]at h2';cases h2'
   |view0 hg hl=>exact .view0 (by rw[hget'];exact hg) hl
   |view hg hl hcap hρ hb hroom=>exact .view (by rw[hget'];exact hg) hl hcap (by rw[h3];exact hρ) hb hroom
 |ptr g p i f=>
  obtain⟨g',hm⟩:=ha g (by simp[AV.ids1]);have hs':Az x w h n ρ (.ptr g' p i f) u:=by simpa[AV.ren1,hm]using hs
  rcases look hm with hl|⟨r,h1,h2',h3⟩
  ·cases hs' with
   |cell hr=>cases hr
   |gonep=>exact .gonep hl (hn hm)
   |ptr=>exact .gonep hl (hn hm)
  ·have hget':∀p,hget h2 g p=hget h g' p:=fun p=>by unfold hget;rw[h1,h2']
   cases hs' with
   |cell hr=>cases hr
   |gonep hg=>rw[hg]at h2';cases h2'
   |ptr hg hρ=>exact .ptr (by rw[hget'];exact hg) (by rw[h3];exact hρ)
 |bx g f=>
  obtain⟨g',hm⟩:=ha g (by simp[AV.ids1]);have hs':Az x w h n ρ (.bx g' f) u:=by simpa[AV.ren1,hm]using hs
  rcases look hm with hl|⟨r,h1,h2',h3⟩
  ·cases hs' with
   |cell hr=>cases hr
   |goneb=>exact .goneb hl (hn hm)
   |bx=>exact .goneb hl (hn hm)
  ·cases hs' with
   |cell hr=>cases hr
   |goneb hg=>rw[hg]at h2';cases h2'
   |bx hg hρ=>rw[hg]at h2';cases h2';exact .bx h1 (by rw[h3];exact hρ)
 |agg cs=>exact(B4e hs).elim
 |tup cs=>exact(B4e hs).elim
 |fn f cs=>exact(B4e hs).elim
 |pin cs=>
  have hs':Az x w h n ρ (.pin cs) u:=hs;cases hs' with
  |cell hr=>exact .cell hr
  |pin U hc=>exact .pin U hc
 |nils=>
  have hs':Az x w h n ρ .nils u:=hs;cases hs' with
  |cell hr=>exact .cell hr
  |nils=>exact .nils
 |emp=>
  have hs':Az x w h n ρ .emp u:=hs;cases hs' with
  |cell hr=>exact .cell hr
  |emp=>exact .emp
 |someI=>
  have hs':Az x w h n ρ .someI u:=hs;cases hs' with
  |cell hr=>exact .cell hr
  |someI=>exact .someI
 |nilp=>
  have hs':Az x w h n ρ .nilp u:=hs;cases hs' with
  |cell hr=>exact .cell hr
  |nilp=>exact .nilp
 |undef=>exact .void
 |int k m'=>
  have hs':Az x w h n ρ (.int k m') u:=hs;cases hs' with
  |cell hr=>exact .cell hr
 |bool b'=>
  have hs':Az x w h n ρ (.bool b') u:=hs;cases hs' with
  |cell hr=>exact .cell hr
 |str s=>
  have hs':Az x w h n ρ (.str s) u:=hs;cases hs' with
  |cell hr=>exact .cell hr
 |rd s xs=>
  have hs':Az x w h n ρ (.rd s xs) u:=hs;cases hs' with
  |cell hr=>exact .cell hr
 |own s xs=>
  have hs':Az x w h n ρ (.own s xs) u:=hs;cases hs' with
  |cell hr=>exact .cell hr
 |nilI=>
  have hs':Az x w h n ρ .nilI u:=hs;cases hs' with
  |cell hr=>exact .cell hr
 |arg s g k=>
  have hs':Az x w h n ρ (.arg s g k) u:=hs;cases hs' with
  |cell hr=>exact .cell hr
theorem B3d{m:List (Nat×Nat)}{b:Nat}(he:Pt h m h2)(hb:A2g b (m.map (·.1))=true){cs:List AV}{us:Array Value}(hc:∀(i:Nat) c,(cs.map (AV.ren1 m))[i]? =some c→Az x w h n ρ c (us.getD i undef))
 (ha:∀g,g∈G9 cs→∃g',A4 m g=some g'):∀(i:Nat) c,cs[i]? =some c→Az x w h2 (fun g=>g<b) (Kh h2 m ρ) c (us.getD i undef):=by
 intro i c hi;exact A5y he hb (hc i _ (by simp[hi])) fun g hg=>ha g (Ob hi g hg)
theorem B3z{v:AV}(h1:∀cs,v≠.tup cs)(h2:∀f cs,v≠.fn f cs):v.ids2=v.ids:=by
 cases v<;>first|rfl|exact absurd rfl (h1 _)|exact absurd rfl (h2 _ _)
theorem Wd:∀{cs:List AV} {i:Nat} {c:AV},cs[i]? =some c→∀g,g∈c.ids→g∈Mi cs
 |a::cs,0,c,hi,g,hg=>by
  simp only[List.getElem?_cons_zero,Option.some.injEq]at hi;subst hi;simp[Mi,hg]
 |a::cs,i+1,c,hi,g,hg=>by
  simp only[List.getElem?_cons_succ]at hi;simp[Mi,Wd hi g hg]
theorem C71{m:List (Nat×Nat)}{b:Nat}(he:Pt h m h2)(hb:A2g b (m.map (·.1))=true){v:AV}{u:Value}(hs:Az x w h n ρ (v.ren m) u)(ha:∀g,g∈v.ids2→∃g',A4 m g=some g'):Az x w h2 (fun g=>g<b) (Kh h2 m ρ) v u:=by
 have hagg:∀{cs:List AV} {u:Value},Az x w h n ρ (.agg (cs.map (AV.ren1 m))) u→(∀g,g∈G9 cs→∃g',A4 m g=some g')→Az x w h2 (fun g=>g<b) (Kh h2 m ρ) (.agg cs) u:=by
  intro cs u hs ha;cases hs with
  |cell hr=>cases hr
  |agg hl hc=>exact .agg (by simpa using hl) (B3d he hb hc ha)
 by_cases h1:∃cs,v=.agg cs
 ·obtain⟨cs,rfl⟩:=h1
  exact hagg hs ha
 ·by_cases h3:∃cs,v=.tup cs
  ·obtain⟨cs,rfl⟩:=h3
   have hs':Az x w h n ρ (.tup (cs.map (AV.ren2 m))) u:=hs;cases hs' with
   |cell hr=>cases hr
   |tup hl hc=>
    refine .tup (by simpa using hl) fun i c hi=>?_;have hci:=hc i (c.ren2 m) (by simp[hi]);by_cases h4:∃ds,c=.agg ds
    ·obtain⟨ds,rfl⟩:=h4
     exact hagg hci fun g hg=>ha g (Wd hi g hg)
    ·have e:c.ren2 m=c.ren1 m:=by cases c<;>first|rfl|exact absurd ⟨_,rfl⟩ h4
     rw[e]at hci;exact A5y he hb hci fun g hg=>ha g (Wd hi g (Vb hg))
  ·by_cases h4:∃f cs,v=.fn f cs
   ·obtain⟨f,cs,rfl⟩:=h4
    have hs':Az x w h n ρ (.fn f (cs.map (AV.ren1 m))) u:=hs;cases hs' with
    |cell hr=>cases hr
    |fn hl hc=>exact .fn (by simpa using hl) (B3d he hb hc fun g hg=>ha g (Tj hg))
   ·have e:v.ren m=v.ren1 m:=by
     cases v<;>first|rfl|exact absurd ⟨_,rfl⟩ h1|exact absurd ⟨_,rfl⟩ h3|exact absurd ⟨_,_,rfl⟩ h4
    rw[e]at hs;refine A5y he hb hs fun g hg=>ha g ?_;rw[B3z (fun cs h=>h3 ⟨cs,h⟩) (fun f cs h=>h4 ⟨f,cs,h⟩)];exact Vb hg
def StT(x:Ctx)(N:Nat)(σ:St)(a:Act)(w:World):Prop:=∃n:Nat→Prop,(∀g,n g→g<σ.next)∧Sts x N σ.slots σ.heap n a w
theorem B3b{m:List (Nat×Nat)}{N:Nat}{σ τ:St}{a:Act}(he:Ent x.k m σ τ)(hst:StT x N σ a w):StT x N τ a w:=by
 obtain⟨n,hn,R,wr,hR,ρ,H,hs,hN,hd⟩:=hst;have hm2:∀{g r},A4 τ.heap g=some r→∃g',A4 m g=some g'∧A4 σ.heap g'=some r∧Kh τ.heap m ρ (some g)=ρ (some g'):=by
  intro g r hl;obtain⟨g',h1,h2⟩:=Yd he.heap hl;exact⟨g',h1,h2,by simp only[Kh,hl,h1]⟩
 have hpl:∀{k p q},Kh τ.heap m ρ k p=some q→∃g g' r,k=some g∧A4 m g=some g'∧A4 τ.heap g=some r∧A4 σ.heap g'=some r∧ρ (some g') p=some q:=by
  intro k p q hq;cases k with
  |none=>simp[Kh,Ax]at hq
  |some g=>
   cases hl:A4 τ.heap g with
   |none=>simp[Kh,hl,Ax]at hq
   |some r=>
    obtain⟨g',h1,h2,h3⟩:=hm2 hl;rw[h3]at hq;exact⟨g,g',r,rfl,h1,hl,h2,hq⟩
 have hlt:∀{g g'},A4 m g=some g'→g<τ.next:=fun hl=>A10 he.lt _ (List.mem_map.2 ⟨_,Nz hl,rfl⟩);refine⟨fun g=>g<τ.next,fun _ h=>h,R,wr,hR,Kh τ.heap m ρ,?_,?_,hN,hd⟩
 ·refine⟨H.os,H.tape,H.output,H.size,H.frame,fun g r hl=>?_,fun j c hj=>by simp at hj,fun k p q hq=>?_,rfl,fun k p k' p' b o o' h1 h2=>?_,fun k p b o hq=>?_,fun g r hl=>?_,H.keeps,fun g r hg hl=>?_,fun g hg=>?_,H.fixed,H.rsub,H.rlt⟩
  ·obtain⟨g',h1,h2,h3⟩:=hm2 hl
   rw[h3];exact H.root g' r h2
  ·obtain⟨g,g',r,rfl,h1,h2,h3,h4⟩:=hpl hq
   obtain⟨s,xs,h5⟩:=H.live _ _ _ h4;refine⟨s,xs,?_⟩;simp only[Ct]at h5⊢;rw[Cn h2];rw[Cn h3]at h5;exact h5
  ·obtain⟨g,g',r,rfl,a1,a2,a3,a4⟩:=hpl h1
   obtain⟨e,e',r',rfl,b1,b2,b3,b4⟩:=hpl h2;obtain⟨c1,c2⟩:=H.inj _ _ _ _ _ _ _ a4 b4;simp only[Option.some.injEq]at c1;subst c1;exact⟨by rw[C3x he.inj (Nz a1) (Nz b1)],c2⟩
  ·obtain⟨g,g',r,rfl,a1,a2,a3,a4⟩:=hpl hq
   exact H.mine _ _ _ _ a4
  ·obtain⟨g',h1,_⟩:=hm2 hl
   exact hlt h1
  ·obtain⟨g',h1,h2,h3⟩:=hm2 hl
   rw[h3];rcases B3u he.keep _ _ (Nz h1)with rfl|h4
   ·exact H.base g r hg h2
   ·exact absurd hg (Nat.not_lt.2 h4)
  ·exact Nat.lt_of_lt_of_le hg (Nat.le_of_ble_eq_true he.kn)
 ·intro d s hd
  obtain⟨h1,h2,c,h3,h4⟩:=A31 he.slots hd;refine⟨fun _=>?_,fun hf=>by rw[h1]at hf;cases hf⟩;exact C71 he.heap he.lt ((hs d _ h3).1 h4) (B2w h2)
end
def Qj(N:Nat):Code→Bool
 |.region _ ops _=>ops.toList.all fun o=>match o.dst with
  |some d=>Nat.blt d N
  |none=>true
 |.seq a b=>Qj N a&&Qj N b
 |.cond _ a b=>Qj N a&&Qj N b
 |.block _ b=>Qj N b
 |.loop b=>Qj N b
 |.scope b=>Qj N b
 |_=>true
section
variable{P:Program}{E:Env}{x:Ctx}{w w':World}{h h2:Ah}{n n':Nat→Prop}{ρ:Option Nat→Am}{id:Nat}{S:Af}
theorem Sts.drawn{N:Nat}{a:Act}(hst:Sts x N S h n a w):Sts x N S h n a {w with drawn:=w.drawn+1}:=by
 obtain⟨R,wr,hR,ρ,H,hs,hN,hd⟩:=hst;exact⟨R,wr,hR,ρ,H.world rfl rfl rfl rfl,hs.frame fun g p b o c _ hb=>⟨c,hb.congr rfl,rfl⟩,hN,hd⟩
theorem Sts.like{N:Nat}{a:Act}{S':Af}(hst:Sts x N S' h n a w)(he:SEq S S'):Sts x N S h n a w:=by
 obtain⟨R,wr,hR,ρ,H,hs,hN,hd⟩:=hst;exact⟨R,wr,hR,ρ,H,fun d s hl=>hs d s (by rw[he d];exact hl),hN,hd⟩
theorem B5e{n:Nat}{K:Nat→Prop}:lit n K=K n:=by cases n<;>rfl
theorem B4k{v:AV}{K:AV→Prop}:C5j v K=K v:=by
 cases v<;>simp only[C5j,B5e]
theorem C1p:∀{vs:List AV} {K:List AV→Prop},C70 vs K=K vs
 |[],K=>rfl
 |v::vs,K=>by simp only[C70,B4k];rw[C1p]
theorem C6w{v:AV}{K:AV→Prop}:C8r v K=K v:=by
 cases v<;>simp only[C8r,B4k,C1p]
theorem C7w{c:Option Bool}{K:Option Bool→Prop}:C96 c K=K c:=by cases c<;>rfl
theorem A4m{kp:List Nat}:∀{S:Af} {done:List Nat} {K:Af→Prop},C3b kp S done K→∃S',K S'∧∀d s,A4 S' d=some s→Ur d kp=true∧Ur d done=false∧A4 S d=some s
 |[],done,K,hk=>⟨_,hk,fun _ _ h=>by cases h⟩
 |(d,s)::r,done,K,hk=>by
  simp only[C3b]at hk;cases hp:Ur d kp with
  |false=>
   rw[hp]at hk;obtain⟨S',h1,h2⟩:=A4m hk;refine⟨S',h1,fun e s' he=>?_⟩;obtain⟨a1,a2,a3⟩:=h2 e s' he;refine⟨a1,a2,?_⟩;rw[Ac,if_neg]
   ·exact a3
   ·rintro rfl;rw[hp]at a1;cases a1
  |true=>
   rw[hp]at hk;simp only at hk;cases hd:Ur d done with
   |true=>
    rw[hd]at hk;obtain⟨S',h1,h2⟩:=A4m hk;refine⟨S',h1,fun e s' he=>?_⟩;obtain⟨a1,a2,a3⟩:=h2 e s' he;refine⟨a1,a2,?_⟩;rw[Ac,if_neg]
    ·exact a3
    ·rintro rfl;rw[hd]at a2;cases a2
   |false=>
    rw[hd]at hk;simp only[B5e,C7w,C6w]at hk;obtain⟨S',h1,h2⟩:=A4m hk;refine⟨_,h1,fun e s' he=>?_⟩;rw[Ac]at he;by_cases e':d=e
    ·rw[if_pos e']at he
     simp only[Option.some.injEq]at he;subst e';subst he;exact⟨hp,hd,by rw[Ac,if_pos rfl]⟩
    ·rw[if_neg e']at he
     obtain⟨a1,a2,a3⟩:=h2 e s' he;refine⟨a1,?_,by rw[Ac,if_neg e'];exact a3⟩;simpa only[Ur,Pw e']using a2
theorem B4g:∀{h:Ah} {done:List Nat} {K:Ah→Prop},C65 h done K→∃h',K h'∧∀d,Ur d done=false→A4 h' d=A4 h d
 |[],done,K,hk=>⟨_,hk,fun _ _=>rfl⟩
 |(d,s)::r,done,K,hk=>by
  simp only[C65]at hk;cases hd:Ur d done with
  |true=>
   rw[hd]at hk;obtain⟨S',h1,h2⟩:=B4g hk;refine⟨S',h1,fun e he=>?_⟩;rw[h2 e he,Ac,if_neg];rintro rfl;rw[hd]at he;cases he
  |false=>
   rw[hd]at hk;simp only[B5e,B4k]at hk;obtain⟨S',h1,h2⟩:=B4g hk;refine⟨_,h1,fun e he=>?_⟩;rw[Ac,Ac];by_cases e':d=e
   ·rw[if_pos e',if_pos e']
   ·rw[if_neg e',if_neg e']
    refine h2 e ?_;simp only[Ur,Pw e',he]
theorem C8q{kp:List Nat}{S:Af}{h:Ah}{m:Nat}{K:StP}(hk:lay kp S h m K):∃S' h',K S' h' m∧(∀d s,A4 S' d=some s→A4 S d=some s)∧∀g,A4 h' g=A4 h g:=by
 unfold lay at hk;obtain⟨S',hk,h1⟩:=A4m hk;obtain⟨h',hk,h2⟩:=B4g hk;rw[B5e]at hk;exact⟨S',h',hk,fun d s hl=>(h1 d s hl).2.2,fun g=>h2 g rfl⟩
theorem Sts.fewer{N:Nat}{a:Act}{S':Af}(hst:Sts x N S h n a w)(he:∀d s,A4 S' d=some s→A4 S d=some s):Sts x N S' h n a w:=by
 obtain⟨R,wr,hR,ρ,H,hs,hN,hd⟩:=hst;exact⟨R,wr,hR,ρ,H,fun d s hl=>hs d s (he d s hl),hN,hd⟩
theorem Sts.heapLike{N:Nat}{a:Act}{h':Ah}(hst:Sts x N S h n a w)(he:∀g,A4 h' g=A4 h g):Sts x N S h' n a w:=by
 obtain⟨R,wr,hR,ρ,H,hs,hN,hd⟩:=hst;have hg:∀g p,hget h' g p=hget h g p:=fun g p=>by unfold hget;rw[he g]
 refine⟨R,wr,hR,ρ,⟨H.os,H.tape,H.output,H.size,H.frame,fun g r hr=>H.root g r (by rw[←he];exact hr),H.loose,fun k p q hq=>?_,H.nobase,H.inj,H.mine,fun g r hr=>H.ids g r (by rw[←he];exact hr),H.keeps,fun g r hgk hr=>H.base g r hgk (by rw[←he];exact hr),H.kn,H.fixed,H.rsub,H.rlt⟩,?_,hN,hd⟩
 ·obtain⟨s,xs,h1⟩:=H.live k p q hq
  refine⟨s,xs,?_⟩;cases k with
  |none=>exact h1
  |some g=>simp only[Ct]at h1⊢;rw[hg];exact h1
 ·intro d s hl
  refine⟨fun ht=>?_,(hs d s hl).2⟩;have h1:=(hs d s hl).1 ht;exact h1.weaken (P:=fun _ _=>True) (E4.all (fun _ _=>trivial) h1) (fun _ h=>h) (fun g _ h=>by rw[he];exact h) H.ids fun g p _=>.inr ⟨fun s xs h=>⟨xs,by rw[hg];exact h,rfl⟩,fun _ h=>h⟩
theorem B6o{ops:List Oper}{l:List Xg}(hl:l.map (fun q=>(q.2.1,q.1))=ops.zipIdx 0):l.Pairwise (fun q q'=>q.1<q'.1):=by
 have h1:(l.map (fun q=>(q.2.1,q.1))).Pairwise (fun p p'=>p.2<p'.2):=by
  rw[hl];have:∀(r:List Oper) k,(r.zipIdx k).Pairwise (fun p p'=>p.2<p'.2):=by
   intro r;induction r with
   |nil=>intro k;simp
   |cons o r ih=>
    intro k;rw[List.zipIdx_cons];refine List.pairwise_cons.2 ⟨fun p hp=>?_,ih (k+1)⟩;have:=List.le_snd_of_mem_zipIdx hp;omega
  exact this ops 0
 exact(List.pairwise_map (f:=fun q:Xg=>(q.2.1,q.1))).1 h1
theorem B5n(hT:TOk P E)(hF:FE P E x)(hm:P.follows .mixedOrders=true){N:Nat}{i:Nat}{ops:Array Oper}{draw:Bool}{QN QR:StP}{QX:Nat→StP}{kk nx:Nat}{a:Act}{Q':Exit→Act→World→Prop}
 (hd:Qj N (.region i ops draw)=true)(hk:awp E kk (.region i ops draw) QN QR QX S h nx)(hst:StT x N ⟨S,h,nx⟩ a w)(hQ:∀S h nx a w,QN S h nx→StT x N ⟨S,h,nx⟩ a w→Q' .normal a w):(Code.region i ops draw).wp P Q' a w:=by
 obtain⟨n,hn,hst⟩:=hst;simp only at hn hst;have hdst:∀o,o∈ops.toList→∀k,o.dst=some k→k<N:=by
  intro o ho k hk;simp only[Qj,List.all_eq_true]at hd;have:=hd o ho;rw[hk]at this;exact Nat.le_of_ble_eq_true this
 have hk':B62 E ops.toList ops.toList (nx+16*0) S h [] fun S h t=>match(generalizing:=false) draw with
  |false=>lay E.kp S h (nx+16*ops.size) QN
  |true=>Bu ops t=true∧lay E.kp S h (nx+16*ops.size) QN:=hk
 have hQ':∀{S h a w} {n':Nat→Prop},lay E.kp S h (nx+16*ops.size) QN→(∀g,n' g→g<nx+16*ops.size)→Sts x N S h n' a w→Q' .normal a w:=by
  intro S h a w n' hl hb hs;obtain⟨S',h',hq,e1,e2⟩:=C8q hl;exact hQ S' h' _ a w hq ⟨n',hb,(hs.fewer e1).heapLike e2⟩
 obtain⟨l,Sn,hn',hc,hK,hl⟩:=B90 _ _ _ _ _ _ hk';cases draw with
 |false=>
  refine wp_region_list ?_;have h1:=A8b hT hF (Q:=Q') hdst ops.toList 0 (fun o h=>h) hc hl hst (by simpa using hn) fun a w n' hb hs=>hQ' hK (fun g hg=>by have:=hb g hg;simp at this;simpa using this) hs;simpa using h1
 |true=>
  obtain⟨hdr,hK⟩:=hK;refine wp_region_any hm ?_;unfold Bu at hdr;simp only[Bool.and_eq_true,List.all_eq_true]at hdr;obtain⟨d1,d2⟩:=hdr;have hat:∀q,q∈l→ops.toList[q.1]? =some q.2.1:=by
   intro q hq;have:(q.2.1,q.1)∈ops.toList.zipIdx:=by rw[←hl];exact List.mem_map.2 ⟨q,hq,rfl⟩
   exact List.mk_mem_zipIdx_iff_getElem?.1 this
  have hB:C8w ops.toList:=by
   intro i o ho e he hb;have:=d1 (o,i) (List.mk_mem_zipIdx_iff_getElem?.2 ho) e he;simp only[hb,Bool.not_true,Bool.false_or]at this;exact Nat.le_of_ble_eq_true this
  have hlen:l.length=ops.size:=by
   have:=congrArg List.length hl;simpa using this
  have hinc:=B6o hl;have hzip:∀q,q∈l→((q.2.1,q.2.2),q.1)∈(ops.toList.zip ((l.map fun q:Xg=>q.2.2).reverse++[]).reverse).zipIdx:=by
   intro q hq;rw[List.append_nil,List.reverse_reverse];refine List.mk_mem_zipIdx_iff_getElem?.2 ?_;obtain⟨k,hk⟩:=List.getElem?_of_mem hq;have e1:(ops.toList.zipIdx 0)[k]? =some (q.2.1,q.1):=by rw[←hl];simp[hk]
   rw[List.getElem?_zipIdx]at e1;have e2:q.1=k:=by
    cases hok:ops.toList[k]? with
    |none=>rw[hok]at e1;cases e1
    |some o=>
     rw[hok]at e1;simp only[Option.map_some,Option.some.injEq,Prod.mk.injEq]at e1;omega
   rw[List.getElem?_zip_eq_some];refine⟨hat q hq,?_⟩;rw[e2];simp[hk]
  have hpr:l.Pairwise (fun q q'=>((Region.before ops.toList.toArray).getD q'.1 0).testBit q.1=true∨(Oper.apart ops.toList.toArray q.2.1 q'.2.1=true∧Yk (Zg q'.2.1 q'.2.2) q.2.2 q'.2.2=false)):=by
   refine hinc.imp_of_mem fun{q q'} hq hq' hlt=>?_;have:=d2 _ (hzip q hq) _ (hzip q' hq');simp only[Bool.or_eq_true,Bool.and_eq_true,Bool.not_eq_true']at this;rcases this with(h|h)|h
   ·have:Nat.blt q.1 q'.1=true:=Nat.ble_eq_true_of_le hlt
    rw[this]at h;cases h
   ·left
    rw[CheckFast.beforeF_eq]at h;simpa using h
   ·right;simpa using h
  have main:=C43 (x:=x) (w:={w with drawn:=w.drawn+1}) hT hF (Q:=Q') hdst hB ops.size (listed:=Array.replicate ops.size false) (a:=a) hlen hc hst.drawn (by simp) (fun i=>?_) hat hinc hpr (fun i o ho hl'=>?_) (fun g hg=>by have:=hn g hg;omega) (fun q hq=>B9g fun g hg=>by have:=hn g hg;omega)
   fun S' h' a w n' he hh hb hs=>hQ' hK (by simpa using hb) ((hs.like he).heapLike fun g=>(hh g).symm)
  ·simpa using main
  ·constructor
   ·intro hi
    have hi':i<ops.size:=by
     rcases Nat.lt_or_ge i ops.size with h|h
     ·exact h
     ·rw[Array.getElem?_eq_none (by simpa using h)]at hi;cases hi
    obtain⟨q,hq,e⟩:∃q,q∈l∧(q.2.1,q.1)=(ops.toList[i]'(by simpa using hi'),i):=by
     have:(ops.toList[i]'(by simpa using hi'),i)∈l.map (fun q=>(q.2.1,q.1)):=by
      rw[hl];exact List.mk_mem_zipIdx_iff_getElem?.2 (List.getElem?_eq_getElem _)
     exact List.mem_map.1 this
    exact⟨q,hq,(Prod.mk.injEq .. ▸e).2⟩
   ·rintro⟨q,hq,rfl⟩
    have:=hat q hq;have hi':q.1<ops.size:=by
     rcases Nat.lt_or_ge q.1 ops.size with h|h
     ·exact h
     ·rw[List.getElem?_eq_none (by simpa using h)]at this;cases this
    simp[hi']
  ·unfold Lst at hl'
   exfalso;have hi':i<ops.size:=by
    rcases Nat.lt_or_ge i ops.size with h|h
    ·exact h
    ·rw[Array.getElem?_eq_none (by simpa using h)]at hl';cases hl'
   simp[hi']at hl'
theorem B7x{J:Nat→Prop}(h:∃k,J k):∃k,J k∧∀j,J j→k≤j:=by
 obtain⟨k,hk⟩:=h;induction k using Nat.strongRecOn with
 |_ k ih=>
  by_cases h:∃j,j<k∧J j
  ·obtain⟨j,h1,h2⟩:=h
   exact ih j h1 h2
  ·exact⟨k,hk,fun j hj=>Nat.le_of_not_lt fun hlt=>h ⟨j,hlt,hj⟩⟩
open Classical in
theorem B44(hT:TOk P E)(hF:FE P E x)(hm:P.follows .mixedOrders=true){N:Nat}:∀(c:Code) {QN QR:StP} {QX:Nat→StP} {S:Af} {h:Ah} {nx:Nat} {a:Act} {w:World} {Q':Exit→Act→World→Prop},Qj N c=true→awp E x.k c QN QR QX S h nx→StT x N ⟨S,h,nx⟩ a w→
 (∀S h nx a w,QN S h nx→StT x N ⟨S,h,nx⟩ a w→Q' .normal a w)→(∀S h nx a w,QR S h nx→StT x N ⟨S,h,nx⟩ a w→Q' .ret a w)→(∀i S h nx a w,QX i S h nx→StT x N ⟨S,h,nx⟩ a w→Q' (.exit i) a w)→c.wp P Q' a w:=by
 intro c;induction c with
 |skip=>intro QN QR QX S h nx a w Q' hd hw hst h1 h2 h3;exact wp_skip (h1 _ _ _ _ _ hw hst)
 |region i ops draw=>intro QN QR QX S h nx a w Q' hd hw hst h1 h2 h3;exact B5n hT hF hm hd hw hst h1
 |seq c1 c2 ih1 ih2=>
  intro QN QR QX S h nx a w Q' hd hw hst h1 h2 h3;simp only[Qj,Bool.and_eq_true]at hd;exact wp_seq (ih1 hd.1 hw hst (fun S h nx a w hq hs=>ih2 hd.2 hq hs h1 h2 h3) (fun S h nx a w hq hs=>h2 _ _ _ _ _ hq hs) (fun i S h nx a w hq hs=>h3 _ _ _ _ _ _ hq hs))
 |cond c1 a1 b1 ih1 ih2=>
  intro QN QR QX S h nx a w Q' hd hw hst h1 h2 h3;simp only[Qj,Bool.and_eq_true]at hd;obtain⟨n,hn,R,wr,hR,ρ,H,hs,hN,hdf⟩:=id hst;have hw':val S none c1 fun v=>match v with
   |.bool t=>(t=true→awp E x.k a1 QN QR QX S h nx)∧(t=false→awp E x.k b1 QN QR QX S h nx)
   |_=>False:=hw
  obtain⟨v,hv,hsr⟩:=Cc hs (g:=none) trivial hw';cases v<;>try exact hv.elim
  rename_i t;refine wp_cond_split (K1 hsr) (fun ht=>ih1 hd.1 (hv.1 ht) hst h1 h2 h3) (fun ht=>ih2 hd.2 (hv.2 ht) hst h1 h2 h3)
 |block i b ih=>
  intro QN QR QX S h nx a w Q' hd hw hst h1 h2 h3;refine wp_block (ih hd hw hst h1 h2 fun j S h nx a w hq hs=>?_);simp only[Exit.inBlock];cases hb:Nat.beq j i with
  |true=>
   rw[hb]at hq;rw[if_pos (Nat.eq_of_beq_eq_true hb)];exact h1 _ _ _ _ _ hq hs
  |false=>
   rw[hb]at hq;rw[if_neg (fun e=>by subst e;rw[Nat.beq_refl]at hb;cases hb)];exact h3 _ _ _ _ _ _ hq hs
 |loop b ih=>
  intro QN QR QX S h nx a w Q' hd hw hst h1 h2 h3;obtain⟨Inv,⟨n0,τ0,m0,he0,hi0⟩,hround⟩:=(show B6g x.k (fun N=>awp E x.k b N QR QX) S h nx from hw)
  let J:Nat→Act→World→Prop:=fun k a w=>∃τ,Inv k τ∧StT x N τ a w;let I:Act→World→Prop:=fun a w=>∃k,J k a w;let μ:Act→World→Nat:=fun a w=>if h:∃k,J k a w then Classical.choose (B7x h)else 0
  have hμ:∀{a w} (h:I a w),J (μ a w) a w:=by
   intro a w h;have h':∃k,J k a w:=h;have:μ a w=Classical.choose (B7x h'):=dif_pos h';rw[this];exact(Classical.choose_spec (B7x h')).1
  have hμle:∀{a w k},J k a w→μ a w≤k:=by
   intro a w k h;have h':∃k,J k a w:=⟨k,h⟩
   have:μ a w=Classical.choose (B7x h'):=dif_pos h';rw[this];exact(Classical.choose_spec (B7x h')).2 k h
  refine wp_loop I μ ⟨n0,τ0,hi0,B3b he0 hst⟩ fun a w hI=>?_;obtain⟨⟨S1,h1',nx1⟩,hinv,hs⟩:=hμ hI;refine ih hd (hround _ ⟨S1,h1',nx1⟩ hinv) hs (fun S h nx a' w' hq hs'=>?_) (fun S h nx a w hq hs'=>h2 _ _ _ _ _ hq hs') (fun i S h nx a w hq hs'=>h3 _ _ _ _ _ _ hq hs');obtain⟨n',τ',m',hlt,he,hi⟩:=hq;have hJ:J n' a' w':=⟨τ',hi,B3b he hs'⟩
  exact⟨⟨n',hJ⟩,Nat.lt_of_le_of_lt (hμle hJ) hlt⟩
 |exit i=>intro QN QR QX S h nx a w Q' hd hw hst h1 h2 h3;exact wp_exit (h3 _ _ _ _ _ _ hw hst)
 |scope b ih=>
  intro QN QR QX S h nx a w Q' hd hw hst h1 h2 h3;exact wp_scope_straight (ih hd hw hst h1 h2 h3)
 |ret=>intro QN QR QX S h nx a w Q' hd hw hst h1 h2 h3;exact wp_ret (h2 _ _ _ _ _ hw hst)
 |_=>intro QN QR QX S h nx a w Q' hd hw hst h1 h2 h3;exact hw.elim
end
def Yg:AV→AV→Prop
 |.own s xs,.own s' xs'=>s=s'∧xs=xs'
 |.own _ _,_=>False
 |.nils,.own _ xs|.emp,.own _ xs=>xs=[]
 |_,.undef=>True
 |x,y=>x=y
def A4i:List AV→List AV→Prop
 |[],[]=>True
 |a::r,b::s=>Yg a b∧A4i r s
 |_,_=>False
def Vw:AV→AV→Prop
 |.agg a,.agg b=>A4i a b
 |.agg _,_=>False
 |a,b=>Yg a b
def A81:List AV→List AV→Prop
 |[],[]=>True
 |a::r,b::s=>Vw a b∧A81 r s
 |_,_=>False
def Jd(h:Ah)(v:AV)(K:AV→Ah→Prop):Prop:=
 match v with
 |.view g p off len=>arr h g p fun s xs=>W8 [] h g p fun _ h'=>K (.own s ((xs.drop off).take len)) h'
 |.agg _|.tup _|.own _ _|.ptr _ _ _ _|.bx _ _|.pin _|.fn _ _|.arg _ _ _=>False
 |v=>K v h
def J8(h:Ah):List AV→(List AV→Ah→Prop)→Prop
 |[],K=>K [] h
 |c::r,K=>Jd h c fun c' h'=>J8 h' r fun cs h''=>K (c'::cs) h''
def Rg(h:Ah)(v:AV)(K:AV→Ah→Prop):Prop:=
 match v with
 |.agg cs=>J8 h cs fun cs' h'=>K (.agg cs') h'
 |v=>Jd h v K
def P3(h:Ah):List AV→(List AV→Ah→Prop)→Prop
 |[],K=>K [] h
 |c::r,K=>Rg h c fun c' h'=>P3 h' r fun cs h''=>K (c'::cs) h''
def Lc(E:Env)(S:Af)(h:Ah):List ResultVar→(List AV→Prop)→Prop
 |[],K=>K []
 |.tmp t::r,K=>val S none (.tmp t) fun v=>Lc E S h r fun vs=>K (v::vs)
 |.cell a t::r,K=>val S none (.tmp a) fun p=>L5 E t fun ty=>loadAt none ty h p fun v=>Lc E S h r fun vs=>K (v::vs)
def B6v(h:Ah):List Nat→List AV→Prop
 |[],[]=>True
 |g::gs,y::ys=>A4 h g=some y∧B6v h gs ys
 |_,_=>False
def A4p(E:Env)(rs:List ResultVar)(res:AV)(mu:List Nat)(out:List AV)(S:Af)(h:Ah)(_:Nat):Prop:=
 Lc E S h rs fun vs=>P3 h vs fun vs' h=>B6v h mu out∧match vs' with
  |[v]=>Vw v res
  |vs=>match res with
   |.tup us=>A81 vs us
   |_=>False
def B6(E:Env)(code:Code)(rs:List ResultVar)(c:Bd):Prop:=
 ∀x,c.pre x→Bn 0 0 c.ms (c.enc x) fun S h n mu=>Ss h mu (c.out x)∧
  awp E n code (A4p E rs (c.res x) mu (c.out x)) (A4p E rs (c.res x) mu (c.out x)) (fun _ _ _ _=>False) S h (n+16)
section
variable{P:Program}{E:Env}{x:Ctx}{w w':World}{h h2:Ah}{n n':Nat→Prop}{L:List AV}{U:Nat→Value}{ρ:Option Nat→Am}{id:Nat}{S:Af}
def C0w(x:Ctx)(c:AV)(u:Value):Prop:=∀w h n ρ,Az x w h n ρ c u
def AV.flat:AV→Bool
 |.int _ _|.bool _|.str _|.rd _ _|.nils|.emp|.nilI|.someI|.nilp|.undef=>true
 |_=>false
theorem B78{v:AV}{u:Value}(hf:v.flat=true)(hm:Mov x w h n ρ v u):C0w x v u:=by
 intro w2 h2 n2 ρ2;cases v<;>simp only[AV.flat]at hf<;>first
  |(cases hf;done)
  |exact .void
  |exact .cell (Rep.frame_nowhere (hm rfl))
  |(have e:u=.slice none 0 0:=hm;subst e;exact .nils)
  |(obtain⟨a,e⟩:∃a,u=.slice a 0 0:=hm;subst e;exact .emp)
  |(obtain⟨t,z,e⟩:∃t z,u=.iface t z:=hm;subst e;exact .someI)
  |(have e:u=.pointer none:=hm;subst e;exact .nilp)
inductive Qy(x:Ctx):List AV→(Nat→Value)→List AV→List Value→Prop
 |nil {V:Nat→Value}:Qy x [] V [] []
 |own {D:List AV} {V:Nat→Value} {ts:List AV} {us:List Value} {s:Nat} {xs:List (List AV)} {u:Value} (hu:V 0=u) (hr:Qy x D (fun i=>V (i+1)) ts us):Qy x (.own s xs::D) V (.own s xs::ts) (u::us)
 |st {D:List AV} {V:Nat→Value} {ts:List AV} {us:List Value} {t:AV} {u:Value} (hf:t.flat=true) (hs:C0w x t u) (hr:Qy x D V ts us):Qy x D V (t::ts) (u::us)
theorem Qy.congr{D:List AV}{V V':Nat→Value}{ts:List AV}{us:List Value}(ho:Qy x D V ts us)(hv:∀i,i<D.length→V' i=V i):Qy x D V' ts us:=by
 induction ho generalizing V' with
 |nil=>exact .nil
 |own hu hr ih=>exact .own ((hv 0 (by simp)).trans hu) (ih fun i hi=>hv (i+1) (by simp;omega))
 |st hf hs hr ih=>exact .st hf hs (ih hv)
theorem Z2{c t:AV}(hl:Yg c t):(∃s xs,c=.own s xs∧t=.own s xs)∨((c=.nils∨c=.emp)∧∃s,t=.own s [])∨((∀s xs,c≠.own s xs)∧t=.undef)∨((∀s xs,c≠.own s xs)∧t=c):=by
 cases c<;>cases t<;>simp_all[Yg]
structure Y9(x:Ctx)(w:World)(n:Nat→Prop)(h:Ah)(L:List AV)(U:Nat→Value)(ρ:Option Nat→Am)(h':Ah)(D:List AV)(U':Nat→Value)(ρ':Option Nat→Am):Prop where
 rel:Bp x w h' n (L++D) U' ρ'
 mov:∀v u,Mov x w h n ρ v u→Mov x w h' n ρ' v u
 keep:∀j,j<L.length→U' j=U j
theorem Wn{v:AV}{u:Value}{K:AV→Ah→Prop}(H:Bp x w h n L U ρ)(hm:Mov x w h n ρ v u)(hk:Jd h v K):
 ∃c h',K c h'∧∀t,Yg c t→∃D U' ρ',Y9 x w n h L U ρ h' D U' ρ'∧Qy x D (fun i=>U' (L.length+i)) [t] [u]:=by
 have flat:v.flat=true→K v h→∃c h',K c h'∧∀t,Yg c t→∃D U' ρ',Y9 x w n h L U ρ h' D U' ρ'∧Qy x D (fun i=>U' (L.length+i)) [t] [u]:=by
  intro hf hk;refine⟨v,h,hk,fun t ht=>?_⟩;rcases Z2 ht with⟨s,xs,rfl,rfl⟩|⟨hne,s,rfl⟩|⟨_,rfl⟩|⟨_,rfl⟩
  ·cases hf
  ·have hu:∃a,u=.slice a 0 0:=by
    rcases hne with rfl|rfl
    ·exact⟨none,hm⟩
    ·exact hm
   obtain⟨a,rfl⟩:=hu;exact⟨[.own s []],Jg U L.length (.slice a 0 0),ρ,⟨H.push (.own0 (a:=a)),fun _ _ h=>h,fun j hj=>by simp[Jg,Nat.ne_of_lt hj]⟩,.own (by simp[Jg]) .nil⟩
  ·exact⟨[],U,ρ,⟨by simpa using H,fun _ _ h=>h,fun _ _=>rfl⟩,.st rfl (fun _ _ _ _=>.void) .nil⟩
  ·exact⟨[],U,ρ,⟨by simpa using H,fun _ _ h=>h,fun _ _=>rfl⟩,.st hf (B78 hf hm) .nil⟩
 cases v<;>simp only[Jd]at hk<;>first
  |exact hk.elim
  |exact flat rfl hk
  |skip
 rename_i g p off len;obtain⟨s,xs,hg,hk⟩:=Bv hk;have hk2:Em [] h none (.view g p off len) fun c _ h'=>(∃s xs,c=.own s xs)∧K c h':=by
  simp only[Em];refine J0 hg ?_;rw[Ir]at hk⊢;exact⟨⟨_,_,rfl⟩,hk⟩
 obtain⟨c,S',h',ρ',⟨⟨s',xs',rfl⟩,hk3⟩,H',_,hmv,_⟩:=N9 (S:=[]) (ts:=#[]) H (fun d s hd=>by simp[A4]at hd) hm hk2;refine⟨_,h',hk3,fun t ht=>?_⟩;rcases Z2 ht with⟨s,xs,e,rfl⟩|⟨hne,_⟩|⟨hne,_⟩|⟨hne,_⟩
 ·rw[←e]at*
  rw[←e];exact⟨[.own s' xs'],_,_,⟨H',hmv,fun j hj=>by simp[Jg,Nat.ne_of_lt hj]⟩,.own (by simp[Jg]) .nil⟩
 ·rcases hne with h|h<;>cases h
 ·exact absurd rfl (hne _ _)
 ·exact absurd rfl (hne _ _)
theorem Y9.refl(H:Bp x w h n L U ρ):Y9 x w n h L U ρ h [] U ρ:=⟨by simpa using H,fun _ _ h=>h,fun _ _=>rfl⟩
theorem Y9.trans{h1:Ah}{D D2:List AV}{U1 U2:Nat→Value}{ρ1 ρ2:Option Nat→Am}(g1:Y9 x w n h L U ρ h1 D U1 ρ1)(g2:Y9 x w n h1 (L++D) U1 ρ1 h2 D2 U2 ρ2):Y9 x w n h L U ρ h2 (D++D2) U2 ρ2:=
 ⟨by rw[←List.append_assoc];exact g2.rel,fun v u hm=>g2.mov v u (g1.mov v u hm),fun j hj=>by rw[g2.keep j (by simp;omega),g1.keep j hj]⟩
theorem Qy.append{D D2:List AV}{V:Nat→Value}{ts ts2:List AV}{us us2:List Value}(h1:Qy x D V ts us)(h2:Qy x D2 (fun i=>V (D.length+i)) ts2 us2):Qy x (D++D2) V (ts++ts2) (us++us2):=by
 induction h1 with
 |nil=>simpa using h2
 |own hu hr ih=>exact .own hu (ih (by
   refine h2.congr fun i _=>?_;simp only[List.length_cons];congr 1;omega))
 |st hf hs hr ih=>exact .st hf hs (ih h2)
theorem Uk:∀{vs:List AV} {us:List Value} {h:Ah} {L:List AV} {U:Nat→Value} {ρ:Option Nat→Am} {K:List AV→Ah→Prop},Bp x w h n L U ρ→vs.length=us.length→(∀(i:Nat) v u,vs[i]? =some v→us[i]? =some u→Mov x w h n ρ v u)→J8 h vs K→
 ∃cs h',K cs h'∧∀ts,A4i cs ts→ts.length=us.length∧∃D U' ρ',Y9 x w n h L U ρ h' D U' ρ'∧Qy x D (fun i=>U' (L.length+i)) ts us
 |[],us,h,L,U,ρ,K,H,hl,hm,hk=>by
  obtain rfl:us=[]:=List.eq_nil_of_length_eq_zero (by simpa using hl.symm);refine⟨[],h,hk,fun ts ht=>?_⟩;cases ts with
  |cons t ts=>exact ht.elim
  |nil=>exact⟨rfl,[],U,ρ,.refl H,.nil⟩
 |v::vs,[],h,L,U,ρ,K,H,hl,hm,hk=>by simp at hl
 |v::vs,u::us,h,L,U,ρ,K,H,hl,hm,hk=>by
  simp only[J8]at hk;obtain⟨c,h1,hk,g1⟩:=Wn H (hm 0 v u rfl rfl) hk;have hex:∃cs h',K (c::cs) h'∧∀(D:List AV) (U1:Nat→Value) (ρ1:Option Nat→Am),Y9 x w n h L U ρ h1 D U1 ρ1→∀ts,A4i cs ts→ts.length=us.length∧∃D2 U' ρ',Y9 x w n h1 (L++D) U1 ρ1 h' D2 U' ρ'∧Qy x D2 (fun i=>U' ((L++D).length+i)) ts us:=by
   have form:∀{vs:List AV} {h:Ah} {K:List AV→Ah→Prop},J8 h vs K→∃cs h',K cs h'∧∀K':List AV→Ah→Prop,K' cs h'→J8 h vs K':=by
    have one:∀{v:AV} {h:Ah} {K:AV→Ah→Prop},Jd h v K→∃c h',K c h'∧∀K':AV→Ah→Prop,K' c h'→Jd h v K':=by
     intro v h K hk;cases v<;>simp only[Jd]at hk<;>first
      |exact hk.elim
      |exact⟨_,_,hk,fun K' h=>h⟩
      |skip
     obtain⟨s,xs,hg,hk⟩:=Bv hk;rw[Ir]at hk;exact⟨_,_,hk,fun K' h=>by simp only[Jd];refine J0 hg ?_;rw[Ir];exact h⟩
    intro vs;induction vs with
    |nil=>intro h K hk;exact⟨_,_,hk,fun K' h=>h⟩
    |cons v vs ih=>
     intro h K hk;simp only[J8]at hk;obtain⟨c,h1,hk,t1⟩:=one hk;obtain⟨cs,h2,hk,t2⟩:=ih hk;exact⟨_,_,hk,fun K' h=>by simp only[J8];exact t1 _ (t2 (fun cs h''=>K' (c::cs) h'') h)⟩
   obtain⟨cs,h',hk,t⟩:=form hk;refine⟨cs,h',hk,fun D U1 ρ1 G ts hts=>?_⟩;obtain⟨cs',h'',⟨e1,e2⟩,g2⟩:=Uk (K:=fun a b=>a=cs∧b=h') G.rel (by simpa using hl) (fun i v u hv hu=>G.mov _ _ (hm (i+1) v u (by simpa using hv) (by simpa using hu))) (t _ ⟨rfl,rfl⟩);subst e1;subst e2;exact g2 ts hts
  obtain⟨cs,h',hk,g2⟩:=hex;refine⟨_,h',hk,fun ts ht=>?_⟩;cases ts with
  |nil=>exact ht.elim
  |cons t ts=>
   obtain⟨D,U1,ρ1,G1,O1⟩:=g1 t ht.1;obtain⟨hlen,D2,U2,ρ2,G2,O2⟩:=g2 D U1 ρ1 G1 ts ht.2;refine⟨by simp[hlen],D++D2,U2,ρ2,G1.trans G2,?_⟩;have O1':Qy x D (fun i=>U2 (L.length+i)) [t] [u]:=O1.congr fun i hi=>G2.keep _ (by simp;omega);exact O1'.append (O2.congr fun i _=>by simp only[List.length_append];congr 1;omega)
end
section
variable{P:Program}{E:Env}{x:Ctx}{w w':World}{h h2:Ah}{n n':Nat→Prop}{L:List AV}{U:Nat→Value}{ρ:Option Nat→Am}{id:Nat}{S:Af}
inductive B08(x:Ctx):List AV→(Nat→Value)→AV→Value→Prop
 |agg {D:List AV} {V:Nat→Value} {ts:List AV} {us:Array Value} (hl:us.size=ts.length) (ho:Qy x D V ts us.toList):B08 x D V (.agg ts) (.agg us)
 |leaf {D:List AV} {V:Nat→Value} {t:AV} {u:Value} (h1:∀ts,t≠.agg ts) (h2:∀ts,t≠.tup ts) (ho:Qy x D V [t] [u]):B08 x D V t u
inductive W6(x:Ctx):List AV→(Nat→Value)→List AV→List Value→Prop
 |nil {V:Nat→Value}:W6 x [] V [] []
 |cons {D D2:List AV} {V:Nat→Value} {t:AV} {ts:List AV} {u:Value} {us:List Value} (h1:B08 x D V t u) (h2:W6 x D2 (fun i=>V (D.length+i)) ts us):W6 x (D++D2) V (t::ts) (u::us)
theorem B08.congr{D:List AV}{V V':Nat→Value}{t:AV}{u:Value}(ho:B08 x D V t u)(hv:∀i,i<D.length→V' i=V i):B08 x D V' t u:=by
 cases ho with
 |agg hl ho=>exact .agg hl (ho.congr hv)
 |leaf h1 h2 ho=>exact .leaf h1 h2 (ho.congr hv)
theorem W6.congr{D:List AV}{V V':Nat→Value}{ts:List AV}{us:List Value}(ho:W6 x D V ts us)(hv:∀i,i<D.length→V' i=V i):W6 x D V' ts us:=by
 induction ho generalizing V' with
 |nil=>exact .nil
 |cons h1 h2 ih=>exact .cons (h1.congr fun i hi=>hv i (by simp;omega)) (ih fun i hi=>hv _ (by simp;omega))
theorem Sl{v:AV}{h:Ah}{K:AV→Ah→Prop}(hk:Jd h v K):∃c h',K c h'∧(∀ts,c≠.agg ts)∧∀K':AV→Ah→Prop,K' c h'→Jd h v K':=by
 cases v<;>simp only[Jd]at hk<;>first
  |exact hk.elim
  |exact⟨_,_,hk,by simp,fun K' h=>h⟩
  |skip
 obtain⟨s,xs,hg,hk⟩:=Bv hk;rw[Ir]at hk;exact⟨_,_,hk,by simp,fun K' h=>by simp only[Jd];refine J0 hg ?_;rw[Ir];exact h⟩
theorem V3:∀{vs:List AV} {h:Ah} {K:List AV→Ah→Prop},J8 h vs K→∃cs h',K cs h'∧∀K':List AV→Ah→Prop,K' cs h'→J8 h vs K'
 |[],h,K,hk=>⟨_,_,hk,fun K' h=>h⟩
 |v::vs,h,K,hk=>by
  simp only[J8]at hk;obtain⟨c,h1,hk,_,t1⟩:=Sl hk;obtain⟨cs,h2,hk,t2⟩:=V3 hk;exact⟨_,_,hk,fun K' h=>by simp only[J8];exact t1 _ (t2 (fun cs h''=>K' (c::cs) h'') h)⟩
theorem Zn{v:AV}(hv:∀cs,v≠.agg cs){h:Ah}{K:AV→Ah→Prop}:Rg h v K=Jd h v K:=by
 cases v<;>first|rfl|exact absurd rfl (hv _)
theorem B5z{v:AV}{h:Ah}{K:AV→Ah→Prop}(hk:Rg h v K):∃c h',K c h'∧∀K':AV→Ah→Prop,K' c h'→Rg h v K':=by
 by_cases hv:∃cs,v=.agg cs
 ·obtain⟨cs,rfl⟩:=hv
  simp only[Rg]at hk⊢;obtain⟨cs',h',hk,t⟩:=V3 hk;exact⟨_,_,hk,fun K' h=>t (fun cs' h'=>K' (.agg cs') h') h⟩
 ·have e:∀K,Rg h v K=Jd h v K:=fun K=>Zn fun cs h=>hv ⟨cs,h⟩
  simp only[e]at hk⊢;obtain⟨c,h',hk,_,t⟩:=Sl hk;exact⟨_,_,hk,t⟩
theorem Y2:∀{vs:List AV} {h:Ah} {K:List AV→Ah→Prop},P3 h vs K→∃cs h',K cs h'∧∀K':List AV→Ah→Prop,K' cs h'→P3 h vs K'
 |[],h,K,hk=>⟨_,_,hk,fun K' h=>h⟩
 |v::vs,h,K,hk=>by
  simp only[P3]at hk;obtain⟨c,h1,hk,t1⟩:=B5z hk;obtain⟨cs,h2,hk,t2⟩:=Y2 hk;exact⟨_,_,hk,fun K' h=>by simp only[P3];exact t1 _ (t2 (fun cs h''=>K' (c::cs) h'') h)⟩
theorem B0h{v:AV}{u:Value}{K:AV→Ah→Prop}(H:Bp x w h n L U ρ)(hm:A89 x w h n ρ v u)(hk:Rg h v K):
 ∃c h',K c h'∧∀t,Vw c t→∃D U' ρ',Y9 x w n h L U ρ h' D U' ρ'∧B08 x D (fun i=>U' (L.length+i)) t u:=by
 by_cases hv:∃cs,v=.agg cs
 ·obtain⟨cs,rfl⟩:=hv
  obtain⟨us,rfl,hl,hc⟩:∃us:Array Value,u=.agg us∧us.size=cs.length∧∀(i:Nat) c,cs[i]? =some c→Mov x w h n ρ c (us.getD i undef):=hm;simp only[Rg]at hk;obtain⟨cs',h',hk,g⟩:=Uk (us:=us.toList) H (by simpa using hl.symm) (fun i v u hv hu=>by
   have:=hc i v hv;have e:us.getD i undef=u:=by
    have:us[i]? =some u:=by simpa using hu
    simp[Array.getD_eq_getD_getElem?,this]
   rwa[e]at this) hk
  refine⟨_,_,hk,fun t ht=>?_⟩;cases t<;>first|exact ht.elim|skip
  rename_i ts;obtain⟨hlen,D,U',ρ',G,O⟩:=g ts ht;exact⟨D,U',ρ',G,.agg (by simpa using hlen.symm) O⟩
 ·have hv':∀cs,v≠.agg cs:=fun cs h=>hv ⟨cs,h⟩
  rw[Zn hv']at hk;have hfn:∀f cs,v≠.fn f cs:=by
   rintro f cs rfl;exact hk
  have hm':Mov x w h n ρ v u:=by rw[←So hv' hfn];exact hm
  obtain⟨c,h',hk0,hna,tr⟩:=Sl hk;obtain⟨c',h'',⟨e1,e2⟩,g⟩:=Wn (K:=fun a b=>a=c∧b=h') H hm' (tr _ ⟨rfl,rfl⟩);subst e1;subst e2;refine⟨_,_,hk0,fun t ht=>?_⟩;have hle:Yg c' t:=by
   cases c'<;>first|exact ht|exact absurd rfl (hna _)
  obtain⟨D,U',ρ',G,O⟩:=g t hle;refine⟨D,U',ρ',G,.leaf ?_ ?_ O⟩<;>rintro ts rfl<;>cases O with
   |st hf=>cases hf
theorem Vl:∀{vs:List AV} {us:List Value} {h:Ah} {L:List AV} {U:Nat→Value} {ρ:Option Nat→Am} {K:List AV→Ah→Prop},Bp x w h n L U ρ→vs.length=us.length→(∀(i:Nat) v u,vs[i]? =some v→us[i]? =some u→A89 x w h n ρ v u)→P3 h vs K→
 ∃cs h',K cs h'∧∀ts,A81 cs ts→∃D U' ρ',Y9 x w n h L U ρ h' D U' ρ'∧W6 x D (fun i=>U' (L.length+i)) ts us
 |[],us,h,L,U,ρ,K,H,hl,hm,hk=>by
  obtain rfl:us=[]:=List.eq_nil_of_length_eq_zero (by simpa using hl.symm);refine⟨[],h,hk,fun ts ht=>?_⟩;cases ts with
  |cons t ts=>exact ht.elim
  |nil=>exact⟨[],U,ρ,.refl H,.nil⟩
 |v::vs,[],h,L,U,ρ,K,H,hl,hm,hk=>by simp at hl
 |v::vs,u::us,h,L,U,ρ,K,H,hl,hm,hk=>by
  simp only[P3]at hk;obtain⟨c,h1,hk,g1⟩:=B0h H (hm 0 v u rfl rfl) hk;obtain⟨cs,h',hk,tr⟩:=Y2 hk;refine⟨_,h',hk,fun ts ht=>?_⟩;cases ts with
  |nil=>exact ht.elim
  |cons t ts=>
   obtain⟨D,U1,ρ1,G1,O1⟩:=g1 t ht.1;obtain⟨cs',h'',⟨e1,e2⟩,g2⟩:=Vl (K:=fun a b=>a=cs∧b=h') G1.rel (by simpa using hl) (fun i v u hv hu=>A89.step G1.mov (hm (i+1) v u (by simpa using hv) (by simpa using hu))) (tr _ ⟨rfl,rfl⟩);subst e1;subst e2;obtain⟨D2,U2,ρ2,G2,O2⟩:=g2 ts ht.2;refine⟨D++D2,U2,ρ2,G1.trans G2,.cons (O1.congr fun i hi=>G2.keep _ (by simp;omega)) (O2.congr fun i _=>by simp only[List.length_append];congr 1;omega)⟩
def A6p(D:List AV):Prop:=∀(i:Nat) c,D[i]? =some c→∃s xs,c=.own s xs
theorem Qy.allOwn{D:List AV}{V:Nat→Value}{ts:List AV}{us:List Value}(ho:Qy x D V ts us):A6p D:=by
 induction ho with
 |nil=>intro i c h;simp at h
 |own hu hr ih=>
  intro i c h;cases i with
  |zero=>simp only[List.getElem?_cons_zero,Option.some.injEq]at h;exact⟨_,_,h.symm⟩
  |succ i=>exact ih i c (by simpa using h)
 |st hf hs hr ih=>exact ih
theorem B08.allOwn{D:List AV}{V:Nat→Value}{t:AV}{u:Value}(ho:B08 x D V t u):A6p D:=by
 cases ho with
 |agg hl ho=>exact ho.allOwn
 |leaf h1 h2 ho=>exact ho.allOwn
theorem W6.allOwn{D:List AV}{V:Nat→Value}{ts:List AV}{us:List Value}(ho:W6 x D V ts us):A6p D:=by
 induction ho with
 |nil=>intro i c h;simp at h
 |cons h1 h2 ih=>
  intro i c h;rw[List.getElem?_append]at h;split at h
  ·exact h1.allOwn i c h
  ·exact ih _ c h
def Rm(x:Ctx)(D:List AV)(V:Nat→Value)(id:Nat)(c:AV)(u:Value):Prop:=
 (∃i s xs,D[i]? =some (.own s xs)∧c=.view (id+i) [] 0 xs.length∧V i=u)∨(c.flat=true∧C0w x c u)
theorem Rm.shift{D D2:List AV}{V:Nat→Value}{id:Nat}{c:AV}{u:Value}(hn:Rm x D2 (fun i=>V (D.length+i)) (id+D.length) c u):Rm x (D++D2) V id c u:=by
 rcases hn with⟨i,s,xs,h1,h2,h3⟩|h
 ·refine .inl ⟨D.length+i,s,xs,?_,by rw[h2];congr 1;omega,h3⟩
  rw[List.getElem?_append_right (by omega)];simpa using h1
 ·exact .inr h
theorem Rm.left{D D2:List AV}{V:Nat→Value}{id:Nat}{c:AV}{u:Value}(hn:Rm x D V id c u):Rm x (D++D2) V id c u:=by
 rcases hn with⟨i,s,xs,h1,h2,h3⟩|h
 ·refine .inl ⟨i,s,xs,?_,h2,h3⟩
  rw[List.getElem?_append];split
  ·exact h1
  ·rename_i hlt
   rw[List.getElem?_eq_none (by omega)]at h1;cases h1
 ·exact .inr h
def A07(os:Ah)(id:Nat)(D:List AV):Prop:=∀g r,A4 os g=some r↔∃i,g=id+i∧D[i]? =some r
theorem A07.append{os os2:Ah}{id:Nat}{D D2:List AV}(h1:A07 os id D)(h2:A07 os2 (id+D.length) D2):A07 (os++os2) id (D++D2):=by
 intro g r;rw[Be];cases ho:A4 os g with
 |some r'=>
  obtain⟨i,e1,e2⟩:=(h1 g r').1 ho;have hi:i<D.length:=by
   rcases Nat.lt_or_ge i D.length with h|h
   ·exact h
   ·rw[List.getElem?_eq_none h]at e2;cases e2
  simp only[Option.some.injEq];constructor
  ·rintro rfl;exact⟨i,e1,by rw[List.getElem?_append_left hi];exact e2⟩
  ·rintro⟨j,e3,e4⟩
   have:j=i:=by omega
   subst this;rw[List.getElem?_append_left hi,e2]at e4;exact Option.some.inj e4
 |none=>
  simp only;rw[h2 g r];constructor
  ·rintro⟨i,e1,e2⟩
   exact⟨D.length+i,by omega,by rw[List.getElem?_append_right (by omega)];simpa using e2⟩
  ·rintro⟨j,e3,e4⟩
   rw[List.getElem?_append]at e4;split at e4
   ·have:=(h1 g r).2 ⟨j,e3,e4⟩
    rw[ho]at this;cases this
   ·exact⟨j - D.length,by omega,e4⟩
theorem Ja:∀{ts:List AV} {D:List AV} {V:Nat→Value} {us:List Value} {id:Nat} {K:List AV→Ah→Nat→Prop},Qy x D V ts us→B8 id ts K→
 ∃cs os,K cs os (id+D.length)∧A07 os id D∧cs.length=us.length∧∀(j:Nat) c u,cs[j]? =some c→us[j]? =some u→Rm x D V id c u
 |[],D,V,us,id,K,ho,hk=>by
  cases ho;exact⟨[],[],hk,fun g r=>by simp[A4],rfl,fun j c u h=>by simp at h⟩
 |t::ts,D,V,us,id,K,ho,hk=>by
  cases ho with
  |own hu hr=>
   rename_i D us s xs u;simp only[B8]at hk;obtain⟨cs,os,hk,h1,h2,h3⟩:=Ja hr hk;have e:id+1+D.length=id+(AV.own s xs::D).length:=by simp;omega
   rw[e]at hk;refine⟨_,_,hk,?_,by simp[h2],fun j c u' hc hu'=>?_⟩
   ·have:A07 [(id,AV.own s xs)] id [AV.own s xs]:=by
     intro g r;rw[Ac];by_cases e:id=g
     ·subst e
      rw[if_pos rfl];constructor
      ·intro h;exact⟨0,rfl,h⟩
      ·rintro⟨i,e1,e2⟩
       have:i=0:=by omega
       subst this;exact e2
     ·rw[if_neg e]
      simp only[A4];constructor
      ·intro h;cases h
      ·rintro⟨i,e1,e2⟩
       cases i with
       |zero=>exact absurd (by omega) e
       |succ i=>simp at e2
    exact A07.append (D:=[AV.own s xs]) this h1
   ·cases j with
    |zero=>
     simp only[List.getElem?_cons_zero,Option.some.injEq]at hc hu';subst hc;subst hu';exact .inl ⟨0,s,xs,rfl,rfl,hu⟩
    |succ j=>
     have:=h3 j c u' (by simpa using hc) (by simpa using hu');refine Rm.shift (D:=[AV.own s xs]) (V:=V) ?_;rcases this with⟨i,s',xs',a1,a2,a3⟩|a
     ·exact .inl ⟨i,s',xs',a1,a2,by rw[←a3];simp only[List.length_cons,List.length_nil];congr 1;omega⟩
     ·exact .inr a
  |st hf hs hr=>
   rename_i us u;have e:∀K,B8 id (t::ts) K=B8 id ts fun cs os n=>K (t::cs) os n:=by
    intro K;cases t<;>first|rfl|cases hf
   rw[e]at hk;obtain⟨cs,os,hk,h1,h2,h3⟩:=Ja hr hk;refine⟨_,_,hk,h1,by simp[h2],fun j c u' hc hu'=>?_⟩;cases j with
   |zero=>
    simp only[List.getElem?_cons_zero,Option.some.injEq]at hc hu';subst hc;subst hu';exact .inr ⟨hf,hs⟩
   |succ j=>exact h3 j c u' (by simpa using hc) (by simpa using hu')
inductive Lb(x:Ctx)(D:List AV)(V:Nat→Value)(id:Nat):AV→Value→Prop
 |agg {cs:List AV} {us:Array Value} (hl:us.size=cs.length) (hc:∀(j:Nat) c u,cs[j]? =some c→us[j]? =some u→Rm x D V id c u):Lb x D V id (.agg cs) (.agg us)
 |leaf {c:AV} {u:Value} (hc:Rm x D V id c u):Lb x D V id c u
theorem Lb.shift{D D2:List AV}{V:Nat→Value}{id:Nat}{c:AV}{u:Value}(hn:Lb x D2 (fun i=>V (D.length+i)) (id+D.length) c u):Lb x (D++D2) V id c u:=by
 cases hn with
 |agg hl hc=>exact .agg hl fun j c u h1 h2=>(hc j c u h1 h2).shift
 |leaf hc=>exact .leaf hc.shift
theorem Lb.left{D D2:List AV}{V:Nat→Value}{id:Nat}{c:AV}{u:Value}(hn:Lb x D V id c u):Lb x (D++D2) V id c u:=by
 cases hn with
 |agg hl hc=>exact .agg hl fun j c u h1 h2=>(hc j c u h1 h2).left
 |leaf hc=>exact .leaf hc.left
theorem Vi:∀{ts:List AV} {D:List AV} {V:Nat→Value} {us:List Value} {id:Nat} {K:List AV→Ah→Nat→Prop},W6 x D V ts us→Bw id ts K→
 ∃cs os,K cs os (id+D.length)∧A07 os id D∧cs.length=us.length∧∀(j:Nat) c u,cs[j]? =some c→us[j]? =some u→Lb x D V id c u
 |[],D,V,us,id,K,ho,hk=>by
  cases ho;exact⟨[],[],hk,fun g r=>by simp[A4],rfl,fun j c u h=>by simp at h⟩
 |t::ts,D,V,us,id,K,ho,hk=>by
  cases ho with
  |cons h1 h2=>
   rename_i D D2 u us;have gen:∀{v:AV} {os:Ah},A07 os id D→Lb x D V id v u→(Bw (id+D.length) ts fun vs' os' n'=>K (v::vs') (os++os') n')→∃cs os,K cs os (id+(D++D2).length)∧A07 os id (D++D2)∧cs.length=(u::us).length∧∀(j:Nat) c u',cs[j]? =some c→(u::us)[j]? =some u'→Lb x (D++D2) V id c u':=by
    intro v os hos hnv hk;obtain⟨cs,os2,hk,a1,a2,a3⟩:=Vi h2 hk;rw[Nat.add_assoc,←List.length_append]at hk;refine⟨_,_,hk,hos.append a1,by simp[a2],fun j c u' hc hu=>?_⟩;cases j with
    |zero=>
     simp only[List.getElem?_cons_zero,Option.some.injEq]at hc hu;subst hc;subst hu;exact hnv.left
    |succ j=>exact(a3 j c u' (by simpa using hc) (by simpa using hu)).shift
   cases h1 with
   |agg hl ho=>
    rename_i ts' us';simp only[Bw]at hk;obtain⟨cs,os,hk,a1,a2,a3⟩:=Ja ho hk;exact gen a1 (.agg (by simpa using a2.symm) fun j c u h1 h2=>a3 j c u h1 (by simpa using h2)) hk
   |leaf b1 b2 ho=>
    have hk':B8 id [t] fun cs os n=>∀v,cs=[v]→Bw n ts fun vs' os' n'=>K (v::vs') (os++os') n':=by
     cases ho with
     |own hu hr=>cases hr;intro v hv;cases hv;exact hk
     |st hf hs hr=>
      cases hr;have e:∀K:List AV→Ah→Nat→Prop,B8 id [t] K=K [t] [] id:=by
       intro K;cases t<;>first|rfl|cases hf
      rw[e];intro v hv;cases hv;cases t<;>first|exact hk|cases hf
    obtain⟨cs,os,hk,a1,a2,a3⟩:=Ja ho hk';match cs,a2,hk,a3 with
    |[v],_,hk,a3=>exact gen a1 (.leaf (a3 0 v u rfl rfl)) (hk v rfl)
end
section
variable{P:Program}{E:Env}{x:Ctx}{w w':World}{h h2:Ah}{n n':Nat→Prop}{L:List AV}{U:Nat→Value}{ρ:Option Nat→Am}{id:Nat}{S:Af}
theorem B52{t:AV}{u:Value}{D:List AV}{V:Nat→Value}{K:AV→Ah→Prop}(ho:B08 x D V t u)(hk:Ib id t K):∃v os,K v os∧A07 os id D∧Lb x D V id v u∧D.length≤16:=by
 cases ho with
 |agg hl ho=>
  rename_i ts us;have hk':B8 id ts fun cs' os n=>leN n (id+16) (K (.agg cs') os):=hk;obtain⟨cs,os,hk,a1,a2,a3⟩:=Ja ho hk';obtain⟨e,hk⟩:=Bj hk;exact⟨_,_,hk,a1,.agg (by simpa using a2.symm) (fun j c u h1 h2=>a3 j c u h1 (by simpa using h2)),by omega⟩
 |leaf b1 b2 ho=>
  have hk':B8 id [t] fun cs os n=>∀v,cs=[v]→K v os:=by
   cases ho with
   |own hu hr=>intro v hv;cases hv;exact hk
   |st hf hs hr=>
    have e:∀K:List AV→Ah→Nat→Prop,B8 id [t] K=K [t] [] id:=by
     intro K;cases t<;>first|rfl|cases hf
    rw[e];intro v hv;cases hv;cases t<;>first|exact hk|cases hf
  obtain⟨cs,os,hk,a1,a2,a3⟩:=Ja ho hk';have hD:D.length≤16:=by
   cases ho with
   |own hu hr=>cases hr;simp
   |st hf hs hr=>cases hr;simp
  match cs,a2,hk,a3 with
  |[v],_,hk,a3=>exact⟨v,os,hk v rfl,a1,.leaf (a3 0 v u rfl rfl),hD⟩
theorem Xz{ts:List AV}{us:List Value}{D:List AV}{V:Nat→Value}{K:AV→Ah→Prop}(ho:W6 x D V ts us)(hk:Ib id (.tup ts) K):
 ∃vs os,K (.tup vs) os∧A07 os id D∧vs.length=us.length∧(∀(j:Nat) c u,vs[j]? =some c→us[j]? =some u→Lb x D V id c u)∧D.length≤16:=by
 have hk':Bw id ts fun vs' os n=>leN n (id+16) (K (.tup vs') os):=hk;obtain⟨cs,os,hk,a1,a2,a3⟩:=Vi ho hk';obtain⟨e,hk⟩:=Bj hk;exact⟨_,_,hk,a1,a2,a3,by omega⟩
def C7l(x:Ctx)(w:World)(hy:Ah)(ρy:Option Nat→Am)(D:List AV)(V:Nat→Value)(id:Nat):Prop:=
 ∀(i:Nat) c,D[i]? =some c→A4 hy (id+i)=some c∧∃π,Rep x w π c (V i)∧ρy (some (id+i)) []=π []
theorem Rm.srep{D:List AV}{V:Nat→Value}{hy:Ah}{ny:Nat→Prop}{ρy:Option Nat→Am}{c:AV}{u:Value}(hn:Rm x D V id c u)(hl:C7l x w hy ρy D V id):Az x w hy ny ρy c u:=by
 rcases hn with⟨i,s,xs,h1,rfl,rfl⟩|⟨_,h⟩
 ·obtain⟨a,π,b,e⟩:=hl i _ h1
  exact B74 b e a
 ·exact h _ _ _ _
theorem Lb.srep{D:List AV}{V:Nat→Value}{hy:Ah}{ny:Nat→Prop}{ρy:Option Nat→Am}{c:AV}{u:Value}(hn:Lb x D V id c u)(hl:C7l x w hy ρy D V id):Az x w hy ny ρy c u:=by
 cases hn with
 |agg hs hc=>
  rename_i cs us;refine .agg hs fun i c hi=>?_;have hlt:i<us.size:=by
   rw[hs];rcases Nat.lt_or_ge i cs.length with h|h
   ·exact h
   ·rw[List.getElem?_eq_none h]at hi;cases hi
  have hu:us[i]? =some us[i]:=by simp[hlt]
  have e:us.getD i undef=us[i]:=by simp[Array.getD_eq_getD_getElem?,hlt]
  rw[e];exact(hc i c _ hi hu).srep hl
 |leaf hc=>exact hc.srep hl
theorem Rm.good{D:List AV}{V:Nat→Value}{c:AV}{u:Value}(hn:Rm x D V id c u)(hD:D.length≤16):E4 (fun g _=>Du id g) c:=by
 rcases hn with⟨i,s,xs,h1,rfl,rfl⟩|⟨hf,h⟩
 ·have hi:i<D.length:=by
   rcases Nat.lt_or_ge i D.length with h|h
   ·exact h
   ·rw[List.getElem?_eq_none h]at h1;cases h1
  exact .view ⟨by omega,by omega⟩
 ·cases c<;>first|(cases hf;done)|constructor
theorem Lb.good{D:List AV}{V:Nat→Value}{c:AV}{u:Value}(hn:Lb x D V id c u)(hD:D.length≤16):E4 (fun g _=>Du id g) c:=by
 cases hn with
 |agg hs hc=>
  rename_i cs us;refine .agg fun c hm=>?_;obtain⟨i,hi⟩:=List.getElem?_of_mem hm;have hlt:i<us.size:=by
   rw[hs];rcases Nat.lt_or_ge i cs.length with h|h
   ·exact h
   ·rw[List.getElem?_eq_none h]at hi;cases hi
  exact(hc i c us[i] hi (by simp[hlt])).good hD
 |leaf hc=>exact hc.good hD
theorem Nj:∀{cs:List AV} {id:Nat} {K:List AV→Ah→Nat→Prop},A7 cs→B8 id cs K→B8 id cs fun cs' os m=>(A7 cs'∧∀g r,A4 os g=some r→r.noRd)∧K cs' os m
 |[],id,K,hn,hk=>⟨⟨trivial,by simp[A4]⟩,hk⟩
 |c::cs,id,K,hn,hk=>by
  by_cases hc:∃s xs,c=.own s xs
  ·obtain⟨s,xs,rfl⟩:=hc
   simp only[B8]at hk⊢;obtain⟨cs',os,m,⟨⟨a1,a2⟩,hk⟩,_,t⟩:=Ck (Nj hn.2 hk);refine t _ ⟨⟨⟨trivial,a1⟩,fun g r hr=>?_⟩,hk⟩;rw[Ac]at hr;by_cases e:id=g
   ·rw[if_pos e]at hr;simp only[Option.some.injEq]at hr;subst hr;exact hn.1
   ·rw[if_neg e]at hr;exact a2 g r hr
  ·have e:∀K,B8 id (c::cs) K=B8 id cs fun cs os n=>K (c::cs) os n:=by
    intro K;cases c<;>first|rfl|exact absurd ⟨_,_,rfl⟩ hc
   rw[e]at hk⊢;obtain⟨cs',os,m,⟨⟨a1,a2⟩,hk⟩,_,t⟩:=Ck (Nj hn.2 hk);exact t _ ⟨⟨⟨hn.1,a1⟩,a2⟩,hk⟩
theorem Ok:∀{cs:List AV} {id:Nat} {K:List AV→Ah→Nat→Prop},A7 cs→Bw id cs K→Bw id cs fun cs' os m=>(A7 cs'∧∀g r,A4 os g=some r→r.noRd)∧K cs' os m
 |[],id,K,hn,hk=>⟨⟨trivial,by simp[A4]⟩,hk⟩
 |v::vs,id,K,hn,hk=>by
  have app:∀{os os':Ah},(∀g r,A4 os g=some r→r.noRd)→(∀g r,A4 os' g=some r→r.noRd)→∀g r,A4 (os++os') g=some r→r.noRd:=by
   intro os os' h1 h2 g r hr;rw[Be]at hr;cases ho:A4 os g with
   |some r'=>rw[ho]at hr;simp only[Option.some.injEq]at hr;subst hr;exact h1 g _ ho
   |none=>rw[ho]at hr;exact h2 g r hr
  by_cases hc:∃cs,v=.agg cs
  ·obtain⟨cs,rfl⟩:=hc
   simp only[Bw]at hk⊢;obtain⟨cs',os,m,⟨⟨a1,a2⟩,hk⟩,_,t⟩:=Ck (Nj hn.1 hk);obtain⟨vs',os',m',⟨⟨b1,b2⟩,hk⟩,_,t2⟩:=D4 (Ok hn.2 hk);exact t _ (t2 _ ⟨⟨⟨a1,b1⟩,app a2 b2⟩,hk⟩)
  ·by_cases ho:∃s xs,v=.own s xs
   ·obtain⟨s,xs,rfl⟩:=ho
    simp only[Bw]at hk⊢;obtain⟨vs',os',m',⟨⟨b1,b2⟩,hk⟩,_,t2⟩:=D4 (Ok hn.2 hk);refine t2 _ ⟨⟨⟨trivial,b1⟩,app (os:=[(id,.own s xs)]) (fun g r hr=>?_) b2⟩,hk⟩;rw[Ac]at hr;by_cases e:id=g
    ·rw[if_pos e]at hr;simp only[Option.some.injEq]at hr;subst hr;exact hn.1
    ·rw[if_neg e]at hr;simp[A4]at hr
   ·have e:∀K,Bw id (v::vs) K=Bw id vs fun vs' os' n'=>K (v::vs') ([]++os') n':=by
     intro K;cases v<;>first|rfl|exact absurd ⟨_,_,rfl⟩ ho|exact absurd ⟨_,rfl⟩ hc
    rw[e]at hk⊢;obtain⟨vs',os',m',⟨⟨b1,b2⟩,hk⟩,_,t2⟩:=D4 (Ok hn.2 hk);exact t2 _ ⟨⟨⟨hn.1,b1⟩,b2⟩,hk⟩
theorem B8k{v:AV}{K:AV→Ah→Prop}(hn:v.noRd)(hk:Ib id v K):Ib id v fun v' os=>(v'.noRd∧∀g r,A4 os g=some r→r.noRd)∧K v' os:=by
 by_cases hc:∃cs,v=.agg cs
 ·obtain⟨cs,rfl⟩:=hc
  have hk':B8 id cs fun cs' os n=>leN n (id+16) (K (.agg cs') os):=hk;obtain⟨cs',os,m,⟨⟨a1,a2⟩,hk⟩,_,t⟩:=Ck (Nj hn hk');obtain⟨e,hk⟩:=Bj hk;exact t (fun cs' os n=>leN n (id+16) (((AV.agg cs').noRd∧∀g r,A4 os g=some r→r.noRd)∧K (.agg cs') os)) (F8 e ⟨⟨a1,a2⟩,hk⟩)
 ·by_cases ht:∃vs,v=.tup vs
  ·obtain⟨vs,rfl⟩:=ht
   have hk':Bw id vs fun vs' os n=>leN n (id+16) (K (.tup vs') os):=hk;obtain⟨cs',os,m,⟨⟨a1,a2⟩,hk⟩,_,t⟩:=D4 (Ok hn hk');obtain⟨e,hk⟩:=Bj hk;exact t (fun cs' os n=>leN n (id+16) (((AV.tup cs').noRd∧∀g r,A4 os g=some r→r.noRd)∧K (.tup cs') os)) (F8 e ⟨⟨a1,a2⟩,hk⟩)
  ·by_cases ho:∃s xs,v=.own s xs
   ·obtain⟨s,xs,rfl⟩:=ho
    refine⟨⟨trivial,fun g r hr=>?_⟩,hk⟩;rw[Ac]at hr;by_cases e:id=g
    ·rw[if_pos e]at hr;simp only[Option.some.injEq]at hr;subst hr;exact hn
    ·rw[if_neg e]at hr;simp[A4]at hr
   ·have e:∀K,Ib id v K=K v []:=by
     intro K;cases v<;>first|rfl|exact absurd ⟨_,_,rfl⟩ ho|exact absurd ⟨_,rfl⟩ hc|exact absurd ⟨_,rfl⟩ ht
    rw[e]at hk⊢;exact⟨⟨hn,by simp[A4]⟩,hk⟩
theorem Mg:∀{cs:List AV} {id:Nat} {K:List AV→Ah→Nat→Prop},A2 cs→B8 id cs K→B8 id cs fun cs' os m=>(A2 cs'∧∀g r,A4 os g=some r→r.free)∧K cs' os m
 |[],id,K,hn,hk=>⟨⟨trivial,by simp[A4]⟩,hk⟩
 |c::cs,id,K,hn,hk=>by
  by_cases hc:∃s xs,c=.own s xs
  ·obtain⟨s,xs,rfl⟩:=hc
   simp only[B8]at hk⊢;obtain⟨cs',os,m,⟨⟨a1,a2⟩,hk⟩,_,t⟩:=Ck (Mg hn.2 hk);refine t _ ⟨⟨⟨trivial,a1⟩,fun g r hr=>?_⟩,hk⟩;rw[Ac]at hr;by_cases e:id=g
   ·rw[if_pos e]at hr;simp only[Option.some.injEq]at hr;subst hr;exact hn.1
   ·rw[if_neg e]at hr;exact a2 g r hr
  ·have e:∀K,B8 id (c::cs) K=B8 id cs fun cs os n=>K (c::cs) os n:=by
    intro K;cases c<;>first|rfl|exact absurd ⟨_,_,rfl⟩ hc
   rw[e]at hk⊢;obtain⟨cs',os,m,⟨⟨a1,a2⟩,hk⟩,_,t⟩:=Ck (Mg hn.2 hk);exact t _ ⟨⟨⟨hn.1,a1⟩,a2⟩,hk⟩
theorem Nb:∀{cs:List AV} {id:Nat} {K:List AV→Ah→Nat→Prop},A2 cs→Bw id cs K→Bw id cs fun cs' os m=>(A2 cs'∧∀g r,A4 os g=some r→r.free)∧K cs' os m
 |[],id,K,hn,hk=>⟨⟨trivial,by simp[A4]⟩,hk⟩
 |v::vs,id,K,hn,hk=>by
  have app:∀{os os':Ah},(∀g r,A4 os g=some r→r.free)→(∀g r,A4 os' g=some r→r.free)→∀g r,A4 (os++os') g=some r→r.free:=by
   intro os os' h1 h2 g r hr;rw[Be]at hr;cases ho:A4 os g with
   |some r'=>rw[ho]at hr;simp only[Option.some.injEq]at hr;subst hr;exact h1 g _ ho
   |none=>rw[ho]at hr;exact h2 g r hr
  by_cases hc:∃cs,v=.agg cs
  ·obtain⟨cs,rfl⟩:=hc
   simp only[Bw]at hk⊢;obtain⟨cs',os,m,⟨⟨a1,a2⟩,hk⟩,_,t⟩:=Ck (Mg hn.1 hk);obtain⟨vs',os',m',⟨⟨b1,b2⟩,hk⟩,_,t2⟩:=D4 (Nb hn.2 hk);exact t _ (t2 _ ⟨⟨⟨a1,b1⟩,app a2 b2⟩,hk⟩)
  ·by_cases ho:∃s xs,v=.own s xs
   ·obtain⟨s,xs,rfl⟩:=ho
    simp only[Bw]at hk⊢;obtain⟨vs',os',m',⟨⟨b1,b2⟩,hk⟩,_,t2⟩:=D4 (Nb hn.2 hk);refine t2 _ ⟨⟨⟨trivial,b1⟩,app (os:=[(id,.own s xs)]) (fun g r hr=>?_) b2⟩,hk⟩;rw[Ac]at hr;by_cases e:id=g
    ·rw[if_pos e]at hr;simp only[Option.some.injEq]at hr;subst hr;exact hn.1
    ·rw[if_neg e]at hr;simp[A4]at hr
   ·have e:∀K,Bw id (v::vs) K=Bw id vs fun vs' os' n'=>K (v::vs') ([]++os') n':=by
     intro K;cases v<;>first|rfl|exact absurd ⟨_,_,rfl⟩ ho|exact absurd ⟨_,rfl⟩ hc
    rw[e]at hk⊢;obtain⟨vs',os',m',⟨⟨b1,b2⟩,hk⟩,_,t2⟩:=D4 (Nb hn.2 hk);exact t2 _ ⟨⟨⟨hn.1,b1⟩,b2⟩,hk⟩
theorem B8w{v:AV}{K:AV→Ah→Prop}(hn:v.free)(hk:Ib id v K):Ib id v fun v' os=>(v'.free∧∀g r,A4 os g=some r→r.free)∧K v' os:=by
 by_cases hc:∃cs,v=.agg cs
 ·obtain⟨cs,rfl⟩:=hc
  have hk':B8 id cs fun cs' os n=>leN n (id+16) (K (.agg cs') os):=hk;obtain⟨cs',os,m,⟨⟨a1,a2⟩,hk⟩,_,t⟩:=Ck (Mg hn hk');obtain⟨e,hk⟩:=Bj hk;exact t (fun cs' os n=>leN n (id+16) (((AV.agg cs').free∧∀g r,A4 os g=some r→r.free)∧K (.agg cs') os)) (F8 e ⟨⟨a1,a2⟩,hk⟩)
 ·by_cases ht:∃vs,v=.tup vs
  ·obtain⟨vs,rfl⟩:=ht
   have hk':Bw id vs fun vs' os n=>leN n (id+16) (K (.tup vs') os):=hk;obtain⟨cs',os,m,⟨⟨a1,a2⟩,hk⟩,_,t⟩:=D4 (Nb hn hk');obtain⟨e,hk⟩:=Bj hk;exact t (fun cs' os n=>leN n (id+16) (((AV.tup cs').free∧∀g r,A4 os g=some r→r.free)∧K (.tup cs') os)) (F8 e ⟨⟨a1,a2⟩,hk⟩)
  ·by_cases ho:∃s xs,v=.own s xs
   ·obtain⟨s,xs,rfl⟩:=ho
    refine⟨⟨trivial,fun g r hr=>?_⟩,hk⟩;rw[Ac]at hr;by_cases e:id=g
    ·rw[if_pos e]at hr;simp only[Option.some.injEq]at hr;subst hr;exact hn
    ·rw[if_neg e]at hr;simp[A4]at hr
   ·have e:∀K,Ib id v K=K v []:=by
     intro K;cases v<;>first|rfl|exact absurd ⟨_,_,rfl⟩ ho|exact absurd ⟨_,rfl⟩ hc|exact absurd ⟨_,rfl⟩ ht
    rw[e]at hk⊢;exact⟨⟨hn,by simp[A4]⟩,hk⟩
def Ly(h2:Ah)(f:Nat→Nat)(ρ:Option Nat→Am):Option Nat→Am
 |none=>Ax
 |some g=>match A4 h2 g with
  |some _=>ρ (some (f g))
  |none=>Ax
theorem Bp.rename(H:Bp x w h n [] U ρ)(f:Nat→Nat)(hf:∀g r,A4 h2 g=some r→A4 h (f g)=some r)(inj:∀a b,A4 h2 a≠none→A4 h2 b≠none→f a=f b→a=b)(hn':∀g r,A4 h2 g=some r→n' g)
 (keep:∀g,g<x.k→A4 h2 g≠none→f g=g)(kn:∀g,g<x.k→n' g):Bp x w h2 n' [] U (Ly h2 f ρ):=by
 have hpl:∀{k p q},Ly h2 f ρ k p=some q→∃g r,k=some g∧A4 h2 g=some r∧ρ (some (f g)) p=some q:=by
  intro k p q hq;cases k with
  |none=>simp[Ly,Ax]at hq
  |some g=>
   cases hl:A4 h2 g with
   |none=>simp[Ly,hl,Ax]at hq
   |some r=>simp only[Ly,hl]at hq;exact⟨g,r,rfl,hl,hq⟩
 refine⟨H.os,H.tape,H.output,H.size,H.frame,fun g r hl=>?_,fun j c hj=>by simp at hj,fun k p q hq=>?_,rfl,fun k p k' p' b o o' h1 h2=>?_,fun k p b o hq=>?_,hn',H.keeps,fun g r hg hl=>?_,kn,H.fixed,H.rsub,H.rlt⟩
 ·simp only[Ly,hl]
  exact H.root _ r (hf g r hl)
 ·obtain⟨g,r,rfl,h1,h3⟩:=hpl hq
  obtain⟨s,xs,h5⟩:=H.live _ _ _ h3;refine⟨s,xs,?_⟩;simp only[Ct]at h5⊢;rw[Cn h1];rw[Cn (hf g r h1)]at h5;exact h5
 ·obtain⟨g,r,rfl,a1,a2⟩:=hpl h1
  obtain⟨e,r',rfl,b1,b2⟩:=hpl h2;obtain⟨c1,c2⟩:=H.inj _ _ _ _ _ _ _ a2 b2;simp only[Option.some.injEq]at c1;exact⟨by rw[inj g e (by simp[a1]) (by simp[b1]) c1],c2⟩
 ·obtain⟨g,r,rfl,a1,a2⟩:=hpl hq
  exact H.mine _ _ _ _ a2
 ·simp only[Ly,hl]
  have:=keep g hg (by simp[hl]);rw[this];exact H.base g r hg (by rw[←this];exact hf g r hl)
theorem Lp:∀{ms:List Mz} {as:List AV} {d g:Nat} {K:Af→Ah→Nat→List Nat→Prop},Bn d g ms as K→
 ∃S h n mu,K S h n mu∧(∀e s,A4 S e=some s→d≤e∧e<d+ms.length)∧(g≤n∧(∀j,j∈mu→g≤j∧j<n)∧mu.Nodup)∧∀K',K' S h n mu→Bn d g ms as K'
 |[],[],d,g,K,hk=>⟨_,_,_,_,hk,by simp[A4],⟨Nat.le_refl _,by simp,by simp⟩,fun K' h=>h⟩
 |[],_::_,d,g,K,hk=>by simp[Bn]at hk
 |m::ms,[],d,g,K,hk=>by cases m<;>simp[Bn]at hk
 |m::ms,a::as,d,g,K,hk=>by
  have slot:∀{S:Af} {s0:B20},(∀e s,A4 S e=some s→d+1≤e∧e<d+1+ms.length)→∀e s,A4 ((d,s0)::S) e=some s→d≤e∧e<d+(m::ms).length:=by
   intro S s0 hS e s he;simp only[List.length_cons];rw[Ac]at he;by_cases e':d=e
   ·omega
   ·rw[if_neg e']at he;have:=hS e s he;omega
  have up:∀{n:Nat} {mu:List Nat} {g':Nat},g≤g'→(g'≤n∧(∀j,j∈mu→g'≤j∧j<n)∧mu.Nodup)→(g≤n∧(∀j,j∈mu→g≤j∧j<n)∧mu.Nodup):=by
   rintro n mu g' hg ⟨a1,a2,a3⟩;exact⟨by omega,fun j hj=>by have:=a2 j hj;omega,a3⟩
  have cons:∀{n:Nat} {mu:List Nat},(g+1≤n∧(∀j,j∈mu→g+1≤j∧j<n)∧mu.Nodup)→(g≤n∧(∀j,j∈g::mu→g≤j∧j<n)∧(g::mu).Nodup):=by
   rintro n mu ⟨a1,a2,a3⟩;refine⟨by omega,fun j hj=>?_,List.nodup_cons.2 ⟨fun h=>by have:=a2 g h;omega,a3⟩⟩;rcases List.mem_cons.1 hj with rfl|hj
   ·omega
   ·have:=a2 j hj;omega
  cases m with
  |rd ts=>
   simp only[Bn]at hk⊢;obtain⟨S,h,n,mu,hk,h1,h2,t⟩:=Lp hk;exact⟨_,_,_,_,hk,slot h1,h2,fun K' h'=>t (fun S h n mu=>K' ((d,⟨none,a⟩)::S) h n mu) h'⟩
  |co ts=>
   by_cases ho:∃s xs,a=.own s xs
   ·obtain⟨s,xs,rfl⟩:=ho
    simp only[Bn]at hk⊢;obtain⟨S,h,n,mu,hk,h1,h2,t⟩:=Lp hk;exact⟨_,_,_,_,hk,slot h1,up (by omega) h2,fun K' h'=>t (fun S h n mu=>K' ((d,⟨none,.view g [] 0 xs.length⟩)::S) ((g,.own s xs)::h) n mu) h'⟩
   ·by_cases hc:∃cs,a=.agg cs
    ·obtain⟨cs,rfl⟩:=hc
     simp only[Bn]at hk⊢;obtain⟨cs',os,m,hk,h0,t0⟩:=Ck hk;obtain⟨S,h,n,mu,hk,h1,h2,t⟩:=Lp hk;exact⟨_,_,_,_,hk,slot h1,up h0.1 h2,fun K' h'=>t0 _ (t (fun S h n mu=>K' ((d,⟨none,.agg cs'⟩)::S) (os++h) n mu) h')⟩
    ·have e:∀K,Bn d g (.co ts::ms) (a::as) K=Bn (d+1) g ms as fun S h n mu=>K ((d,⟨none,a⟩)::S) h n mu:=by
      intro K;cases a<;>first|rfl|exact absurd ⟨_,_,rfl⟩ ho|exact absurd ⟨_,rfl⟩ hc
     simp only[e]at hk⊢;obtain⟨S,h,n,mu,hk,h1,h2,t⟩:=Lp hk;exact⟨_,_,_,_,hk,slot h1,h2,fun K' h'=>t (fun S h n mu=>K' ((d,⟨none,a⟩)::S) h n mu) h'⟩
  |mv=>
   cases a<;>simp only[Bn]at hk⊢;rename_i s xs;obtain⟨S,h,n,mu,hk,h1,h2,t⟩:=Lp hk;exact⟨_,_,_,_,hk,slot h1,cons h2,fun K' h'=>t (fun S h n mu=>K' ((d,⟨none,.view g [] 0 xs.length⟩)::S) ((g,.own s xs)::h) n (g::mu)) h'⟩
  |mp=>
   cases a<;>simp only[Bn]at hk⊢;rename_i s xs;obtain⟨S,h,n,mu,hk,h1,h2,t⟩:=Lp hk;exact⟨_,_,_,_,hk,slot h1,cons h2,fun K' h'=>t (fun S h n mu=>K' ((d,⟨none,.bx g 0⟩)::S) ((g,.own s xs)::h) n (g::mu)) h'⟩
  |ma=>
   obtain⟨s,xs,rfl,hk2⟩:=A4q hk;clear hk;have hk:=hk2;clear hk2;simp only[Bn];obtain⟨S,h,n,mu,hk,h1,h2,t⟩:=Lp hk;exact⟨_,_,_,_,hk,slot h1,cons h2,fun K' h'=>t (fun S h n mu=>K' ((d,⟨none,.agg [.arg s g xs.length]⟩)::S) ((g,.own s xs)::h) n (g::mu)) h'⟩
def Vp(ts:Array Value)(r:ResultVar):Sem Value:=match r with
 |.tmp t=>pure (ts.getD t undef)
 |.cell ad t=>do loadVar t (←asAddr (ts.getD ad undef))
theorem C1l{t:TypeId}{q u:Value}(hload:(Instr.loadAt t q).run P w=.ok u w):(do loadVar t (←asAddr q):Sem Value).run P w=.ok u w:=by
 unfold Instr.loadAt at hload;cases q<;>first
  |(simp[Instr.sureAddr,stuck]at hload;done)
  |skip
 rename_i o;cases o with
 |none=>simp[Instr.sureAddr,stuck]at hload
 |some ad'=>simpa[Instr.sureAddr,asAddr]using hload
theorem O7(hT:TOk P E)(H:Bp x w h n L U ρ){S:Af}{a:Act}(hs:Aw x w h n ρ S a.tmps):∀{rs:List ResultVar} {K:List AV→Prop},Lc E S h rs K→
 ∃(vs:List AV) (us:List Value),K vs∧vs.length=us.length∧(∀(i:Nat) v u,vs[i]? =some v→us[i]? =some u→Az x w h n ρ v u)∧(rs.mapM (Vp a.tmps)).run P w=.ok us w
 |[],K,hk=>⟨[],[],hk,rfl,by simp,rfl⟩
 |r::rs,K,hk=>by
  have fin:∀{v:AV} {u:Value},Az x w h n ρ v u→(Vp a.tmps r).run P w=.ok u w→(Lc E S h rs fun vs=>K (v::vs))→
   ∃(vs:List AV) (us:List Value),K vs∧vs.length=us.length∧(∀(i:Nat) v u,vs[i]? =some v→us[i]? =some u→Az x w h n ρ v u)∧((r::rs).mapM (Vp a.tmps)).run P w=.ok us w:=by
   intro v u hv hr hk;obtain⟨vs,us,hk,hl,hvs,hrun⟩:=O7 hT H hs hk;refine⟨v::vs,u::us,hk,by simp[hl],fun i v' u' h1 h2=>?_,by simp only[List.mapM_cons,Sem.run_bind,hr,Result.andThen_ok,hrun,Sem.run_pure]⟩;cases i with
   |zero=>
    simp only[List.getElem?_cons_zero,Option.some.injEq]at h1 h2;subst h1;subst h2;exact hv
   |succ i=>exact hvs i v' u' (by simpa using h1) (by simpa using h2)
  cases r with
  |tmp t=>
   simp only[Lc]at hk;obtain⟨v,hk,hv⟩:=Cc hs (g:=none) trivial hk;have e:a.eval (.tmp t)=a.tmps.getD t undef:=by simp[Act.eval,Array.getD_eq_getD_getElem?]
   rw[e]at hv;exact fin hv (by simp[Vp]) hk
  |cell ad t=>
   simp only[Lc]at hk;obtain⟨p,hk,hp⟩:=Cc hs (g:=none) trivial hk;obtain⟨ty,ht,hk⟩:=B9 hk;obtain⟨v,u,hk,hload,hv⟩:=Zm H (gd:=none) trivial (hT t ty ht) hp hk;have e:a.eval (.tmp ad)=a.tmps.getD ad undef:=by simp[Act.eval,Array.getD_eq_getD_getElem?]
   rw[e]at hload;exact fin hv (C1l hload) hk
theorem A32{fn:Func}{ts:Array Value}{us:List Value}(hrun:(fn.results.toList.mapM (Vp ts)).run P w=.ok us w):(results fn ts).run P w=.ok (if h:us.length=1 then us[0]else .tuple us.toArray) w:=by
 have e:fn.results.mapM (Vp ts)=(List.toArray<$>fn.results.toList.mapM (Vp ts)):=Array.mapM_eq_mapM_toList;have e2:results fn ts=(do let vs←fn.results.mapM (Vp ts);pure (if h:vs.size=1 then vs[0]else .tuple vs)):=by
  unfold results;congr 1
 rw[e2,e];simp[Sem.run_bind,hrun]
end
section
variable{P:Program}{E:Env}{x:Ctx}{w w':World}{h h2:Ah}{n n':Nat→Prop}{L:List AV}{U:Nat→Value}{ρ:Option Nat→Am}{id:Nat}{S:Af}
theorem W4:∀{mu:List Nat} {out:List AV} {h:Ah},B6v h mu out→mu.Nodup→∀g r,A4 (Bf mu out) g=some r→g∈mu∧A4 h g=some r
 |[],[],h,ho,hn,g,r,hr=>by simp[Bf,A4]at hr
 |[],_::_,h,ho,hn,g,r,hr=>ho.elim
 |_::_,[],h,ho,hn,g,r,hr=>ho.elim
 |m::mu,y::ys,h,ho,hn,g,r,hr=>by
  simp only[Bf]at hr;rw[Ac]at hr;by_cases e:m=g
  ·rw[if_pos e]at hr
   simp only[Option.some.injEq]at hr;subst e;subst hr;exact⟨by simp,ho.1⟩
  ·rw[if_neg e]at hr
   obtain⟨h1,h2⟩:=W4 ho.2 (List.nodup_cons.1 hn).2 g r hr;exact⟨by simp[h1],h2⟩
theorem C2x(hT:TOk P E){N:Nat}{fn:Func}{Sr:Af}{hr0:Ah}{nx:Nat}{a:Act}{res:AV}{mu:List Nat}{out:List AV}(hst:StT x N ⟨Sr,hr0,nx⟩ a w)(hr:A4p E fn.results.toList res mu out Sr hr0 nx)(hmu:mu.Nodup)(hmk:∀j,j∈mu→j<x.k)
 {idr:Nat}(hidr:x.k≤idr){K:AV→Ah→Prop}(hk:Ib idr res K){sh:Bool}(hnr:sh=false→res.noRd):
 ∃v os,K v os∧E4 (fun g _=>Du idr g) v∧(∀g r,A4 os g=some r→Du idr g∧(sh=false→r.noRd))∧(sh=false→v.noRd)∧
  ∃u,a.defers=[]∧(results fn a.tmps).run P w=.ok u w∧∃R' wr' ρf,(∀b,x.R b→R' b)∧Bp {x with R:=R',wr:=wr'} w (Bf mu out++os) (fun g=>g<x.k∨Du idr g) [] (fun _=>undef) ρf∧
   Az {x with R:=R',wr:=wr'} w (Bf mu out++os) (fun g=>g<x.k∨Du idr g) ρf v u:=by
 obtain⟨n,hn,R,wr,hR,ρ,H,hs,hN,hdf⟩:=hst;simp only at hn H hs;obtain⟨vs,us,hgv,hlen,hvs,hrun⟩:=O7 hT H hs hr;obtain⟨cs,h',⟨hout,hmatch⟩,hgo⟩:=Vl H hlen (fun i v u h1 h2=>(hvs i v u h1 h2).movV) hgv;simp only[List.length_nil,Nat.zero_add]at hgo;have hval:∃D U' ρ',Y9 {x with R:=R,wr:=wr} w n hr0 [] (fun _=>undef) ρ h' D U' ρ'∧A6p D∧∃v os,K v os∧A07 os idr D∧D.length≤16∧E4 (fun g _=>Du idr g) v∧(sh=false→v.noRd∧∀g r,A4 os g=some r→r.noRd)∧
  ∀(hy:Ah) (ny:Nat→Prop) (ρy:Option Nat→Am),C7l {x with R:=R,wr:=wr} w hy ρy D U' idr→Az {x with R:=R,wr:=wr} w hy ny ρy v (if h:us.length=1 then us[0]else .tuple us.toArray):=by
  have hk0:Ib idr res fun v os=>(sh=false→v.noRd∧∀g r,A4 os g=some r→r.noRd)∧K v os:=by
   cases sh with
   |true=>
    obtain⟨v,os,hk,_,t⟩:=Rz hk;exact t _ ⟨by simp,hk⟩
   |false=>
    obtain⟨v,os,⟨h1,hk⟩,_,t⟩:=Rz (B8k (hnr rfl) hk);exact t _ ⟨fun _=>h1,hk⟩
  have one:∀(c:AV),cs=[c]→Vw c res→∃D U' ρ',Y9 {x with R:=R,wr:=wr} w n hr0 [] (fun _=>undef) ρ h' D U' ρ'∧A6p D∧∃v os,K v os∧A07 os idr D∧D.length≤16∧E4 (fun g _=>Du idr g) v∧(sh=false→v.noRd∧∀g r,A4 os g=some r→r.noRd)∧
   ∀(hy:Ah) (ny:Nat→Prop) (ρy:Option Nat→Am),C7l {x with R:=R,wr:=wr} w hy ρy D U' idr→Az {x with R:=R,wr:=wr} w hy ny ρy v (if h:us.length=1 then us[0]else .tuple us.toArray):=by
   intro c hcs hle;subst hcs;obtain⟨D,U',ρ',G,O⟩:=hgo [res] ⟨hle,trivial⟩;cases O with
   |cons h1 h2=>
    cases h2;rename_i D u;simp only[List.append_nil]at G;obtain⟨v,os,⟨hr1,hk⟩,a1,a2,a3⟩:=B52 h1 hk0;refine⟨D,U',ρ',G,h1.allOwn,v,os,hk,a1,a3,a2.good a3,hr1,fun hy ny ρy hl=>?_⟩;exact(a2.srep hl:Az _ w hy ny ρy v u)
  rcases cs with _|⟨c1,_|⟨c2,cs⟩⟩
  ·have hle:=hmatch
   cases res<;>first|exact hle.elim|skip
   rename_i ts;obtain⟨D,U',ρ',G,O⟩:=hgo ts hle;obtain⟨vs',os,⟨hr1,hk⟩,a1,a2,a3,a4⟩:=Xz O hk0;have hus:us=[]:=by
    cases ts with
    |cons t ts=>exact hle.elim
    |nil=>cases O;rfl
   subst hus;refine⟨D,U',ρ',G,O.allOwn,_,os,hk,a1,a4,.tup fun c hm=>?_,hr1,fun hy ny ρy hl=>?_⟩
   ·obtain⟨i,hi⟩:=List.getElem?_of_mem hm
    have:vs'=[]:=List.eq_nil_of_length_eq_zero (by simpa using a2);subst this;simp at hi
   ·rw[dif_neg (by simp)]
    refine .tup (by simpa using a2.symm) fun i c hi=>?_;have:vs'=[]:=List.eq_nil_of_length_eq_zero (by simpa using a2);subst this;simp at hi
  ·exact one c1 rfl hmatch
  ·have hle:=hmatch
   have hle':∃ts,res=.tup ts∧A81 (c1::c2::cs) ts:=by
    cases res<;>first|exact hle.elim|exact⟨_,rfl,hle⟩
   obtain⟨ts,rfl,hle'⟩:=hle';obtain⟨D,U',ρ',G,O⟩:=hgo ts hle';obtain⟨vs',os,⟨hr1,hk⟩,a1,a2,a3,a4⟩:=Xz O hk0;have hus:us.length≠1:=by
    match ts,hle',O with
    |[t],hle',O=>exact absurd hle'.2 (by simp[A81])
    |t1::t2::ts,hle',O=>
     cases O with
     |cons o1 o2=>cases o2;simp
   have hat:∀{i:Nat} {c:AV},vs'[i]? =some c→∃u,us[i]? =some u:=by
    intro i c hi;have:i<us.length:=by
     rw[←a2];rcases Nat.lt_or_ge i vs'.length with h|h
     ·exact h
     ·rw[List.getElem?_eq_none h]at hi;cases hi
    exact⟨_,List.getElem?_eq_getElem this⟩
   refine⟨D,U',ρ',G,O.allOwn,_,os,hk,a1,a4,.tup fun c hm=>?_,hr1,fun hy ny ρy hl=>?_⟩
   ·obtain⟨i,hi⟩:=List.getElem?_of_mem hm
    obtain⟨u,hu⟩:=hat hi;exact(a3 i c u hi hu).good a4
   ·rw[dif_neg hus]
    refine .tup (by simpa using a2.symm) fun i c hi=>?_;obtain⟨u,hu⟩:=hat hi;have e:us.toArray.getD i undef=u:=by simp[Array.getD_eq_getD_getElem?,hu]
    rw[e];exact(a3 i c u hi hu).srep hl
 obtain⟨D,U',ρ',G,hown,v,os,hk,hos,hD,hgood,hno,hsr⟩:=hval;have H1:=G.rel;simp only[List.nil_append]at H1;refine⟨v,os,hk,hgood,fun g r hr=>⟨?_,fun hsh=>(hno hsh).2 g r hr⟩,fun hsh=>(hno hsh).1,_,hdf,A32 hrun,R,wr,?_⟩
 ·obtain⟨i,rfl,hi⟩:=(hos g r).1 hr
  have:i<D.length:=by
   rcases Nat.lt_or_ge i D.length with h|h
   ·exact h
   ·rw[List.getElem?_eq_none h]at hi;cases hi
  exact⟨by omega,by omega⟩
 have hdisj:∀g,g<x.k→A4 os g=none:=by
  intro g hg;cases ho:A4 os g with
  |none=>rfl
  |some r=>obtain⟨i,e,_⟩:=(hos g r).1 ho;omega
 let B:=max nx x.k;have hB1:∀i,¬n (B+i):=fun i h=>by have:=hn _ h;have:nx≤B:=Nat.le_max_left _ _;omega
 have hB2:x.k≤B:=Nat.le_max_right _ _;have S0:Aw {x with R:=R,wr:=wr} w h' n ρ' [] #[]:=fun d s hd=>by simp[A4]at hd
 obtain⟨h2,n2,L2,ρ2,H2,_,r1,r2,r3⟩:=A4x (id:=B) (List.range D.length) List.nodup_range (fun i hi=>by
  have:=List.mem_range.1 hi;obtain⟨s,xs,e⟩:=hown i D[i] (List.getElem?_eq_getElem this);exact⟨s,xs,by rw[List.getElem?_eq_getElem this,e]⟩) (fun i _=>hB1 i) H1 S0
 have H3:Bp {x with R:=R,wr:=wr} w h2 n2 [] (fun _=>undef) (fun k=>match k with|none=>Ax|some g=>ρ2 (some g)):=H2.dropL;have hin:∀{i c},D[i]? =some c→i∈List.range D.length:=by
  intro i c hi;refine List.mem_range.2 ?_;rcases Nat.lt_or_ge i D.length with h|h
  ·exact h
  ·rw[List.getElem?_eq_none h]at hi;cases hi
 have hdom:∀g r,A4 (Bf mu out++os) g=some r→(g<x.k∧A4 h' g=some r)∨(∃i,g=idr+i∧D[i]? =some r∧A4 os g=some r):=by
  intro g r hr;rw[Be]at hr;cases ho:A4 (Bf mu out) g with
  |some r'=>
   rw[ho]at hr;simp only[Option.some.injEq]at hr;subst hr;obtain⟨h1,h3⟩:=W4 hout hmu g _ ho;exact .inl ⟨hmk g h1,h3⟩
  |none=>
   rw[ho]at hr;obtain⟨i,e,hi⟩:=(hos g r).1 hr;exact .inr ⟨i,e,hi,hr⟩
 let f:Nat→Nat:=fun g=>if g<x.k then g else B+(g - idr)
 have hf1:∀{g},g<x.k→f g=g:=fun hg=>if_pos hg;have hf2:∀{i},f (idr+i)=B+i:=fun{i}=>by
  have:¬idr+i<x.k:=by omega
  show(if idr+i<x.k then idr+i else B+(idr+i - idr))=B+i;rw[if_neg this];omega
 have hold:∀{g},g<x.k→A4 h2 g=A4 h' g:=fun{g} hg=>(r2 g fun i _ e=>by omega).1;have HF:=H3.rename (h2:=Bf mu out++os) (n':=fun g=>g<x.k∨Du idr g) f (fun g r hr=>?_) (fun a b ha hb hab=>?_) (fun g r hr=>?_) (fun g hg _=>hf1 hg) (fun g hg=>.inl hg)
 ·refine⟨_,hR,HF,hsr _ _ _ fun i c hi=>?_⟩
  have hlook:A4 (Bf mu out++os) (idr+i)=some c:=by
   rw[Be];have:A4 (Bf mu out) (idr+i)=none:=by
    cases ho:A4 (Bf mu out) (idr+i)with
    |none=>rfl
    |some r=>have:=hmk _ (W4 hout hmu _ _ ho).1;omega
   rw[this];exact(hos _ _).2 ⟨i,rfl,hi⟩
  refine⟨hlook,_,H1.loose i c hi,?_⟩;simp only[Ly,hlook];rw[hf2];exact(r1 i (hin hi)).2 []
 ·rcases hdom g r hr with⟨h1,h3⟩|⟨i,rfl,hi,_⟩
  ·rw[hf1 h1,hold h1];exact h3
  ·rw[hf2,(r1 i (hin hi)).1];exact hi
 ·cases hla:A4 (Bf mu out++os) a with
  |none=>exact absurd hla ha
  |some ra=>
   cases hlb:A4 (Bf mu out++os) b with
   |none=>exact absurd hlb hb
   |some rb=>
    rcases hdom _ _ hla with⟨h1,_⟩|⟨i,rfl,_,_⟩<;>rcases hdom _ _ hlb with⟨h2,_⟩|⟨j,rfl,_,_⟩
    ·rwa[hf1 h1,hf1 h2]at hab
    ·rw[hf1 h1,hf2]at hab;omega
    ·rw[hf2,hf1 h2]at hab;omega
    ·rw[hf2,hf2]at hab;omega
 ·rcases hdom g r hr with⟨h1,_⟩|⟨i,rfl,_,h3⟩
  ·exact .inl h1
  ·obtain⟨j,e,hj⟩:=(hos _ _).1 h3
   have:j<D.length:=List.mem_range.1 (hin hj);exact .inr ⟨by omega,by omega⟩
theorem Dv{c:Bd}(hT:TOk P E)(hF:∀f c',E.F f=some c'→Au P f c'∧∀w,c.gw w→c'.gw w)(hm:P.follows .mixedOrders=true){f:Nat}{fn:Func}{code:Code}(hf:P.funcs[f]? =some fn)(hb:fn.body=some code)
 (hcall:∀(args:Array Value) (w:World),(callFunc f args).run P w=.ok (.enter f args) w)(hms:c.ms.length≤fn.ntmps)(hd:Qj fn.ntmps code=true)(hM:B6 E code fn.results.toList c)
 (hnr:c.sh=false→∀y,c.pre y→(c.res y).noRd∧A7 (c.out y))(hfr:∀y,c.pre y→(c.res y).free∧A2 (c.out y))(hfe:∀y,c.pre y→A2 (c.enc y))(hpt:c.ptr=false:=by rfl):Au P f c:=by
 intro y hpre;refine⟨hfe y hpre,(hfr y hpre).2,fun hsh=>(hnr hsh y hpre).2,?_⟩;obtain⟨S,hy,k,mu,⟨hshape,hw⟩,hS,⟨_,hmk,hmn⟩,t⟩:=Lp (hM y hpre);refine t _ ⟨hshape,fun X w args ρ e1 e2 e3 e4 hG hsz H hs idr hidr K hk=>?_⟩;rw[hpt]at hk;have hk:Ib idr (c.res y) K:=hk;have hFE:FE P E X:=fun f' c' h=>⟨(hF f' c' h).1,hG.mono (hF f' c' h).2⟩
 subst e2;have hN:(args++Array.replicate (fn.ntmps - args.size) undef).size=fn.ntmps:=by simp;omega
 have hst:StT X fn.ntmps ⟨S,hy,X.k+16⟩ {tmps:=args++Array.replicate (fn.ntmps - args.size) undef,defers:=[]} w:=by
  refine⟨fun g=>g<X.k,fun g hg=>by show g<X.k+16;omega,X.R,X.wr,fun _ h=>h,ρ,H,fun d s hd=>?_,hN,rfl⟩;have hlt:d<args.size:=by have:=(hS d s hd).2;omega
  have e:(args++Array.replicate (fn.ntmps - args.size) undef).getD d undef=args.getD d undef:=by
   simp[Array.getD_eq_getD_getElem?,Array.getElem?_append,hlt]
  simp only;rw[e];exact hs d s hd
 have hrs:c.sh=false→(c.res y).noRd:=fun hsh=>(hnr hsh y hpre).1;obtain⟨v0,os0,hk0,_,tk⟩:=Rz hk;have hk1:Ib idr (c.res y) fun v os=>v=v0∧os=os0:=tk (fun v os=>v=v0∧os=os0) ⟨rfl,rfl⟩;have hcalls:Calls P f args w fun e w'=>(E4 (fun g _=>Du idr g) v0∧(∀g r,A4 os0 g=some r→Du idr g∧(c.sh=false→r.noRd))∧(c.sh=false→v0.noRd))∧∃u,e=.returned u∧
  ∃R' wr' ρf,(∀b,X.R b→R' b)∧Bp {X with R:=R',wr:=wr'} w' (Bf mu (c.out y)++os0) (fun g=>g<X.k∨Du idr g) [] (fun _=>undef) ρf∧
   Az {X with R:=R',wr:=wr'} w' (Bf mu (c.out y)++os0) (fun g=>g<X.k∨Du idr g) ρf v0 u:=by
  refine calls_of_wp hf hb (B44 (x:=X) (E:=E) (N:=fn.ntmps) (P:=P) hT hFE hm code hd hw hst (fun S h nx a w' hr hs'=>?_) (fun S h nx a w' hr hs'=>?_) (fun i S h nx a w' hr hs'=>hr.elim));all_goals
   obtain⟨v,os,⟨rfl,rfl⟩,b1,b2,b3,u,b4,b5,b6⟩:=C2x (P:=P) (E:=E) (fn:=fn) (sh:=c.sh) hT hs' (show A4p E fn.results.toList (c.res y) mu (c.out y) S h nx from hr) hmn (fun j hj=>(hmk j hj).2) hidr hk1 hrs;exact⟨b4,u,b5,⟨b1,b2,b3⟩,u,rfl,b6⟩
 obtain⟨_,_,_,⟨⟨b1,b2,b3⟩,_⟩,_⟩:=hcalls [];obtain⟨v1,os1,⟨hf1,hf2⟩,rfl,rfl⟩:=B45 (B8w (hfr y hpre).1 hk1);exact⟨v1,os1,hk0,b1,fun g r hr=>⟨(b2 g r hr).1,(b2 g r hr).2,hf2 g r hr⟩,b3,hf1,.inl ⟨hcall args w,hcalls.mono fun e w' ⟨_,u,he,h⟩=>⟨u,he,h⟩⟩⟩
theorem Al{c:Bd}(hT:TOk P E)(hF:∀f c',E.F f=some c'→Au P f c'∧∀w,c.gw w→c'.gw w)(hm:P.follows .mixedOrders=true){f:Nat}{fn:Func}{code:Code}(hf:P.funcs[f]? =some fn)(hb:fn.body=some code)
 (hcall:∀(args:Array Value) (w:World),(callFunc f args).run P w=.ok (.enter f args) w)(hms:c.ms.length≤fn.ntmps)(hd:Qj fn.ntmps code=true)(hM:B6 E code fn.results.toList c)
 (hnr:c.sh=false→∀y,c.pre y→(c.res y).noRd∧A7 (c.out y))(hfe:∀y,c.pre y→A2 (c.enc y))(hsf:c.sh=false:=by rfl)(hpt:c.ptr=false:=by rfl):Au P f c:=
 Dv hT hF hm hf hb hcall hms hd hM hnr (fun y hy=>⟨AV.noRd_free (hnr hsf y hy).1,Jv (hnr hsf y hy).2⟩) hfe hpt
def B5l(E:Env)(rs:List ResultVar)(res:AV)(S:Af)(h:Ah)(_:Nat):Prop:=
 Lc E S h rs fun vs=>match vs with
  |[v]=>match v with
   |.bx g f=>match f with
    |0=>A4 h g=some res∧res.free∧∃s row,res=.own s [row]
    |_=>False
   |_=>False
  |_=>False
def C4i(E:Env)(code:Code)(rs:List ResultVar)(c:Bd):Prop:=
 ∀x,c.pre x→Bn 0 0 c.ms (c.enc x) fun S h n mu=>mu=[]∧
  awp E n code (B5l E rs (c.res x)) (B5l E rs (c.res x)) (fun _ _ _ _=>False) S h (n+16)
theorem B64(hT:TOk P E){N:Nat}{fn:Func}{Sr:Af}{hr0:Ah}{nx:Nat}{a:Act}{res:AV}(hst:StT x N ⟨Sr,hr0,nx⟩ a w)(hr:B5l E fn.results.toList res Sr hr0 nx){idr:Nat}(hidr:x.k≤idr):
 (res.free∧∃s row,res=.own s [row])∧∃u,a.defers=[]∧(results fn a.tmps).run P w=.ok u w∧∃R' wr' ρf,(∀b,x.R b→R' b)∧Bp {x with R:=R',wr:=wr'} w [(idr,res)] (fun g=>g<x.k∨Du idr g) [] (fun _=>undef) ρf∧
   Az {x with R:=R',wr:=wr'} w [(idr,res)] (fun g=>g<x.k∨Du idr g) ρf (.bx idr 0) u:=by
 obtain⟨n,hn,R,wr,hR,ρ,H,hs,hN,hdf⟩:=hst;simp only at hn H hs;obtain⟨vs,us,hgv,hlen,hvs,hrun⟩:=O7 hT H hs hr;have hg:∃g,vs=[.bx g 0]∧A4 hr0 g=some res∧res.free∧∃s row,res=.own s [row]:=by
  match vs,hgv with
  |[],hgv=>exact hgv.elim
  |_::_::_,hgv=>exact hgv.elim
  |[v],hgv=>
   cases v<;>first|exact hgv.elim|skip
   rename_i g f;cases f with
   |zero=>exact⟨g,rfl,hgv⟩
   |succ f=>exact hgv.elim
 obtain⟨g,rfl,hl,hfree,s,row,hres⟩:=hg;match us,hlen,hvs,hrun with
 |[u],_,hvs,hrun=>
  subst hres;refine⟨⟨hfree,s,row,rfl⟩,u,hdf,?_,R,wr,Ly [(idr,.own s [row])] (fun _=>g) ρ,hR,?_,?_⟩
  ·simpa using A32 hrun
  ·refine H.rename (fun _=>g) (fun e r he=>?_) (fun a b ha hb _=>?_) (fun e r he=>?_) (fun e he hne=>?_) (fun e he=>.inl he)
   ·rw[Ac]at he
    by_cases e1:idr=e
    ·rw[if_pos e1]at he;rw[←he];exact hl
    ·rw[if_neg e1]at he;cases he
   ·rw[Ac]at ha hb
    by_cases e1:idr=a
    ·by_cases e2:idr=b
     ·exact e1.symm.trans e2
     ·rw[if_neg e2]at hb;exact absurd rfl hb
    ·rw[if_neg e1]at ha;exact absurd rfl ha
   ·rw[Ac]at he
    by_cases e1:idr=e
    ·subst e1;exact .inr ⟨Nat.le_refl _,by omega⟩
    ·rw[if_neg e1]at he;cases he
   ·rw[Ac]at hne
    have he2:e<x.k:=he;rw[if_neg (by omega)]at hne;exact absurd rfl hne
  ·have hb:=hvs 0 (.bx g 0) u rfl rfl
   have hlk:A4 [(idr,AV.own s [row])] idr=some (.own s [row]):=by rw[Ac,if_pos rfl]
   cases hb with
   |cell hr=>cases hr
   |goneb h1 _=>rw[hl]at h1;cases h1
   |bx h1 hρ=>exact .bx hlk (by simp only[Ly,hlk];exact hρ)
theorem C3e{c:Bd}(hT:TOk P E)(hF:∀f c',E.F f=some c'→Au P f c'∧∀w,c.gw w→c'.gw w)(hm:P.follows .mixedOrders=true){f:Nat}{fn:Func}{code:Code}(hf:P.funcs[f]? =some fn)(hb:fn.body=some code)
 (hcall:∀(args:Array Value) (w:World),(callFunc f args).run P w=.ok (.enter f args) w)(hms:c.ms.length≤fn.ntmps)(hd:Qj fn.ntmps code=true)(hM:C4i E code fn.results.toList c)
 (hfe:∀y,c.pre y→A2 (c.enc y))(hout:∀y,c.out y=[]:=by intro _;rfl)(hsf:c.sh=true:=by rfl)(hpt:c.ptr=true:=by rfl):Au P f c:=by
 intro y hpre;refine⟨hfe y hpre,by rw[hout];trivial,fun hsh=>by rw[hout];trivial,?_⟩;obtain⟨S,hy,k,mu,⟨hmu,hw⟩,hS,_,t⟩:=Lp (hM y hpre);subst hmu;rw[hout];refine t _ ⟨trivial,fun X w args ρ e1 e2 e3 e4 hG hsz H hs idr hidr K hk=>?_⟩;rw[hpt]at hk;have hFE:FE P E X:=fun f' c' h=>⟨(hF f' c' h).1,hG.mono (hF f' c' h).2⟩
 subst e2;have hN:(args++Array.replicate (fn.ntmps - args.size) undef).size=fn.ntmps:=by simp;omega
 have hst:StT X fn.ntmps ⟨S,hy,X.k+16⟩ {tmps:=args++Array.replicate (fn.ntmps - args.size) undef,defers:=[]} w:=by
  refine⟨fun g=>g<X.k,fun g hg=>by show g<X.k+16;omega,X.R,X.wr,fun _ h=>h,ρ,H,fun d s hd=>?_,hN,rfl⟩;have hlt:d<args.size:=by have:=(hS d s hd).2;omega
  have e:(args++Array.replicate (fn.ntmps - args.size) undef).getD d undef=args.getD d undef:=by
   simp[Array.getD_eq_getD_getElem?,Array.getElem?_append,hlt]
  simp only;rw[e];exact hs d s hd
 have hcalls:Calls P f args w fun e w'=>((c.res y).free∧∃s row,c.res y=.own s [row])∧∃u,e=.returned u∧
  ∃R' wr' ρf,(∀b,X.R b→R' b)∧Bp {X with R:=R',wr:=wr'} w' [(idr,c.res y)] (fun g=>g<X.k∨Du idr g) [] (fun _=>undef) ρf∧
   Az {X with R:=R',wr:=wr'} w' [(idr,c.res y)] (fun g=>g<X.k∨Du idr g) ρf (.bx idr 0) u:=by
  refine calls_of_wp hf hb (B44 (x:=X) (E:=E) (N:=fn.ntmps) (P:=P) hT hFE hm code hd hw hst (fun S h nx a w' hr hs'=>?_) (fun S h nx a w' hr hs'=>?_) (fun i S h nx a w' hr hs'=>hr.elim));all_goals
   obtain⟨b0,u,b4,b5,b6⟩:=B64 (P:=P) (E:=E) (fn:=fn) hT hs' (show B5l E fn.results.toList (c.res y) S h nx from hr) hidr;exact⟨b4,u,b5,b0,u,rfl,b6⟩
 obtain⟨_,_,_,⟨⟨hfree,s,row,hres⟩,_⟩,_⟩:=hcalls [];rw[hres]at hk;have hk:K (.bx idr 0) [(idr,.own s [row])]:=hk;refine⟨_,_,hk,.bx ⟨Nat.le_refl _,by omega⟩,fun g r hr=>?_,fun hsh=>absurd (hsf.symm.trans hsh) Bool.noConfusion,trivial,.inl ⟨hcall args w,hcalls.mono fun e w' ⟨_,u,he,h⟩=>⟨u,he,by rw[hres]at h;exact h⟩⟩⟩;rw[Ac]at hr;by_cases e:idr=g
 ·rw[if_pos e]at hr
  obtain rfl:=Option.some.inj hr;subst e;exact⟨⟨Nat.le_refl _,by omega⟩,fun hsh=>absurd (hsf.symm.trans hsh) Bool.noConfusion,hres▸hfree⟩
 ·rw[if_neg e]at hr;cases hr
end
def C7s:AV→Value→Bool
 |.int k n,.int k' n'=>decide (k=k')&&decide (n=n')
 |.bool b,.bool b'=>b==b'
 |.str [],.string s=>s.data.toList.isEmpty
 |.own _ [],.slice none 0 0=>true
 |.nilI,.nilIface=>true
 |.undef,v=>v.oneCell'
 |_,_=>false
def B3w:List AV→List Value→Bool
 |[],[]=>true
 |c::cs,u::us=>C7s c u&&B3w cs us
 |_,_=>false
def T6(P:Program):List (Nat×Nat)→List Field→Bool
 |[],[]=>true
 |(o,u)::fs,f::r=>Nat.beq f.offset o&&Nat.beq f.type u&& !(f.name== "_")&&(match P.info? u with
  |some j=> !(Nat.beq j.size 0)
  |none=>false)&&T6 P fs r
 |_,_=>false
def C4m(P:Program)(t:Nat)(k:TK):Bool:=
 match k with
 |.int k=>match P.underlying t with
  |some (.int k')=>decide (k'=k)
  |_=>false
 |.bool=>match P.underlying t with
  |some .bool=>true
  |_=>false
 |.str=>match P.underlying t with
  |some .string=>true
  |_=>false
 |.slice e=>match P.underlying t with
  |some (.slice e')=>Nat.beq e' e
  |_=>false
 |.ptr e=>match P.underlying t with
  |some (.pointer e')=>Nat.beq e' e
  |_=>false
 |.iface=>match P.underlying t with
  |some (.interface _)=>true
  |_=>false
 |.struct fs=>match P.underlying t with
  |some (.struct fields)=> !(P.stoodInHeld t)&& !(P.eqGuardType P.depth t)&&T6 P fs fields.toList
  |_=>false
def B6p(P:Program)(t:Nat)(ty:Ty):Bool:=
 (match P.info? t with
 |some i=>Nat.beq i.size ty.size&&Nat.beq i.bytes ty.bytes&&(match i.zero with
  |some z=>Nat.beq z.cells.size ty.size&&B3w ty.zero z.cells.toList
  |none=>false)
 |none=>false)&&C4m P t ty.k&&(ty.k.agg||Nat.beq ty.size 1)&&Nat.beq ty.cs.length ty.size&&Nat.blt 0 ty.size&&Nat.ble ty.bytes 140737488355328
def C24(P:Program):List (Nat×Ty)→Bool
 |[]=>true
 |(t,ty)::r=>B6p P t ty&&C24 P r
theorem B7t:∀{cs:List AV} {us:List Value},B3w cs us=true→cs.length=us.length∧∀(j:Nat) c,cs[j]? =some c→∃u,us[j]? =some u∧C7s c u=true
 |[],[],_=>⟨rfl,by simp⟩
 |[],_::_,h=>by simp[B3w]at h
 |_::_,[],h=>by simp[B3w]at h
 |c::cs,u::us,h=>by
  simp only[B3w,Bool.and_eq_true]at h;obtain⟨h1,h2⟩:=B7t h.2;refine⟨by simp[h1],fun j c' hc=>?_⟩;cases j with
  |zero=>
   simp only[List.getElem?_cons_zero,Option.some.injEq]at hc;subst hc;exact⟨u,rfl,h.1⟩
  |succ j=>simpa using h2 j c' (by simpa using hc)
theorem C5t{c:AV}{u:Value}(h:C7s c u=true):u.oneCell'=true∧(∀x w,Rep x w Ax c u)∧(c.isOwn=true→u=.slice none 0 0):=by
 unfold C7s at h;split at h
 ·simp only[Bool.and_eq_true,decide_eq_true_eq]at h
  obtain⟨rfl,rfl⟩:=h;exact⟨rfl,fun _ _=>.int,by simp[AV.isOwn]⟩
 ·simp only[beq_iff_eq]at h
  subst h;exact⟨rfl,fun _ _=>.bool,by simp[AV.isOwn]⟩
 ·rename_i s
  have:s=⟨⟨[]⟩⟩:=by
   obtain⟨⟨l⟩⟩:=s;cases l with
   |nil=>rfl
   |cons a l=>simp at h
  subst this;exact⟨rfl,fun _ _=>.str,by simp[AV.isOwn]⟩
 ·exact⟨rfl,fun _ _=>.own0,by simp⟩
 ·exact⟨rfl,fun _ _=>.nilI,by simp[AV.isOwn]⟩
 ·exact⟨h,fun _ _=>.undef h,by simp[AV.isOwn]⟩
 ·cases h
theorem A2i{P:Program}:∀{fs:List (Nat×Nat)} {r:List Field},T6 P fs r=true→r.length=fs.length∧∀(i:Nat) o u,fs[i]? =some (o,u)→∃f,r[i]? =some f∧f.offset=o∧f.type=u∧f.name≠ "_"∧∃j,P.info? u=some j∧j.size≠0
 |[],[],_=>⟨rfl,by simp⟩
 |[],_::_,h=>by simp[T6]at h
 |_::_,[],h=>by simp[T6]at h
 |(o,u)::fs,f::r,h=>by
  simp only[T6,Bool.and_eq_true,Bool.not_eq_true']at h;obtain⟨⟨⟨⟨h1,h2⟩,h3⟩,h4⟩,h5⟩:=h;obtain⟨a1,a2⟩:=A2i h5;refine⟨by simp[a1],fun i o' u' hi=>?_⟩;cases i with
  |zero=>
   simp only[List.getElem?_cons_zero,Option.some.injEq,Prod.mk.injEq]at hi;obtain⟨rfl,rfl⟩:=hi;refine⟨f,rfl,Nat.eq_of_beq_eq_true h1,Nat.eq_of_beq_eq_true h2,by simpa using h3,?_⟩;cases hq:P.info? u with
   |none=>rw[hq]at h4;cases h4
   |some j=>
    rw[hq]at h4;refine⟨j,rfl,fun e=>?_⟩;simp only[e]at h4;exact absurd h4 (by decide)
  |succ i=>simpa using a2 i o' u' (by simpa using hi)
theorem C18{P:Program}{t:Nat}{ty:Ty}(h:B6p P t ty=true):Wm P t ty:=by
 unfold B6p at h;simp only[Bool.and_eq_true]at h;obtain⟨⟨⟨⟨⟨h1,h2⟩,h3⟩,h4⟩,h5⟩,h6⟩:=h;refine⟨?_,?_,fun ha=>?_,Nat.eq_of_beq_eq_true h4,Nat.le_of_ble_eq_true h5,Nat.le_of_ble_eq_true h6⟩
 ·cases hi:P.info? t with
  |none=>rw[hi]at h1;cases h1
  |some i=>
   rw[hi]at h1;simp only[Bool.and_eq_true]at h1;obtain⟨⟨a1,a2⟩,a3⟩:=h1;cases hz:i.zero with
   |none=>rw[hz]at a3;cases a3
   |some z=>
    rw[hz]at a3;simp only[Bool.and_eq_true]at a3;obtain⟨b1,b2⟩:=B7t a3.2;have e1:=Nat.eq_of_beq_eq_true a3.1;refine⟨i,z,rfl,Nat.eq_of_beq_eq_true a1,Nat.eq_of_beq_eq_true a2,hz,e1,by rw[b1];simpa using e1,fun j c hc=>?_⟩;obtain⟨u,c1,c2⟩:=b2 j c hc;exact⟨u,by simpa using c1,C5t c2⟩
 ·unfold C4m at h2
  cases hk:ty.k<;>rw[hk]at h2<;>simp only at h2⊢;case struct fs=>
   cases hu:P.underlying t with
   |none=>rw[hu]at h2;cases h2
   |some d=>
    rw[hu]at h2;cases d<;>simp only at h2<;>first|(cases h2;done)|skip
    rename_i fields;simp only[Bool.and_eq_true,Bool.not_eq_true']at h2;obtain⟨a1,a2⟩:=A2i h2.2;exact⟨h2.1.1,h2.1.2,fields,rfl,by simpa using a1,fun i o u hi=>by
     obtain⟨f,b1,b2⟩:=a2 i o u hi;exact⟨f,by simpa using b1,b2⟩⟩
  all_goals
   cases hu:P.underlying t with
   |none=>rw[hu]at h2;cases h2
   |some d=>
    rw[hu]at h2;cases d<;>simp only at h2<;>first
     |(cases h2;done)
     |rfl
     |(have:=of_decide_eq_true h2;subst this;rfl)
     |(have:=Nat.eq_of_beq_eq_true h2;subst this;rfl)
     |exact⟨_,rfl⟩
 ·rw[ha]at h3
  simp only[Bool.false_or]at h3;exact Nat.eq_of_beq_eq_true h3
theorem C1w{P:Program}:∀{tab:List (Nat×Ty)},C24 P tab=true→∀t ty,A4 tab t=some ty→Wm P t ty
 |(t0,ty0)::r,h,t,ty,hl=>by
  simp only[C24,Bool.and_eq_true]at h;rw[Ac]at hl;by_cases e:t0=t
  ·rw[if_pos e]at hl
   simp only[Option.some.injEq]at hl;subst e;subst hl;exact C18 h.1
  ·rw[if_neg e]at hl
   exact C1w h.2 t ty hl
def FOk(P:Program)(gw:World→Prop)(F:List (Nat×Bd)):Prop:=∀f c,A4 F f=some c→Au P f c∧∀w,gw w→c.gw w
theorem FOk.nil{P:Program}{gw:World→Prop}:FOk P gw []:=by intro f c h;cases h
theorem FOk.cons{P:Program}{gw:World→Prop}{f:Nat}{c:Bd}{F:List (Nat×Bd)}(h:Au P f c)(hF:FOk P gw F)(hg:∀w,gw w→c.gw w:=by first|exact fun _ _=>trivial|exact fun _ h=>h|exact fun _ h=>h.1):FOk P gw ((f,c)::F):=by
 intro f' c' hl;rw[Ac]at hl;by_cases e:f=f'
 ·rw[if_pos e]at hl
  simp only[Option.some.injEq]at hl;subst e;subst hl;exact⟨h,hg⟩
 ·rw[if_neg e]at hl
  exact hF f' c' hl
def Bd.below(c:Bd)(μ:c.α→Nat)(n:Nat):Bd:={c with pre:=fun x=>c.pre x∧μ x<n}
theorem Au.below{P:Program}{f:Nat}{c:Bd}(μ:c.α→Nat)(h:∀n,Au P f (c.below μ n)):Au P f c:=fun x hx=>h (μ x+1) x ⟨hx,Nat.lt_succ_self _⟩
theorem Au.rec{P:Program}{f:Nat}{c:Bd}(μ:c.α→Nat)(h:∀n,Au P f (c.below μ n)→Au P f (c.below μ (n+1))):Au P f c:=
 Au.below μ fun n=>by
  induction n with
  |zero=>intro x hx;exact absurd hx.2 (Nat.not_lt_zero _)
  |succ n ih=>exact h n ih
def B4d(g g':Nat)(m:List (Nat×Nat)):List (Nat×Nat):=match A4 m g with
 |some _=>m
 |none=>(g,g')::m
def C67(t v:AV)(m:List (Nat×Nat)):List (Nat×Nat):=
 match t with
 |.view g _ _ _=>match v with
  |.view g' _ _ _=>B4d g g' m
  |_=>m
 |.ptr g _ _ _=>match v with
  |.ptr g' _ _ _=>B4d g g' m
  |_=>m
 |.bx g _=>match v with
  |.bx g' _=>B4d g g' m
  |_=>m
 |_=>m
def B9v:List AV→List AV→List (Nat×Nat)→List (Nat×Nat)
 |t::ts,v::vs,m=>B9v ts vs (C67 t v m)
 |_,_,m=>m
def C55(t v:AV)(m:List (Nat×Nat)):List (Nat×Nat):=
 match t with
 |.agg cs=>match v with
  |.agg ds=>B9v cs ds m
  |_=>m
 |.fn _ cs=>match v with
  |.fn _ ds=>B9v cs ds m
  |_=>m
 |t=>C67 t v m
def C4z:List AV→List AV→List (Nat×Nat)→List (Nat×Nat)
 |t::ts,v::vs,m=>C4z ts vs (C55 t v m)
 |_,_,m=>m
def C8o(t v:AV)(m:List (Nat×Nat)):List (Nat×Nat):=
 match t with
 |.tup cs=>match v with
  |.tup ds=>C4z cs ds m
  |_=>m
 |t=>C55 t v m
def C01(S:Af):Af→List (Nat×Nat)→List (Nat×Nat)
 |[],m=>m
 |(d,s)::r,m=>match A4 S d with
  |some s'=>C01 S r (C8o s.v s'.v m)
  |none=>C01 S r m
def C5y(k:Nat):Ah→List (Nat×Nat)→List (Nat×Nat)
 |[],m=>m
 |(g,_)::r,m=>C5y k r (match Nat.blt g k with
  |true=>B4d g g m
  |false=>m)
def C38(m:List (Nat×Nat))(t v:AV):Prop:=
 match t with
 |.int k n=>match v with
  |.int k' n'=>match decide (k'=k)with
   |true=>n'=n
   |false=>False
  |_=>False
 |.bool b=>match v with
  |.bool b'=>b'=b
  |_=>False
 |.str s=>match v with
  |.str s'=>s'=s
  |_=>False
 |.rd s xs=>match v with
  |.rd s' xs'=>eqN s' s (xs'=xs)
  |_=>False
 |.view g p o l=>match v with
  |.view g' p' o' l'=>match A4 m g with
   |some x=>eqN x g' (p'=p∧o'=o∧l'=l)
   |none=>False
  |_=>False
 |.ptr g p i f=>match v with
  |.ptr g' p' i' f'=>match A4 m g with
   |some x=>eqN x g' (p'=p∧i'=i∧f'=f)
   |none=>False
  |_=>False
 |.bx g f=>match v with
  |.bx g' f'=>match A4 m g with
   |some x=>eqN x g' (f'=f)
   |none=>False
  |_=>False
 |.nils=>match v with
  |.nils=>True
  |_=>False
 |.emp=>match v with
  |.emp=>True
  |_=>False
 |.nilI=>match v with
  |.nilI=>True
  |_=>False
 |.someI=>match v with
  |.someI=>True
  |_=>False
 |.nilp=>match v with
  |.nilp=>True
  |_=>False
 |.pin cs=>match v with
  |.pin cs'=>cs'=cs
  |_=>False
 |_=>False
def C7q(m:List (Nat×Nat)):List AV→List AV→Prop
 |[],[]=>True
 |t::ts,v::vs=>C38 m t v∧C7q m ts vs
 |_,_=>False
def C97(m:List (Nat×Nat))(t v:AV):Prop:=
 match t with
 |.agg cs=>match v with
  |.agg ds=>C7q m cs ds
  |_=>False
 |.fn f cs=>match v with
  |.fn f' ds=>eqN f' f (C7q m cs ds)
  |_=>False
 |t=>C38 m t v
def C7g(S:Af)(m:List (Nat×Nat)):Af→Prop
 |[]=>True
 |(d,s)::r=>(match s.c with
  |none=>match A4 S d with
   |some ⟨none,v⟩=>C97 m s.v v
   |_=>False
  |some _=>False)∧C7g S m r
def C9h(x' x:AV):Prop:=match x with
 |.own s xs=>match x' with
  |.own s' xs'=>eqN s' s (xs'=xs)
  |_=>False
 |_=>False
def C7o(h:Ah)(m:List (Nat×Nat)):Ah→Prop
 |[]=>True
 |(g,x)::r=>(match A4 m g with
  |some g'=>match A4 h g' with
   |some x'=>C9h x' x
   |none=>False
  |none=>False)∧C7o h m r
def C5c(k n:Nat)(m:List (Nat×Nat)):Bool:=nodup (m.map (·.2))&&A2g n (m.map (·.1))&&keeps k m&&Nat.ble k n
def C27(k:Nat)(σ τ:St):List (Nat×Nat):=C5y k τ.heap (C01 σ.slots τ.slots [])
def C7m(k:Nat)(σ τ:St):Prop:=C7g σ.slots (C27 k σ τ) τ.slots∧C7o σ.heap (C27 k σ τ) τ.heap∧C5c k τ.next (C27 k σ τ)=true
theorem C2v{m:List (Nat×Nat)}{t v:AV}(h:C38 m t v):v=t.ren1 m∧Qr m t.ids1=true:=by
 cases t<;>cases v<;>simp only[C38]at h<;>first
  |exact h.elim
  |(subst h;exact⟨rfl,rfl⟩)
  |exact⟨rfl,rfl⟩
  |skip
 ·split at h
  ·rename_i hd
   have:=of_decide_eq_true hd;subst this;subst h;exact⟨rfl,rfl⟩
  ·exact h.elim
 ·obtain⟨rfl,rfl⟩:=C8 h
  exact⟨rfl,rfl⟩
 all_goals
  split at h
  ·rename_i x hx
   obtain⟨rfl,h2⟩:=C8 h;first
    |(obtain⟨rfl,rfl,rfl⟩:=h2;exact⟨by simp[AV.ren1,hx],by simp[AV.ids1,Qr,hx]⟩)
    |(subst h2;exact⟨by simp[AV.ren1,hx],by simp[AV.ids1,Qr,hx]⟩)
  ·exact h.elim
theorem U4{m:List (Nat×Nat)}:∀{a b:List Nat},Qr m a=true→Qr m b=true→Qr m (a++b)=true
 |[],b,_,h=>h
 |x::a,b,h1,h2=>by
  simp only[Qr,List.cons_append]at h1⊢;cases hl:A4 m x with
  |none=>rw[hl]at h1;cases h1
  |some y=>rw[hl]at h1;exact U4 h1 h2
theorem B3j{m:List (Nat×Nat)}{t v:AV}(h:C38 m t v):(∀cs,t≠.agg cs)∧(∀cs,t≠.tup cs)∧∀f cs,t≠.fn f cs:=by
 refine⟨?_,?_,?_⟩<;>intros<;>rintro rfl<;>exact h.elim
theorem B53{m:List (Nat×Nat)}:∀{ts vs:List AV},C7q m ts vs→vs=ts.map (AV.ren1 m)∧Qr m (G9 ts)=true∧Qr m (Mi ts)=true
 |[],[],_=>⟨rfl,rfl,rfl⟩
 |[],_::_,h=>h.elim
 |_::_,[],h=>h.elim
 |t::ts,v::vs,h=>by
  obtain⟨e1,a1⟩:=C2v h.1;obtain⟨e2,a2,a3⟩:=B53 h.2;obtain⟨l1,l2,l3⟩:=B3j h.1;refine⟨by rw[e1,e2];rfl,U4 a1 a2,U4 ?_ a3⟩;rw[Vn l1 l3 l2];exact a1
theorem C7b{m:List (Nat×Nat)}{t v:AV}(h:C97 m t v):v=t.ren m∧Qr m t.ids2=true:=by
 by_cases h1:∃cs,t=.agg cs
 ·obtain⟨cs,rfl⟩:=h1
  cases v<;>first|exact h.elim|skip
  obtain⟨e,a,_⟩:=B53 h;exact⟨by rw[e];rfl,a⟩
 ·by_cases h2:∃f cs,t=.fn f cs
  ·obtain⟨f,cs,rfl⟩:=h2
   cases v<;>first|exact h.elim|skip
   obtain⟨rfl,h3⟩:=C8 h;obtain⟨e,_,a⟩:=B53 h3;exact⟨by rw[e];rfl,a⟩
  ·have h':C38 m t v:=by cases t<;>first|exact h|exact absurd ⟨_,rfl⟩ h1|exact absurd ⟨_,_,rfl⟩ h2
   obtain⟨e,a⟩:=C2v h';obtain⟨l1,l2,l3⟩:=B3j h';refine⟨?_,by rw[B3z l2 l3,Vn l1 l3 l2];exact a⟩;rw[e];cases t<;>first|rfl|exact absurd rfl (l1 _)|exact absurd rfl (l2 _)|exact absurd rfl (l3 _ _)
theorem C2g{S:Af}{m:List (Nat×Nat)}:∀{t:Af},C7g S m t→T4 S m t
 |[],_=>trivial
 |(d,s)::r,h=>by
  simp only[C7g]at h;simp only[T4];have h2:=C2g h.2;cases hc:s.c with
  |some b=>rw[hc]at h;exact h.1.elim
  |none=>
   rw[hc]at h;cases hl:A4 S d with
   |none=>rw[hl]at h;exact h.1.elim
   |some s'=>
    obtain⟨c',v⟩:=s';rw[hl]at h;cases c' with
    |some b=>exact h.1.elim
    |none=>
     obtain⟨e,a⟩:=C7b h.1;exact⟨e,a,h2⟩
theorem C1u{h:Ah}{m:List (Nat×Nat)}:∀{t:Ah},C7o h m t→Pt h m t
 |[],_=>trivial
 |(g,x)::r,hh=>by
  simp only[C7o]at hh;simp only[Pt];refine⟨?_,C1u hh.2⟩;cases hm:A4 m g with
  |none=>rw[hm]at hh;exact hh.1.elim
  |some g'=>
   rw[hm]at hh;simp only at hh⊢;cases hl:A4 h g' with
   |none=>rw[hl]at hh;exact hh.1.elim
   |some x'=>
    rw[hl]at hh;have:=hh.1;cases x<;>first|exact this.elim|skip
    cases x'<;>first|exact this.elim|skip
    obtain⟨rfl,rfl⟩:=C8 this;rfl
theorem C7m.ent{k:Nat}{σ τ:St}(h:C7m k σ τ):Ent k (C27 k σ τ) σ τ:=by
 obtain⟨h1,h2,h3⟩:=h;unfold C5c at h3;simp only[Bool.and_eq_true]at h3;exact⟨C2g h1,C1u h2,h3.1.1.1,h3.1.1.2,h3.1.2,h3.2⟩
def Fam{α:Type}(st:α→St)(I:α→Prop)(μ:α→Nat):Nat→St→Prop:=fun n τ=>∃a,τ=st a∧I a∧μ a=n
theorem B2{α:Type}(st:α→St)(I:α→Prop)(μ:α→Nat){k:Nat}{f:StP→StP}{S:Af}{h:Ah}{nx:Nat}(a:α)(he:C7m k ⟨S,h,nx⟩ (st a))(hI:I a)
 (round:∀a,I a→match st a with
   |⟨S,h,nx⟩=>f (fun S h nx=>C80 k (Fam st I μ) (μ a) ⟨S,h,nx⟩) S h nx):B6g k f S h nx:=by
 refine⟨Fam st I μ,⟨_,_,_,he.ent,a,rfl,hI,rfl⟩,?_⟩;rintro n τ ⟨a,rfl,hI,rfl⟩;exact round a hI
theorem Bt{α:Type}{st:α→St}{I:α→Prop}{μ:α→Nat}{k n:Nat}{s:St}(a:α)(he:C7m k s (st a))(hI:I a)(hn:μ a<n):C80 k (Fam st I μ) n s:=.mk _ _ _ hn he.ent ⟨a,rfl,hI,rfl⟩
theorem w64{a:Int}(h: -9223372036854775808≤a∧a≤9223372036854775807):IntKind.i64.wrap a=a:=IntWalk.i64_in a h
inductive Sh where
 |int (k:IntKind)|bool|str|slice (sz:Nat) (es:List Sh)
mutual
def ofC:Sh→AV→Prop
 |.int k,v=>∃n,v=.int k n∧k.min≤n∧n≤k.max
 |.bool,v=>∃b,v=.bool b
 |.str,v=>∃s:List UInt8,v=.str s∧s.length≤9223372036854775807
 |.slice sz es,v=>∃xs:List (List AV),v=.rd sz xs∧xs.length≤9223372036854775807∧∀r,r∈xs→ofL es r
def ofL:List Sh→List AV→Prop
 |[],r=>r=[]
 |s::ss,r=>∃c cs,r=c::cs∧ofC s c∧ofL ss cs
end
mutual
def R6(P:Program):Nat→Nat→Option (List Sh)
 |0,_=>none
 |n+1,t=>match P.underlying t with
  |some (.int k)=>some [.int k]
  |some .bool=>some [.bool]
  |some .string=>some [.str]
  |some (.slice e)=>match R6 P n e with
   |some es=>match Nat.beq es.length (P.cellsOf e)&&Nat.blt 0 es.length with
    |true=>some [.slice (P.cellsOf e) es]
    |false=>none
   |none=>none
  |some (.struct fs)=>match A0u P n fs.toList 0 with
   |some ss=>match Nat.beq ss.length (P.cellsOf t)with
    |true=>some ss
    |false=>none
   |none=>none
  |_=>none
def A0u(P:Program):Nat→List Field→Nat→Option (List Sh)
 |0,_,_=>none
 |_+1,[],_=>some []
 |n+1,f::r,off=>match R6 P n f.type with
  |some ss=>match Nat.beq f.offset off&&Nat.beq ss.length (P.cellsOf f.type)with
   |true=>match A0u P n r (off+ss.length)with
    |some rr=>some (ss++rr)
    |none=>none
   |false=>none
  |none=>none
end
theorem A6i:∀{a b:List Sh} {x y:List AV},ofL a x→ofL b y→ofL (a++b) (x++y)
 |[],b,x,y,hx,hy=>by
  have:x=[]:=hx;subst this;exact hy
 |s::a,b,x,y,hx,hy=>by
  obtain⟨c,cs,rfl,h1,h2⟩:∃c cs,x=c::cs∧ofC s c∧ofL a cs:=hx;exact⟨c,cs++y,rfl,h1,A6i h2 hy⟩
theorem A4k:∀{a:List Sh} {x:List AV},ofL a x→x.length=a.length
 |[],x,hx=>by
  have:x=[]:=hx;subst this;rfl
 |s::a,x,hx=>by
  obtain⟨c,cs,rfl,h1,h2⟩:∃c cs,x=c::cs∧ofC s c∧ofL a cs:=hx;simp[A4k h2]
section
variable{H:Type}{enc:TypeId×Value→H}{P:Program}{W W':World}{held:Bool}
def Rs(y:Ctx)(W:World)(avs:List AV)(us:List Value):Prop:=avs.length=us.length∧∀(i:Nat) c u,avs[i]? =some c→us[i]? =some u→Rep y W Ax c u
theorem Rs.append{y:Ctx}{a b:List AV}{us vs:List Value}(h1:Rs y W a us)(h2:Rs y W b vs):Rs y W (a++b) (us++vs):=by
 refine⟨by simp[h1.1,h2.1],fun i c u hc hu=>?_⟩;by_cases hi:i<a.length
 ·rw[List.getElem?_append_left hi]at hc
  rw[List.getElem?_append_left (by rw[←h1.1];exact hi)]at hu;exact h1.2 i c u hc hu
 ·rw[List.getElem?_append_right (by omega)]at hc
  rw[List.getElem?_append_right (by rw[←h1.1];omega)]at hu;rw[h1.1]at hc;exact h2.2 _ c u hc hu
theorem C05{α:Type}[Inhabited α]{n:Nat}{p:Nat→α→Prop}(h:∀i,i<n→∃a,p i a):∃f:Nat→α,∀i,i<n→p i (f i):=by
 classical
 exact⟨fun i=>if hi:i<n then Classical.choose (h i hi)else default,fun i hi=>by simp only[hi,dite_true];exact Classical.choose_spec (h i hi)⟩
theorem A4o{a:Addr}{u:Value}(h:W.cell? a=some u):a.block<W.heap.size∧a.spot=none:=by
 unfold World.cell? at h;cases hb:W.heap[a.block]? with
 |none=>rw[hb]at h;cases h
 |some o=>
  refine⟨?_,?_⟩
  ·rcases Nat.lt_or_ge a.block W.heap.size with h'|h'
   ·exact h'
   ·rw[Array.getElem?_eq_none h']at hb;cases hb
  ·rw[hb]at h
   cases o<;>simp only at h<;>first|(cases h;done)|skip
   cases hs:a.spot with
   |none=>rfl
   |some s=>rw[hs]at h;simp at h
mutual
theorem B4b{y:Ctx}(hR:∀b,b<W.heap.size→y.R b)(hw:y.wr=W):∀(n:Nat) {t:Nat} {sh:List Sh},R6 P n t=some sh→∀{fuel:Nat} {cs:List Value} {x:DataW H×List MemPlace},DataW.trod enc P W 0 (fun _=>true) held fuel t cs=some x→
 ∃avs,ofL sh avs∧Rs y W avs cs
 |0,t,sh,hs,fuel,cs,x,h=>by simp[R6]at hs
 |n+1,t,sh,hs,fuel,cs,x,h=>by
  have one:∀{s:Sh} {c:AV} {u:Value},ofC s c→Rep y W Ax c u→∃avs,ofL [s] avs∧Rs y W avs [u]:=by
   intro s c u h1 h2;refine⟨[c],⟨c,[],rfl,h1,rfl⟩,rfl,fun i c' u' hc hu=>?_⟩;cases i with
   |zero=>simp only[List.getElem?_cons_zero,Option.some.injEq]at hc hu;subst hc;subst hu;exact h2
   |succ i=>simp at hc
  cases fuel with
  |zero=>simp[DataW.trod]at h
  |succ fuel=>
  simp only[R6]at hs;cases ht:P.underlying t with
  |none=>rw[ht]at hs;cases hs
  |some d=>
   rw[ht]at hs;cases d<;>simp only at hs<;>first|(cases hs;done)|skip
   ·
    simp only[Option.some.injEq]at hs;subst hs;rcases cs with _|⟨v,_|⟨v2,r⟩⟩
    ·simp[DataW.trod,ht]at h
    ·cases v<;>simp[DataW.trod,ht]at h
     exact one (c:=.bool _) ⟨_,rfl⟩ .bool
    ·simp[DataW.trod,ht]at h
   ·
    simp only[Option.some.injEq]at hs;subst hs;rcases cs with _|⟨v,_|⟨v2,r⟩⟩
    ·simp[DataW.trod,ht]at h
    ·cases v<;>simp[DataW.trod,ht]at h
     obtain⟨⟨rfl,hwf⟩,_⟩:=h;simp only[Lit.wf,Bool.and_eq_true,decide_eq_true_eq]at hwf;exact one (c:=.int _ _) ⟨_,rfl,hwf.1,hwf.2⟩ .int
    ·simp[DataW.trod,ht]at h
   ·
    simp only[Option.some.injEq]at hs;subst hs;rcases cs with _|⟨v,_|⟨v2,r⟩⟩
    ·simp[DataW.trod,ht]at h
    ·cases v<;>simp[DataW.trod,ht]at h
     rename_i s;have h1:=h.1;unfold maxLen at h1;exact one (c:=.str s.data.toList) ⟨_,rfl,h1⟩ .str
    ·simp[DataW.trod,ht]at h
   ·
    rename_i e;cases hes:R6 P n e with
    |none=>rw[hes]at hs;cases hs
    |some es=>
     rw[hes]at hs;simp only at hs;cases hb:Nat.beq es.length (P.cellsOf e)&&Nat.blt 0 es.length with
     |false=>rw[hb]at hs;cases hs
     |true=>
      rw[hb]at hs;simp only[Option.some.injEq]at hs;subst hs;simp only[Bool.and_eq_true]at hb;have hlen:=Nat.eq_of_beq_eq_true hb.1;have hpos:0<es.length:=Nat.le_of_ble_eq_true hb.2;rcases Deep.open_slice ht h with⟨rfl,_⟩|⟨a,len,cap,m,n',D,Pl,rfl,_,hl,hm,hmm,_,hx⟩
      ·exact one (c:=.rd (P.cellsOf e) []) ⟨[],rfl,by simp,by simp⟩ (.rd (xs:=[]) (fun _ _=>undef) (by simp) (by simp) (by simp[As]) (by simp[As]))
      ·simp only[if_true]at hmm
       subst hmm;have hrow:∀i,i<len→∃q:List AV×List Value,ofL es q.1∧Rs y W q.1 q.2∧q.2.length=P.cellsOf e∧∀f,f<P.cellsOf e→W.cell? ((a.add (i*P.cellsOf e)).add f)=q.2[f]? :=by
        intro i hi;obtain⟨cs',h1,h2⟩:=hx i (by omega);obtain⟨avs,h3,h4⟩:=B4b hR hw n hes h2;obtain⟨_,h5,h6⟩:=World.cells?_some h1;exact⟨(avs,cs'),h3,h4,h5,h6⟩
       obtain⟨F,hF⟩:=C05 hrow;have hat:∀{i f:Nat} {c:AV},As ((List.range len).map fun i=>(F i).1) i f=some c→i<len∧f<P.cellsOf e∧(F i).1[f]? =some c:=by
        intro i f c hc;unfold As at hc;have hi:i<len:=by
         rcases Nat.lt_or_ge i len with h|h
         ·exact h
         ·rw[List.getElem?_eq_none (by simpa using h)]at hc;cases hc
        rw[List.getElem?_map,List.getElem?_range hi]at hc;simp only[Option.map_some]at hc;refine⟨hi,?_,hc⟩;rw[←hlen,←A4k (hF i hi).1];rcases Nat.lt_or_ge f (F i).1.length with h|h
        ·exact h
        ·rw[List.getElem?_eq_none h]at hc;cases hc
       have hcell:∀{i f:Nat},i<len→f<P.cellsOf e→∃u,(F i).2[f]? =some u∧a=⟨a.block,a.off,none⟩∧W.cell? ⟨a.block,a.off+(i*P.cellsOf e+f),none⟩=some u∧a.block<W.heap.size:=by
        intro i f hi hf;obtain⟨_,_,h5,h6⟩:=hF i hi;have hu:(F i).2[f]? =some (F i).2[f]:=List.getElem?_eq_getElem (by rw[h5];exact hf);have h7:=h6 f hf;rw[hu,Deep.add_add]at h7;have h8:=A4o h7;have hz:=(hF 0 (by omega)).2.2.2 0 (by omega);have hz2:(F 0).2[0]? =some ((F 0).2[0]'(by rw[(hF 0 (by omega)).2.2.1];omega)):=List.getElem?_eq_getElem _
        rw[hz2]at hz;have hsp:a.spot=none:=by
         have:=(A4o hz).2;simpa[Addr.add]using this
        have ea:a=⟨a.block,a.off,none⟩:=by rw[←hsp]
        refine⟨_,hu,ea,?_,?_⟩
        ·rw[←h7]
         congr 1;unfold Addr.add;split
         ·rename_i h0;rw[h0];exact ea.symm
         ·rfl
        ·have:=h8.1
         unfold Addr.add at this;split at this<;>exact this
       refine one (c:=.rd (P.cellsOf e) ((List.range len).map fun i=>(F i).1)) ⟨_,rfl,by simp;unfold maxLen at hm;omega,fun r hr=>?_⟩ ?_
       ·obtain⟨i,hi,rfl⟩:=List.mem_map.1 hr
        exact(hF i (List.mem_range.1 hi)).1
       ·have hln:((List.range len).map fun i=>(F i).1).length=len:=by simp
        have key:=Rep.rd (x:=y) (w:=W) (ρ:=Ax) (s:=P.cellsOf e) (xs:=(List.range len).map fun i=>(F i).1) (a:=some a) (cap:=m) (fun i f=>(F i).2.getD f undef) (by simpa using hl) (fun r hr=>by
         obtain⟨i,hi,rfl⟩:=List.mem_map.1 hr;rw[A4k (hF i (List.mem_range.1 hi)).1,hlen]) (fun i f c hc=>by
         obtain⟨hi,hf,_⟩:=hat hc;obtain⟨u,h1,h2,h3,h4⟩:=hcell hi hf;refine⟨a.block,a.off,by rw[←h2],hR _ h4,trivial,?_⟩;rw[hw,h3];simp[List.getD,h1]) (fun i f c hc=>by
         obtain⟨hi,hf,hc'⟩:=hat hc;obtain⟨u,h1,_⟩:=hcell hi hf;have:=(hF i hi).2.1.2 f c u hc' h1;simpa[List.getD,h1]using this)
        rw[hln]at key;exact key
   ·
    rename_i fs;cases hfs:A0u P n fs.toList 0 with
    |none=>rw[hfs]at hs;cases hs
    |some ss=>
     rw[hfs]at hs;simp only at hs;cases hb:Nat.beq ss.length (P.cellsOf t)with
     |false=>rw[hb]at hs;cases hs
     |true=>
      rw[hb]at hs;simp only[Option.some.injEq]at hs;subst hs;have hlen:=Nat.eq_of_beq_eq_true hb;rw[DataW.trod_step]at h;unfold DataW.trodStep at h;simp only[ht]at h;split at h
      ·rename_i hcs
       obtain⟨xs,h1,_⟩:=Option.map_eq_some_iff.1 h;obtain⟨avs,h2,h3⟩:=C2j hR hw n hfs (fuel:=fuel) (cs:=cs) h1;refine⟨avs,h2,?_⟩;have h4:=A4k h2;have:(cs.drop 0).take ss.length=cs:=by
        rw[List.drop_zero,List.take_of_length_le (by omega)]
       rw[this]at h3;exact h3
      ·cases h
theorem C2j{y:Ctx}(hR:∀b,b<W.heap.size→y.R b)(hw:y.wr=W):∀(n:Nat) {fs:List Field} {off:Nat} {ss:List Sh},A0u P n fs off=some ss→∀{fuel:Nat} {cs:List Value} {xs:List (DataW H×List MemPlace)},
 fs.mapM (fun f=>DataW.trod enc P W 0 (fun _=>true) held fuel f.type ((cs.drop f.offset).take (P.cellsOf f.type)))=some xs→∃avs,ofL ss avs∧Rs y W avs ((cs.drop off).take ss.length)
 |0,fs,off,ss,hs,fuel,cs,xs,h=>by simp[A0u]at hs
 |n+1,[],off,ss,hs,fuel,cs,xs,h=>by
  simp only[A0u,Option.some.injEq]at hs;subst hs;exact⟨[],rfl,by simp,by simp⟩
 |n+1,f::r,off,ss,hs,fuel,cs,xs,h=>by
  simp only[A0u]at hs;cases hf:R6 P n f.type with
  |none=>rw[hf]at hs;cases hs
  |some sf=>
   rw[hf]at hs;simp only at hs;cases hb:Nat.beq f.offset off&&Nat.beq sf.length (P.cellsOf f.type)with
   |false=>rw[hb]at hs;cases hs
   |true=>
    rw[hb]at hs;simp only[Bool.and_eq_true]at hb hs;have e1:=Nat.eq_of_beq_eq_true hb.1;have e2:=Nat.eq_of_beq_eq_true hb.2;cases hr:A0u P n r (off+sf.length)with
    |none=>rw[hr]at hs;cases hs
    |some rr=>
     rw[hr]at hs;simp only[Option.some.injEq]at hs;subst hs;simp only[List.mapM_cons]at h;cases hx:DataW.trod enc P W 0 (fun _=>true) held fuel f.type ((cs.drop f.offset).take (P.cellsOf f.type))with
     |none=>rw[hx]at h;simp at h
     |some x=>
      rw[hx]at h;cases hxs:r.mapM (fun f=>DataW.trod enc P W 0 (fun _=>true) held fuel f.type ((cs.drop f.offset).take (P.cellsOf f.type)))with
      |none=>rw[hxs]at h;simp at h
      |some xs'=>
       obtain⟨a1,b1,c1⟩:=B4b hR hw n hf hx;obtain⟨a2,b2,c2⟩:=C2j hR hw n hr hxs;refine⟨a1++a2,A6i b1 b2,?_⟩;have:=c1.append c2;rw[e1,←e2]at this;have e3:((cs.drop off).take sf.length)++((cs.drop (off+sf.length)).take rr.length)=(cs.drop off).take (sf++rr).length:=by
        rw[List.length_append,List.take_add,List.drop_drop]
       rw[e3]at this;exact this
end
theorem C1a(hb:RowKit.Below W.heap.size W W'){a:Addr}{n:Nat}{cs:List Value}(h:W.cells? 0 a n=some cs):W'.cells? 0 a n=some cs:=by
 cases n with
 |zero=>unfold World.cells? at h⊢;simpa using h
 |succ n=>
  obtain⟨h1,h2,h3⟩:=World.cells?_some h;have h0:=h3 0 (by omega);have hlt:a.block<W.heap.size:=by
   rw[List.getElem?_eq_getElem (by omega)]at h0;have:=(A4o h0).1;simpa[Addr.add]using this
  have e:∀i,W'.cell? (a.add i)=W.cell? (a.add i):=fun i=>hb.cell (by unfold Addr.add;split<;>exact hlt);unfold World.cells? at h⊢;simp only[e];exact h
theorem C5e{a:Addr}{n:Nat}{cs:List Value}(hn:0<n)(h:W.cells? 0 a n=some cs):a.block<W.heap.size:=by
 obtain⟨h1,h2,h3⟩:=World.cells?_some h;have h0:=h3 0 hn;rw[List.getElem?_eq_getElem (by omega)]at h0;have:=(A4o h0).1;simpa[Addr.add]using this
mutual
theorem A13(hb:RowKit.Below W.heap.size W W'):∀(n:Nat) {t:Nat} {sh:List Sh},R6 P n t=some sh→∀{fuel:Nat} {cs:List Value} {x:DataW H×List MemPlace},DataW.trod enc P W 0 (fun _=>true) held fuel t cs=some x→
 ∃m,DataW.trod enc P W' 0 (fun b=>decide (b<W.heap.size)) held m t cs=some x
 |0,t,sh,hs,fuel,cs,x,h=>by simp[R6]at hs
 |n+1,t,sh,hs,fuel,cs,x,h=>by
  cases fuel with
  |zero=>simp[DataW.trod]at h
  |succ fuel=>
  simp only[R6]at hs;cases ht:P.underlying t with
  |none=>rw[ht]at hs;cases hs
  |some d=>
   rw[ht]at hs;cases d<;>simp only at hs<;>first|(cases hs;done)|skip
   ·refine⟨1,?_⟩
    rcases cs with _|⟨v,_|⟨v2,r⟩⟩
    ·simp[DataW.trod,ht]at h
    ·cases v<;>simp[DataW.trod,ht]at h⊢
     exact h
    ·simp[DataW.trod,ht]at h
   ·refine⟨1,?_⟩
    rcases cs with _|⟨v,_|⟨v2,r⟩⟩
    ·simp[DataW.trod,ht]at h
    ·cases v<;>simp[DataW.trod,ht]at h⊢
     exact h
    ·simp[DataW.trod,ht]at h
   ·refine⟨1,?_⟩
    rcases cs with _|⟨v,_|⟨v2,r⟩⟩
    ·simp[DataW.trod,ht]at h
    ·cases v<;>simp[DataW.trod,ht]at h⊢
     exact h
    ·simp[DataW.trod,ht]at h
   ·rename_i e
    cases hes:R6 P n e with
    |none=>rw[hes]at hs;cases hs
    |some es=>
     rw[hes]at hs;simp only at hs;cases hbb:Nat.beq es.length (P.cellsOf e)&&Nat.blt 0 es.length with
     |false=>rw[hbb]at hs;cases hs
     |true=>
      simp only[Bool.and_eq_true]at hbb;have hlen:=Nat.eq_of_beq_eq_true hbb.1;have hpos:0<es.length:=Nat.le_of_ble_eq_true hbb.2;rcases Deep.open_slice ht h with⟨rfl,rfl⟩|⟨a,len,cap,m,n',D,Pl,rfl,h0,hl,hm,hmm,rfl,hx⟩
      ·exact⟨1,by simp[DataW.trod,ht]⟩
      ·simp only[if_true]at hmm
       subst hmm;have hx':∀i,i<m→∃cs k,W'.cells? 0 (a.add (i*P.cellsOf e)) (P.cellsOf e)=some cs∧DataW.trod enc P W' 0 (fun b=>decide (b<W.heap.size)) held k e cs=some (D i,Pl i):=by
        intro i hi;obtain⟨cs',h1,h2⟩:=hx i hi;obtain⟨k,hk⟩:=A13 hb n hes h2;exact⟨cs',k,C1a hb h1,hk⟩
       by_cases hlt:a.block<W.heap.size
       ·exact Deep.shut_slice_whole_cells ht h0 hl hm (by simpa using hlt) D Pl hx'
       ·have hm0:m=0:=by
         rcases Nat.eq_zero_or_pos m with h|h
         ·exact h
         ·obtain⟨cs',h1,_⟩:=hx 0 h
          have:=C5e (by omega) h1;simp[Addr.add]at this;omega
        subst hm0;obtain rfl:len=0:=by omega
        simpa using Deep.shut_slice_cells (w:=W') (spare:=fun b=>decide (b<W.heap.size)) (held:=held) (enc:=enc) (P:=P) ht h0 hl hm (by simpa using hlt) D Pl (by simp)
   ·rename_i fs
    cases hfs:A0u P n fs.toList 0 with
    |none=>rw[hfs]at hs;cases hs
    |some ss=>
     rw[DataW.trod_step]at h;unfold DataW.trodStep at h;simp only[ht]at h;split at h
     ·rename_i hcs
      obtain⟨xs,h1,h2⟩:=Option.map_eq_some_iff.1 h;obtain⟨m,hm⟩:=A2m hb n hfs h1;refine⟨m+1,?_⟩;rw[←h2];exact ChangeShapes.trod_struct_mk ht hcs hm
     ·cases h
theorem A2m(hb:RowKit.Below W.heap.size W W'):∀(n:Nat) {fs:List Field} {off:Nat} {ss:List Sh},A0u P n fs off=some ss→∀{fuel:Nat} {cs:List Value} {xs:List (DataW H×List MemPlace)},
 fs.mapM (fun f=>DataW.trod enc P W 0 (fun _=>true) held fuel f.type ((cs.drop f.offset).take (P.cellsOf f.type)))=some xs→
 ∃m,fs.mapM (fun f=>DataW.trod enc P W' 0 (fun b=>decide (b<W.heap.size)) held m f.type ((cs.drop f.offset).take (P.cellsOf f.type)))=some xs
 |0,fs,off,ss,hs,fuel,cs,xs,h=>by simp[A0u]at hs
 |n+1,[],off,ss,hs,fuel,cs,xs,h=>⟨0,by simpa using h⟩
 |n+1,f::r,off,ss,hs,fuel,cs,xs,h=>by
  simp only[A0u]at hs;cases hf:R6 P n f.type with
  |none=>rw[hf]at hs;cases hs
  |some sf=>
   rw[hf]at hs;simp only at hs;cases hbb:Nat.beq f.offset off&&Nat.beq sf.length (P.cellsOf f.type)with
   |false=>rw[hbb]at hs;cases hs
   |true=>
    rw[hbb]at hs;simp only at hs;cases hr:A0u P n r (off+sf.length)with
    |none=>rw[hr]at hs;cases hs
    |some rr=>
     simp only[List.mapM_cons]at h;cases hx:DataW.trod enc P W 0 (fun _=>true) held fuel f.type ((cs.drop f.offset).take (P.cellsOf f.type))with
     |none=>rw[hx]at h;simp at h
     |some x=>
      rw[hx]at h;cases hxs:r.mapM (fun f=>DataW.trod enc P W 0 (fun _=>true) held fuel f.type ((cs.drop f.offset).take (P.cellsOf f.type)))with
      |none=>rw[hxs]at h;simp at h
      |some xs'=>
       rw[hxs]at h;obtain⟨m1,h1⟩:=A13 hb n hf hx;obtain⟨m2,h2⟩:=A2m hb n hr hxs;refine⟨max m1 m2,?_⟩;have up:∀(l:List Field) (ys:List (DataW H×List MemPlace)),l.mapM (fun f=>DataW.trod enc P W' 0 (fun b=>decide (b<W.heap.size)) held m2 f.type ((cs.drop f.offset).take (P.cellsOf f.type)))=some ys→l.mapM (fun f=>DataW.trod enc P W' 0 (fun b=>decide (b<W.heap.size)) held (max m1 m2) f.type ((cs.drop f.offset).take (P.cellsOf f.type)))=some ys:=by
        intro l;induction l with
        |nil=>intro ys h;exact h
        |cons g l ih=>
         intro ys h;simp only[List.mapM_cons]at h⊢;cases hg:DataW.trod enc P W' 0 (fun b=>decide (b<W.heap.size)) held m2 g.type ((cs.drop g.offset).take (P.cellsOf g.type))with
         |none=>rw[hg]at h;simp at h
         |some z=>
          rw[hg]at h;rw[DataW.trod_le (Nat.le_max_right m1 m2) hg];cases hl:l.mapM (fun f=>DataW.trod enc P W' 0 (fun b=>decide (b<W.heap.size)) held m2 f.type ((cs.drop f.offset).take (P.cellsOf f.type)))with
          |none=>rw[hl]at h;simp at h
          |some zs=>
           rw[hl]at h;rw[ih zs hl];exact h
       simp only[List.mapM_cons];rw[DataW.trod_le (Nat.le_max_left m1 m2) h1,up _ _ h2];exact h
end
theorem A0b(hb:RowKit.Below W.heap.size W W'):∀{ts:List TypeId} {vs:List Value} {ds:List (DataW H)} {ps:List MemPlace},(∀t,t∈ts→∃n sh,R6 P n t=some sh)→DataW.TrodAll enc P W 0 (fun _=>true) held ts vs ds ps→
 DataW.TrodAll enc P W' 0 (fun b=>decide (b<W.heap.size)) held ts vs ds ps
 |[],vs,ds,ps,hs,h=>by
  obtain⟨rfl,rfl,rfl⟩:=ChangeShapes.trodAll_nil h;exact rfl
 |t::ts,vs,ds,ps,hs,h=>by
  obtain⟨v,vs',d,ds',p,q,rfl,rfl,rfl,⟨fuel,h1⟩,h2⟩:=ChangeShapes.trodAll_cons h;obtain⟨n,sh,hsh⟩:=hs t (by simp);exact⟨p,q,A13 hb n hsh h1,A0b hb (fun t ht=>hs t (by simp[ht])) h2,rfl⟩
def C6r(P:Program)(n:Nat)(t:Nat)(a:AV):Prop:=∃sh avs,R6 P n t=some sh∧ofL sh avs∧match P.underlying t with
 |some (.struct _)=>a=.agg avs
 |_=>avs=[a]
def B61(P:Program)(n:Nat):List TypeId→List AV→Prop
 |[],as=>as=[]
 |t::ts,as=>∃a r,as=a::r∧C6r P n t a∧B61 P n ts r
def Lq:Nat→List AV→Af
 |_,[]=>[]
 |d,a::r=>(d,⟨none,a⟩)::Lq (d+1) r
theorem C1z:∀{ms:List Mz} {as:List AV} {d g:Nat} {K:Af→Ah→Nat→List Nat→Prop},Jr ms=true→Bn d g ms as K→K (Lq d as) [] g []∧as.length=ms.length
 |[],[],d,g,K,ha,hk=>⟨hk,rfl⟩
 |[],_::_,d,g,K,ha,hk=>by simp[Bn]at hk
 |.rd ts::ms,[],d,g,K,ha,hk=>by simp[Bn]at hk
 |.rd ts::ms,a::as,d,g,K,ha,hk=>by
  simp only[Bn]at hk;obtain⟨h1,h2⟩:=C1z (ms:=ms) (as:=as) ha hk;exact⟨h1,by simp[h2]⟩
 |.co ts::ms,as,d,g,K,ha,hk=>by cases ha
 |.mv::ms,as,d,g,K,ha,hk=>by cases ha
 |.mp::ms,as,d,g,K,ha,hk=>by cases ha
 |.ma::ms,as,d,g,K,ha,hk=>by cases ha
theorem A0i:∀{as:List AV} {d e:Nat} {s:B20},A4 (Lq d as) e=some s→s.c=none∧d≤e∧as[e - d]? =some s.v
 |[],d,e,s,h=>by cases h
 |a::r,d,e,s,h=>by
  simp only[Lq]at h;rw[Ac]at h;by_cases hd:d=e
  ·rw[if_pos hd]at h
   simp only[Option.some.injEq]at h;subst hd;subst h;exact⟨rfl,Nat.le_refl _,by simp⟩
  ·rw[if_neg hd]at h
   obtain⟨h1,h2,h3⟩:=A0i h;refine⟨h1,by omega,?_⟩;have:e - d=(e - (d+1))+1:=by omega
   rw[this];exact h3
def A1i(W:World):Ctx:={w0:=W,M:=fun _=>False,k:=0,β:=fun _=>none,R0:=fun b=>b<W.heap.size,R:=fun b=>b<W.heap.size,wr:=W}
theorem C8f(W:World):Bp (A1i W) W [] (fun g=>g<0) [] (fun _=>undef) (fun _=>Ax)where
 os:=rfl
 tape:=rfl
 output:=rfl
 size:=Nat.le_refl _
 frame:=fun _ _ _=>rfl
 root:=fun g r h=>by cases h
 loose:=fun j c h=>by simp at h
 live:=fun k p q h=>by simp[Ax]at h
 nobase:=rfl
 inj:=fun k p k' p' b o o' h=>by simp[Ax]at h
 mine:=fun k p b o h=>by simp[Ax]at h
 ids:=fun g r h=>by cases h
 keeps:=fun b c h=>⟨c,h,rfl⟩
 base:=fun g r h=>absurd h (Nat.not_lt_zero _)
 kn:=fun g h=>absurd h (Nat.not_lt_zero _)
 fixed:=fun b _=>rfl
 rsub:=fun b h=>.inl h
 rlt:=fun b h=>h
theorem C5r{W:World}{base n:Nat}{t:TypeId}{v:Value}{d:DataW H}{p:List MemPlace}(hv:Value.okWide P W .any base t v)(ht:DataW.Trod enc P W 0 (fun _=>true) held t v d p)(hs:∃sh,R6 P n t=some sh){h:Ah}{nn:Nat→Prop}{ρ:Option Nat→Am}:
 ∃a,C6r P n t a∧Az (A1i W) W h nn ρ a v:=by
 obtain⟨sh,hsh⟩:=hs;obtain⟨fuel,hf⟩:=ht;obtain⟨avs,h1,h2⟩:=B4b (y:=A1i W) (fun b hb=>hb) rfl n hsh hf;by_cases hst:∃fs,P.underlying t=some (.struct fs)
 ·obtain⟨fs,hfs⟩:=hst
  unfold Value.okWide at hv;rw[hfs]at hv;obtain⟨cs,rfl,_,_⟩:=hv;refine⟨.agg avs,⟨sh,avs,hsh,h1,by rw[hfs]⟩,.agg (by simpa[Value.cells]using h2.1.symm) fun i c hc=>.cell ?_⟩;have hi:i<cs.size:=by
   have:i<avs.length:=by
    rcases Nat.lt_or_ge i avs.length with h|h
    ·exact h
    ·rw[List.getElem?_eq_none h]at hc;cases hc
   have:=h2.1;simp[Value.cells]at this;omega
  have:=h2.2 i c cs[i] hc (by simp[Value.cells,hi]);simpa[Array.getD_eq_getD_getElem?,hi]using this
 ·have hcell:v.cells=#[v]∧∃s,sh=[s]:=by
   cases n with
   |zero=>simp[R6]at hsh
   |succ n=>
    simp only[R6]at hsh;cases hu:P.underlying t with
    |none=>rw[hu]at hsh;cases hsh
    |some dd=>
     rw[hu]at hsh;cases dd<;>simp only at hsh<;>first|(cases hsh;done)|skip
     ·obtain⟨b,rfl⟩:=WideShapes.okWide_bool hu hv
      simp only[Option.some.injEq]at hsh;exact⟨rfl,_,hsh.symm⟩
     ·obtain⟨m,rfl⟩:=WideShapes.okWide_int hu hv
      simp only[Option.some.injEq]at hsh;exact⟨rfl,_,hsh.symm⟩
     ·obtain⟨s,rfl⟩:=WideShapes.okWide_string hu hv
      simp only[Option.some.injEq]at hsh;exact⟨rfl,_,hsh.symm⟩
     ·rename_i e
      obtain⟨a,l,c,rfl⟩:=WideShapes.okWide_slice hu hv;refine⟨rfl,?_⟩;cases hes:R6 P n e with
      |none=>rw[hes]at hsh;cases hsh
      |some es=>
       rw[hes]at hsh;simp only at hsh;split at hsh
       ·simp only[Option.some.injEq]at hsh;exact⟨_,hsh.symm⟩
       ·cases hsh
     ·exact absurd ⟨_,hu⟩ hst
  obtain⟨hc,s,rfl⟩:=hcell;obtain⟨c,cs,rfl,h3,h4⟩:∃c cs,avs=c::cs∧ofC s c∧ofL [] cs:=h1;obtain rfl:cs=[]:=h4;refine⟨c,⟨[s],[c],hsh,⟨c,[],rfl,h3,rfl⟩,?_⟩,.cell ?_⟩
  ·cases hu:P.underlying t with
   |none=>rfl
   |some dd=>cases dd<;>first|rfl|exact absurd ⟨_,hu⟩ hst
  ·exact h2.2 0 c v rfl (by rw[hc];rfl)
theorem B2p{W:World}{base n:Nat}:∀{ts:List TypeId} {vs:List Value} {ds:List (DataW H)} {ps:List MemPlace},(∀(j:Nat) t v,ts[j]? =some t→vs[j]? =some v→Value.okWide P W .any base t v)→DataW.TrodAll enc P W 0 (fun _=>true) held ts vs ds ps→(∀t,t∈ts→∃sh,R6 P n t=some sh)→
 ∃as,B61 P n ts as∧as.length=vs.length∧ds.length=ts.length∧∀(j:Nat) a,as[j]? =some a→∃v,vs[j]? =some v∧Az (A1i W) W [] (fun g=>g<0) (fun _=>Ax) a v
 |[],vs,ds,ps,hv,h,hs=>by
  obtain⟨rfl,rfl,rfl⟩:=ChangeShapes.trodAll_nil h;exact⟨[],rfl,rfl,rfl,by simp⟩
 |t::ts,vs,ds,ps,hv,h,hs=>by
  obtain⟨v,vs',d,ds',p,q,rfl,rfl,rfl,h1,h2⟩:=ChangeShapes.trodAll_cons h;obtain⟨a,ha,hr⟩:=C5r (hv 0 t v rfl rfl) h1 (hs t (by simp)) (h:=[]) (nn:=fun g=>g<0) (ρ:=fun _=>Ax);obtain⟨as,b1,b2,b3,b4⟩:=B2p (fun j t v h1 h2=>hv (j+1) t v (by simpa using h1) (by simpa using h2)) h2 (fun t ht=>hs t (by simp[ht]));refine⟨a::as,⟨a,as,rfl,ha,b1⟩,by simp[b2],by simp[b3],fun j a' hj=>?_⟩;cases j with
  |zero=>
   simp only[List.getElem?_cons_zero,Option.some.injEq]at hj;subst hj;exact⟨v,rfl,hr⟩
  |succ j=>exact b4 j a' (by simpa using hj)
theorem C3y{f n base:Nat}{c:Bd}(hcon:Au P f c)(hpt:c.ptr=false)(hcall:∀(args:Array Value) (w:World),(callFunc f args).run P w=.ok (.enter f args) w){ts:List TypeId}(hms:Jr c.ms=true)(hts:c.ms.length=ts.length)
 (hsh:∀t,t∈ts→∃sh,R6 P n t=some sh)(hargs:∀as,B61 P n ts as→∃x,c.pre x∧c.enc x=as∧c.res x=.bool true)
 {W:World}(hG:GOk c.gw W fun _=>False){args:Array Value}{ds:List (DataW H)}{ps:List MemPlace}(hv:∀(j:Nat) t v,ts[j]? =some t→args[j]? =some v→Value.okWide P W .any base t v)(hT:DataW.TrodAll enc P W 0 (fun _=>true) held ts args.toList ds ps):
 Calls P f args W fun e W'=>e=.returned (.bool true)∧RowKit.Below W.heap.size W W'∧DataW.TrodAll enc P W' 0 (fun b=>decide (b<W.heap.size)) held ts args.toList ds ps:=by
 obtain⟨as,h1,h2,h3,h4⟩:=B2p (fun j t v a b=>hv j t v a (by simpa using b)) hT hsh;obtain⟨x,hpre,henc,hres⟩:=hargs as h1;obtain⟨_,_,hn,hini⟩:=hcon x hpre;rw[henc]at hini;obtain⟨⟨_,hgo⟩,hl⟩:=C1z hms hini;have hsz:args.size=c.ms.length:=by
  rw[←hl,h2];simp
 have hsl:Aw (A1i W) W [] (fun g=>g<0) (fun _=>Ax) (Lq 0 as) args:=by
  intro d s hd;obtain⟨a1,a2,a3⟩:=A0i hd;refine⟨fun _=>?_,fun hf=>by rw[a1]at hf;cases hf⟩;obtain⟨v,b1,b2⟩:=h4 _ _ a3;have e:args.getD d undef=v:=by
   have:args[d]? =some v:=by simpa using b1
   simp[Array.getD_eq_getD_getElem?,this]
  rw[e];exact b2
 rw[hres,hpt]at hgo;obtain⟨v,os,⟨e1,e2⟩,_,_,_,_,hct⟩:=hgo (A1i W) W args (fun _=>Ax) rfl rfl rfl rfl hG hsz (C8f W) hsl 0 (Nat.le_refl _) (fun v os=>v=.bool true∧os=[]) ⟨rfl,rfl⟩;subst e1;subst e2;rcases hct with⟨_,hc⟩|⟨u,w',hc,_⟩|⟨row,as',w1,hc,_⟩
 ·refine hc.mono fun e W' ⟨u,he,R',wr',ρf,hR,HF,hs⟩=>?_
  have hu:=K1 hs;have hbel:RowKit.Below W.heap.size W W':=⟨HF.os,HF.tape,HF.output,HF.size,fun k hk=>HF.frame k hk (fun h=>h)⟩
  exact⟨by rw[he,hu],hbel,A0b hbel (fun t ht=>⟨n,hsh t ht⟩) hT⟩
 ·rw[hcall]at hc;cases hc
 ·rw[hcall]at hc;cases hc
end
theorem A8d:∀{ms:List Mz} {as:List AV} {d g:Nat} {K:Af→Ah→Nat→List Nat→Prop},Jr ms=true→as.length=ms.length→K (Lq d as) [] g []→Bn d g ms as K
 |[],[],d,g,K,ha,hl,hk=>hk
 |[],_::_,d,g,K,ha,hl,hk=>by simp at hl
 |.rd ts::ms,[],d,g,K,ha,hl,hk=>by simp at hl
 |.rd ts::ms,a::as,d,g,K,ha,hl,hk=>by
  simp only[Bn];exact A8d (ms:=ms) (as:=as) ha (by simpa using hl) hk
 |.co ts::ms,as,d,g,K,ha,hl,hk=>by cases ha
 |.mv::ms,as,d,g,K,ha,hl,hk=>by cases ha
 |.mp::ms,as,d,g,K,ha,hl,hk=>by cases ha
 |.ma::ms,as,d,g,K,ha,hl,hk=>by cases ha
theorem Xk:∀{as:List AV} {d j:Nat} {a:AV},as[j]? =some a→A4 (Lq d as) (d+j)=some ⟨none,a⟩
 |[],d,j,a,h=>by simp at h
 |x::r,d,0,a,h=>by
  simp only[List.getElem?_cons_zero,Option.some.injEq]at h;subst h;simp[Lq,Ac]
 |x::r,d,j+1,a,h=>by
  simp only[Lq,Ac];rw[if_neg (by omega),show d+(j+1)=d+1+j by omega];exact Xk (by simpa using h)
def AV.plain:AV→Bool
 |.int _ _|.bool _|.str _|.nilI=>true
 |_=>false
def Qd:AV→Value
 |.int k n=>.int k n
 |.bool b=>.bool b
 |.str s=>Dn s
 |_=>.nilIface
theorem A6w{x:Ctx}{w:World}{ρ:Am}{v:AV}(h:v.plain=true):Rep x w ρ v (Qd v):=by
 cases v<;>first|exact .int|exact .bool|exact .str|exact .nilI|cases h
def AV.flatI:AV→Bool
 |.someI=>true
 |v=>v.plain
def AV.flatTop:AV→Bool
 |.tup vs=>vs.all AV.flatI
 |v=>v.flatI
theorem Xt:∀{vs:List AV} {id:Nat} {K:List AV→Ah→Nat→Prop},vs.all AV.flatI=true→Bw id vs K→K vs [] id
 |[],id,K,h,hk=>hk
 |v::vs,id,K,h,hk=>by
  simp only[List.all_cons,Bool.and_eq_true]at h;have e:Bw id (v::vs) K=Bw id vs fun vs' os' n'=>K (v::vs') ([]++os') n':=by
   have:=h.1;cases v<;>first|rfl|cases this
  rw[e]at hk;exact Xt (K:=fun vs' os' n'=>K (v::vs') ([]++os') n') h.2 hk
theorem B8h{id:Nat}{v:AV}{K:AV→Ah→Prop}(h:v.flatTop=true)(hk:Ib id v K):K v []:=by
 cases v<;>first|exact hk|(cases h;done)|skip
 rename_i vs;exact(Bj (Xt (K:=fun vs' os n=>leN n (id+16) (K (.tup vs') os)) h hk)).2
theorem Vc:∀{vs:List AV},vs.all AV.flatI=true→A7 vs
 |[],_=>trivial
 |v::vs,h=>by
  simp only[List.all_cons,Bool.and_eq_true]at h;have h1:=h.1;exact⟨by(cases v<;>first|trivial|(cases h1;done)),Vc h.2⟩
theorem B5q{v:AV}(h:v.flatTop=true):v.noRd:=by
 cases v<;>first|trivial|(cases h;done)|skip
 exact Vc h
theorem B6s{p:Nat→Br→Prop}{v:AV}(h:v.flatTop=true):E4 p v:=by
 cases v<;>first|(constructor;done)|(cases h;done)|skip
 rename_i vs;refine .tup fun c hc=>?_;have:=List.all_eq_true.1 h c hc;cases c<;>first|(constructor;done)|cases this
theorem A9o{P:Program}{f:Nat}{c:Bd}(hms:Jr c.ms=true)(hout:∀x,c.out x=[])(hres:∀x,(c.res x).flatTop=true)(henc:∀x,(c.enc x).length=c.ms.length)(hfe:∀x,c.pre x→A2 (c.enc x))
 (hcall:∀(args:Array Value) (w:World),(callFunc f args).run P w=.ok (.enter f args) w)
 (h:∀x,c.pre x→∀(y:Ctx) (w:World) (args:Array Value) (ρ:Option Nat→Am),c.gw w→y.wr=w→(∀b,y.R b→b<w.heap.size)→args.size=c.ms.length→(∀j a,(c.enc x)[j]? =some a→Az y w [] (fun g=>g<0) ρ a (args.getD j undef))→
   Calls P f args w fun e w'=>∃u,e=.returned u∧(∀(y':Ctx) (hh:Ah) (nn:Nat→Prop) (ρ':Option Nat→Am),Az y' w' hh nn ρ' (c.res x) u)∧RowKit.Below w.heap.size w w')(hpt:c.ptr=false:=by rfl):Au P f c:=by
 intro x hx;refine⟨hfe x hx,by rw[hout];trivial,fun _=>by rw[hout];trivial,A8d hms (henc x) ⟨by rw[hout];trivial,?_⟩⟩;intro y w args ρ hw0 hk hR hwr hG hsz H hs idr hidr K hK;rw[hpt]at hK;have hfl:=hres x;have hK':K (c.res x) []:=B8h hfl hK;have hnr:=B5q hfl;refine⟨c.res x,[],hK',B6s hfl,by intro g r hg;simp[A4]at hg,fun _=>hnr,AV.noRd_free hnr,.inl ⟨hcall _ _,(h x hx y w args ρ (hw0▸hG.here) hwr H.rlt hsz fun j a ha=>?_).mono ?_⟩⟩
 ·have:=(hs (0+j) ⟨none,a⟩ (Xk ha)).1 trivial
  simpa using this
 ·rintro e w' ⟨u,rfl,hu,hb⟩
  refine⟨_,rfl,y.R,y.wr,fun _=>Ax,fun _ h=>h,?_,hu _ _ _ _⟩;rw[hout];exact{
   os:=hb.os.trans H.os
   tape:=hb.tape.trans H.tape
   output:=hb.output.trans H.output
   size:=Nat.le_trans H.size hb.size
   frame:=fun b hb1 hm=>(hb.block b (Nat.lt_of_lt_of_le hb1 H.size)).trans (H.frame b hb1 hm)
   root:=fun g r h=>by cases h
   loose:=fun j c h=>by simp at h
   live:=fun k p q h=>by simp[Ax]at h
   nobase:=rfl
   inj:=fun k p k' p' b o o' h=>by simp[Ax]at h
   mine:=fun k p b o h=>by simp[Ax]at h
   ids:=fun g r h=>by cases h
   keeps:=fun b c hbk=>by
    obtain⟨c',h1,h2⟩:=H.keeps b c hbk;refine⟨c',h1.congr (hb.block b ?_),h2⟩;obtain⟨e,fz,h3,_⟩:=hbk;have hlt:=(Array.getElem?_eq_some_iff.1 h3).1;exact Nat.lt_of_lt_of_le hlt H.size
   base:=fun g r hg h=>by cases h
   kn:=fun g hg=>.inl (H.kn g hg)
   fixed:=fun b hb1=>(hb.block b (H.rlt b hb1)).trans (H.fixed b hb1)
   rsub:=H.rsub
   rlt:=fun b hb1=>Nat.lt_of_lt_of_le (H.rlt b hb1) hb.size}
theorem Ps{P:Program}{f:Nat}{c:Bd}(hms:Jr c.ms=true)(hout:∀x,c.out x=[])(hres:∀x,(c.res x).plain=true)(henc:∀x,(c.enc x).length=c.ms.length)(hfe:∀x,c.pre x→A2 (c.enc x))
 (hcall:∀(args:Array Value) (w:World),(callFunc f args).run P w=.ok (.enter f args) w)
 (h:∀x,c.pre x→∀(y:Ctx) (w:World) (args:Array Value) (ρ:Option Nat→Am),y.wr=w→(∀b,y.R b→b<w.heap.size)→args.size=c.ms.length→(∀j a,(c.enc x)[j]? =some a→Az y w [] (fun g=>g<0) ρ a (args.getD j undef))→
   Calls P f args w fun e w'=>e=.returned (Qd (c.res x))∧RowKit.Below w.heap.size w w')(hpt:c.ptr=false:=by rfl):Au P f c:=
 A9o hms hout (fun x=>by have:=hres x;revert this;cases c.res x<;>intro h<;>first|rfl|cases h) henc hfe hcall (fun x hx y w args ρ _ hwr hR hsz hs=>(h x hx y w args ρ hwr hR hsz hs).mono fun e w' ⟨he,hb⟩=>⟨_,he,fun _ _ _ _=>.cell (A6w (hres x)),hb⟩) hpt
end Go.GH
