import Derived.Test.YtpbpaijjpglmlaaGreatGB
set_option linter.unusedVariables false
set_option linter.unusedSimpArgs false
namespace Go.GH
open Go
section
variable{P:Program}{E:Env}{x:Ctx}{w w':World}{h h2 hf hc hy:Ah}{n n2 nn nf:Nat→Prop}{L L2:List AV}{U U':Nat→Value}{ρ ρ2 ρf:Option Nat→Am}{sh:Bool}{id:Nat}
theorem C7y{d g:Nat}{ts:List (Option Nat)}{ms:List Mz}{c:AV}{as:List AV}{K:Af→Ah→Nat→List Nat→Prop}(hag:∀cs,c≠.agg cs)(hk:Bn d g (.co ts::ms) (c::as) K):
 B8 g [c] fun cs' os n1=>Bn (d+1) n1 ms as fun S h n mu=>K ((d,⟨none,cs'.headD .undef⟩)::S) (os++h) n mu:=by
 cases c<;>first|exact hk|exact absurd rfl (hag _)
theorem B9d{gs:List (Nat×Br)}(H2:Bp x w h2 n2 L2 U' ρ2){ts:List (Option Nat)}{v:AV}{u:Value}(hm:A89 x w h2 n2 ρ2 v u)(hg:∀g,g∈v.ids→∀(j:Nat) (p:Br),gs[j]? ≠some (g,p))(hfr:(Ud sh h2 ts v).free){hy:Ah}{ny:Nat→Prop}{ρy:Option Nat→Am}:
 Az (Ga sh x w ρ2 gs) w hy ny ρy (Ud sh h2 ts v) u:=by
 have cells:∀{ts:List (Option Nat)} {cs:List AV},(Hk sh h2 ts cs).length=cs.length∧∀(i:Nat) c,(Hk sh h2 ts cs)[i]? =some c→∃t d,cs[i]? =some d∧c=Kz sh h2 t d:=by
  intro ts cs;induction cs generalizing ts with
  |nil=>cases ts<;>exact⟨rfl,by simp[Hk]⟩
  |cons a r ih=>
   cases ts with
   |nil=>
    obtain⟨h1,h3⟩:=ih (ts:=[]);refine⟨by simp[Hk,h1],fun i c hi=>?_⟩;cases i with
    |zero=>exact⟨none,a,rfl,by simpa[Hk]using hi.symm⟩
    |succ i=>simpa using h3 i c (by simpa[Hk]using hi)
   |cons t ts=>
    obtain⟨h1,h3⟩:=ih (ts:=ts);refine⟨by simp[Hk,h1],fun i c hi=>?_⟩;cases i with
    |zero=>exact⟨t,a,rfl,by simpa[Hk]using hi.symm⟩
    |succ i=>simpa using h3 i c (by simpa[Hk]using hi)
 cases v with
 |agg cs=>
  obtain⟨us,rfl,h1,h3⟩:=hm;obtain⟨c1,c2⟩:=cells (ts:=ts) (cs:=cs);refine .agg (by rw[c1];exact h1) fun i c hi=>?_;obtain⟨t,d,hd,rfl⟩:=c2 i c hi;exact Sb H2 (h3 i d hd) (fun g hgg=>hg g (Ob hd g hgg)) (H6 hfr (List.mem_of_getElem? hi))
 |fn f cs=>
  obtain⟨us,rfl,h1,h3⟩:=hm;obtain⟨c1,c2⟩:=cells (ts:=[]) (cs:=cs);refine .fn (by rw[c1];exact h1) fun i c hi=>?_;obtain⟨t,d,hd,rfl⟩:=c2 i c hi;exact Sb H2 (h3 i d hd) (fun g hgg=>hg g (Ob hd g hgg)) (H6 hfr (List.mem_of_getElem? hi))
 |tup cs=>exact .void
 |_=>refine Sb (sh:=sh) (t:=ts.headD none) H2 (by rw[So (by simp) (by simp)]at hm;exact hm) (fun g hgg=>hg g (by rw[Vn (by simp) (by simp) (by simp)];exact hgg)) (by exact hfr)
theorem Vq(h1:∀g,n g→A4 h2 g=A4 h g){ts:List (Option Nat)}{v:AV}(hv:∀g,g∈v.ids→n g):Ud sh h ts v=Ud sh h2 ts v:=by
 have hget':∀g p,n g→hget h2 g p=hget h g p:=fun g p hn=>by unfold hget;rw[h1 g hn]
 have cell:∀{t:Option Nat} {c:AV},(∀g,g∈c.ids1→n g)→Kz sh h t c=Kz sh h2 t c:=by
  intro t c hc;cases c with
  |view g p off len=>simp only[Kz];rw[hget' g p (hc g (by simp[AV.ids1]))]
  |bx g f=>simp only[Kz];rw[h1 g (hc g (by simp[AV.ids1]))]
  |ptr g p i f=>simp only[Kz];rw[hget' g p (hc g (by simp[AV.ids1]))]
  |_=>rfl
 have cells:∀{ts:List (Option Nat)} {cs:List AV},(∀g,g∈G9 cs→n g)→Hk sh h ts cs=Hk sh h2 ts cs:=by
  intro ts cs hcs;induction cs generalizing ts with
  |nil=>cases ts<;>rfl
  |cons a r ih=>
   have ha:=cell (t:=none) (c:=a) fun g hg=>hcs g (by simp[G9,hg]);have hr:=fun ts=>ih (ts:=ts) fun g hg=>hcs g (by simp[G9,hg]);cases ts with
   |nil=>simp only[Hk];rw[ha,hr]
   |cons t ts=>
    have ha:=cell (t:=t) (c:=a) fun g hg=>hcs g (by simp[G9,hg]);simp only[Hk];rw[ha,hr]
 cases v with
 |agg cs=>simp only[Ud];rw[cells hv]
 |fn f cs=>simp only[Ud];rw[cells hv]
 |tup cs=>rfl
 |_=>exact cell (t:=ts.headD none) fun g hg=>hv g (by rw[Vn (by simp) (by simp) (by simp)];exact hg)
theorem C0h(H:Bp x w h n L U ρ)(H2:Bp x w h2 n2 L2 U' ρ2)(R1:∀(i:Nat) s xs,L[i]? =some (.own s xs)→A4 h2 (id+i)=some (.own s xs)∧∀q,ρ2 (some (id+i)) q=ρ none ((0,i)::q))
 (R2:∀g,n g→A4 h2 g=A4 h g∧ρ2 (some g)=ρ (some g))(R3:∀g,n g→n2 g)(R4:∀(i:Nat) s xs,L[i]? =some (.own s xs)→¬n (id+i)):
 ∀{i:Nat} {ms:List Mz} {as:List AV} {us:List Value} {qs:List (Nat×Br)} {rs ws:List Nat},Sc sh x w h n ρ L U i ms as us qs rs ws→A2 as→qs.length≤1→∀d g0,∃gs Sy hy mu,(∀K,Bn d g0 ms as K→K Sy hy (g0+gs.length) mu)∧
  A39 id L h2 qs i g0 gs hy∧(∀(t t' g:Nat) (p p':Br),gs[t]? =some (g,p)→gs[t']? =some (g,p')→t=t')∧
  (mu.length=qs.length∧∀(t j:Nat),mu[t]? =some j→∃(g:Nat) (p:Br),qs[t]? =some (g,p)∧g0≤j∧gs[j - g0]? =some (g,p))∧(∀g p,(g,p)∈qs→n g∧g∈ws)∧
  ∀(GS:List (Nat×Br)) (HY:Ah),(∀t gp,gs[t]? =some gp→GS[g0+t]? =some gp)→(∀j r,A4 hy j=some r→A4 HY j=some r)→(∀g,g∈rs→∀(j:Nat) (p:Br),GS[j]? ≠some (g,p))→∀ny,∀D s,A4 Sy D=some s→
   d≤D∧s.c=none∧∃u,us[D - d]? =some u∧Az (Ga sh x w ρ2 GS) w HY ny (Cj ρ2 GS) s.v u:=by
 intro i ms as us qs rs ws A;have hget2:∀g p,n g→hget h2 g p=hget h g p:=fun g p hn=>by unfold hget;rw[(R2 g hn).1]
 induction A with
 |nil=>exact fun _ _ d g0=>⟨[],[],[],[],fun K hk=>hk,⟨by simp[A4],by simp,by simp⟩,by simp,⟨rfl,by simp⟩,by simp,fun GS HY _ _ _ ny D s hs=>by simp[A4]at hs⟩
 |rd hv hn hr ih=>
  rename_i i ts v u ms as us qs rs ws;intro hfa hq d g0;obtain⟨gs,Sy,hy,mu,a1,a2,a3,a4,a5,a6⟩:=ih hfa.2 hq (d+1) g0;refine⟨gs,(d,⟨none,Ud sh h ts v⟩)::Sy,hy,mu,fun K hk=>a1 _ hk,a2,a3,a4,a5,fun GS HY hG hH hrs ny D s hs=>?_⟩;rw[Ac]at hs;by_cases hD:d=D
  ·subst hD
   rw[if_pos rfl]at hs;simp only[Option.some.injEq]at hs;subst hs;refine⟨Nat.le_refl _,rfl,u,by simp,?_⟩;have hfv:=hfa.1;rw[Vq (fun g hg=>(R2 g hg).1) hn]at hfv⊢;refine B9d H2 ?_ (fun g hg=>hrs g (List.mem_append_left _ hg)) hfv;cases v with
   |agg cs=>
    obtain⟨vs,e,h1,h3⟩:=hv;exact⟨vs,e,h1,fun i c hi=>(h3 i c hi).known (fun g hg=>hn g (Ob hi g hg)) H.ids R2 R3⟩
   |fn f cs=>
    obtain⟨vs,e,h1,h3⟩:=hv;exact⟨vs,e,h1,fun i c hi=>(h3 i c hi).known (fun g hg=>hn g (Ob hi g hg)) H.ids R2 R3⟩
   |tup cs=>
    rw[So (by simp) (by simp)]at hv⊢;intro hh;cases hh
   |_=>
    rw[So (by simp) (by simp)]at hv⊢;exact hv.known (fun g hg=>hn g (by rw[Vn (by simp) (by simp) (by simp)];exact hg)) H.ids R2 R3
  ·rw[if_neg hD]at hs
   obtain⟨b1,b2,u',b3,b4⟩:=a6 GS HY hG hH (fun g hg=>hrs g (List.mem_append_right _ hg)) ny D s hs;exact⟨by omega,b2,u',by rw[show D - d=(D - (d+1))+1 from by omega];simpa using b3,b4⟩
 |one hc hu hag hr ih=>
  rename_i i ts c u wv ms as us qs rs ws;intro hfa hq d g0;obtain⟨gc,cs',os,c1,c2,c3,c4,c5,c6⟩:=Rv (x:=x) (sh:=sh) H R1 (fun gs=>H2.liftCall) [c] i g0 ⟨hfa.1,trivial⟩ (fun j d hj=>by
   cases j with
   |zero=>simp only[List.getElem?_cons_zero,Option.some.injEq]at hj;subst hj;exact hc
   |succ j=>simp at hj)
  obtain⟨gs,Sy,hy,mu,a1,a2,a3,a4,a5,a6⟩:=ih hfa.2 hq (d+1) (g0+gc.length);have A:=A39.append c2 a2 (by omega);refine⟨gc++gs,(d,⟨none,cs'.headD .undef⟩)::Sy,os++hy,mu,fun K hk=>?_,A,?_,⟨a4.1,fun t j hj=>?_⟩,fun g p hg=>⟨(a5 g p hg).1,List.mem_append_right _ (a5 g p hg).2⟩,?_⟩
  ·have:=a1 _ (c1 _ (C7y hag hk))
   rw[List.length_append,←Nat.add_assoc];exact this
  ·intro t t' g p p' ht ht'
   by_cases h1:t<gc.length<;>by_cases h1':t'<gc.length
   ·rw[List.getElem?_append_left h1]at ht;rw[List.getElem?_append_left h1']at ht';exact c4 _ _ _ _ _ ht ht'
   ·rw[List.getElem?_append_left h1]at ht;rw[List.getElem?_append_right (by omega)]at ht'
    have hlt:=c5 _ _ _ ht;simp only[List.length_cons,List.length_nil]at hlt;rcases a2.src _ _ _ ht' with⟨m,q1,q2,_⟩|q
    ·omega
    ·rcases c2.src _ _ _ ht with⟨m,_,q2,_,s,xs,q3⟩|q'
     ·exact absurd (q2▸(a5 _ _ q).1) (R4 m s xs q3)
     ·cases q'
   ·rw[List.getElem?_append_right (by omega)]at ht;rw[List.getElem?_append_left h1']at ht'
    have hlt:=c5 _ _ _ ht';simp only[List.length_cons,List.length_nil]at hlt;rcases a2.src _ _ _ ht with⟨m,q1,q2,_⟩|q
    ·omega
    ·rcases c2.src _ _ _ ht' with⟨m,_,q2,_,s,xs,q3⟩|q'
     ·exact absurd (q2▸(a5 _ _ q).1) (R4 m s xs q3)
     ·cases q'
   ·rw[List.getElem?_append_right (by omega)]at ht ht'
    have:=a3 _ _ _ _ _ ht ht';omega
  ·obtain⟨g,p,q1,q2,q3⟩:=a4.2 t j hj
   refine⟨g,p,q1,by omega,?_⟩;rw[List.getElem?_append_right (by omega),show j - g0 - gc.length=j - (g0+gc.length)from by omega];exact q3
  ·intro GS HY hG hH hrs ny D s hs
   rw[Ac]at hs;by_cases hD:d=D
   ·subst hD
    rw[if_pos rfl]at hs;simp only[Option.some.injEq]at hs;subst hs;refine⟨Nat.le_refl _,rfl,u,by simp,?_⟩;obtain⟨c',hc'⟩:∃c',cs'=[c']:=by
     match cs',c3 with
     |[c'],_=>exact⟨c',rfl⟩
    subst hc';have:=c6 GS HY (fun t gp ht=>hG t gp (by
     have:t<gc.length:=by
      rcases Nat.lt_or_ge t gc.length with h|h
      ·exact h
      ·rw[List.getElem?_eq_none h]at ht;cases ht
     rw[List.getElem?_append_left this];exact ht)) (fun j r hr=>hH j r (by rw[Be,hr])) ny 0 c' rfl
    simp only[Nat.add_zero]at this;rw[hu]at this;exact this
   ·rw[if_neg hD]at hs
    obtain⟨b1,b2,u',b3,b4⟩:=a6 GS HY (fun t gp ht=>by
     have:=hG (gc.length+t) gp (by rw[List.getElem?_append_right (by omega),show gc.length+t - gc.length=t from by omega];exact ht);rw[←this];congr 1;omega) (fun j r hr=>hH j r (by
     rw[Be];have hn:A4 os j=none:=by
      cases hl:A4 os j with
      |none=>rfl
      |some v=>
       obtain⟨q1,g',p',q2,_⟩:=c2.of _ v hl;have:=(a2.of j r hr).1;rw[List.getElem?_eq_none (by omega)]at q2;cases q2
     rw[hn];exact hr)) hrs ny D s hs
    exact⟨by omega,b2,u',by rw[show D - d=(D - (d+1))+1 from by omega];simpa using b3,b4⟩
 |many hl hc hr ih=>
  rename_i i ts cs vs wv ms as us qs rs ws;intro hfa hq d g0;obtain⟨gc,cs',os,c1,c2,c3,c4,c5,c6⟩:=Rv (x:=x) (sh:=sh) H R1 (fun gs=>H2.liftCall) cs i g0 hfa.1 (fun j d hj=>(hc j d hj).1);obtain⟨gs,Sy,hy,mu,a1,a2,a3,a4,a5,a6⟩:=ih hfa.2 hq (d+1) (g0+gc.length);have A:=A39.append c2 a2 (by omega);refine⟨gc++gs,(d,⟨none,.agg cs'⟩)::Sy,os++hy,mu,fun K hk=>?_,A,?_,⟨a4.1,fun t j hj=>?_⟩,fun g p hg=>⟨(a5 g p hg).1,List.mem_append_right _ (a5 g p hg).2⟩,?_⟩
  ·have hk':B8 g0 cs fun cs' os n1=>Bn (d+1) n1 ms as fun S h n mu=>K ((d,⟨none,.agg cs'⟩)::S) (os++h) n mu:=hk
   have:=a1 _ (c1 _ hk');rw[List.length_append,←Nat.add_assoc];exact this
  ·intro t t' g p p' ht ht'
   by_cases h1:t<gc.length<;>by_cases h1':t'<gc.length
   ·rw[List.getElem?_append_left h1]at ht;rw[List.getElem?_append_left h1']at ht';exact c4 _ _ _ _ _ ht ht'
   ·rw[List.getElem?_append_left h1]at ht;rw[List.getElem?_append_right (by omega)]at ht'
    have hlt:=c5 _ _ _ ht;rcases a2.src _ _ _ ht' with⟨m,q1,q2,_⟩|q
    ·omega
    ·rcases c2.src _ _ _ ht with⟨m,_,q2,_,s,xs,q3⟩|q'
     ·exact absurd (q2▸(a5 _ _ q).1) (R4 m s xs q3)
     ·cases q'
   ·rw[List.getElem?_append_right (by omega)]at ht;rw[List.getElem?_append_left h1']at ht'
    have hlt:=c5 _ _ _ ht';rcases a2.src _ _ _ ht with⟨m,q1,q2,_⟩|q
    ·omega
    ·rcases c2.src _ _ _ ht' with⟨m,_,q2,_,s,xs,q3⟩|q'
     ·exact absurd (q2▸(a5 _ _ q).1) (R4 m s xs q3)
     ·cases q'
   ·rw[List.getElem?_append_right (by omega)]at ht ht'
    have:=a3 _ _ _ _ _ ht ht';omega
  ·obtain⟨g,p,q1,q2,q3⟩:=a4.2 t j hj
   refine⟨g,p,q1,by omega,?_⟩;rw[List.getElem?_append_right (by omega),show j - g0 - gc.length=j - (g0+gc.length)from by omega];exact q3
  ·intro GS HY hG hH hrs ny D s hs
   rw[Ac]at hs;by_cases hD:d=D
   ·subst hD
    rw[if_pos rfl]at hs;simp only[Option.some.injEq]at hs;subst hs;refine⟨Nat.le_refl _,rfl,.agg vs,by simp,.agg (by rw[c3];exact hl) fun j c' hj=>?_⟩;have:=c6 GS HY (fun t gp ht=>hG t gp (by
     have:t<gc.length:=by
      rcases Nat.lt_or_ge t gc.length with h|h
      ·exact h
      ·rw[List.getElem?_eq_none h]at ht;cases ht
     rw[List.getElem?_append_left this];exact ht)) (fun j r hr=>hH j r (by rw[Be,hr])) ny j c' hj
    have hjl:j<cs.length:=by
     rw[←c3];rcases Nat.lt_or_ge j cs'.length with h|h
     ·exact h
     ·rw[List.getElem?_eq_none h]at hj;cases hj
    rw[(hc j _ (List.getElem?_eq_getElem hjl)).2]at this;exact this
   ·rw[if_neg hD]at hs
    obtain⟨b1,b2,u',b3,b4⟩:=a6 GS HY (fun t gp ht=>by
     have:=hG (gc.length+t) gp (by rw[List.getElem?_append_right (by omega),show gc.length+t - gc.length=t from by omega];exact ht);rw[←this];congr 1;omega) (fun j r hr=>hH j r (by
     rw[Be];have hn:A4 os j=none:=by
      cases hl:A4 os j with
      |none=>rfl
      |some v=>
       obtain⟨q1,g',p',q2,_⟩:=c2.of _ v hl;have:=(a2.of j r hr).1;rw[List.getElem?_eq_none (by omega)]at q2;cases q2
     rw[hn];exact hr)) hrs ny D s hs
    exact⟨by omega,b2,u',by rw[show D - d=(D - (d+1))+1 from by omega];simpa using b3,b4⟩
 |mv hg hv hr ih=>
  rename_i i g p s xs u ms as us qs rs ws;intro hfa hq d g0;have hqs:qs=[]:=by simpa using hq
  subst hqs;obtain⟨gs,Sy,hy,mu,a1,a2,a3,a4,a5,a6⟩:=ih hfa.2 (by simp) (d+1) (g0+1);have hmu:mu=[]:=List.eq_nil_of_length_eq_zero (by simpa using a4.1);subst hmu;obtain⟨rt,hlt,_⟩:=C6 hg;have hng:=H.ids g rt hlt;have hget':hget h2 g p=some (.own s xs):=by rw[hget2 g _ hng];exact hg
  have A0:A39 id L h2 [(g,p)] i g0 ((g,p)::gs) ((g0,.own s xs)::hy):=⟨fun j r hr=>by
   rw[Ac]at hr;by_cases hj:g0=j
   ·subst hj
    rw[if_pos rfl]at hr;simp only[Option.some.injEq]at hr;subst hr;exact⟨Nat.le_refl _,g,p,by simp,hget'⟩
   ·rw[if_neg hj]at hr
    obtain⟨q1,g',p',q2,q3⟩:=a2.of j r hr;exact⟨by omega,g',p',by rw[show j - g0=(j - (g0+1))+1 from by omega];simpa using q2,q3⟩,
   fun t g' p' hgt=>by
    cases t with
    |zero=>
     simp only[List.getElem?_cons_zero,Option.some.injEq,Prod.mk.injEq]at hgt;obtain⟨rfl,rfl⟩:=hgt;exact⟨s,xs,hget',by simp[Ac]⟩
    |succ t=>
     obtain⟨s',xs',q1,q2⟩:=a2.own t g' p' (by simpa using hgt);refine⟨s',xs',q1,?_⟩;rw[Ac,if_neg (by omega),show g0+(t+1)=g0+1+t from by omega];exact q2,
   fun t g' p' hgt=>by
    cases t with
    |zero=>
     simp only[List.getElem?_cons_zero,Option.some.injEq,Prod.mk.injEq]at hgt;obtain⟨rfl,rfl⟩:=hgt;exact .inr (by simp)
    |succ t=>
     rcases a2.src t g' p' (by simpa using hgt)with q|q
     ·exact .inl q
     ·cases q⟩
  have nco:∀(t:Nat) (p':Br),gs[t]? ≠some (g,p'):=by
   intro t p' ht;rcases a2.src t g p' ht with⟨m,_,q2,_,s',xs',q3⟩|q
   ·exact R4 m s' xs' q3 (q2▸hng)
   ·cases q
  refine⟨(g,p)::gs,(d,⟨none,.view g0 [] 0 xs.length⟩)::Sy,(g0,.own s xs)::hy,[g0],fun K hk=>?_,A0,?_,⟨rfl,fun t j hj=>?_⟩,fun g' p' hgp=>?_,?_⟩
  ·have:=a1 _ hk
   simp only[List.length_cons];rw[show g0+(gs.length+1)=g0+1+gs.length from by omega];exact this
  ·intro t t' g' p' p'' ht ht'
   cases t with
   |zero=>
    simp only[List.getElem?_cons_zero,Option.some.injEq,Prod.mk.injEq]at ht;obtain⟨rfl,rfl⟩:=ht;cases t' with
    |zero=>rfl
    |succ t'=>exact absurd (by simpa using ht') (nco t' p'')
   |succ t=>
    cases t' with
    |zero=>
     simp only[List.getElem?_cons_zero,Option.some.injEq,Prod.mk.injEq]at ht';obtain⟨rfl,rfl⟩:=ht';exact absurd (by simpa using ht) (nco t p')
    |succ t'=>rw[a3 t t' g' p' p'' (by simpa using ht) (by simpa using ht')]
  ·cases t with
   |zero=>
    simp only[List.getElem?_cons_zero,Option.some.injEq]at hj;subst hj;exact⟨g,p,rfl,Nat.le_refl _,by simp⟩
   |succ t=>simp at hj
  ·simp only[List.mem_singleton,Prod.mk.injEq]at hgp
   obtain⟨rfl,rfl⟩:=hgp;exact⟨hng,by simp⟩
  ·intro GS HY hG hH hrs ny D s' hs
   rw[Ac]at hs;by_cases hD:d=D
   ·subst hD
    rw[if_pos rfl]at hs;simp only[Option.some.injEq]at hs;subst hs;refine⟨Nat.le_refl _,rfl,u,by simp,?_⟩;have hgs:=hG 0 (g,p) rfl;simp only[Nat.add_zero]at hgs;have hl:=hH g0 (.own s xs) (by simp[Ac]);have hget0:hget HY g0 []=some (.own s xs):=by rw[Cn hl];rfl
    generalize hlen:xs.length=len at hv;cases hv with
    |cell hr=>cases hr
    |gone h0=>rw[hlt]at h0;cases h0
    |view0 hg' _=>exact .view0 hget0 (by simp)
    |view hg' hl' hcap hρ hb hroom=>
     rename_i s2 xs2 cap b o c;rw[hg]at hg';simp only[Option.some.injEq,AV.own.injEq]at hg';obtain⟨rfl,rfl⟩:=hg';have:=Az.view (x:=Ga sh x w ρ2 GS) (n:=ny) (ρ:=Cj ρ2 GS) (off:=0) (cap:=cap) (b:=b) (o:=o) hget0 (by simpa using Nat.le_of_eq hlen.symm) hcap (by simp[Cj,hgs,Am.at_,(R2 g hng).2,hρ]) hb (by simpa using hroom);simpa using this
   ·rw[if_neg hD]at hs
    obtain⟨b1,b2,u',b3,b4⟩:=a6 GS HY (fun t gp ht=>by
     rw[show g0+1+t=g0+(t+1)from by omega];exact hG (t+1) gp (by simpa using ht)) (fun j r hr=>hH j r (by
     rw[Ac,if_neg (by have:=(a2.of j r hr).1;omega)];exact hr)) hrs ny D s' hs
    exact⟨by omega,b2,u',by rw[show D - d=(D - (d+1))+1 from by omega];simpa using b3,b4⟩
 |mp hg hv hr ih=>
  rename_i i g s r u ms as us qs rs ws;intro hfa hq d g0;have hqs:qs=[]:=by simpa using hq
  subst hqs;obtain⟨gs,Sy,hy,mu,a1,a2,a3,a4,a5,a6⟩:=ih hfa.2 (by simp) (d+1) (g0+1);have hmu:mu=[]:=List.eq_nil_of_length_eq_zero (by simpa using a4.1);subst hmu;have hng:=H.ids g _ hg;have hget':hget h2 g []=some (.own s [r]):=by rw[hget2 g _ hng,Cn hg];rfl
  have A0:A39 id L h2 [(g,[])] i g0 ((g,[])::gs) ((g0,.own s [r])::hy):=⟨fun j r hr=>by
   rw[Ac]at hr;by_cases hj:g0=j
   ·subst hj
    rw[if_pos rfl]at hr;simp only[Option.some.injEq]at hr;subst hr;exact⟨Nat.le_refl _,g,[],by simp,hget'⟩
   ·rw[if_neg hj]at hr
    obtain⟨q1,g',p',q2,q3⟩:=a2.of j r hr;exact⟨by omega,g',p',by rw[show j - g0=(j - (g0+1))+1 from by omega];simpa using q2,q3⟩,
   fun t g' p' hgt=>by
    cases t with
    |zero=>
     simp only[List.getElem?_cons_zero,Option.some.injEq,Prod.mk.injEq]at hgt;obtain⟨rfl,rfl⟩:=hgt;exact⟨s,[r],hget',by simp[Ac]⟩
    |succ t=>
     obtain⟨s',xs',q1,q2⟩:=a2.own t g' p' (by simpa using hgt);refine⟨s',xs',q1,?_⟩;rw[Ac,if_neg (by omega),show g0+(t+1)=g0+1+t from by omega];exact q2,
   fun t g' p' hgt=>by
    cases t with
    |zero=>
     simp only[List.getElem?_cons_zero,Option.some.injEq,Prod.mk.injEq]at hgt;obtain⟨rfl,rfl⟩:=hgt;exact .inr (by simp)
    |succ t=>
     rcases a2.src t g' p' (by simpa using hgt)with q|q
     ·exact .inl q
     ·cases q⟩
  have nco:∀(t:Nat) (p':Br),gs[t]? ≠some (g,p'):=by
   intro t p' ht;rcases a2.src t g p' ht with⟨m,_,q2,_,s',xs',q3⟩|q
   ·exact R4 m s' xs' q3 (q2▸hng)
   ·cases q
  refine⟨(g,[])::gs,(d,⟨none,.bx g0 0⟩)::Sy,(g0,.own s [r])::hy,[g0],fun K hk=>?_,A0,?_,⟨rfl,fun t j hj=>?_⟩,fun g' p' hgp=>?_,?_⟩
  ·have:=a1 _ hk
   simp only[List.length_cons];rw[show g0+(gs.length+1)=g0+1+gs.length from by omega];exact this
  ·intro t t' g' p' p'' ht ht'
   cases t with
   |zero=>
    simp only[List.getElem?_cons_zero,Option.some.injEq,Prod.mk.injEq]at ht;obtain⟨rfl,rfl⟩:=ht;cases t' with
    |zero=>rfl
    |succ t'=>exact absurd (by simpa using ht') (nco t' p'')
   |succ t=>
    cases t' with
    |zero=>
     simp only[List.getElem?_cons_zero,Option.some.injEq,Prod.mk.injEq]at ht';obtain⟨rfl,rfl⟩:=ht';exact absurd (by simpa using ht) (nco t p')
    |succ t'=>rw[a3 t t' g' p' p'' (by simpa using ht) (by simpa using ht')]
  ·cases t with
   |zero=>
    simp only[List.getElem?_cons_zero,Option.some.injEq]at hj;subst hj;exact⟨g,[],rfl,Nat.le_refl _,by simp⟩
   |succ t=>simp at hj
  ·simp only[List.mem_singleton,Prod.mk.injEq]at hgp
   obtain⟨rfl,rfl⟩:=hgp;exact⟨hng,by simp⟩
  ·intro GS HY hG hH hrs ny D s' hs
   rw[Ac]at hs;by_cases hD:d=D
   ·subst hD
    rw[if_pos rfl]at hs;simp only[Option.some.injEq]at hs;subst hs;refine⟨Nat.le_refl _,rfl,u,by simp,?_⟩;have hgs:=hG 0 (g,[]) rfl;simp only[Nat.add_zero]at hgs;have hl:=hH g0 (.own s [r]) (by simp[Ac]);cases hv with
    |cell hr=>cases hr
    |goneb h0=>rw[hg]at h0;cases h0
    |bx hg' hρ=>
     rename_i s2 r2 b o;exact .bx hl (by simp[Cj,hgs,Am.at_,(R2 g hng).2,hρ])
   ·rw[if_neg hD]at hs
    obtain⟨b1,b2,u',b3,b4⟩:=a6 GS HY (fun t gp ht=>by
     rw[show g0+1+t=g0+(t+1)from by omega];exact hG (t+1) gp (by simpa using ht)) (fun j r hr=>hH j r (by
     rw[Ac,if_neg (by have:=(a2.of j r hr).1;omega)];exact hr)) hrs ny D s' hs
    exact⟨by omega,b2,u',by rw[show D - d=(D - (d+1))+1 from by omega];simpa using b3,b4⟩
 |ma hg hv hr ih=>
  rename_i i g p s xs u ms as us qs rs ws;intro hfa hq d g0;have hqs:qs=[]:=by simpa using hq
  subst hqs;obtain⟨gs,Sy,hy,mu,a1,a2,a3,a4,a5,a6⟩:=ih hfa.2 (by simp) (d+1) (g0+1);have hmu:mu=[]:=List.eq_nil_of_length_eq_zero (by simpa using a4.1);subst hmu;obtain⟨rt,hlt,_⟩:=C6 hg;have hng:=H.ids g rt hlt;have hget':hget h2 g p=some (.own s xs):=by rw[hget2 g _ hng];exact hg
  have A0:A39 id L h2 [(g,p)] i g0 ((g,p)::gs) ((g0,.own s xs)::hy):=⟨fun j r hr=>by
   rw[Ac]at hr;by_cases hj:g0=j
   ·subst hj
    rw[if_pos rfl]at hr;simp only[Option.some.injEq]at hr;subst hr;exact⟨Nat.le_refl _,g,p,by simp,hget'⟩
   ·rw[if_neg hj]at hr
    obtain⟨q1,g',p',q2,q3⟩:=a2.of j r hr;exact⟨by omega,g',p',by rw[show j - g0=(j - (g0+1))+1 from by omega];simpa using q2,q3⟩,
   fun t g' p' hgt=>by
    cases t with
    |zero=>
     simp only[List.getElem?_cons_zero,Option.some.injEq,Prod.mk.injEq]at hgt;obtain⟨rfl,rfl⟩:=hgt;exact⟨s,xs,hget',by simp[Ac]⟩
    |succ t=>
     obtain⟨s',xs',q1,q2⟩:=a2.own t g' p' (by simpa using hgt);refine⟨s',xs',q1,?_⟩;rw[Ac,if_neg (by omega),show g0+(t+1)=g0+1+t from by omega];exact q2,
   fun t g' p' hgt=>by
    cases t with
    |zero=>
     simp only[List.getElem?_cons_zero,Option.some.injEq,Prod.mk.injEq]at hgt;obtain⟨rfl,rfl⟩:=hgt;exact .inr (by simp)
    |succ t=>
     rcases a2.src t g' p' (by simpa using hgt)with q|q
     ·exact .inl q
     ·cases q⟩
  have nco:∀(t:Nat) (p':Br),gs[t]? ≠some (g,p'):=by
   intro t p' ht;rcases a2.src t g p' ht with⟨m,_,q2,_,s',xs',q3⟩|q
   ·exact R4 m s' xs' q3 (q2▸hng)
   ·cases q
  refine⟨(g,p)::gs,(d,⟨none,.agg [.arg s g0 xs.length]⟩)::Sy,(g0,.own s xs)::hy,[g0],fun K hk=>?_,A0,?_,⟨rfl,fun t j hj=>?_⟩,fun g' p' hgp=>?_,?_⟩
  ·have:=a1 _ hk
   simp only[List.length_cons];rw[show g0+(gs.length+1)=g0+1+gs.length from by omega];exact this
  ·intro t t' g' p' p'' ht ht'
   cases t with
   |zero=>
    simp only[List.getElem?_cons_zero,Option.some.injEq,Prod.mk.injEq]at ht;obtain⟨rfl,rfl⟩:=ht;cases t' with
    |zero=>rfl
    |succ t'=>exact absurd (by simpa using ht') (nco t' p'')
   |succ t=>
    cases t' with
    |zero=>
     simp only[List.getElem?_cons_zero,Option.some.injEq,Prod.mk.injEq]at ht';obtain⟨rfl,rfl⟩:=ht';exact absurd (by simpa using ht) (nco t p')
    |succ t'=>rw[a3 t t' g' p' p'' (by simpa using ht) (by simpa using ht')]
  ·cases t with
   |zero=>
    simp only[List.getElem?_cons_zero,Option.some.injEq]at hj;subst hj;exact⟨g,p,rfl,Nat.le_refl _,by simp⟩
   |succ t=>simp at hj
  ·simp only[List.mem_singleton,Prod.mk.injEq]at hgp
   obtain⟨rfl,rfl⟩:=hgp;exact⟨hng,by simp⟩
  ·intro GS HY hG hH hrs ny D s' hs
   rw[Ac]at hs;by_cases hD:d=D
   ·subst hD
    rw[if_pos rfl]at hs;simp only[Option.some.injEq]at hs;subst hs;refine⟨Nat.le_refl _,rfl,.agg #[u],by simp,.agg rfl fun i c hi=>?_⟩;obtain⟨rfl,rfl⟩:i=0∧c=.arg s g0 xs.length:=by
     cases i with
     |zero=>simpa using hi.symm
     |succ i=>simp at hi
    show Az _ _ _ _ _ _ u;have hgs:=hG 0 (g,p) rfl;simp only[Nat.add_zero]at hgs;have hk0:g0<GS.length:=by
     rcases Nat.lt_or_ge g0 GS.length with h|h
     ·exact h
     ·rw[List.getElem?_eq_none h]at hgs;cases hgs
    generalize hlen:xs.length=len at hv;cases hv with
    |cell hr=>cases hr
    |gone h0=>rw[hlt]at h0;cases h0
    |view0 hg' _=>exact .cell (.arg0 hk0)
    |view hg' hl' hcap hρ hb hroom=>
     rename_i s2 xs2 cap b o c;rw[hg]at hg';simp only[Option.some.injEq,AV.own.injEq]at hg';obtain⟨rfl,rfl⟩:=hg';have:Rep (Ga sh x w ρ2 GS) w Ax (.arg s g0 len) (.slice (some ⟨b,o,none⟩) len cap):=
      .arg (by show Cj ρ2 GS (some g0) []=_;simp[Cj,hgs,Am.at_,(R2 g hng).2,hρ]) hk0 hcap hb (by simpa using hroom)
     exact .cell (by simpa using this)
   ·rw[if_neg hD]at hs
    obtain⟨b1,b2,u',b3,b4⟩:=a6 GS HY (fun t gp ht=>by
     rw[show g0+1+t=g0+(t+1)from by omega];exact hG (t+1) gp (by simpa using ht)) (fun j r hr=>hH j r (by
     rw[Ac,if_neg (by have:=(a2.of j r hr).1;omega)];exact hr)) hrs ny D s' hs
    exact⟨by omega,b2,u',by rw[show D - d=(D - (d+1))+1 from by omega];simpa using b3,b4⟩
end
section
variable{P:Program}{E:Env}{x:Ctx}{w w':World}{h h2 hf hc hy:Ah}{n n2 nn nf:Nat→Prop}{L L2:List AV}{U U':Nat→Value}{ρ ρ2 ρf:Option Nat→Am}{sh:Bool}{id:Nat}
theorem E4.mono{P Q:Nat→Br→Prop}{v:AV}(h:E4 P v)(hpq:∀g p,P g p→Q g p):E4 Q v:=by
 induction h with
 |view h=>exact .view (hpq _ _ h)
 |ptr h=>exact .ptr (hpq _ _ h)
 |bx h=>exact .bx (hpq _ _ h)
 |agg h ih=>exact .agg ih
 |tup h ih=>exact .tup ih
 |fn h ih=>exact .fn ih
 |int=>exact .int
 |bool=>exact .bool
 |str=>exact .str
 |nils=>exact .nils
 |emp=>exact .emp
 |rd=>exact .rd
 |own=>exact .own
 |pin=>exact .pin
 |nilI=>exact .nilI
 |arg h=>exact .arg (hpq _ _ h)
 |someI=>exact .someI
 |nilp=>exact .nilp
 |undef=>exact .undef
theorem E4.and{P Q:Nat→Br→Prop}{v:AV}(h:E4 P v):E4 Q v→E4 (fun g p=>P g p∧Q g p) v:=by
 induction h with
 |view h=>intro h';cases h' with|view h'=>exact .view ⟨h,h'⟩
 |ptr h=>intro h';cases h' with|ptr h'=>exact .ptr ⟨h,h'⟩
 |bx h=>intro h';cases h' with|bx h'=>exact .bx ⟨h,h'⟩
 |agg h ih=>intro h';cases h' with|agg h'=>exact .agg fun c hc=>ih c hc (h' c hc)
 |tup h ih=>intro h';cases h' with|tup h'=>exact .tup fun c hc=>ih c hc (h' c hc)
 |fn h ih=>intro h';cases h' with|fn h'=>exact .fn fun c hc=>ih c hc (h' c hc)
 |int=>intro _;exact .int
 |bool=>intro _;exact .bool
 |str=>intro _;exact .str
 |nils=>intro _;exact .nils
 |emp=>intro _;exact .emp
 |rd=>intro _;exact .rd
 |own=>intro _;exact .own
 |pin=>intro _;exact .pin
 |nilI=>intro _;exact .nilI
 |arg h=>intro hg;cases hg with|arg h'=>exact .arg ⟨h,h'⟩
 |someI=>intro _;exact .someI
 |nilp=>intro _;exact .nilp
 |undef=>intro _;exact .undef
theorem Az.names{v:AV}{u:Value}(hs:Az x w h n ρ v u)(hlt:∀g r,A4 h g=some r→n g)(hkn:∀g,g<x.k→n g):E4 (fun g _=>n g) v:=by
 have hl:∀{g p c},hget h g p=some c→n g:=fun{g p c} hg=>by
  obtain⟨r,hl,_⟩:=C6 hg;exact hlt g r hl
 induction hs with
 |cell hr=>cases hr<;>first|exact .arg (hkn _ (by assumption))|constructor
 |nils=>exact .nils
 |emp=>exact .emp
 |void=>exact .undef
 |someI=>exact .someI
 |nilp=>exact .nilp
 |gone hg hn=>exact .view hn
 |gonep hg hn=>exact .ptr hn
 |goneb hg hn=>exact .bx hn
 |view0 hg _=>exact .view (hl hg)
 |view hg=>exact .view (hl hg)
 |ptr hg=>exact .ptr (hl hg)
 |bx hg=>exact .bx (hlt _ _ hg)
 |pin=>exact .pin
 |agg hl hc ih=>exact .agg fun c hc'=>by obtain⟨i,hi⟩:=List.getElem?_of_mem hc';exact ih i c hi
 |tup hl hc ih=>exact .tup fun c hc'=>by obtain⟨i,hi⟩:=List.getElem?_of_mem hc';exact ih i c hi
 |fn hl hc ih=>exact .fn fun c hc'=>by obtain⟨i,hi⟩:=List.getElem?_of_mem hc';exact ih i c hi
theorem Az.down{v:AV}{u:Value}(hs:Az x w h n ρ v u)(hg:E4 (fun g _=>n2 g) v):Az x w h n2 ρ v u:=by
 induction hs with
 |cell hr=>exact .cell hr
 |nils=>exact .nils
 |emp=>exact .emp
 |void=>exact .void
 |someI=>exact .someI
 |nilp=>exact .nilp
 |gone hl hn=>cases hg with|view h=>exact .gone hl h
 |gonep hl hn=>cases hg with|ptr h=>exact .gonep hl h
 |goneb hl hn=>cases hg with|bx h=>exact .goneb hl h
 |view0 hl hh=>exact .view0 hl hh
 |view hl hh hcap hρ hb hroom=>exact .view hl hh hcap hρ hb hroom
 |ptr hl hρ=>exact .ptr hl hρ
 |bx hl hρ=>exact .bx hl hρ
 |pin V hc=>exact .pin V hc
 |agg hl hc ih=>cases hg with|agg h=>exact .agg hl fun i c hi=>ih i c hi (h c (List.mem_of_getElem? hi))
 |tup hl hc ih=>cases hg with|tup h=>exact .tup hl fun i c hi=>ih i c hi (h c (List.mem_of_getElem? hi))
 |fn hl hc ih=>cases hg with|fn h=>exact .fn hl fun i c hi=>ih i c hi (h c (List.mem_of_getElem? hi))
theorem Az.place{v:AV}{u:Value}(hs:Az x w h n ρ v u)(hp:∀g,ρ2 (some g)=ρ (some g)):Az x w h n ρ2 v u:=by
 induction hs with
 |cell hr=>exact .cell hr
 |nils=>exact .nils
 |emp=>exact .emp
 |void=>exact .void
 |someI=>exact .someI
 |nilp=>exact .nilp
 |gone hl hn=>exact .gone hl hn
 |gonep hl hn=>exact .gonep hl hn
 |goneb hl hn=>exact .goneb hl hn
 |view0 hl hh=>exact .view0 hl hh
 |view hl hh hcap hρ hb hroom=>exact .view hl hh hcap (by rw[hp];exact hρ) hb hroom
 |ptr hl hρ=>exact .ptr hl (by rw[hp];exact hρ)
 |bx hl hρ=>exact .bx hl (by rw[hp];exact hρ)
 |pin V hc=>exact .pin V hc
 |agg hl hc ih=>exact .agg hl ih
 |tup hl hc ih=>exact .tup hl ih
 |fn hl hc ih=>exact .fn hl ih
theorem Sc.rs_known{i:Nat}{ms:List Mz}{as:List AV}{us:List Value}{qs:List (Nat×Br)}{rs ws:List Nat}(A:Sc sh x w h n ρ L U i ms as us qs rs ws):∀g,g∈rs→n g:=by
 induction A with
 |nil=>simp
 |rd hv hn hr ih=>
  intro g hg;rcases List.mem_append.1 hg with h|h
  ·exact hn g h
  ·exact ih g h
 |one hc hu hag hr ih=>exact ih
 |many hl hc hr ih=>exact ih
 |mv hg hv hr ih=>exact ih
 |mp hg hv hr ih=>exact ih
 |ma hg hv hr ih=>exact ih
theorem Sc.len{i:Nat}{ms:List Mz}{as:List AV}{us:List Value}{qs:List (Nat×Br)}{rs ws:List Nat}(A:Sc sh x w h n ρ L U i ms as us qs rs ws):us.length=ms.length:=by
 induction A with
 |nil=>rfl
 |rd hv hn hr ih=>simp[ih]
 |one hc hu hag hr ih=>simp[ih]
 |many hl hc hr ih=>simp[ih]
 |mv hg hv hr ih=>simp[ih]
 |mp hg hv hr ih=>simp[ih]
 |ma hg hv hr ih=>simp[ih]
theorem Z3{g:Nat}:∀{l:List Nat},Ur g l=true↔g∈l
 |[]=>by simp[Ur]
 |a::r=>by
  simp only[Ur,List.mem_cons];by_cases h:a=g
  ·subst h;simp
  ·rw[Pw h]
   simp only[Z3];constructor
   ·exact .inr
   ·rintro(e|e)
    ·exact absurd e.symm h
    ·exact e
theorem B9h{a b:List Nat}(h:Rr a b=false):∀g,g∈a→g∉b:=by
 intro g ha hb;unfold Rr at h;have:(a.any fun x=>Ur x b)=true:=List.any_eq_true.2 ⟨g,ha,Z3.2 hb⟩;rw[h]at this;cases this
theorem I0:∀{cs:List AV} {g:Nat} {K:List AV→Ah→Nat→Prop},B8 g cs K→B8 g cs fun cs' os n1=>n1=g+Jw cs∧K cs' os n1
 |[],g,K,hk=>⟨rfl,hk⟩
 |c::cs,g,K,hk=>by
  by_cases ho:∃s xs,c=.own s xs
  ·obtain⟨s,xs,rfl⟩:=ho
   have:=I0 (cs:=cs) (g:=g+1) (K:=fun cs os n=>K (.view g [] 0 xs.length::cs) ((g,.own s xs)::os) n) hk;show B8 (g+1) cs _;refine rootCells_imp this fun cs' os n1 h=>⟨?_,h.2⟩
   rw[h.1];simp only[Jw];omega
  ·have hk':B8 g cs fun cs os n=>K (c::cs) os n:=by cases c<;>first|exact hk|exact absurd ⟨_,_,rfl⟩ ho
   have:=I0 hk';have hcount:Jw (c::cs)=Jw cs:=by cases c<;>first|rfl|exact absurd ⟨_,_,rfl⟩ ho
   rw[hcount];cases c<;>first|exact this|exact absurd ⟨_,_,rfl⟩ ho
where
 rootCells_imp:∀{cs:List AV} {g:Nat} {K K':List AV→Ah→Nat→Prop},B8 g cs K→(∀cs' os n1,K cs' os n1→K' cs' os n1)→B8 g cs K'
  |[],g,K,K',hk,h=>h _ _ _ hk
  |c::cs,g,K,K',hk,h=>by
   cases c<;>first
    |exact rootCells_imp (cs:=cs) hk fun _ _ _ hh=>h _ _ _ hh
theorem A4q{d g:Nat}{ms:List Mz}{a:AV}{as:List AV}{K:Af→Ah→Nat→List Nat→Prop}(hk:Bn d g (.ma::ms) (a::as) K):
 ∃s xs,a=.agg [.own s xs]∧Bn (d+1) (g+1) ms as fun S h n mu=>K ((d,⟨none,.agg [.arg s g xs.length]⟩)::S) ((g,.own s xs)::h) n (g::mu):=by
 cases a<;>try exact hk.elim
 rename_i cs;match cs,hk with
 |[],hk=>exact hk.elim
 |[c],hk=>
  cases c<;>try exact hk.elim
  exact⟨_,_,rfl,hk⟩
 |_::_::_,hk=>exact hk.elim
theorem Fw:∀{ms:List Mz} {as:List AV} {d g:Nat} {K K':Af→Ah→Nat→List Nat→Prop},Bn d g ms as K→(∀S h k mu,K S h k mu→K' S h k mu)→Bn d g ms as K':=by
 intro ms;induction ms with
 |nil=>intro as d g K K' hk h;cases as<;>first|exact h _ _ _ _ hk|exact hk.elim
 |cons m ms ih=>
  intro as d g K K' hk h;cases as with
  |nil=>cases m<;>exact hk.elim
  |cons a as=>
   cases m with
   |rd ts=>exact ih hk fun _ _ _ _ hh=>h _ _ _ _ hh
   |co ts=>
    cases a<;>first
     |exact ih (K:=fun S h n mu=>_) hk fun _ _ _ _ hh=>h _ _ _ _ hh
     |exact I0.rootCells_imp hk fun _ _ _ hh=>ih hh fun _ _ _ _ hh=>h _ _ _ _ hh
   |mv=>cases a<;>first|exact hk.elim|exact ih hk fun _ _ _ _ hh=>h _ _ _ _ hh
   |mp=>cases a<;>first|exact hk.elim|exact ih hk fun _ _ _ _ hh=>h _ _ _ _ hh
   |ma=>
    obtain⟨s,xs,rfl,hk⟩:=A4q hk;exact ih hk fun _ _ _ _ hh=>h _ _ _ _ hh
theorem Tf{g:Nat}{r:AV}{h:Ah}(hr:r.free)(hh:∀j r,A4 h j=some r→r.free):∀j q,A4 ((g,r)::h) j=some q→q.free:=by
 intro j q hq;rw[Ac]at hq;by_cases hj:g=j
 ·rw[if_pos hj]at hq
  obtain rfl:=Option.some.inj hq;exact hr
 ·rw[if_neg hj]at hq;exact hh j q hq
theorem Q6:∀{cs:List AV} {g:Nat} {K:List AV→Ah→Nat→Prop},A2 cs→B8 g cs K→B8 g cs fun cs' os n1=>(∀j r,A4 os j=some r→r.free)∧K cs' os n1
 |[],g,K,_,hk=>⟨fun j r hr=>by simp[A4]at hr,hk⟩
 |c::cs,g,K,hf,hk=>by
  by_cases ho:∃s xs,c=.own s xs
  ·obtain⟨s,xs,rfl⟩:=ho
   have:=Q6 (cs:=cs) (g:=g+1) (K:=fun cs os n=>K (.view g [] 0 xs.length::cs) ((g,.own s xs)::os) n) hf.2 hk;show B8 (g+1) cs _;exact I0.rootCells_imp this fun cs' os n1 h=>⟨Tf hf.1 h.1,h.2⟩
  ·have hk':B8 g cs fun cs os n=>K (c::cs) os n:=by cases c<;>first|exact hk|exact absurd ⟨_,_,rfl⟩ ho
   have:=Q6 hf.2 hk';cases c<;>first|exact this|exact absurd ⟨_,_,rfl⟩ ho
theorem C49:∀{ms:List Mz} {as:List AV} {d g:Nat} {K:Af→Ah→Nat→List Nat→Prop},A2 as→Bn d g ms as K→Bn d g ms as fun S h k mu=>(∀j r,A4 h j=some r→r.free)∧K S h k mu:=by
 intro ms;induction ms with
 |nil=>intro as d g K hf hk;cases as<;>first|exact⟨fun j r hr=>by simp[A4]at hr,hk⟩|exact hk.elim
 |cons m ms ih=>
  intro as d g K hf hk;cases as with
  |nil=>cases m<;>exact hk.elim
  |cons a as=>
   cases m with
   |rd ts=>exact Fw (ms:=ms) (as:=as) (d:=d+1) (g:=g) (ih hf.2 hk) fun S h k mu hh=>hh
   |co ts=>
    by_cases ho:∃s xs,a=.own s xs
    ·obtain⟨s,xs,rfl⟩:=ho
     exact Fw (ms:=ms) (as:=as) (d:=d+1) (g:=g+1) (ih hf.2 hk) fun S h k mu hh=>⟨Tf hf.1 hh.1,hh.2⟩
    ·by_cases hag:∃cs,a=.agg cs
     ·obtain⟨cs,rfl⟩:=hag
      refine I0.rootCells_imp (Q6 hf.1 hk) fun cs' os n1 hh=>Fw (ih hf.2 hh.2) fun S h k mu h3=>⟨fun j r hr=>?_,h3.2⟩
      rw[Be]at hr;cases ho2:A4 os j with
      |some r'=>rw[ho2]at hr;obtain rfl:=Option.some.inj hr;exact hh.1 j r' ho2
      |none=>rw[ho2]at hr;exact h3.1 j r hr
     ·cases a<;>first
       |exact absurd ⟨_,_,rfl⟩ ho
       |exact absurd ⟨_,rfl⟩ hag
       |exact Fw (ms:=ms) (as:=as) (d:=d+1) (g:=g) (ih hf.2 hk) fun S h k mu hh=>hh
   |mv=>cases a<;>first|exact hk.elim|exact Fw (ms:=ms) (as:=as) (d:=d+1) (g:=g+1) (ih hf.2 hk) fun S h k mu hh=>⟨Tf hf.1 hh.1,hh.2⟩
   |mp=>cases a<;>first|exact hk.elim|exact Fw (ms:=ms) (as:=as) (d:=d+1) (g:=g+1) (ih hf.2 hk) fun S h k mu hh=>⟨Tf hf.1 hh.1,hh.2⟩
   |ma=>
    obtain⟨s,xs,rfl,hk⟩:=A4q hk;exact Fw (ms:=ms) (as:=as) (d:=d+1) (g:=g+1) (ih hf.2 hk) fun S h k mu hh=>⟨Tf hf.1.1 hh.1,hh.2⟩
theorem C0n:∀{ms:List Mz} {as:List AV} {d g:Nat} {K:Af→Ah→Nat→List Nat→Prop},Bn d g ms as K→Bn d g ms as fun S h k mu=>k≤g+J3 as∧K S h k mu:=by
 intro ms as d g K;have imp:=@Fw;induction ms generalizing as d g K with
 |nil=>intro hk;cases as<;>first|exact⟨Nat.le_add_right _ _,hk⟩|exact hk.elim
 |cons m ms ih=>
  intro hk;cases as with
  |nil=>cases m<;>exact hk.elim
  |cons a as=>
   have hle:J3 as≤J3 (a::as):=by cases a<;>simp only[J3]<;>omega
   cases m with
   |rd ts=>exact imp (ms:=ms) (as:=as) (d:=d+1) (g:=g) (ih hk) fun S h k mu hh=>⟨by omega,hh.2⟩
   |co ts=>
    by_cases ho:∃s xs,a=.own s xs
    ·obtain⟨s,xs,rfl⟩:=ho
     exact imp (ms:=ms) (as:=as) (d:=d+1) (g:=g+1) (ih (g:=g+1) hk) fun S h k mu hh=>⟨by simp only[J3];omega,hh.2⟩
    ·by_cases hag:∃cs,a=.agg cs
     ·obtain⟨cs,rfl⟩:=hag
      refine I0.rootCells_imp (I0 hk) fun cs' os n1 hh=>imp (ih hh.2) fun S h k mu h3=>⟨?_,h3.2⟩
      have:=hh.1;simp only[J3];omega
     ·cases a<;>first
       |exact absurd ⟨_,_,rfl⟩ ho
       |exact absurd ⟨_,rfl⟩ hag
       |exact imp (ms:=ms) (as:=as) (d:=d+1) (g:=g) (ih hk) fun S h k mu hh=>⟨by omega,hh.2⟩
   |mv=>cases a<;>first|exact hk.elim|exact imp (ms:=ms) (as:=as) (d:=d+1) (g:=g+1) (ih (g:=g+1) hk) fun S h k mu hh=>⟨by simp only[J3];omega,hh.2⟩
   |mp=>cases a<;>first|exact hk.elim|exact imp (ms:=ms) (as:=as) (d:=d+1) (g:=g+1) (ih (g:=g+1) hk) fun S h k mu hh=>⟨by simp only[J3];omega,hh.2⟩
   |ma=>
    obtain⟨s,xs,rfl,hk⟩:=A4q hk;exact imp (ms:=ms) (as:=as) (d:=d+1) (g:=g+1) (ih (g:=g+1) hk) fun S h k mu hh=>⟨by simp only[J3,Jw];omega,hh.2⟩
end
section
variable{P:Program}{E:Env}{x:Ctx}{w w':World}{h h2 hf hc hy:Ah}{n n2 nn nf:Nat→Prop}{L L2:List AV}{U U':Nat→Value}{ρ ρ2 ρf:Option Nat→Am}{sh:Bool}{id:Nat}
theorem C3z{v:AV}(hg:E4 (fun g _=>n g) v):∀g,g∈v.ids1→n g:=by
 intro g hgg;cases hg<;>simp only[AV.ids1,List.mem_singleton,List.not_mem_nil]at hgg<;>(subst hgg;assumption)
theorem Ru:∀{cs:List AV},(∀c,c∈cs→E4 (fun g _=>n g) c)→∀g,g∈G9 cs→n g
 |[],_,g,hg=>by simp[G9]at hg
 |c::cs,h,g,hg=>by
  simp only[G9,List.mem_append]at hg;rcases hg with hg|hg
  ·exact C3z (h c (by simp)) g hg
  ·exact Ru (fun c hc=>h c (by simp[hc])) g hg
theorem C52{v:AV}(hg:E4 (fun g _=>n g) v):∀g,g∈v.ids→n g:=by
 cases hg with
 |agg h=>exact Ru h
 |tup h=>exact Ru h
 |fn h=>exact Ru h
 |view h=>intro g hg;simp only[AV.ids,AV.ids1,List.mem_singleton]at hg;subst hg;exact h
 |ptr h=>intro g hg;simp only[AV.ids,AV.ids1,List.mem_singleton]at hg;subst hg;exact h
 |bx h=>intro g hg;simp only[AV.ids,AV.ids1,List.mem_singleton]at hg;subst hg;exact h
 |arg h=>intro g hg;simp only[AV.ids,AV.ids1,List.mem_singleton]at hg;subst hg;exact h
 |_=>intro g hg;simp[AV.ids,AV.ids1]at hg
theorem Pr:∀{cs:List AV} {g:Nat} {K:List AV→Ah→Nat→Prop},B8 g cs K→∃cs' os n1,K cs' os n1
 |[],g,K,hk=>⟨_,_,_,hk⟩
 |c::cs,g,K,hk=>by
  by_cases ho:∃s xs,c=.own s xs
  ·obtain⟨s,xs,rfl⟩:=ho
   obtain⟨a,b,d,h⟩:=Pr (cs:=cs) (g:=g+1) (K:=fun cs os n=>K (.view g [] 0 xs.length::cs) ((g,.own s xs)::os) n) hk;exact⟨_,_,_,h⟩
  ·have hk':B8 g cs fun cs os n=>K (c::cs) os n:=by cases c<;>first|exact hk|exact absurd ⟨_,_,rfl⟩ ho
   obtain⟨a,b,d,h⟩:=Pr hk';exact⟨_,_,_,h⟩
theorem S8:∀{vs:List AV} {g:Nat} {K:List AV→Ah→Nat→Prop},Bw g vs K→∃vs' os n1,K vs' os n1
 |[],g,K,hk=>⟨_,_,_,hk⟩
 |v::vs,g,K,hk=>by
  cases v with
  |own s xs=>
   simp only[Bw]at hk;obtain⟨a,b,d,h⟩:=S8 hk;exact⟨_,_,_,h⟩
  |agg cs=>
   simp only[Bw]at hk;obtain⟨a,b,d,h⟩:=Pr hk;obtain⟨a',b',d',h'⟩:=S8 h;exact⟨_,_,_,h'⟩
  |_=>
   simp only[Bw]at hk;obtain⟨a,b,d,h⟩:=S8 hk;exact⟨_,_,_,h⟩
theorem B45{v:AV}{K:AV→Ah→Prop}(hk:Ib id v K):∃v' os,K v' os:=by
 cases v with
 |own s xs=>exact⟨_,_,hk⟩
 |agg cs=>
  have hk':B8 id cs fun cs' os n=>leN n (id+16) (K (.agg cs') os):=hk;obtain⟨a,b,d,h⟩:=Pr hk';exact⟨_,_,(Bj h).2⟩
 |tup vs=>
  have hk':Bw id vs fun vs' os n=>leN n (id+16) (K (.tup vs') os):=hk;obtain⟨a,b,d,h⟩:=S8 hk';exact⟨_,_,(Bj h).2⟩
 |_=>exact⟨_,_,hk⟩
theorem A6j{pt:Bool}{v:AV}{K:AV→Ah→Prop}(hk:Mf pt id v K):∃v' os,K v' os:=by
 cases pt with
 |false=>exact B45 hk
 |true=>cases v<;>first|exact hk.elim|exact⟨_,_,hk⟩
def Sts(x:Ctx)(N:Nat)(S:Af)(h:Ah)(n:Nat→Prop)(a:Act)(w:World):Prop:=
 ∃R wr,(∀b,x.R b→R b)∧Stt {x with R:=R,wr:=wr} N S h n a w
theorem B9z(sh:Bool)(x:Ctx)(R':Nat→Prop)(w':World)(hR:sh=true→∀b,x.R b→R' b):∃R wr,Ju sh x R' w'={x with R:=R,wr:=wr}∧∀b,x.R b→R b:=by
 cases sh with
 |false=>exact⟨x.R,x.wr,rfl,fun _ h=>h⟩
 |true=>exact⟨R',w',rfl,hR rfl⟩
theorem B3s{gs:List (Nat×Br)}{R':Nat→Prop}{wr':World}{src:Nat→Src}{N:Nat}{S S':Af}{a:Act}(hN:a.tmps.size=N)(hdf:a.defers=[]){d:Option Nat}(hd:∀k,d=some k→k<N){g:Option Bool}(hg:Cy g)
 (H:Bp x w h2 n2 [] U ρ)(A:B5s h2 gs hy)(hs:Aw x w h2 n2 ρ S a.tmps)(hR:∀b,Yy sh x w ρ gs b→R' b)(H':Bp {Ga sh x w ρ gs with R:=R',wr:=wr'} w' hf nf [] U' ρf)
 (G:B32 sh n2 nn x.k h2 hf hc gs src){v:AV}{u:Value}(hu:Az {Ga sh x w ρ gs with R:=R',wr:=wr'} w' hf nf ρf v u)(hgv:E4 (fun g _=>src g=.new) v)(hnr:sh=false→v.noRd)(hvf:v.free)
 (hS:∀d s,A4 S' d=some s→∃s0,A4 S d=some s0∧s.c=s0.c∧(s.v=s0.v∨s.v=.undef)∧(Cy s.c→E4 (fun g p=>∀j q,src g=.wri j q→p=[]) s.v))
 (hids:∀g r,A4 hc g=some r→Ln n id g)(hkn:∀g,g<x.k→Ln n id g)(hgv2:E4 (fun g _=>Ln n id g) v)(hS2:∀d s,A4 S' d=some s→Cy s.c→E4 (fun g _=>Ln n id g) s.v):
 Sts x N (Bc S' d g v) hc (Ln n id) (a.put d u) w':=by
 have hRx:sh=true→∀b,x.R b→R' b:=by
  rintro rfl b hb;exact hR b hb
 obtain⟨R,wr,e,hRR⟩:=B9z sh x R' w' hRx;have M1:=Bp.merge H A hR H' G;have M2:=Aw.merge H hs hR H' G hS;have M3:=Az.back (x:=x) H' G hu hgv hnr;rw[e]at M1 M2 M3;have M4:=M1.forget (n':=Ln n id) (h':=hc) (fun g r hr=>⟨hr,hids g r hr⟩) hkn;refine⟨R,wr,hRR,?_⟩;have hplace:∀{v:AV} {u:Value},Az {x with R:=R,wr:=wr} w' hc nn (Dr ρ ρf src) v u→E4 (fun g _=>Ln n id g) v→Az {x with R:=R,wr:=wr} w' hc (Ln n id) (Lz hc (Dr ρ ρf src)) v u:=by
  intro v u hv hgd;have h1:=hv.down hgd;refine h1.weaken (P:=fun _ _=>True) (E4.all (fun _ _=>trivial) h1) (fun _ h=>h) (fun _ _ h=>h) hids fun g p _=>?_;cases hl:A4 hc g with
  |none=>exact .inl rfl
  |some r=>exact .inr ⟨fun s xs h=>⟨xs,h,rfl⟩,fun q hq=>by simp[Lz,hl];exact hq⟩
 have M5:Aw {x with R:=R,wr:=wr} w' hc (Ln n id) (Lz hc (Dr ρ ρf src)) S' a.tmps:=fun d s hd=>⟨fun ht=>hplace ((M2 d s hd).1 ht) (hS2 d s hd ht),(M2 d s hd).2⟩
 exact Stt.put M4 M5 hN hdf hd (fun _=>hplace (M3 hvf) hgv2) (fun hg'=>absurd hg' (Un hg)) (fun _ h=>h)
end
theorem Rj.mono{P:Program}{f:Nat}{args:Array Value}{w:World}{R R':Value→World→Prop}(h:Rj P f args w R)(hr:∀u w',R u w'→R' u w'):Rj P f args w R':=by
 rcases h with⟨h1,h2⟩|⟨u,w',h1,h2⟩|⟨row,as,w1,h1,h2⟩
 ·exact .inl ⟨h1,h2.mono fun e w' ⟨u,he,hu⟩=>⟨u,he,hr _ _ hu⟩⟩
 ·exact .inr (.inl ⟨u,w',h1,hr _ _ h2⟩)
 ·exact .inr (.inr ⟨row,as,w1,h1,h2.mono hr⟩)
section
variable{P:Program}{E:Env}{x:Ctx}{w w':World}{h h2 hf hc hy:Ah}{n n2 nn nf:Nat→Prop}{L L2:List AV}{U U':Nat→Value}{ρ ρ2 ρf:Option Nat→Am}{sh:Bool}{id:Nat}
theorem T3:∀{mu:List Nat} {out:List AV} {g:Nat},g∉mu→A4 (Bf mu out) g=none
 |[],out,g,h=>by cases out<;>rfl
 |m::mu,[],g,h=>rfl
 |m::mu,y::out,g,h=>by
  simp only[Bf];rw[Ac,if_neg (fun e=>h (by simp[e]))];exact T3 fun hh=>h (by simp[hh])
def A4b(L:List AV)(i:Nat):Bool:=match L[i]? with
 |some (.own _ _)=>true
 |_=>false
theorem Sc.rd_qs{i:Nat}{ms:List Mz}{as:List AV}{us:List Value}{qs:List (Nat×Br)}{rs ws:List Nat}(A:Sc sh x w h n ρ L U i ms as us qs rs ws):Jr ms=true→qs=[]:=by
 induction A with
 |nil=>intro _;rfl
 |rd hv hn hr ih=>intro ha;exact ih ha
 |_=>intro ha;cases ha
theorem A2l{i:Nat}:A4b L i=true↔∃s xs,L[i]? =some (.own s xs):=by
 unfold A4b;cases hi:L[i]? with
 |none=>simp
 |some c=>cases c<;>simp
theorem B3y{g p y}{r:AV}(hl:A4 h g=some r)(e:Nat):A4 (hput h g p y) e=if g=e then some (AV.put y p r)else A4 h e:=F3 hl e
open Classical in
theorem B8e(hF:FE P E x){N:Nat}{S:Af}{a:Act}(H:Bp x w h n [] (fun _=>undef) ρ)(hs:Aw x w h n ρ S a.tmps)(hN:a.tmps.size=N)(hdf:a.defers=[])
 (hbd:∃B,∀g,n g→g<B)(hid:Tb n id){g:Option Bool}(hg:Cy g){d:Option Nat}(hd:∀k,d=some k→k<N){f:Nat}{vs:List AV}{us:List Value}(hl:vs.length=us.length)
 (hv:∀(i:Nat) v u,vs[i]? =some v→us[i]? =some u→Az x w h n ρ v u){K:Af→Ah→Prop}(hk:Qm E S h id d g f vs K):
 ∃S' h',K S' h'∧Rj P f us.toArray w fun u w'=>Sts x N S' h' (Ln n id) (a.put d u) w':=by
 unfold Qm at hk;cases hEf:E.F f with
 |none=>rw[hEf]at hk;exact hk.elim
 |some c=>
 rw[hEf]at hk;have hC:=(hF f c hEf).1;obtain⟨as,qs,rs,ws,S1,h1,ρ1,L1,U1,hk,H1,hs1,hmv,_,A⟩:=Ke H hs hl (fun i v u hv' hu=>⟨(hv i v u hv' hu).movV,C52 ((hv i v u hv' hu).names H.ids H.kn)⟩) hk;simp only[List.nil_append,List.length_nil]at H1 A;obtain⟨hcount,hkB⟩:=Bj hk;clear hk;cases hmt:Rr rs ws with
 |true=>rw[hmt]at hkB;exact hkB.elim
 |false=>
 rw[hmt]at hkB;obtain⟨xx,has,hpre0,hk⟩:=hkB;have hpre:=hpre0 hg;clear hpre0;subst has;have hq:qs.length≤1:=by
  obtain⟨v',os,hk'⟩:=A6j hk;cases hsc:c.sc with
  |true=>
   simp only[hsc]at hk';cases ha:Jr c.ms with
   |true=>rw[A.rd_qs ha];simp
   |false=>simp only[ha]at hk'
  |false=>
   simp only[hsc]at hk';match qs,hk' with
   |[],_=>simp
   |[_],_=>simp
   |_::_::_,hk'=>exact hk'.elim
 obtain⟨B,hB⟩:=hbd;obtain⟨id2,hid2,hid3⟩:∃id2,B≤id2∧id+16≤id2:=⟨max B (id+16),Nat.le_max_left _ _,Nat.le_max_right _ _⟩
 have hgh:∀i,¬n (id2+i):=fun i hn=>by have:=hB _ hn;omega
 obtain⟨h2,n2,L2,ρ2,H2,S2,r1,r2,r3⟩:=A4x (id:=id2) (S:=S1) ((List.range L1.length).filter (A4b L1)) (List.filter_sublist.nodup List.nodup_range) (fun i hi=>A2l.1 (List.mem_filter.1 hi).2) (fun i _=>hgh i) H1 hs1;have hmem:∀{i s xs},L1[i]? =some (.own s xs)→i∈(List.range L1.length).filter (A4b L1):=by
  intro i s xs hi;refine List.mem_filter.2 ⟨List.mem_range.2 ?_,A2l.2 ⟨s,xs,hi⟩⟩;rcases Nat.lt_or_ge i L1.length with h|h
  ·exact h
  ·rw[List.getElem?_eq_none h]at hi;cases hi
 obtain⟨ρ3,H3,hp3⟩:∃ρ3:Option Nat→Am,Bp x w h2 n2 [] (fun _=>undef) ρ3∧∀g,ρ3 (some g)=ρ2 (some g):=⟨_,H2.dropL,fun g=>rfl⟩
 have S3:Aw x w h2 n2 ρ3 S1 a.tmps:=fun d s hd=>⟨fun ht=>((S2 d s hd).1 ht).place hp3,(S2 d s hd).2⟩
 have R1:∀(i:Nat) s xs,L1[i]? =some (.own s xs)→A4 h2 (id2+i)=some (.own s xs)∧∀q,ρ3 (some (id2+i)) q=ρ1 none ((0,i)::q):=fun i s xs hi=>by
  obtain⟨b1,b2⟩:=r1 i (hmem hi);exact⟨by rw[b1,hi],fun q=>by rw[hp3,b2]⟩
 have R2:∀g,n g→A4 h2 g=A4 h1 g∧ρ3 (some g)=ρ1 (some g):=fun g hn=>by
  obtain⟨b1,b2⟩:=r2 g (fun i _ e=>hgh i (e▸hn));exact⟨b1,by rw[hp3,b2]⟩
 have R3:∀g,n g→n2 g:=fun g hn=>(r3 g).2 (.inl hn);obtain⟨hfenc,hfout,hout0,hini0⟩:=hC xx hpre;obtain⟨gs,Sy,hy,mu,e1,e2,e3,e4,e5,e6⟩:=C0h (x:=x) (sh:=c.sh) H1 H3 R1 R2 R3 (fun i _ _ _=>hgh i) A hfenc hq 0 0;simp only[Nat.zero_add,Nat.sub_zero]at e1 e2 e4;have hHand:B5s h2 gs hy:=⟨fun j r hr=>by
  obtain⟨_,g,p,h3,h4⟩:=e2.of j r hr;exact⟨g,p,by simpa using h3,h4⟩,fun j g p hj=>by
  obtain⟨s,xs,h3,h4⟩:=e2.own j g p hj;exact⟨s,xs,h3,by simpa using h4⟩,fun j j' g p p' hj hj'=>e3 j j' g p p' hj hj'⟩
 have hfree:∀j r,A4 hy j=some r→r.free:=(e1 _ (C49 hfenc hini0)).1;have HE:=H3.enter (sh:=c.sh) hHand hfree;have hrsn:=A.rs_known;have hrs:∀g,g∈rs→∀(j:Nat) (p:Br),gs[j]? ≠some (g,p):=by
  intro g hgr j p hj;rcases e2.src j g p hj with⟨m,_,rfl,_⟩|hq'
  ·exact hgh m (hrsn _ hgr)
  ·exact B9h hmt g hgr (e5 g p hq').2
 have SE:Aw (Ga c.sh x w ρ3 gs) w hy (fun j=>j<gs.length) (Cj ρ3 gs) Sy us.toArray:=by
  intro D s hD;obtain⟨_,b2,u,b3,b4⟩:=e6 gs hy (fun t gp ht=>by simpa using ht) (fun j r hr=>hr) hrs (fun j=>j<gs.length) D s hD;simp only[Nat.sub_zero]at b3;have:us.toArray.getD D undef=u:=by simp[Array.getD_eq_getD_getElem?,b3]
  rw[this];exact⟨fun _=>b4,fun hf=>by rw[b2]at hf;cases hf⟩
 have hout:=hout0;have hini:=hini0;obtain⟨hkle,hshape,hcon⟩:=e1 _ (C0n hini);simp only[Nat.zero_add]at hkle;obtain⟨v,os,hk,hgood,hos,hvr,hvf,hcall⟩:=hcon (Ga c.sh x w ρ3 gs) w us.toArray (Cj ρ3 gs) rfl rfl rfl rfl (H3.gok (hF f c hEf).2) (by simpa using A.len) HE SE id (Nat.le_trans hkle hcount) _ hk;have hnn:∀{g},Du id g→¬n g:=fun{g} hgn hn=>hid g hgn.1 hgn.2 hn;have hnn2:∀{g},Du id g→¬n2 g:=fun{g} hgn hn=>by
  rcases(r3 g).1 hn with h|⟨i,_,rfl⟩
  ·exact hnn hgn h
  ·have:=hgn.2;omega
 have hosn:∀{g},¬Du id g→A4 os g=none:=fun{g} hng=>by
  cases hl:A4 os g with
  |none=>rfl
  |some r=>exact absurd (hos g r hl).1 hng
 have hmuk:∀j,j∈mu→j<gs.length:=fun j hj=>by
  obtain⟨t,ht⟩:=List.getElem?_of_mem hj;obtain⟨g,p,_,_,h5⟩:=e4.2 t j ht;rcases Nat.lt_or_ge j gs.length with h|h
  ·exact h
  ·rw[List.getElem?_eq_none h]at h5;cases h5
 have houtn:∀{g},Du id g→A4 (Bf mu (c.out xx)) g=none:=fun{g} hgn=>T3 fun hm=>by
  have:=hmuk g hm;have:=hgn.1;omega
 have hold:∀{g},n g→A4 h2 g=A4 h1 g:=fun hn=>(R2 _ hn).1;have hn1:∀{g},¬n g→A4 h1 g=none:=fun{g} hn=>by
  cases hl:A4 h1 g with
  |none=>rfl
  |some r=>exact absurd (H1.ids g r hl) hn
 have hslots1:∀d s,A4 S1 d=some s→Cy s.c→E4 (fun g _=>n g) s.v:=fun d s hd ht=>((hs1 d s hd).1 ht).names H1.ids H1.kn;have plain:qs=[]→∀{Sn:Af} {hn:Ah},Sn=Bc S1 d g v→hn=os++h1→K Sn hn→∃S' h',K S' h'∧Rj P f us.toArray w fun u w'=>Sts x N S' h' (Ln n id) (a.put d u) w':=by
  rintro rfl Sn hn rfl rfl hK;have hmu:mu=[]:=List.eq_nil_of_length_eq_zero (by simpa using e4.1);subst hmu;have hoE:Bf [] (c.out xx)=[]:=by cases c.out xx<;>rfl
  refine⟨_,_,hK,hcall.mono fun u w' ⟨R',wr',ρf,q1,q2,q3⟩=>?_⟩;rw[hoE,List.nil_append]at q2 q3;have G:B32 c.sh n2 (fun g=>n2 g∨Du id g) x.k h2 os (os++h1) gs (fun g=>if Du id g then .new else if n g then .old else .gone):=by
   refine⟨fun g=>?_,fun g hgo=>?_,fun g hgn=>?_,fun g j p hgw=>?_,fun g hgg=>?_,fun g hn=>.inl hn,fun g hgn=>?_⟩
   ·rw[Be]
    by_cases h3:Du id g
    ·rw[if_pos h3]
     simp only;cases A4 os g with
     |some r=>rfl
     |none=>exact hn1 (hnn h3)
    ·rw[if_neg h3,hosn h3]
     by_cases h4:n g
     ·rw[if_pos h4];exact(hold h4).symm
     ·rw[if_neg h4];exact hn1 h4
   ·by_cases h3:Du id g
    ·simp[h3]at hgo
    ·by_cases h4:n g
     ·intro j p hj
      rcases e2.src j g p hj with⟨m,_,rfl,_⟩|hq'
      ·exact hgh m h4
      ·cases hq'
     ·simp[h3,h4]at hgo
   ·have h3:Du id g:=by
     by_cases h3:Du id g
     ·exact h3
     ·by_cases h4:n g<;>simp[h3,h4]at hgn
    exact⟨hnn2 h3,by have:=h3.1;omega,fun hsh r hr=>(hos g r hr).2.1 hsh,fun r hr=>(hos g r hr).2.2⟩
   ·by_cases h3:Du id g
    ·simp[h3]at hgw
    ·by_cases h4:n g<;>simp[h3,h4]at hgw
   ·intro hlt
    have h4:=H1.kn g hlt;have h3:¬Du id g:=fun h=>hnn h h4;simp[h3,h4]at hgg
   ·by_cases h3:Du id g
    ·exact .inr h3
    ·by_cases h4:n g<;>simp[h3,h4]at hgn
  refine B3s (x:=x) (n:=n) (id:=id) (S:=S1) (S':=S1) (src:=fun g=>if Du id g then .new else if n g then .old else .gone) hN hdf hd hg H3 hHand S3 q1 q2 G q3 (hgood.mono fun g _ hn=>by simp[hn]) hvr hvf
   (fun d s hd=>⟨s,hd,rfl,.inl rfl,fun ht=>(hslots1 d s hd ht).mono fun g p hn=>fun j q hw=>by
     have h3:¬Du id g:=fun h=>hnn h hn;simp[h3,hn]at hw⟩) (fun g r hr=>?_) (fun g hlt=>.inl (H1.kn g hlt)) (hgood.mono fun g _ hn=>.inr hn) (fun d s hd ht=>(hslots1 d s hd ht).mono fun g _ hn=>.inl hn)
  rw[Be]at hr;cases ho:A4 os g with
  |some r'=>exact .inr (hos g r' ho).1
  |none=>rw[ho]at hr;exact .inl (H1.ids g r hr)
 cases hsc:c.sc with
 |true=>
  simp only[hsc]at hk;cases ha:Jr c.ms with
  |false=>simp only[ha]at hk
  |true=>
   simp only[ha]at hk;match os,hk,plain with
   |[],hk,plain=>exact plain (A.rd_qs ha) rfl rfl hk
   |_::_,hk,_=>exact hk.elim
 |false=>
  simp only[hsc]at hk;match hqs:qs,hk with
  |_::_::_,hk=>exact hk.elim
  |[],hk=>
   cases ho:c.out xx with
   |nil=>rw[ho]at hk;exact plain rfl rfl rfl hk
   |cons y ys=>rw[ho]at hk;exact hk.elim
  |[(gm,p)],hk=>
   cases ho:c.out xx with
   |nil=>rw[ho]at hk;exact hk.elim
   |cons y ys=>
    cases ys with
    |cons y2 ys=>rw[ho]at hk;exact hk.elim
    |nil=>
     rw[ho]at hk hout hshape hcall hfout;have hngm:=(e5 gm p (by simp)).1;obtain⟨jm,hmu⟩:∃jm,mu=[jm]:=by
      match mu,e4.1 with
      |[jm],_=>exact⟨jm,rfl⟩
     subst hmu;obtain⟨gm',p',hq1,_,hq2⟩:=e4.2 0 jm rfl;simp only[List.getElem?_cons_zero,Option.some.injEq,Prod.mk.injEq]at hq1;obtain⟨rfl,rfl⟩:=hq1;obtain⟨⟨s,xs,zs,hs1',hs2',hs3'⟩,_⟩:=hshape;subst hs2';obtain⟨s',xs',ho1,ho2⟩:=e2.own jm gm p hq2;simp only[Nat.zero_add]at ho2;rw[hs1']at ho2;simp only[Option.some.injEq,AV.own.injEq]at ho2;obtain⟨rfl,rfl⟩:=ho2;obtain⟨rt,hrt,_⟩:=C6 ho1;have hrt1:A4 h1 gm=some rt:=by rw[←hold hngm];exact hrt
     have hjk:=hmuk jm (by simp);have hgm3:¬Du id gm:=fun h=>hnn h hngm;refine⟨_,_,hk,hcall.mono fun u w' ⟨R',wr',ρf,q1,q2,q3⟩=>?_⟩;have G:B32 c.sh n2 (fun g=>n2 g∨Du id g) x.k h2 (Bf [jm] [.own s zs]++os) (os++hput h1 gm p (.own s zs)) gs (fun g=>if Du id g then .new else if g=gm then .wri jm p else if n g then .old else .gone):=by
      refine⟨fun g=>?_,fun g hgo=>?_,fun g hgn=>?_,fun g j q hgw=>?_,fun g hgg=>?_,fun g hn=>.inl hn,fun g hgn=>?_⟩
      ·rw[Be,B3y hrt1]
       by_cases h3:Du id g
       ·rw[if_pos h3]
        simp only[Bf,List.cons_append,List.nil_append];rw[Ac,if_neg (show¬jm=g from fun e=>by have:=h3.1;omega),if_neg (show¬gm=g from fun e=>hgm3 (e▸h3))];cases A4 os g with
        |some r=>rfl
        |none=>exact hn1 (hnn h3)
       ·rw[if_neg h3,hosn h3]
        by_cases h5:g=gm
        ·subst h5
         rw[if_pos rfl];simp only[hrt,if_true,Bf,List.cons_append,List.nil_append];rw[Ac,if_pos rfl]
        ·rw[if_neg h5]
         simp only[if_neg (Ne.symm h5)];by_cases h4:n g
         ·rw[if_pos h4];exact(hold h4).symm
         ·rw[if_neg h4];exact hn1 h4
      ·by_cases h3:Du id g
       ·simp[h3]at hgo
       ·by_cases h5:g=gm
        ·subst h5;simp[h3]at hgo
        ·by_cases h4:n g
         ·intro j q hj
          rcases e2.src j g q hj with⟨m,_,rfl,_⟩|hq'
          ·exact hgh m h4
          ·simp only[List.mem_singleton,Prod.mk.injEq]at hq'
           exact h5 hq'.1
         ·simp[h3,h5,h4]at hgo
      ·have h3:Du id g:=by
        by_cases h3:Du id g
        ·exact h3
        ·by_cases h5:g=gm
         ·subst h5;simp[h3]at hgn
         ·by_cases h4:n g<;>simp[h3,h5,h4]at hgn
       have hlook:∀r,A4 (Bf [jm] [.own s zs]++os) g=some r→A4 os g=some r:=fun r hr=>by
        simp only[Bf,List.cons_append,List.nil_append]at hr;rw[Ac,if_neg (show¬jm=g from fun e=>by have:=h3.1;omega)]at hr;exact hr
       exact⟨hnn2 h3,by have:=h3.1;omega,fun hsh r hr=>(hos g r (hlook r hr)).2.1 hsh,fun r hr=>(hos g r (hlook r hr)).2.2⟩
      ·by_cases h3:Du id g
       ·simp[h3]at hgw
       ·by_cases h5:g=gm
        ·subst h5
         simp only[h3,if_false,if_true,Src.wri.injEq]at hgw;obtain⟨rfl,rfl⟩:=hgw;exact⟨hq2,s,xs,zs,ho1,by simp[Bf,Ac],hs3',fun hsh=>(hout hsh).1,hfout.1⟩
        ·by_cases h4:n g<;>simp[h3,h5,h4]at hgw
      ·intro hlt
       have h4:=H1.kn g hlt;have h3:¬Du id g:=fun h=>hnn h h4;by_cases h5:g=gm
       ·subst h5;simp[h3]at hgg
       ·simp[h3,h5,h4]at hgg
      ·by_cases h3:Du id g
       ·exact .inr h3
       ·by_cases h5:g=gm
        ·subst h5;simp[h3]at hgn
        ·by_cases h4:n g<;>simp[h3,h5,h4]at hgn
     refine B3s (x:=x) (n:=n) (id:=id) (S:=S1) (S':=voids gm S1) (src:=fun g=>if Du id g then .new else if g=gm then .wri jm p else if n g then .old else .gone) hN hdf hd hg H3 hHand S3 q1 q2 G q3 (hgood.mono fun g _ hn=>by simp[hn]) hvr hvf
      (fun d s hd=>?_) (fun g r hr=>?_) (fun g hlt=>.inl (H1.kn g hlt)) (hgood.mono fun g _ hn=>.inr hn) (fun d s hd ht=>?_)
     ·obtain⟨s0,v1,v2,v3,v4⟩:=Wt d s hd
      refine⟨s0,v1,v2,v3,fun ht=>?_⟩;have hnm:E4 (fun g _=>n g) s.v:=by
       rcases v3 with v3|v3
       ·rw[v3];exact hslots1 d s0 v1 (v2▸ht)
       ·rw[v3];exact .undef
      refine((v4 ht).and hnm).mono fun g q hgq=>fun j q' hw=>?_;obtain⟨hg1,hg2⟩:=hgq;rcases hg1 with hg1|hg1
      ·have h3:¬Du id g:=fun h=>hnn h hg2
       simp[h3,hg1,hg2]at hw
      ·exact hg1
     ·rw[Be]at hr
      cases ho':A4 os g with
      |some r'=>exact .inr (hos g r' ho').1
      |none=>
       rw[ho',B3y hrt1]at hr;by_cases h5:gm=g
       ·subst h5;exact .inl hngm
       ·simp only[if_neg h5]at hr;exact .inl (H1.ids g r hr)
     ·obtain⟨s0,v1,v2,v3,v4⟩:=Wt d s hd
      rcases v3 with v3|v3
      ·rw[v3];exact(hslots1 d s0 v1 (v2▸ht)).mono fun g _ hn=>.inl hn
      ·rw[v3];exact .undef
end
section
variable{P:Program}{E:Env}{x:Ctx}{w w':World}{h:Ah}{n n':Nat→Prop}{ρ:Option Nat→Am}{id:Nat}
theorem Stt.sts{N:Nat}{S:Af}{a:Act}(hst:Stt x N S h n a w):Sts x N S h n a w:=⟨x.R,x.wr,fun _ h=>h,hst⟩
theorem N0.wp{N:Nat}{o:Oper}{a:Act}{K:Af→Ah→Prop}{Q:Exit→Act→World→Prop}(hc:N0 P x N o a w n' K):∃S' h',K S' h'∧o.wp P a w (fun a' w'=>Sts x N S' h' n' a' w') Q:=by
 obtain⟨S',h',hK,w',⟨u,hrun,hst⟩|⟨hrun,hst⟩⟩:=hc
 ·exact⟨S',h',hK,B8f hrun hst.sts⟩
 ·refine⟨S',h',hK,?_⟩
  unfold Oper.wp;rw[hrun];exact hst.sts
theorem C16{o:Oper}{a:Act}{f:Nat}{args:Array Value}{next:Act→World→Prop}{Q:Exit→Act→World→Prop}(hrun:(execOp a.eval o).run P w=(callFunc f args).run P w)(hc:Rj P f args w fun u w'=>next (a.put o.dst u) w'):
 o.wp P a w next Q:=by
 unfold Oper.wp;rw[hrun];rcases hc with⟨h1,h2⟩|⟨u,w',h1,h2⟩|⟨row,as,w1,h1,h2⟩
 ·rw[h1]
  exact h2.mono fun e w' ⟨u,he,hu⟩=>by subst he;exact hu
 ·rw[h1];exact h2
 ·rw[h1];exact h2
theorem B5b(hT:TOk P E)(hF:FE P E x){N:Nat}{S:Af}{a:Act}(H:Bp x w h n [] (fun _=>undef) ρ)(hs:Aw x w h n ρ S a.tmps)(hN:a.tmps.size=N)(hdf:a.defers=[])
 (hbd:∃B,∀g,n g→g<B)(hid:Tb n id){g:Option Bool}(hg:Cy g){o:Oper}(hgv:g≠none→Cd E o=true)(hd:∀k,o.dst=some k→k<N){K:Af→Ah→Prop}{Q:Exit→Act→World→Prop}
 (hk:B0 E id o g S h K):∃S' h',K S' h'∧o.wp P a w (fun a' w'=>Sts x N S' h' (Ln n id) a' w') Q:=by
 by_cases hp:A4c E o=true
 ·obtain⟨v,u,h1,h2,h3⟩:=B9t hT H hs hg hp hk
  exact⟨_,_,h1,B8f h2 (Stt.put H hs hN hdf hd (fun _=>h3) (fun hg'=>absurd hg' (Un hg)) A7g).sts⟩
 ·by_cases hcall:∃c f,o.op=.call c∧c.callee=.value f
  ·obtain⟨c,f,ho,hc⟩:=hcall
   obtain⟨dst,op,type,pos,after,guard⟩:=o;simp only at ho;subst ho;simp only[B0,hc]at hk;obtain⟨fv,hk1,hfv⟩:=Cc hs hg hk;obtain⟨vs,hk2,hl,hvs⟩:=Le hs hg hk1;cases fv<;>try exact hk2.elim
   rename_i f' caps;revert hfv;generalize e0:a.eval f=uf;intro hfv;cases hfv with
   |cell hr=>cases hr
   |fn hcl hcc=>
    rename_i us;obtain⟨S',h',hK,hcl2⟩:=B8e (P:=P) (us:=c.args.toList.map a.eval++us.toList) hF H hs hN hdf hbd hid hg (d:=dst) hd (by simp[hl,hcl]) (fun i v u hv hu=>by
     by_cases hi:i<vs.length
     ·rw[List.getElem?_append_left hi]at hv
      rw[List.getElem?_append_left (by simp only[List.length_map];omega),List.getElem?_map]at hu;cases hy:c.args.toList[i]? with
      |none=>rw[hy]at hu;cases hu
      |some y=>
       rw[hy]at hu;simp only[Option.map_some,Option.some.injEq]at hu;subst hu;exact hvs i v y hv hy
     ·rw[List.getElem?_append_right (by omega)]at hv
      rw[List.getElem?_append_right (by simp only[List.length_map];omega)]at hu;have:=hcc _ v hv;have e:us.getD (i - vs.length) undef=u:=by
       have h9:us[i - vs.length]? =some u:=by
        rw[←hu];simp[hl]
       simp[Array.getD_eq_getD_getElem?,h9]
      rwa[e]at this) hk2
    refine⟨S',h',hK,C16 (f:=f') ?_ hcl2⟩;have hargs:(c.args.toList.map a.eval++us.toList).toArray=c.args.map a.eval++us:=by
     apply Array.ext';simp
    rw[hargs];simp only[execOp,resolve,hc,e0,Deferred.ofValue,Sem.run_bind,Sem.run_pure,Result.andThen_ok,invoke];simp
  ·have hvo:Cd E o=false:=by
    cases hv:Cd E o with
    |false=>rfl
    |true=>
     exfalso;apply hp;unfold A4c;cases ho:o.op<;>simp only[ho]<;>try exact hv
     rename_i c;cases hcc:c.callee<;>simp only[hcc]
     ·exact absurd ⟨c,_,ho,hcc⟩ hcall
     ·unfold Cd at hv
      simp only[ho,hcc]at hv;cases hv
     ·exact hv
   have hgn:g=none:=by
    cases g with
    |none=>rfl
    |some b=>have:=hgv (by simp);rw[hvo]at this;cases this
   subst hgn;cases ho:o.op with
   |alloc t=>exact(C0v hT H hs hN hdf hid hd ho hk).wp
   |box t y=>exact(C5s hT H hs hN hdf hid hd ho hk).wp
   |store t y z=>exact(C13 hT H hs hN hdf hd ho hk).wp
   |convert s t y=>exact(B4c hT H hs hN hdf hid hd ho hvo hk).wp
   |buildSlice t m parts=>exact(A47 hT H hs hN hdf hid hd ho hk).wp
   |makeSlice t l c=>exact(A7w hT H hs hN hdf hid hd ho hk).wp
   |call c=>
    cases hcc:c.callee with
    |value f=>exact absurd ⟨c,f,ho,hcc⟩ hcall
    |invoke r m=>simp only[B0,ho,hcc]at hk
    |builtin b=>
     by_cases hb:b=.append
     ·subst hb
      exact(B7g hT H hs hN hdf hid hd ho hcc hk).wp
     ·exfalso
      simp only[B0,ho,hcc]at hk;obtain⟨vs,hk2,_,_⟩:=Le hs (g:=none) trivial hk;simp only[Cd,ho,hcc]at hvo;cases b<;>first
       |exact absurd rfl hb
       |(cases hvo;done)
       |(rcases vs with _|⟨y,_|⟨z,_|⟨q,r⟩⟩⟩<;>first
          |exact hk2.elim
          |(cases y<;>(try exact hk2.elim)<;>cases z<;>exact hk2.elim))
   |_=>
    exfalso;first
     |(simp only[B0,ho]at hk;done)
     |(simp only[Cd,ho]at hvo;cases hvo;done)
     |(simp only[B0,ho]at hk;exact hk)
end
def HAg(l:List Nat)(h h':Ah):Prop:=∀g,g∈l→A4 h' g=A4 h g
theorem HAg.mono{l l':List Nat}{h h':Ah}(ha:HAg l h h')(hs:∀g,g∈l'→g∈l):HAg l' h h':=fun g hg=>ha g (hs g hg)
theorem HAg.hget{l:List Nat}{h h':Ah}(ha:HAg l h h'){g:Nat}(hg:g∈l)(p:Br):hget h' g p=hget h g p:=by unfold Go.GH.hget;rw[ha g hg]
def OAg(ys:List Operand)(S S':Af):Prop:=∀d,.tmp d∈ys→A4 S' d=A4 S d
theorem F8{a b:Nat}{K:Prop}(h:a≤b)(hk:K):leN a b K:=by
 unfold leN;rw[Nat.ble_eq_true_of_le h];exact hk
theorem K3{a b:Nat}{K:Prop}(h:a=b)(hk:K):eqN a b K:=by
 subst h;unfold eqN;rw[Nat.beq_refl];exact hk
section
variable{P:Program}{E:Env}{x:Ctx}{w w':World}{h:Ah}{n n':Nat→Prop}{ρ:Option Nat→Am}{id:Nat}{S:Af}{g:Option Bool}
theorem Cr{t:Nat}{ty:Ty}{K:Ty→Prop}(h:E.T t=some ty)(hk:K ty):L5 E t K:=by
 unfold L5;rw[h];exact hk
theorem J0{g:Nat}{p:Br}{s:Nat}{xs:List (List AV)}{K:Nat→List (List AV)→Prop}(hg:hget h g p=some (.own s xs))(hk:K s xs):arr h g p K:=by
 unfold arr;rw[hg];exact hk
theorem Zi{g:Nat}{p:Br}{s:Nat}{xs:List (List AV)}{K:Prop}(hg:hget h g p=some (.own s xs))(hk:K):live h g p K:=by
 unfold live;rw[hg];exact hk
theorem Vb{v:AV}{i:Nat}(h:i∈v.ids1):i∈v.ids:=by
 cases v<;>first|exact h|cases h
theorem Tj{i:Nat}:∀{cs:List AV},i∈G9 cs→i∈Mi cs
 |[],h=>h
 |c::cs,h=>by
  simp only[G9,Mi,List.mem_append]at h⊢;exact h.imp Vb Tj
theorem C6a{v:AV}{i:Nat}(h:i∈v.ids):i∈v.idsU:=by
 have h2:i∈v.ids2:=by cases v<;>first|exact h|exact Tj h|cases h
 unfold AV.idsU;split
 ·cases h
 ·split
  ·exact List.mem_cons_of_mem _ h2
  ·exact h2
theorem C9{y:Operand}{k:AV→Prop}(hk:val S g y k):∃v,k v∧(∀i,i∈v.ids→i∈Ri S y)∧∀S' k',OAg [y] S S'→k' v→val S' g y k':=by
 cases y with
 |const v=>
  refine⟨_,hk,?_,fun _ _ _ h=>h⟩;intro i hi;exfalso;have:(v.toAV).ids=[]:=by
   unfold Value.toAV;repeat' split
   all_goals rfl
  rw[this]at hi;cases hi
 |func f=>exact⟨_,hk,(by intro i hi;cases hi),fun _ _ _ h=>h⟩
 |global q=>exact hk.elim
 |tmp d=>
  simp only[val]at hk;cases hl:A4 S d with
  |none=>rw[hl]at hk;exact hk.elim
  |some s=>
   rw[hl]at hk;obtain⟨c,v⟩:=s;have hi:∀i,i∈v.ids→i∈Ri S (.tmp d):=by intro i hi;simp only[Ri,hl];exact C6a hi
   cases c with
   |none=>exact⟨v,hk,hi,fun S' k' ha h=>by simp only[val];rw[ha d (by simp),hl];exact h⟩
   |some b=>exact⟨v,hk.2,hi,fun S' k' ha h=>by simp only[val];rw[ha d (by simp),hl];exact⟨hk.1,h⟩⟩
def Fn:List AV→List Nat
 |[]=>[]
 |v::r=>v.ids++Fn r
theorem B8b:∀(cs:List AV),Fn cs=Mi cs
 |[]=>rfl
 |c::cs=>by simp only[Fn,Mi,B8b cs]
theorem A2w{y:Operand}{k:AV→Prop}(hk:val S g y k)(hno:∀v,k v→∃f cs,v=.fn f cs):
 ∃f cs,k (.fn f cs)∧(∀i,i∈Fn cs→i∈Ri S y)∧(∀f2,y=.func f2→f=f2∧cs=[])∧∀S' k',OAg [y] S S'→k' (.fn f cs)→val S' g y k':=by
 cases y with
 |const v=>
  obtain⟨f,cs,e⟩:=hno _ hk;have hcs:cs=[]:=by
   unfold Value.toAV at e;repeat' split at e
   all_goals first|(cases e;done)|(simp only[AV.fn.injEq]at e;exact e.2.symm)
  subst hcs;have hk':k v.toAV:=hk;rw[e]at hk';exact⟨f,[],hk',by simp[Fn],by simp,fun S' k' _ h=>by simp only[val];rw[e];exact h⟩
 |func f=>exact⟨f,[],hk,by simp[Fn],by simp,fun _ _ _ h=>h⟩
 |global q=>exact hk.elim
 |tmp d=>
  simp only[val]at hk;cases hl:A4 S d with
  |none=>rw[hl]at hk;exact hk.elim
  |some s=>
   rw[hl]at hk;obtain⟨c,v⟩:=s;have hv:∃f cs,v=.fn f cs:=by
    cases c with
    |none=>exact hno _ hk
    |some b=>exact hno _ hk.2
   obtain⟨f,cs,rfl⟩:=hv;have hi:∀i,i∈Fn cs→i∈Ri S (.tmp d):=by intro i hi;rw[B8b]at hi;simp only[Ri,hl,AV.idsU];split<;>first|exact List.mem_cons_of_mem _ hi|exact hi
   cases c with
   |none=>exact⟨f,cs,hk,hi,by simp,fun S' k' ha h=>by simp only[val];rw[ha d (by simp),hl];exact h⟩
   |some b=>exact⟨f,cs,hk.2,hi,by simp,fun S' k' ha h=>by simp only[val];rw[ha d (by simp),hl];exact⟨hk.1,h⟩⟩
theorem OAg.head{y:Operand}{ys:List Operand}{S S':Af}(h:OAg (y::ys) S S'):OAg [y] S S':=fun d hd=>h d (by simp at hd;simp[hd])
theorem OAg.tail{y:Operand}{ys:List Operand}{S S':Af}(h:OAg (y::ys) S S'):OAg ys S S':=fun d hd=>h d (by simp[hd])
theorem OAg.mono{zs ys:List Operand}{S S':Af}(h:OAg ys S S')(hz:∀z,z∈zs→z∈ys):OAg zs S S':=fun d hd=>h d (hz _ hd)
theorem OAg.one{z:Operand}{ys:List Operand}{S S':Af}(h:OAg ys S S')(hz:z∈ys):OAg [z] S S':=h.mono (by simpa using hz)
theorem A64{y:Operand}{i:Nat}:∀{ys:List Operand},y∈ys→i∈Ri S y→i∈P8 S ys
 |[],hy,_=>by cases hy
 |z::ys,hy,hi=>by
  simp only[P8,List.mem_append];rcases List.mem_cons.1 hy with rfl|hy
  ·exact .inl hi
  ·exact .inr (A64 hy hi)
theorem Hs:∀{ys:List Operand} {k:List AV→Prop},A16 S g ys k→∃vs,k vs∧(∀i,i∈Fn vs→i∈P8 S ys)∧∀S' k',OAg ys S S'→k' vs→A16 S' g ys k'
 |[],k,hk=>⟨[],hk,fun _ h=>h,fun _ _ _ h=>h⟩
 |y::ys,k,hk=>by
  obtain⟨v,h1,i1,t1⟩:=C9 hk;obtain⟨vs,h2,i2,t2⟩:=Hs h1;refine⟨v::vs,h2,fun i hi=>?_,fun S' k' ha hk'=>t1 _ _ ha.head (t2 _ _ ha.tail hk')⟩;simp only[Fn,P8,List.mem_append]at hi⊢;exact hi.imp (i1 i) (i2 i)
theorem A1v{y:Option Operand}{k:Option AV→Prop}(hk:C03 S g y k):∃v,k v∧∀S' k',OAg y.toList S S'→k' v→C03 S' g y k':=by
 cases y with
 |none=>exact⟨none,hk,fun _ _ _ h=>h⟩
 |some y=>
  have hk':val S g y fun v=>k (some v):=hk;obtain⟨v,h1,_,t1⟩:=C9 hk';exact⟨some v,h1,fun S' k' ha h=>t1 S' (fun v=>k' (some v)) ha h⟩
theorem B7e{gd:Option Bool}{ty:Ty}{a:AV}{K:AV→Prop}(hk:loadAt gd ty h a K):∃v,K v∧∀h' K',HAg a.ids h h'→K' v→loadAt gd ty h' a K':=by
 cases a<;>simp only[loadAt]at hk;case bx g f=>
  obtain⟨s,xs,hg,hk⟩:=Bv hk;match xs,hk,hg with
  |[],hk,_=>exact hk.elim
  |_::_::_,hk,_=>exact hk.elim
  |[r],hk,hg=>
   obtain⟨hl,hk⟩:=Bj hk;cases hq:ty.k.agg<;>rw[hq]at hk<;>refine⟨_,hk,fun h' K' ha hk'=>?_⟩<;>simp only[loadAt]<;>
    exact J0 ((ha.hget (by simp[AV.ids,AV.ids1]) _).trans hg) (F8 hl (by rw[hq];exact hk'))
 case ptr g p i f=>
  obtain⟨s,xs,hg,hk⟩:=Bv hk;obtain⟨hl,r,hr,hk⟩:=Bj hk;cases hq:ty.k.agg<;>rw[hq]at hk<;>refine⟨_,hk,fun h' K' ha hk'=>?_⟩<;>simp only[loadAt]<;>
   exact J0 ((ha.hget (by simp[AV.ids,AV.ids1]) _).trans hg) (F8 hl ⟨r,hr,by rw[hq];exact hk'⟩)
 case pin cs=>
  obtain⟨hl,hk⟩:=Bj hk;cases hq:ty.k.agg<;>rw[hq]at hk<;>refine⟨_,hk,fun h' K' ha hk'=>?_⟩<;>simp only[loadAt]<;>
   exact F8 hl (by rw[hq];exact hk')
theorem C0p{op:BinOp}{k:IntKind}{a b:Int}{K:AV→Prop}(hk:B2n op k a b K):∃v,K v∧∀K':AV→Prop,K' v→B2n op k a b K':=by
 cases op<;>simp only[B2n]at hk<;>first|exact⟨_,Hx hk,fun K' h=>B38 h⟩|exact⟨_,Hx hk.2,fun K' h=>⟨hk.1,B38 h⟩⟩|exact⟨_,hk,fun K' h=>h⟩
theorem B6j{op:BinOp}{k:IntKind}{a b:Int}{K:AV→Prop}(hk:X8 op k a b K):∃v,K v∧∀K':AV→Prop,K' v→X8 op k a b K':=by
 cases op<;>simp only[X8]at hk<;>exact⟨_,Hx hk.2,fun K' h=>⟨hk.1,B38 h⟩⟩
theorem B9y{op:BinOp}{a b:List UInt8}{K:AV→Prop}(hk:B2x op a b K):∃v,K v∧∀K':AV→Prop,K' v→B2x op a b K':=by
 cases op<;>simp only[B2x]at hk<;>first|exact⟨_,hk,fun K' h=>h⟩|exact⟨_,hk.2,fun K' h=>⟨hk.1,h⟩⟩
theorem C40{k:TK}{a b:AV}{K:Bool→Prop}(hk:C1h k a b K):∃v,K v∧∀K':Bool→Prop,K' v→C1h k a b K':=by
 cases k<;>simp only[C1h]at hk;case int k0=>
  cases a<;>cases b<;>simp only at hk;rename_i k m k' m';cases hd:decide (k=k')<;>rw[hd]at hk
  ·exact hk.elim
  ·exact⟨_,hk,fun K' h=>by simp only[C1h];rw[hd];exact h⟩
 case str=>cases a<;>cases b<;>simp only at hk;exact⟨_,hk,fun K' h=>h⟩
 case bool=>cases a<;>cases b<;>simp only at hk;exact⟨_,hk,fun K' h=>h⟩
theorem Xm:∀{fs:List (Nat×Nat)} {k:Nat} {as bs:List AV} {K:Bool→Prop},Jf E k fs as bs K→∃v,K v∧∀K':Bool→Prop,K' v→Jf E k fs as bs K'
 |[],k,as,bs,K,hk=>by cases as<;>cases bs<;>simp only[Jf]at hk;exact⟨_,hk,fun K' h=>h⟩
 |(o,u)::fs,k,as,bs,K,hk=>by
  cases as with
  |nil=>simp only[Jf]at hk
  |cons a as=>
   cases bs with
   |nil=>simp only[Jf]at hk
   |cons b bs=>
    simp only[Jf]at hk;obtain⟨e1,hk⟩:=C8 hk;obtain⟨ty,e2,hk⟩:=B9 hk;obtain⟨r,hk,t1⟩:=C40 hk;obtain⟨r2,hk,t2⟩:=Xm hk;exact⟨_,hk,fun K' h=>by simp only[Jf];exact K3 e1 (Cr e2 (t1 _ (t2 (fun y=>K' (r&&y)) h)))⟩
theorem C0j{a:AV}{K:Bool→Prop}(hk:A5p h a K):∃v,K v∧∀h' (K':Bool→Prop),HAg a.ids h h'→K' v→A5p h' a K':=by
 cases a<;>simp only[A5p]at hk;case nils=>exact⟨_,hk,fun _ _ _ h=>h⟩
 case rd=>exact⟨_,hk.2,fun _ _ _ h=>⟨hk.1,h⟩⟩
 case view g p o l=>
  cases hg:hget h g p with
  |none=>rw[hg]at hk;exact hk.elim
  |some c=>
   rw[hg]at hk;cases c<;>first
    |exact hk.elim
    |(refine⟨_,hk.2,fun h' K' ha h=>?_⟩
      simp only[A5p];rw[ha.hget (by simp[AV.ids,AV.ids1]),hg];exact⟨hk.1,h⟩)
theorem B43{t:Nat}{c:Bool}{a b:AV}{K:Bool→Prop}(hk:B58 E t h c a b K):∃v,K v∧∀h' (K':Bool→Prop),HAg a.ids h h'→K' v→B58 E t h' c a b K':=by
 obtain⟨ty,ht,hk⟩:=B9 hk;cases hq:ty.k<;>rw[hq]at hk<;>simp only at hk;case bool=>cases a<;>cases b<;>simp only at hk;exact⟨_,hk,fun h' K' _ h=>Cr ht (by rw[hq];exact h)⟩
 case struct fs=>
  cases a<;>try exact hk.elim
  cases b<;>try exact hk.elim
  obtain⟨r,hk,t1⟩:=Xm hk;exact⟨_,hk,fun h' K' _ h=>Cr ht (by rw[hq];exact t1 _ h)⟩
 case slice e=>
  cases b<;>try exact hk.elim
  obtain⟨r,hk,t1⟩:=C0j hk;exact⟨_,hk,fun h' K' ha h=>Cr ht (by rw[hq];exact t1 _ _ ha h)⟩
 case iface=>
  cases a<;>try exact hk.elim
  ·cases b<;>try exact hk.elim
   cases c<;>first|exact hk.elim|exact⟨_,hk,fun h' K' _ h=>Cr ht (by rw[hq];exact h)⟩
  ·cases b<;>try exact hk.elim
   exact⟨_,hk,fun h' K' _ h=>Cr ht (by rw[hq];exact h)⟩
theorem C07{t:Nat}{c:Bool}{op:BinOp}{a b:AV}{K:AV→Prop}(hk:binOp E t h c op a b K):∃v,K v∧∀h' (K':AV→Prop),HAg a.ids h h'→K' v→binOp E t h' c op a b K':=by
 by_cases hint:(∃k m,a=.int k m)∧∃k m,b=.int k m
 ·obtain⟨⟨k,m,rfl⟩,k',m',rfl⟩:=hint
  simp only[binOp]at hk⊢;cases hsh:A4h op with
  |true=>
   rw[hsh]at hk;obtain⟨v,h1,t1⟩:=B6j hk;exact⟨v,h1,fun _ K' _ h=>t1 _ h⟩
  |false=>
   rw[hsh]at hk;cases hd:decide (k=k')<;>rw[hd]at hk
   ·exact hk.elim
   ·obtain⟨v,h1,t1⟩:=C0p hk
    exact⟨v,h1,fun _ K' _ h=>t1 _ h⟩
 ·by_cases hstr:(∃s,a=.str s)∧∃s,b=.str s
  ·obtain⟨⟨s,rfl⟩,s',rfl⟩:=hstr
   simp only[binOp]at hk⊢;obtain⟨v,h1,t1⟩:=B9y hk;exact⟨v,h1,fun _ K' _ h=>t1 _ h⟩
  ·have conv:∀h K,binOp E t h c op a b K=(match(generalizing:=false) op with
    |.eql=>B58 E t h c a b fun b=>K (.bool b)
    |.neq=>B58 E t h c a b fun b=>K (.bool (!b))
    |_=>False):=by
    intro h K;unfold binOp;split
    ·exact absurd ⟨⟨_,_,rfl⟩,_,_,rfl⟩ hint
    ·exact absurd ⟨⟨_,rfl⟩,_,rfl⟩ hstr
    ·cases op<;>rfl
   rw[conv]at hk;cases op<;>simp only at hk
   ·obtain⟨r,h1,t1⟩:=B43 hk
    exact⟨_,h1,fun h' K' ha h=>by rw[conv];exact t1 _ _ ha h⟩
   ·obtain⟨r,h1,t1⟩:=B43 hk
    exact⟨_,h1,fun h' K' ha h=>by rw[conv];exact t1 _ (fun b=>K' (.bool (!b))) ha h⟩
theorem C3q{op:UnOp}{a:AV}{K:AV→Prop}(hk:unOp op a K):∃v,K v∧∀K':AV→Prop,K' v→unOp op a K':=by
 cases op<;>cases a<;>simp only[unOp]at hk<;>first|exact⟨_,Hx hk,fun _ h=>B38 h⟩|exact⟨_,hk,fun _ h=>h⟩|exact hk.elim
theorem Tm{ty:Ty}{a:AV}{K:AV→Prop}(hk:convert ty a K):∃v,K v∧∀K':AV→Prop,K' v→convert ty a K':=by
 unfold Go.GH.convert at hk⊢;cases hq:ty.k<;>rw[hq]at hk<;>cases a<;>first|exact⟨_,Hx hk,fun _ h=>B38 h⟩|exact⟨_,hk,fun _ h=>h⟩|exact hk.elim
theorem Ve{t f:Nat}{K:Nat→Nat→Prop}(hk:O8 E t f K):∃o u,K o u∧∀K':Nat→Nat→Prop,K' o u→O8 E t f K':=by
 obtain⟨ty,ht,hk⟩:=B9 hk;cases hq:ty.k<;>rw[hq]at hk<;>simp only at hk;rename_i fs;cases hf:fs[f]? with
 |none=>rw[hf]at hk;exact hk.elim
 |some ou=>obtain⟨o,u⟩:=ou;rw[hf]at hk;exact⟨o,u,hk,fun K' h=>Cr ht (by rw[hq];simp only;rw[hf];exact h)⟩
theorem B54{a:AV}{o:Nat}{K:AV→Prop}(hk:fieldAt h a o K):∃v,K v∧∀h' (K':AV→Prop),HAg a.ids h h'→K' v→fieldAt h' a o K':=by
 cases a<;>simp only[fieldAt]at hk
 ·obtain⟨_,_,e,hk⟩:=Kt hk;exact⟨_,hk,fun h' K' ha h=>Zi ((ha.hget (by simp[AV.ids,AV.ids1]) _).trans e) h⟩
 ·obtain⟨_,_,e,hk⟩:=Kt hk;exact⟨_,hk,fun h' K' ha h=>Zi ((ha.hget (by simp[AV.ids,AV.ids1]) _).trans e) h⟩
 ·exact⟨_,hk,fun _ _ _ h=>h⟩
theorem B5d{ty:Ty}{o:Nat}{a:AV}{K:AV→Prop}(hk:Zb ty o a K):∃v,K v∧∀K':AV→Prop,K' v→Zb ty o a K':=by
 cases a<;>simp only[Zb]at hk⊢;obtain⟨e,hk⟩:=Bj hk;cases hq:ty.k.agg<;>rw[hq]at hk<;>exact⟨_,hk,fun _ h=>F8 e h⟩
theorem G6{t:Nat}{K:Ty→Prop}(hk:Mr E t K):∃v,K v∧∀K':Ty→Prop,K' v→Mr E t K':=by
 obtain⟨ty,ht,hk⟩:=B9 hk;cases hq:ty.k<;>rw[hq]at hk<;>simp only at hk;obtain⟨te,hte,hk⟩:=B9 hk;exact⟨_,hk,fun K' h=>Cr ht (by rw[hq];exact Cr hte h)⟩
theorem B4i{ty:Ty}{a i:AV}{K:AV→Prop}(hk:indexAt ty h g a i K):∃v,K v∧∀h' (K':AV→Prop),HAg a.ids h h'→K' v→indexAt ty h' g a i K':=by
 cases i<;>cases a<;>simp only[indexAt]at hk
 ·obtain⟨e,r,hr,hk⟩:=C8 hk
  exact⟨_,hk,fun h' K' _ h=>by simp only[indexAt];exact K3 e ⟨r,hr,h⟩⟩
 ·obtain⟨s,xs,hg,hk⟩:=Bv hk
  obtain⟨e,hb,hk⟩:=C8 hk;exact⟨_,hk,fun h' K' ha h=>by simp only[indexAt];exact J0 ((ha.hget (by simp[AV.ids,AV.ids1]) _).trans hg) (K3 e ⟨hb,h⟩)⟩
theorem A6n{sz:Nat}{a:AV}{l u:Int}{K:AV→Prop}(hk:B3f sz h a l u K):∃v,K v∧∀h' (K':AV→Prop),HAg a.ids h h'→K' v→B3f sz h' a l u K':=by
 cases a<;>simp only[B3f]at hk;case view=>
  obtain⟨s,xs,hg,hk⟩:=Bv hk;obtain⟨e,hk⟩:=C8 hk;exact⟨_,hk,fun h' K' ha h=>J0 ((ha.hget (by simp[AV.ids,AV.ids1]) _).trans hg) (K3 e h)⟩
 case rd=>obtain⟨e,hk⟩:=C8 hk;exact⟨_,hk,fun h' K' ha h=>K3 e h⟩
 case nils=>exact⟨_,hk,fun _ _ _ h=>h⟩
 case emp=>exact⟨_,hk,fun _ _ _ h=>h⟩
theorem A56{a:AV}{K:Nat→Prop}(hk:lenOf h a K):∃m,K m∧∀h' (K':Nat→Prop),HAg a.ids h h'→K' m→lenOf h' a K':=by
 cases a<;>simp only[lenOf]at hk<;>first
  |exact⟨_,hk,fun _ _ _ h=>h⟩
  |(obtain⟨_,_,e,hk⟩:=Kt hk;exact⟨_,hk,fun h' K' ha h=>Zi ((ha.hget (by simp[AV.ids,AV.ids1]) _).trans e) h⟩)
theorem A8o{lo:Option AV}{d:Nat}{K:Int→Prop}(hk:A2s lo d K):∃m,K m∧∀K':Int→Prop,K' m→A2s lo d K':=by
 cases lo with
 |none=>exact⟨_,hk,fun _ h=>h⟩
 |some v=>cases v<;>simp only[A2s]at hk⊢;exact⟨_,hk,fun _ h=>h⟩
theorem B4j{gd:Option Bool}{t:Nat}{a:AV}{hi mx:Option AV}{m:Nat}{l u:Int}{K:AV→Prop}(hk:Z6 E gd t h a hi mx m l u K):∃v,K v∧∀h' (K':AV→Prop),HAg a.ids h h'→K' v→Z6 E gd t h' a hi mx m l u K':=by
 obtain⟨ty,ht,hk⟩:=B9 hk;cases hq:ty.k<;>rw[hq]at hk<;>simp only at hk
 ·cases mx with
  |some v=>exact hk.elim
  |none=>
   cases a<;>simp only at hk;exact⟨_,hk.2,fun h' K' _ h=>Cr ht (by rw[hq];exact⟨hk.1,h⟩)⟩
 ·obtain⟨te,hte,hk⟩:=B9 hk
  cases mx with
  |none=>
   obtain⟨v,h1,t1⟩:=A6n hk.2;exact⟨v,h1,fun h' K' ha h=>Cr ht (by rw[hq];exact Cr hte ⟨hk.1,t1 _ _ ha h⟩)⟩
  |some v=>
   cases v<;>simp only at hk;cases hi with
   |none=>exact hk.elim
   |some hv=>
    rcases hk with⟨q1,q2,q3,q4,hk⟩|⟨q1,q2,q3,q4,hk⟩
    ·exact⟨_,hk,fun h' K' ha h=>Cr ht (by rw[hq];exact Cr hte (.inl ⟨q1,q2,q3,q4,h⟩))⟩
    ·obtain⟨v,h1,t1⟩:=A6n hk
     exact⟨v,h1,fun h' K' ha h=>Cr ht (by rw[hq];exact Cr hte (.inr ⟨q1,q2,q3,q4,t1 _ _ ha h⟩))⟩
theorem Vr{b:Builtin}{y z:AV}{K:AV→Prop}(hk:A1u b y z K):∃v,K v∧∀K':AV→Prop,K' v→A1u b y z K':=by
 cases y<;>(try exact hk.elim)<;>cases z<;>(try exact hk.elim)
 cases b<;>first|exact⟨_,Hx hk,fun _ h=>B38 h⟩|exact hk.elim
theorem C0k{t:Nat}{a:AV}{K:Nat→Prop}(hk:C22 E t h a K):∃m,K m∧∀h' (K':Nat→Prop),HAg a.ids h h'→K' m→C22 E t h' a K':=by
 obtain⟨ty,ht,hk⟩:=B9 hk;cases hq:ty.k<;>rw[hq]at hk<;>simp only at hk
 ·cases a<;>simp only at hk
  exact⟨_,hk,fun h' K' _ h=>Cr ht (by rw[hq];exact h)⟩
 ·have hk':lenOf h a K∧∀s,a≠.str s:=by cases a<;>first|exact hk.elim|exact⟨hk,by simp⟩
  obtain⟨m,h1,t1⟩:=A56 hk'.1;refine⟨m,h1,fun h' K' ha h=>Cr ht ?_⟩;have h2:=t1 h' K' ha h;have h3:=hk'.2;rw[hq];cases a<;>first|exact absurd rfl (h3 _)|exact h2
theorem Zo{fs:List (Nat×Nat)}:∀{is:List Nat} {vs zs:List AV} {K:List AV→Prop},Mb E fs zs is vs K→∃cs,K cs∧∀K':List AV→Prop,K' cs→Mb E fs zs is vs K'
 |[],[],zs,K,hk=>⟨_,hk,fun _ h=>h⟩
 |[],_::_,zs,K,hk=>hk.elim
 |i::is,[],zs,K,hk=>hk.elim
 |i::is,v::vs,zs,K,hk=>by
  simp only[Mb]at hk;cases hf:fs[i]? with
  |none=>rw[hf]at hk;exact hk.elim
  |some ou=>
   obtain⟨o,t⟩:=ou;rw[hf]at hk;obtain⟨ty,ht,hk⟩:=B9 hk;have hk':(v≠.undef)∧eqN v.cells.length ty.size (leN (o+ty.size) zs.length (Mb E fs (setCells o v.cells zs) is vs K)):=by
    cases v<;>first|exact hk.elim|exact⟨by simp,hk⟩
   obtain⟨hv,hk'⟩:=hk';obtain⟨e1,hk⟩:=C8 hk';obtain⟨e2,hk⟩:=Bj hk;obtain⟨cs,h1,t1⟩:=Zo hk;refine⟨cs,h1,fun K' h=>?_⟩;simp only[Mb];rw[hf];refine Cr ht ?_;have h2:=K3 e1 (F8 e2 (t1 K' h));cases v<;>first|exact absurd rfl hv|exact h2
theorem B7n{t:Option Nat}{v:AV}{K:AV→Af→Ah→Prop}(hk:Em S h t v K):∃c S' h',K c S' h':=by
 cases v<;>simp only[Em]at hk;case view g p o l=>
  obtain⟨s,xs,_,hk⟩:=Bv hk;rw[Ir]at hk;exact⟨_,_,_,hk⟩
 case nils=>cases t<;>first|exact hk.elim|exact⟨_,_,_,hk⟩
 case emp=>cases t<;>first|exact hk.elim|exact⟨_,_,_,hk⟩
 all_goals exact⟨_,_,_,hk⟩
theorem Z4:∀{ts:List (Option Nat)} {vs:List AV} {S:Af} {h:Ah} {K:List AV→Af→Ah→Prop},C1 S h ts vs K→∃cs S' h',K cs S' h'
 |[],[],S,h,K,hk=>⟨_,_,_,hk⟩
 |[],_::_,S,h,K,hk=>by simp[C1]at hk
 |_::_,[],S,h,K,hk=>by simp[C1]at hk
 |t::ts,v::vs,S,h,K,hk=>by
  simp only[C1]at hk;obtain⟨c,S1,h1,hk⟩:=B7n hk;obtain⟨cs,S2,h2,hk⟩:=Z4 hk;exact⟨_,_,_,hk⟩
theorem Py{sh:Bool}:∀{ms:List Mz} {vs:List AV} {S:Af} {h:Ah} {K:List AV→List (Nat×Br)→List Nat→List Nat→Af→Ah→Prop},Dm sh S h ms vs K→∃as qs rs ws S' h',K as qs rs ws S' h'
 |[],[],S,h,K,hk=>⟨_,_,_,_,_,_,hk⟩
 |[],_::_,S,h,K,hk=>hk.elim
 |m::ms,[],S,h,K,hk=>by cases m<;>exact hk.elim
 |.rd ts::ms,v::vs,S,h,K,hk=>by
  simp only[Dm]at hk;obtain⟨as,qs,rs,ws,S',h',hk⟩:=Py hk;exact⟨_,_,_,_,_,_,hk⟩
 |.co ts::ms,v::vs,S,h,K,hk=>by
  simp only[Dm]at hk;obtain⟨cs,S1,h1,hk⟩:=Z4 hk;obtain⟨as,qs,rs,ws,S',h',hk⟩:=Py hk;exact⟨_,_,_,_,_,_,hk⟩
 |.mv::ms,v::vs,S,h,K,hk=>by
  cases v<;>simp only[Dm]at hk;all_goals
   obtain⟨as,qs,rs,ws,S',h',hk⟩:=Py hk;obtain⟨s,xs,_,_,_,hk⟩:=Bv hk;exact⟨_,_,_,_,_,_,hk⟩
 |.mp::ms,v::vs,S,h,K,hk=>by
  cases v<;>simp only[Dm]at hk;rename_i g f;cases f with
  |succ f=>exact hk.elim
  |zero=>
   obtain⟨as,qs,rs,ws,S',h',hk⟩:=Py hk;obtain⟨s,xs,_,hk⟩:=Bv hk;match xs,hk with
   |[],hk=>exact hk.elim
   |_::_::_,hk=>exact hk.elim
   |[r],hk=>exact⟨_,_,_,_,_,_,hk⟩
 |.ma::ms,v::vs,S,h,K,hk=>by
  rcases A4l hk with⟨g,p,off,len,rfl,hk2⟩|⟨s0,g,n0,rfl,hk2⟩
  all_goals
   clear hk;obtain⟨as,qs,rs,ws,S',h',hk⟩:=Py hk2;obtain⟨s,xs,_,_,_,hk⟩:=Bv hk;exact⟨_,_,_,_,_,_,hk⟩
end
section
variable{P:Program}{E:Env}{x:Ctx}{w w':World}{h:Ah}{n n':Nat→Prop}{ρ:Option Nat→Am}{id:Nat}{S:Af}{g:Option Bool}
theorem Da{o:Oper}{y:Operand}{i:Nat}(hy:y∈o.op.operands.toList)(hi:i∈Ri S y):i∈touched S o:=A64 hy hi
theorem K7{o:Oper}{ys:List Operand}{i:Nat}(hy:∀y,y∈ys→y∈o.op.operands.toList)(hi:i∈P8 S ys):i∈touched S o:=by
 induction ys with
 |nil=>cases hi
 |cons z ys ih=>
  simp only[P8,List.mem_append]at hi;rcases hi with hi|hi
  ·exact Da (hy z (by simp)) hi
  ·exact ih (fun y hy'=>hy y (by simp[hy'])) hi
theorem Qn{sh:Bool}:∀{ms:List Mz} {vs:List AV} {S:Af} {h:Ah} {K:List AV→List (Nat×Br)→List Nat→List Nat→Af→Ah→Prop},Jr ms=true→Dm sh S h ms vs K→
 ∃as rs,K as [] rs [] S h∧∀S' h' K',HAg (Fn vs) h h'→K' as [] rs [] S' h'→Dm sh S' h' ms vs K'
 |[],[],S,h,K,ha,hk=>⟨[],[],hk,fun _ _ _ _ h=>h⟩
 |[],v::vs,S,h,K,ha,hk=>hk.elim
 |.rd ts::ms,[],S,h,K,ha,hk=>hk.elim
 |.rd ts::ms,v::vs,S,h,K,ha,hk=>by
  obtain⟨as,rs,h1,t1⟩:=Qn (ms:=ms) (vs:=vs) ha hk;refine⟨_,_,h1,fun S' h' K' hag hk'=>?_⟩;show Dm sh S' h' ms vs fun as qs rs ws S'' h''=>K' (Ud sh h'' ts v::as) qs (v.ids++rs) ws S'' h'';refine t1 S' h' _ (hag.mono fun g hg=>by simp[Fn,hg]) ?_;rw[←Vq (n:=fun g=>g∈v.ids) (h:=h) (h2:=h') (fun g hg=>hag g (by simp[Fn,hg])) (fun _ h=>h)];exact hk'
 |.co ts::ms,vs,S,h,K,ha,hk=>by cases ha
 |.mv::ms,vs,S,h,K,ha,hk=>by cases ha
 |.mp::ms,vs,S,h,K,ha,hk=>by cases ha
 |.ma::ms,vs,S,h,K,ha,hk=>by cases ha
theorem W3:∀(a b:List AV) (i:Nat),i∈Fn (a++b)↔i∈Fn a∨i∈Fn b
 |[],b,i=>by simp[Fn]
 |v::a,b,i=>by simp[Fn,W3 a b i,or_assoc]
theorem Ck:∀{cs:List AV} {id:Nat} {K:List AV→Ah→Nat→Prop},B8 id cs K→∃cs' os m,K cs' os m∧(id≤m∧∀g r,A4 os g=some r→id≤g∧g<m)∧∀K',K' cs' os m→B8 id cs K'
 |[],id,K,hk=>⟨_,_,_,hk,⟨Nat.le_refl _,by simp[A4]⟩,fun _ h=>h⟩
 |c::cs,id,K,hk=>by
  by_cases hc:∃s xs,c=.own s xs
  ·obtain⟨s,xs,rfl⟩:=hc
   simp only[B8]at hk⊢;obtain⟨cs',os,m,h1,⟨h2,h3⟩,t1⟩:=Ck hk;refine⟨_,_,_,h1,⟨by omega,fun g r hr=>?_⟩,fun K' h=>t1 (fun cs os n=>K' (.view id [] 0 xs.length::cs) ((id,.own s xs)::os) n) h⟩;rw[Ac]at hr;by_cases e:id=g
   ·omega
   ·rw[if_neg e]at hr;have:=h3 g r hr;omega
  ·have e:∀K,B8 id (c::cs) K=B8 id cs fun cs os n=>K (c::cs) os n:=by
    intro K;cases c<;>first|rfl|exact absurd ⟨_,_,rfl⟩ hc
   rw[e]at hk;obtain⟨cs',os,m,h1,h2,t1⟩:=Ck hk;exact⟨_,_,_,h1,h2,fun K' h=>by rw[e];exact t1 (fun cs os n=>K' (c::cs) os n) h⟩
theorem D4:∀{vs:List AV} {id:Nat} {K:List AV→Ah→Nat→Prop},Bw id vs K→∃cs' os m,K cs' os m∧(id≤m∧∀g r,A4 os g=some r→id≤g∧g<m)∧∀K',K' cs' os m→Bw id vs K'
 |[],id,K,hk=>⟨_,_,_,hk,⟨Nat.le_refl _,by simp[A4]⟩,fun _ h=>h⟩
 |v::vs,id,K,hk=>by
  have app:∀{os os':Ah} {m m':Nat},(id≤m∧∀g r,A4 os g=some r→id≤g∧g<m)→(m≤m'∧∀g r,A4 os' g=some r→m≤g∧g<m')→(id≤m'∧∀g r,A4 (os++os') g=some r→id≤g∧g<m'):=by
   rintro os os' m m' ⟨a1,a2⟩ ⟨b1,b2⟩;refine⟨by omega,fun g r hr=>?_⟩;rw[Be]at hr;cases ho:A4 os g with
   |some r'=>have:=a2 g r' ho;omega
   |none=>rw[ho]at hr;have:=b2 g r hr;omega
  by_cases hc:∃cs,v=.agg cs
  ·obtain⟨cs,rfl⟩:=hc
   simp only[Bw]at hk⊢;obtain⟨cs',os,m,h1,h2,t1⟩:=Ck hk;obtain⟨vs',os',m',h3,h4,t2⟩:=D4 h1;exact⟨_,_,_,h3,app h2 h4,fun K' h=>t1 _ (t2 (fun vs'' os'' n'=>K' (.agg cs'::vs'') (os++os'') n') h)⟩
  ·by_cases ho:∃s xs,v=.own s xs
   ·obtain⟨s,xs,rfl⟩:=ho
    simp only[Bw]at hk⊢;obtain⟨vs',os',m',h3,h4,t2⟩:=D4 hk;refine⟨_,_,_,h3,app (m:=id+1) ⟨by omega,fun g r hr=>?_⟩ h4,fun K' h=>t2 (fun vs'' os'' n'=>K' (.view id [] 0 xs.length::vs'') ([(id,.own s xs)]++os'') n') h⟩;rw[Ac]at hr;by_cases e:id=g
    ·omega
    ·rw[if_neg e]at hr;simp[A4]at hr
   ·have e:∀K,Bw id (v::vs) K=Bw id vs fun vs' os' n'=>K (v::vs') ([]++os') n':=by
     intro K;cases v<;>first|rfl|exact absurd ⟨_,_,rfl⟩ ho|exact absurd ⟨_,rfl⟩ hc
    rw[e]at hk;obtain⟨vs',os',m',h3,h4,t2⟩:=D4 hk;exact⟨_,_,_,h3,h4,fun K' h=>by rw[e];exact t2 (fun vs'' os'' n'=>K' (v::vs'') ([]++os'') n') h⟩
theorem Rz{v:AV}{K:AV→Ah→Prop}(hk:Ib id v K):∃v' os,K v' os∧(∀g r,A4 os g=some r→id≤g∧g<id+16)∧∀K',K' v' os→Ib id v K':=by
 by_cases hc:∃cs,v=.agg cs
 ·obtain⟨cs,rfl⟩:=hc
  have hk':B8 id cs fun cs' os n=>leN n (id+16) (K (.agg cs') os):=hk;obtain⟨cs',os,m,h1,h2,t1⟩:=Ck hk';obtain⟨e,h1⟩:=Bj h1;exact⟨_,_,h1,fun g r hr=>by have:=h2.2 g r hr;omega,fun K' h=>t1 (fun cs' os n=>leN n (id+16) (K' (.agg cs') os)) (F8 e h)⟩
 ·by_cases ht:∃vs,v=.tup vs
  ·obtain⟨vs,rfl⟩:=ht
   have hk':Bw id vs fun vs' os n=>leN n (id+16) (K (.tup vs') os):=hk;obtain⟨cs',os,m,h1,h2,t1⟩:=D4 hk';obtain⟨e,h1⟩:=Bj h1;exact⟨_,_,h1,fun g r hr=>by have:=h2.2 g r hr;omega,fun K' h=>t1 (fun cs' os n=>leN n (id+16) (K' (.tup cs') os)) (F8 e h)⟩
  ·by_cases ho:∃s xs,v=.own s xs
   ·obtain⟨s,xs,rfl⟩:=ho
    refine⟨_,_,hk,fun g r hr=>?_,fun K' h=>h⟩;rw[Ac]at hr;by_cases e:id=g
    ·omega
    ·rw[if_neg e]at hr;simp[A4]at hr
   ·have e:∀K,Ib id v K=K v []:=by
     intro K;cases v<;>first|rfl|exact absurd ⟨_,_,rfl⟩ ho|exact absurd ⟨_,rfl⟩ hc|exact absurd ⟨_,rfl⟩ ht
    rw[e]at hk;exact⟨_,_,hk,by simp[A4],fun K' h=>by rw[e];exact h⟩
theorem Tu{pt:Bool}{v:AV}{K:AV→Ah→Prop}(hk:Mf pt id v K):∃v' os,K v' os∧(∀g r,A4 os g=some r→id≤g∧g<id+16)∧∀K',K' v' os→Mf pt id v K':=by
 cases pt with
 |false=>exact Rz hk
 |true=>
  cases v<;>try exact hk.elim
  refine⟨_,_,hk,fun g r hr=>?_,fun K' h=>h⟩;rw[Ac]at hr;by_cases e:id=g
  ·omega
  ·rw[if_neg e]at hr;simp[A4]at hr
theorem C09{g:Option Bool}{x:Bool}{v:AV}{K:Bool→Prop}(h:B9b g x v K):∃r,K r∧∀K',K' r→B9b g x v K':=by
 cases v<;>try exact h.elim
 ·exact⟨_,h,fun _ h=>h⟩
 ·exact⟨_,h.2,fun _ h'=>⟨h.1,h'⟩⟩
theorem C12{g:Option Bool}{x:Bool}{v:AV}{K:Bool→Prop}(h:B7u g x v K):∃r,K r∧∀K',K' r→B7u g x v K':=by
 cases v<;>try exact h.elim
 ·exact⟨_,h,fun _ h=>h⟩
 ·exact⟨_,h.2,fun _ h'=>⟨h.1,h'⟩⟩
theorem B2g{l:List Operand}{S S':Af}(h:OAg l S S'):∀y,y∈l→A6z S' y=A6z S y:=by
 intro y hy;cases y with
 |tmp d=>simp only[A6z];rw[h d hy]
 |_=>rfl
theorem A4v{S S':Af}:∀{l:List Operand},OAg l S S'→A00 S' l=A00 S l
 |[],_=>rfl
 |y::r,h=>by
  simp only[A00];rw[B2g h y (by simp),A4v (l:=r) (h.mono (by simp;exact fun a ha=>.inr ha))]
theorem A5o{o:Oper}{S S':Af}(h:OAg o.op.operands.toList S S'):Oq S' o=Oq S o:=by
 unfold Oq;cases ho:o.op<;>simp only<;>rw[ho]at h<;>first|exact A4v h|exact B2g h _ (by simp[Op.operands])
theorem Tq{o:Oper}(hv:Cd E o=true){K:Af→Ah→Prop}(hk:B0 E id o g S h K):
 ∃v,K (Bc S o.dst g v) h∧∀S' h' K',OAg o.op.operands.toList S S'→HAg (readIds S o) h h'→K' (Bc S' o.dst g v) h'→B0 E id o g S' h' K':=by
 obtain⟨dst,op,type,pos,after,guard⟩:=o;cases op<;>simp only[Cd]at hv<;>(try(cases hv;done))<;>simp only[B0]at hk;case move y=>
  obtain⟨v,hk,_,t1⟩:=C9 hk;exact⟨v,hk,fun S' h' K' oa ha hk'=>by simp only[B0];exact t1 S' (fun v=>K' (Bc S' dst g v) h') (oa.one (by simp[Op.operands])) hk'⟩
 case assign y=>
  obtain⟨v,hk,_,t1⟩:=C9 hk;exact⟨v,hk,fun S' h' K' oa ha hk'=>by simp only[B0];exact t1 S' (fun v=>K' (Bc S' dst g v) h') (oa.one (by simp[Op.operands])) hk'⟩
 case pick c y z=>
  obtain⟨cv,h1,_,t1⟩:=C9 hk;clear hk;cases cv with
  |bool xb=>
   simp only at h1;split at h1
   ·obtain⟨v,h2,_,t2⟩:=C9 h1
    obtain⟨r,h2,t3⟩:=C09 h2;refine⟨_,h2,fun S' h' K' oa ha hk'=>?_⟩;simp only[B0];exact t1 S' _ (oa.one (by simp[Op.operands])) (t2 S' (fun bv=>B9b g xb bv fun y=>K' (Bc S' dst g (.bool y)) h') (oa.one (by simp[Op.operands])) (t3 (fun y=>K' (Bc S' dst g (.bool y)) h') hk'))
   ·rename_i hne
    obtain⟨v,h2,_,t2⟩:=C9 h1;obtain⟨r,h2,t3⟩:=C12 h2;refine⟨_,h2,fun S' h' K' oa ha hk'=>?_⟩;simp only[B0];refine t1 S' _ (oa.one (by simp[Op.operands])) ?_;exact t2 S' (fun bv=>B7u g xb bv fun y=>K' (Bc S' dst g (.bool y)) h') (oa.one (by simp[Op.operands])) (t3 (fun y=>K' (Bc S' dst g (.bool y)) h') hk')
   ·exact h1.elim
  |_=>exact h1.elim
 case build t parts=>
  obtain⟨ty,ht,hk⟩:=B9 hk;obtain⟨vs,hk,_,t1⟩:=Hs hk;cases hq:ty.k<;>rw[hq]at hk<;>simp only at hk;obtain⟨cs,hk,t2⟩:=Zo hk;refine⟨_,hk,fun S' h' K' oa ha hk'=>?_⟩;simp only[B0];refine Cr ht (t1 S' _ (oa.mono (by simp[Op.operands])) ?_);rw[hq];exact t2 (fun cs=>K' (Bc S' dst g (.agg cs)) h') hk'
 case load t y=>
  obtain⟨ty,ht,hk⟩:=B9 hk;obtain⟨v,hk,i1,t1⟩:=C9 hk;obtain⟨u,hk,t2⟩:=B7e (K:=fun v=>K (Bc S dst g v) h) hk;exact⟨u,hk,fun S' h' K' oa ha hk'=>by
   simp only[B0];exact Cr ht (t1 S' _ (oa.one (by simp[Op.operands])) (t2 h' (fun v=>K' (Bc S' dst g v) h') (ha.mono fun i hi=>Da (by simp[Op.operands]) (i1 i hi)) hk'))⟩
 case nilCheck y=>
  obtain⟨v,hk,i1,t1⟩:=C9 hk;cases v<;>simp only at hk
  ·obtain⟨_,_,e,hk⟩:=Kt hk
   exact⟨_,hk,fun S' h' K' oa ha hk'=>by
    simp only[B0];exact t1 S' _ (oa.one (by simp[Op.operands])) (Zi ((ha.hget (Da (y:=y) (by simp[Op.operands]) (i1 _ (by simp[AV.ids,AV.ids1]))) _).trans e) hk')⟩
  ·obtain⟨_,_,e,hk⟩:=Kt hk
   exact⟨_,hk,fun S' h' K' oa ha hk'=>by
    simp only[B0];exact t1 S' _ (oa.one (by simp[Op.operands])) (Zi ((ha.hget (Da (y:=y) (by simp[Op.operands]) (i1 _ (by simp[AV.ids,AV.ids1]))) _).trans e) hk')⟩
  ·exact⟨_,hk,fun S' h' K' oa ha hk'=>by
    simp only[B0];exact t1 S' _ (oa.one (by simp[Op.operands])) hk'⟩
 case binOp op t y z cmp=>
  obtain⟨v1,hk,i1,t1⟩:=C9 hk;obtain⟨v2,hk,i2,t2⟩:=C9 hk;obtain⟨u,hk,t3⟩:=C07 hk;exact⟨u,hk,fun S' h' K' oa ha hk'=>by
   simp only[B0];exact t1 S' _ (oa.one (by simp[Op.operands])) (t2 S' _ (oa.one (by simp[Op.operands])) (t3 h' (fun v=>K' (Bc S' dst g v) h') (ha.mono fun i hi=>Da (y:=y) (by simp[Op.operands]) (i1 i hi)) hk'))⟩
 case unOp op t y=>
  obtain⟨v1,hk,i1,t1⟩:=C9 hk;obtain⟨u,hk,t3⟩:=C3q hk;exact⟨u,hk,fun S' h' K' oa ha hk'=>by
   simp only[B0];exact t1 S' _ (oa.one (by simp[Op.operands])) (t3 (fun v=>K' (Bc S' dst g v) h') hk')⟩
 case convert s t y=>
  obtain⟨ts,hts,hk⟩:=B9 hk;obtain⟨ty,htt,hk⟩:=B9 hk;obtain⟨v1,hk,i1,t1⟩:=C9 hk;rw[htt]at hv;simp only at hv;cases hq:ty.k<;>rw[hq]at hv hk<;>simp only at hv hk<;>try(cases hv;done)
  obtain⟨u,hk,t2⟩:=Tm hk;refine⟨u,hk,fun S' h' K' oa ha hk'=>?_⟩;simp only[B0];refine Cr hts (Cr htt (t1 S' _ (oa.one (by simp[Op.operands])) ?_));rw[hq];exact t2 (fun u=>K' (Bc S' dst g u) h') hk'
 case fieldAddr t y f=>
  obtain⟨v1,hk,i1,t1⟩:=C9 hk;obtain⟨o,u,hk,t2⟩:=Ve hk;obtain⟨r,hk,t3⟩:=B54 hk;exact⟨r,hk,fun S' h' K' oa ha hk'=>by
   simp only[B0];exact t1 S' _ (oa.one (by simp[Op.operands])) (t2 _ (t3 h' (fun v=>K' (Bc S' dst g v) h') (ha.mono fun i hi=>Da (y:=y) (by simp[Op.operands]) (i1 i hi)) hk'))⟩
 case field t y f=>
  obtain⟨v1,hk,i1,t1⟩:=C9 hk;obtain⟨o,u,hk,t2⟩:=Ve hk;obtain⟨ty,ht,hk⟩:=B9 hk;obtain⟨r,hk,t3⟩:=B5d hk;exact⟨r,hk,fun S' h' K' oa ha hk'=>by
   simp only[B0];exact t1 S' _ (oa.one (by simp[Op.operands])) (t2 _ (Cr ht (t3 (fun v=>K' (Bc S' dst g v) h') hk')))⟩
 case indexAddr t y i=>
  obtain⟨v1,hk,i1,t1⟩:=C9 hk;obtain⟨v2,hk,i2,t2⟩:=C9 hk;obtain⟨ty,hk,t3⟩:=G6 hk;obtain⟨r,hk,t4⟩:=B4i hk;exact⟨r,hk,fun S' h' K' oa ha hk'=>by
   simp only[B0];exact t1 S' _ (oa.one (by simp[Op.operands])) (t2 S' _ (oa.one (by simp[Op.operands])) (t3 _ (t4 h' (fun v=>K' (Bc S' dst g v) h') (ha.mono fun j hi=>Da (y:=y) (by simp[Op.operands]) (i1 j hi)) hk')))⟩
 case index t y i=>
  obtain⟨ty,ht,hk⟩:=B9 hk;obtain⟨v1,hk,i1,t1⟩:=C9 hk;obtain⟨v2,hk,i2,t2⟩:=C9 hk;cases hq:ty.k<;>rw[hq]at hk<;>simp only at hk;cases v1<;>try exact hk.elim
  cases v2<;>try exact hk.elim
  obtain⟨b,hb,hk⟩:=hk;refine⟨_,hk,fun S' h' K' oa ha hk'=>?_⟩;simp only[B0];refine Cr ht (t1 S' _ (oa.one (by simp[Op.operands])) (t2 S' _ (oa.one (by simp[Op.operands])) ?_));rw[hq];exact⟨b,hb,hk'⟩
 case slice t y lo hi mx=>
  obtain⟨v1,hk,i1,t1⟩:=C9 hk;obtain⟨v2,hk,t2⟩:=A1v hk;obtain⟨v3,hk,t3⟩:=A1v hk;obtain⟨v4,hk,t4⟩:=A1v hk;obtain⟨m,hk,t5⟩:=A56 hk;obtain⟨l,hk,t6⟩:=A8o hk;obtain⟨u,hk,t7⟩:=A8o hk;obtain⟨r,hk,t8⟩:=B4j hk;refine⟨r,hk,fun S' h' K' oa ha hk'=>?_⟩;simp only[B0];have hy:HAg v1.ids h h':=ha.mono fun j hi=>Da (y:=y) (by simp[Op.operands]) (i1 j hi);exact t1 S' _ (oa.one (by simp[Op.operands])) (t2 S' _ (oa.mono (by intro z hz;simp[Op.operands];simp at hz;simp[hz])) (t3 S' _ (oa.mono (by intro z hz;simp[Op.operands];simp at hz;simp[hz])) (t4 S' _ (oa.mono (by intro z hz;simp[Op.operands];simp at hz;simp[hz]))
   (t5 h' _ hy (t6 _ (t7 _ (t8 h' (fun v=>K' (Bc S' dst g v) h') hy hk')))))))
 case extract y i=>
  obtain⟨v1,hk,i1,t1⟩:=C9 hk;cases v1<;>simp only at hk;rename_i vs;cases hi:vs[i]? with
  |none=>rw[hi]at hk;exact hk.elim
  |some v=>
   rw[hi]at hk;refine⟨_,hk,fun S' h' K' oa ha hk'=>?_⟩;simp only[B0];refine t1 S' _ (oa.one (by simp[Op.operands])) ?_;simp only;rw[hi];exact hk'
 case makeFunc f first caps=>
  cases f<;>try exact hk.elim
  obtain⟨e,hk⟩:=C8 hk;obtain⟨vs,hk,_,t1⟩:=Hs hk;refine⟨_,hk,fun S' h' K' oa ha hk'=>?_⟩;simp only[B0];exact K3 e (t1 S' (fun cs=>K' (Bc S' dst g (.fn _ cs)) h') (oa.mono (by intro z hz;simp[Op.operands];simp at hz;simp[hz])) hk')
 case call c=>
  cases hc:c.callee<;>simp only[hc]at hv hk<;>try(cases hv;done)
  ·rename_i y
   cases y<;>simp only at hv<;>try(cases hv;done)
   rename_i f;obtain⟨fv,h1⟩:∃fv,fv=AV.fn f []∧A16 S g c.args.toList fun vs=>match fv with
    |.fn f caps=>Qm E S h id dst g f (vs++caps) K
    |_=>False:=⟨_,rfl,hk⟩
   obtain⟨rfl,h1⟩:=h1;obtain⟨vs,h1,i1,t1⟩:=Hs h1;simp only[List.append_nil]at h1;unfold Qm at h1;cases hE:E.F f with
   |none=>rw[hE]at h1;exact h1.elim
   |some cc=>
    rw[hE]at h1 hv;simp only at h1 hv;have hrd:Jr cc.ms=true:=by
     cases ha:Jr cc.ms with
     |true=>rfl
     |false=>
      exfalso;obtain⟨as,qs,rs,ws,S1,h1',hb⟩:∃as qs rs ws S1 h1',leN (J3 as) id (match Rr rs ws with
       |true=>False
       |false=>∃x:cc.α,as=cc.enc x∧(Cy g→cc.pre x)∧Mf cc.ptr id (cc.res x) fun v os=>match cc.sc with
        |true=>match Jr cc.ms with
         |true=>match os with
          |[]=>K (Bc S1 dst g v) h1'
          |_=>False
         |false=>False
        |false=>Vs S1 h1' qs (cc.out x) fun S' h'=>K (Bc S' dst g v) (os++h')):=Py h1
      obtain⟨_,hb⟩:=Bj hb;cases hm:Rr rs ws with
      |true=>rw[hm]at hb;exact hb.elim
      |false=>
       rw[hm]at hb;obtain⟨xx,_,_,hb⟩:=hb;obtain⟨v,os,hb⟩:=A6j hb;rw[hv,ha]at hb;exact hb
    obtain⟨as,rs,hb,t2⟩:=Qn hrd h1;obtain⟨e1,hb⟩:=Bj hb;cases hm:Rr rs []with
    |true=>rw[hm]at hb;exact hb.elim
    |false=>
     rw[hm]at hb;obtain⟨xx,e2,e3,hb⟩:=hb;obtain⟨v,os,hb,_,t3⟩:=Tu hb;rw[hv,hrd]at hb;simp only at hb;match os,hb,t3 with
     |_::_,hb,_=>exact hb.elim
     |[],hb,t3=>
      refine⟨v,hb,fun S' h' K' oa ha hk'=>?_⟩;simp only[B0,hc];show A16 S' g c.args.toList fun vs=>Qm E S' h' id dst g f (vs++[]) K';refine t1 S' _ (oa.mono (by intro z hz;simp[Op.operands,Call.operands];simp at hz;simp[hz])) ?_;simp only[List.append_nil];unfold Qm;rw[hE];refine t2 S' h' _ (ha.mono fun i hi=>K7 (ys:=c.args.toList) (by intro z hz;simp[Op.operands,Call.operands];simp at hz;simp[hz]) (i1 i hi)) (F8 e1 ?_);rw[hm];refine⟨xx,e2,e3,t3 _ ?_⟩;rw[hv,hrd];exact hk'
  ·rename_i b
   obtain⟨vs,hk,i1,t1⟩:=Hs hk;have oa1:∀{S'},OAg (Op.call c).operands.toList S S'→OAg c.args.toList S S':=fun oa=>oa.mono (by intro z hz;simp[Op.operands,Call.operands];simp at hz;simp[hz]);cases b<;>simp only at hv<;>try(cases hv;done)
   ·rcases vs with _|⟨y,_|⟨z,_|⟨q,r⟩⟩⟩<;>try exact hk.elim
    ·obtain⟨e1,hk⟩:=Bj hk
     obtain⟨m,hk,t2⟩:=C0k hk;refine⟨_,hk,fun S' h' K' oa ha hk'=>?_⟩;simp only[B0,hc];refine t1 S' _ (oa1 oa) (F8 e1 (t2 h' (fun n=>K' (Bc S' dst g (.int .i64 n)) h') (ha.mono fun i hi=>K7 (ys:=c.args.toList) (by intro z hz;simp[Op.operands,Call.operands];simp at hz;simp[hz]) (i1 i (by simp[Fn,hi]))) hk'))
    ·obtain⟨v,hk,t2⟩:=Vr (b:=.len) hk
     exact⟨v,hk,fun S' h' K' oa ha hk'=>by
      simp only[B0,hc];exact t1 S' _ (oa1 oa) (t2 (fun v=>K' (Bc S' dst g v) h') hk')⟩
   ·rcases vs with _|⟨y,_|⟨z,_|⟨q,r⟩⟩⟩<;>try exact hk.elim
    obtain⟨v,hk,t2⟩:=Vr (b:=.max) hk;exact⟨v,hk,fun S' h' K' oa ha hk'=>by
     simp only[B0,hc];exact t1 S' _ (oa1 oa) (t2 (fun v=>K' (Bc S' dst g v) h') hk')⟩
   ·rcases vs with _|⟨y,_|⟨z,_|⟨q,r⟩⟩⟩<;>try exact hk.elim
    obtain⟨v,hk,t2⟩:=Vr (b:=.min) hk;exact⟨v,hk,fun S' h' K' oa ha hk'=>by
     simp only[B0,hc];exact t1 S' _ (oa1 oa) (t2 (fun v=>K' (Bc S' dst g v) h') hk')⟩
end
def C4:List Nat→Af→Af
 |[],S=>S
 |g::gs,S=>C4 gs (voids g S)
theorem De:∀(a b:List Nat) (S:Af),C4 (a++b) S=C4 b (C4 a S)
 |[],b,S=>rfl
 |g::a,b,S=>De a b (voids g S)
def Frm(ids gs:List Nat)(h h':Ah):Prop:=(∀g,g∈gs→g∈ids)∧∀g,g∉ids→A4 h' g=A4 h g
theorem Frm.rfl{ids:List Nat}{h:Ah}:Frm ids [] h h:=⟨by simp,fun _ _=>.refl _⟩
theorem Frm.comp{a b gs gs':List Nat}{h ha hb:Ah}(h1:Frm a gs h ha)(h2:Frm b gs' ha hb):Frm (a++b) (gs++gs') h hb:=
 ⟨fun g hg=>by
   rcases List.mem_append.1 hg with hg|hg
   ·exact List.mem_append.2 (.inl (h1.1 g hg))
   ·exact List.mem_append.2 (.inr (h2.1 g hg)),fun g hg=>by
   rw[h2.2 g fun h=>hg (List.mem_append.2 (.inr h)),h1.2 g fun h=>hg (List.mem_append.2 (.inl h))]⟩
theorem Frm.mono{a b gs:List Nat}{h ha:Ah}(h1:Frm a gs h ha)(hs:∀g,g∈a→g∈b):Frm b gs h ha:=
 ⟨fun g hg=>hs g (h1.1 g hg),fun g hg=>h1.2 g fun h=>hg (hs g h)⟩
section
variable{P:Program}{E:Env}{x:Ctx}{w w':World}{h:Ah}{n n':Nat→Prop}{ρ:Option Nat→Am}{id:Nat}{S:Af}{g:Option Bool}
theorem Ns{g e:Nat}{p:Br}{y:AV}(he:e≠g):A4 (hput h g p y) e=A4 h e:=by
 cases hl:A4 h g with
 |none=>unfold hput;rw[hl]
 |some r=>rw[F3 hl,if_neg (Ne.symm he)]
theorem B2o{g:Nat}{p:Br}{s:Nat}{xs:List (List AV)}(hg:hget h g p=some (.own s xs)){K:Af→Ah→Prop}(hk:W8 S h g p K):
 ∃gs h',K (C4 gs S) h'∧Frm [g] gs h h'∧∀S' K',K' (C4 gs S') h'→W8 S' h g p K':=by
 rw[Ir]at hk;obtain⟨r,hl,_⟩:=C6 hg;have hfr:∀e,e∉[g]→A4 (I2 h g p) e=A4 h e:=fun e he=>Kr hl p (by simpa using he);cases p with
 |nil=>exact⟨[],_,hk,⟨by simp,hfr⟩,fun S' K' h=>by rw[Ir];exact h⟩
 |cons a p=>exact⟨[g],_,hk,⟨by simp,hfr⟩,fun S' K' h=>by rw[Ir];exact h⟩
theorem B21{t:Option Nat}{v:AV}{K:AV→Af→Ah→Prop}(hk:Em S h t v K):
 ∃c gs h',K c (C4 gs S) h'∧Frm v.ids1 gs h h'∧∀S' K',K' c (C4 gs S') h'→Em S' h t v K':=by
 cases v<;>simp only[Em]at hk;case view g p o l=>
  obtain⟨s,xs,hg,hk⟩:=Bv hk;obtain⟨gs,h',h1,f1,t1⟩:=B2o hg hk;exact⟨_,gs,h',h1,f1,fun S' K' h=>by simp only[Em];exact J0 hg (t1 S' (fun S'' h''=>K' (.own s ((xs.drop o).take l)) S'' h'') h)⟩
 case nils=>
  cases t<;>first
   |exact hk.elim
   |exact⟨_,[],_,hk,.rfl,fun S' K' h=>h⟩
 case emp=>
  cases t<;>first
   |exact hk.elim
   |exact⟨_,[],_,hk,.rfl,fun S' K' h=>h⟩
 all_goals exact⟨_,[],_,hk,.rfl,fun S' K' h=>h⟩
theorem K4:∀{ts:List (Option Nat)} {vs:List AV} {S:Af} {h:Ah} {K:List AV→Af→Ah→Prop},C1 S h ts vs K→
 ∃cs gs h',K cs (C4 gs S) h'∧Frm (G9 vs) gs h h'∧∀S' K',K' cs (C4 gs S') h'→C1 S' h ts vs K'
 |[],[],S,h,K,hk=>⟨_,[],_,hk,.rfl,fun S' K' h=>h⟩
 |[],_::_,S,h,K,hk=>by simp[C1]at hk
 |_::_,[],S,h,K,hk=>by simp[C1]at hk
 |t::ts,v::vs,S,h,K,hk=>by
  simp only[C1]at hk;obtain⟨c,gs,h1,hk,f1,t1⟩:=B21 hk;obtain⟨cs,gs2,h2,hk,f2,t2⟩:=K4 hk;rw[←De]at hk;refine⟨_,_,_,hk,f1.comp f2,fun S' K' h=>?_⟩;rw[De]at h;simp only[C1];exact t1 S' _ (t2 _ (fun cs S'' h''=>K' (c::cs) S'' h'') h)
theorem Jx{v:AV}:∀g,g∈G9 v.cells→g∈v.ids:=by
 intro g hg;cases v<;>simp only[AV.cells,G9,AV.ids1,List.append_nil]at hg<;>first|exact hg|cases hg
theorem Xo{ts:List (Option Nat)}:∀{vs:List AV} {S:Af} {h:Ah} {K:List (List AV)→Af→Ah→Prop},Jy S h ts vs K→
 ∃cs gs h',K cs (C4 gs S) h'∧Frm (Fn vs) gs h h'∧∀S' K',K' cs (C4 gs S') h'→Jy S' h ts vs K'
 |[],S,h,K,hk=>⟨_,[],_,hk,.rfl,fun S' K' h=>h⟩
 |v::vs,S,h,K,hk=>by
  simp only[Jy]at hk;obtain⟨c,gs,h1,hk,f1,t1⟩:=K4 hk;obtain⟨cs,gs2,h2,hk,f2,t2⟩:=Xo hk;rw[←De]at hk;refine⟨_,_,_,hk,(f1.mono Jx).comp f2,fun S' K' h=>?_⟩;rw[De]at h;simp only[Jy];exact t1 S' _ (t2 _ (fun cs S'' h''=>K' (c::cs) S'' h'') h)
theorem Of{g e:Nat}{y:AV}(he:e≠g):A4 (update h g y) e=A4 h e:=by
 rw[Lx,if_neg (Ne.symm he)]
theorem Frm.one{ids gs:List Nat}{h h1 h2:Ah}{g:Nat}(f:Frm ids gs h h1)(hg:g∈ids)(h2e:∀e,e≠g→A4 h2 e=A4 h1 e){gs':List Nat}(hgs:∀e,e∈gs'→e=g):Frm ids (gs++gs') h h2:=
 ⟨fun e he=>by
   rcases List.mem_append.1 he with he|he
   ·exact f.1 e he
   ·exact hgs e he▸hg,fun e he=>by
   rw[h2e e fun h=>he (h▸hg),f.2 e he]⟩
theorem B69{ty:Ty}{a y:AV}{K:Af→Ah→Prop}(hk:storeAt ty S h a y K):
 ∃gs h',K (C4 gs S) h'∧Frm (a.ids++y.ids) gs h h'∧∀S' K',K' (C4 gs S') h'→storeAt ty S' h a y K':=by
 cases a<;>simp only[storeAt]at hk;case bx g f=>
  have hgi:g∈(AV.bx g f).ids++y.ids:=by simp[AV.ids,AV.ids1]
  cases hsc:ty.k.scalar with
  |true=>
   rw[hsc]at hk;simp only at hk;cases hy:y.scalar<;>rw[hy]at hk<;>simp only at hk;obtain⟨s,xs,hg,hk⟩:=Bv hk;match xs,hg,hk with
   |[],_,hk=>exact hk.elim
   |_::_::_,_,hk=>exact hk.elim
   |[r],hg,hk=>
    obtain⟨e,hk⟩:=Bj hk;cases hc:(cell r f).scalar<;>rw[hc]at hk<;>simp only at hk;refine⟨[],_,hk,Frm.rfl.one hgi (fun e he=>Of he) (gs':=[]) (by simp),fun S' K' h=>?_⟩;simp only[storeAt,hsc,hy];exact J0 hg (F8 e (by rw[hc];exact h))
  |false=>
   rw[hsc]at hk;simp only at hk;obtain⟨cs,gs,h1,hk,f1,t1⟩:=K4 hk;obtain⟨s,xs,hg,hk⟩:=Bv hk;match xs,hg,hk with
   |[],_,hk=>exact hk.elim
   |_::_::_,_,hk=>exact hk.elim
   |[r],hg,hk=>
    obtain⟨e,hk⟩:=Bj hk;refine⟨gs++[g],_,by rw[De];exact hk,(f1.mono fun g hg=>by simp[Jx g hg]).one hgi (fun e he=>Of he) (by simp),fun S' K' h=>?_⟩;simp only[storeAt,hsc];rw[De]at h;exact t1 S' _ (J0 hg (F8 e h))
 case ptr g p i f=>
  have hgi:g∈(AV.ptr g p i f).ids++y.ids:=by simp[AV.ids,AV.ids1]
  cases hsc:ty.k.scalar with
  |true=>
   rw[hsc]at hk;simp only at hk;cases hy:y.scalar<;>rw[hy]at hk<;>simp only at hk;obtain⟨s,xs,hg,hk⟩:=Bv hk;obtain⟨e,r,hr,hk⟩:=Bj hk;cases hc:(cell r f).scalar<;>rw[hc]at hk<;>simp only at hk;refine⟨[],_,hk,Frm.rfl.one hgi (fun e he=>Ns he) (gs':=[]) (by simp),fun S' K' h=>?_⟩;simp only[storeAt,hsc,hy];exact J0 hg (F8 e ⟨r,hr,by rw[hc];exact h⟩)
  |false=>
   rw[hsc]at hk;simp only at hk;obtain⟨cs,gs,h1,hk,f1,t1⟩:=K4 hk;obtain⟨s,xs,hg,hk⟩:=Bv hk;obtain⟨e,r,hr,hk⟩:=Bj hk;refine⟨gs++[g],_,by rw[De];exact hk,(f1.mono fun g hg=>by simp[Jx g hg]).one hgi (fun e he=>Ns he) (by simp),fun S' K' h=>?_⟩;simp only[storeAt,hsc];rw[De]at h;exact t1 S' _ (J0 hg (F8 e ⟨r,hr,h⟩))
theorem Y1{keep:Bool}{sz:Nat}{y:AV}{K:List (List AV)→Af→Ah→Prop}(hk:Kg S h keep sz y K):
 ∃r gs h',K r (C4 gs S) h'∧Frm y.ids gs h h'∧∀S' K',K' r (C4 gs S') h'→Kg S' h keep sz y K':=by
 cases y<;>simp only[Kg]at hk;case view g p o l=>
  obtain⟨s,xs,hg,hk⟩:=Bv hk;obtain⟨e,hk⟩:=C8 hk;cases keep<;>simp only at hk
  ·obtain⟨gs,h',h1,f1,t1⟩:=B2o hg hk
   exact⟨_,gs,h',h1,f1.mono (b:=(AV.view g p o l).ids) (by simp[AV.ids,AV.ids1]),fun S' K' h=>by simp only[Kg];exact J0 hg (K3 e (t1 S' (fun S'' h''=>K' ((xs.drop o).take l) S'' h'') h))⟩
  ·exact⟨_,[],_,hk.2,.rfl,fun S' K' h=>by simp only[Kg];exact J0 hg (K3 e ⟨hk.1,h⟩)⟩
 case rd s xs=>
  obtain⟨e,hk⟩:=C8 hk;exact⟨_,[],_,hk,.rfl,fun S' K' h=>K3 e h⟩
 case str s=>
  obtain⟨e,hk⟩:=C8 hk;exact⟨_,[],_,hk,.rfl,fun S' K' h=>K3 e h⟩
 all_goals exact⟨_,[],_,hk,.rfl,fun S' K' h=>h⟩
theorem B2b{g e:Nat}{y:AV}(he:e≠g):A4 ((g,y)::h) e=A4 h e:=by
 rw[Ac,if_neg (Ne.symm he)]
theorem C4c{id:Nat}:id∈List.range' id 16:=by simp[List.mem_range']
theorem Frm.new{ids gs:List Nat}{h h1:Ah}{y:AV}(f:Frm ids gs h h1):Frm (List.range' id 16++ids) gs h ((id,y)::h1):=
 ⟨fun g hg=>by simp[f.1 g hg],fun g hg=>by
   rw[B2b (fun e=>hg (by subst e;exact List.mem_append.2 (.inl C4c))),f.2 g fun h=>hg (by simp[h])]⟩
theorem B26{ty:Ty}{d:Option Nat}{y z:AV}{K:Af→Ah→Prop}(hk:Km ty S h id d y z K):
 ∃gs v h',K (Bc (C4 gs S) d none v) h'∧Frm (List.range' id 16++(y.ids++z.ids)) gs h h'∧∀S' K',K' (Bc (C4 gs S') d none v) h'→Km ty S' h id d y z K':=by
 unfold Km at hk;cases hr:T2 y<;>rw[hr]at hk<;>simp only at hk;obtain⟨ys,gs,h1,hk,f1,t1⟩:=Y1 hk;obtain⟨xs,gs2,h2,hk,f2,t2⟩:=Y1 hk;rw[←De]at hk;refine⟨_,_,_,hk.2,((f1.comp f2).mono (by simp;intro g hg;exact hg.symm)).new,fun S' K' h=>?_⟩;unfold Km;rw[hr];rw[De]at h;exact t1 S' _ (t2 _ _ ⟨hk.1,h⟩)
theorem B6k{v:AV}{K:List UInt8→Prop}(hk:N3 h v K):∃s,K s∧∀K':List UInt8→Prop,K' s→N3 h v K':=by
 cases v<;>simp only[N3]at hk;case view g p o l=>
  obtain⟨s,xs,hg,hk⟩:=Bv hk;obtain⟨e,bs,hb,hk⟩:=C8 hk;exact⟨_,hk,fun K' h=>J0 hg (K3 e ⟨bs,hb,h⟩)⟩
 case rd s xs=>
  obtain⟨e,bs,hb,hk⟩:=C8 hk;exact⟨_,hk,fun K' h=>K3 e ⟨bs,hb,h⟩⟩
 all_goals exact⟨_,hk,fun K' h=>h⟩
theorem Wz{e:Nat}{K:Prop}(hk:B0q E e K):K∧∀K':Prop,K'→B0q E e K':=by
 obtain⟨te,ht,hk⟩:=B9 hk;cases hq:te.k<;>rw[hq]at hk<;>simp only at hk;rename_i k;cases k<;>simp only at hk;exact⟨hk,fun K' h=>Cr ht (by rw[hq];exact h)⟩
theorem K6{sh:Bool}:∀{ms:List Mz} {vs:List AV} {S:Af} {h:Ah} {K:List AV→List (Nat×Br)→List Nat→List Nat→Af→Ah→Prop},Dm sh S h ms vs K→
 ∃as qs rs ws gs h',K as qs rs ws (C4 gs S) h'∧Frm (Fn vs) gs h h'∧(∀q,q∈qs→q.1∈Fn vs)∧∀S' K',K' as qs rs ws (C4 gs S') h'→Dm sh S' h ms vs K'
 |[],[],S,h,K,hk=>⟨[],[],[],[],[],h,hk,.rfl,by simp,fun _ _ h=>h⟩
 |[],v::vs,S,h,K,hk=>hk.elim
 |m::ms,[],S,h,K,hk=>by cases m<;>exact hk.elim
 |.rd ts::ms,v::vs,S,h,K,hk=>by
  simp only[Dm]at hk;obtain⟨as,qs,rs,ws,gs,h',hk,f1,q1,t1⟩:=K6 hk;exact⟨_,qs,_,_,gs,h',hk,f1.mono (by simp[Fn];intro g hg;exact .inr hg),fun q hq=>by simp[Fn,q1 q hq],fun S' K' h=>by
   simp only[Dm];exact t1 S' (fun as qs rs ws S' h'=>K' (Ud sh h' ts v::as) qs (v.ids++rs) ws S' h') h⟩
 |.co ts::ms,v::vs,S,h,K,hk=>by
  simp only[Dm]at hk;obtain⟨cs,gs,h1,hk,f1,t1⟩:=K4 hk;obtain⟨as,qs,rs,ws,gs2,h',hk,f2,q1,t2⟩:=K6 hk;rw[←De]at hk;refine⟨_,qs,_,_,_,h',hk,(f1.mono Jx).comp f2,fun q hq=>by simp[Fn,q1 q hq],fun S' K' h=>?_⟩;rw[De]at h;simp only[Dm];exact t1 S' _ (t2 _ (fun as qs rs ws S' h'=>K' (wrap v cs::as) qs rs (v.ids++ws) S' h') h)
 |.mv::ms,v::vs,S,h,K,hk=>by
  cases v<;>simp only[Dm]at hk;case arg s0 g n0=>
   obtain⟨as,qs,rs,ws,gs,h',hk,f1,q1,t1⟩:=K6 hk;obtain⟨s,xs,hg,e1,e2,hk⟩:=Bv hk;refine⟨_,_,_,_,gs,h',hk,f1.mono (by simp[Fn];intro g hg;exact .inr hg),fun q hq=>?_,fun S' K' h=>by
    simp only[Dm];exact t1 S' (fun as qs rs ws S' h'=>arr h' g [] fun s xs=>s0=s∧n0=xs.length∧K' (.own s xs::as) ((g,[])::qs) rs (g::ws) S' h') (J0 hg ⟨e1,e2,h⟩)⟩
   rcases List.mem_cons.1 hq with rfl|hq
   ·simp[Fn,AV.ids,AV.ids1]
   ·simp[Fn,q1 q hq]
  rename_i g p off len;obtain⟨as,qs,rs,ws,gs,h',hk,f1,q1,t1⟩:=K6 hk;obtain⟨s,xs,hg,e1,e2,hk⟩:=Bv hk;refine⟨_,_,_,_,gs,h',hk,f1.mono (by simp[Fn];intro g hg;exact .inr hg),fun q hq=>?_,fun S' K' h=>by
   simp only[Dm];exact t1 S' (fun as qs rs ws S' h'=>arr h' g p fun s xs=>off=0∧len=xs.length∧K' (.own s xs::as) ((g,p)::qs) rs (g::ws) S' h') (J0 hg ⟨e1,e2,h⟩)⟩
  rcases List.mem_cons.1 hq with rfl|hq
  ·simp[Fn,AV.ids,AV.ids1]
  ·simp[Fn,q1 q hq]
 |.ma::ms,v::vs,S,h,K,hk=>by
  rcases A4l hk with⟨g,p,off,len,rfl,hk2⟩|⟨s0,g,n0,rfl,hk2⟩
  ·clear hk
   obtain⟨as,qs,rs,ws,gs,h',hk,f1,q1,t1⟩:=K6 hk2;obtain⟨s,xs,hg,e1,e2,hk⟩:=Bv hk;refine⟨_,_,_,_,gs,h',hk,f1.mono (by simp[Fn];intro g hg;exact .inr hg),fun q hq=>?_,fun S' K' h=>by
    simp only[Dm];exact t1 S' (fun as qs rs ws S' h'=>arr h' g p fun s xs=>off=0∧len=xs.length∧K' (.agg [.own s xs]::as) ((g,p)::qs) rs (g::ws) S' h') (J0 hg ⟨e1,e2,h⟩)⟩
   rcases List.mem_cons.1 hq with rfl|hq
   ·simp[Fn,AV.ids,G9,AV.ids1]
   ·simp[Fn,q1 q hq]
  ·clear hk
   obtain⟨as,qs,rs,ws,gs,h',hk,f1,q1,t1⟩:=K6 hk2;obtain⟨s,xs,hg,e1,e2,hk⟩:=Bv hk;refine⟨_,_,_,_,gs,h',hk,f1.mono (by simp[Fn];intro g hg;exact .inr hg),fun q hq=>?_,fun S' K' h=>by
    simp only[Dm];exact t1 S' (fun as qs rs ws S' h'=>arr h' g [] fun s xs=>s0=s∧n0=xs.length∧K' (.agg [.own s xs]::as) ((g,[])::qs) rs (g::ws) S' h') (J0 hg ⟨e1,e2,h⟩)⟩
   rcases List.mem_cons.1 hq with rfl|hq
   ·simp[Fn,AV.ids,G9,AV.ids1]
   ·simp[Fn,q1 q hq]
 |.mp::ms,v::vs,S,h,K,hk=>by
  cases v<;>simp only[Dm]at hk;rename_i g f;cases f with
  |succ f=>exact hk.elim
  |zero=>
   obtain⟨as,qs,rs,ws,gs,h',hk,f1,q1,t1⟩:=K6 hk;obtain⟨s,xs,hg,hk⟩:=Bv hk;match xs,hg,hk with
   |[],_,hk=>exact hk.elim
   |_::_::_,_,hk=>exact hk.elim
   |[r],hg,hk=>
    refine⟨_,_,_,_,gs,h',hk,f1.mono (by simp[Fn];intro g hg;exact .inr hg),fun q hq=>?_,fun S' K' h=>by
     simp only[Dm];exact t1 S' (fun as qs rs ws S' h'=>arr h' g [] fun s xs=>match xs with
      |[_]=>K' (.own s xs::as) ((g,[])::qs) rs (g::ws) S' h'
      |_=>False) (J0 hg h)⟩
    rcases List.mem_cons.1 hq with rfl|hq
    ·simp[Fn,AV.ids,AV.ids1]
    ·simp[Fn,q1 q hq]
theorem B8o{qs:List (Nat×Br)}{out:List AV}{K:Af→Ah→Prop}(hk:Vs S h qs out K):
 ∃gs h',K (C4 gs S) h'∧Frm (qs.map (·.1)) gs h h'∧∀S' K',K' (C4 gs S') h'→Vs S' h qs out K':=by
 match qs,out,hk with
 |[],[],hk=>exact⟨[],h,hk,.rfl,fun _ _ h=>h⟩
 |[],_::_,hk=>exact hk.elim
 |[(g,p)],[],hk=>exact hk.elim
 |[(g,p)],[y],hk=>exact⟨[g],_,hk,⟨by simp,fun e he=>Ns (by simpa using he)⟩,fun _ _ h=>h⟩
 |[(g,p)],_::_::_,hk=>exact hk.elim
 |_::_::_,[],hk=>exact hk.elim
 |_::_::_,[_],hk=>exact hk.elim
 |_::_::_,_::_::_,hk=>exact hk.elim
theorem B9x{d:Option Nat}{f:Nat}{vs:List AV}{K:Af→Ah→Prop}(hk:Qm E S h id d none f vs K):
 ∃c,E.F f=some c∧∃gs v h',K (Bc (C4 gs S) d none v) h'∧Frm (List.range' id 16++(match Jr c.ms with|true=>[]|false=>Fn vs)) gs h h'∧
  ∀S' K',K' (Bc (C4 gs S') d none v) h'→Qm E S' h id d none f vs K':=by
 unfold Qm at hk;cases hE:E.F f with
 |none=>rw[hE]at hk;exact hk.elim
 |some c=>
  rw[hE]at hk;simp only at hk;refine⟨c,.refl _,?_⟩;obtain⟨as,qs,rs,ws,gs,h1,hk,f1,q1,t1⟩:∃as qs rs ws gs h1,(leN (J3 as) id (match Rr rs ws with
                                                          |true=>False
                                                          |false=>∃x:c.α,as=c.enc x∧(Cy none→c.pre x)∧Mf c.ptr id (c.res x) fun v os=>match c.sc with
                                                           |true=>match Jr c.ms with
                                                            |true=>match os with
                                                             |[]=>K (Bc (C4 gs S) d none v) h1
                                                             |_=>False
                                                            |false=>False
                                                           |false=>Vs (C4 gs S) h1 qs (c.out x) fun S' h'=>K (Bc S' d none v) (os++h')))∧Frm (match Jr c.ms with|true=>[]|false=>Fn vs) gs h h1∧(∀q,q∈qs→q.1∈(match Jr c.ms with|true=>[]|false=>Fn vs))∧
                                                          ∀S' (K':List AV→List (Nat×Br)→List Nat→List Nat→Af→Ah→Prop),K' as qs rs ws (C4 gs S') h1→Dm c.sh S' h c.ms vs K':=by
   cases ha:Jr c.ms with
   |true=>
    obtain⟨as,rs,hb,t1⟩:=Qn ha hk;rw[ha]at hb;exact⟨as,[],rs,[],[],h,hb,.rfl,by simp,fun S' K' hk'=>t1 S' h K' (fun _ _=>.refl _) hk'⟩
   |false=>
    obtain⟨as,qs,rs,ws,gs,h1,hb,f1,q1,t1⟩:=K6 hk;rw[ha]at hb;exact⟨as,qs,rs,ws,gs,h1,hb,f1,q1,t1⟩
  obtain⟨e1,hk⟩:=Bj hk;cases hm:Rr rs ws with
  |true=>rw[hm]at hk;exact hk.elim
  |false=>
   rw[hm]at hk;obtain⟨xx,e2,e3,hk⟩:=hk;obtain⟨v,os,hk,hos,t3⟩:=Tu hk;have hfin:∀{gs':List Nat} {h2:Ah},Frm (match Jr c.ms with|true=>[]|false=>Fn vs) gs' h h2→Frm (List.range' id 16++(match Jr c.ms with|true=>[]|false=>Fn vs)) gs' h (os++h2):=by
    intro gs' h2 f;refine⟨fun g hg=>by simp[f.1 g hg],fun g hg=>?_⟩;rw[Be];cases ho:A4 os g with
    |some r=>exact absurd (List.mem_append.2 (.inl (by have:=hos g r ho;simp[List.mem_range'];exact⟨g - id,by omega,by omega⟩))) hg
    |none=>exact f.2 g fun h=>hg (by simp[h])
   have hback:∀S' K',(Mf c.ptr id (c.res xx) fun v os=>match c.sc with
         |true=>match Jr c.ms with
          |true=>match os with
           |[]=>K' (Bc (C4 gs S') d none v) h1
           |_=>False
          |false=>False
         |false=>Vs (C4 gs S') h1 qs (c.out xx) fun S' h'=>K' (Bc S' d none v) (os++h'))→Qm E S' h id d none f vs K':=by
    intro S' K' hb;unfold Qm;rw[hE];refine t1 S' _ (F8 e1 ?_);rw[hm];exact⟨xx,e2,e3,hb⟩
   cases hsc:c.sc with
   |true=>
    rw[hsc]at hk;simp only at hk;cases ha:Jr c.ms with
    |false=>rw[ha]at hk;exact hk.elim
    |true=>
     rw[ha]at hk f1;simp only at hk f1;match os,hk,t3 with
     |_::_,hk,_=>exact hk.elim
     |[],hk,t3=>
      refine⟨gs,v,h1,hk,f1.mono (by simp),fun S' K' h=>hback S' K' (t3 _ ?_)⟩;rw[hsc,ha];exact h
   |false=>
    rw[hsc]at hk;simp only at hk;obtain⟨gs2,h2,hk,f2,t4⟩:=B8o hk;rw[←De]at hk;have fq:Frm (match Jr c.ms with|true=>[]|false=>Fn vs) (gs++gs2) h h2:=
     (f1.comp (f2.mono (b:=match Jr c.ms with|true=>[]|false=>Fn vs) fun g hg=>by
       obtain⟨q,hq,rfl⟩:=List.mem_map.1 hg;exact q1 q hq)).mono fun g hg=>by rcases List.mem_append.1 hg with h|h<;>exact h
    refine⟨gs++gs2,v,_,hk,hfin fq,fun S' K' h=>hback S' K' (t3 _ ?_)⟩;rw[hsc];rw[De]at h;exact t4 _ (fun S' h'=>K' (Bc S' d none v) (os++h')) h
end
section
variable{P:Program}{E:Env}{x:Ctx}{w w':World}{h:Ah}{n n':Nat→Prop}{ρ:Option Nat→Am}{id:Nat}{S:Af}{g:Option Bool}
def cvt(E:Env)(id:Nat)(ts ty:Ty)(v:AV)(dst:Option Nat)(S:Af)(h:Ah)(K:Af→Ah→Prop):Prop:=
 match ty.k with
 |.slice e=>match v with
  |.str bs=>B0q E e (K (Bc S dst none (.view id [] 0 bs.length)) ((id,.own 1 (bs.map fun b=>[.int .u8 b.toNat]))::h))
  |_=>False
 |.str=>match v with
  |.str s=>K (Bc S dst none (.str s)) h
  |v=>match ts.k with
   |.slice e=>B0q E e (N3 h v fun s=>K (Bc S dst none (.str s)) h)
   |_=>False
 |_=>convert ty v fun u=>K (Bc S dst none u) h
theorem C6l{ts ty:Ty}{v:AV}{dst:Option Nat}{K:Af→Ah→Prop}(hk:cvt E id ts ty v dst S h K):
 ∃u h',K (Bc S dst none u) h'∧Frm (List.range' id 16) [] h h'∧∀S' (K':Af→Ah→Prop),K' (Bc S' dst none u) h'→cvt E id ts ty v dst S' h K':=by
 have h0:Frm (List.range' id 16) [] h h:=.rfl;have conv:(∀S (K:Af→Ah→Prop),cvt E id ts ty v dst S h K=convert ty v fun u=>K (Bc S dst none u) h)→∃u h',K (Bc S dst none u) h'∧Frm (List.range' id 16) [] h h'∧∀S' (K':Af→Ah→Prop),K' (Bc S' dst none u) h'→cvt E id ts ty v dst S' h K':=by
  intro e;rw[e]at hk;obtain⟨u,hk,t2⟩:=Tm hk;exact⟨u,_,hk,h0,fun S' K' h=>by rw[e];exact t2 (fun u=>K' (Bc S' dst none u) _) h⟩
 cases hq:ty.k;case slice e=>
  unfold cvt at hk⊢;rw[hq]at hk⊢;cases v<;>simp only at hk⊢;obtain⟨hk,t2⟩:=Wz hk;exact⟨_,_,hk,(Frm.rfl.new (id:=id) (ids:=[]) (h:=h)).mono (by simp),fun S' K' h=>t2 _ h⟩
 case str=>
  by_cases hs:∃s,v=.str s
  ·obtain⟨s,rfl⟩:=hs
   unfold cvt at hk⊢;rw[hq]at hk⊢;exact⟨_,_,hk,h0,fun S' K' h=>h⟩
  ·have e:∀(S:Af) (K:Af→Ah→Prop),cvt E id ts ty v dst S h K=(match(generalizing:=false) ts.k with
         |.slice e=>B0q E e (N3 h v fun s=>K (Bc S dst none (.str s)) h)
         |_=>False):=by
    intro S K;unfold cvt;rw[hq];cases v<;>first|rfl|exact absurd ⟨_,rfl⟩ hs
   simp only[e]at hk⊢;cases hq2:ts.k<;>rw[hq2]at hk<;>simp only at hk;obtain⟨hk,t2⟩:=Wz hk;obtain⟨s,hk,t3⟩:=B6k hk;exact⟨_,_,hk,h0,fun S' K' h=>t2 _ (t3 (fun s=>K' (Bc S' dst none (.str s)) _) h)⟩
 all_goals exact conv fun S K=>by unfold cvt;rw[hq]
theorem Wp{o:Oper}(hv:Cd E o=false){K:Af→Ah→Prop}(hk:B0 E id o none S h K):
 ∃gs v h',K (Bc (C4 gs S) o.dst none v) h'∧Frm (wroteIds E id S o) gs h h'∧∀S' K',OAg o.op.operands.toList S S'→K' (Bc (C4 gs S') o.dst none v) h'→B0 E id o none S' h K':=by
 have hnm:∀{l:List Nat} {g:Nat},g∈List.range' id 16→g∈1000000007::List.range' id 16++l:=fun hg=>List.mem_append.2 (.inl (List.mem_cons_of_mem _ hg));obtain⟨dst,op,type,pos,after,guard⟩:=o;have hwr:wroteIds E id S ⟨dst,op,type,pos,after,guard⟩=1000000007::List.range' id 16++C0i E S ⟨dst,op,type,pos,after,guard⟩:=by
  unfold wroteIds;rw[hv]
 cases op with
 |alloc t=>
  simp only[B0]at hk;obtain⟨ty,ht,hk⟩:=B9 hk;refine⟨[],_,_,hk,Frm.rfl.new (ids:=[])|>.mono fun g hg=>?_,fun S' K' oa hk'=>?_⟩
  ·rw[hwr];simp only[List.append_nil]at hg;exact hnm hg
  ·simp only[B0];exact Cr ht hk'
 |box t y=>
  simp only[B0]at hk;obtain⟨ty,ht,hk⟩:=B9 hk;obtain⟨v,hk,i1,t1⟩:=C9 hk;obtain⟨cs,gs,h1,hk,f1,t2⟩:=K4 hk;refine⟨gs,_,_,hk,f1.new.mono fun g hg=>?_,fun S' K' oa hk'=>?_⟩
  ·rw[hwr]
   rcases List.mem_append.1 hg with hg|hg
   ·exact hnm hg
   ·exact List.mem_append.2 (.inr (Da (y:=y) (by simp[Op.operands]) (i1 g (Jx g hg))))
  ·simp only[B0]
   exact Cr ht (t1 S' _ (oa.one (by simp[Op.operands])) (t2 S' (fun cs S' h'=>K' (Bc S' dst none (.bx id 0)) ((id,.own ty.size [cs])::h')) hk'))
 |store t y z=>
  simp only[B0]at hk;obtain⟨ty,ht,hk⟩:=B9 hk;obtain⟨v,hk,i1,t1⟩:=C9 hk;obtain⟨u,hk,i2,t2⟩:=C9 hk;obtain⟨gs,h1,hk,f1,t3⟩:=B69 hk;refine⟨gs,_,_,hk,f1.mono fun g hg=>?_,fun S' K' oa hk'=>?_⟩
  ·rw[hwr]
   rcases List.mem_append.1 hg with hg|hg
   ·exact List.mem_append.2 (.inr (Da (y:=y) (by simp[Op.operands]) (i1 g hg)))
   ·exact List.mem_append.2 (.inr (Da (y:=z) (by simp[Op.operands]) (i2 g hg)))
  ·simp only[B0]
   exact Cr ht (t1 S' _ (oa.one (by simp[Op.operands])) (t2 S' _ (oa.one (by simp[Op.operands])) (t3 S' (fun S' h'=>K' (Bc S' dst none .undef) h') hk')))
 |convert s t y=>
  have hk0:L5 E s fun ts=>L5 E t fun ty=>val S none y fun v=>cvt E id ts ty v dst S h K:=hk;obtain⟨ts,hts,hk0⟩:=B9 hk0;obtain⟨ty,htt,hk0⟩:=B9 hk0;obtain⟨v,hk0,i1,t1⟩:=C9 hk0;obtain⟨u,h',hk0,f1,t2⟩:=C6l hk0;refine⟨[],u,h',hk0,f1.mono fun g hg=>by rw[hwr];exact hnm hg,fun S' K' oa hk'=>?_⟩;show L5 E s fun ts=>L5 E t fun ty=>val S' none y fun v=>cvt E id ts ty v dst S' h K';exact Cr hts (Cr htt (t1 S' _ (oa.one (by simp[Op.operands])) (t2 S' K' hk')))
 |buildSlice t m parts=>
  simp only[B0]at hk;obtain⟨ty,hk,t0⟩:=G6 hk;obtain⟨e1,hk⟩:=Bj hk;obtain⟨vs,hk,i1,t1⟩:=Hs hk;obtain⟨rows,gs,h1,hk,f1,t2⟩:=Xo hk;cases hr:R8 0 (parts.toList.map fun q=>q.1)<;>rw[hr]at hk<;>simp only at hk;obtain⟨e2,hk⟩:=C8 hk;refine⟨gs,_,_,hk,f1.new.mono fun g hg=>?_,fun S' K' oa hk'=>?_⟩
  ·rw[hwr]
   rcases List.mem_append.1 hg with hg|hg
   ·exact hnm hg
   ·exact List.mem_append.2 (.inr (K7 (ys:=parts.toList.map fun q=>q.2) (by simp[Op.operands]) (i1 g hg)))
  ·simp only[B0]
   refine t0 _ (F8 e1 (t1 S' _ (oa.mono (by simp[Op.operands])) (t2 S' _ ?_)));rw[hr];exact K3 e2 hk'
 |makeSlice t l c=>
  simp only[B0]at hk;obtain⟨ty,hk,t0⟩:=G6 hk;obtain⟨v1,hk,i1,t1⟩:=C9 hk;obtain⟨v2,hk,i2,t2⟩:=C9 hk;cases v1<;>try exact hk.elim
  cases v2<;>try exact hk.elim
  obtain⟨q1,q2,q3,q4,hk⟩:=hk;refine⟨[],_,_,hk,Frm.rfl.new (ids:=[])|>.mono fun g hg=>?_,fun S' K' oa hk'=>?_⟩
  ·rw[hwr];simp only[List.append_nil]at hg;exact hnm hg
  ·simp only[B0]
   exact t0 _ (t1 S' _ (oa.one (by simp[Op.operands])) (t2 S' _ (oa.one (by simp[Op.operands])) ⟨q1,q2,q3,q4,hk'⟩))
 |call c=>
  cases hc:c.callee with
  |invoke r m=>simp only[B0,hc]at hk
  |builtin b=>
   simp only[C0i,hc]at hwr;simp only[B0,hc]at hk;simp only[Cd,hc]at hv;obtain⟨vs,hk,i1,t1⟩:=Hs hk;cases b<;>first
    |(cases hv;done)
    |(rcases vs with _|⟨y,_|⟨z,_|⟨q,r⟩⟩⟩<;>first
       |(exact hk.elim)
       |(exfalso;cases y<;>(try exact hk.elim)<;>cases z<;>exact hk.elim)
       |skip)
   obtain⟨e1,hk⟩:=Bj hk;obtain⟨ty,hk,t2⟩:=G6 hk;obtain⟨ta,hta,hk⟩:=B9 hk;have hk':(∀k,ta.k≠.int k)∧Km ty S h id dst y z K:=by
    cases hq:ta.k<;>rw[hq]at hk<;>first|exact hk.elim|exact⟨by simp,hk⟩
   obtain⟨hni,hk⟩:=hk';obtain⟨gs,v,h',hk,f1,t3⟩:=B26 hk;refine⟨gs,v,h',hk,f1.mono fun g hg=>?_,fun S' K' oa hk'=>?_⟩
   ·rw[hwr]
    rcases List.mem_append.1 hg with hg|hg
    ·exact hnm hg
    ·refine List.mem_append.2 (.inr (K7 (ys:=c.args.toList) (by intro z hz;simp[Op.operands,Call.operands];simp at hz;simp[hz]) (i1 g ?_)))
     simp only[Fn,List.append_nil];exact hg
   ·simp only[B0,hc]
    refine t1 S' _ (oa.mono (by intro z hz;simp[Op.operands,Call.operands];simp at hz;simp[hz])) (F8 e1 (t2 _ (Cr hta ?_)));have:=t3 S' K' hk';cases hq:ta.k<;>first|exact absurd hq (hni _)|exact this
  |value f=>
   simp only[C0i,hc]at hwr;simp only[B0,hc]at hk;obtain⟨f',caps,hk1,i1,hfn,t1⟩:=A2w hk (by
    intro v hv;obtain⟨vs,hv,_⟩:=Hs hv;cases v<;>first|exact hv.elim|exact⟨_,_,rfl⟩)
   obtain⟨vs,hk2,i2,t2⟩:=Hs hk1;simp only at hk2;obtain⟨c',hE,gs,v,h',hk,f1,t3⟩:=B9x hk2;refine⟨gs,v,h',hk,f1.mono fun g hg=>?_,fun S' K' oa hk'=>?_⟩
   ·rw[hwr]
    rcases List.mem_append.1 hg with hg|hg
    ·exact hnm hg
    ·cases ha:Jr c'.ms with
     |true=>rw[ha]at hg;cases hg
     |false=>
      rw[ha]at hg;simp only at hg;have hin:g∈touched S ⟨dst,.call c,type,pos,after,guard⟩:=by
       rcases(W3 _ _ _).1 hg with hg|hg
       ·exact K7 (ys:=c.args.toList) (by intro z hz;simp[Op.operands,Call.operands];simp at hz;simp[hz]) (i2 g hg)
       ·exact Da (y:=f) (by simp[Op.operands,Call.operands,hc]) (i1 g hg)
      cases f with
      |func f2=>
       obtain⟨rfl,_⟩:=hfn f2 rfl;simp only;rw[hE];simp only[ha];exact List.mem_append.2 (.inr hin)
      |_=>exact List.mem_append.2 (.inr hin)
   ·simp only[B0,hc]
    exact t1 S' _ (oa.one (by simp[Op.operands,Call.operands,hc])) (t2 S' _ (oa.mono (by intro z hz;simp[Op.operands,Call.operands];simp at hz;simp[hz])) (t3 S' K' hk'))
 |_=>
  exfalso;first
   |(simp only[B0]at hk;done)
   |(simp only[Cd]at hv;cases hv;done)
   |(simp only[B0]at hk;exact hk)
theorem B11{ty:Ty}{a y:AV}{K:Af→Ah→Prop}(hsc:ty.k.scalar=true)(hk:storeAt ty S h a y K):
 ∃h',K S h'∧Frm (a.ids++y.ids) [] h h'∧∀S' K',K' S' h'→storeAt ty S' h a y K':=by
 cases a<;>simp only[storeAt]at hk;case bx g f=>
  have hgi:g∈(AV.bx g f).ids++y.ids:=by simp[AV.ids,AV.ids1]
  rw[hsc]at hk;simp only at hk;cases hy:y.scalar<;>rw[hy]at hk<;>simp only at hk;obtain⟨s,xs,hg,hk⟩:=Bv hk;match xs,hg,hk with
  |[],_,hk=>exact hk.elim
  |_::_::_,_,hk=>exact hk.elim
  |[r],hg,hk=>
   obtain⟨e,hk⟩:=Bj hk;cases hc:(cell r f).scalar<;>rw[hc]at hk<;>simp only at hk;refine⟨_,hk,Frm.rfl.one hgi (fun e he=>Of he) (gs':=[]) (by simp),fun S' K' h=>?_⟩;simp only[storeAt,hsc,hy];exact J0 hg (F8 e (by rw[hc];exact h))
 case ptr g p i f=>
  have hgi:g∈(AV.ptr g p i f).ids++y.ids:=by simp[AV.ids,AV.ids1]
  rw[hsc]at hk;simp only at hk;cases hy:y.scalar<;>rw[hy]at hk<;>simp only at hk;obtain⟨s,xs,hg,hk⟩:=Bv hk;obtain⟨e,r,hr,hk⟩:=Bj hk;cases hc:(cell r f).scalar<;>rw[hc]at hk<;>simp only at hk;refine⟨_,hk,Frm.rfl.one hgi (fun e he=>Ns he) (gs':=[]) (by simp),fun S' K' h=>?_⟩;simp only[storeAt,hsc,hy];exact J0 hg (F8 e ⟨r,hr,by rw[hc];exact h⟩)
theorem B6i{o:Oper}(hv:Cd E o=false){K:Af→Ah→Prop}(hk:B0 E id o none S h K):
 ∃gs v h',K (Bc (C4 gs S) o.dst none v) h'∧Frm (wroteIds E id S o) gs h h'∧(∀g,g∈gs→g∈Pi E id S o)∧∀S' K',OAg o.op.operands.toList S S'→K' (Bc (C4 gs S') o.dst none v) h'→B0 E id o none S' h K':=by
 cases hp:Og E o with
 |false=>
  obtain⟨gs,v,h',k,f,t⟩:=Wp hv hk;exact⟨gs,v,h',k,f,fun g hg=>by unfold Pi;rw[hp];exact f.1 g hg,t⟩
 |true=>
  obtain⟨dst,op,type,pos,after,guard⟩:=o;unfold Og at hp;cases op<;>simp only at hp<;>(try(cases hp;done))
  rename_i t y z;simp only[B0]at hk;obtain⟨ty,ht,hk⟩:=B9 hk;rw[ht]at hp;simp only at hp;obtain⟨v,hk,i1,t1⟩:=C9 hk;obtain⟨u,hk,i2,t2⟩:=C9 hk;obtain⟨h1,hk,f1,t3⟩:=B11 hp hk;refine⟨[],_,_,hk,f1.mono fun g hg=>?_,by simp,fun S' K' oa hk'=>?_⟩
  ·unfold wroteIds
   rw[hv];rcases List.mem_append.1 hg with hg|hg
   ·exact List.mem_append.2 (.inr (Da (y:=y) (by simp[Op.operands]) (i1 g hg)))
   ·exact List.mem_append.2 (.inr (Da (y:=z) (by simp[Op.operands]) (i2 g hg)))
  ·simp only[B0]
   exact Cr ht (t1 S' _ (oa.one (by simp[Op.operands])) (t2 S' _ (oa.one (by simp[Op.operands])) (t3 S' (fun S' h'=>K' (Bc S' dst none .undef) h') hk')))
end
section
variable{P:Program}{E:Env}{x:Ctx}{w w':World}{h:Ah}{n n':Nat→Prop}{ρ:Option Nat→Am}{id:Nat}{S:Af}
theorem B99{ops:List Oper}{o:Oper}{a:Act}{K:Option Bool→Prop}(hs:Aw x w h n ρ S a.tmps)(hk:N2 S ops o K):
 ∃g,K g∧((Cy g∧Region.wanted o (yielded ops.toArray a.tmps)=true)∨(g=some false∧Region.wanted o (yielded ops.toArray a.tmps)=false)):=by
 unfold N2 at hk;unfold Region.wanted;cases hg:o.guard with
 |none=>rw[hg]at hk;exact⟨none,hk,.inl ⟨trivial,rfl⟩⟩
 |some jb=>
  obtain⟨j,b⟩:=jb;rw[hg]at hk;simp only at hk⊢;cases hj:ops[j]? with
  |none=>rw[hj]at hk;exact hk.elim
  |some oj=>
   rw[hj]at hk;simp only at hk;cases hd:oj.dst with
   |none=>rw[hd]at hk;exact hk.elim
   |some d=>
    rw[hd]at hk;simp only at hk;cases hl:A4 S d with
    |none=>rw[hl]at hk;exact hk.elim
    |some s=>
     rw[hl]at hk;obtain⟨c,v⟩:=s;obtain⟨h1,h2⟩:=hs d _ hl;have hdst:((ops.toArray[j]?).bind (·.dst))=some d:=by simp[hj,hd]
     have hyu:a.tmps.getD d undef=undef→yielded ops.toArray a.tmps j=none:=by
      intro hu;unfold yielded;rw[hdst,Option.bind_some];cases e:a.tmps[d]? with
      |none=>rfl
      |some u=>
       have:u=undef:=by rw[←hu];simp[Array.getD_eq_getD_getElem?,e]
       subst this;rfl
     have hyb:∀xb,a.tmps.getD d undef=.bool xb→yielded ops.toArray a.tmps j=some xb:=by
      intro xb hu;unfold yielded;rw[hdst,Option.bind_some];cases e:a.tmps[d]? with
      |none=>simp[Array.getD_eq_getD_getElem?,e,undef]at hu
      |some u=>
       have:u=.bool xb:=by rw[←hu];simp[Array.getD_eq_getD_getElem?,e]
       subst this;rfl
     cases v<;>simp only at hk;case bool xb=>
      have fin:∀g0:Option Bool,Cy g0→c=g0→∃g,(match b with|true=>(fun K:Option Bool→Prop=>K (A0g c xb))|false=>fun K=>K (A0g c (!xb))) (fun q=>q=g)∧((Cy g∧(yielded ops.toArray a.tmps j==some b)=true)∨(g=some false∧(yielded ops.toArray a.tmps j==some b)=false)):=by
       intro g0 hg0 hc;have hy:=hyb xb (K1 (h1 (hc▸hg0)));rw[hy];subst hc;cases b<;>cases xb<;>cases c<;>first
        |exact⟨_,rfl,.inl ⟨by simp_all[Cy,A0g],by decide⟩⟩
        |exact⟨_,rfl,.inr ⟨by simp_all[Cy,A0g],by decide⟩⟩
      have use:∀g,(match b with|true=>(fun K:Option Bool→Prop=>K (A0g c xb))|false=>fun K=>K (A0g c (!xb))) (fun q=>q=g)→K g:=by
       intro g hg;cases b<;>simp only at hg hk<;>exact hg▸hk
      cases c with
      |none=>
       obtain⟨g,e1,e2⟩:=fin none trivial rfl;exact⟨g,use g e1,e2⟩
      |some c0=>
       cases c0 with
       |true=>
        obtain⟨g,e1,e2⟩:=fin (some true) rfl rfl;exact⟨g,use g e1,e2⟩
       |false=>
        have hy:=hyu (h2 rfl);refine⟨some false,use _ ?_,.inr ⟨rfl,by rw[hy];rfl⟩⟩;cases b<;>cases xb<;>rfl
     case undef=>
      cases c with
      |none=>exact hk.elim
      |some c0=>
       cases c0 with
       |true=>exact hk.elim
       |false=>
        have hy:=hyu (h2 rfl);exact⟨some false,hk,.inr ⟨rfl,by rw[hy];rfl⟩⟩
def Kw(E:Env)(ops:List Oper)(id:Nat)(o:Oper)(S:Af)(h:Ah)(S':Af)(h':Ah):Prop:=N2 S ops o fun g=>Lg E id o g S h fun a b=>a=S'∧b=h'
theorem Sts.trans{x':Ctx}{N:Nat}{a:Act}(h1:∃R wr,(∀b,x.R b→R b)∧x'={x with R:=R,wr:=wr})(h2:Sts x' N S h n a w):Sts x N S h n a w:=by
 obtain⟨R,wr,hR,rfl⟩:=h1;obtain⟨R2,wr2,hR2,h3⟩:=h2;exact⟨R2,wr2,fun b hb=>hR2 b (hR b hb),h3⟩
theorem Sts.mono_n{N:Nat}{a:Act}(h1:Sts x N S h n a w)(hn:∀g,n g→n' g):Sts x N S h n' a w:=by
 obtain⟨R,wr,hR,ρ,H,hs,hN,hd⟩:=h1;exact⟨R,wr,hR,ρ,H.mono_n hn,hs.mono_n H hn,hN,hd⟩
def A0y(P:Program)(ops:Array Oper)(o:Oper)(a:Act)(w:World)(Q:Exit→Act→World→Prop)(R:Act→World→Prop):Prop:=
 if Region.wanted o (yielded ops a.tmps)then o.wp P a w R Q∨(o.asks P a w∧LetsOut Q)else R (a.put o.dst undef) w
theorem A8h(hT:TOk P E)(hF:FE P E x){N:Nat}{a:Act}{ops:List Oper}{o:Oper}{S':Af}{h':Ah}(hx:Kw E ops id o S h S' h')(hst:Sts x N S h n a w)
 (hbd:∃B,∀g,n g→g<B)(hid:Tb n id)(hd:∀k,o.dst=some k→k<N)(Q:Exit→Act→World→Prop):A0y P ops.toArray o a w Q fun a' w'=>Sts x N S' h' (Ln n id) a' w':=by
 obtain⟨R,wr,hR,ρ,H,hs,hN,hdf⟩:=hst;obtain⟨g,hk,hg⟩:=B99 hs hx;have back:∀{S'' h'' n'' a'' w''},Sts {x with R:=R,wr:=wr} N S'' h'' n'' a'' w''→Sts x N S'' h'' n'' a'' w'':=fun h=>Sts.trans ⟨R,wr,hR,rfl⟩ h;unfold A0y;rcases hg with⟨hg,hw⟩|⟨rfl,hw⟩
 ·rw[if_pos hw]
  left;have run:∀{g:Option Bool},Cy g→(g≠none→Cd E o=true)→(B0 E id o g S h fun a b=>a=S'∧b=h')→o.wp P a w (fun a' w'=>Sts x N S' h' (Ln n id) a' w') Q:=by
   intro g hg hv hk;obtain⟨S2,h2,⟨rfl,rfl⟩,hwp⟩:=B5b (Q:=Q) hT (show FE P E {x with R:=R,wr:=wr}from hF) H hs hN hdf hbd hid hg hv hd hk;exact Oper.wp_mono (fun a' w' h=>back h) hwp
  cases g with
  |none=>exact run (g:=none) trivial (by simp) hk
  |some b=>
   cases b with
   |false=>simp[Cy]at hg
   |true=>
    simp only[Lg]at hk;cases hv:Cd E o<;>rw[hv]at hk<;>simp only at hk
    ·exact run (g:=none) trivial (by simp) (hk.1 (by trivial))
    ·cases hvo:Oq S o<;>rw[hvo]at hk<;>simp only at hk
     ·exact run hg (fun _=>hv) hk
     ·exact(hk.1 trivial).elim
 ·rw[hw]
  simp only[Bool.false_eq_true,if_false];have skip:S'=Bc S o.dst (some false) .undef∧h'=h∨∃v,S'=Bc S o.dst (some false) v∧h'=h:=by
   simp only[Lg]at hk;cases hv:Cd E o<;>rw[hv]at hk<;>simp only at hk
   ·exact .inl ⟨(hk.2 (by trivial)).1.symm,(hk.2 (by trivial)).2.symm⟩
   ·cases hvo:Oq S o<;>rw[hvo]at hk<;>simp only at hk
    ·obtain⟨v,⟨e1,e2⟩,_⟩:=Tq hv hk
     exact .inr ⟨v,e1.symm,e2.symm⟩
    ·exact .inl ⟨hk.2.1.symm,hk.2.2.symm⟩
  have:∃v,S'=Bc S o.dst (some false) v∧h'=h:=by
   rcases skip with h|h
   ·exact⟨_,h⟩
   ·exact h
  obtain⟨v,rfl,rfl⟩:=this;exact back (Stt.put (x:={x with R:=R,wr:=wr}) H hs hN hdf hd (fun ht=>by simp[Cy]at ht) (fun _=>rfl) A7g).sts
def Ji(ops:List Oper)(o:Oper)(S S':Af):Prop:=∀d,d∈o.looksAt ops.toArray→A4 S' d=A4 S d
theorem Ji.oag{ops:List Oper}{o:Oper}{S S':Af}(h:Ji ops o S S'):OAg o.op.operands.toList S S':=fun d hd=>h d (by
 unfold Oper.looksAt;refine List.mem_append.2 (.inl (List.mem_filterMap.2 ⟨_,hd,rfl⟩)))
theorem K5{ops:List Oper}{o:Oper}{S S':Af}(h:Ji ops o S S'){K:Option Bool→Prop}:N2 S ops o K=N2 S' ops o K:=by
 unfold N2;cases hg:o.guard with
 |none=>rfl
 |some jb=>
  obtain⟨j,b⟩:=jb;simp only;cases hj:ops[j]? with
  |none=>rfl
  |some oj=>
   simp only;cases hd:oj.dst with
   |none=>rfl
   |some d=>
    simp only;rw[h d (by unfold Oper.looksAt;rw[hg];refine List.mem_append.2 (.inr ?_);simp[hj,hd])]
theorem Tv{ops:List Oper}{o:Oper}{K:Option Bool→Prop}(hk:N2 S ops o K):∃g,K g∧∀K',K' g→N2 S ops o K':=by
 unfold N2 at hk⊢;cases hg:o.guard with
 |none=>rw[hg]at hk;exact⟨_,hk,fun _ h=>h⟩
 |some jb=>
  obtain⟨j,b⟩:=jb;rw[hg]at hk;simp only at hk⊢;cases hj:ops[j]? with
  |none=>rw[hj]at hk;exact hk.elim
  |some oj=>
   rw[hj]at hk;simp only at hk⊢;cases hd:oj.dst with
   |none=>rw[hd]at hk;exact hk.elim
   |some d=>
    rw[hd]at hk;simp only at hk⊢;cases hl:A4 S d with
    |none=>rw[hl]at hk;exact hk.elim
    |some s=>
     rw[hl]at hk;obtain⟨c,v⟩:=s;cases v<;>simp only at hk⊢;case bool xb=>exact⟨_,hk,fun _ h=>h⟩
     case undef=>
      cases c with
      |none=>exact hk.elim
      |some c0=>
       cases c0 with
       |true=>exact hk.elim
       |false=>exact⟨_,hk,fun _ h=>h⟩
theorem T0{ops:List Oper}{o:Oper}{S':Af}{h':Ah}(hx:Kw E ops id o S h S' h'):
 (∃c v,S'=Bc S o.dst c v∧h'=h∧∀S1 h1,Ji ops o S S1→HAg (readIds S o) h h1→Kw E ops id o S1 h1 (Bc S1 o.dst c v) h1)∨
 (Cd E o=false∧∃gs v,S'=Bc (C4 gs S) o.dst none v∧Frm (wroteIds E id S o) gs h h'∧(∀g,g∈gs→g∈Pi E id S o)∧∀S1,Ji ops o S S1→Kw E ops id o S1 h (Bc (C4 gs S1) o.dst none v) h'):=by
 unfold Kw at hx;obtain⟨g,hk,tg⟩:=Tv hx;have anchor:Cd E o=false→(B0 E id o none S h fun a b=>a=S'∧b=h')→(∀S1 h1 S2 h2,(B0 E id o none S1 h1 fun a b=>a=S2∧b=h2)→Lg E id o g S1 h1 fun a b=>a=S2∧b=h2)→
  (Cd E o=false∧∃gs v,S'=Bc (C4 gs S) o.dst none v∧Frm (wroteIds E id S o) gs h h'∧(∀g,g∈gs→g∈Pi E id S o)∧∀S1,Ji ops o S S1→Kw E ops id o S1 h (Bc (C4 gs S1) o.dst none v) h'):=by
  intro hv hk hr;obtain⟨gs,v,h2,⟨e1,e2⟩,f1,fk,t1⟩:=B6i hv hk;subst e2;refine⟨hv,gs,v,e1.symm,f1,fk,fun S1 ha=>?_⟩;unfold Kw;rw[←K5 ha];exact tg _ (hr _ _ _ _ (t1 S1 _ ha.oag ⟨rfl,rfl⟩))
 have value:∀g',Cd E o=true→(B0 E id o g' S h fun a b=>a=S'∧b=h')→(∀S1 h1 S2 h2,(B0 E id o g' S1 h1 fun a b=>a=S2∧b=h2)→Lg E id o g S1 h1 fun a b=>a=S2∧b=h2)→
  (∃c v,S'=Bc S o.dst c v∧h'=h∧∀S1 h1,Ji ops o S S1→HAg (readIds S o) h h1→Kw E ops id o S1 h1 (Bc S1 o.dst c v) h1):=by
  intro g' hv hk hr;obtain⟨v,⟨e1,e2⟩,t1⟩:=Tq hv hk;refine⟨g',v,e1.symm,e2.symm,fun S1 h1 ha hh=>?_⟩;unfold Kw;rw[←K5 ha];exact tg _ (hr _ _ _ _ (t1 S1 h1 _ ha.oag hh ⟨rfl,rfl⟩))
 by_cases hv:Cd E o=true
 ·cases g with
  |none=>exact .inl (value none hv hk fun _ _ _ _ h=>h)
  |some b=>
   cases hvo:Oq S o with
   |true=>
    have e:∀S1 h K,Oq S1 o=true→Lg E id o (some b) S1 h K=((b=true→False)∧K (Bc S1 o.dst (some false) .undef) h):=by intro S h K hvo;unfold Lg;rw[hv];simp only[hvo]
    rw[e _ _ _ hvo]at hk;obtain⟨hb,e1,e2⟩:=hk;refine .inl ⟨some false,.undef,e1.symm,e2.symm,fun S1 h1 ha hh=>?_⟩;unfold Kw;rw[←K5 ha];exact tg _ (by rw[e _ _ _ ((A5o ha.oag).trans hvo)];exact⟨hb,rfl,rfl⟩)
   |false=>
    have e:∀S1 h K,Oq S1 o=false→Lg E id o (some b) S1 h K=B0 E id o (some b) S1 h K:=by intro S h K hvo;unfold Lg;rw[hv];simp only[hvo]
    rw[e _ _ _ hvo]at hk;obtain⟨v,⟨e1,e2⟩,t1⟩:=Tq hv hk;refine .inl ⟨some b,v,e1.symm,e2.symm,fun S1 h1 ha hh=>?_⟩;unfold Kw;rw[←K5 ha];exact tg _ (by rw[e _ _ _ ((A5o ha.oag).trans hvo)];exact t1 S1 h1 _ ha.oag hh ⟨rfl,rfl⟩)
 ·have hv:Cd E o=false:=by simpa using hv
  cases g with
  |none=>exact .inr (anchor hv hk fun _ _ _ _ h=>h)
  |some b=>
   have e:∀S h K,Lg E id o (some b) S h K=((b=true→B0 E id o none S h K)∧(b=false→K (Bc S o.dst (some false) .undef) h)):=by intro S h K;unfold Lg;rw[hv]
   rw[e]at hk;cases b with
   |true=>exact .inr (anchor hv (hk.1 rfl) fun _ _ _ _ h=>by rw[e];exact⟨fun _=>h,by simp⟩)
   |false=>
    obtain⟨e1,e2⟩:=hk.2 rfl;refine .inl ⟨some false,.undef,e1.symm,e2.symm,fun S1 h1 ha hh=>?_⟩;unfold Kw;rw[←K5 ha];exact tg _ (by rw[e];exact⟨by simp,fun _=>⟨rfl,rfl⟩⟩)
end
abbrev Xg:=Nat×Oper×(List Nat×List Nat)
inductive Xp(E:Env)(ops:List Oper)(b:Nat):List Xg→Af→Ah→Af→Ah→Prop
 |nil {S:Af} {h:Ah}:Xp E ops b [] S h S h
 |cons {i:Nat} {o:Oper} {r:List Xg} {S:Af} {h:Ah} {S1:Af} {h1:Ah} {S2:Af} {h2:Ah} (hx:Kw E ops (b+16*i) o S h S1 h1) (hr:Xp E ops b r S1 h1 S2 h2):Xp E ops b ((i,o,E2 E ops (b+16*i) o S S1)::r) S h S2 h2
section
variable{P:Program}{E:Env}{x:Ctx}{w w':World}{h:Ah}{n n':Nat→Prop}{ρ:Option Nat→Am}{id:Nat}{S:Af}
theorem C7c{ops:List Oper}{o:Oper}{K:Af→Ah→Prop}(hk:N2 S ops o fun g=>Lg E id o g S h K):∃S' h',K S' h'∧Kw E ops id o S h S' h':=by
 obtain⟨g,hk,tg⟩:=Tv hk;have anchor:Cd E o=false→B0 E id o none S h K→∃S' h',K S' h'∧B0 E id o none S h fun a b=>a=S'∧b=h':=by
  intro hv hk;obtain⟨gs,v,h2,hk,f1,t1⟩:=Wp hv hk;exact⟨_,_,hk,t1 S (fun a b=>a=_∧b=_) (fun _ _=>rfl) ⟨rfl,rfl⟩⟩
 have value:∀g',Cd E o=true→B0 E id o g' S h K→∃S' h',K S' h'∧B0 E id o g' S h fun a b=>a=S'∧b=h':=by
  intro g' hv hk;obtain⟨v,hk,t1⟩:=Tq hv hk;exact⟨_,_,hk,t1 S h (fun a b=>a=_∧b=_) (fun _ _=>rfl) (fun _ _=>rfl) ⟨rfl,rfl⟩⟩
 by_cases hv:Cd E o=true
 ·cases g with
  |none=>
   obtain⟨S',h',hk,hx⟩:=value none hv hk;exact⟨S',h',hk,tg _ hx⟩
  |some b=>
   cases hvo:Oq S o with
   |true=>
    have e:∀K,Lg E id o (some b) S h K=((b=true→False)∧K (Bc S o.dst (some false) .undef) h):=by intro K;unfold Lg;rw[hv];simp only[hvo]
    rw[e]at hk;exact⟨_,_,hk.2,tg _ (by rw[e];exact⟨hk.1,rfl,rfl⟩)⟩
   |false=>
    have e:∀K,Lg E id o (some b) S h K=B0 E id o (some b) S h K:=by intro K;unfold Lg;rw[hv];simp only[hvo]
    rw[e]at hk;obtain⟨S',h',hk,hx⟩:=value (some b) hv hk;exact⟨S',h',hk,tg _ (by rw[e];exact hx)⟩
 ·have hv:Cd E o=false:=by simpa using hv
  cases g with
  |none=>
   obtain⟨S',h',hk,hx⟩:=anchor hv hk;exact⟨S',h',hk,tg _ hx⟩
  |some b=>
   have e:∀K,Lg E id o (some b) S h K=((b=true→B0 E id o none S h K)∧(b=false→K (Bc S o.dst (some false) .undef) h)):=by intro K;unfold Lg;rw[hv]
   rw[e]at hk;cases b with
   |true=>
    obtain⟨S',h',hk,hx⟩:=anchor hv (hk.1 rfl);exact⟨S',h',hk,tg _ (by rw[e];exact⟨fun _=>hx,by simp⟩)⟩
   |false=>exact⟨_,_,hk.2 rfl,tg _ (by rw[e];exact⟨by simp,fun _=>⟨rfl,rfl⟩⟩)⟩
theorem B90{ops:List Oper}{b:Nat}:∀(r:List Oper) (k:Nat) (S:Af) (h:Ah) (t:C4n) (K:Af→Ah→C4n→Prop),B62 E ops r (b+16*k) S h t K→
 ∃l Sn hn,Xp E ops b l S h Sn hn∧K Sn hn ((l.map (·.2.2)).reverse++t)∧l.map (fun q=>(q.2.1,q.1))=r.zipIdx k
 |[],k,S,h,t,K,hk=>⟨[],S,h,.nil,hk,rfl⟩
 |o::r,k,S,h,t,K,hk=>by
  obtain⟨S1,h1,hk,hx⟩:=C7c hk;have e:b+16*k+16=b+16*(k+1):=by omega
  rw[e]at hk;obtain⟨l,Sn,hn,hc,hk,hl⟩:=B90 r (k+1) S1 h1 _ K hk;refine⟨(k,o,E2 E ops (b+16*k) o S S1)::l,Sn,hn,.cons hx hc,?_,?_⟩
  ·simpa using hk
  ·simp[hl]
theorem A0y.mono{ops:Array Oper}{o:Oper}{a:Act}{Q:Exit→Act→World→Prop}{R R':Act→World→Prop}(h:A0y P ops o a w Q R)(hr:∀a w,R a w→R' a w):A0y P ops o a w Q R':=by
 unfold A0y at h⊢;split
 ·rename_i hw
  rw[if_pos hw]at h;exact h.imp (Oper.wp_mono hr) (fun h=>h)
 ·rename_i hw
  rw[if_neg hw]at h;exact hr _ _ h
theorem C7f{n:Nat→Prop}{b k:Nat}(h:∀g,n g→g<b+16*k):∀g,Ln n (b+16*k) g→g<b+16*(k+1):=by
 rintro g (hg|⟨h1,h2⟩)
 ·have:=h g hg;omega
 ·omega
theorem B9g{n:Nat→Prop}{id:Nat}(h:∀g,n g→g<id):Tb n id:=fun g h1 _ hn=>by have:=h g hn;omega
theorem A8b(hT:TOk P E)(hF:FE P E x){N:Nat}{ops:List Oper}{b:Nat}{Q:Exit→Act→World→Prop}(hd:∀o,o∈ops→∀k,o.dst=some k→k<N):∀(r:List Oper) (k:Nat) {l:List Xg} {S:Af} {h:Ah} {Sn:Af} {hn:Ah} {n:Nat→Prop} {a:Act} {w:World},
 (∀o,o∈r→o∈ops)→Xp E ops b l S h Sn hn→l.map (fun q=>(q.2.1,q.1))=r.zipIdx k→Sts x N S h n a w→(∀g,n g→g<b+16*k)→(∀a w n',(∀g,n' g→g<b+16*(k+r.length))→Sts x N Sn hn n' a w→Q .normal a w)→
 wpList P ops.toArray Q r a w
 |[],k,l,S,h,Sn,hn,n,a,w,hm,hc,hl,hst,hlt,hQ=>by
  have:l=[]:=by simpa using hl
  subst this;cases hc;exact hQ a w n (by simpa using hlt) hst
 |o::r,k,l,S,h,Sn,hn,n,a,w,hm,hc,hl,hst,hlt,hQ=>by
  cases hc with
  |nil=>simp at hl
  |cons hx hr=>
   simp only[List.map_cons,List.zipIdx_cons,List.cons.injEq,Prod.mk.injEq]at hl;obtain⟨⟨rfl,rfl⟩,hl⟩:=hl;have hs:=A8h hT hF hx hst ⟨_,hlt⟩ (B9g hlt) (hd _ (hm _ (by simp))) Q;have:=hs.mono (R':=wpList P ops.toArray Q r) fun a' w' h'=>A8b hT hF hd r _ (fun o ho=>hm o (by simp[ho])) hr hl h' (C7f hlt) fun a w n' hn' hs'=>hQ a w n' (fun g hg=>by have:=hn' g hg;simp only[List.length_cons];omega) hs';exact this
def SEq(S S':Af):Prop:=∀d,A4 S' d=A4 S d
theorem SEq.agree{ops:List Oper}{o:Oper}{S S':Af}(h:SEq S S'):Ji ops o S S':=fun d _=>h d
theorem Ef{S:Af}{dst:Option Nat}{c:Option Bool}{v:AV}{d:Nat}:A4 (Bc S dst c v) d=if dst=some d then some ⟨c,v⟩else A4 S d:=by
 cases dst with
 |none=>simp[Bc]
 |some k=>simp[Bc,Ac]
def vs1(g:Nat)(s:B20):B20:=match L0 g s.v with
 |true=>⟨s.c,.undef⟩
 |false=>s
theorem Xs(g d:Nat):∀(S:Af),A4 (voids g S) d=(A4 S d).map (vs1 g)
 |[]=>rfl
 |(k,s)::S=>by
  have ih:=Xs g d S;simp only[voids];cases hv:L0 g s.v<;>simp only<;>rw[Ac,Ac,ih]<;>split<;>simp[vs1,hv]
def vsL:List Nat→B20→B20
 |[],s=>s
 |g::gs,s=>vsL gs (vs1 g s)
theorem Fb(d:Nat):∀(gs:List Nat) (S:Af),A4 (C4 gs S) d=(A4 S d).map (vsL gs)
 |[],S=>by simp only[C4];cases A4 S d<;>rfl
 |g::gs,S=>by
  simp only[C4];rw[Fb d gs,Xs];cases A4 S d<;>rfl
theorem C3j(g:Nat)(c:Option Bool):vs1 g ⟨c,.undef⟩=⟨c,.undef⟩:=rfl
theorem B34(c:Option Bool):∀gs,vsL gs ⟨c,.undef⟩=⟨c,.undef⟩
 |[]=>rfl
 |g::gs=>by simp only[vsL,C3j,B34 c gs]
theorem Nk{g:Nat}{v:AV}(h:Hg g v=true):g∈v.ids1∨v.nest=true:=by
 cases v with
 |view g' p o l=>
  cases p with
  |nil=>simp[Hg]at h
  |cons a p=>have:g'=g:=Nat.eq_of_beq_eq_true h;subst this;simp[AV.ids1]
 |ptr g' p i f=>
  cases p with
  |nil=>simp[Hg]at h
  |cons a p=>have:g'=g:=Nat.eq_of_beq_eq_true h;subst this;simp[AV.ids1]
 |agg cs=>exact .inr rfl
 |tup cs=>exact .inr rfl
 |fn f cs=>exact .inr rfl
 |_=>simp[Hg]at h
theorem Tz{g:Nat}:∀{cs:List AV},To g cs=true→g∈G9 cs∨Ze cs=true
 |[],h=>by cases h
 |c::cs,h=>by
  simp only[To]at h;simp only[G9,Ze,List.mem_append,Bool.or_eq_true];cases hl:Hg g c<;>rw[hl]at h<;>simp only at h
  ·rcases Tz h with h|h
   ·exact .inl (.inr h)
   ·exact .inr (.inr h)
  ·rcases Nk hl with h|h
   ·exact .inl (.inl h)
   ·exact .inr (.inl h)
theorem B57{g:Nat}{c:AV}{cs:List AV}(h:Ng g (c::cs)=true):(g∈c.ids∨Nl [c]=true)∨Ng g cs=true:=by
 have gen:∀b:Bool,(match b with|true=>true|false=>Ng g cs)=true→b=true∨Ng g cs=true:=by intro b;cases b<;>simp
 cases c with
 |agg d=>
  rcases gen (To g d) h with h|h
  ·refine .inl ((Tz h).imp (fun h=>h) fun h=>?_)
   simp[Nl,h]
  ·exact .inr h
 |view g' p o l=>
  rcases gen (Hg g (.view g' p o l)) h with h|h
  ·exact .inl ((Nk h).imp Vb fun h=>by cases h)
  ·exact .inr h
 |ptr g' p i f=>
  rcases gen (Hg g (.ptr g' p i f)) h with h|h
  ·exact .inl ((Nk h).imp Vb fun h=>by cases h)
  ·exact .inr h
 |tup d=>exact .inl (.inr (by simp[Nl,AV.nest]))
 |fn f d=>exact .inl (.inr (by simp[Nl,AV.nest]))
 |_=>exact .inr h
theorem B59{c:AV}{cs:List AV}:Nl (c::cs)=(Nl [c]||Nl cs):=by simp[Nl]
theorem A2p{g:Nat}:∀{cs:List AV},Ng g cs=true→g∈Mi cs∨Nl cs=true
 |[],h=>by cases h
 |c::cs,h=>by
  simp only[Mi,List.mem_append];rw[B59,Bool.or_eq_true];rcases B57 h with(h|h)|h
  ·exact .inl (.inl h)
  ·exact .inr (.inl h)
  ·rcases A2p h with h|h
   ·exact .inl (.inr h)
   ·exact .inr (.inr h)
theorem B6y{g:Nat}{v:AV}(h:L0 g v=true):g∈v.ids2∨v.deepNest=true:=by
 cases v with
 |agg cs=>exact Tz h
 |fn f cs=>
  rcases Tz (cs:=cs) h with h|h
  ·exact .inl (Tj h)
  ·exact .inr h
 |tup cs=>exact A2p h
 |view g' p o l=>
  rcases Nk (v:=.view g' p o l) h with h|h
  ·exact .inl h
  ·cases h
 |ptr g' p o l=>
  rcases Nk (v:=.ptr g' p o l) h with h|h
  ·exact .inl h
  ·cases h
 |_=>simp[L0,Hg]at h
theorem Ww{v:AV}{i:Nat}(h:i∈v.idsU)(h2:i=1000000007∨L0 i v=true):i∈v.keepU:=by
 refine List.mem_filter.2 ⟨h,?_⟩;rcases h2 with rfl|h2
 ·simp
 ·simp[h2]
theorem C32{v:AV}{i:Nat}(h:i∈v.keepU):i∈v.idsU:=(List.mem_filter.1 h).1
theorem C1s{c:Option Bool}{v:AV}:∀{gs:List Nat},(∀g,g∈gs→g∉v.keepU)→1000000007∉v.keepU→vsL gs ⟨c,v⟩=⟨c,v⟩
 |[],_,_=>rfl
 |g::gs,h,hm0=>by
  have hm:1000000007∉v.idsU:=fun hh=>hm0 (Ww hh (.inl rfl));have hu:v≠.undef:=by rintro rfl;exact hm (by simp[AV.idsU])
  have hn:v.deepNest=false:=by
   cases hd:v.deepNest with
   |false=>rfl
   |true=>
    exfalso;apply hm;unfold AV.idsU;split
    ·exact absurd rfl hu
    ·rw[hd];simp
  have hid:v.idsU=v.ids2:=by
   unfold AV.idsU;split
   ·exact absurd rfl hu
   ·rw[hn]
  have hg:L0 g v=false:=by
   cases hd:L0 g v with
   |false=>rfl
   |true=>
    rcases B6y hd with h1|h1
    ·exact absurd (Ww (hid▸h1) (.inr hd)) (h g (by simp))
    ·rw[hn]at h1;cases h1
  simp only[vsL,vs1,hg];exact C1s (fun g hg=>h g (by simp[hg])) hm0
theorem A1g:∀(gs:List Nat) (s:B20),vsL gs s=s∨vsL gs s=⟨s.c,.undef⟩
 |[],s=>.inl rfl
 |g::gs,s=>by
  simp only[vsL];unfold vs1;cases L0 g s.v<;>simp only
  ·exact A1g gs s
  ·exact .inr (B34 _ gs)
end
structure Ix(a:Nat)(o:Option AV)(h h2:Ah):Prop where
 eq:∀g,g≠a→A4 h2 g=A4 h g
 at_:A4 h2 a=o
section
variable{P:Program}{E:Env}{x:Ctx}{w w':World}{h h2:Ah}{n n':Nat→Prop}{ρ:Option Nat→Am}{id:Nat}{S:Af}{gd:Option Bool}{a:Nat}{o:Option AV}
theorem Ix.hget(he:Ix a o h h2){g:Nat}(hg:g≠a)(p:Br):hget h2 g p=hget h g p:=by
 unfold Go.GH.hget;rw[he.eq g hg]
theorem Ix.remove(he:Ix a o h h2){g:Nat}(hg:g≠a):Ix a o (remove h g) (remove h2 g):=
 ⟨fun e hh=>by rw[Ik,Ik,he.eq e hh],by rw[Ik,if_neg hg,he.at_]⟩
theorem Ix.hput(he:Ix a o h h2){g:Nat}(hg:g≠a)(p:Br)(y:AV):Ix a o (hput h g p y) (hput h2 g p y):=by
 cases hl:A4 h g with
 |none=>
  have h1:Go.GH.hput h g p y=h:=by unfold Go.GH.hput;rw[hl]
  have h3:Go.GH.hput h2 g p y=h2:=by unfold Go.GH.hput;rw[he.eq g hg,hl]
  rw[h1,h3];exact he
 |some r=>
  have hl2:A4 h2 g=some r:=by rw[he.eq g hg,hl]
  exact⟨fun e hh=>by rw[F3 hl,F3 hl2,he.eq e hh],by rw[F3 hl2,if_neg hg,he.at_]⟩
theorem Ix.update(he:Ix a o h h2){g:Nat}(hg:g≠a)(y:AV):Ix a o (update h g y) (update h2 g y):=
 ⟨fun e hh=>by rw[Lx,Lx,he.eq e hh],by rw[Lx,if_neg hg,he.at_]⟩
theorem Ix.cons(he:Ix a o h h2){g:Nat}(hg:g≠a)(y:AV):Ix a o ((g,y)::h) ((g,y)::h2):=
 ⟨fun e hh=>by rw[Ac,Ac,he.eq e hh],by rw[Ac,if_neg hg,he.at_]⟩
theorem Ix.app(he:Ix a o h h2){os:Ah}(ho:A4 os a=none):Ix a o (os++h) (os++h2):=
 ⟨fun e hh=>by rw[Be,Be,he.eq e hh],by rw[Be,ho,he.at_]⟩
theorem Mh(he:Ix a o h h2){g:Nat}{p:Br}{K K':Nat→List (List AV)→Prop}(hg:g≠a)(hk:arr h g p K)(hK:∀s xs,hget h g p=some (.own s xs)→K s xs→K' s xs):arr h2 g p K':=by
 obtain⟨s,xs,h1,h3⟩:=Bv hk;exact J0 (by rw[he.hget hg];exact h1) (hK s xs h1 h3)
theorem B8r(he:Ix a o h h2){g:Nat}{p:Br}{K K':Af→Ah→Prop}(hg:g≠a)(hk:W8 S h g p K)(hK:∀S' h' h2',Ix a o h' h2'→K S' h'→K' S' h2'):W8 S h2 g p K':=by
 cases p with
 |nil=>exact hK _ _ _ (he.remove hg) hk
 |cons q p=>exact hK _ _ _ (he.hput hg _ _) hk
theorem B5o(he:Ix a o h h2){t:Option Nat}{v:AV}{K K':AV→Af→Ah→Prop}(hv:a∉v.ids1)(hk:Em S h t v K)(hK:∀c S' h' h2',Ix a o h' h2'→K c S' h'→K' c S' h2'):Em S h2 t v K':=by
 cases v<;>simp only[Em]at hk⊢<;>first
  |exact hK _ _ _ _ he hk
  |(cases t with
    |none=>exact hk.elim
    |some s=>exact hK _ _ _ _ he hk)
  |skip
 rename_i g p off len;have hg:g≠a:=fun e=>hv (by simp[AV.ids1,e]);exact Mh he hg hk fun s xs _ hk=>B8r he hg hk fun S' h' h2' he' hk=>hK _ _ _ _ he' hk
theorem Kp:∀{ts:List (Option Nat)} {vs:List AV} {S:Af} {h h2:Ah} {K K':List AV→Af→Ah→Prop},Ix a o h h2→a∉G9 vs→C1 S h ts vs K→(∀cs S' h' h2',Ix a o h' h2'→K cs S' h'→K' cs S' h2')→C1 S h2 ts vs K'
 |[],[],S,h,h2,K,K',he,hv,hk,hK=>hK _ _ _ _ he hk
 |[],_::_,S,h,h2,K,K',he,hv,hk,hK=>hk.elim
 |_::_,[],S,h,h2,K,K',he,hv,hk,hK=>hk.elim
 |t::ts,v::vs,S,h,h2,K,K',he,hv,hk,hK=>by
  simp only[G9,List.mem_append,not_or]at hv;exact B5o he hv.1 hk fun c S' h' h2' he' hk=>Kp he' hv.2 hk fun cs S' h' h2' he'' hk=>hK _ _ _ _ he'' hk
theorem Zh{ts:List (Option Nat)}:∀{vs:List AV} {S:Af} {h h2:Ah} {K K':List (List AV)→Af→Ah→Prop},Ix a o h h2→a∉Fn vs→Jy S h ts vs K→(∀cs S' h' h2',Ix a o h' h2'→K cs S' h'→K' cs S' h2')→Jy S h2 ts vs K'
 |[],S,h,h2,K,K',he,hv,hk,hK=>hK _ _ _ _ he hk
 |v::vs,S,h,h2,K,K',he,hv,hk,hK=>by
  simp only[Fn,List.mem_append,not_or]at hv;exact Kp he (fun hh=>hv.1 (Jx _ hh)) hk fun c S' h' h2' he' hk=>Zh he' hv.2 hk fun cs S' h' h2' he'' hk=>hK _ _ _ _ he'' hk
theorem B7o(he:Ix a o h h2){keep:Bool}{sz:Nat}{v:AV}{K K':List (List AV)→Af→Ah→Prop}(hv:a∉v.ids)(hk:Kg S h keep sz v K)(hK:∀c S' h' h2',Ix a o h' h2'→K c S' h'→K' c S' h2'):Kg S h2 keep sz v K':=by
 cases v<;>simp only[Kg]at hk⊢<;>first
  |exact hk.elim
  |exact hK _ _ _ _ he hk
  |(obtain⟨e,hk⟩:=C8 hk;exact K3 e (hK _ _ _ _ he hk))
  |skip
 rename_i g p off len;have hg:g≠a:=fun e=>hv (by simp[AV.ids,AV.ids1,e]);refine Mh he hg hk fun s xs _ hk=>?_;obtain⟨e,hk⟩:=C8 hk;refine K3 e ?_;cases keep with
 |true=>exact⟨hk.1,hK _ _ _ _ he hk.2⟩
 |false=>exact B8r he hg hk fun S' h' h2' he' hk=>hK _ _ _ _ he' hk
theorem C11(he:Ix a o h h2)(hid:id≠a){ty:Ty}{d:Option Nat}{y z:AV}{K K':Af→Ah→Prop}(hy:a∉y.ids)(hz:a∉z.ids)(hk:Km ty S h id d y z K)(hK:∀S' h' h2',Ix a o h' h2'→K S' h'→K' S' h2'):Km ty S h2 id d y z K':=by
 unfold Km at hk⊢;cases hr:T2 y<;>rw[hr]at hk<;>simp only at hk⊢;exact B7o he hz hk fun ys S' h' h2' he' hk=>B7o he' hy hk fun xs S' h' h2' he'' hk=>⟨hk.1,hK _ _ _ (he''.cons hid _) hk.2⟩
theorem C3k(he:Ix a o h h2){ty:Ty}{y z:AV}{K K':Af→Ah→Prop}(hy:a∉y.ids)(hz:a∉z.ids)(hk:storeAt ty S h y z K)(hK:∀S' h' h2',Ix a o h' h2'→K S' h'→K' S' h2'):storeAt ty S h2 y z K':=by
 cases y<;>try exact hk.elim
 ·rename_i g p i f
  have hg:g≠a:=fun e=>hy (by simp[AV.ids,AV.ids1,e]);unfold storeAt at hk⊢;simp only at hk⊢;cases hs:ty.k.scalar<;>rw[hs]at hk<;>simp only at hk⊢
  ·exact Kp he (fun hh=>hz (Jx _ hh)) hk fun cs S' h' h2' he' hk=>Mh he' hg hk fun s xs _ hk=>by
    obtain⟨e,hk⟩:=Bj hk;obtain⟨r,e2,hk⟩:=hk;exact F8 e ⟨r,e2,hK _ _ _ (he'.hput hg _ _) hk⟩
  ·cases hx:z.scalar<;>rw[hx]at hk<;>simp only at hk⊢
   exact Mh he hg hk fun s xs _ hk=>by
    obtain⟨e,hk⟩:=Bj hk;obtain⟨r,e2,hk⟩:=hk;refine F8 e ⟨r,e2,?_⟩;cases hc:(cell r f).scalar<;>rw[hc]at hk<;>simp only at hk⊢;exact hK _ _ _ (he.hput hg _ _) hk
 ·rename_i g f
  have hg:g≠a:=fun e=>hy (by simp[AV.ids,AV.ids1,e]);unfold storeAt at hk⊢;simp only at hk⊢;cases hs:ty.k.scalar<;>rw[hs]at hk<;>simp only at hk⊢
  ·exact Kp he (fun hh=>hz (Jx _ hh)) hk fun cs S' h' h2' he' hk=>Mh he' hg hk fun s xs _ hk=>by
    match xs,hk with
    |[],hk=>exact hk.elim
    |[r],hk=>
     obtain⟨e,hk⟩:=Bj hk;exact F8 e (hK _ _ _ (he'.update hg _) hk)
    |_::_::_,hk=>exact hk.elim
  ·cases hx:z.scalar<;>rw[hx]at hk<;>simp only at hk⊢
   exact Mh he hg hk fun s xs _ hk=>by
    match xs,hk with
    |[],hk=>exact hk.elim
    |[r],hk=>
     obtain⟨e,hk⟩:=Bj hk;refine F8 e ?_;cases hc:(cell r f).scalar<;>rw[hc]at hk<;>simp only at hk⊢;exact hK _ _ _ (he.update hg _) hk
    |_::_::_,hk=>exact hk.elim
theorem P4{sh:Bool}:∀{ms:List Mz} {vs:List AV} {S:Af} {h h2:Ah} {K K':List AV→List (Nat×Br)→List Nat→List Nat→Af→Ah→Prop},Ix a o h h2→a∉Fn vs→Dm sh S h ms vs K→
 (∀as qs rs ws S' h' h2',Ix a o h' h2'→(∀q,q∈qs→q.1≠a)→K as qs rs ws S' h'→K' as qs rs ws S' h2')→Dm sh S h2 ms vs K'
 |[],[],S,h,h2,K,K',he,hv,hk,hK=>hK _ _ _ _ _ _ _ he (by simp) hk
 |[],v::vs,S,h,h2,K,K',he,hv,hk,hK=>hk.elim
 |m::ms,[],S,h,h2,K,K',he,hv,hk,hK=>by cases m<;>exact hk.elim
 |.rd ts::ms,v::vs,S,h,h2,K,K',he,hv,hk,hK=>by
  simp only[Fn,List.mem_append,not_or]at hv;exact P4 (ms:=ms) (vs:=vs) he hv.2 hk fun as qs rs ws S' h' h2' he' hq hk=>by
   rw[Vq (n:=fun g=>g≠a) (h:=h') (h2:=h2') he'.eq fun g hg e=>hv.1 (e▸hg)]at hk;exact hK _ _ _ _ _ _ _ he' hq hk
 |.co ts::ms,v::vs,S,h,h2,K,K',he,hv,hk,hK=>by
  simp only[Fn,List.mem_append,not_or]at hv;exact Kp he (fun hh=>hv.1 (Jx _ hh)) hk fun cs S1 h1 h12 he1 hk=>P4 (ms:=ms) (vs:=vs) he1 hv.2 hk fun as qs rs ws S' h' h2' he' hq hk=>hK _ _ _ _ _ _ _ he' hq hk
 |.mv::ms,v::vs,S,h,h2,K,K',he,hv,hk,hK=>by
  simp only[Fn,List.mem_append,not_or]at hv;cases v<;>try exact hk.elim
  ·rename_i g p off len
   have hg:g≠a:=fun e=>hv.1 (by simp[AV.ids,AV.ids1,e]);exact P4 (ms:=ms) (vs:=vs) he hv.2 hk fun as qs rs ws S' h' h2' he' hq hk=>Mh he' hg hk fun s xs _ hk=>⟨hk.1,hk.2.1,hK _ _ _ _ _ _ _ he' (by intro q hm;rcases List.mem_cons.1 hm with rfl|hm;exact hg;exact hq q hm) hk.2.2⟩
  ·rename_i s g n
   have hg:g≠a:=fun e=>hv.1 (by simp[AV.ids,AV.ids1,e]);exact P4 (ms:=ms) (vs:=vs) he hv.2 hk fun as qs rs ws S' h' h2' he' hq hk=>Mh he' hg hk fun s xs _ hk=>⟨hk.1,hk.2.1,hK _ _ _ _ _ _ _ he' (by intro q hm;rcases List.mem_cons.1 hm with rfl|hm;exact hg;exact hq q hm) hk.2.2⟩
 |.mp::ms,v::vs,S,h,h2,K,K',he,hv,hk,hK=>by
  simp only[Fn,List.mem_append,not_or]at hv;cases v<;>try exact hk.elim
  rename_i g f;have hg:g≠a:=fun e=>hv.1 (by simp[AV.ids,AV.ids1,e]);cases f with
  |succ f=>exact hk.elim
  |zero=>
   exact P4 (ms:=ms) (vs:=vs) he hv.2 hk fun as qs rs ws S' h' h2' he' hq hk=>Mh he' hg hk fun s xs _ hk=>by
    match xs,hk with
    |[],hk=>exact hk.elim
    |[r],hk=>exact hK _ _ _ _ _ _ _ he' (by intro q hm;rcases List.mem_cons.1 hm with rfl|hm;exact hg;exact hq q hm) hk
    |_::_::_,hk=>exact hk.elim
 |.ma::ms,v::vs,S,h,h2,K,K',he,hv,hk,hK=>by
  simp only[Fn,List.mem_append,not_or]at hv;rcases A4l hk with⟨g,p,off,len,rfl,hk2⟩|⟨s0,g,n0,rfl,hk2⟩
  ·have hg:g≠a:=fun e=>hv.1 (by simp[AV.ids,G9,AV.ids1,e])
   exact P4 (ms:=ms) (vs:=vs) he hv.2 hk2 fun as qs rs ws S' h' h2' he' hq hk=>Mh he' hg hk fun s xs _ hk=>⟨hk.1,hk.2.1,hK _ _ _ _ _ _ _ he' (by intro q hm;rcases List.mem_cons.1 hm with rfl|hm;exact hg;exact hq q hm) hk.2.2⟩
  ·have hg:g≠a:=fun e=>hv.1 (by simp[AV.ids,G9,AV.ids1,e])
   exact P4 (ms:=ms) (vs:=vs) he hv.2 hk2 fun as qs rs ws S' h' h2' he' hq hk=>Mh he' hg hk fun s xs _ hk=>⟨hk.1,hk.2.1,hK _ _ _ _ _ _ _ he' (by intro q hm;rcases List.mem_cons.1 hm with rfl|hm;exact hg;exact hq q hm) hk.2.2⟩
theorem C0l(he:Ix a o h h2):∀{qs:List (Nat×Br)} {ys:List AV} {K K':Af→Ah→Prop},(∀q,q∈qs→q.1≠a)→Vs S h qs ys K→(∀S' h' h2',Ix a o h' h2'→K S' h'→K' S' h2')→Vs S h2 qs ys K'
 |[],[],K,K',hq,hk,hK=>hK _ _ _ he hk
 |[],_::_,K,K',hq,hk,hK=>hk.elim
 |[(g,p)],[],K,K',hq,hk,hK=>hk.elim
 |[(g,p)],[y],K,K',hq,hk,hK=>hK _ _ _ (he.hput (hq (g,p) (by simp)) _ _) hk
 |[(g,p)],_::_::_,K,K',hq,hk,hK=>hk.elim
 |_::_::_,ys,K,K',hq,hk,hK=>by cases ys<;>exact hk.elim
theorem C36(he:Ix a o h h2)(hid:a<id∨id+16≤a){d:Option Nat}{f:Nat}{vs:List AV}{K K':Af→Ah→Prop}(hv:a∉Fn vs)(hk:Qm E S h id d gd f vs K)(hK:∀S' h' h2',Ix a o h' h2'→K S' h'→K' S' h2'):Qm E S h2 id d gd f vs K':=by
 unfold Qm at hk⊢;cases hE:E.F f with
 |none=>rw[hE]at hk;exact hk.elim
 |some c=>
  rw[hE]at hk;simp only at hk⊢;refine P4 he hv hk fun as qs rs ws S' h' h2' he' hq hk=>?_;obtain⟨e,hk⟩:=Bj hk;refine F8 e ?_;cases hm:Rr rs ws<;>rw[hm]at hk<;>simp only at hk⊢;obtain⟨x,e1,e2,hk⟩:=hk;refine⟨x,e1,e2,?_⟩;obtain⟨v,os,hk,hn,t⟩:=Tu hk;refine t _ ?_;have ho:A4 os a=none:=by
   cases hl:A4 os a with
   |none=>rfl
   |some r=>have:=hn a r hl;omega
  cases hsc:c.sc<;>rw[hsc]at hk<;>simp only at hk⊢
  ·exact C0l he' hq hk fun S' h' h2' he' hk=>hK _ _ _ (he'.app ho) hk
  ·cases hr:Jr c.ms<;>rw[hr]at hk<;>simp only at hk⊢
   match os,hk with
   |[],hk=>exact hK _ _ _ he' hk
   |_::_,hk=>exact hk.elim
theorem B82(he:Ix a o h h2){v:AV}{K K':List UInt8→Prop}(hv:a∉v.ids)(hk:N3 h v K)(hK:∀s,K s→K' s):N3 h2 v K':=by
 cases v<;>simp only[N3]at hk⊢<;>first
  |exact hk.elim
  |exact hK _ hk
  |(obtain⟨e,bs,e2,hk⟩:=C8 hk;exact K3 e ⟨bs,e2,hK _ hk⟩)
  |skip
 rename_i g p off len;have hg:g≠a:=fun e=>hv (by simp[AV.ids,AV.ids1,e]);refine Mh he hg hk fun s xs _ hk=>?_;obtain⟨e,bs,e2,hk⟩:=C8 hk;exact K3 e ⟨bs,e2,hK _ hk⟩
theorem C7e(he:Ix a o h h2)(hid:id≠a){ts ty:Ty}{v:AV}{dst:Option Nat}{K K':Af→Ah→Prop}(hv:a∉v.ids)(hk:cvt E id ts ty v dst S h K)(hK:∀S' h' h2',Ix a o h' h2'→K S' h'→K' S' h2'):cvt E id ts ty v dst S h2 K':=by
 have conv:(∀(h:Ah) (K:Af→Ah→Prop),cvt E id ts ty v dst S h K=convert ty v fun u=>K (Bc S dst none u) h)→cvt E id ts ty v dst S h2 K':=by
  intro e;rw[e]at hk⊢;obtain⟨u,hk,t2⟩:=Tm hk;exact t2 _ (hK _ _ _ he hk)
 cases hq:ty.k;case slice e=>
  unfold cvt at hk⊢;rw[hq]at hk⊢;cases v<;>simp only at hk⊢;obtain⟨hk,t2⟩:=Wz hk;exact t2 _ (hK _ _ _ (he.cons hid _) hk)
 case str=>
  by_cases hs:∃s,v=.str s
  ·obtain⟨s,rfl⟩:=hs
   unfold cvt at hk⊢;rw[hq]at hk⊢;exact hK _ _ _ he hk
  ·have e:∀(h:Ah) (K:Af→Ah→Prop),cvt E id ts ty v dst S h K=(match(generalizing:=false) ts.k with
         |.slice e=>B0q E e (N3 h v fun s=>K (Bc S dst none (.str s)) h)
         |_=>False):=by
    intro h K;unfold cvt;rw[hq];cases v<;>first|rfl|exact absurd ⟨_,rfl⟩ hs
   rw[e]at hk⊢;cases hq2:ts.k<;>rw[hq2]at hk<;>simp only at hk⊢;obtain⟨hk,t2⟩:=Wz hk;exact t2 _ (B82 he hv hk fun s hk=>hK _ _ _ he hk)
 all_goals exact conv fun h K=>by unfold cvt;rw[hq]
theorem Lh{ys:List Operand}:OAg ys S S:=fun _ _=>rfl
theorem C0m{op0:Oper}(hv:Cd E op0=false)(he:Ix a o h h2)(hid:a<id∨id+16≤a)(ha:a∉touched S op0){K K':Af→Ah→Prop}(hk:B0 E id op0 none S h K)(hK:∀S' h' h2',Ix a o h' h2'→K S' h'→K' S' h2'):
 B0 E id op0 none S h2 K':=by
 have hida:id≠a:=by omega
 obtain⟨dst,op,type,pos,after,guard⟩:=op0;cases op with
 |alloc t=>
  simp only[B0]at hk⊢;obtain⟨ty,ht,hk⟩:=B9 hk;exact Cr ht (hK _ _ _ (he.cons hida _) hk)
 |box t y=>
  simp only[B0]at hk⊢;obtain⟨ty,ht,hk⟩:=B9 hk;obtain⟨v,hk,i1,t1⟩:=C9 hk;have hn:a∉v.ids:=fun hh=>ha (Da (y:=y) (by simp[Op.operands]) (i1 a hh));exact Cr ht (t1 S _ Lh (Kp he (fun hh=>hn (Jx _ hh)) hk fun cs S' h' h2' he' hk=>hK _ _ _ (he'.cons hida _) hk))
 |store t y z=>
  simp only[B0]at hk⊢;obtain⟨ty,ht,hk⟩:=B9 hk;obtain⟨v,hk,i1,t1⟩:=C9 hk;obtain⟨u,hk,i2,t2⟩:=C9 hk;have hn:a∉v.ids:=fun hh=>ha (Da (y:=y) (by simp[Op.operands]) (i1 a hh));have hn2:a∉u.ids:=fun hh=>ha (Da (y:=z) (by simp[Op.operands]) (i2 a hh));exact Cr ht (t1 S _ Lh (t2 S _ Lh (C3k he hn hn2 hk fun S' h' h2' he' hk=>hK _ _ _ he' hk)))
 |convert s t y=>
  have hk0:L5 E s fun ts=>L5 E t fun ty=>val S none y fun v=>cvt E id ts ty v dst S h K:=hk;show L5 E s fun ts=>L5 E t fun ty=>val S none y fun v=>cvt E id ts ty v dst S h2 K';obtain⟨ts,hts,hk0⟩:=B9 hk0;obtain⟨ty,htt,hk0⟩:=B9 hk0;obtain⟨v,hk0,i1,t1⟩:=C9 hk0;have hn:a∉v.ids:=fun hh=>ha (Da (y:=y) (by simp[Op.operands]) (i1 a hh));exact Cr hts (Cr htt (t1 S _ Lh (C7e he hida hn hk0 hK)))
 |buildSlice t m parts=>
  simp only[B0]at hk⊢;obtain⟨ty,hk,t0⟩:=G6 hk;obtain⟨e1,hk⟩:=Bj hk;obtain⟨vs,hk,i1,t1⟩:=Hs hk;have hn:a∉Fn vs:=fun hh=>ha (K7 (ys:=parts.toList.map fun q=>q.2) (by simp[Op.operands]) (i1 a hh));refine t0 _ (F8 e1 (t1 S _ Lh (Zh he hn hk fun rows S' h' h2' he' hk=>?_)));cases hr:R8 0 (parts.toList.map fun q=>q.1)<;>rw[hr]at hk<;>simp only at hk⊢;obtain⟨e2,hk⟩:=C8 hk;exact K3 e2 (hK _ _ _ (he'.cons hida _) hk)
 |makeSlice t l c=>
  simp only[B0]at hk⊢;obtain⟨ty,hk,t0⟩:=G6 hk;obtain⟨v1,hk,i1,t1⟩:=C9 hk;obtain⟨v2,hk,i2,t2⟩:=C9 hk;cases v1<;>try exact hk.elim
  cases v2<;>try exact hk.elim
  obtain⟨q1,q2,q3,q4,hk⟩:=hk;exact t0 _ (t1 S _ Lh (t2 S _ Lh ⟨q1,q2,q3,q4,hK _ _ _ (he.cons hida _) hk⟩))
 |call c=>
  cases hc:c.callee with
  |invoke r m=>simp only[B0,hc]at hk
  |builtin b=>
   simp only[B0,hc]at hk⊢;simp only[Cd,hc]at hv;obtain⟨vs,hk,i1,t1⟩:=Hs hk;cases b<;>first
    |(cases hv;done)
    |(rcases vs with _|⟨y,_|⟨z,_|⟨q,r⟩⟩⟩<;>first
       |(exact hk.elim)
       |(exfalso;cases y<;>(try exact hk.elim)<;>cases z<;>exact hk.elim)
       |skip)
   obtain⟨e1,hk⟩:=Bj hk;obtain⟨ty,hk,t2⟩:=G6 hk;obtain⟨ta,hta,hk⟩:=B9 hk;have hk':(∀k,ta.k≠.int k)∧Km ty S h id dst y z K:=by
    cases hq:ta.k<;>rw[hq]at hk<;>first|exact hk.elim|exact⟨by simp,hk⟩
   obtain⟨hni,hk⟩:=hk';have hn:a∉Fn [y,z]:=fun hh=>ha (K7 (ys:=c.args.toList) (by intro z hz;simp[Op.operands,Call.operands];simp at hz;simp[hz]) (i1 a hh));simp only[Fn,List.append_nil,List.mem_append,not_or]at hn;refine t1 S _ Lh (F8 e1 (t2 _ (Cr hta ?_)));have:=C11 he hida hn.1 hn.2 hk hK;cases hq:ta.k<;>first|exact absurd hq (hni _)|exact this
  |value f=>
   simp only[B0,hc]at hk⊢;obtain⟨f',caps,hk1,i1,hfn,t1⟩:=A2w hk (by
    intro v hv;obtain⟨vs,hv,_⟩:=Hs hv;cases v<;>first|exact hv.elim|exact⟨_,_,rfl⟩)
   obtain⟨vs,hk2,i2,t2⟩:=Hs hk1;simp only at hk2;have hn:a∉Fn (vs++caps):=fun hh=>by
    rcases(W3 _ _ _).1 hh with hg|hg
    ·exact ha (K7 (ys:=c.args.toList) (by intro z hz;simp[Op.operands,Call.operands];simp at hz;simp[hz]) (i2 a hg))
    ·exact ha (Da (y:=f) (by simp[Op.operands,Call.operands,hc]) (i1 a hg))
   exact t1 S _ Lh (t2 S _ Lh (C36 he hid hn hk2 hK))
 |_=>
  exfalso;first
   |(simp only[B0]at hk;done)
   |(simp only[Cd]at hv;cases hv;done)
   |(simp only[B0]at hk;exact hk)
end
end Go.GH
