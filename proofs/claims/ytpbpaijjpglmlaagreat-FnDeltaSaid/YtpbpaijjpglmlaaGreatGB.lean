import Derived.Test.YtpbpaijjpglmlaaGreatGA
import Derived.Laws.Append
import Derived.Lib.ConvBytes
import Derived.Laws.BytesString
import Derived.Laws.BitsLemmas
set_option linter.unusedVariables false
set_option linter.unusedSimpArgs false
namespace Go.GH
open Go
def Stt(x:Ctx)(N:Nat)(S:Af)(h:Ah)(n:Nat→Prop)(a:Act)(w:World):Prop:=
 ∃ρ,Bp x w h n [] (fun _=>undef) ρ∧Aw x w h n ρ S a.tmps∧a.tmps.size=N∧a.defers=[]
section
variable{P:Program}{E:Env}{x:Ctx}{w:World}{h:Ah}{n n':Nat→Prop}{L:List AV}{U:Nat→Value}{ρ:Option Nat→Am}
theorem Bp.mono_n(H:Bp x w h n L U ρ)(hn:∀g,n g→n' g):Bp x w h n' L U ρ:=
 ⟨H.os,H.tape,H.output,H.size,H.frame,H.root,H.loose,H.live,H.nobase,H.inj,H.mine,fun g r hr=>hn _ (H.ids g r hr),H.keeps,H.base,fun g hg=>hn _ (H.kn g hg),H.fixed,H.rsub,H.rlt⟩
theorem Az.mono_n(H:Bp x w h n L U ρ){v:AV}{u:Value}(hs:Az x w h n ρ v u)(hn:∀g,n g→n' g):Az x w h n' ρ v u:=
 hs.weaken (P:=fun _ _=>True) (E4.all (fun _ _=>trivial) hs) hn (fun _ _ h=>h) H.ids fun g p _=>.inr ⟨fun s xs h=>⟨xs,h,rfl⟩,fun _ h=>h⟩
theorem Aw.mono_n(H:Bp x w h n L U ρ){S:Af}{ts:Array Value}(hs:Aw x w h n ρ S ts)(hn:∀g,n g→n' g):Aw x w h n' ρ S ts:=
 fun d s hd=>⟨fun ht=>((hs d s hd).1 ht).mono_n H hn,(hs d s hd).2⟩
theorem C6j(a:Act)(d:Option Nat)(u:Value):(a.put d u).tmps=C8s a.tmps d u:=by
 cases d<;>rfl
theorem C54(a:Act)(d:Option Nat)(u:Value):(a.put d u).tmps.size=a.tmps.size:=by
 cases d<;>simp[Act.put]
theorem C0r(a:Act)(d:Option Nat)(u:Value):(a.put d u).defers=a.defers:=by
 cases d<;>rfl
theorem Stt.put{N:Nat}{S:Af}{a:Act}(H:Bp x w h n [] (fun _=>undef) ρ)(hs:Aw x w h n ρ S a.tmps)(hN:a.tmps.size=N)(hdf:a.defers=[]){d:Option Nat}(hd:∀k,d=some k→k<N)
 {g:Option Bool}{v:AV}{u:Value}(hv:Cy g→Az x w h n ρ v u)(hg:g=some false→u=undef)(hn:∀g,n g→n' g):Stt x N (Bc S d g v) h n' (a.put d u) w:=
 ⟨ρ,H.mono_n hn,by
   rw[C6j];exact Aw.mono_n H (hs.set (fun k hk=>by rw[hN];exact hd k hk) hv hg) hn,by rw[C54];exact hN,by rw[C0r];exact hdf⟩
theorem B8f{o:Oper}{a:Act}{w':World}{next:Act→World→Prop}{Q:Exit→Act→World→Prop}{u:Value}(hrun:(execOp a.eval o).run P w=.ok (.value u) w')(hn:next (a.put o.dst u) w'):o.wp P a w next Q:=by
 unfold Oper.wp;rw[hrun];exact hn
theorem Pn{s:Sem Value}{u:Value}{w':World}(hs:s.run P w=.ok u w'):(do pure (Next.value (←s)):Sem Next).run P w=.ok (.value u) w':=by
 simp[hs]
theorem Un{g:Option Bool}(hg:Cy g):g≠some false:=by
 rintro rfl;simp[Cy]at hg
theorem C6x{t:TypeId}{ts:Array TypeId}{rt:TypeId}{a:AV}{ua:Value}{K:Nat→Prop}(hT:TOk P E)(ha:Az x w h n ρ a ua)(ht:ts[0]? =some t)
 (hk0:C22 E t h a K):
 ∃m,K m∧(Builtin.len_ ts rt #[ua]).run P w=.ok (.int .i64 m) w:=by
 obtain⟨ty',htt,hk⟩:=B9 hk0;clear hk0;have hkind:=(hT t ty' htt).kind;have h1:(#[ua]:Array Value)[0]? =some ua:=rfl;cases hkk:ty'.k<;>rw[hkk]at hk hkind<;>simp only at hk hkind;case str=>
  cases a with
  |str s=>
  obtain rfl:=Hm ha;refine⟨_,hk,?_⟩;unfold Builtin.len_;simp only[ht,h1];simp[run_underlying P w t _ hkind,Dn,goInt,X4]
  |_=>exact hk.elim
 case slice e=>
  have hk':lenOf h a K∧∀s,a≠.str s:=by
   cases a<;>first|exact hk.elim|exact⟨hk,by simp⟩
  obtain⟨m,hm,⟨ad,cap,rfl,_⟩|⟨s,e1,_⟩⟩:=A2v ha hk'.1
  ·refine⟨m,hm,?_⟩
   unfold Builtin.len_;simp only[ht,h1];simp[run_underlying P w t _ hkind,goInt]
  ·exact absurd e1 (hk'.2 s)
end
section
variable{P:Program}{E:Env}{x:Ctx}{w:World}{h:Ah}{n n':Nat→Prop}{L:List AV}{U:Nat→Value}{ρ:Option Nat→Am}
def A4c(E:Env)(o:Oper):Bool:=
 match o.op with
 |.call c=>match c.callee with
  |.builtin _=>Cd E o
  |_=>false
 |_=>Cd E o
theorem U8{v:AV}{u:Value}(hs:Az x w h n ρ v u)(hv:v≠.undef):v.cells.length=u.cells.size∧∀(i:Nat) c,v.cells[i]? =some c→∃d,u.cells[i]? =some d∧Az x w h n ρ c d:=by
 have one:∀{v:AV} {u:Value},Az x w h n ρ v u→v.cells=[v]→u.cells=#[u]→v.cells.length=u.cells.size∧∀(i:Nat) c,v.cells[i]? =some c→∃d,u.cells[i]? =some d∧Az x w h n ρ c d:=by
  intro v u hs h1 h2;rw[h1,h2];refine⟨rfl,fun i c hi=>?_⟩;cases i with
  |zero=>
   simp only[List.getElem?_cons_zero,Option.some.injEq]at hi;subst hi;exact⟨u,by simp,hs⟩
  |succ i=>simp at hi
 have hs0:=hs;cases hs with
 |cell hr=>cases hr<;>first|exact one hs0 rfl rfl|exact absurd rfl hv
 |void=>exact absurd rfl hv
 |agg hl hc=>
  rename_i cs us;refine⟨by simpa[AV.cells,Value.cells]using hl.symm,fun i c hi=>?_⟩;have hi':cs[i]? =some c:=hi;have hlt:i<us.size:=by
   rw[hl];rcases Nat.lt_or_ge i cs.length with h|h
   ·exact h
   ·rw[List.getElem?_eq_none h]at hi';cases hi'
  refine⟨us[i],by simp[Value.cells,hlt],?_⟩;have:=hc i c hi';simpa[Array.getD_eq_getD_getElem?,hlt]using this
 |_=>exact one hs0 rfl rfl
theorem C35{t:TypeId}{s:List UInt8}{k:IntKind}{m:Int}{b:UInt8}(hu:P.underlying t=some .string)(h0:0≤m)(hb:s[m.toNat]? =some b):
 (Instr.index t (Dn s) (.int k m)).run P w=.ok (.int .u8 b.toNat) w:=by
 have e:(ByteArray.mk ⟨s⟩)[m.toNat]? =some b:=by
  have hlt:m.toNat<s.length:=by
   rcases Nat.lt_or_ge m.toNat s.length with h|h
   ·exact h
   ·rw[List.getElem?_eq_none h]at hb;cases hb
  have hlt':m.toNat<(ByteArray.mk ⟨s⟩).size:=hlt;rw[getElem?_pos (ByteArray.mk ⟨s⟩) m.toNat hlt'];rw[List.getElem?_eq_getElem hlt]at hb;simp only[Option.some.injEq]at hb;rw[←hb];rfl
 simp only[Instr.index,Dn,asIntOf,Sem.run_bind,Sem.run_pure,Result.andThen_ok,run_underlying P w t _ hu,h0,if_true,e]
theorem A5r(hT:TOk P E){fs:List (Nat×Nat)}{places:Array (Nat×Nat)}(hp:∀(i:Nat) o u,fs[i]? =some (o,u)→∃j,P.info? u=some j∧places[i]? =some (o,j.size)):
 ∀{is:List Nat} {vs:List AV} {us:List Value} {zs:List AV} {cells:Array Value} {K:List AV→Prop},vs.length=us.length→(∀(i:Nat) v u,vs[i]? =some v→us[i]? =some u→Az x w h n ρ v u)→
 Az x w h n ρ (.agg zs) (.agg cells)→Mb E fs zs is vs K→∃cs cells',K cs∧Instr.fill (places[·]?) cells (is.zip us)=some cells'∧Az x w h n ρ (.agg cs) (.agg cells')
 |[],[],us,zs,cells,K,hl,hv,hz,hk=>by
  exact⟨zs,cells,hk,by simp[Instr.fill],hz⟩
 |[],_::_,us,zs,cells,K,hl,hv,hz,hk=>hk.elim
 |i::is,[],us,zs,cells,K,hl,hv,hz,hk=>hk.elim
 |i::is,v::vs,us,zs,cells,K,hl,hv,hz,hk=>by
  obtain⟨u,us,rfl⟩:∃a r,us=a::r:=by cases us with|nil=>simp at hl|cons a r=>exact⟨a,r,rfl⟩
  simp only[Mb]at hk;cases hf:fs[i]? with
  |none=>rw[hf]at hk;exact hk.elim
  |some ou=>
   obtain⟨o,t⟩:=ou;rw[hf]at hk;obtain⟨ty,htt,hk⟩:=B9 hk;have hvu:v≠.undef:=by rintro rfl;exact hk.elim
   have hk':eqN v.cells.length ty.size (leN (o+ty.size) zs.length (Mb E fs (setCells o v.cells zs) is vs K)):=by
    cases v<;>first|exact hk|exact absurd rfl hvu
   clear hk;obtain⟨h1,hk⟩:=C8 hk';obtain⟨h2,hk⟩:=Bj hk;obtain⟨j,hj1,hj2⟩:=hp i o t hf;obtain⟨i0,z0,hi0,hsz,_⟩:=(hT t ty htt).info;rw[hj1]at hi0;simp only[Option.some.injEq]at hi0;subst hi0;obtain⟨hc1,hc2⟩:=U8 (hv 0 v u rfl rfl) hvu;cases hz with
   |cell hr=>cases hr
   |agg hzl hzc=>
    have key:∀(L:List Value) (cs:Array Value),o+L.length≤cs.size→∃cs':Array Value,(L.zipIdx.foldl (fun cs (c,j)=>cs.setIfInBounds (o+j) c) cs)=cs'∧cs'.size=cs.size∧
     ∀k,cs'[k]? =if o≤k∧k<o+L.length then L[k - o]? else cs[k]? :=by
     intro L;have gen:∀(L:List Value) (m:Nat) (cs:Array Value),o+m+L.length≤cs.size→∃cs':Array Value,((L.zipIdx m).foldl (fun cs (c,j)=>cs.setIfInBounds (o+j) c) cs)=cs'∧cs'.size=cs.size∧
      ∀k,cs'[k]? =if o+m≤k∧k<o+m+L.length then L[k - (o+m)]? else cs[k]? :=by
      intro L;induction L with
      |nil=>intro m cs hm;exact⟨cs,rfl,rfl,fun k=>by rw[if_neg (by simp)]⟩
      |cons a L ih=>
       intro m cs hm;simp only[List.length_cons]at hm;obtain⟨cs',e1,e2,e3⟩:=ih (m+1) (cs.setIfInBounds (o+m) a) (by simp;omega);refine⟨cs',by simpa using e1,by simpa using e2,fun k=>?_⟩;rw[e3 k];by_cases hk1:o+(m+1)≤k∧k<o+(m+1)+L.length
       ·rw[if_pos hk1,if_pos (by simp;omega)]
        obtain⟨q,hq⟩:∃q,k - (o+m)=q+1:=⟨k - (o+m) - 1,by omega⟩
        rw[hq,List.getElem?_cons_succ];congr 1;omega
       ·rw[if_neg hk1]
        by_cases hk2:k=o+m
        ·subst hk2
         rw[if_pos (by simp)];have:o+m<cs.size:=by omega
         simp[this]
        ·rw[if_neg (by simp;omega),Array.getElem?_setIfInBounds_ne (Ne.symm hk2)]
     intro cs hcs;obtain⟨cs',e1,e2,e3⟩:=gen L 0 cs (by simpa using hcs);exact⟨cs',e1,e2,by simpa using e3⟩
    obtain⟨cells2,e1,e2,e3⟩:=key u.cells.toList cells (by simp;omega);have hz2:Az x w h n ρ (.agg (setCells o v.cells zs)) (.agg cells2):=by
     refine .agg (by rw[e2,hzl,Pg]) fun k c hk2=>?_;rw[Nc _ _ _ _ (by omega)]at hk2;have e3':=e3 k;by_cases hin:o≤k∧k<o+v.cells.length
     ·rw[if_pos hin]at hk2
      obtain⟨d,hd1,hd2⟩:=hc2 _ _ hk2;rw[if_pos (by simp;omega)]at e3';have:cells2.getD k undef=d:=by
       simp only[Array.getElem?_toList]at e3';simp[Array.getD_eq_getD_getElem?,e3',hd1]
      rw[this];exact hd2
     ·rw[if_neg hin]at hk2
      rw[if_neg (by simp;omega)]at e3';have:cells2.getD k undef=cells.getD k undef:=by simp[Array.getD_eq_getD_getElem?,e3']
      rw[this];exact hzc k c hk2
    obtain⟨cs,cells',hk3,hf3,hs3⟩:=A5r hT hp (us:=us) (by simpa using hl) (fun i v' u' hv' hu'=>hv (i+1) v' u' (by simpa using hv') (by simpa using hu')) hz2 hk;refine⟨cs,cells',hk3,?_,hs3⟩;simp only[List.zip_cons_cons,Instr.fill,hj2];rw[if_neg (by simp;omega)];rw[←hf3,←e1,←Array.foldl_toList,Array.toList_zipIdx]
end
section
variable{P:Program}{E:Env}{x:Ctx}{w:World}{h:Ah}{n n':Nat→Prop}{L:List AV}{U:Nat→Value}{ρ:Option Nat→Am}
theorem B6w{S:Af}{g:Option Bool}{a:Act}{y:Option Operand}{k:Option AV→Prop}(hs:Aw x w h n ρ S a.tmps)(hg:Cy g)(hv:C03 S g y k):
 ∃v,k v∧((v=none∧y.map a.eval=none)∨∃z u,v=some z∧y.map a.eval=some u∧Az x w h n ρ z u):=by
 rcases C1e hs hg hv with⟨rfl,hk⟩|⟨z,v,rfl,hk,hr⟩
 ·exact⟨none,hk,.inl ⟨rfl,rfl⟩⟩
 ·exact⟨some v,hk,.inr ⟨v,_,rfl,rfl,hr⟩⟩
theorem V7:∀{fields:List Field} {w:World},(∀(i:Nat) f,fields[i]? =some f→∃j,P.info? f.type=some j)→
 ∃ps:List (Nat×Nat),(fields.mapM fun f=>(do pure (f.offset,←sizeOf f.type):Sem (Nat×Nat))).run P w=.ok ps w∧∀(i:Nat) f,fields[i]? =some f→∃j,P.info? f.type=some j∧ps[i]? =some (f.offset,j.size)
 |[],w,h=>⟨[],rfl,by simp⟩
 |f::fs,w,h=>by
  obtain⟨j,hj⟩:=h 0 f rfl;obtain⟨ps,h1,h2⟩:=V7 (fields:=fs) (w:=w) fun i f hi=>h (i+1) f (by simpa using hi);refine⟨(f.offset,j.size)::ps,?_,fun i f' hi=>?_⟩
  ·simp only[List.mapM_cons,Sem.run_bind,Qv P w f.type j hj,Result.andThen_ok,Sem.run_pure,h1]
  ·cases i with
   |zero=>
    simp only[List.getElem?_cons_zero,Option.some.injEq]at hi;subst hi;exact⟨j,hj,rfl⟩
   |succ i=>simpa using h2 i f' (by simpa using hi)
theorem A2d{parts:List (Nat×Operand)}{a:Act}:(parts.map fun q=>q.1).zip ((parts.map fun q=>q.2).map a.eval)=parts.map fun(i,x)=>(i,a.eval x):=by
 induction parts with
 |nil=>rfl
 |cons p r ih=>rw[List.map_cons,List.map_cons,List.map_cons,List.zip_cons_cons,ih,List.map_cons]
theorem A06:∀(zs:List AV),(Uh zs).length=zs.length
 |[]=>rfl
 |c::r=>by cases c<;>simp[Uh,A06 r]
theorem Wh:∀(zs:List AV) (i:Nat),(Uh zs)[i]? =(zs[i]?).map fun c=>match c with|.own _ _=>.nils|c=>c
 |[],i=>by simp[Uh]
 |c::r,i=>by
  cases i with
  |zero=>cases c<;>simp[Uh]
  |succ i=>cases c<;>simp[Uh,Wh r i]
theorem C4a{t:Nat}{ty:Ty}(ht:Wm P t ty)(hag:ty.k.agg=true→True):∃i z,P.info? t=some i∧i.zero=some z∧Az x w h n ρ (.agg (Uh ty.zero)) (.agg z.cells):=by
 obtain⟨i,z,h1,h2,h3,h4,h5,h6,h7⟩:=ht.info;refine⟨i,z,h1,h4,.agg (by rw[A06,h5,h6]) fun j c hj=>?_⟩;rw[Wh]at hj;cases hz:ty.zero[j]? with
 |none=>rw[hz]at hj;cases hj
 |some c0=>
  rw[hz]at hj;obtain⟨u,e1,_,e3,e4⟩:=h7 j c0 hz;have e5:z.cells.getD j undef=u:=by simp[Array.getD_eq_getD_getElem?,e1]
  rw[e5];simp only[Option.map_some,Option.some.injEq]at hj;subst hj;cases c0 with
  |own s xs=>
   rw[e4 rfl];exact .nils
  |_=>exact .cell (e3 x w)
theorem B7r(hT:TOk P E){S:Af}{g:Option Bool}{a:Act}(hs:Aw x w h n ρ S a.tmps)(hg:Cy g){t:Nat}{parts:Array (Nat×Operand)}{K:AV→Prop}
 (hk:L5 E t fun ty=>A16 S g (parts.toList.map fun q=>q.2) fun vs=>match ty.k with
   |.struct fs=>Mb E fs (Uh ty.zero) (parts.toList.map fun q=>q.1) vs fun cs=>K (.agg cs)
   |_=>False):
 ∃v u,K v∧(Instr.build t (parts.map fun(i,x)=>(i,a.eval x))).run P w=.ok u w∧Az x w h n ρ v u:=by
 obtain⟨ty,htt,hk⟩:=B9 hk;obtain⟨vs,hk,hl,hv⟩:=Le hs hg hk;have hty:=hT t ty htt;have hkind:=hty.kind;cases hkk:ty.k<;>rw[hkk]at hk hkind<;>simp only at hk hkind;case struct fs=>
  obtain⟨_,_,fields,h2,h3,h4⟩:=hkind;obtain⟨i,z,hi,hz,hsz⟩:=C4a (x:=x) (w:=w) (h:=h) (n:=n) (ρ:=ρ) hty (fun _=>trivial);have hfl:∀(i:Nat) f,fields.toList[i]? =some f→∃o u,fs[i]? =some (o,u)∧f.offset=o∧f.type=u∧∃j,P.info? u=some j∧j.size≠0:=by
   intro i f hi;have hlt:i<fs.length:=by
    rw[←h3];rcases Nat.lt_or_ge i fields.size with h|h
    ·exact h
    ·simp[Array.getElem?_eq_none h]at hi
   obtain⟨f',e1,e2,e3,e4,e5⟩:=h4 i (fs[i]).1 (fs[i]).2 (by simp[hlt]);have:f'=f:=by simpa[e1]using hi
   subst this;exact⟨(fs[i]).1,(fs[i]).2,by simp[hlt],e2,e3,e5⟩
  obtain⟨ps,hps,hpi⟩:=V7 (P:=P) (fields:=fields.toList) (w:=w) fun i f hi=>by
   obtain⟨o,u,_,_,e,j,hj,_⟩:=hfl i f hi;exact⟨j,by rw[e];exact hj⟩
  obtain⟨cs,cells',hk,hf,hs'⟩:=A5r hT (places:=ps.toArray) (fun i o u hi=>by
   obtain⟨f',e1,e2,e3,e4,e5⟩:=h4 i o u hi;obtain⟨j,hj,hp⟩:=hpi i f' (by simpa using e1);rw[e3]at hj;rw[e2]at hp;exact⟨j,hj,by simpa using hp⟩) (us:=(parts.toList.map fun q=>q.2).map a.eval) (by simpa using hl) (fun i v u hv' hu'=>by
    rw[List.getElem?_map]at hu';cases hy:(parts.toList.map fun q=>q.2)[i]? with
    |none=>rw[hy]at hu';cases hu'
    |some y=>
     rw[hy]at hu';simp only[Option.map_some,Option.some.injEq]at hu';subst hu';exact hv i v y hv' hy) hsz hk
  refine⟨_,_,hk,?_,hs'⟩;have hparts:(parts.map fun(i,x)=>(i,a.eval x)).toList=(parts.toList.map fun q=>q.1).zip ((parts.toList.map fun q=>q.2).map a.eval):=by
   rw[A2d,Array.toList_map]
  simp only[Instr.build,Sem.run_bind,Ip P w t i z hi hz,Result.andThen_ok,run_underlying P w t _ h2];have hm:(fields.mapM fun f=>(do pure (f.offset,←sizeOf f.type):Sem (Nat×Nat))).run P w=.ok ps.toArray w:=by
   rw[Array.mapM_eq_mapM_toList];rw[show(List.toArray<$>List.mapM (fun f=>(do pure (f.offset,←sizeOf f.type):Sem (Nat×Nat))) fields.toList:Sem (Array (Nat×Nat)))=(do pure (List.toArray (←List.mapM (fun f=>(do pure (f.offset,←sizeOf f.type):Sem (Nat×Nat))) fields.toList)))from rfl];simp only[Sem.run_bind,hps,Result.andThen_ok,Sem.run_pure]
  rw[hm];simp only[Result.andThen_ok,hparts];rw[show(fun x=>(ps.toArray[x]? :Option (Nat×Nat)))=(ps.toArray[·]?)from rfl]at hf;rw[hf];rfl
end
section
variable{P:Program}{E:Env}{x:Ctx}{w:World}{h:Ah}{n n':Nat→Prop}{L:List AV}{U:Nat→Value}{ρ:Option Nat→Am}
theorem C6s{S:Af}{g:Option Bool}{z:Operand}{K:AV→Prop}(h:val S g z K):∃v,K v:=by
 revert h;cases z with
 |const v=>simp only[val];intro h;exact⟨_,h⟩
 |func f=>simp only[val];intro h;exact⟨_,h⟩
 |global q=>simp only[val];intro h;exact h.elim
 |tmp d=>
  simp only[val];cases A4 S d with
  |none=>intro h;exact h.elim
  |some s=>
   obtain⟨c,v⟩:=s;cases c with
   |none=>simp only;intro h;exact⟨_,h⟩
   |some b=>simp only;intro h;exact⟨_,h.2⟩
theorem B9t(hT:TOk P E)(H:Bp x w h n L U ρ){S:Af}{a:Act}(hs:Aw x w h n ρ S a.tmps){g:Option Bool}(hg:Cy g){id:Nat}{o:Oper}(hp:A4c E o=true){K:Af→Ah→Prop}
 (hk:B0 E id o g S h K):∃v u,K (Bc S o.dst g v) h∧(execOp a.eval o).run P w=.ok (.value u) w∧Az x w h n ρ v u:=by
 obtain⟨dst,op,type,pos,after,guard⟩:=o;cases op<;>simp only[A4c,Cd]at hp<;>(try(cases hp;done))<;>simp only[B0]at hk;case move y=>
  obtain⟨v,h1,h2⟩:=Cc hs hg hk;exact⟨v,_,h1,rfl,h2⟩
 case assign y=>
  obtain⟨v,h1,h2⟩:=Cc hs hg hk;exact⟨v,_,h1,rfl,h2⟩
 case pick c y z=>
  obtain⟨cv,h1,h2⟩:=Cc hs hg hk;cases cv<;>try exact h1.elim
  rename_i b;obtain e:=K1 h2;have hand:∀{b:Bool},b=true→Cy (A0g g b):=by
   intro b hb;subst hb;cases g with
   |none=>rfl
   |some q=>have:q=true:=hg;subst this;rfl
  have split:(∃zz,y=.const (.bool true)∧z=zz∧val S (A0g g (!b)) zz fun bv=>B9b g b bv fun y=>K (Bc S dst g (.bool y)) h)∨(∃zz,y=zz∧z=.const (.bool false)∧val S (A0g g b) zz fun av=>B7u g b av fun y=>K (Bc S dst g (.bool y)) h):=by
   revert h1;clear hk;simp only;intro h1;split at h1
   ·exact .inl ⟨_,rfl,rfl,h1⟩
   ·exact .inr ⟨_,rfl,rfl,h1⟩
   ·exact h1.elim
  rcases split with⟨zz,rfl,rfl,h3⟩|⟨zz,rfl,rfl,h3⟩
  ·cases b with
   |true=>
    obtain⟨v,h4⟩:=C6s h3;have h3':K (Bc S dst g (.bool true)) h:=by
     cases v<;>try exact h4.elim
     ·exact h4
     ·exact h4.2
    refine⟨_,_,h3',?_,.cell .bool⟩;simp[execOp,e,asBool,show∀b,a.eval (.const (.bool b))=.bool b from fun _=>rfl]
   |false=>
    obtain⟨v,h4,h5⟩:=Cc hs (hand rfl) h3;cases v<;>try exact h4.elim
    ·obtain e2:=K1 h5
     refine⟨_,_,h4,?_,.cell .bool⟩;simp[execOp,e,asBool,e2]
    ·exact(h4.1 (hand rfl)).elim
  ·cases b with
   |false=>
    obtain⟨v,h4⟩:=C6s h3;have h3':K (Bc S dst g (.bool false)) h:=by
     cases v<;>try exact h4.elim
     ·exact h4
     ·exact h4.2
    refine⟨_,_,h3',?_,.cell .bool⟩;simp[execOp,e,asBool,show∀b,a.eval (.const (.bool b))=.bool b from fun _=>rfl]
   |true=>
    obtain⟨v,h4,h5⟩:=Cc hs (hand rfl) h3;cases v<;>try exact h4.elim
    ·obtain e2:=K1 h5
     refine⟨_,_,h4,?_,.cell .bool⟩;simp[execOp,e,asBool,e2]
    ·exact(h4.1 (hand rfl)).elim
 case build t parts=>
  have hk':L5 E t fun ty=>A16 S g (parts.toList.map fun q=>q.2) fun vs=>match ty.k with
   |.struct fs=>Mb E fs (Uh ty.zero) (parts.toList.map fun q=>q.1) vs fun cs=>K (Bc S dst g (.agg cs)) h
   |_=>False:=hk
  obtain⟨v,u,h1,h2,h3⟩:=B7r (K:=fun v=>K (Bc S dst g v) h) hT hs hg hk';exact⟨v,u,h1,Pn h2,h3⟩
 case load t y=>
  obtain⟨ty,htt,hk⟩:=B9 hk;obtain⟨v,h1,h2⟩:=Cc hs hg hk;obtain⟨v',u',h3,h4,h5⟩:=Zm (K:=fun v=>K (Bc S dst g v) h) H hg (hT t ty htt) h2 h1;exact⟨v',u',h3,Pn h4,h5⟩
 case nilCheck y=>
  obtain⟨v,h1,h2⟩:=Cc hs hg hk;have fin:∀{v:AV} {q:Addr},K (Bc S dst g v) h→Az x w h n ρ v (a.eval y)→a.eval y=.pointer (some q)→
   ∃v u,K (Bc S dst g v) h∧(execOp a.eval ⟨dst,.nilCheck y,type,pos,after,guard⟩).run P w=.ok (.value u) w∧Az x w h n ρ v u:=by
   intro v q hK hr e;refine⟨v,_,hK,?_,hr⟩;simp only[execOp];rw[e];rfl
  cases v with
  |bx g' f=>
   obtain⟨s,xs,hl,h1⟩:=Kt h1;have h2':=h2;revert h2;generalize e:a.eval y=uu;intro h2;cases h2 with
   |cell hr=>cases hr
   |goneb h0=>exact absurd h0 (L3 hl)
   |bx hgl hρ=>exact fin h1 h2' e
  |ptr g' p i f=>
   obtain⟨s,xs,hl,h1⟩:=Kt h1;have h2':=h2;revert h2;generalize e:a.eval y=uu;intro h2;cases h2 with
   |cell hr=>cases hr
   |gonep h0=>exact absurd h0 (L3 hl)
   |ptr hgl hρ=>exact fin h1 h2' e
  |pin cs=>
   have h2':=h2;revert h2;generalize e:a.eval y=uu;intro h2;cases h2 with
   |cell hr=>cases hr
   |pin u hc=>exact fin h1 h2' e
  |_=>exact h1.elim
 case binOp op t y z cmp=>
  obtain⟨v1,h1,h2⟩:=Cc hs hg hk;obtain⟨v2,h3,h4⟩:=Cc hs hg h1;obtain⟨v,u,h5,h6,h7⟩:=B8a (xo:=y) hT h2 h4 h3;exact⟨v,u,h5,Pn h6,h7⟩
 case unOp op t y=>
  obtain⟨v1,h1,h2⟩:=Cc hs hg hk;obtain⟨v,u,h5,h6,h7⟩:=C0g (P:=P) h2 h1;exact⟨v,u,h5,Pn h6,h7⟩
 case convert s t y=>
  obtain⟨ts,hts,hk⟩:=B9 hk;obtain⟨ty,htt,hk⟩:=B9 hk;obtain⟨v1,h1,h2⟩:=Cc hs hg hk;have hty:=hT t ty htt;have hkind:=hty.kind;have hskind:=(hT s ts hts).kind;rw[htt]at hp;simp only at hp;cases hkk:ty.k<;>rw[hkk]at hp hkind<;>simp only at hp hkind<;>try(cases hp;done)
  rename_i k;have h1':convert ty v1 fun u=>K (Bc S dst g u) h:=by
   simp only[hkk]at h1;exact h1
  unfold convert at h1';rw[hkk]at h1';cases v1<;>try exact h1'.elim
  rename_i k1 m;obtain e:=Gs h2;refine⟨_,.int k (k.wrap m),Hx h1',Pn ?_,.cell .int⟩;have hsu:∃d,P.underlying s=some d:=by
   cases hq:ts.k<;>rw[hq]at hskind<;>simp only at hskind;case struct fs=>exact⟨_,hskind.2.2.choose_spec.1⟩
   case iface=>exact⟨_,hskind.choose_spec⟩
   all_goals exact⟨_,hskind⟩
  obtain⟨d,hd⟩:=hsu;rw[e];simp only[Go.convert,Sem.run_bind,run_underlying P w s d hd,run_underlying P w t _ hkind,Result.andThen_ok,Conv.intToInt,Sem.run_pure]
 case fieldAddr t y f=>
  obtain⟨v1,h1,h2⟩:=Cc hs hg hk;obtain⟨v,u,h3,h4,h5⟩:=B1l hT h2 h1;exact⟨v,u,h3,Pn h4,h5⟩
 case field t y f=>
  obtain⟨v1,h1,h2⟩:=Cc hs hg hk;obtain⟨v,u,h3,h4,h5⟩:=B29 hT h2 h1;exact⟨v,u,h3,Pn h4,h5⟩
 case indexAddr t y i=>
  obtain⟨v1,h1,h2⟩:=Cc hs hg hk;obtain⟨v2,h3,h4⟩:=Cc hs hg h1;obtain⟨v,u,h5,h6,h7⟩:=B0u hT H hg h2 h4 h3;exact⟨v,u,h5,Pn h6,h7⟩
 case index t y i=>
  obtain⟨tty,htt,hk⟩:=B9 hk;obtain⟨v1,h1,h2⟩:=Cc hs hg hk;obtain⟨v2,h3,h4⟩:=Cc hs hg h1;have hkind:=(hT t tty htt).kind;cases hkk:tty.k<;>simp only[hkk]at h3 hkind<;>try exact h3.elim
  cases v1<;>try exact h3.elim
  cases v2<;>try exact h3.elim
  rename_i s k m;obtain⟨b,hb,h3⟩:=h3;obtain⟨h0,hb⟩:=hb hg;have e1:=Hm h2;have e2:=Gs h4;refine⟨_,_,h3,Pn ?_,.cell .int⟩;rw[e1,e2];exact C35 hkind h0 hb
 case slice t y lo hi mx=>
  obtain⟨v1,h1,h2⟩:=Cc hs hg hk;obtain⟨v2,h3,h4⟩:=B6w hs hg h1;obtain⟨v3,h5,h6⟩:=B6w hs hg h3;obtain⟨v4,h7,h8⟩:=B6w hs hg h5;obtain⟨v,u,h9,h10,h11⟩:=B1v hT hg h2 h4 h6 h8 h7;exact⟨v,u,h9,Pn h10,h11⟩
 case extract y i=>
  obtain⟨v1,h1,h2⟩:=Cc hs hg hk;cases v1<;>try exact h1.elim
  rename_i vs;simp only at h1;cases hi:vs[i]? with
  |none=>rw[hi]at h1;exact h1.elim
  |some v=>
   rw[hi]at h1;revert h2;generalize e:a.eval y=uu;intro h2;cases h2 with
   |cell hr=>cases hr
   |tup hl hc=>
    rename_i us;have hlt:i<us.size:=by
     rw[hl];rcases Nat.lt_or_ge i vs.length with h|h
     ·exact h
     ·rw[List.getElem?_eq_none h]at hi;cases hi
    have:=hc i v hi;refine⟨v,us[i],h1,Pn ?_,by simpa[Array.getD_eq_getD_getElem?,hlt]using this⟩;rw[e];simp[Instr.extract,hlt]
 case makeFunc f first caps=>
  cases f<;>try exact hk.elim
  rename_i f;obtain⟨hf0,hk⟩:=C8 hk;obtain⟨vs,h1,h2,h3⟩:=Le hs hg hk;refine⟨_,.func (.func f) #[] (caps.map a.eval),h1,Pn ?_,.fn (by simp[h2]) fun i c hi=>?_⟩
  ·have:first=#[]:=by
    have h0:first.size=0:=hf0;exact Array.eq_empty_of_size_eq_zero h0
   subst this;simp[Instr.makeFunc]
  ·cases hy:caps.toList[i]? with
   |none=>
    have:vs.length≤i:=by
     rw[h2];exact List.getElem?_eq_none_iff.1 hy
    rw[List.getElem?_eq_none this]at hi;cases hi
   |some y=>
    have hr:=h3 i c y hi hy;have hy':caps[i]? =some y:=by simpa using hy
    simpa[Array.getD_eq_getD_getElem?,hy']using hr
 case call c=>
  cases hc:c.callee<;>rw[hc]at hp<;>simp only at hp<;>try(cases hp;done)
  rename_i b;obtain⟨cst,hres⟩:∃cst,(resolve a.eval c type).run P w=.ok {target:=.builtin b c.argTypes type cst,args:=c.args.map a.eval} w:=
   ⟨_,by simp only[resolve,hc,Sem.run_pure];rfl⟩
  simp only[hc]at hk;obtain⟨vs,h1,h2,h3⟩:=Le hs hg hk;have args1:∀{y:AV},vs=[y]→∃u,c.args.map a.eval=#[u]∧Az x w h n ρ y u:=by
   rintro y rfl;obtain⟨args,hargs⟩:∃l,c.args=⟨l⟩:=⟨c.args.toList,rfl⟩
   rw[hargs]at h2 h3⊢;match args,h2,h3 with
   |[z],h2,h3=>exact⟨a.eval z,by simp,h3 0 y z rfl rfl⟩
  have args2:∀{y z:AV},vs=[y,z]→∃u v,c.args.map a.eval=#[u,v]∧Az x w h n ρ y u∧Az x w h n ρ z v:=by
   rintro y z rfl;obtain⟨args,hargs⟩:∃l,c.args=⟨l⟩:=⟨c.args.toList,rfl⟩
   rw[hargs]at h2 h3⊢;match args,h2,h3 with
   |[p,q],h2,h3=>exact⟨a.eval p,a.eval q,by simp,h3 0 y p rfl rfl,h3 1 z q rfl rfl⟩
  cases b<;>simp only[Cd,hc]at hp<;>try(cases hp;done)
  case len=>
   rcases vs with _|⟨y,_|⟨z,_|⟨q,r⟩⟩⟩<;>try exact h1.elim
   ·obtain⟨u,e,hr⟩:=args1 rfl
    obtain⟨ht0,h1⟩:=Bj h1;obtain⟨m,h4,h5⟩:=C6x (P:=P) (t:=c.argTypes.getD 0 0) (ts:=c.argTypes) (rt:=type) hT hr (by
     have hlt:0<c.argTypes.size:=ht0;simp[Array.getD_eq_getD_getElem?,hlt]) h1
    refine⟨_,_,h4,?_,.cell .int⟩;simp only[execOp,Sem.run_bind,hres,Result.andThen_ok,invoke,builtin,e,h5,Sem.run_pure]
   ·have h1':A1u .len y z fun v=>K (Bc S dst g v) h:=h1
    cases y<;>(try exact h1'.elim)<;>cases z<;>exact h1'.elim
  case max=>
   rcases vs with _|⟨y,_|⟨z,_|⟨q,r⟩⟩⟩<;>try exact h1.elim
   ·obtain⟨u,v,e,hr1,hr2⟩:=args2 rfl
    have h1':A1u .max y z fun v=>K (Bc S dst g v) h:=h1;cases y<;>try exact h1'.elim
    cases z<;>try exact h1'.elim
    rename_i k m k' m';have e1:=Gs hr1;have e2:=Gs hr2;subst e1;subst e2;refine⟨_,_,Hx h1',?_,.cell .int⟩;simp only[execOp,Sem.run_bind,hres,Result.andThen_ok,invoke,builtin,e,Builtin.max_,List.foldlM,Builtin.max2,Sem.run_pure];by_cases hle:m≤m'
    ·by_cases hlt:m'>m
     ·simp[hle,hlt]
     ·have:m=m':=by omega
      subst this;simp
    ·have:¬m'>m:=by omega
     simp[hle,this]
  case min=>
   rcases vs with _|⟨y,_|⟨z,_|⟨q,r⟩⟩⟩<;>try exact h1.elim
   ·obtain⟨u,v,e,hr1,hr2⟩:=args2 rfl
    have h1':A1u .min y z fun v=>K (Bc S dst g v) h:=h1;cases y<;>try exact h1'.elim
    cases z<;>try exact h1'.elim
    rename_i k m k' m';have e1:=Gs hr1;have e2:=Gs hr2;subst e1;subst e2;refine⟨_,_,Hx h1',?_,.cell .int⟩;simp only[execOp,Sem.run_bind,hres,Result.andThen_ok,invoke,builtin,e,Builtin.min_,List.foldlM,Builtin.min2,Sem.run_pure];by_cases hle:m≤m'
    ·have:¬m'<m:=by omega
     simp[hle,this]
    ·have:m'<m:=by omega
     simp[hle,this]
end
def Ln(n:Nat→Prop)(id:Nat):Nat→Prop:=fun g=>n g∨(id≤g∧g<id+16)
def Tb(n:Nat→Prop)(id:Nat):Prop:=∀g,id≤g→g<id+16→¬n g
theorem A5g{n:Nat→Prop}{id:Nat}:∀g,ext n id g→Ln n id g:=by
 rintro g (h|rfl)
 ·exact .inl h
 ·exact .inr ⟨Nat.le_refl _,by omega⟩
theorem A7g{n:Nat→Prop}{id:Nat}:∀g,n g→Ln n id g:=fun g h=>.inl h
section
variable{P:Program}{E:Env}{x:Ctx}{w:World}{h:Ah}{n n':Nat→Prop}{L:List AV}{U:Nat→Value}{ρ:Option Nat→Am}
theorem Bp.pushAll:∀{cs:List AV} {L:List AV} {U:Nat→Value} {V:Nat→Value},Bp x w h n L U ρ→(∀j c,cs[j]? =some c→Rep x w Ax c (V j))→
 ∃U',Bp x w h n (L++cs) U' ρ∧(∀j,j<cs.length→U' (L.length+j)=V j)∧∀j,j<L.length→U' j=U j
 |[],L,U,V,H,hc=>⟨U,by simpa using H,by simp,fun _ _=>rfl⟩
 |c::cs,L,U,V,H,hc=>by
  obtain⟨U',H',h1,h2⟩:=Bp.pushAll (V:=fun j=>V (j+1)) (H.push (hc 0 c rfl)) (fun j c hj=>hc (j+1) c (by simpa using hj));refine⟨U',by simpa using H',fun j hj=>?_,fun j hj=>?_⟩
  ·cases j with
   |zero=>
    rw[h2 _ (by simp)];simp[Jg]
   |succ j=>
    rw[←h1 j (by simpa using hj)];congr 1;simp;omega
  ·rw[h2 j (by simp;omega)]
   simp[Jg,Nat.ne_of_lt hj]
theorem Vg{rows:List (List AV)}{s:Nat}(hrow:∀r,r∈rows→r.length=s):∀{i f:Nat} {c:AV},As rows i f=some c→rows.flatten[i*s+f]? =some c:=by
 induction rows with
 |nil=>intro i f c hc;simp[As]at hc
 |cons r rows ih=>
  intro i f c hc;have hr:=hrow r (by simp);rw[List.flatten_cons];cases i with
  |zero=>
   have hc':r[f]? =some c:=by simpa[As]using hc
   have:f<r.length:=by
    rcases Nat.lt_or_ge f r.length with h|h
    ·exact h
    ·rw[List.getElem?_eq_none h]at hc';cases hc'
   rw[List.getElem?_append_left (by omega)];simpa using hc'
  |succ i=>
   have hc':As rows i f=some c:=by simpa[As]using hc
   have:=ih (fun r hr=>hrow r (by simp[hr])) hc';rw[List.getElem?_append_right (by rw[hr,Nat.succ_mul];omega)];rw[←this];congr 1;rw[hr,Nat.succ_mul];omega
theorem C4e{rows:List (List AV)}{s:Nat}(hrow:∀r,r∈rows→r.length=s):rows.flatten.length=rows.length*s:=by
 induction rows with
 |nil=>simp
 |cons r rows ih=>
  rw[List.flatten_cons,List.length_append,ih (fun r hr=>hrow r (by simp[hr])),hrow r (by simp),List.length_cons,Nat.succ_mul];omega
theorem Stt.fresh{N:Nat}{S:Af}{a:Act}(H:Bp x w h n L U ρ)(hs:Aw x w h n ρ S a.tmps)(hN:a.tmps.size=N)(hdf:a.defers=[]){d:Option Nat}(hd:∀k,d=some k→k<N)
 {id:Nat}(hid:Tb n id){s cap:Nat}{rows:List (List AV)}{C:Array Value}{e:TypeId}{fz:Nat×Nat}(hfz:B9a fz C.size)(hrow:∀r,r∈rows→r.length=s)
 (hL:∀i f c,As rows i f=some c→L[i*s+f]? =some c)(hC:∀i f c,As rows i f=some c→C[i*s+f]? =some (U (i*s+f)))(hcap:rows.length≤cap)(hsz:cap*s≤C.size):
 Stt x N (Bc S d none (.view id [] 0 rows.length)) ((id,.own s rows)::h) (Ln n id) (a.put d (.slice (some ⟨w.heap.size,0,none⟩) rows.length cap)) (w.alloc (.cells C e fz))∧
 (∀r,rows=[r]→Stt x N (Bc S d none (.bx id 0)) ((id,.own s rows)::h) (Ln n id) (a.put d (.pointer (some ⟨w.heap.size,0,none⟩))) (w.alloc (.cells C e fz))):=by
 have hid0:¬n id:=hid id (Nat.le_refl _) (by omega);have H1:=H.newRoot hid0 (e:=e) hfz hrow hL hC hcap hsz;have S1:=Aw.newRoot H hs hid0 (.own s rows) (.cells C e fz) s rows.length;refine⟨Stt.put H1 S1 hN hdf hd (fun _=>?_) (by simp) A5g,fun r hr=>?_⟩
 ·have hget:hget ((id,.own s rows)::h) id []=some (.own s rows):=by simp[hget,Ac,AV.get]
  have:=Az.view (x:=x) (n:=ext n id) (ρ:=Jb ρ id w.heap.size s rows.length) (off:=0) (cap:=cap) (b:=w.heap.size) (o:=0) hget (by simp) hcap (by simp[Jb]) (A4e w C e fz hfz) (by simpa using hsz);simpa using this
 ·refine Stt.put H1 S1 hN hdf hd (fun _=>?_) (by simp) A5g
  subst hr;have:=Az.bx (x:=x) (w:=w.alloc (.cells C e fz)) (n:=ext n id) (ρ:=Jb ρ id w.heap.size s 1) (g:=id) (f:=0) (h:=(id,.own s [r])::h) (s:=s) (r:=r) (b:=w.heap.size) (o:=0) (by simp[Ac]) (by simp[Jb]);simpa using this
def N0(P:Program)(x:Ctx)(N:Nat)(o:Oper)(a:Act)(w:World)(n':Nat→Prop)(K:Af→Ah→Prop):Prop:=
 ∃S' h',K S' h'∧∃w',(∃u,(execOp a.eval o).run P w=.ok (.value u) w'∧Stt x N S' h' n' (a.put o.dst u) w')∨((execOp a.eval o).run P w=.ok .skip w'∧Stt x N S' h' n' (a.put o.dst undef) w')
theorem Jp(e:TypeId)(C:Array Value)(w:World):(newRow e C).run P w=.ok ⟨w.heap.size,0,none⟩ (w.alloc (.cells C e)):=by
 simp[newRow]
theorem B2l{t:Nat}{ty:Ty}(ht:Wm P t ty)(H:Bp x w h n L U ρ)(m:Nat):∃i z,P.info? t=some i∧i.zero=some z∧i.size=ty.size∧z.cells.size=ty.size∧∃U',Bp x w h n (L++(List.replicate m ty.zero).flatten) U' ρ∧
 (∀j f c,As (List.replicate m ty.zero) j f=some c→z.cells[f]? =some (U' (L.length+(j*ty.size+f))))∧∀j,j<L.length→U' j=U j:=by
 obtain⟨i,z,h1,h2,h3,h4,h5,h6,h7⟩:=ht.info;have hrow:∀r,r∈List.replicate m ty.zero→r.length=ty.size:=fun r hr=>by rw[(List.mem_replicate.1 hr).2];exact h6
 have hlen:=C4e hrow;rw[List.length_replicate]at hlen;have hpos:=ht.pos;have hcell:∀(k:Nat) c,(List.replicate m ty.zero).flatten[k]? =some c→ty.zero[k%ty.size]? =some c:=by
  intro k c hk;have hlt:k<m*ty.size:=by
   rcases Nat.lt_or_ge k (m*ty.size)with h|h
   ·exact h
   ·rw[List.getElem?_eq_none (by omega)]at hk;cases hk
  have hi:k/ty.size<m:=Nat.div_lt_of_lt_mul (by rw[Nat.mul_comm];exact hlt);have hf:=Nat.mod_lt k hpos;obtain⟨c',hc'⟩:∃c',ty.zero[k%ty.size]? =some c':=⟨ty.zero[k%ty.size],List.getElem?_eq_getElem (by omega)⟩
  have:As (List.replicate m ty.zero) (k/ty.size) (k%ty.size)=some c':=by
   unfold As;rw[List.getElem?_replicate,if_pos hi];exact hc'
  have h8:=Vg hrow this;rw[Nat.mul_comm,Nat.div_add_mod]at h8;rw[h8]at hk;rw[hc'];exact hk
 obtain⟨U',H',e1,e2⟩:=H.pushAll (cs:=(List.replicate m ty.zero).flatten) (V:=fun k=>z.cells.getD (k%ty.size) undef) fun k c hk=>by
  obtain⟨u,e1,_,e3,_⟩:=h7 _ c (hcell k c hk);simp only[Array.getD_eq_getD_getElem?,e1,Option.getD_some];exact e3 x w
 refine⟨i,z,h1,h4,h2,h5,U',H',fun j f c hc=>?_,e2⟩;have hl:=Hw hrow hc;rw[List.length_replicate]at hl;have hlt:j*ty.size+f<m*ty.size:=by
  have:j*ty.size+ty.size≤m*ty.size:=by rw[←Nat.succ_mul];exact Nat.mul_le_mul_right _ hl.1
  omega
 rw[e1 _ (by omega)];have hmod:(j*ty.size+f)%ty.size=f:=by rw[Nat.mul_comm,Nat.mul_add_mod,Nat.mod_eq_of_lt hl.2]
 rw[hmod];have:f<z.cells.size:=by omega
 simp[Array.getD_eq_getD_getElem?,this]
theorem C0v(hT:TOk P E){N:Nat}{S:Af}{a:Act}(H:Bp x w h n [] (fun _=>undef) ρ)(hs:Aw x w h n ρ S a.tmps)(hN:a.tmps.size=N)(hdf:a.defers=[]){id:Nat}(hid:Tb n id)
 {o:Oper}(hd:∀k,o.dst=some k→k<N){t:Nat}(ho:o.op=.alloc t){K:Af→Ah→Prop}(hk:B0 E id o none S h K):N0 P x N o a w (Ln n id) K:=by
 obtain⟨dst,op,type,pos,after,guard⟩:=o;simp only at ho;subst ho;simp only[B0]at hk;obtain⟨ty,htt,hk⟩:=B9 hk;have hty:=hT t ty htt;obtain⟨i,z,h1,h2,h3,h4,U',H',h5,_⟩:=B2l hty H 1;obtain⟨_,_,_,_,_,_,_,hzl,_⟩:=hty.info;refine⟨_,_,hk,_,.inl ⟨.pointer (some ⟨w.heap.size,0,none⟩),?_,((Stt.fresh H' hs hN hdf hd hid (e:=t) (C:=z.cells) (fz:=(0,0)) (s:=ty.size) (cap:=1) (rows:=[ty.zero]) (B7l _) (by simpa using hzl) ?_ ?_ (by simp) (by omega)).2 _ rfl)⟩⟩
 ·simp only[execOp,Instr.alloc,Sem.run_bind,Ip P w t i z h1 h2,Result.andThen_ok,newVar,Jp,Sem.run_pure]
 ·intro j f c hc
  have:=Vg (rows:=List.replicate 1 ty.zero) (s:=ty.size) (by simpa using hzl) (by simpa using hc);simpa using this
 ·intro j f c hc
  have hl:=Hw (s:=ty.size) (by simpa using hzl) hc;have hj:j=0:=by simpa using hl.1
  subst hj;have:=h5 0 f c (by simpa using hc);simpa using this
theorem C5s(hT:TOk P E){N:Nat}{S:Af}{a:Act}(H:Bp x w h n [] (fun _=>undef) ρ)(hs:Aw x w h n ρ S a.tmps)(hN:a.tmps.size=N)(hdf:a.defers=[]){id:Nat}(hid:Tb n id)
 {o:Oper}(hd:∀k,o.dst=some k→k<N){t:Nat}{y:Operand}(ho:o.op=.box t y){K:Af→Ah→Prop}(hk:B0 E id o none S h K):N0 P x N o a w (Ln n id) K:=by
 obtain⟨dst,op,type,pos,after,guard⟩:=o;simp only at ho;subst ho;simp only[B0]at hk;obtain⟨ty,htt,hk⟩:=B9 hk;obtain⟨v,hk,hv⟩:=Cc hs (g:=none) trivial hk;have hty:=hT t ty htt;have hvu:v≠.undef:=by
  rintro rfl;cases hq:ty.cs with
  |nil=>simp[AV.cells,hq,C1]at hk
  |cons c r=>simp[AV.cells,hq,C1,Em]at hk
 obtain⟨c1,c2⟩:=U8 hv hvu;obtain⟨cs,S',h',ρ',U',hk,H',hs',hl1,hl2,hU,_,_,_⟩:=Kj (us:=(a.eval y).cells.toList) H hs (by simpa using c1) (fun i c d hc hd=>by
  obtain⟨d',e1,e2⟩:=c2 i c hc;have:d'=d:=by simpa[e1]using hd
  subst this;exact e2.mov) hk
 have hcl:cs.length=ty.size:=by rw[hl1,←hl2];exact hty.strides
 refine⟨_,_,hk,_,.inl ⟨.pointer (some ⟨w.heap.size,0,none⟩),?_,((Stt.fresh H' hs' hN hdf hd hid (e:=t) (C:=(a.eval y).cells) (fz:=(0,0)) (s:=ty.size) (cap:=1) (rows:=[cs]) (B7l _) (by simpa using hcl) ?_ ?_ (by simp) (by omega)).2 _ rfl)⟩⟩
 ·simp only[execOp,Instr.box,Sem.run_bind,Result.andThen_ok,newVar,Jp,Sem.run_pure]
 ·intro j f c hc
  have:=Vg (rows:=[cs]) (s:=ty.size) (by simpa using hcl) hc;simpa using this
 ·intro j f c hc
  have hl:=Hw (s:=ty.size) (by simpa using hcl) hc;have hj:j=0:=by simpa using hl.1
  subst hj;have hf:f<(a.eval y).cells.size:=by omega
  have:=hU f ((a.eval y).cells[f]) (by simp[hf]);simp only[List.length_nil,Nat.zero_add]at this;simp[this,hf]
end
section
variable{P:Program}{E:Env}{x:Ctx}{w:World}{h:Ah}{n n':Nat→Prop}{L:List AV}{U:Nat→Value}{ρ:Option Nat→Am}
theorem A7w(hT:TOk P E){N:Nat}{S:Af}{a:Act}(H:Bp x w h n [] (fun _=>undef) ρ)(hs:Aw x w h n ρ S a.tmps)(hN:a.tmps.size=N)(hdf:a.defers=[]){id:Nat}(hid:Tb n id)
 {o:Oper}(hd:∀k,o.dst=some k→k<N){t:Nat}{l c:Operand}(ho:o.op=.makeSlice t l c){K:Af→Ah→Prop}(hk:B0 E id o none S h K):N0 P x N o a w (Ln n id) K:=by
 obtain⟨dst,op,type,pos,after,guard⟩:=o;simp only at ho;subst ho;simp only[B0]at hk;obtain⟨e,ty,hte,hty,hu,hk⟩:=Md hT hk;obtain⟨v1,hk,hv1⟩:=Cc hs (g:=none) trivial hk;obtain⟨v2,hk,hv2⟩:=Cc hs (g:=none) trivial hk;obtain⟨k1,m1,rfl⟩:∃k m,v1=.int k m:=by cases v1<;>first|exact⟨_,_,rfl⟩|exact hk.elim
 obtain⟨k2,m2,rfl⟩:∃k m,v2=.int k m:=by cases v2<;>first|exact⟨_,_,rfl⟩|exact hk.elim
 obtain⟨h0,h1,h47,hb,hk⟩:=hk;have e1:=Gs hv1;have e2:=Gs hv2;obtain⟨i,z,g1,g2,g3,g4,U',H',h5,_⟩:=B2l hty H m1.toNat;obtain⟨i',z',g1',_,g3',g2',_,hzl,_⟩:=hty.info;rw[g1]at g1';simp only[Option.some.injEq]at g1';subst g1';have hrow:∀r,r∈List.replicate m1.toNat ty.zero→r.length=ty.size:=fun r hr=>by rw[(List.mem_replicate.1 hr).2];exact hzl
 have hw:∀m:Int,0≤m→m≤140737488355328→IntKind.i64.wrap m=m:=by
  intro m a1 a2;rw[IntKind.wrap_i64];omega
 have hsz:=hty.pos;have hrun:(Instr.makeSlice t (a.eval l) (a.eval c)).run P w=.ok (.slice (some ⟨w.heap.size,0,none⟩) m1.toNat m2.toNat) (w.alloc (.cells ((Array.range (m2.toNat*ty.size)).map ((if m2.toNat*ty.size=0 then#[]else z.cells)[·%(if m2.toNat*ty.size=0 then#[]else z.cells).size]!)) e)):=by
  rw[e1,e2];have q1:=hw m1 h0 (by omega);have q2:=hw m2 (by omega) h47;have hbi:¬((i.bytes:Int)*m2>2^48):=by
   rw[g3',Int.mul_comm];have:(2:Int)^48=281474976710656:=by decide
   omega
  simp only[Instr.makeSlice,Sem.run_bind,run_underlying P w t _ hu,Result.andThen_ok,asInt,asIntOf,Sem.run_pure,G7 P w e i g1,q1,q2];have hneg:(decide (m2<0)||decide ((i.bytes:Int)*m2>2^48)||decide (m1<0)||decide (m1>m2))=false:=by
   simp only[hbi,decide_false,Bool.or_false,Bool.or_eq_false_iff,decide_eq_false_iff_not];omega
  rw[if_neg]
  rotate_left
  ·intro hc
   simp only[Bool.or_eq_true,decide_eq_true_eq]at hc;omega
  simp only[run_askRoom,Result.andThen_ok,Sem.run_bind,hty.sizeOf];by_cases hz0:m2.toNat*ty.size=0
  ·simp only[hz0,if_true,Sem.run_bind,Sem.run_pure,Result.andThen_ok,Jp]
  ·simp only[hz0,if_false,Sem.run_bind,Ip P w e i z g1 g2,Result.andThen_ok,Sem.run_pure,Jp]
 refine⟨_,_,hk,_,.inl ⟨_,Pn hrun,?_⟩⟩;have:=(Stt.fresh H' hs hN hdf hd hid (e:=e) (C:=(Array.range (m2.toNat*ty.size)).map ((if m2.toNat*ty.size=0 then#[]else z.cells)[·%(if m2.toNat*ty.size=0 then#[]else z.cells).size]!)) (fz:=(0,0)) (s:=ty.size) (cap:=m2.toNat) (rows:=List.replicate m1.toNat ty.zero)
  (B7l _) hrow ?_ ?_ (by simp;omega) (by simp)).1
 ·simpa using this
 ·intro j f c hc
  simpa using Vg hrow hc
 ·intro j f c hc
  have hl:=Hw hrow hc;rw[List.length_replicate]at hl;have hlt:j*ty.size+f<m2.toNat*ty.size:=by
   have:j*ty.size+ty.size≤m2.toNat*ty.size:=by rw[←Nat.succ_mul];exact Nat.mul_le_mul_right _ (by omega)
   omega
  have hne:¬m2.toNat*ty.size=0:=by omega
  have:=h5 j f c hc;simp only[List.length_nil,Nat.zero_add]at this;have hzs:z.cells.size=ty.size:=g4;have hmod:(j*ty.size+f)%ty.size=f:=by rw[Nat.mul_comm,Nat.mul_add_mod,Nat.mod_eq_of_lt hl.2]
  rw[Array.getElem?_map];simp only[hne,if_false,hzs];rw[Array.getElem?_range,if_pos hlt];simp only[Option.map_some,hmod];have hf:f<z.cells.size:=by omega
  rw[Array.getElem?_eq_getElem hf]at this;simp only[Option.some.injEq]at this;rw[←this];simp[hf]
theorem Yc{bs:List UInt8}{i f:Nat}{c:AV}(hc:As (bs.map fun b=>[AV.int .u8 b.toNat]) i f=some c):f=0∧∃b,bs[i]? =some b∧c=.int .u8 b.toNat:=by
 unfold As at hc;rw[List.getElem?_map]at hc;cases hb:bs[i]? with
 |none=>rw[hb]at hc;cases hc
 |some b=>
  rw[hb]at hc;simp only[Option.map_some]at hc;cases f with
  |zero=>exact⟨rfl,b,rfl,by simpa using hc.symm⟩
  |succ f=>simp at hc
theorem B2r(hT:TOk P E){e:Nat}{K:Prop}(hk:B0q E e K):P.underlying e=some (.int .u8)∧K:=by
 obtain⟨te,hte,hk⟩:=B9 hk;have hkind:=(hT e te hte).kind;cases hq:te.k<;>rw[hq]at hkind hk<;>simp only at hkind hk;rename_i k;cases k<;>simp only at hk;exact⟨hkind,hk⟩
theorem O9(a:Addr){len:Nat}(bs:List UInt8)(hl:bs.length=len)(hc:∀j b,bs[j]? =some b→w.cell? (a.add j)=some (.int .u8 b.toNat))(cap:Nat):
 (Conv.bytesToString (.slice (some a) len cap)).run P w=.ok (Dn bs) w:=by
 have h1:=run_loadCells_list (P:=P) w a (bs.map fun b=>Value.int .u8 b.toNat) fun j v hj=>by
  rw[List.getElem?_map]at hj;cases hb:bs[j]? with
  |none=>rw[hb]at hj;cases hj
  |some b=>
   rw[hb]at hj;simp only[Option.map_some,Option.some.injEq]at hj;rw[←hj];exact hc j b hb
 rw[List.length_map,hl]at h1;have h2:=run_bytesToString (P:=P) w a len cap (bs.map fun b=>(b.toNat:Int)) (by rw[List.map_map];exact h1);rw[h2];congr 1;unfold Dn;congr 1;have gen:∀(l:List UInt8) (s:ByteArray),(l.map fun b=>(b.toNat:Int)).foldl (fun r n=>r.push (UInt8.ofNat n.toNat)) s=⟨s.data++l.toArray⟩:=by
  intro l;induction l with
  |nil=>intro s;simp
  |cons b l ih=>
   intro s;rw[List.map_cons,List.foldl_cons,ih];apply ByteArray.ext;simp
 rw[gen];simp
theorem Vh(ad:Option Addr):(Conv.bytesToString (.slice ad 0 0)).run P w=.ok (Dn []) w:=by
 cases ad with
 |none=>simp[Conv.bytesToString,Dn];rfl
 |some ad=>exact O9 ad [] rfl (by simp) 0
theorem B4c(hT:TOk P E){N:Nat}{S:Af}{a:Act}(H:Bp x w h n [] (fun _=>undef) ρ)(hs:Aw x w h n ρ S a.tmps)(hN:a.tmps.size=N)(hdf:a.defers=[]){id:Nat}(hid:Tb n id)
 {o:Oper}(hd:∀k,o.dst=some k→k<N){s t:Nat}{y:Operand}(ho:o.op=.convert s t y)(hv:Cd E o=false){K:Af→Ah→Prop}(hk:B0 E id o none S h K):N0 P x N o a w (Ln n id) K:=by
 obtain⟨dst,op,type,pos,after,guard⟩:=o;simp only at ho;subst ho;simp only[B0]at hk;simp only[Cd]at hv;obtain⟨ts,hts,hk⟩:=B9 hk;obtain⟨ty,htt,hk⟩:=B9 hk;obtain⟨v,hk,hr⟩:=Cc hs (g:=none) trivial hk;have hkind:=(hT t ty htt).kind;have hskind:=(hT s ts hts).kind;have hsu:∃d,P.underlying s=some d:=by
  cases hq:ts.k<;>rw[hq]at hskind<;>simp only at hskind;case struct fs=>exact⟨_,hskind.2.2.choose_spec.1⟩
  case iface=>exact⟨_,hskind.choose_spec⟩
  all_goals exact⟨_,hskind⟩
 obtain⟨d,hdu⟩:=hsu;have plain:∀{u:Value} {v:AV},K (Bc S dst none v) h→(Go.convert s t (a.eval y)).run P w=.ok u w→Az x w h n ρ v u→N0 P x N ⟨dst,.convert s t y,type,pos,after,guard⟩ a w (Ln n id) K:=by
  intro u v hK hrun hu;exact⟨_,_,hK,_,.inl ⟨u,Pn hrun,Stt.put H hs hN hdf hd (fun _=>hu) (by simp) A7g⟩⟩
 rw[htt]at hv;simp only at hv;cases hkk:ty.k<;>rw[hkk]at hkind hk hv<;>simp only at hkind hk hv<;>try(cases hv;done)
 case str=>
  by_cases hst:∃s',v=.str s'
  ·obtain⟨s',rfl⟩:=hst
   have e:=Hm hr;refine plain (u:=Dn s') hk ?_ (.cell .str);rw[e];simp only[Go.convert,Sem.run_bind,run_underlying P w s d hdu,run_underlying P w t _ hkind,Result.andThen_ok,Dn,Sem.run_pure]
  ·have hk':match ts.k with
    |.slice e=>B0q E e (N3 h v fun s=>K (Bc S dst none (.str s)) h)
    |_=>False:=by
    cases v<;>first|exact hk|exact absurd ⟨_,rfl⟩ hst
   clear hk;cases hq:ts.k<;>rw[hq]at hskind hk'<;>simp only at hskind hk';rename_i e;obtain⟨he,hk⟩:=B2r hT hk';have fin:∀{ad:Option Addr} {l c:Nat} {bs:List UInt8},K (Bc S dst none (.str bs)) h→a.eval y=.slice ad l c→(Conv.bytesToString (.slice ad l c)).run P w=.ok (Dn bs) w→N0 P x N ⟨dst,.convert s t y,type,pos,after,guard⟩ a w (Ln n id) K:=by
    intro ad l c bs hK e1 e2;refine plain hK ?_ (.cell .str);rw[e1,run_convert_bytes_string w s t e ad l c hskind he hkind];exact e2
   revert hr;generalize e0:a.eval y=uu;intro hr;cases v with
   |view g p off len=>
    obtain⟨s',xs,hg,hk⟩:=Bv hk;obtain⟨rfl,bs,hbs,hk⟩:=C8 hk;cases hr with
    |cell hr=>cases hr
    |gone h0=>exact absurd h0 (L3 hg)
    |view0 hg' hl=>
     have:bs=[]:=by
      have:=congrArg List.length hbs;simp at this;exact List.eq_nil_of_length_eq_zero this.symm
     subst this;exact fin hk e0 (Vh _)
    |view hg' hl hcap hρ hb hroom=>
     rename_i s2 xs2 cap b o c;rw[hg]at hg';simp only[Option.some.injEq,AV.own.injEq]at hg';obtain⟨rfl,rfl⟩:=hg';obtain⟨c',V,hb',hrow,hcell⟩:=H.cells hg hρ;refine fin hk e0 (O9 _ bs ?_ (fun j b hj=>?_) _)
     ·have:=congrArg List.length hbs
      simp at this;omega
     ·have hrowj:((xs.drop off).take len)[j]? =some [.int .u8 b.toNat]:=by rw[hbs,List.getElem?_map,hj];rfl
      have hjl:j<len:=by
       rcases Nat.lt_or_ge j len with h|h
       ·exact h
       ·rw[List.getElem?_take,if_neg (by omega)]at hrowj;cases hrowj
      have hc1:As xs (off+j) 0=some (.int .u8 b.toNat):=by
       rw[←La hjl];unfold As;rw[hrowj];rfl
      obtain⟨q1,q2⟩:=hcell _ _ _ hc1;cases hV:V (off+j) 0 with
      |int k m=>
       rw[hV]at q1 q2;cases q2;rw[Je,hb'.cell,←q1];congr 1;omega
      |_=>rw[hV]at q2;cases q2
   |rd s' xs=>
    obtain⟨rfl,bs,hbs,hk⟩:=C8 hk;cases hr with
    |cell hr=>
     cases hr with
     |rd V hcap hrow hc hr=>
      rename_i ad cap;have hlen:bs.length=xs.length:=by rw[hbs];simp
      have hc1:∀j b,bs[j]? =some b→As xs j 0=some (.int .u8 b.toNat):=by
       intro j b hj;unfold As;rw[hbs,List.getElem?_map,hj];rfl
      cases ad with
      |none=>
       have:bs=[]:=by
        cases bs with
        |nil=>rfl
        |cons b r=>
         obtain⟨_,_,e,_⟩:=hc _ _ _ (hc1 0 b rfl);cases e
       subst this;refine fin hk e0 ?_;simp[Conv.bytesToString,Dn];rfl
      |some ad=>
       refine fin hk e0 (O9 ad bs hlen (fun j b hj=>?_) _);obtain⟨b',o',e1,h3,h4,h5⟩:=hc _ _ _ (hc1 j b hj);simp only[Option.some.injEq]at e1;subst e1;have h6:=hr _ _ _ (hc1 j b hj);rw[Je,H.cell0 h3 h4];have e3:j*1+0=j:=by omega
       rw[e3]at h5;rw[h5];cases hV:V j 0 with
       |int k m=>rw[hV]at h6;cases h6;rfl
       |_=>rw[hV]at h6;cases h6
   |nils=>
    cases hr with
    |cell hr=>cases hr
    |nils=>exact fin hk e0 (by simp[Conv.bytesToString,Dn];rfl)
   |emp=>
    cases hr with
    |cell hr=>cases hr
    |emp=>
     exact fin hk e0 (Vh _)
   |_=>exact hk.elim
 case slice e=>
  cases v<;>try exact hk.elim
  rename_i bs;obtain⟨he,hk⟩:=B2r hT hk;have e0:=Hm hr;have hrun:=Lib.run_convert_string_bytes (P:=P) w s t e (ByteArray.mk ⟨bs⟩) hdu hkind he;obtain⟨U',H',h5,_⟩:=H.pushAll (cs:=(bs.map fun b=>AV.int .u8 b.toNat)) (V:=fun k=>.int .u8 (bs.getD k 0).toNat) fun j c hj=>by
   rw[List.getElem?_map]at hj;cases hb:bs[j]? with
   |none=>rw[hb]at hj;cases hj
   |some b=>
    rw[hb]at hj;simp only[Option.map_some,Option.some.injEq]at hj;subst hj;simp only[List.getD_eq_getElem?_getD,hb,Option.getD_some];exact .int
  have hcsz:bs.length≤grownCap w bs.length 0 e:=by
   unfold grownCap Question.cut;exact Nat.le_add_right _ _
  have hCsz:(Lib.bytesCells w e (ByteArray.mk ⟨bs⟩)).size=grownCap w bs.length 0 e:=by
   unfold Lib.bytesCells;rw[Array.size_append,Array.size_map,Array.size_replicate];have:(ByteArray.mk ⟨bs⟩).data.size=bs.length:=rfl;have h2:(ByteArray.mk ⟨bs⟩).size=bs.length:=rfl;rw[this,h2];omega
  have hst:=(Stt.fresh (w:=w) H' hs hN hdf hd hid (e:=e) (C:=Lib.bytesCells w e (ByteArray.mk ⟨bs⟩)) (fz:=((Lib.bytesCells w e (ByteArray.mk ⟨bs⟩)).size,(Lib.bytesCells w e (ByteArray.mk ⟨bs⟩)).size+1)) (s:=1) (cap:=grownCap w bs.length 0 e) (rows:=bs.map fun b=>[AV.int .u8 b.toNat])
   (.inr (Nat.le_refl _)) (by simp) ?_ ?_ (by simpa using hcsz) (by omega)).1
  ·refine⟨_,_,hk,_,.inl ⟨_,Pn (by rw[e0];exact hrun),?_⟩⟩
   obtain⟨ρ',H2,S2,q1,q2⟩:=hst;have hheap:(Lib.bytesWorld w e (ByteArray.mk ⟨bs⟩)).heap=(w.alloc (.cells (Lib.bytesCells w e (ByteArray.mk ⟨bs⟩)) e ((Lib.bytesCells w e (ByteArray.mk ⟨bs⟩)).size,(Lib.bytesCells w e (ByteArray.mk ⟨bs⟩)).size+1))).heap:=by
    apply Array.ext_getElem?;intro j;rcases Nat.lt_trichotomy j w.heap.size with hj|rfl|hj
    ·rw[Lib.bytesWorld_at_old _ _ _ _ hj,J4 w _ hj]
    ·rw[Lib.bytesWorld_at_new,Up w]
    ·rw[Array.getElem?_eq_none (by rw[Lib.bytesWorld_size];omega),Array.getElem?_eq_none (by show(w.heap.push _).size≤j;simp;omega)]
   have hlm:(bs.map fun b=>[AV.int .u8 b.toNat]).length=bs.length:=by simp
   rw[hlm]at S2 q1 q2;exact⟨ρ',H2.world hheap rfl rfl rfl,S2.frame (fun g p b o c hp hb=>⟨c,hb.congr (by rw[hheap]),rfl⟩),q1,q2⟩
  ·intro i f c hc
   obtain⟨rfl,b,hb,rfl⟩:=Yc hc;simp[hb]
  ·intro i f c hc
   obtain⟨rfl,b,hb,rfl⟩:=Yc hc;have hlt:i<bs.length:=by
    rcases Nat.lt_or_ge i bs.length with h|h
    ·exact h
    ·rw[List.getElem?_eq_none h]at hb;cases hb
   have:=h5 i (by simpa using hlt);simp only[List.length_nil,Nat.zero_add]at this;have e3:i*1+0=i:=by omega
   rw[e3,this];unfold Lib.bytesCells;rw[Array.getElem?_append_left (by rw[Array.size_map];exact hlt),Array.getElem?_map];have:(ByteArray.mk ⟨bs⟩).data[i]? =some b:=by simpa using hb
   rw[this];simp[hb]
 all_goals
  unfold Go.GH.convert at hk;rw[hkk]at hk;exact hk.elim
end
section
variable{P:Program}{E:Env}{x:Ctx}{w:World}{h:Ah}{n n':Nat→Prop}{L:List AV}{U:Nat→Value}{ρ:Option Nat→Am}
theorem B7y(H:Bp x w h n L U ρ){g:Nat}{p:Br}{s i f b o:Nat}{xs:List (List AV)}{r:List AV}(hg:hget h g p=some (.own s xs))(hr:xs[i]? =some r)(hpos:0<L.length)(hf:f+L.length≤s)
 (hρ:ρ (some g) p=some (b,o)){us:List Value}(hl:us.length=L.length)(hU:∀(j:Nat) u,us[j]? =some u→U j=u)(hone:∀u,u∈us→u.oneCell'=true):
 ∃w' c c',(storeCells ⟨b,o+(i*s+f),none⟩ us).run P w=.ok () w'∧Ue w w' b c c'∧r.length=s∧
  Bp x w' (hput h g p (.own s (xs.set i (setCells f L r)))) n [] (fun _=>undef) (Gt ρ g p i f L.length b o):=by
 obtain⟨c,V,hb,hrow,hc⟩:=H.cells hg hρ;have hrl:=hrow r (List.mem_of_getElem? hr);have hroom:o+(i*s+f)+L.length≤c.size:=by
  obtain⟨d,hd⟩:∃d,r[f+(L.length - 1)]? =some d:=⟨r[f+(L.length - 1)],List.getElem?_eq_getElem (by omega)⟩
  have hcd:As xs i (f+(L.length - 1))=some d:=by unfold As;rw[hr];exact hd
  have:=(hc _ _ _ hcd).1;have hlt:o+(i*s+(f+(L.length - 1)))<c.size:=by
   rcases Nat.lt_or_ge (o+(i*s+(f+(L.length - 1)))) c.size with h|h
   ·exact h
   ·rw[Array.getElem?_eq_none h]at this;cases this
  omega
 obtain⟨w',c',h1,W,h2⟩:=Q7 P us 0 w b (o+(i*s+f)) c hb (by omega) hone;refine⟨w',c,c',h1,W,hrl,H.store hg hr hf hρ W (fun j hj=>?_) fun k hk=>?_⟩
 ·rw[h2,if_pos (by omega)]
  obtain⟨u,hu⟩:∃u,us[j]? =some u:=⟨us[j],List.getElem?_eq_getElem (by omega)⟩
  rw[hU j u hu,←hu];congr 1;omega
 ·rw[h2,if_neg (by omega)]
theorem C0a{v:AV}{u:Value}(hv:v.scalar=true)(hs:Az x w h n ρ v u):Rep x w Ax v u∧u.oneCell'=true∧u.cells=#[u]∧v≠.undef:=by
 cases v<;>first|(cases hv;done)|(cases hs with|cell hr=>exact⟨hr,by cases hr;rfl,by cases hr;rfl,by simp⟩)
theorem C81{p q:Br}{i f:Nat}{s s':Nat}{xs ys:List (List AV)}{r:List AV}{rt:AV}(h1:AV.get p rt=some (.own s xs))(hr:xs[i]? =some r)(hsc:(cell r f).scalar=true)(h2:AV.get (p++(i,f)::q) rt=some (.own s' ys)):False:=by
 rw[Qh,h1]at h2;simp only[Option.bind_some]at h2;rw[Fr]at h2;unfold As at h2;rw[hr]at h2;simp only at h2;cases hc:r[f]? with
 |none=>rw[hc]at h2;cases h2
 |some d=>
  rw[hc]at h2;have hd:cell r f=d:=by simp[cell,List.getD_eq_getElem?_getD,hc]
  rw[hd]at hsc;simp only[Option.bind_some]at h2;cases d<;>simp only[AV.scalar]at hsc<;>first|(cases hsc;done)|(cases q<;>simp[AV.get]at h2)
theorem A2y{g:Nat}{r y:AV}(hl:A4 h g=some r):hput h g [] y=update h g y:=by
 simp[hput,hl,AV.put]
theorem Wt{S:Af}{g:Nat}:∀d s,A4 (voids g S) d=some s→∃s0,A4 S d=some s0∧s.c=s0.c∧(s.v=s0.v∨s.v=.undef)∧(Cy s.c→E4 (fun g' p=>g'≠g∨p=[]) s.v):=by
 intro d s hd;obtain⟨s0,h1,h2,h3,h4⟩:=Zr hd;exact⟨s0,h1,h2,h3,fun _=>h4⟩
theorem A2z{t:Nat}{ty:Ty}(ht:Wm P t ty){ad:Addr}{u:Value}{w':World}(hsz:u.cells.size=ty.size)(hst:(storeCells ad u.cells.toList).run P w=.ok () w'):
 (Instr.storeAt t (.pointer (some ad)) u).run P w=.ok () w':=by
 simp only[Instr.storeAt,Instr.sureAddr,Sem.run_bind,Sem.run_pure,Result.andThen_ok,storeVar,ht.sizeOf,hsz,ne_eq,not_true_eq_false,if_false,hst]
theorem C13(hT:TOk P E){N:Nat}{S:Af}{a:Act}(H:Bp x w h n [] (fun _=>undef) ρ)(hs:Aw x w h n ρ S a.tmps)(hN:a.tmps.size=N)(hdf:a.defers=[]){id:Nat}
 {o:Oper}(hd:∀k,o.dst=some k→k<N){t:Nat}{y z:Operand}(ho:o.op=.store t y z){K:Af→Ah→Prop}(hk:B0 E id o none S h K):N0 P x N o a w (Ln n id) K:=by
 obtain⟨dst,op,type,pos,after,guard⟩:=o;simp only at ho;subst ho;simp only[B0]at hk;obtain⟨ty,htt,hk⟩:=B9 hk;obtain⟨av,hk,hav⟩:=Cc hs (g:=none) trivial hk;obtain⟨v,hk,hv⟩:=Cc hs (g:=none) trivial hk;have hty:=hT t ty htt;have scal:∀{g:Nat} {p:Br} {s i f b q:Nat} {xs:List (List AV)} {r:List AV} {h':Ah},ty.k.scalar=true→v.scalar=true→hget h g p=some (.own s xs)→xs[i]? =some r→f+1≤s→(cell r f).scalar=true→
  ρ (some g) p=some (b,q)→a.eval y=.pointer (some ⟨b,q+(i*s+f),none⟩)→h'=hput h g p (.own s (xs.set i (r.set f v)))→K (Bc S dst none .undef) h'→N0 P x N ⟨dst,.store t y z,type,pos,after,guard⟩ a w (Ln n id) K:=by
  intro g p s i f b q xs r h' hts hvs hg hr hf hsc hρ he hh hK;obtain⟨q1,q2,q3,q4⟩:=C0a hvs hv;have hsz1:ty.size=1:=hty.one (by cases hq:ty.k<;>simp_all[TK.scalar,TK.agg]);have H1:=H.push q1;simp only[List.nil_append,List.length_nil]at H1;obtain⟨w',c,c',r1,W,hrl,H2⟩:=B7y (P:=P) (f:=f) (us:=[a.eval z]) H1 hg hr (by simp) (by simpa using hf) hρ rfl (fun j u hj=>by
   cases j with
   |zero=>simpa[Jg]using hj
   |succ j=>simp at hj) (by simpa using q2)
  have S2:=Aw.store (f:=f) (P:=fun _ _=>True) (S':=S) H1 hs hg hr (by simp;omega) hρ W (fun d s0 hd=>⟨s0,hd,rfl,.inl rfl,fun ht=>E4.all (fun _ _=>trivial) ((hs d s0 hd).1 ht)⟩) (fun p' s' ys _ hp' f' qq hf1 hf2 he'=>by
   have:f'=f:=by simp at hf2;omega
   subst this;subst he';obtain⟨rt,hl,hrt⟩:=C6 hg;rw[Cn hl]at hp';exact C81 hrt hr hsc hp')
  simp only[setCells,List.length_cons,List.length_nil]at H2 S2;rw[←hh]at H2 S2;refine⟨_,_,hK,w',.inr ⟨?_,Stt.put H2 S2 hN hdf hd (fun _=>.void) (by simp) A7g⟩⟩;have:=A2z (P:=P) (w:=w) hty (ad:=⟨b,q+(i*s+f),none⟩) (u:=a.eval z) (w':=w') (by rw[q3,hsz1];rfl) (by rw[q3];exact r1);simp only[execOp,Sem.run_bind,he,this,Result.andThen_ok,Sem.run_pure]
 have gen:∀{S1:Af} {h1:Ah} {cs:List AV} {ρ1:Option Nat→Am} {U1:Nat→Value} {g:Nat} {p:Br} {s i f b q:Nat} {xs:List (List AV)} {r:List AV} {h':Ah},Bp x w h1 n cs U1 ρ1→Aw x w h1 n ρ1 S1 a.tmps→
  cs.length=ty.size→(a.eval z).cells.size=ty.size→(∀(j:Nat) u,(a.eval z).cells.toList[j]? =some u→U1 j=u)→(∀u,u∈(a.eval z).cells.toList→u.oneCell'=true)→
  hget h1 g p=some (.own s xs)→xs[i]? =some r→f+ty.size≤s→ρ1 (some g) p=some (b,q)→a.eval y=.pointer (some ⟨b,q+(i*s+f),none⟩)→
  h'=hput h1 g p (.own s (xs.set i (setCells f cs r)))→K (Bc (voids g S1) dst none .undef) h'→N0 P x N ⟨dst,.store t y z,type,pos,after,guard⟩ a w (Ln n id) K:=by
  intro S1 h1 cs ρ1 U1 g p s i f b q xs r h' H1 S1r hcl hsz hU hone hg hr hf hρ he hh hK;have hpos:=hty.pos;obtain⟨w',c,c',r1,W,hrl,H2⟩:=B7y (P:=P) (f:=f) (us:=(a.eval z).cells.toList) H1 hg hr (by omega) (by omega) hρ (by simp;omega) hU hone;have S2:=Aw.store (f:=f) (S':=voids g S1) H1 S1r hg hr (by omega) hρ W Wt (fun p' s' ys hp _ f' qq _ _ he'=>by
   rcases hp with hp|hp
   ·exact hp rfl
   ·rw[hp]at he'
    have:=congrArg List.length he';simp at this)
  rw[←hh]at H2 S2;refine⟨_,_,hK,w',.inr ⟨?_,Stt.put H2 S2 hN hdf hd (fun _=>.void) (by simp) A7g⟩⟩;have:=A2z (P:=P) (w:=w) hty (ad:=⟨b,q+(i*s+f),none⟩) (u:=a.eval z) (w':=w') hsz r1;simp only[execOp,Sem.run_bind,he,this,Result.andThen_ok,Sem.run_pure]
 have prep:∀{K':List AV→Af→Ah→Prop},C1 S h ty.cs v.cells K'→∃cs S1 h1 ρ1 U1,K' cs S1 h1∧Bp x w h1 n cs U1 ρ1∧Aw x w h1 n ρ1 S1 a.tmps∧cs.length=ty.size∧(a.eval z).cells.size=ty.size∧
  (∀(j:Nat) u,(a.eval z).cells.toList[j]? =some u→U1 j=u)∧(∀u,u∈(a.eval z).cells.toList→u.oneCell'=true)∧Mov x w h1 n ρ1 av (a.eval y):=by
  intro K' hm;have hvu:v≠.undef:=by
   rintro rfl;cases hq:ty.cs with
   |nil=>simp[AV.cells,hq,C1]at hm
   |cons c r=>simp[AV.cells,hq,C1,Em]at hm
  obtain⟨c1,c2⟩:=U8 hv hvu;obtain⟨cs,S',h',ρ',U',hk,H',hs',hl1,hl2,hU,_,hmv,hone⟩:=Kj (us:=(a.eval z).cells.toList) H hs (by simpa using c1) (fun i c d hc hd=>by
   obtain⟨d',e1,e2⟩:=c2 i c hc;have:d'=d:=by simpa[e1]using hd
   subst this;exact e2.mov) hm
  have hst:=hty.strides;exact⟨cs,S',h',ρ',U',hk,by simpa using H',hs',by omega,by omega,fun j u hj=>by simpa using hU j u hj,hone,hmv _ _ hav.mov⟩
 revert hav scal gen prep;generalize e0:a.eval y=ua;intro hav scal gen prep;cases av with
 |bx g f=>
  simp only[storeAt]at hk;cases hsc:ty.k.scalar with
  |true=>
   rw[hsc]at hk;simp only at hk;cases hvs:v.scalar with
   |false=>rw[hvs]at hk;exact hk.elim
   |true=>
    rw[hvs]at hk;obtain⟨s,xs,hg,hk⟩:=Bv hk;match xs,hg,hk with
    |[],_,hk=>exact hk.elim
    |_::_::_,_,hk=>exact hk.elim
    |[r],hg,hk=>
     obtain⟨hf,hk⟩:=Bj hk;cases hcs:(cell r f).scalar with
     |false=>rw[hcs]at hk;exact hk.elim
     |true=>
      rw[hcs]at hk;obtain⟨rt,hl,hrt⟩:=C6 hg;simp only[AV.get,Option.some.injEq]at hrt;subst hrt;cases hav with
      |cell hr=>cases hr
      |goneb h0=>rw[hl]at h0;cases h0
      |bx hg' hρ=>
       rw[hl]at hg';simp only[Option.some.injEq,AV.own.injEq,List.cons.injEq,and_true]at hg';obtain⟨rfl,rfl⟩:=hg';exact scal (p:=[]) (i:=0) (xs:=[r]) hsc hvs hg rfl hf hcs hρ (by simp) (by rw[A2y hl];rfl) hk
  |false=>
   rw[hsc]at hk;obtain⟨cs,S1,h1,ρ1,U1,hk,H1,S1r,q1,q2,q3,q4,q5⟩:=prep hk;obtain⟨s,xs,hg,hk⟩:=Bv hk;match xs,hg,hk with
   |[],_,hk=>exact hk.elim
   |_::_::_,_,hk=>exact hk.elim
   |[r],hg,hk=>
    obtain⟨hf,hk⟩:=Bj hk;obtain⟨rt,hl,hrt⟩:=C6 hg;simp only[AV.get,Option.some.injEq]at hrt;subst hrt;have hav':=q5 s r hl;cases hav' with
    |cell hr=>cases hr
    |goneb h0=>rw[hl]at h0;cases h0
    |bx hg' hρ=>
     rw[hl]at hg';simp only[Option.some.injEq,AV.own.injEq,List.cons.injEq,and_true]at hg';obtain⟨rfl,rfl⟩:=hg';exact gen (p:=[]) (i:=0) (xs:=[r]) H1 S1r q1 q2 q3 q4 hg rfl hf hρ (by simp) (by rw[A2y hl];rfl) hk
 |ptr g p i f=>
  simp only[storeAt]at hk;cases hsc:ty.k.scalar with
  |true=>
   rw[hsc]at hk;simp only at hk;cases hvs:v.scalar with
   |false=>rw[hvs]at hk;exact hk.elim
   |true=>
    rw[hvs]at hk;obtain⟨s,xs,hg,hk⟩:=Bv hk;obtain⟨hf,r,hr,hk⟩:=Bj hk;cases hcs:(cell r f).scalar with
    |false=>rw[hcs]at hk;exact hk.elim
    |true=>
     rw[hcs]at hk;cases hav with
     |cell hr=>cases hr
     |gonep h0=>exact absurd h0 (L3 hg)
     |ptr hg' hρ=>
      rw[hg]at hg';simp only[Option.some.injEq,AV.own.injEq]at hg';obtain⟨rfl,rfl⟩:=hg';exact scal hsc hvs hg hr hf hcs hρ rfl rfl hk
  |false=>
   rw[hsc]at hk;obtain⟨cs,S1,h1,ρ1,U1,hk,H1,S1r,q1,q2,q3,q4,q5⟩:=prep hk;obtain⟨s,xs,hg,hk⟩:=Bv hk;obtain⟨hf,r,hr,hk⟩:=Bj hk;have hav':=q5 s xs hg;cases hav' with
   |cell hr=>cases hr
   |gonep h0=>exact absurd h0 (L3 hg)
   |ptr hg' hρ=>
    rw[hg]at hg';simp only[Option.some.injEq,AV.own.injEq]at hg';obtain⟨rfl,rfl⟩:=hg';exact gen H1 S1r q1 q2 q3 q4 hg hr hf hρ rfl rfl hk
 |_=>exact hk.elim
end
theorem C6p(o:Nat):∀(L:List Value) (cs:Array Value),o+L.length≤cs.size→∃cs':Array Value,(L.zipIdx.foldl (fun cs (c,j)=>cs.setIfInBounds (o+j) c) cs)=cs'∧cs'.size=cs.size∧
 ∀k,cs'[k]? =if o≤k∧k<o+L.length then L[k - o]? else cs[k]? :=by
 have gen:∀(L:List Value) (m:Nat) (cs:Array Value),o+m+L.length≤cs.size→∃cs':Array Value,((L.zipIdx m).foldl (fun cs (c,j)=>cs.setIfInBounds (o+j) c) cs)=cs'∧cs'.size=cs.size∧
  ∀k,cs'[k]? =if o+m≤k∧k<o+m+L.length then L[k - (o+m)]? else cs[k]? :=by
  intro L;induction L with
  |nil=>intro m cs hm;exact⟨cs,rfl,rfl,fun k=>by rw[if_neg (by simp)]⟩
  |cons a L ih=>
   intro m cs hm;simp only[List.length_cons]at hm;obtain⟨cs',e1,e2,e3⟩:=ih (m+1) (cs.setIfInBounds (o+m) a) (by simp;omega);refine⟨cs',by simpa using e1,by simpa using e2,fun k=>?_⟩;rw[e3 k];by_cases hk1:o+(m+1)≤k∧k<o+(m+1)+L.length
   ·rw[if_pos hk1,if_pos (by simp;omega)]
    obtain⟨q,hq⟩:∃q,k - (o+m)=q+1:=⟨k - (o+m) - 1,by omega⟩
    rw[hq,List.getElem?_cons_succ];congr 1;omega
   ·rw[if_neg hk1]
    by_cases hk2:k=o+m
    ·subst hk2
     rw[if_pos (by simp)];have:o+m<cs.size:=by omega
     simp[this]
    ·rw[if_neg (by simp;omega),Array.getElem?_setIfInBounds_ne (Ne.symm hk2)]
 intro L cs hcs;obtain⟨cs',e1,e2,e3⟩:=gen L 0 cs (by simpa using hcs);exact⟨cs',e1,e2,by simpa using e3⟩
theorem A5x:∀{is:List Nat} {k:Nat},R8 k is=true→is=List.range' k is.length
 |[],k,_=>rfl
 |i::is,k,h=>by
  simp only[R8]at h;cases hb:Nat.beq k i with
  |false=>rw[hb]at h;cases h
  |true=>
   rw[hb]at h;have:=Nat.eq_of_beq_eq_true hb;subst this;rw[List.length_cons,List.range'_succ,←A5x h]
theorem A8e{s:Nat}:∀(us:List Value) (k:Nat) (cells:Array Value),(∀u,u∈us→u.cells.size=s)→(k+us.length)*s≤cells.size→
 ∃C,Instr.fill (fun i=>some (i*s,s)) cells ((List.range' k us.length).zip us)=some C∧C.size=cells.size∧(∀j,j<k*s→C[j]? =cells[j]?)∧
  ∀(i:Nat) u (f:Nat) d,us[i]? =some u→u.cells[f]? =some d→C[(k+i)*s+f]? =some d
 |[],k,cells,h1,h2=>⟨cells,rfl,rfl,fun _ _=>rfl,by simp⟩
 |u::us,k,cells,h1,h2=>by
  have hu:=h1 u (by simp);simp only[List.length_cons]at h2;have hk:k*s+s≤cells.size:=by
   refine Nat.le_trans ?_ h2;rw[←Nat.succ_mul];exact Nat.mul_le_mul_right s (by omega)
  obtain⟨c2,e1,e2,e3⟩:=C6p (k*s) u.cells.toList cells (by simp;omega);obtain⟨C,f1,f2,f3,f4⟩:=A8e us (k+1) c2 (fun v hv=>h1 v (by simp[hv])) (by rw[e2];rw[show k+1+us.length=k+(us.length+1)from by omega];exact h2);refine⟨C,?_,f2.trans e2,fun j hj=>?_,fun i u' f d hi hd=>?_⟩
  ·rw[List.length_cons,List.range'_succ,List.zip_cons_cons]
   simp only[Instr.fill];rw[if_neg (by simp;omega)];rw[←f1,←e1,←Array.foldl_toList,Array.toList_zipIdx]
  ·rw[f3 j (by rw[Nat.succ_mul];omega),e3,if_neg (by omega)]
  ·cases i with
   |zero=>
    simp only[List.getElem?_cons_zero,Option.some.injEq]at hi;subst hi;have hf:f<s:=by
     rw[←hu];rcases Nat.lt_or_ge f u.cells.size with h|h
     ·exact h
     ·rw[Array.getElem?_eq_none h]at hd;cases hd
    rw[Nat.add_zero,f3 _ (by rw[Nat.succ_mul];omega),e3,if_pos (by simp;omega)];simpa using hd
   |succ i=>
    have:=f4 i u' f d (by simpa using hi) hd;rw[show k+(i+1)=k+1+i from by omega];exact this
section
variable{P:Program}{E:Env}{x:Ctx}{w:World}{h:Ah}{n n':Nat→Prop}{L:List AV}{U:Nat→Value}{ρ:Option Nat→Am}
theorem V6{ty:List (Option Nat)}:∀{vs:List AV} {us:List Value} {h:Ah} {L:List AV} {U:Nat→Value} {ρ:Option Nat→Am} {S:Af} {ts:Array Value} {K:List (List AV)→Af→Ah→Prop},
 Bp x w h n L U ρ→Aw x w h n ρ S ts→vs.length=us.length→
 (∀(i:Nat) v u,vs[i]? =some v→us[i]? =some u→v≠.undef→v.cells.length=u.cells.size∧∀(j:Nat) c d,v.cells[j]? =some c→u.cells[j]? =some d→Mov x w h n ρ c d)→Jy S h ty vs K→
 ∃rows S' h' ρ' U',K rows S' h'∧Bp x w h' n (L++rows.flatten) U' ρ'∧Aw x w h' n ρ' S' ts∧rows.length=vs.length∧(∀r,r∈rows→r.length=ty.length)∧
  (∀(i:Nat) u (f:Nat) d,us[i]? =some u→u.cells[f]? =some d→U' (L.length+(i*ty.length+f))=d)∧(∀j,j<L.length→U' j=U j)∧∀u,u∈us→u.cells.size=ty.length
 |[],us,h,L,U,ρ,S,ts,K,H,hs,hl,hm,hk=>by
  have:us=[]:=by cases us with|nil=>rfl|cons a r=>simp at hl
  subst this;exact⟨[],S,h,ρ,U,hk,by simpa using H,hs,rfl,by simp,by simp,fun _ _=>rfl,by simp⟩
 |v::vs,us,h,L,U,ρ,S,ts,K,H,hs,hl,hm,hk=>by
  obtain⟨u,us,rfl⟩:∃a r,us=a::r:=by cases us with|nil=>simp at hl|cons a r=>exact⟨a,r,rfl⟩
  simp only[Jy]at hk;have hvu:v≠.undef:=by
   rintro rfl;cases hq:ty with
   |nil=>simp[AV.cells,hq,C1]at hk
   |cons c r=>simp[AV.cells,hq,C1,Em]at hk
  obtain⟨c1,c2⟩:=hm 0 v u rfl rfl hvu;obtain⟨cs,S1,h1,ρ1,U1,hk1,H1,hs1,hl1,hl2,hU,hU0,hmv,hone⟩:=Kj (us:=u.cells.toList) H hs (by simpa using c1) (fun i c d hc hd=>c2 i c d hc (by simpa using hd)) hk;obtain⟨rows,S2,h2,ρ2,U2,hk2,H2,hs2,g1,g2,g3,g4,g5⟩:=V6 (us:=us) H1 hs1 (by simpa using hl) (fun i v' u' hv hu hne=>by
   obtain⟨d1,d2⟩:=hm (i+1) v' u' (by simpa using hv) (by simpa using hu) hne;exact⟨d1,fun j c d hc hd=>hmv _ _ (d2 j c d hc hd)⟩) hk1
  have hsz:u.cells.size=ty.length:=by omega
  refine⟨cs::rows,S2,h2,ρ2,U2,hk2,by simpa using H2,hs2,by simp[g1],?_,?_,?_,?_⟩
  ·intro r hr
   rcases List.mem_cons.1 hr with rfl|hr
   ·omega
   ·exact g2 r hr
  ·intro i u' f d hi hd
   cases i with
   |zero=>
    simp only[List.getElem?_cons_zero,Option.some.injEq]at hi;subst hi;have hf:f<u.cells.size:=by
     rcases Nat.lt_or_ge f u.cells.size with h|h
     ·exact h
     ·rw[Array.getElem?_eq_none h]at hd;cases hd
    rw[g4 _ (by simp;omega)];have:=hU f d (by simpa using hd);rw[←this];congr 1;omega
   |succ i=>
    rw[←g3 i u' f d (by simpa using hi) hd];congr 1;simp;rw[Nat.succ_mul];omega
  ·intro j hj
   rw[g4 j (by simp;omega),hU0 j hj]
  ·intro u' hu'
   rcases List.mem_cons.1 hu' with rfl|hu'
   ·exact hsz
   ·exact g5 u' hu'
theorem A47(hT:TOk P E){N:Nat}{S:Af}{a:Act}(H:Bp x w h n [] (fun _=>undef) ρ)(hs:Aw x w h n ρ S a.tmps)(hN:a.tmps.size=N)(hdf:a.defers=[]){id:Nat}(hid:Tb n id)
 {o:Oper}(hd:∀k,o.dst=some k→k<N){t m:Nat}{parts:Array (Nat×Operand)}(ho:o.op=.buildSlice t m parts){K:Af→Ah→Prop}(hk:B0 E id o none S h K):N0 P x N o a w (Ln n id) K:=by
 obtain⟨dst,op,type,pos,after,guard⟩:=o;simp only at ho;subst ho;simp only[B0]at hk;obtain⟨e,ty,hte,hty,hu,hk⟩:=Md hT hk;obtain⟨h24,hk⟩:=Bj hk;obtain⟨vs,hk,hl,hv⟩:=Le hs (g:=none) trivial hk;obtain⟨rows,S',h',ρ',U',hk,H',hs',g1,g2,g3,_,g5⟩:=V6 (us:=(parts.toList.map fun q=>q.2).map a.eval) H hs (by simpa using hl) (fun i v u hv' hu' hne=>by
  rw[List.getElem?_map]at hu';cases hy:(parts.toList.map fun q=>q.2)[i]? with
  |none=>rw[hy]at hu';cases hu'
  |some y=>
   rw[hy]at hu';simp only[Option.map_some,Option.some.injEq]at hu';subst hu';obtain⟨c1,c2⟩:=U8 (hv i v y hv' hy) hne;refine⟨c1,fun j c d hc hd=>?_⟩;obtain⟨d',e1,e2⟩:=c2 j c hc;have:d'=d:=by simpa[e1]using hd
   subst this;exact e2.mov) hk
 cases hr:R8 0 (parts.toList.map fun q=>q.1)with
 |false=>rw[hr]at hk;exact hk.elim
 |true=>
  rw[hr]at hk;obtain⟨hm,hk⟩:=C8 hk;have hst:=hty.strides;have hlen:rows.length=parts.toList.length:=by rw[g1,hl];simp
  obtain⟨i,z,q1,q2,_⟩:=hty.info;obtain⟨zc,hzc⟩:∃zc:Array Value,(if m*ty.size=0 then(#[]:Array Value)else z.cells)=zc:=⟨_,rfl⟩
  obtain⟨i',z',p1,p2,p3,p4,_⟩:=hty.info;obtain⟨C,f1,f2,f3,f4⟩:=A8e (s:=ty.size) ((parts.toList.map fun q=>q.2).map a.eval) 0 ((Array.range (m*ty.size)).map fun q=>(if m*ty.size=0 then(#[]:Array Value)else z'.cells)[q%(if m*ty.size=0 then(#[]:Array Value)else z'.cells).size]!) (fun u hu=>by rw[←hst];exact g5 u hu)
   (by simp only[Nat.zero_add,List.length_map,Array.size_map,Array.size_range,hm,hlen,Nat.le_refl])
  have hlz:((parts.toList.map fun q=>q.2).map a.eval).length=(parts.toList.map fun q=>q.1).length:=by simp
  rw[hlz,←A5x hr,A2d]at f1;have hrun:(Instr.buildSlice t m (parts.map fun(i,x)=>(i,a.eval x))).run P w=.ok (.slice (some ⟨w.heap.size,0,none⟩) m m) (w.alloc (.cells C e)):=by
   have hpl:(parts.map fun(i,x)=>(i,a.eval x)).toList=parts.toList.map fun(i,x)=>(i,a.eval x):=by rw[Array.toList_map]
   simp only[Instr.buildSlice,Sem.run_bind,run_underlying P w t _ hu,Result.andThen_ok,hty.sizeOf];rw[if_neg (by have:(2:Nat)^24=16777216:=by decide
                                                                                                                 omega)]
   by_cases hz0:m*ty.size=0
   ·simp only[hz0,if_true]at f1
    simp only[hz0,if_true,Sem.run_bind,Sem.run_pure,Result.andThen_ok,hpl,f1,Jp]
   ·simp only[hz0,if_false]at f1
    simp only[hz0,if_false,Sem.run_bind,Ip P w e i' z' p1 p4,Result.andThen_ok,Sem.run_pure,hpl,f1,Jp]
  refine⟨_,_,hk,_,.inl ⟨_,Pn hrun,?_⟩⟩;have hrow:∀r,r∈rows→r.length=ty.size:=fun r hr=>by rw[g2 r hr];exact hst
  have:=(Stt.fresh H' hs' hN hdf hd hid (e:=e) (C:=C) (fz:=(0,0)) (s:=ty.size) (cap:=m) (rows:=rows) (B7l _) hrow ?_ ?_ (by omega) (by rw[f2];simp)).1
  ·rw[hm]
   simpa only[←hm]using this
  ·intro j f c hc
   simpa using Vg hrow hc
  ·intro j f c hc
   have hl2:=Hw hrow hc;obtain⟨u,hu2⟩:∃u,((parts.toList.map fun q=>q.2).map a.eval)[j]? =some u:=⟨_,List.getElem?_eq_getElem (by simp;have:=hl2.1;simp at hlen;omega)⟩
   have hus:=g5 u (List.mem_of_getElem? hu2);obtain⟨d,hd2⟩:∃d,u.cells[f]? =some d:=⟨_,Array.getElem?_eq_getElem (by rw[hus,hst];exact hl2.2)⟩
   have e1:=f4 j u f d hu2 hd2;have e2:=g3 j u f d hu2 hd2;simp only[List.length_nil,Nat.zero_add,hst]at e1 e2;rw[e1,e2]
end
def Ht(V:Nat→Nat→Value)(m s:Nat):List Value:=(List.range (m*s)).map fun q=>V (q/s) (q%s)
theorem Hj(V:Nat→Nat→Value)(m s:Nat):(Ht V m s).length=m*s:=by simp[Ht]
theorem K9{V:Nat→Nat→Value}{m s i f:Nat}(hi:i<m)(hf:f<s):(Ht V m s)[i*s+f]? =some (V i f):=by
 have hlt:i*s+f<m*s:=by
  have:i*s+s≤m*s:=by rw[←Nat.succ_mul];exact Nat.mul_le_mul_right s hi
  omega
 have h1:(i*s+f)/s=i:=by rw[Nat.mul_comm,Nat.mul_add_div (by omega),Nat.div_eq_of_lt hf];omega
 have h2:(i*s+f)%s=f:=by rw[Nat.mul_comm,Nat.mul_add_mod,Nat.mod_eq_of_lt hf]
 simp[Ht,List.getElem?_range hlt,h1,h2]
structure Xw(P:Program)(w:World)(s m:Nat)(V:Nat→Nat→Value)(u:Value):Prop where
 len:∀w',(Builtin.lenOf u).run P w'=.ok m w'
 cells:∀w',w'.heap=w.heap→(Builtin.firstCells s m u).run P w'=.ok (Ht V m s).toArray w'
section
variable{P:Program}{E:Env}{x:Ctx}{w:World}{h:Ah}{n n':Nat→Prop}{L:List AV}{U:Nat→Value}{ρ:Option Nat→Am}
theorem Qw{ad:Addr}{m s cap:Nat}{V:Nat→Nat→Value}(hc:∀i f,i<m→f<s→w.cell? (ad.add (i*s+f))=some (V i f)):Xw P w s m V (.slice (some ad) m cap)where
 len:=fun w'=>by simp[Builtin.lenOf]
 cells:=fun w' hw=>by
  have hs:∀j v,(Ht V m s)[j]? =some v→w'.cell? (ad.add j)=some v:=by
   intro j v hj;have hlt:j<m*s:=by
    rcases Nat.lt_or_ge j (m*s)with h|h
    ·exact h
    ·rw[List.getElem?_eq_none (by rw[Hj];exact h)]at hj;cases hj
   have hpos:0<s:=by
    rcases Nat.eq_zero_or_pos s with h|h
    ·subst h;simp at hlt
    ·exact h
   have hi:j/s<m:=Nat.div_lt_of_lt_mul (by rw[Nat.mul_comm];exact hlt);have hf:=Nat.mod_lt j hpos;have hd:j/s*s+j%s=j:=by rw[Nat.mul_comm];exact Nat.div_add_mod j s
   have h1:=hc _ _ hi hf;have h2:=K9 (V:=V) hi hf;rw[hd]at h1 h2;rw[hj]at h2;simp only[Option.some.injEq]at h2;unfold World.cell? at h1⊢;rw[hw,h2];exact h1
  exact run_firstCells_some (P:=P) w' s m ad m cap (Ht V m s) (Hj V m s) hs
theorem U5{ad:Option Addr}{s cap:Nat}{V:Nat→Nat→Value}:Xw P w s 0 V (.slice ad 0 cap):=by
 cases ad with
 |some ad=>exact Qw (fun i f hi=>by omega)
 |none=>exact⟨fun w'=>by simp[Builtin.lenOf],fun w' _=>by simp[Builtin.firstCells,Ht]⟩
theorem A1o{s:Nat}{xs:List (List AV)}{u:Value}{ρ:Am}(hr:Rep x w ρ (.own s xs) u):∃V,Xw P w s xs.length V u∧(∀r,r∈xs→r.length=s)∧∀i f d,As xs i f=some d→Rep x w (fun q=>ρ ((i,f)::q)) d (V i f):=by
 cases hr with
 |own0=>exact⟨fun _ _=>undef,U5,by simp,by simp[As]⟩
 |own V hρ hcap hrow hb hroom hc hr1=>
  refine⟨V,Qw fun i f hi hf=>?_,hrow,fun i f d hd=>(hr1 i f d hd).congr fun q=>rfl⟩;obtain⟨d,hd⟩:=Ny hrow hi hf;rw[Je,hb.cell];exact hc i f d hd
theorem A7f{S:Af}{ts:Array Value}{keep:Bool}{sz:Nat}{v:AV}{u:Value}{K:List (List AV)→Af→Ah→Prop}(H:Bp x w h n L U ρ)(hs:Aw x w h n ρ S ts)(hm:Mov x w h n ρ v u)
 (hk:Kg S h keep sz v K):∃ys S' h' ρ' V,K ys S' h'∧Aw x w h' n ρ' S' ts∧(∀v u,Mov x w h n ρ v u→Mov x w h' n ρ' v u)∧(∀r,r∈ys→r.length=sz)∧Xw P w sz ys.length V u∧
   ((Bp x w h' n L U ρ'∧∀i f d,As ys i f=some d→Rep x w Ax d (V i f))∨
    (Bp x w h' n (L++[.own sz ys]) (Jg U L.length u) ρ'∧∀i f d,As ys i f=some d→Rep x w (fun q=>ρ' none ((0,L.length)::(i,f)::q)) d (V i f))):=by
 cases v with
 |view g p off len=>
  obtain⟨s,xs,hg,hk1⟩:=Bv hk;obtain⟨e1,hk2⟩:=C8 hk1;clear hk hk1;subst e1;have hk:=hk2;clear hk2;have hv:=hm _ _ hg;cases keep with
  |false=>
   simp only[Ir]at hk;have H1:=H.detach hg hv;have hl:=H1.loose L.length (.own s ((xs.drop off).take len)) (by simp);simp only[Jg,if_true]at hl;obtain⟨V,h1,h2,h3⟩:=A1o (P:=P) hl;exact⟨_,_,_,_,V,hk,hs.kill H hg _ _,fun _ _ h=>h.kill hg _ _,h2,h1,.inr ⟨H1,h3⟩⟩
  |true=>
   obtain⟨hno,hk⟩:=hk;refine⟨(xs.drop off).take len,S,h,ρ,?_⟩;cases hv with
   |cell hr=>cases hr
   |gone h0=>exact absurd h0 (L3 hg)
   |view0 hg' hl=>
    refine⟨fun _ _=>undef,hk,hs,fun _ _ h=>h,by simp,?_,.inl ⟨H,by simp[As]⟩⟩;rw[List.take_zero];exact U5
   |view hg' hl hcap hρ hb hroom=>
    rename_i s2 xs2 cap b o c;rw[hg]at hg';simp only[Option.some.injEq,AV.own.injEq]at hg';obtain⟨rfl,rfl⟩:=hg';obtain⟨c',V,hb',hrow,hcell⟩:=H.cells hg hρ;have hlen:((xs.drop off).take len).length=len:=by simp;omega
    have hrow':∀r,r∈(xs.drop off).take len→r.length=s:=fun r hr=>hrow r (List.mem_of_mem_drop (List.mem_of_mem_take hr));refine⟨fun i f=>V (off+i) f,hk,hs,fun _ _ h=>h,hrow',?_,.inl ⟨H,fun i f d hd=>?_⟩⟩
    ·rw[hlen]
     refine Qw fun i f hi hf=>?_;obtain⟨d,hd⟩:=Ny hrow' (by rw[hlen];exact hi) hf;rw[La hi]at hd;rw[Je,hb'.cell,←(hcell _ _ _ hd).1];congr 1;rw[Nat.add_mul];omega
    ·have hlt:=Hw hrow' hd
     rw[hlen]at hlt;have hd':=hd;rw[La hlt.1]at hd';refine(hcell _ _ _ hd').2.of_not_own ?_;obtain⟨r,hr1,hr2⟩:=A2q hd;exact hno r (List.mem_of_getElem? hr1) d (List.mem_of_getElem? hr2)
 |rd s xs=>
  obtain⟨e1,hk2⟩:=C8 hk;clear hk;subst e1;have hk:=hk2;clear hk2;have hr:=hm rfl;cases hr with
  |rd V hcap hrow hc hr=>
   rename_i ad cap;refine⟨xs,S,h,ρ,V,hk,hs,fun _ _ h=>h,hrow,?_,.inl ⟨H,hr⟩⟩;cases ad with
   |none=>
    have hx:xs=[]∨s=0:=by
     rcases Nat.eq_zero_or_pos s with h0|h0
     ·exact .inr h0
     ·left
      rcases Nat.eq_zero_or_pos xs.length with h1|h1
      ·exact List.eq_nil_of_length_eq_zero h1
      ·obtain⟨d,hd⟩:=Ny hrow h1 h0
       obtain⟨_,_,e,_⟩:=hc _ _ _ hd;cases e
    refine⟨fun w'=>by simp[Builtin.lenOf],fun w' _=>?_⟩;rcases hx with rfl|rfl<;>simp[Builtin.firstCells,Ht]
   |some ad=>
    refine Qw fun i f hi hf=>?_;obtain⟨d,hd⟩:=Ny hrow hi hf;obtain⟨b',o',e1,h3,h4,h5⟩:=hc _ _ _ hd;simp only[Option.some.injEq]at e1;subst e1;rw[Je,H.cell0 h3 h4];exact h5
 |nils=>
  have:u=.slice none 0 0:=hm;subst this;exact⟨[],S,h,ρ,fun _ _=>undef,hk,hs,fun _ _ h=>h,by simp,U5,.inl ⟨H,by simp[As]⟩⟩
 |emp=>
  obtain⟨a,rfl⟩:∃a,u=.slice a 0 0:=hm;exact⟨[],S,h,ρ,fun _ _=>undef,hk,hs,fun _ _ h=>h,by simp,U5,.inl ⟨H,by simp[As]⟩⟩
 |str bs=>
  obtain⟨e1,hk2⟩:=C8 hk;clear hk;subst e1;have hk:=hk2;clear hk2;have hr:=hm rfl;cases hr;refine⟨_,S,h,ρ,fun i _=>.int .u8 (bs.getD i 0).toNat,hk,hs,fun _ _ h=>h,by simp,⟨fun w'=>by simp[Builtin.lenOf,Dn,X4],fun w' _=>?_⟩,.inl ⟨H,fun i f d hd=>?_⟩⟩
  ·have hl:(bs.map fun b=>[AV.int .u8 b.toNat]).length=(ByteArray.mk ⟨bs⟩).size:=by simp[X4]
   rw[hl];simp only[Builtin.firstCells,Dn,Sem.run_pure];congr 1;apply Array.ext_getElem?;intro j;have hx:(ByteArray.mk ⟨bs⟩).extract 0 (ByteArray.mk ⟨bs⟩).size=ByteArray.mk ⟨bs⟩:=by rw[A52];simp[X4]
   rw[hx,Array.getElem?_map];by_cases hj:j<bs.length
   ·have h1:=K9 (V:=fun i _=>Value.int .u8 (bs.getD i 0).toNat) (m:=(ByteArray.mk ⟨bs⟩).size) (s:=1) (i:=j) (f:=0) hj (by omega)
    have e:j*1+0=j:=by omega
    rw[e]at h1;simp only[List.getElem?_toArray];rw[h1];simp[hj]
   ·have h1:(Ht (fun i _=>Value.int .u8 (bs.getD i 0).toNat) (ByteArray.mk ⟨bs⟩).size 1)[j]? =none:=List.getElem?_eq_none (by rw[Hj,X4];omega)
    simp only[List.getElem?_toArray];rw[h1];simp;omega
  ·obtain⟨rfl,b,hb,rfl⟩:=Yc hd
   simp only[List.getD_eq_getElem?_getD,hb,Option.getD_some];exact .int
 |_=>exact hk.elim
theorem A85{S:Af}{ts:Array Value}{sz:Nat}{v:AV}{u:Value}{K:List (List AV)→Af→Ah→Prop}(H:Bp x w h n L U ρ)(hs:Aw x w h n ρ S ts)(hm:Mov x w h n ρ v u)(hv:T2 v=false)
 (hk:Kg S h false sz v K):∃xs S' h' ρ',K xs S' h'∧Aw x w h' n ρ' S' ts∧Bp x w h' n (L++[.own sz xs]) (Jg U L.length u) ρ':=by
 cases v with
 |view g p off len=>
  obtain⟨s,xs,hg,hk1⟩:=Bv hk;obtain⟨e1,hk2⟩:=C8 hk1;clear hk hk1;subst e1;have hk:=hk2;clear hk2;simp only[Ir]at hk;exact⟨_,_,_,_,hk,hs.kill H hg _ _,H.detach hg (hm _ _ hg)⟩
 |nils=>
  have:u=.slice none 0 0:=hm;subst this;exact⟨[],S,h,ρ,hk,hs,H.push .own0⟩
 |emp=>
  obtain⟨a,rfl⟩:∃a,u=.slice a 0 0:=hm;exact⟨[],S,h,ρ,hk,hs,H.push .own0⟩
 |rd s xs=>cases hv
 |str s=>cases hv
 |_=>exact hk.elim
theorem C1t{d:TypeDesc}(h:∀k,d≠.int k):(match d with|.int _=>true|_=>false)=false:=by
 cases d<;>first|rfl|exact absurd rfl (h _)
theorem Xh(ts:Array TypeId)(ty:TypeId){t e:TypeId}(h0:ts[0]? =some t)(ht:P.underlying t=some (.slice e))(h1:∀t1,ts[1]? =some t1→∃d,P.underlying t1=some d∧(∀k,d≠.int k))
 {i:TypeInfo}(hi:P.info? e=some i){base:Option Addr}{sLen sCap k:Nat}{u:Value}{V:Nat→Nat→Value}(hr:Xw P w i.size k V u)(hle:sLen+k≤sCap){w':World}
 (hst:∀ad,base=some ad→(storeCells (ad.add (sLen*i.size)) (Ht V k i.size)).run P w=.ok () w')(hn:base=none→w'=w):
 (Builtin.append_ ts ty #[.slice base sLen sCap,u]).run P w=.ok (.slice base (sLen+k) sCap) w':=by
 have a0:(#[Value.slice base sLen sCap,u]:Array Value)[0]? =some (.slice base sLen sCap):=rfl;have a1:(#[Value.slice base sLen sCap,u]:Array Value)[1]? =some u:=rfl;unfold Builtin.append_;simp only[h0,a0,a1];simp only[Sem.run_bind,run_underlying P w t _ ht,Result.andThen_ok,Qv P w e i hi];cases hts:ts[1]? with
 |none=>
  simp only[Sem.run_bind,Sem.run_pure,Result.andThen_ok,Bool.false_eq_true,if_false,Bool.not_false,if_true,hr.len,hle,hr.cells w rfl];cases base with
  |none=>
   obtain rfl:=hn rfl;rfl
  |some ad=>
   simp only[Sem.run_bind,hst ad rfl,Result.andThen_ok,Sem.run_pure]
 |some t1=>
  obtain⟨d,hd,hne⟩:=h1 t1 hts;simp only[Sem.run_bind,run_underlying P w t1 d hd,Result.andThen_ok,Sem.run_pure,C1t hne,Bool.false_eq_true,if_false,Bool.not_false,if_true,hr.len,hle,hr.cells w rfl];cases base with
  |none=>
   obtain rfl:=hn rfl;rfl
  |some ad=>
   simp only[Sem.run_bind,hst ad rfl,Result.andThen_ok,Sem.run_pure]
theorem A60(ts:Array TypeId)(ty:TypeId){t e:TypeId}(h0:ts[0]? =some t)(ht:P.underlying t=some (.slice e))(h1:∀t1,ts[1]? =some t1→∃d,P.underlying t1=some d∧(∀k,d≠.int k))
 {i:TypeInfo}{z:Value}(hi:P.info? e=some i)(hz:i.zero=some z){base:Option Addr}{sLen sCap k:Nat}{u:Value}{V W:Nat→Nat→Value}(hr:Xw P w i.size k V u)(hb:Xw P w i.size sLen W (.slice base sLen sCap))(hgt:¬sLen+k≤sCap)
 (hfit:(sLen+k)*i.bytes≤140737488355328)(h63:sLen+k≤9223372036854775807):
 (Builtin.append_ ts ty #[.slice base sLen sCap,u]).run P w=.ok (.slice (some ⟨w.heap.size,0,none⟩) (sLen+k) (grownCap w (sLen+k) sCap e))
   (w.drew.alloc (.cells ((Ht W sLen i.size).toArray++(Ht V k i.size).toArray++Builtin.zeroCells z.cells (grownCap w (sLen+k) sCap e - (sLen+k))) e)):=by
 have a0:(#[Value.slice base sLen sCap,u]:Array Value)[0]? =some (.slice base sLen sCap):=rfl;have a1:(#[Value.slice base sLen sCap,u]:Array Value)[1]? =some u:=rfl;have hlim:=growslice_fits (need:=sLen+k) (old:=sCap) (bytes:=i.bytes) (by omega) hfit;have h48:¬(Builtin.nextslicecap (sLen+k) sCap*i.bytes>2^48):=by
  have:(2:Nat)^48=281474976710656:=by decide
  omega
 have hmx:¬(((sLen+k:Nat):Int)>IntKind.i64.max∧(false=true∨i.bytes=0)):=by
  have:IntKind.i64.max=9223372036854775807:=by decide
  rw[this];omega
 have hdr:w.drew.heap=w.heap:=rfl;have fin:∀(q:Question),q=.appendCap (sLen+k) sCap e→(choose q).run P w=.ok (grownCap w (sLen+k) sCap e) w.drew:=by
  rintro q rfl;rw[run_choose_drew];simp[Question.forced,grownCap]
 unfold Builtin.append_;simp only[h0,a0,a1];simp only[Sem.run_bind,run_underlying P w t _ ht,Result.andThen_ok,Qv P w e i hi];cases hts:ts[1]? with
 |none=>
  simp only[Sem.run_bind,Sem.run_pure,Result.andThen_ok,Bool.false_eq_true,if_false,Bool.not_false,if_true,hr.len,hgt,G7 P w e i hi,hmx,h48,fin _ rfl,G7 P w.drew e i hi,run_askRoom,
   hr.cells w.drew hdr,hb.cells w.drew hdr,Ip P w.drew e i z hi hz,Jp,false_or]
  rw[if_neg (show¬(((sLen+k:Nat):Int)>IntKind.i64.max∧i.bytes=0)from fun hh=>hmx ⟨hh.1,.inr hh.2⟩)];simp only[Sem.run_bind,G7 P w e i hi,Result.andThen_ok,h48,if_false,fin _ rfl,G7 P w.drew e i hi,run_askRoom,hr.cells w.drew hdr,hb.cells w.drew hdr,Ip P w.drew e i z hi hz,Jp,Sem.run_pure];rfl
 |some t1=>
  obtain⟨d,hd,hne⟩:=h1 t1 hts;simp only[Sem.run_bind,run_underlying P w t1 d hd,C1t hne,Sem.run_pure,Result.andThen_ok,Bool.false_eq_true,if_false,Bool.not_false,if_true,hr.len,hgt,G7 P w e i hi,hmx,h48,fin _ rfl,G7 P w.drew e i hi,run_askRoom,
   hr.cells w.drew hdr,hb.cells w.drew hdr,Ip P w.drew e i z hi hz,Jp,false_or]
  rw[if_neg (show¬(((sLen+k:Nat):Int)>IntKind.i64.max∧i.bytes=0)from fun hh=>hmx ⟨hh.1,.inr hh.2⟩)];simp only[Sem.run_bind,G7 P w e i hi,Result.andThen_ok,h48,if_false,fin _ rfl,G7 P w.drew e i hi,run_askRoom,hr.cells w.drew hdr,hb.cells w.drew hdr,Ip P w.drew e i z hi hz,Jp,Sem.run_pure];rfl
end
section
variable{P:Program}{E:Env}{x:Ctx}{w:World}{h:Ah}{n n':Nat→Prop}{L:List AV}{U:Nat→Value}{ρ:Option Nat→Am}
theorem Wm.some_kind{t:Nat}{ty:Ty}(ht:Wm P t ty)(hn:∀k,ty.k≠.int k):∃d,P.underlying t=some d∧∀k,d≠.int k:=by
 have hk:=ht.kind;cases hq:ty.k<;>rw[hq]at hk<;>simp only at hk;case int k=>exact absurd hq (hn k)
 case struct fs=>
  obtain⟨_,_,fields,h1,_⟩:=hk;exact⟨_,h1,by simp⟩
 case iface=>
  obtain⟨ms,h1⟩:=hk;exact⟨_,h1,by simp⟩
 all_goals exact⟨_,hk,by simp⟩
theorem A57(z:Array Value)(m:Nat):(Builtin.zeroCells z m).size=m*z.size:=by simp[Builtin.zeroCells]
def C0f(ρ:Option Nat→Am)(my:Option Nat)(i f:Nat):Am:=fun q=>match my with
 |some jy=>ρ none ((0,jy)::(i,f)::q)
 |none=>none
theorem C0t{N:Nat}{S:Af}{a:Act}(H:Bp x w h n L U ρ)(hs:Aw x w h n ρ S a.tmps)(hN:a.tmps.size=N)(hdf:a.defers=[]){d:Option Nat}(hd:∀k,d=some k→k<N){id:Nat}(hid:Tb n id)
 {ts:Array TypeId}{rt t e:TypeId}(h0:ts[0]? =some t)(ht:P.underlying t=some (.slice e))(h1:∀t1,ts[1]? =some t1→∃d,P.underlying t1=some d∧(∀k,d≠.int k)){ty:Ty}(hty:Wm P e ty)
 {jx:Nat}{my:Option Nat}{xs ys:List (List AV)}(hjx:L[jx]? =some (.own ty.size xs))(hjy:∀jy,my=some jy→jy≠jx∧L[jy]? =some (.own ty.size ys))(hry:∀r,r∈ys→r.length=ty.size)
 {V:Nat→Nat→Value}{uy:Value}(hY:Xw P w ty.size ys.length V uy)
 (hV:∀i f c,As ys i f=some c→Rep x w (C0f ρ my i f) c (V i f))
 (hfit:(xs.length+ys.length)*ty.bytes≤140737488355328)(h63:xs.length+ys.length≤9223372036854775807):
 ∃u w',(Builtin.append_ ts rt #[U jx,uy]).run P w=.ok u w'∧Stt x N (Bc S d none (.view id [] 0 (xs.length+ys.length))) ((id,.own ty.size (xs++ys))::h) (Ln n id) (a.put d u) w':=by
 have hid0:¬n id:=hid id (Nat.le_refl _) (by omega);obtain⟨i,z,hi,hisz,hib,hiz,hzsz,_,_⟩:=hty.info;have hrx:=H.loose jx _ hjx;have hXs:∃W,Xw P w ty.size xs.length W (U jx)∧(∀r,r∈xs→r.length=ty.size)∧∀i f d,As xs i f=some d→Rep x w (fun q=>ρ none ((0,jx)::(i,f)::q)) d (W i f):=by
  obtain⟨W,q1,q2,q3⟩:=A1o (P:=P) hrx;exact⟨W,q1,q2,fun i f d hd=>(q3 i f d hd).congr fun q=>rfl⟩
 obtain⟨W,hX,hrowx,hW⟩:=hXs;have hjx':∀{c:AV},As (xs++ys) 0 0=some c→True:=fun _=>trivial;have hVV:∀base i f c,As (xs++ys) i f=some c→Rep x w (fun q=>F9 ρ id base jx my xs.length ys.length ty.size (some id) ((i,f)::q)) c (if i<xs.length then W i f else V (i - xs.length) f):=by
  intro base i f c hc;rw[M8]at hc;by_cases hix:i<xs.length
  ·rw[if_pos hix]at hc⊢
   have hl:=Hw hrowx hc;refine(hW i f c hc).congr fun q=>?_;simp[F9,hix,hl.2]
  ·rw[if_neg hix]at hc⊢
   have hl:=Hw hry hc;refine(hV _ f c hc).congr fun q=>?_;have:i<xs.length+ys.length:=by omega
   simp only[F9,if_true,hl.2,hix,this,if_false,C0f];cases my<;>rfl
 have conc:∀{base:Option (Nat×Nat)} {w':World} {u:Value},Bp x w' ((id,.own ty.size (xs++ys))::h) (ext n id) [] (fun _=>undef) (F9 ρ id base jx my xs.length ys.length ty.size)→
  (∀g q b o,ρ (some g) q=some (b,o)→w'.heap[b]? =w.heap[b]?)→Az x w' ((id,.own ty.size (xs++ys))::h) (ext n id) (F9 ρ id base jx my xs.length ys.length ty.size) (.view id [] 0 (xs.length+ys.length)) u→
  Stt x N (Bc S d none (.view id [] 0 (xs.length+ys.length))) ((id,.own ty.size (xs++ys))::h) (Ln n id) (a.put d u) w':=by
  intro base w' u H' hold hu;exact Stt.put H' (Aw.appended H hs hid0 _ hold) hN hdf hd (fun _=>hu) (by simp) A5g
 have hget:hget ((id,.own ty.size (xs++ys))::h) id []=some (.own ty.size (xs++ys)):=by simp[Go.GH.hget,Ac,AV.get]
 have fresh:∀{base:Option Addr} {cap:Nat},U jx=.slice base xs.length cap→¬xs.length+ys.length≤cap→∃u w',(Builtin.append_ ts rt #[U jx,uy]).run P w=.ok u w'∧
  Stt x N (Bc S d none (.view id [] 0 (xs.length+ys.length))) ((id,.own ty.size (xs++ys))::h) (Ln n id) (a.put d u) w':=by
  intro base cap hux hgt;have hX':=hX;rw[hux]at hX'⊢;rw[←hisz]at hX';have hY':=hY;rw[←hisz]at hY';have hrun:=A60 (P:=P) (w:=w) ts rt h0 ht h1 hi hiz hY' hX' hgt (by rw[hib];exact hfit) h63;refine⟨_,_,hrun,?_⟩;rw[hisz];have hgc:xs.length+ys.length≤grownCap w (xs.length+ys.length) cap e:=by
   unfold grownCap Question.cut;exact Nat.le_add_right _ _
  obtain⟨cap',hcap'⟩:∃c,grownCap w (xs.length+ys.length) cap e=c:=⟨_,rfl⟩
  rw[hcap']at hgc⊢;obtain⟨C,hC⟩:∃C,(Ht W xs.length ty.size).toArray++(Ht V ys.length ty.size).toArray++Builtin.zeroCells z.cells (cap' - (xs.length+ys.length))=C:=⟨_,rfl⟩
  rw[hC];have hCs:C.size=cap'*ty.size:=by
   rw[←hC];simp only[Array.size_append,List.size_toArray,Hj,A57,hzsz];rw[←Nat.add_mul,←Nat.add_mul];congr 1;omega
  have hold:∀b,b<w.heap.size→(w.drew.alloc (.cells C e)).heap[b]? =w.heap[b]? :=fun b hb=>J4 w.drew _ hb;have hnew:Blk (w.drew.alloc (.cells C e)) w.heap.size C:=A4e w.drew C e (0,0) (B7l _);have H':=H.appended (w':=w.drew.alloc (.cells C e)) hid0 (base:=some (w.heap.size,0)) (cap:=cap') (V:=fun i f=>if i<xs.length then W i f else V (i - xs.length) f) hjx hjy hrowx hry
   (fun k q b o hp _=>hold b (H.block_lt hp)) (fun b hb=>hold b (H.rlt b hb)) (fun b hb hm=>by rw[hold b (by have:=H.size;omega)];exact H.frame b hb hm)
   (fun b c hb=>⟨c,hb.congr (hold b hb.lt),rfl⟩) (by show w.heap.size≤(w.heap.push _).size;simp) rfl rfl rfl
   (fun b o hbo=>by
     simp only[Option.some.injEq,Prod.mk.injEq]at hbo;obtain⟨rfl,rfl⟩:=hbo;refine⟨.inl (Nat.le_refl _),⟨.inl H.size,fun hr=>Nat.lt_irrefl _ (H.rlt _ hr)⟩,C,hnew,hgc,by omega,fun i f c hc=>?_⟩;rw[Nat.zero_add,←hC,Array.append_assoc];rw[M8]at hc;by_cases hix:i<xs.length
     ·rw[if_pos hix]at hc⊢
      have hl:=Hw hrowx hc;have hg:=K9 (V:=W) hl.1 hl.2;have hlt:i*ty.size+f<xs.length*ty.size:=by
       have:i*ty.size+ty.size≤xs.length*ty.size:=by rw[←Nat.succ_mul];exact Nat.mul_le_mul_right _ hl.1
       omega
      rw[Array.getElem?_append_left (by rw[List.size_toArray,Hj];exact hlt)];simpa using hg
     ·rw[if_neg hix]at hc⊢
      have hl:=Hw hry hc;have hg:=K9 (V:=V) hl.1 hl.2;have hlt:(i - xs.length)*ty.size+f<ys.length*ty.size:=by
       have:(i - xs.length)*ty.size+ty.size≤ys.length*ty.size:=by rw[←Nat.succ_mul];exact Nat.mul_le_mul_right _ hl.1
       omega
      have hsub:i*ty.size+f - xs.length*ty.size=(i - xs.length)*ty.size+f:=by
       rw[Nat.sub_mul];have:xs.length*ty.size≤i*ty.size:=Nat.mul_le_mul_right _ (by omega);omega
      have hge:xs.length*ty.size≤i*ty.size+f:=by
       have:xs.length*ty.size≤i*ty.size:=Nat.mul_le_mul_right _ (by omega);omega
      rw[Array.getElem?_append_right (by rw[List.size_toArray,Hj];exact hge),List.size_toArray,Hj,hsub];rw[Array.getElem?_append_left (by rw[List.size_toArray,Hj];exact hlt)];simpa using hg)
   (by simp) (hVV _)
  refine conc H' (fun g q b o hp=>hold b (H.block_lt hp)) ?_;have:=Az.view (x:=x) (w:=w.drew.alloc (.cells C e)) (n:=ext n id) (ρ:=F9 ρ id (some (w.heap.size,0)) jx my xs.length ys.length ty.size) (off:=0) (len:=xs.length+ys.length) (cap:=cap') (b:=w.heap.size) (o:=0) hget (by simp) hgc (by simp[F9]) hnew (by simp only[Nat.zero_add];omega);simpa using this
 generalize hU:U jx=ux at hrx;cases hrx with
 |own0=>
  rename_i ad;by_cases hk:ys.length=0
  ·have hys:ys=[]:=List.eq_nil_of_length_eq_zero hk
   subst hys;have hY':=hY;rw[←hisz]at hY';have hrun:=Xh (P:=P) (w:=w) ts rt h0 ht h1 hi (base:=ad) (sLen:=0) (sCap:=0) (w':=w) hY' (by simp) (fun ad _=>by simp[Ht,storeCells]) (fun _=>rfl);refine⟨_,_,hrun,?_⟩;have H':=H.appended (w':=w) hid0 (base:=none) (cap:=0) (V:=fun i f=>if i<([]:List (List AV)).length then W i f else V (i - ([]:List (List AV)).length) f) hjx hjy (by simp) (by simp) (fun _ _ _ _ _ _=>rfl) (fun _ _=>rfl)
    (fun b hb hm=>H.frame b hb hm) (fun b c hb=>⟨c,hb,rfl⟩) (Nat.le_refl _) rfl rfl rfl (fun b o hbo=>by cases hbo) (fun _=>rfl) (hVV none)
   refine conc H' (fun _ _ _ _ _=>rfl) ?_;exact .view0 hget (by simp)
  ·rw[←hU]
   exact fresh (base:=ad) (cap:=0) hU (by simp only[List.length_nil];omega)
 |own u1 hρ hcap hrow hb hroom hc hr1=>
  rename_i cap b o c;have hρ':ρ none [(0,jx)]=some (b,o):=hρ;by_cases hle:xs.length+ys.length≤cap
  ·have hmul:(xs.length+ys.length)*ty.size≤cap*ty.size:=Nat.mul_le_mul_right _ hle
   have hmul2:(xs.length+ys.length)*ty.size=xs.length*ty.size+ys.length*ty.size:=Nat.add_mul _ _ _;have hone:∀v,v∈Ht V ys.length ty.size→v.oneCell'=true:=by
    intro v hv;obtain⟨j,hj⟩:=List.getElem?_of_mem hv;have hlt:j<ys.length*ty.size:=by
     rcases Nat.lt_or_ge j (ys.length*ty.size)with h|h
     ·exact h
     ·rw[List.getElem?_eq_none (by rw[Hj];exact h)]at hj;cases hj
    have hp:0<ty.size:=hty.pos;have hi':j/ty.size<ys.length:=Nat.div_lt_of_lt_mul (by rw[Nat.mul_comm];exact hlt);have hf':=Nat.mod_lt j hp;have hg:=K9 (V:=V) hi' hf';rw[Nat.mul_comm,Nat.div_add_mod]at hg;rw[hj]at hg;simp only[Option.some.injEq]at hg;obtain⟨c',hc'⟩:=Ny hry hi' hf';have hrep:=hV _ _ c' hc';rw[hg];exact hrep.one
   obtain⟨w',c',r1,Wr,r2⟩:=Q7 P (Ht V ys.length ty.size) 0 w b (o+xs.length*ty.size) c hb (by rw[Hj];omega) hone;have hY':=hY;rw[←hisz]at hY';have hrun:=Xh (P:=P) (w:=w) ts rt h0 ht h1 hi (base:=some ⟨b,o,none⟩) (sLen:=xs.length) (sCap:=cap) (w':=w') hY' hle (fun ad had=>by
    simp only[Option.some.injEq]at had;subst had;rw[Je,hisz];exact r1) (fun h=>by cases h)
   refine⟨_,_,hrun,?_⟩;have hold:∀k q b' o',ρ k q=some (b',o')→¬(k=none∧q=[(0,jx)])→w'.heap[b']? =w.heap[b']? :=by
    intro k q b' o' hp hne;refine Wr.ne b' fun he=>hne ?_;subst he;exact H.inj _ _ _ _ _ _ _ hp hρ'
   obtain⟨hmine,_⟩:=H.mine _ _ _ _ hρ';have H':=H.appended (w':=w') hid0 (base:=some (b,o)) (cap:=cap) (V:=fun i f=>if i<xs.length then W i f else V (i - xs.length) f) hjx hjy hrow hry hold (fun b' hb'=>Wr.ne b' fun he=>hmine.2 (he▸hb'))
    (fun b' hb' hm=>by
      rw[Wr.ne b' (fun he=>?_)]
      ·exact H.frame b' hb' hm
      ·subst he
       rcases hmine.1 with h|h
       ·omega
       ·exact hm h)
    (fun b' c2 hb2=>by
      by_cases hbb:b'=b
      ·subst hbb
       obtain rfl:=hb.uniq hb2;exact⟨c',Wr.hb',Wr.sz⟩
      ·exact⟨c2,hb2.congr (Wr.ne b' hbb),rfl⟩) (by rw[Wr.size];exact Nat.le_refl _) Wr.os Wr.tape Wr.output
    (fun b' o' hbo=>by
      simp only[Option.some.injEq,Prod.mk.injEq]at hbo;obtain⟨rfl,rfl⟩:=hbo;refine⟨.inr ⟨o,hρ'⟩,hmine,c',Wr.hb',hle,by rw[Wr.sz];exact hroom,fun i f d hd=>?_⟩;rw[r2];rw[M8]at hd;by_cases hix:i<xs.length
      ·rw[if_pos hix]at hd⊢
       have hl:=Hw hrow hd;have hlt:i*ty.size+f<xs.length*ty.size:=by
        have:i*ty.size+ty.size≤xs.length*ty.size:=by rw[←Nat.succ_mul];exact Nat.mul_le_mul_right _ hl.1
        omega
       rw[if_neg (by omega)];have e1:=hc i f d hd;have e2:u1 i f=W i f:=by
        have q1:=(hX.cells w rfl)
        have q2:=(Qw (P:=P) (w:=w) (ad:=⟨b,o,none⟩) (m:=xs.length) (s:=ty.size) (cap:=cap) (V:=u1) (fun i f hi hf=>by
         obtain⟨d,hd⟩:=Ny hrow hi hf;rw[Je,hb.cell];exact hc i f d hd)).cells w rfl
        rw[hU,q2]at q1;simp only[Result.ok.injEq,and_true]at q1;have q3:Ht u1 xs.length ty.size=Ht W xs.length ty.size:=by simpa using q1
        have g1:=K9 (V:=u1) hl.1 hl.2;have g2:=K9 (V:=W) hl.1 hl.2;rw[q3,g2]at g1;simpa using g1.symm
       rw[e1,e2]
      ·rw[if_neg hix]at hd⊢
       have hl:=Hw hry hd;have hlt:(i - xs.length)*ty.size+f<ys.length*ty.size:=by
        have:(i - xs.length)*ty.size+ty.size≤ys.length*ty.size:=by rw[←Nat.succ_mul];exact Nat.mul_le_mul_right _ hl.1
        omega
       have hsub:i*ty.size+f=xs.length*ty.size+((i - xs.length)*ty.size+f):=by
        rw[Nat.sub_mul];have:xs.length*ty.size≤i*ty.size:=Nat.mul_le_mul_right _ (by omega);omega
       rw[if_pos (by rw[Hj];omega)];have hg:=K9 (V:=V) hl.1 hl.2;rw[←hg];congr 1;omega)
    (by simp) (hVV _)
   refine conc H' (fun g q b' o' hp=>hold _ _ _ _ hp (by simp)) ?_;have:=Az.view (x:=x) (w:=w') (n:=ext n id) (ρ:=F9 ρ id (some (b,o)) jx my xs.length ys.length ty.size) (off:=0) (len:=xs.length+ys.length) (cap:=cap) (b:=b) (o:=o) hget (by simp) hle (by simp[F9]) Wr.hb' (by rw[Wr.sz,Nat.zero_add];exact hroom);simpa using this
  ·rw[←hU]
   exact fresh hU hle
end
section
variable{P:Program}{E:Env}{x:Ctx}{w:World}{h:Ah}{n n':Nat→Prop}{L:List AV}{U:Nat→Value}{ρ:Option Nat→Am}
theorem B7g(hT:TOk P E){N:Nat}{S:Af}{a:Act}(H:Bp x w h n [] (fun _=>undef) ρ)(hs:Aw x w h n ρ S a.tmps)(hN:a.tmps.size=N)(hdf:a.defers=[]){id:Nat}(hid:Tb n id)
 {o:Oper}(hd:∀k,o.dst=some k→k<N){c:Call}(ho:o.op=.call c)(hc:c.callee=.builtin .append){K:Af→Ah→Prop}(hk:B0 E id o none S h K):N0 P x N o a w (Ln n id) K:=by
 obtain⟨dst,op,type,pos,after,guard⟩:=o;simp only at ho;subst ho;simp only[B0,hc]at hk;obtain⟨vs,hk,h2,h3⟩:=Le hs (g:=none) trivial hk;rcases vs with _|⟨y,_|⟨z,_|⟨q,r⟩⟩⟩<;>try exact hk.elim
 obtain⟨uy,uz,hargs,hy,hz⟩:∃u v,c.args.map a.eval=#[u,v]∧Az x w h n ρ y u∧Az x w h n ρ z v:=by
  obtain⟨args,hargs⟩:∃l,c.args=⟨l⟩:=⟨c.args.toList,rfl⟩
  rw[hargs]at h2 h3⊢;match args,h2,h3 with
  |[p,q],h2,h3=>exact⟨a.eval p,a.eval q,by simp,h3 0 y p rfl rfl,h3 1 z q rfl rfl⟩
 obtain⟨hts,hk⟩:=Bj hk;obtain⟨e,ty,hte,hty,hu,hk⟩:=Md hT hk;obtain⟨t1,ht1,hk⟩:=B9 hk;have hni:(∀k,t1.k≠.int k)∧Km ty S h id dst y z K:=by
  cases hq:t1.k<;>rw[hq]at hk<;>first|exact hk.elim|exact⟨(fun _ h=>by cases h),hk⟩
 obtain⟨hni,hk⟩:=hni;have h0:c.argTypes[0]? =some (c.argTypes.getD 0 0):=by
  have hlt:0<c.argTypes.size:=hts;simp[Array.getD_eq_getD_getElem?,hlt]
 have h1:∀q,c.argTypes[1]? =some q→∃d,P.underlying q=some d∧∀k,d≠.int k:=by
  intro q hq;have:c.argTypes.getD 1 0=q:=by simp[Array.getD_eq_getD_getElem?,hq]
  rw[this]at ht1;exact(hT q t1 ht1).some_kind hni
 unfold Km at hk;cases hrd:T2 y with
 |true=>rw[hrd]at hk;exact hk.elim
 |false=>
  rw[hrd]at hk;obtain⟨ys,S1,h1',ρ1,V,hk,hs1,hmv,hry,hY,hcase⟩:=A7f (P:=P) H hs hz.mov hk;obtain⟨cst,hres⟩:∃cst,(resolve a.eval c type).run P w=.ok {target:=.builtin .append c.argTypes type cst,args:=c.args.map a.eval} w:=
   ⟨_,by simp only[resolve,hc,Sem.run_pure];rfl⟩
  have fin:∀{L1:List AV} {U1:Nat→Value} {my:Option Nat},Bp x w h1' n L1 U1 ρ1→(∀jy,my=some jy→jy<L1.length∧L1[jy]? =some (.own ty.size ys)∧U1 jy=uz)→
   (my=none→∀i f c,As ys i f=some c→Rep x w Ax c (V i f))→N0 P x N ⟨dst,.call c,type,pos,after,guard⟩ a w (Ln n id) K:=by
   intro L1 U1 my H1 hmy hV;obtain⟨xs,S2,h2',ρ2,⟨hfit,hk⟩,hs2,H2⟩:=A85 H1 hs1 (hmv _ _ hy.mov) hrd hk;have hjy:∀jy,my=some jy→jy≠L1.length∧(L1++[AV.own ty.size xs])[jy]? =some (.own ty.size ys):=by
    intro jy hjy;obtain⟨q1,q2,_⟩:=hmy jy hjy;exact⟨by omega,by rw[List.getElem?_append_left q1];exact q2⟩
   have hV2:∃V2,Xw P w ty.size ys.length V2 uz∧∀i f c,As ys i f=some c→Rep x w (C0f ρ2 my i f) c (V2 i f):=by
    cases my with
    |none=>exact⟨V,hY,fun i f c hc=>hV rfl i f c hc⟩
    |some jy=>
     obtain⟨q1,q2⟩:=hjy jy rfl;obtain⟨p1,p2,p3⟩:=hmy jy rfl;have hl:=H2.loose jy _ q2;have hU:Jg U1 L1.length uy jy=U1 jy:=by simp[Jg,q1]
     rw[hU,p3]at hl;obtain⟨V2,g1,g2,g3⟩:=A1o (P:=P) hl;exact⟨V2,g1,fun i f c hc=>(g3 i f c hc).congr fun q=>rfl⟩
   obtain⟨V2,hY2,hV2⟩:=hV2;obtain⟨u,w',hrun,hst⟩:=C0t (P:=P) (d:=dst) (rt:=type) (ts:=c.argTypes) H2 hs2 hN hdf hd hid h0 hu h1 hty (jx:=L1.length) (my:=my) (xs:=xs) (by simp) hjy hry hY2 hV2 (by rw[Nat.mul_add]at hfit;omega) (by rw[Nat.mul_add]at hfit;omega);refine⟨_,_,hk,w',.inl ⟨u,?_,hst⟩⟩;have hux:Jg U1 L1.length uy L1.length=uy:=by simp[Jg]
   rw[hux]at hrun;simp only[execOp,Sem.run_bind,hres,Result.andThen_ok,invoke,builtin,hargs,hrun,Sem.run_pure]
  rcases hcase with⟨H1,hV⟩|⟨H1,hV⟩
  ·exact fin (my:=none) H1 (by simp) (fun _=>hV)
  ·exact fin (my:=some 0) H1 (fun jy h=>by simp only[Option.some.injEq]at h;subst h;exact⟨by simp,by simp,by simp[Jg]⟩) (fun h=>by cases h)
end
def Ye(x y:Ctx):Prop:=∀b,x.R b→y.R b∧y.wr.heap[b]? =x.wr.heap[b]?
theorem Ye.cell{x y:Ctx}(hl:Ye x y){b o:Nat}{v:Value}(hb:x.R b)(hc:x.wr.cell? ⟨b,o,none⟩=some v):y.wr.cell? ⟨b,o,none⟩=some v:=by
 unfold World.cell? at hc⊢;rw[(hl b hb).2];exact hc
structure C3t(x y:Ctx):Prop where
 k:y.k=x.k
 β:y.β=x.β
 w0:y.w0=x.w0
theorem Rep.lift{x y:Ctx}{w:World}{ρ:Am}{v:AV}{u:Value}(h:Rep x w ρ v u)(hl:Ye x y)(hs:C3t x y):Rep y w ρ v u:=by
 induction h with
 |int=>exact .int
 |bool=>exact .bool
 |str=>exact .str
 |nilI=>exact .nilI
 |undef h1=>exact .undef h1
 |rd V hcap hrow hc hr ih=>
  refine .rd V hcap hrow (fun i f c h=>?_) ih;obtain⟨b,o,e,h1,_,h2⟩:=hc i f c h;exact⟨b,o,e,(hl b h1).1,trivial,hl.cell h1 h2⟩
 |own0=>exact .own0
 |own V hρ hcap hrow hb hroom hc hr ih=>exact .own V hρ hcap hrow hb hroom hc ih
 |arg0 hk=>exact .arg0 (by rw[hs.k];exact hk)
 |arg hβ hk hcap hb hroom=>exact .arg (by rw[hs.β];exact hβ) (by rw[hs.k];exact hk) hcap (by rw[hs.w0];exact hb) hroom
theorem Xu{xs:List (List AV)}(h:A3 xs){i f:Nat}{c:AV}(hc:As xs i f=some c):c.free:=by
 unfold As at hc;cases hr:xs[i]? with
 |none=>rw[hr]at hc;cases hc
 |some r=>
  rw[hr]at hc;exact H6 (Yu h (List.mem_of_getElem? hr)) (List.mem_of_getElem? hc)
theorem Rep.liftF{x y:Ctx}{w:World}{ρ:Am}{v:AV}{u:Value}(h:Rep x w ρ v u)(hl:Ye x y)(hf:v.free):Rep y w ρ v u:=by
 induction h with
 |int=>exact .int
 |bool=>exact .bool
 |str=>exact .str
 |nilI=>exact .nilI
 |undef h1=>exact .undef h1
 |rd V hcap hrow hc hr ih=>
  refine .rd V hcap hrow (fun i f c h=>?_) fun i f c h=>ih i f c h (Xu (by simpa[AV.free]using hf) h);obtain⟨b,o,e,h1,_,h2⟩:=hc i f c h;exact⟨b,o,e,(hl b h1).1,trivial,hl.cell h1 h2⟩
 |own0=>exact .own0
 |own V hρ hcap hrow hb hroom hc hr ih=>exact .own V hρ hcap hrow hb hroom hc fun i f c h=>ih i f c h (Xu (by simpa[AV.free]using hf) h)
 |arg0=>simp[AV.free]at hf
 |arg hβ hk hcap hb hroom=>simp[AV.free]at hf
theorem Pq(cs:List AV):Is cs=cs.map AV.toRd:=by
 induction cs with
 |nil=>rfl
 |cons c r ih=>simp[Is,ih]
theorem Wl(xs:List (List AV)):D1 xs=xs.map Is:=by
 induction xs with
 |nil=>rfl
 |cons c r ih=>simp[D1,ih]
theorem Pu(xs:List (List AV)):(D1 xs).length=xs.length:=by simp[Wl]
theorem A90(xs:List AV):(Is xs).length=xs.length:=by simp[Pq]
theorem Yx{xs:List (List AV)}{s:Nat}(h:∀r,r∈xs→r.length=s):∀r,r∈D1 xs→r.length=s:=by
 intro r hr;rw[Wl,List.mem_map]at hr;obtain⟨r',h1,rfl⟩:=hr;rw[A90];exact h r' h1
theorem Rw(xs:List (List AV))(i f:Nat):As (D1 xs) i f=(As xs i f).map AV.toRd:=by
 unfold As;rw[Wl,List.getElem?_map];cases xs[i]? with
 |none=>rfl
 |some r=>simp[Pq]
theorem Rep.toRd{x y:Ctx}{w:World}{ρ:Am}{v:AV}{u:Value}(h:Rep x w ρ v u)(hl:Ye x y)(hρ:∀p b o,ρ p=some (b,o)→y.R b∧y.wr.heap[b]? =w.heap[b]?):Rep y w Ax v.toRd u:=by
 induction h with
 |int=>exact .int
 |bool=>exact .bool
 |str=>exact .str
 |nilI=>exact .nilI
 |undef h1=>exact .undef h1
 |rd V hcap hrow hc hr ih=>
  rename_i s xs a cap;simp only[AV.toRd];rw[←Pu xs];refine .rd V (by rw[Pu];exact hcap) (Yx hrow) (fun i f c h=>?_) (fun i f c h=>?_)
  ·rw[Rw]at h
   obtain⟨d,hd,rfl⟩:=Option.map_eq_some_iff.1 h;obtain⟨b,o,e,h1,_,h2⟩:=hc i f d hd;exact⟨b,o,e,(hl b h1).1,trivial,hl.cell h1 h2⟩
  ·rw[Rw]at h
   obtain⟨d,hd,rfl⟩:=Option.map_eq_some_iff.1 h;exact ih i f d hd (fun p b o hp=>by simp[Ax]at hp)
 |arg0=>exact .undef rfl
 |arg hβ hk hcap hb hroom=>exact .undef rfl
 |own0=>
  rename_i a;simp only[AV.toRd,D1];exact Rep.rd (xs:=[]) (fun _ _=>Go.undef) (by simp) (by simp) (by simp[As]) (by simp[As])
 |own V hp hcap hrow hb hroom hc hr ih=>
  rename_i s xs cap b o c;simp only[AV.toRd];rw[←Pu xs];obtain⟨h1,h2⟩:=hρ _ _ _ hp;refine .rd V (by rw[Pu];exact hcap) (Yx hrow) (fun i f d hd=>?_) fun i f d hd=>?_
  ·rw[Rw]at hd
   cases hq:As xs i f with
   |none=>rw[hq]at hd;cases hd
   |some d0=>
    refine⟨b,o,rfl,h1,trivial,?_⟩;have:=hb.cell (o+(i*s+f));rw[hc i f d0 hq]at this;unfold World.cell? at this⊢;rw[h2];exact this
  ·rw[Rw]at hd
   cases hq:As xs i f with
   |none=>rw[hq]at hd;cases hd
   |some d0=>
    rw[hq]at hd;simp only[Option.map_some,Option.some.injEq]at hd;subst hd;exact ih i f d0 hq fun p b' o' hp'=>hρ _ _ _ hp'
section
variable{P:Program}{E:Env}{x:Ctx}{w:World}{h:Ah}{n n':Nat→Prop}{L:List AV}{U:Nat→Value}{ρ:Option Nat→Am}
def Hv(ρ:Option Nat→Am)(i id:Nat):Option Nat→Am
 |none=>fun
  |[]=>none
  |(a,j)::q=>if j=i then none else ρ none ((a,j)::q)
 |some g=>if g=id then(ρ none).sub 0 i else ρ (some g)
theorem Bp.rootOne(H:Bp x w h n L U ρ){i id s:Nat}{xs:List (List AV)}(hi:L[i]? =some (.own s xs))(hid:¬n id):
 Bp x w ((id,.own s xs)::h) (ext n id) (L.set i .undef) U (Hv ρ i id):=by
 have hne:∀g r,A4 h g=some r→g≠id:=fun g r hr e=>hid (e▸H.ids g r hr);have hiL:i<L.length:=by
  rcases Nat.lt_or_ge i L.length with h|h
  ·exact h
  ·rw[List.getElem?_eq_none h]at hi;cases hi
 have orig:∀k q z,Hv ρ i id k q=some z→(k=some id∧ρ none ((0,i)::q)=some z)∨(∃g,k=some g∧g≠id∧ρ (some g) q=some z)∨(∃j q',k=none∧q=(0,j)::q'∧j≠i∧ρ none q=some z):=by
  intro k q z hz;cases k with
  |none=>
   cases q with
   |nil=>simp[Hv]at hz
   |cons a q=>
    obtain⟨a,j⟩:=a;simp only[Hv]at hz;by_cases hj:j=i
    ·rw[if_pos hj]at hz;cases hz
    ·rw[if_neg hj]at hz
     obtain⟨j',q',_,_,e,_,_⟩:=H.live_none hz;simp only[List.cons.injEq,Prod.mk.injEq]at e;obtain⟨⟨rfl,rfl⟩,rfl⟩:=e;exact .inr (.inr ⟨j,q,rfl,rfl,hj,hz⟩)
  |some g=>
   simp only[Hv]at hz;by_cases hg:g=id
   ·subst hg;rw[if_pos rfl]at hz;exact .inl ⟨rfl,hz⟩
   ·rw[if_neg hg]at hz;exact .inr (.inl ⟨g,rfl,hg,hz⟩)
 refine⟨H.os,H.tape,H.output,H.size,H.frame,?_,?_,?_,rfl,?_,?_,?_,H.keeps,?_,fun g hg=>.inl (H.kn g hg),H.fixed,H.rsub,H.rlt⟩
 ·intro g r hr
  rw[Ac]at hr;by_cases hg:id=g
  ·subst hg
   rw[if_pos rfl]at hr;simp only[Option.some.injEq]at hr;subst hr;exact⟨s,xs,U i,rfl,(H.loose i _ hi).congr fun q=>by simp[Hv]⟩
  ·rw[if_neg hg]at hr
   obtain⟨s1,xs1,v1,e1,h1⟩:=H.root g r hr;exact⟨s1,xs1,v1,e1,h1.congr fun q=>by simp[Hv,Ne.symm hg]⟩
 ·intro j c hj
  by_cases hji:j=i
  ·subst hji
   rw[List.getElem?_set,if_pos rfl]at hj;have:c=.undef:=by
    rw[if_pos hiL]at hj;exact(by simpa using hj.symm)
   subst this;exact .undef (H.loose j _ hi).one
  ·rw[List.getElem?_set_ne (Ne.symm hji)]at hj
   exact(H.loose j c hj).congr fun q=>by simp[Hv,Am.sub,hji]
 ·intro k q z hz
  rcases orig k q z hz with⟨rfl,hp⟩|⟨g,rfl,hg,hp⟩|⟨j,q',rfl,rfl,hj,hp⟩
  ·obtain⟨s1,xs1,h1⟩:=H.live _ _ _ hp
   rw[Mo,Oh,if_pos rfl,hi]at h1;refine⟨s1,xs1,?_⟩;rw[Ct];simp only[Go.GH.hget,Ac,if_true];exact h1
  ·obtain⟨s1,xs1,h1⟩:=H.live _ _ _ hp
   refine⟨s1,xs1,?_⟩;rw[Ct]at h1⊢;unfold Go.GH.hget at h1⊢;rw[Ac,if_neg (Ne.symm hg)];exact h1
  ·obtain⟨s1,xs1,h1⟩:=H.live _ _ _ hp
   refine⟨s1,xs1,?_⟩;rw[Mo,Oh,if_pos rfl]at h1⊢;rw[List.getElem?_set_ne (Ne.symm hj)];exact h1
 ·intro k q k' q' b o o' hz hz'
  rcases orig k q _ hz with⟨rfl,hp⟩|⟨g,rfl,hg,hp⟩|⟨j,r,rfl,rfl,hj,hp⟩<;>rcases orig k' q' _ hz' with⟨rfl,hp'⟩|⟨g',rfl,hg',hp'⟩|⟨j',r',rfl,rfl,hj',hp'⟩
  ·have:=(H.inj _ _ _ _ _ _ _ hp hp').2
   simp only[List.cons.injEq,true_and]at this;exact⟨rfl,this⟩
  ·have:=(H.inj _ _ _ _ _ _ _ hp hp').1;cases this
  ·have:=(H.inj _ _ _ _ _ _ _ hp hp').2
   simp only[List.cons.injEq,Prod.mk.injEq,true_and]at this;exact absurd this.1.symm hj'
  ·have:=(H.inj _ _ _ _ _ _ _ hp hp').1;cases this
  ·exact H.inj _ _ _ _ _ _ _ hp hp'
  ·exact H.inj _ _ _ _ _ _ _ hp hp'
  ·have:=(H.inj _ _ _ _ _ _ _ hp hp').2
   simp only[List.cons.injEq,Prod.mk.injEq,true_and]at this;exact absurd this.1 hj
  ·exact H.inj _ _ _ _ _ _ _ hp hp'
  ·exact H.inj _ _ _ _ _ _ _ hp hp'
 ·intro k q b o hz
  rcases orig k q _ hz with⟨_,hp⟩|⟨g,_,hg,hp⟩|⟨j,r,_,_,hj,hp⟩<;>exact H.mine _ _ _ _ hp
 ·intro g r hr
  rw[Ac]at hr;by_cases hg:id=g
  ·exact .inr hg.symm
  ·rw[if_neg hg]at hr
   exact .inl (H.ids g r hr)
 ·intro g r hk hr
  have hne':g≠id:=fun e=>hid (e▸H.kn g hk);rw[Ac,if_neg (Ne.symm hne')]at hr;simpa[Hv,hne']using H.base g r hk hr
theorem Aw.rootOne{S:Af}{ts:Array Value}(H:Bp x w h n L U ρ)(hs:Aw x w h n ρ S ts){i id:Nat}(hid:¬n id)(y:AV):
 Aw x w ((id,y)::h) (ext n id) (Hv ρ i id) S ts:=by
 intro d s0 hd;refine⟨fun ht=>?_,(hs d s0 hd).2⟩;have h2:=(hs d s0 hd).1 ht;refine h2.weaken (P:=fun _ _=>True) (E4.all (fun _ _=>trivial) h2) (fun g hg=>.inl hg) ?_ H.ids ?_
 ·intro g hg h0
  rw[Ac,if_neg (show¬id=g from fun e=>hid (e▸hg))];exact h0
 ·intro g p _
  by_cases he:id=g
  ·subst he
   have hl:A4 h id=none:=by
    cases hl:A4 h id with
    |none=>rfl
    |some r=>exact absurd (H.ids _ _ hl) hid
   refine .inr ⟨fun s1 xs1 h3=>?_,fun q hq=>?_⟩
   ·simp[hget,hl]at h3
   ·obtain⟨s1,xs1,h3⟩:=H.live _ _ _ hq
    simp[Tc,hget,hl]at h3
  ·refine .inr ⟨fun s1 xs1 h3=>⟨xs1,?_,rfl⟩,fun q hq=>by simp[Hv,Ne.symm he];exact hq⟩
   unfold hget at h3⊢;rw[Ac,if_neg he];exact h3
def Lz(h:Ah)(ρ:Option Nat→Am):Option Nat→Am
 |none=>ρ none
 |some g=>match A4 h g with
  |some _=>ρ (some g)
  |none=>Ax
theorem Bp.forget(H:Bp x w h n L U ρ){h':Ah}(hh:∀g r,A4 h' g=some r→A4 h g=some r∧n' g)(hk:∀g,g<x.k→n' g):Bp x w h' n' L U (Lz h' ρ)where
 os:=H.os
 tape:=H.tape
 output:=H.output
 size:=H.size
 frame:=H.frame
 root:=fun g r hr=>by
  obtain⟨s,xs,v,e,h1⟩:=H.root g r (hh g r hr).1;exact⟨s,xs,v,e,h1.congr fun q=>by simp[Lz,hr]⟩
 loose:=H.loose
 live:=fun k q z hz=>by
  cases k with
  |none=>
   obtain⟨s,xs,h1⟩:=H.live none q z hz;exact⟨s,xs,h1⟩
  |some g=>
   simp only[Lz]at hz;cases hl:A4 h' g with
   |none=>simp[hl,Ax]at hz
   |some r=>
    simp only[hl]at hz;obtain⟨s,xs,h1⟩:=H.live (some g) q z hz;refine⟨s,xs,?_⟩;rw[Ct]at h1⊢;rw[Cn (hh g r hl).1]at h1;rw[Cn hl];exact h1
 nobase:=H.nobase
 inj:=fun k q k' q' b o o' hz hz'=>by
  have key:∀k q z,Lz h' ρ k q=some z→ρ k q=some z:=by
   intro k q z hz;cases k with
   |none=>exact hz
   |some g=>
    simp only[Lz]at hz;cases hl:A4 h' g with
    |none=>simp[hl,Ax]at hz
    |some r=>simpa[hl]using hz
  exact H.inj _ _ _ _ _ _ _ (key _ _ _ hz) (key _ _ _ hz')
 mine:=fun k q b o hz=>by
  cases k with
  |none=>exact H.mine none q b o hz
  |some g=>
   simp only[Lz]at hz;cases hl:A4 h' g with
   |none=>simp[hl,Ax]at hz
   |some r=>exact H.mine (some g) q b o (by simpa[hl]using hz)
 ids:=fun g r hr=>(hh g r hr).2
 keeps:=H.keeps
 base:=fun g r hg hr=>by
  simp only[Lz,hr];exact H.base g r hg (hh g r hr).1
 kn:=hk
 fixed:=H.fixed
 rsub:=H.rsub
 rlt:=H.rlt
theorem Bp.dropL(H:Bp x w h n L U ρ):Bp x w h n [] (fun _=>undef) (fun k=>match k with|none=>Ax|some g=>ρ (some g))where
 os:=H.os
 tape:=H.tape
 output:=H.output
 size:=H.size
 frame:=H.frame
 root:=H.root
 loose:=by simp
 live:=fun k q z hz=>by
  cases k with
  |none=>simp[Ax]at hz
  |some g=>exact H.live (some g) q z hz
 nobase:=rfl
 inj:=fun k q k' q' b o o' hz hz'=>by
  cases k with
  |none=>simp[Ax]at hz
  |some g=>
   cases k' with
   |none=>simp[Ax]at hz'
   |some g'=>exact H.inj _ _ _ _ _ _ _ hz hz'
 mine:=fun k q b o hz=>by
  cases k with
  |none=>simp[Ax]at hz
  |some g=>exact H.mine (some g) q b o hz
 ids:=H.ids
 keeps:=H.keeps
 base:=H.base
 kn:=H.kn
 fixed:=H.fixed
 rsub:=H.rsub
 rlt:=H.rlt
end
def Uw(ρ:Option Nat→Am)(gs:List (Nat×Br)):Nat→Prop:=fun b=>∃(j g:Nat) (p q:Br) (o:Nat),gs[j]? =some (g,p)∧ρ (some g) (p++q)=some (b,o)
def Cj(ρ:Option Nat→Am)(gs:List (Nat×Br)):Option Nat→Am
 |none=>Ax
 |some j=>match gs[j]? with
  |some (g,p)=>(ρ (some g)).at_ p
  |none=>Ax
def Yy(sh:Bool)(x:Ctx)(w:World)(ρ:Option Nat→Am)(gs:List (Nat×Br)):Nat→Prop:=
 match sh with
 |true=>x.R
 |false=>fun b=>b<w.heap.size∧¬Uw ρ gs b
def Ga(sh:Bool)(x:Ctx)(w:World)(ρ:Option Nat→Am)(gs:List (Nat×Br)):Ctx:=
 {w0:=w,M:=Uw ρ gs,k:=gs.length,β:=fun j=>Cj ρ gs (some j) [],R0:=Yy sh x w ρ gs,R:=Yy sh x w ρ gs,wr:=w}
section
variable{P:Program}{E:Env}{x:Ctx}{w:World}{h:Ah}{n n':Nat→Prop}{L:List AV}{U:Nat→Value}{ρ:Option Nat→Am}{sh:Bool}{gs:List (Nat×Br)}
theorem Bp.notM(H:Bp x w h n L U ρ){b:Nat}(hb:x.R b):¬Uw ρ gs b:=by
 rintro⟨j,g,p,q,o,_,hp⟩;exact(H.mine _ _ _ _ hp).1.2 hb
theorem Bp.liftCall(H:Bp x w h n L U ρ):Ye x (Ga sh x w ρ gs):=by
 intro b hb;refine⟨?_,H.fixed b hb⟩;show Yy sh x w ρ gs b;cases sh with
 |true=>exact hb
 |false=>exact⟨H.rlt b hb,H.notM hb⟩
theorem Lr{j:Nat}{q:Br}{z:Nat×Nat}(hz:Cj ρ gs (some j) q=some z):∃(g:Nat) (p:Br),gs[j]? =some (g,p)∧ρ (some g) (p++q)=some z:=by
 simp only[Cj]at hz;cases hj:gs[j]? with
 |none=>simp[hj,Ax]at hz
 |some gp=>
  obtain⟨g,p⟩:=gp;rw[hj]at hz;exact⟨g,p,rfl,hz⟩
structure B5s(h:Ah)(gs:List (Nat×Br))(hy:Ah):Prop where
 of:∀(j:Nat) r,A4 hy j=some r→∃(g:Nat) (p:Br),gs[j]? =some (g,p)∧hget h g p=some r
 own:∀(j g:Nat) (p:Br),gs[j]? =some (g,p)→∃s xs,hget h g p=some (.own s xs)∧A4 hy j=some (.own s xs)
 dist:∀(j j' g:Nat) (p p':Br),gs[j]? =some (g,p)→gs[j']? =some (g,p')→j=j'
theorem Bp.enter(H:Bp x w h n L U ρ){hy:Ah}(A:B5s h gs hy)(hfr:∀j r,A4 hy j=some r→r.free):Bp (Ga sh x w ρ gs) w hy (fun g=>g<gs.length) [] (fun _=>undef) (Cj ρ gs)where
 os:=rfl
 tape:=rfl
 output:=rfl
 size:=Nat.le_refl _
 frame:=fun _ _ _=>rfl
 root:=fun j r hr=>by
  obtain⟨g,p,h1,h2⟩:=A.of j r hr;obtain⟨s,xs,h3,h4⟩:=A.own j g p h1;rw[hr]at h4;simp only[Option.some.injEq]at h4;subst h4;obtain⟨rt,hl,hrt⟩:=C6 h3;obtain⟨s0,xs0,v0,rfl,hv0⟩:=H.root g rt hl;obtain⟨u,hu⟩:=hv0.get p hrt;exact⟨s,xs,u,rfl,(hu.liftF H.liftCall (hfr j _ hr)).congr fun q=>by simp[Cj,h1]⟩
 loose:=by simp
 live:=fun k q z hz=>by
  cases k with
  |none=>simp[Cj,Ax]at hz
  |some j=>
   obtain⟨g,p,h1,h2⟩:=Lr hz;obtain⟨s,xs,h3⟩:=H.live _ _ _ h2;obtain⟨s',xs',h4,h5⟩:=A.own j g p h1;refine⟨s,xs,?_⟩;rw[Ct]at h3⊢;rw[Cn h5];obtain⟨rt,hl,hrt⟩:=C6 h4;rw[Cn hl,Qh,hrt]at h3;exact h3
 nobase:=rfl
 inj:=fun k q k' q' b o o' hz hz'=>by
  cases k with
  |none=>simp[Cj,Ax]at hz
  |some j=>
   cases k' with
   |none=>simp[Cj,Ax]at hz'
   |some j'=>
    obtain⟨g,p,h1,h2⟩:=Lr hz;obtain⟨g',p',h1',h2'⟩:=Lr hz';obtain⟨e1,e2⟩:=H.inj _ _ _ _ _ _ _ h2 h2';simp only[Option.some.injEq]at e1;subst e1;obtain rfl:=A.dist j j' g p p' h1 h1';rw[h1]at h1';simp only[Option.some.injEq,Prod.mk.injEq,true_and]at h1';subst h1';exact⟨rfl,List.append_cancel_left e2⟩
 mine:=fun k q b o hz=>by
  cases k with
  |none=>simp[Cj,Ax]at hz
  |some j=>
   obtain⟨g,p,h1,h2⟩:=Lr hz;obtain⟨h3,c,h4⟩:=H.mine _ _ _ _ h2;have hM:Uw ρ gs b:=⟨j,g,p,q,o,h1,h2⟩
   refine⟨⟨.inr hM,?_⟩,c,h4⟩;show¬Yy sh x w ρ gs b;cases sh with
   |true=>exact h3.2
   |false=>exact fun hr=>hr.2 hM
 ids:=fun j r hr=>by
  obtain⟨g,p,h1,_⟩:=A.of j r hr;rcases Nat.lt_or_ge j gs.length with h|h
  ·exact h
  ·rw[List.getElem?_eq_none h]at h1;cases h1
 keeps:=fun b c hb=>⟨c,hb,rfl⟩
 base:=fun j r _ _=>rfl
 kn:=fun j hj=>hj
 fixed:=fun _ _=>rfl
 rsub:=fun b hb=>.inl hb
 rlt:=fun b hb=>by
  have hb':Yy sh x w ρ gs b:=hb;cases sh with
  |true=>exact H.rlt b hb'
  |false=>exact hb'.1
theorem C3h{off s len:Nat}{π:Am}{q:Br}{b o:Nat}(h:Iv off s len π q=some (b,o)):∃q' o',π q'=some (b,o'):=by
 cases q with
 |nil=>
  simp only[Iv]at h;cases hp:π []with
  |none=>simp[hp]at h
  |some y=>
   obtain⟨b',o'⟩:=y;simp only[hp,Option.some.injEq,Prod.mk.injEq]at h;obtain⟨rfl,_⟩:=h;exact⟨[],o',hp⟩
 |cons a q=>
  obtain⟨i,f⟩:=a;simp only[Iv]at h;split at h
  ·exact⟨_,_,h⟩
  ·cases h
theorem Sb(H:Bp x w h n L U ρ){t:Option Nat}{v:AV}{u:Value}(hm:Mov x w h n ρ v u)(hg:∀g,g∈v.ids1→∀(j:Nat) (p:Br),gs[j]? ≠some (g,p))(hfr:(Kz sh h t v).free){hy:Ah}{ny:Nat→Prop}{ρy:Option Nat→Am}:
 Az (Ga sh x w ρ gs) w hy ny ρy (Kz sh h t v) u:=by
 have hlift:Ye x (Ga sh x w ρ gs):=H.liftCall;have hblk:∀{g p b o},sh=false→(∀(j:Nat) (p:Br),gs[j]? ≠some (g,p))→ρ (some g) p=some (b,o)→(Ga sh x w ρ gs).R b∧(Ga sh x w ρ gs).wr.heap[b]? =w.heap[b]? :=by
  intro g p b o hsh hgn hp;subst hsh;refine⟨⟨H.block_lt hp,?_⟩,rfl⟩;rintro⟨j,g',p',q',o',h1,h2⟩;obtain⟨e1,_⟩:=H.inj _ _ _ _ _ _ _ h2 hp;simp only[Option.some.injEq]at e1;subst e1;exact hgn j p' h1
 cases v with
 |view g p off len=>
  simp only[Kz];cases sh with
  |true=>exact .void
  |false=>
   simp only;cases hgt:hget h g p with
   |none=>exact .void
   |some c=>
    cases c<;>try exact .void
    rename_i s xs;have hv:=hm s xs hgt;have H1:=H.detach hgt hv;have hl:=H1.loose L.length (.own s ((xs.drop off).take len)) (by simp);simp only[Jg,if_true]at hl;refine .cell (hl.toRd hlift fun q b o hq=>?_);have hq':Iv off s len ((ρ (some g)).at_ p) q=some (b,o):=by simpa[Am.sub,E9]using hq
    obtain⟨q',o',h2⟩:=C3h hq';exact hblk rfl (fun j p'=>hg g (by simp[AV.ids1]) j p') h2
 |bx g f=>
  simp only[Kz];cases sh with
  |true=>exact .void
  |false=>
   simp only;cases hgt:A4 h g with
   |none=>exact .void
   |some c=>
    cases c<;>try exact .void
    rename_i s xs;match xs,hgt with
    |[],_=>exact .void
    |_::_::_,_=>exact .void
    |[r],hgt=>
     have hv:=hm s r hgt;cases hv with
     |cell hr=>cases hr
     |goneb h0=>rw[hgt]at h0;cases h0
     |bx hl hρ=>
      rename_i s' r' b o;rw[hgt]at hl;simp only[Option.some.injEq,AV.own.injEq,List.cons.injEq,and_true]at hl;obtain⟨rfl,rfl⟩:=hl;have hget':hget h g []=some (.own s [r]):=by rw[Cn hgt];rfl
      obtain⟨c,V,hb,hrow,hc⟩:=H.cells hget' hρ;refine .pin (fun f'=>V 0 (f+f')) fun f' d hd=>?_;rw[Pq,List.getElem?_map,List.getElem?_drop]at hd;cases hq:r[f+f']? with
      |none=>rw[hq]at hd;cases hd
      |some d0=>
       rw[hq]at hd;simp only[Option.map_some,Option.some.injEq]at hd;subst hd;obtain⟨h1,h2⟩:=hc 0 (f+f') d0 (by simpa[As]using hq);obtain⟨h3,h4⟩:=hblk rfl (fun j p'=>hg g (by simp[AV.ids1]) j p') hρ;refine⟨h3,trivial,?_,h2.toRd hlift fun q b' o' hq'=>hblk rfl (fun j p'=>hg g (by simp[AV.ids1]) j p') hq'⟩;have:=hb.cell (o+(0*s+(f+f')));rw[h1]at this;unfold World.cell? at this⊢;rw[h4];have e:o+f+f'=o+(0*s+(f+f')):=by omega
       rw[e];exact this
 |ptr g p i f=>
  simp only[Kz];cases sh with
  |true=>exact .void
  |false=>
   simp only;cases hgt:hget h g p with
   |none=>exact .void
   |some c=>
    cases c<;>try exact .void
    rename_i s xs;have hv:=hm s xs hgt;cases hv with
    |cell hr=>cases hr
    |gonep h0=>exact absurd h0 (L3 hgt)
    |ptr hl hρ=>
     rename_i s' xs' b o;rw[hgt]at hl;simp only[Option.some.injEq,AV.own.injEq]at hl;obtain⟨rfl,rfl⟩:=hl;obtain⟨c,V,hb,hrow,hc⟩:=H.cells hgt hρ;refine .pin (fun f'=>V i (f+f')) fun f' d hd=>?_;rw[Pq,List.getElem?_map,List.getElem?_drop]at hd;cases hq:(row xs i)[f+f']? with
     |none=>rw[hq]at hd;cases hd
     |some d0=>
      rw[hq]at hd;simp only[Option.map_some,Option.some.injEq]at hd;subst hd;have hcell:As xs i (f+f')=some d0:=by
       unfold As;unfold row at hq;rw[List.getD_eq_getElem?_getD]at hq;cases hx:xs[i]? with
       |none=>rw[hx]at hq;simp at hq
       |some r=>rw[hx]at hq;exact hq
      obtain⟨h1,h2⟩:=hc i (f+f') d0 hcell;obtain⟨h3,h4⟩:=hblk rfl (fun j p'=>hg g (by simp[AV.ids1]) j p') hρ;refine⟨h3,trivial,?_,h2.toRd hlift fun q b' o' hq'=>hblk rfl (fun j p'=>hg g (by simp[AV.ids1]) j p') hq'⟩;have:=hb.cell (o+(i*s+(f+f')));rw[h1]at this;unfold World.cell? at this⊢;rw[h4];have e:o+(i*s+f)+f'=o+(i*s+(f+f')):=by omega
      rw[e];exact this
 |nils=>
  have:u=.slice none 0 0:=hm;subst this;cases t with
  |none=>exact .nils
  |some s=>exact .cell (Rep.rd (xs:=[]) (fun _ _=>undef) (by simp) (by simp) (by simp[As]) (by simp[As]))
 |emp=>
  obtain⟨a,rfl⟩:∃a,u=.slice a 0 0:=hm;cases t with
  |none=>exact .emp
  |some s=>exact .cell (Rep.rd (xs:=[]) (fun _ _=>undef) (by simp) (by simp) (by simp[As]) (by simp[As]))
 |int k m=>exact .cell ((hm rfl).liftF hlift hfr)
 |bool b=>exact .cell ((hm rfl).liftF hlift hfr)
 |str s=>exact .cell ((hm rfl).liftF hlift hfr)
 |rd s xs=>exact .cell ((hm rfl).liftF hlift hfr)
 |nilI=>exact .cell ((hm rfl).liftF hlift hfr)
 |pin cs=>
  have hp:Az x w [] (fun _=>False) (fun _=>Ax) (.pin cs) u:=hm;cases hp with
  |cell hr=>cases hr
  |pin V hc=>
   refine .pin V fun f c hf=>?_;obtain⟨h1,_,h2,h3⟩:=hc f c hf;exact⟨(hlift _ h1).1,trivial,hlift.cell h1 h2,h3.liftF hlift (H6 hfr (List.mem_of_getElem? hf))⟩
 |someI=>
  obtain⟨t',z,rfl⟩:∃t z,u=.iface t z:=hm;exact .someI
 |nilp=>
  have:u=.pointer none:=hm;subst this;exact .nilp
 |agg cs=>exact .void
 |tup cs=>exact .void
 |fn f cs=>exact .void
 |own s xs=>exact .void
 |undef=>exact .void
 |arg s g n=>exact .void
end
inductive Src where
 |old|new|wri (j:Nat) (p:Br)|gone
def Dr(ρ ρf:Option Nat→Am)(src:Nat→Src):Option Nat→Am
 |none=>Ax
 |some g=>match src g with
  |.old=>ρ (some g)
  |.new=>ρf (some g)
  |.wri j p=>Nm (ρ (some g)) p (ρf (some j))
  |.gone=>Ax
def Ju(sh:Bool)(x:Ctx)(R':Nat→Prop)(w':World):Ctx:=
 match sh with
 |true=>{x with R:=R',wr:=w'}
 |false=>x
theorem Nh{cs:List AV}(h:A7 cs):∀(i:Nat) c,cs[i]? =some c→c.noRd:=by
 induction cs with
 |nil=>intro i c hc;simp at hc
 |cons a r ih=>
  intro i c hc;obtain⟨h1,h2⟩:=h;cases i with
  |zero=>simp only[List.getElem?_cons_zero,Option.some.injEq]at hc;subst hc;exact h1
  |succ i=>exact ih h2 i c (by simpa using hc)
theorem B17{xs:List (List AV)}(h:Ab xs):∀(i f:Nat) c,As xs i f=some c→c.noRd:=by
 induction xs with
 |nil=>intro i f c hc;simp[As]at hc
 |cons a r ih=>
  intro i f c hc;obtain⟨h1,h2⟩:=h;cases i with
  |zero=>exact Nh h1 f c (by simpa[As]using hc)
  |succ i=>exact ih h2 i f c (by simpa[As]using hc)
theorem Rep.other{x y:Ctx}{w:World}{ρ:Am}{v:AV}{u:Value}(h:Rep x w ρ v u)(hn:v.noRd):Rep y w ρ v u:=by
 induction h with
 |int=>exact .int
 |bool=>exact .bool
 |str=>exact .str
 |nilI=>exact .nilI
 |undef h1=>exact .undef h1
 |rd=>exact hn.elim
 |own0=>exact .own0
 |own V hρ hcap hrow hb hroom hc hr ih=>exact .own V hρ hcap hrow hb hroom hc fun i f d hd=>ih i f d hd (B17 hn i f d hd)
 |arg0=>exact hn.elim
 |arg hβ hk hcap hb hroom=>exact hn.elim
theorem Az.lift{x y:Ctx}{w:World}{h:Ah}{n:Nat→Prop}{ρ:Option Nat→Am}{v:AV}{u:Value}(hs:Az x w h n ρ v u)(hl:Ye x y)(hq:C3t x y):Az y w h n ρ v u:=by
 induction hs with
 |cell hr=>exact .cell (hr.lift hl hq)
 |nils=>exact .nils
 |emp=>exact .emp
 |void=>exact .void
 |someI=>exact .someI
 |nilp=>exact .nilp
 |gone hg hn=>exact .gone hg hn
 |gonep hg hn=>exact .gonep hg hn
 |goneb hg hn=>exact .goneb hg hn
 |view0 hg hl=>exact .view0 hg hl
 |view hg hl hcap hρ hb hroom=>exact .view hg hl hcap hρ hb hroom
 |ptr hg hρ=>exact .ptr hg hρ
 |bx hg hρ=>exact .bx hg hρ
 |pin u hc=>exact .pin u fun f c hf=>⟨(hl _ (hc f c hf).1).1,trivial,hl.cell (hc f c hf).1 (hc f c hf).2.2.1,(hc f c hf).2.2.2.lift hl hq⟩
 |agg hl hc ih=>exact .agg hl ih
 |tup hl hc ih=>exact .tup hl ih
 |fn hl hc ih=>exact .fn hl ih
theorem Az.liftF{x y:Ctx}{w:World}{h:Ah}{n:Nat→Prop}{ρ:Option Nat→Am}{v:AV}{u:Value}(hs:Az x w h n ρ v u)(hl:Ye x y)(hq:v.free):Az y w h n ρ v u:=by
 induction hs with
 |cell hr=>exact .cell (hr.liftF hl hq)
 |nils=>exact .nils
 |emp=>exact .emp
 |void=>exact .void
 |someI=>exact .someI
 |nilp=>exact .nilp
 |gone hg hn=>exact .gone hg hn
 |gonep hg hn=>exact .gonep hg hn
 |goneb hg hn=>exact .goneb hg hn
 |view0 hg hl=>exact .view0 hg hl
 |view hg hl hcap hρ hb hroom=>exact .view hg hl hcap hρ hb hroom
 |ptr hg hρ=>exact .ptr hg hρ
 |bx hg hρ=>exact .bx hg hρ
 |pin u hc=>exact .pin u fun f c hf=>⟨(hl _ (hc f c hf).1).1,trivial,hl.cell (hc f c hf).1 (hc f c hf).2.2.1,(hc f c hf).2.2.2.liftF hl (H6 hq (List.mem_of_getElem? hf))⟩
 |agg hl hc ih=>exact .agg hl fun i c hi=>ih i c hi (H6 hq (List.mem_of_getElem? hi))
 |tup hl hc ih=>exact .tup hl fun i c hi=>ih i c hi (H6 hq (List.mem_of_getElem? hi))
 |fn hl hc ih=>exact .fn hl fun i c hi=>ih i c hi (H6 hq (List.mem_of_getElem? hi))
theorem Az.other{x y:Ctx}{w:World}{h:Ah}{n:Nat→Prop}{ρ:Option Nat→Am}{v:AV}{u:Value}(hs:Az x w h n ρ v u)(hn:v.noRd):Az y w h n ρ v u:=by
 induction hs with
 |cell hr=>exact .cell (hr.other hn)
 |nils=>exact .nils
 |emp=>exact .emp
 |void=>exact .void
 |someI=>exact .someI
 |nilp=>exact .nilp
 |gone hg hm=>exact .gone hg hm
 |gonep hg hm=>exact .gonep hg hm
 |goneb hg hm=>exact .goneb hg hm
 |view0 hg hl=>exact .view0 hg hl
 |view hg hl hcap hρ hb hroom=>exact .view hg hl hcap hρ hb hroom
 |ptr hg hρ=>exact .ptr hg hρ
 |bx hg hρ=>exact .bx hg hρ
 |pin u hc=>exact hn.elim
 |agg hl hc ih=>exact .agg hl fun i c hi=>ih i c hi (Nh hn i c hi)
 |tup hl hc ih=>exact .tup hl fun i c hi=>ih i c hi (Nh hn i c hi)
 |fn hl hc ih=>exact .fn hl fun i c hi=>ih i c hi (Nh hn i c hi)
structure B32(sh:Bool)(n nn:Nat→Prop)(k:Nat)(h hf hc:Ah)(gs:List (Nat×Br))(src:Nat→Src):Prop where
 look:∀g,A4 hc g=match src g with
  |.old=>A4 h g
  |.new=>A4 hf g
  |.wri j p=>match A4 h g,A4 hf j with
   |some r,some y=>some (AV.put y p r)
   |_,_=>none
  |.gone=>none
 old:∀g,src g=.old→∀(j:Nat) (p:Br),gs[j]? ≠some (g,p)
 new:∀g,src g=.new→¬n g∧gs.length≤g∧(sh=false→∀r,A4 hf g=some r→r.noRd)∧∀r,A4 hf g=some r→r.free
 wri:∀g j p,src g=.wri j p→gs[j]? =some (g,p)∧∃s xs ys,hget h g p=some (.own s xs)∧A4 hf j=some (.own s ys)∧ys.length=xs.length∧(sh=false→Ab ys)∧A3 ys
 gone:∀g,src g=.gone→¬g<k
 up:∀g,n g→nn g
 up':∀g,src g=.new→nn g
section
variable{P:Program}{E:Env}{x:Ctx}{w w':World}{h hf hc hy:Ah}{n nn nf:Nat→Prop}{L:List AV}{U U':Nat→Value}{ρ ρf:Option Nat→Am}{sh:Bool}{gs:List (Nat×Br)}{src:Nat→Src}{R':Nat→Prop}{wr':World}
theorem A54(H:Bp x w h n L U ρ)(H':Bp {Ga sh x w ρ gs with R:=R',wr:=wr'} w' hf nf [] U' ρf)(hR:∀b,Yy sh x w ρ gs b→R' b):Ye x (Ju sh x R' w'):=by
 intro b hb;cases sh with
 |false=>exact⟨hb,rfl⟩
 |true=>exact⟨hR b hb,(H'.frame b (H.rlt b hb) (H.notM hb)).trans (H.fixed b hb)⟩
theorem A58(H':Bp {Ga sh x w ρ gs with R:=R',wr:=wr'} w' hf nf [] U' ρf){π:Am}{v:AV}{u:Value}(hr:Rep {Ga sh x w ρ gs with R:=R',wr:=wr'} w' π v u)(hn:sh=false→v.noRd)(hfr:v.free):Rep (Ju sh x R' w') w' π v u:=by
 cases sh with
 |false=>exact hr.other (hn rfl)
 |true=>exact hr.liftF (fun b hb=>⟨hb,H'.fixed b hb⟩) hfr
theorem A1z:C3t x (Ju sh x R' w'):=by
 cases sh<;>exact⟨rfl,rfl,rfl⟩
theorem Bp.merge(H:Bp x w h n [] U ρ)(A:B5s h gs hy)(hR:∀b,Yy sh x w ρ gs b→R' b)(H':Bp {Ga sh x w ρ gs with R:=R',wr:=wr'} w' hf nf [] U' ρf)(G:B32 sh n nn x.k h hf hc gs src):
 Bp (Ju sh x R' w') w' hc nn [] (fun _=>undef) (Dr ρ ρf src):=by
 have hlift:=A54 H H' hR;have outer:∀{b},b<w.heap.size→¬Uw ρ gs b→w'.heap[b]? =w.heap[b]? :=fun h1 h2=>H'.frame _ h1 h2;have mutp:∀{g j p},src g=.wri j p→ρf (some j) []=ρ (some g) p:=by
  intro g j p hg;obtain⟨h1,s,xs,ys,h2,h3,_⟩:=G.wri g j p hg;have hj:j<gs.length:=by
   rcases Nat.lt_or_ge j gs.length with h|h
   ·exact h
   ·rw[List.getElem?_eq_none h]at h1;cases h1
  have:=H'.base j _ hj h3;rw[this];show Cj ρ gs (some j) []=_;simp[Cj,h1,Am.at_]
 have nomut:∀{g j p q b o},src g=.wri j p→ρ (some g) q=some (b,o)→(¬∃q',q=p++q')→¬Uw ρ gs b:=by
  rintro g j p q b o hg hq hne ⟨j',g',p',q',o',h1,h2⟩;obtain⟨e1,e2⟩:=H.inj _ _ _ _ _ _ _ h2 hq;simp only[Option.some.injEq]at e1;subst e1;obtain⟨h3,_⟩:=G.wri g' j p hg;obtain rfl:=A.dist j' j g' p' p h1 h3;rw[h1]at h3;simp only[Option.some.injEq,Prod.mk.injEq,true_and]at h3;subst h3;exact hne ⟨q',e2.symm⟩
 have nold:∀{g q b o},src g=.old→ρ (some g) q=some (b,o)→¬Uw ρ gs b:=by
  rintro g q b o hg hq ⟨j',g',p',q',o',h1,h2⟩;obtain⟨e1,e2⟩:=H.inj _ _ _ _ _ _ _ h2 hq;simp only[Option.some.injEq]at e1;subst e1;exact G.old g' hg j' p' h1
 have orig:∀k q b o,Dr ρ ρf src k q=some (b,o)→∃g,k=some g∧
  ((b<w.heap.size∧¬Uw ρ gs b∧ρ (some g) q=some (b,o)∧(src g=.old∨∃j p,src g=.wri j p∧¬∃q',q=p++q'))∨
   ((w.heap.size≤b∨Uw ρ gs b)∧∃i q',ρf (some i) q'=some (b,o)∧((src g=.new∧i=g∧q=q')∨∃p,src g=.wri i p∧q=p++q'))):=by
  intro k q b o hz;cases k with
  |none=>simp[Dr,Ax]at hz
  |some g=>
   refine⟨g,rfl,?_⟩;simp only[Dr]at hz;cases hg:src g with
   |old=>
    simp only[hg]at hz;exact .inl ⟨H.block_lt hz,nold hg hz,hz,.inl rfl⟩
   |new=>
    simp only[hg]at hz;exact .inr ⟨(H'.mine _ _ _ _ hz).1.1,g,q,hz,.inl ⟨rfl,rfl,rfl⟩⟩
   |wri j p=>
    simp only[hg]at hz;by_cases hx:∃q',q=p++q'
    ·obtain⟨q',rfl⟩:=hx
     rw[Wx]at hz;exact .inr ⟨(H'.mine _ _ _ _ hz).1.1,j,q',hz,.inr ⟨p,rfl,rfl⟩⟩
    ·rw[Ms _ _ _ _ hx]at hz
     exact .inl ⟨H.block_lt hz,nomut hg hz hx,hz,.inr ⟨j,p,rfl,hx⟩⟩
   |gone=>simp[hg,Ax]at hz
 have hos:(Ju sh x R' w').w0=x.w0∧(Ju sh x R' w').M=x.M∧(Ju sh x R' w').k=x.k∧(Ju sh x R' w').β=x.β∧(Ju sh x R' w').R0=x.R0:=by
  cases sh<;>exact⟨rfl,rfl,rfl,rfl,rfl⟩
 obtain⟨c1,c2,c3,c4,c5⟩:=hos;have inM:∀{b},Uw ρ gs b→x.w0.heap.size≤b∨x.M b:=by
  rintro b ⟨j,g,p,q,o,_,hp⟩;exact(H.mine _ _ _ _ hp).1.1
 constructor;case os=>rw[c1];exact H'.os.trans H.os
 case tape=>rw[c1];exact H'.tape.trans H.tape
 case output=>rw[c1];exact H'.output.trans H.output
 case size=>rw[c1];exact Nat.le_trans H.size H'.size
 case frame=>
  rw[c1,c2];intro b hb hm;rw[outer (Nat.lt_of_lt_of_le hb H.size) (fun hM=>by
   rcases inM hM with h|h
   ·omega
   ·exact hm h)]
  exact H.frame b hb hm
 case root=>
  intro g r hr;rw[G.look]at hr;cases hg:src g with
  |old=>
   simp only[hg]at hr;obtain⟨s,xs,v,e,h1⟩:=H.root g r hr;refine⟨s,xs,v,e,((h1.frame fun q b o hq=>outer (H.block_lt hq) (nold hg hq)).lift hlift A1z).congr fun q=>by simp[Dr,hg]⟩
  |new=>
   simp only[hg]at hr;obtain⟨s,xs,v,e,h1⟩:=H'.root g r hr;refine⟨s,xs,v,e,(A58 H' h1 (fun hsh=>(G.new g hg).2.2.1 hsh r hr) ((G.new g hg).2.2.2 r hr)).congr fun q=>by simp[Dr,hg]⟩
  |gone=>simp[hg]at hr
  |wri j p=>
   simp only[hg]at hr;obtain⟨h1,s,xs,ys,h2,h3,h4,h5,h5f⟩:=G.wri g j p hg;obtain⟨rt,hl,hrt⟩:=C6 h2;rw[hl,h3]at hr;simp only[Option.some.injEq]at hr;obtain⟨s0,xs0,v0,rfl,hv0⟩:=H.root g rt hl;have hrep:Rep (Ju sh x R' w') w' (Nm (ρ (some g)) p (ρf (some j))) (AV.put (.own s ys) p (.own s0 xs0)) v0:=by
    refine(hv0.lift hlift A1z).put p hrt (fun q b o hq hz=>outer (H.block_lt hz) (nomut hg hz hq)) fun u hu=>?_;obtain⟨s',ys',v',e',hv'⟩:=H'.root j _ h3;simp only[AV.own.injEq]at e';obtain⟨rfl,rfl⟩:=e';have hv2:=A58 H' hv' (fun hsh=>h5 hsh) h5f;cases hu with
    |own0=>
     have:ys=[]:=List.eq_nil_of_length_eq_zero (by simpa using h4);subst this;exact .own0
    |own V1 hρ1 hcap1 hrow1 hb1 hroom1 hc1 hr1=>
     rename_i cap1 b1 o1 cc1;have hbase:=mutp hg;have hρ1':ρ (some g) p=some (b1,o1):=by simpa[Am.at_]using hρ1
     rw[hρ1']at hbase;obtain⟨cc2,hb2,hsz2⟩:=H'.keeps b1 cc1 hb1;rw[←h4];cases hv2 with
     |own0=>exact .own (fun _ _=>undef) hbase (by simp) (by simp) hb2 (by rw[hsz2];exact hroom1) (by simp[As]) (by simp[As])
     |own V2 hρ2 hcap2 hrow2 hb3 hroom2 hc2 hr2=>
      rw[hbase]at hρ2;simp only[Option.some.injEq,Prod.mk.injEq]at hρ2;obtain⟨rfl,rfl⟩:=hρ2;obtain rfl:=hb2.uniq hb3;exact .own V2 hbase (by rw[h4];exact hcap1) hrow2 hb2 (by rw[hsz2];exact hroom1) hc2 hr2
   cases p with
   |nil=>
    simp only[AV.get,Option.some.injEq,AV.own.injEq]at hrt;obtain⟨rfl,rfl⟩:=hrt;exact⟨s0,ys,v0,hr.symm,by rw[←hr];exact hrep.congr fun q=>by simp[Dr,hg]⟩
   |cons a p=>
    obtain⟨xs',e1,_⟩:=A4g (p:=p) (y:=.own s ys) (a:=a) (s:=s0) (xs:=xs0) rfl;exact⟨s0,xs',v0,by rw[←hr];exact e1,by rw[←hr];exact hrep.congr fun q=>by simp[Dr,hg]⟩
 case loose=>simp
 case live=>
  intro k q z hz;obtain⟨b,o⟩:=z;obtain⟨g,rfl,⟨h1,h2,h3,h4⟩|⟨h1,i,q',h3,h4⟩⟩:=orig k q b o hz
  ·obtain⟨s,xs,h5⟩:=H.live _ _ _ h3
   rw[Ct]at h5⊢;rcases h4 with hg|⟨j,p,hg,hne⟩
   ·refine⟨s,xs,?_⟩
    unfold hget at h5⊢;rw[G.look,hg];exact h5
   ·obtain⟨_,s1,xs1,ys,h6,h7,h8,_⟩:=G.wri g j p hg
    obtain⟨rt,hl,hrt⟩:=C6 h6;rw[Cn hl]at h5;obtain⟨xs',h9,_⟩:=Oi (y:=.own s1 ys) hrt hne h5;refine⟨s,xs',?_⟩;rw[Cn (r:=AV.put (.own s1 ys) p rt) (by rw[G.look,hg];simp only[hl,h7])];exact h9
  ·obtain⟨s,xs,h5⟩:=H'.live _ _ _ h3
   rw[Ct]at h5⊢;refine⟨s,xs,?_⟩;rcases h4 with⟨hg,rfl,rfl⟩|⟨p,hg,rfl⟩
   ·unfold hget at h5⊢
    rw[G.look,hg];exact h5
   ·obtain⟨_,s1,xs1,ys,h6,h7,h8,_⟩:=G.wri g i p hg
    obtain⟨rt,hl,hrt⟩:=C6 h6;rw[Cn h7]at h5;rw[Cn (r:=AV.put (.own s1 ys) p rt) (by rw[G.look,hg];simp only[hl,h7]),Rx hrt];exact h5
 case nobase=>rfl
 case inj=>
  intro k q k' q' b o o' hz hz';obtain⟨g,rfl,⟨h1,h2,h3,h4⟩|⟨h1,i,r,h3,h4⟩⟩:=orig k q b o hz<;>obtain⟨g',rfl,⟨h1',h2',h3',h4'⟩|⟨h1',i',r',h3',h4'⟩⟩:=orig k' q' b o' hz'
  ·exact H.inj _ _ _ _ _ _ _ h3 h3'
  ·rcases h1' with h|h
   ·omega
   ·exact absurd h h2
  ·rcases h1 with h|h
   ·omega
   ·exact absurd h h2'
  ·obtain⟨e1,e2⟩:=H'.inj _ _ _ _ _ _ _ h3 h3'
   simp only[Option.some.injEq]at e1;subst e1;subst e2;rcases h4 with⟨hg,rfl,rfl⟩|⟨p,hg,rfl⟩<;>rcases h4' with⟨hg',rfl,rfl⟩|⟨p',hg',rfl⟩
   ·exact⟨rfl,rfl⟩
   ·obtain⟨q1,_⟩:=G.wri g' _ p' hg'
    have:i<gs.length:=by
     rcases Nat.lt_or_ge i gs.length with h|h
     ·exact h
     ·rw[List.getElem?_eq_none h]at q1;cases q1
    have:=(G.new i hg).2.1;omega
   ·obtain⟨q1,_⟩:=G.wri g _ p hg
    have:i<gs.length:=by
     rcases Nat.lt_or_ge i gs.length with h|h
     ·exact h
     ·rw[List.getElem?_eq_none h]at q1;cases q1
    have:=(G.new i hg').2.1;omega
   ·obtain⟨q1,_⟩:=G.wri g _ p hg
    obtain⟨q2,_⟩:=G.wri g' _ p' hg';rw[q1]at q2;simp only[Option.some.injEq,Prod.mk.injEq]at q2;obtain⟨rfl,rfl⟩:=q2;exact⟨rfl,rfl⟩
 case mine=>
  intro k q b o hz;rw[c1,c2];obtain⟨g,rfl,⟨h1,h2,h3,h4⟩|⟨h1,i,r,h3,h4⟩⟩:=orig k q b o hz
  ·obtain⟨⟨h5,h6⟩,c,h7⟩:=H.mine _ _ _ _ h3
   refine⟨⟨h5,?_⟩,c,h7.congr (outer h1 h2)⟩;cases sh with
   |false=>exact h6
   |true=>
    intro hr;rcases H'.rsub b hr with h|h|h
    ·exact h6 h
    ·exact h2 h
    ·have:w.heap.size≤b:=h
     omega
  ·obtain⟨⟨h5,h6⟩,c,h7⟩:=H'.mine _ _ _ _ h3
   refine⟨⟨?_,?_⟩,c,h7⟩
   ·rcases h1 with h|h
    ·exact .inl (Nat.le_trans H.size h)
    ·exact inM h
   ·cases sh with
    |false=>exact fun hr=>h6 (hR b ⟨H.rlt b hr,H.notM hr⟩)
    |true=>exact h6
 case ids=>
  intro g r hr;rw[G.look]at hr;cases hg:src g with
  |old=>simp only[hg]at hr;exact G.up g (H.ids g r hr)
  |new=>exact G.up' g hg
  |gone=>simp[hg]at hr
  |wri j p=>
   simp only[hg]at hr;obtain⟨_,s,xs,ys,h2,_⟩:=G.wri g j p hg;obtain⟨rt,hl,_⟩:=C6 h2;exact G.up g (H.ids g rt hl)
 case keeps=>
  rw[c1];intro b c hb;obtain⟨c',h6,h7⟩:=H.keeps b c hb;obtain⟨c2,h8,h9⟩:=H'.keeps b c' h6;exact⟨c2,h8,h9.trans h7⟩
 case base=>
  rw[c3,c4];intro g r hk hr;rw[G.look]at hr;simp only[Dr];cases hg:src g with
  |old=>simp only[hg]at hr⊢;exact H.base g r hk hr
  |new=>exact absurd (H.kn g hk) (G.new g hg).1
  |gone=>exact absurd hk (G.gone g hg)
  |wri j p=>
   obtain⟨_,s,xs,ys,h2,_⟩:=G.wri g j p hg;obtain⟨rt,hl,_⟩:=C6 h2;have hb:=H.base g rt hk hl;simp only;cases p with
   |nil=>simp only[Nm];rw[mutp hg];exact hb
   |cons a p=>obtain⟨a1,a2⟩:=a;exact hb
 case kn=>
  rw[c3];intro g hg;exact G.up g (H.kn g hg)
 case fixed=>
  intro b hb;cases sh with
  |false=>exact(outer (H.rlt b hb) (H.notM hb)).trans (H.fixed b hb)
  |true=>rfl
 case rsub=>
  intro b hb;rw[c1,c2,c5];cases sh with
  |false=>exact H.rsub b hb
  |true=>
   rcases H'.rsub b hb with h|h|h
   ·exact H.rsub b h
   ·rcases inM h with h|h
    ·exact .inr (.inr h)
    ·exact .inr (.inl h)
   ·exact .inr (.inr (Nat.le_trans H.size h))
 case rlt=>
  intro b hb;cases sh with
  |false=>exact Nat.lt_of_lt_of_le (H.rlt b hb) H'.size
  |true=>exact H'.rlt b hb
end
section
variable{P:Program}{E:Env}{x:Ctx}{w w':World}{h hf hc hy:Ah}{n nn nf:Nat→Prop}{L:List AV}{U U':Nat→Value}{ρ ρf:Option Nat→Am}{sh:Bool}{gs:List (Nat×Br)}{src:Nat→Src}{R':Nat→Prop}{wr':World}
theorem Aw.merge{S S':Af}{ts:Array Value}(H:Bp x w h n [] U ρ)(hs:Aw x w h n ρ S ts)(hR:∀b,Yy sh x w ρ gs b→R' b)(H':Bp {Ga sh x w ρ gs with R:=R',wr:=wr'} w' hf nf [] U' ρf)(G:B32 sh n nn x.k h hf hc gs src)
 (hS:∀d s,A4 S' d=some s→∃s0,A4 S d=some s0∧s.c=s0.c∧(s.v=s0.v∨s.v=.undef)∧(Cy s.c→E4 (fun g p=>∀j q,src g=.wri j q→p=[]) s.v)):
 Aw (Ju sh x R' w') w' hc nn (Dr ρ ρf src) S' ts:=by
 have hlift:=A54 H H' hR;intro d s hd;obtain⟨s0,h0,hc0,hv,hgood⟩:=hS d s hd;obtain⟨h1,h2⟩:=hs d s0 h0;refine⟨fun ht=>?_,fun hf=>h2 (hc0▸hf)⟩;rcases hv with hv|hv
 ·have hgd:=hgood ht
  rw[hv]at hgd⊢;have h3:=h1 (hc0▸ht);have h4:Az x w' h n ρ s0.v (ts.getD d undef):=h3.frame fun g p b o c hp hb=>H'.keeps b c hb;refine(h4.lift hlift A1z).weaken (P:=fun g p=>∀j q,src g=.wri j q→p=[]) hgd G.up ?_ H.ids ?_
  ·intro g hn hl
   rw[G.look];cases hg:src g with
   |old=>exact hl
   |new=>exact absurd hn (G.new g hg).1
   |gone=>rfl
   |wri j p=>simp only[hl]
  ·intro g p hp
   cases hg:src g with
   |old=>
    refine .inr ⟨fun s xs h5=>⟨xs,?_,rfl⟩,fun q hq=>by simp[Dr,hg];exact hq⟩;unfold hget at h5⊢;rw[G.look,hg];exact h5
   |new=>
    have hl:A4 h g=none:=by
     cases hl:A4 h g with
     |none=>rfl
     |some r=>exact absurd (H.ids g r hl) (G.new g hg).1
    refine .inr ⟨fun s xs h5=>?_,fun q hq=>?_⟩
    ·simp[hget,hl]at h5
    ·obtain⟨s1,xs1,h3⟩:=H.live _ _ _ hq
     simp[Tc,hget,hl]at h3
   |gone=>exact .inl (by rw[G.look,hg])
   |wri j q=>
    have hp0:=hp j q hg;subst hp0;obtain⟨hgs,s1,xs1,ys,h6,h7,h8,_⟩:=G.wri g j q hg;obtain⟨rt,hl,hrt⟩:=C6 h6;have hlook:A4 hc g=some (AV.put (.own s1 ys) q rt):=by rw[G.look,hg];simp only[hl,h7]
    refine .inr ⟨fun s xs h5=>?_,fun z hz=>?_⟩
    ·rw[Cn hl]at h5
     simp only[AV.get,Option.some.injEq]at h5;subst h5;cases q with
     |nil=>
      simp only[AV.get,Option.some.injEq,AV.own.injEq]at hrt;obtain⟨rfl,rfl⟩:=hrt;exact⟨ys,by rw[Cn hlook];rfl,h8⟩
     |cons a q=>
      obtain⟨xs',e1,e2⟩:=A4g (p:=q) (y:=.own s1 ys) (a:=a) (s:=s) (xs:=xs) rfl;exact⟨xs',by rw[Cn hlook];rw[e1];rfl,e2⟩
    ·simp only[Dr,hg]
     cases q with
     |nil=>
      simp only[Nm];have hj:j<gs.length:=by
       rcases Nat.lt_or_ge j gs.length with h|h
       ·exact h
       ·rw[List.getElem?_eq_none h]at hgs;cases hgs
      have hb:=H'.base j _ hj h7;rw[hb];show Cj ρ gs (some j) []=_;simpa[Cj,hgs,Am.at_]using hz
     |cons a q=>obtain⟨a1,a2⟩:=a;exact hz
 ·rw[hv]
  exact .void
theorem Az.back{v:AV}{u:Value}(H':Bp {Ga sh x w ρ gs with R:=R',wr:=wr'} w' hf nf [] U' ρf)(G:B32 sh n nn x.k h hf hc gs src)(hs:Az {Ga sh x w ρ gs with R:=R',wr:=wr'} w' hf nf ρf v u)
 (hg:E4 (fun g _=>src g=.new) v)(hnr:sh=false→v.noRd)(hfr:v.free):Az (Ju sh x R' w') w' hc nn (Dr ρ ρf src) v u:=by
 have h1:Az (Ju sh x R' w') w' hf nf ρf v u:=by
  cases sh with
  |false=>exact hs.other (hnr rfl)
  |true=>exact hs.liftF (fun b hb=>⟨hb,H'.fixed b hb⟩) hfr
 have gen:∀{v:AV} {u:Value},Az (Ju sh x R' w') w' hf nf ρf v u→E4 (fun g _=>src g=.new) v→Az (Ju sh x R' w') w' hc nn (Dr ρ ρf src) v u:=by
  have lk:∀{g},src g=.new→A4 hc g=A4 hf g:=fun{g} hg=>by rw[G.look,hg]
  have hgt:∀{g p},src g=.new→hget hc g p=hget hf g p:=fun{g p} hg=>by unfold hget;rw[lk hg]
  intro v u hs;induction hs with
  |cell hr=>intro _;exact .cell hr
  |nils=>intro _;exact .nils
  |emp=>intro _;exact .emp
  |void=>intro _;exact .void
  |someI=>intro _;exact .someI
  |nilp=>intro _;exact .nilp
  |gone hl hn=>intro hg;cases hg with|view h=>exact .gone (by rw[lk h];exact hl) (G.up' _ h)
  |gonep hl hn=>intro hg;cases hg with|ptr h=>exact .gonep (by rw[lk h];exact hl) (G.up' _ h)
  |goneb hl hn=>intro hg;cases hg with|bx h=>exact .goneb (by rw[lk h];exact hl) (G.up' _ h)
  |view0 hl hh=>intro hg;cases hg with|view h=>exact .view0 (by rw[hgt h];exact hl) hh
  |view hl hh hcap hρ hb hroom=>intro hg;cases hg with|view h=>exact .view (by rw[hgt h];exact hl) hh hcap (by simp[Dr,h];exact hρ) hb hroom
  |ptr hl hρ=>intro hg;cases hg with|ptr h=>exact .ptr (by rw[hgt h];exact hl) (by simp[Dr,h];exact hρ)
  |bx hl hρ=>intro hg;cases hg with|bx h=>exact .bx (by rw[lk h];exact hl) (by simp[Dr,h];exact hρ)
  |pin V hc=>intro _;exact .pin V hc
  |agg hl hc ih=>intro hg;cases hg with|agg h=>exact .agg hl fun i c hi=>ih i c hi (h c (List.mem_of_getElem? hi))
  |tup hl hc ih=>intro hg;cases hg with|tup h=>exact .tup hl fun i c hi=>ih i c hi (h c (List.mem_of_getElem? hi))
  |fn hl hc ih=>intro hg;cases hg with|fn h=>exact .fn hl fun i c hi=>ih i c hi (h c (List.mem_of_getElem? hi))
 exact gen h1 hg
end
def Rj(P:Program)(f:Nat)(args:Array Value)(w:World)(R:Value→World→Prop):Prop:=
 ((callFunc f args).run P w=.ok (.enter f args) w∧Calls P f args w fun e w'=>∃u,e=.returned u∧R u w')∨
 (∃u w',(callFunc f args).run P w=.ok (.value u) w'∧R u w')∨
 (∃row as w1,(callFunc f args).run P w=.ok (.row row as) w1∧Rows P row as w1 R)
def Bf:List Nat→List AV→Ah
 |g::gs,y::ys=>(g,y)::Bf gs ys
 |_,_=>[]
def Ss(hy:Ah):List Nat→List AV→Prop
 |[],[]=>True
 |g::gs,y::ys=>(∃s xs zs,A4 hy g=some (.own s xs)∧y=.own s zs∧zs.length=xs.length)∧Ss hy gs ys
 |_,_=>False
def Du(idr:Nat)(g:Nat):Prop:=idr≤g∧g<idr+16
def GOk(gw:World→Prop)(w:World)(M:Nat→Prop):Prop:=
 ∃B:Nat→Prop,(∀b,B b→b<w.heap.size∧¬M b)∧∀w':World,(∀b,B b→w'.heap[b]? =w.heap[b]?)→gw w'
theorem GOk.here{gw:World→Prop}{w:World}{M:Nat→Prop}(G:GOk gw w M):gw w:=by
 obtain⟨B,_,hg⟩:=G;exact hg w fun _ _=>rfl
theorem GOk.mono{gw gw':World→Prop}{w:World}{M:Nat→Prop}(hi:∀w,gw w→gw' w)(G:GOk gw w M):GOk gw' w M:=by
 obtain⟨B,h1,hg⟩:=G;exact⟨B,h1,fun w' h=>hi _ (hg w' h)⟩
theorem GOk.none{w:World}{M:Nat→Prop}:GOk (fun _=>True) w M:=⟨fun _=>False,fun _ h=>h.elim,fun _ _=>trivial⟩
theorem Bp.gok{gw:World→Prop}{x:Ctx}{w:World}{h:Ah}{n:Nat→Prop}{L:List AV}{U:Nat→Value}{ρ:Option Nat→Am}{gs:List (Nat×Br)}(H:Bp x w h n L U ρ)(G:GOk gw x.w0 x.M):GOk gw w (Uw ρ gs):=by
 obtain⟨B,hB,hg⟩:=G;refine⟨B,fun b hb=>⟨Nat.lt_of_lt_of_le (hB b hb).1 H.size,fun hm=>?_⟩,fun w' hw=>hg w' fun b hb=>(hw b hb).trans (H.frame b (hB b hb).1 (hB b hb).2)⟩;obtain⟨j,g,p,q,o,_,ho⟩:=hm;have h1:=(H.mine _ _ _ _ ho).1.1;have h2:=hB b hb;rcases h1 with h1|h1
 ·omega
 ·exact h2.2 h1
def Au(P:Program)(f:Nat)(c:Bd):Prop:=
 ∀x,c.pre x→A2 (c.enc x)∧A2 (c.out x)∧(c.sh=false→A7 (c.out x))∧Bn 0 0 c.ms (c.enc x) fun S hy k mu=>Ss hy mu (c.out x)∧
  ∀(y:Ctx) (w:World) (args:Array Value) (ρ:Option Nat→Am),y.w0=w→y.k=k→y.R0=y.R→y.wr=w→GOk c.gw y.w0 y.M→args.size=c.ms.length→
   Bp y w hy (fun g=>g<k) [] (fun _=>undef) ρ→Aw y w hy (fun g=>g<k) ρ S args→
   ∀idr,k≤idr→∀K:AV→Ah→Prop,Mf c.ptr idr (c.res x) K→∃v os,K v os∧E4 (fun g _=>Du idr g) v∧
    (∀g r,A4 os g=some r→Du idr g∧(c.sh=false→r.noRd)∧r.free)∧(c.sh=false→v.noRd)∧v.free∧
    Rj P f args w fun u w'=>∃R' wr' ρf,(∀b,y.R b→R' b)∧Bp {y with R:=R',wr:=wr'} w' (Bf mu (c.out x)++os) (fun g=>g<k∨Du idr g) [] (fun _=>undef) ρf∧
     Az {y with R:=R',wr:=wr'} w' (Bf mu (c.out x)++os) (fun g=>g<k∨Du idr g) ρf v u
def FE(P:Program)(E:Env)(x:Ctx):Prop:=∀f c,E.F f=some c→Au P f c∧GOk c.gw x.w0 x.M
def A89(x:Ctx)(w:World)(h:Ah)(n:Nat→Prop)(ρ:Option Nat→Am)(v:AV)(u:Value):Prop:=
 match v with
 |.agg cs=>∃us:Array Value,u=.agg us∧us.size=cs.length∧∀(i:Nat) c,cs[i]? =some c→Mov x w h n ρ c (us.getD i undef)
 |.fn f cs=>∃us:Array Value,u=.func (.func f) #[] us∧us.size=cs.length∧∀(i:Nat) c,cs[i]? =some c→Mov x w h n ρ c (us.getD i undef)
 |v=>Mov x w h n ρ v u
section
variable{P:Program}{E:Env}{x:Ctx}{w w':World}{h hf hc hy:Ah}{n nn nf:Nat→Prop}{L:List AV}{U U':Nat→Value}{ρ ρf:Option Nat→Am}{sh:Bool}
theorem Az.movV{v:AV}{u:Value}(hs:Az x w h n ρ v u):A89 x w h n ρ v u:=by
 cases v with
 |agg cs=>cases hs with
  |cell hr=>cases hr
  |agg hl hc=>exact⟨_,rfl,hl,fun i c hi=>(hc i c hi).mov⟩
 |fn f cs=>cases hs with
  |cell hr=>cases hr
  |fn hl hc=>exact⟨_,rfl,hl,fun i c hi=>(hc i c hi).mov⟩
 |_=>exact hs.mov
theorem So{v:AV}{u:Value}(h1:∀cs,v≠.agg cs)(h2:∀f cs,v≠.fn f cs):A89 x w h n ρ v u=Mov x w h n ρ v u:=by
 cases v<;>first|rfl|exact absurd rfl (h1 _)|exact absurd rfl (h2 _ _)
theorem A89.step{h':Ah}{ρ':Option Nat→Am}(hm:∀v u,Mov x w h n ρ v u→Mov x w h' n ρ' v u){v:AV}{u:Value}(hv:A89 x w h n ρ v u):A89 x w h' n ρ' v u:=by
 cases v with
 |agg cs=>obtain⟨us,e,h1,h2⟩:=hv;exact⟨us,e,h1,fun i c hi=>hm _ _ (h2 i c hi)⟩
 |fn f cs=>obtain⟨us,e,h1,h2⟩:=hv;exact⟨us,e,h1,fun i c hi=>hm _ _ (h2 i c hi)⟩
 |_=>
  rw[So (by simp) (by simp)]at hv⊢;exact hm _ _ hv
inductive Sc(sh:Bool)(x:Ctx)(w:World)(h:Ah)(n:Nat→Prop)(ρ:Option Nat→Am)(L:List AV)(U:Nat→Value):Nat→List Mz→List AV→List Value→List (Nat×Br)→List Nat→List Nat→Prop
 |nil {i}:Sc sh x w h n ρ L U i [] [] [] [] [] []
 |rd {i ts v u ms as us qs rs ws} (hv:A89 x w h n ρ v u) (hn:∀g,g∈v.ids→n g) (hr:Sc sh x w h n ρ L U i ms as us qs rs ws):Sc sh x w h n ρ L U i (.rd ts::ms) (Ud sh h ts v::as) (u::us) qs (v.ids++rs) ws
 |one {i ts c u wv ms as us qs rs ws} (hc:L[i]? =some c) (hu:U i=u) (hag:∀cs,c≠.agg cs) (hr:Sc sh x w h n ρ L U (i+1) ms as us qs rs ws):Sc sh x w h n ρ L U i (.co ts::ms) (c::as) (u::us) qs rs (wv++ws)
 |many {i ts cs vs wv ms as us qs rs ws} (hl:vs.size=cs.length) (hc:∀(j:Nat) c,cs[j]? =some c→L[i+j]? =some c∧U (i+j)=vs.getD j undef) (hr:Sc sh x w h n ρ L U (i+cs.length) ms as us qs rs ws):
   Sc sh x w h n ρ L U i (.co ts::ms) (.agg cs::as) (.agg vs::us) qs rs (wv++ws)
 |mv {i g p s xs u ms as us qs rs ws} (hg:hget h g p=some (.own s xs)) (hv:Az x w h n ρ (.view g p 0 xs.length) u) (hr:Sc sh x w h n ρ L U i ms as us qs rs ws):Sc sh x w h n ρ L U i (.mv::ms) (.own s xs::as) (u::us) ((g,p)::qs) rs (g::ws)
 |mp {i g s r u ms as us qs rs ws} (hg:A4 h g=some (.own s [r])) (hv:Az x w h n ρ (.bx g 0) u) (hr:Sc sh x w h n ρ L U i ms as us qs rs ws):Sc sh x w h n ρ L U i (.mp::ms) (.own s [r]::as) (u::us) ((g,[])::qs) rs (g::ws)
 |ma {i g p s xs u ms as us qs rs ws} (hg:hget h g p=some (.own s xs)) (hv:Az x w h n ρ (.view g p 0 xs.length) u) (hr:Sc sh x w h n ρ L U i ms as us qs rs ws):Sc sh x w h n ρ L U i (.ma::ms) (.agg [.own s xs]::as) (.agg #[u]::us) ((g,p)::qs) rs (g::ws)
theorem A4l{sh:Bool}{S:Af}{h:Ah}{ms:List Mz}{v:AV}{vs:List AV}{K:List AV→List (Nat×Br)→List Nat→List Nat→Af→Ah→Prop}(hk:Dm sh S h (.ma::ms) (v::vs) K):
 (∃g p off len,v=.agg [.view g p off len]∧Dm sh S h ms vs fun as qs rs ws S' h'=>arr h' g p fun s xs=>off=0∧len=xs.length∧K (.agg [.own s xs]::as) ((g,p)::qs) rs (g::ws) S' h')∨
 ∃s g n,v=.agg [.arg s g n]∧Dm sh S h ms vs fun as qs rs ws S' h'=>arr h' g [] fun s' xs=>s=s'∧n=xs.length∧K (.agg [.own s' xs]::as) ((g,[])::qs) rs (g::ws) S' h':=by
 cases v<;>try exact hk.elim
 rename_i cs;match cs,hk with
 |[],hk=>exact hk.elim
 |[c],hk=>
  cases c<;>first
   |exact hk.elim
   |exact .inl ⟨_,_,_,_,rfl,hk⟩
   |exact .inr ⟨_,_,_,rfl,hk⟩
 |_::_::_,hk=>exact hk.elim
theorem C23{us:Array Value}{c:AV}(h:us.size=[c].length):us=#[us.getD 0 undef]:=by
 apply Array.ext
 ·simpa using h
 ·intro i h1 h2
  have:i=0:=by simp at h2;omega
  subst this;simp[h1]
theorem B9p{x:Ctx}{w:World}{h:Ah}{n:Nat→Prop}{L:List AV}{U:Nat→Value}{ρ:Option Nat→Am}(H:Bp x w h n L U ρ){π:Am}{s g m:Nat}{u:Value}{xs:List (List AV)}(hr:Rep x w π (.arg s g m) u)(hg:hget h g []=some (.own s xs))(hm:m=xs.length):Az x w h n ρ (.view g [] 0 xs.length) u:=by
 subst hm;generalize hl:xs.length=len at hr;cases hr with
 |arg0=>exact .view0 hg (Nat.zero_le _)
 |arg hβ hk hcap hb hroom=>
  obtain⟨r,hl2,hr2⟩:=C6 hg;simp only[AV.get,Option.some.injEq]at hr2;subst hr2;have hρ:=(H.base g _ hk hl2).trans hβ;obtain⟨c',h1,h2⟩:=H.keeps _ _ hb;have:=Az.view (x:=x) (n:=n) (off:=0) hg (by rw[Nat.zero_add];exact Nat.le_of_eq hl.symm) hcap hρ h1 (by rw[Nat.zero_add,h2];exact hroom);simpa using this
theorem B4r{S:Af}{t:Option Nat}{v:AV}{K:AV→Af→Ah→Prop}(hk:Em S h t v K):Em S h t v fun c S' h'=>(∀cs,c≠.agg cs)∧K c S' h':=by
 cases v<;>simp only[Em]at hk⊢<;>first
  |exact⟨by simp,hk⟩
  |(cases t with
    |none=>exact hk.elim
    |some s=>exact⟨by simp,hk⟩)
  |exact hk.elim
  |(obtain⟨s,xs,hg,hk⟩:=Bv hk
    unfold arr;rw[hg];simp only[Ir]at hk⊢;exact⟨by simp,hk⟩)
theorem Ke{ts:Array Value}:∀{ms:List Mz} {vs:List AV} {us:List Value} {S:Af} {h:Ah} {L:List AV} {U:Nat→Value} {ρ:Option Nat→Am} {K:List AV→List (Nat×Br)→List Nat→List Nat→Af→Ah→Prop},
 Bp x w h n L U ρ→Aw x w h n ρ S ts→vs.length=us.length→(∀(i:Nat) v u,vs[i]? =some v→us[i]? =some u→A89 x w h n ρ v u∧∀g,g∈v.ids→n g)→Dm sh S h ms vs K→
 ∃as qs rs ws S' h' ρ' L1 U',K as qs rs ws S' h'∧Bp x w h' n (L++L1) U' ρ'∧Aw x w h' n ρ' S' ts∧(∀v u,Mov x w h n ρ v u→Mov x w h' n ρ' v u)∧(∀j,j<L.length→U' j=U j)∧
  Sc sh x w h' n ρ' (L++L1) U' L.length ms as us qs rs ws
 |[],vs,us,S,h,L,U,ρ,K,H,hs,hl,hm,hk=>by
  cases vs with
  |cons v vs=>exact hk.elim
  |nil=>
   have:us=[]:=by cases us with|nil=>rfl|cons a r=>simp at hl
   subst this;exact⟨[],[],[],[],S,h,ρ,[],U,hk,by simpa using H,hs,fun _ _ h=>h,fun _ _=>rfl,.nil⟩
 |.rd t::ms,vs,us,S,h,L,U,ρ,K,H,hs,hl,hm,hk=>by
  cases vs with
  |nil=>exact hk.elim
  |cons v vs=>
   obtain⟨u,us,rfl⟩:∃a r,us=a::r:=by cases us with|nil=>simp at hl|cons a r=>exact⟨a,r,rfl⟩
   have hk':Dm sh S h ms vs fun as qs rs ws S' h'=>K (Ud sh h' t v::as) qs (v.ids++rs) ws S' h':=hk;obtain⟨as,qs,rs,ws,S',h',ρ',L1,U',hk2,H',hs',hmv,hU,hA⟩:=Ke H hs (by simpa using hl) (fun i v' u' hv hu=>hm (i+1) v' u' (by simpa using hv) (by simpa using hu)) hk';exact⟨_,_,_,_,S',h',ρ',L1,U',hk2,H',hs',hmv,hU,.rd ((hm 0 v u rfl rfl).1.step hmv) (hm 0 v u rfl rfl).2 hA⟩
 |.co t::ms,vs,us,S,h,L,U,ρ,K,H,hs,hl,hm,hk=>by
  cases vs with
  |nil=>exact hk.elim
  |cons v vs=>
   obtain⟨u,us,rfl⟩:∃a r,us=a::r:=by cases us with|nil=>simp at hl|cons a r=>exact⟨a,r,rfl⟩
   have hk':C1 S h t v.cells fun cs S1 h1=>Dm sh S1 h1 ms vs fun as qs rs ws S' h'=>K (wrap v cs::as) qs rs (v.ids++ws) S' h':=hk;clear hk;obtain⟨hv,hone⟩:=hm 0 v u rfl rfl;by_cases ha:∃cs,v=.agg cs
   ·obtain⟨cs0,rfl⟩:=ha
    obtain⟨vs0,rfl,e1,e2⟩:=hv;obtain⟨cs,S1,h1,ρ1,U1,hk1,H1,hs1,hl1,hl2,hU1,hU0,hmv1,_⟩:=Kj (us:=vs0.toList) H hs (by simpa[AV.cells]using e1.symm) (fun i c d hc hd=>by
     have:=e2 i c hc;have e:vs0.getD i undef=d:=by
      have:vs0[i]? =some d:=by simpa using hd
      simp[Array.getD_eq_getD_getElem?,this]
     rwa[e]at this) hk'
    obtain⟨as,qs,rs,ws,S',h',ρ',L1,U',hk2,H',hs',hmv,hU,hA⟩:=Ke H1 hs1 (by simpa using hl) (fun i v' u' hv hu=>by
     obtain⟨q1,q2⟩:=hm (i+1) v' u' (by simpa using hv) (by simpa using hu);exact⟨q1.step hmv1,q2⟩) hk1
    have hcl:cs.length=cs0.length:=hl1;rw[List.append_assoc]at H' hA;refine⟨_,_,_,_,S',h',ρ',cs++L1,U',hk2,H',hs',fun v u hh=>hmv _ _ (hmv1 _ _ hh),fun j hj=>?_,?_⟩
    ·rw[hU j (by simp;omega),hU0 j hj]
    ·refine .many (by rw[hcl];exact e1) (fun j c hj=>?_) (by simpa using hA)
     have hjl:j<cs.length:=by
      rcases Nat.lt_or_ge j cs.length with h|h
      ·exact h
      ·rw[List.getElem?_eq_none h]at hj;cases hj
     refine⟨?_,?_⟩
     ·rw[List.getElem?_append_right (by omega),show L.length+j - L.length=j from by omega,List.getElem?_append_left hjl]
      exact hj
     ·rw[hU _ (by simp;omega)]
      have hjv:j<vs0.size:=by omega
      rw[hU1 j vs0[j] (by simp[hjv])];simp[Array.getD_eq_getD_getElem?,hjv]
   ·have hvc:v.cells=[v]:=by cases v<;>first|rfl|exact absurd ⟨_,rfl⟩ ha
    rw[hvc]at hk';cases t with
    |nil=>exact hk'.elim
    |cons t0 tr=>
     cases tr with
     |cons t1 tr=>simp only[C1]at hk';exact((N9 H hs (by
       cases v<;>first|exact hv|exact absurd ⟨_,rfl⟩ ha|(intro hh;cases hh)) hk').choose_spec.choose_spec.choose_spec.choose_spec.1).elim
     |nil=>
      simp only[C1]at hk';have hmo:Mov x w h n ρ v u:=by cases v<;>first|exact hv|exact absurd ⟨_,rfl⟩ ha|(intro hh;cases hh)
      obtain⟨c,S1,h1,ρ1,⟨hca,hk1⟩,H1,hs1,hmv1,_⟩:=N9 H hs hmo (B4r hk');have hw:wrap v [c]=c:=by cases v<;>first|rfl|exact absurd ⟨_,rfl⟩ ha
      rw[hw]at hk1;obtain⟨as,qs,rs,ws,S',h',ρ',L1,U',hk2,H',hs',hmv,hU,hA⟩:=Ke H1 hs1 (by simpa using hl) (fun i v' u' hv hu=>by
       obtain⟨q1,q2⟩:=hm (i+1) v' u' (by simpa using hv) (by simpa using hu);exact⟨q1.step hmv1,q2⟩) hk1
      rw[List.append_assoc]at H' hA;refine⟨_,_,_,_,S',h',ρ',[c]++L1,U',hk2,H',hs',fun v u hh=>hmv _ _ (hmv1 _ _ hh),fun j hj=>?_,?_⟩
      ·rw[hU j (by simp;omega)]
       simp[Jg,Nat.ne_of_lt hj]
      ·refine .one (by simp) ?_ hca (by simpa using hA)
       rw[hU _ (by simp)];simp[Jg]
 |.mv::ms,vs,us,S,h,L,U,ρ,K,H,hs,hl,hm,hk=>by
  cases vs with
  |nil=>exact hk.elim
  |cons v vs=>
   obtain⟨u,us,rfl⟩:∃a r,us=a::r:=by cases us with|nil=>simp at hl|cons a r=>exact⟨a,r,rfl⟩
   cases v with
   |view g p off len=>
    have hk':Dm sh S h ms vs fun as qs rs ws S' h'=>arr h' g p fun s xs=>off=0∧len=xs.length∧K (.own s xs::as) ((g,p)::qs) rs (g::ws) S' h':=hk;obtain⟨as,qs,rs,ws,S',h',ρ',L1,U',hk2,H',hs',hmv,hU,hA⟩:=Ke H hs (by simpa using hl) (fun i v' u' hv hu=>hm (i+1) v' u' (by simpa using hv) (by simpa using hu)) hk';obtain⟨s,xs,hg,e1,e2,hk3⟩:=Bv hk2;clear hk2;subst e1;subst e2;have hv:=hmv _ _ (show Mov x w h n ρ (.view g p 0 xs.length) u from(hm 0 _ u rfl rfl).1);exact⟨_,_,_,_,S',h',ρ',L1,U',hk3,H',hs',hmv,hU,.mv hg (hv s xs hg) hA⟩
   |arg s0 g n0=>
    have hk':Dm sh S h ms vs fun as qs rs ws S' h'=>arr h' g [] fun s xs=>s0=s∧n0=xs.length∧K (.own s xs::as) ((g,[])::qs) rs (g::ws) S' h':=hk;obtain⟨as,qs,rs,ws,S',h',ρ',L1,U',hk2,H',hs',hmv,hU,hA⟩:=Ke H hs (by simpa using hl) (fun i v' u' hv hu=>hm (i+1) v' u' (by simpa using hv) (by simpa using hu)) hk';obtain⟨s,xs,hg,e1,e2,hk3⟩:=Bv hk2;clear hk2;subst e1;have hr:Rep x w Ax (.arg s0 g n0) u:=(show Mov x w h n ρ (.arg s0 g n0) u from(hm 0 _ u rfl rfl).1) rfl;exact⟨_,_,_,_,S',h',ρ',L1,U',hk3,H',hs',hmv,hU,.mv hg (B9p H' hr hg e2) hA⟩
   |_=>exact hk.elim
 |.mp::ms,vs,us,S,h,L,U,ρ,K,H,hs,hl,hm,hk=>by
  cases vs with
  |nil=>exact hk.elim
  |cons v vs=>
   obtain⟨u,us,rfl⟩:∃a r,us=a::r:=by cases us with|nil=>simp at hl|cons a r=>exact⟨a,r,rfl⟩
   cases v with
   |bx g f=>
    cases f with
    |succ f=>exact hk.elim
    |zero=>
     have hk':Dm sh S h ms vs fun as qs rs ws S' h'=>arr h' g [] fun s xs=>match xs with
      |[_]=>K (.own s xs::as) ((g,[])::qs) rs (g::ws) S' h'
      |_=>False:=hk
     obtain⟨as,qs,rs,ws,S',h',ρ',L1,U',hk2,H',hs',hmv,hU,hA⟩:=Ke H hs (by simpa using hl) (fun i v' u' hv hu=>hm (i+1) v' u' (by simpa using hv) (by simpa using hu)) hk';obtain⟨s,xs,hg,hk2⟩:=Bv hk2;match xs,hg,hk2 with
     |[],_,hk2=>exact hk2.elim
     |_::_::_,_,hk2=>exact hk2.elim
     |[r],hg,hk2=>
      obtain⟨rt,hl',hrt⟩:=C6 hg;simp only[AV.get,Option.some.injEq]at hrt;subst hrt;have hv:=hmv _ _ (show Mov x w h n ρ (.bx g 0) u from(hm 0 _ u rfl rfl).1);exact⟨_,_,_,_,S',h',ρ',L1,U',hk2,H',hs',hmv,hU,.mp hl' (hv s r hl') hA⟩
   |_=>exact hk.elim
 |.ma::ms,vs,us,S,h,L,U,ρ,K,H,hs,hl,hm,hk=>by
  cases vs with
  |nil=>exact hk.elim
  |cons v vs=>
   obtain⟨u,us,rfl⟩:∃a r,us=a::r:=by cases us with|nil=>simp at hl|cons a r=>exact⟨a,r,rfl⟩
   rcases A4l hk with⟨g,p,off,len,rfl,hk'⟩|⟨s0,g,n0,rfl,hk'⟩
   ·obtain⟨as,qs,rs,ws,S',h',ρ',L1,U',hk2,H',hs',hmv,hU,hA⟩:=Ke H hs (by simpa using hl) (fun i v' u' hv hu=>hm (i+1) v' u' (by simpa using hv) (by simpa using hu)) hk'
    obtain⟨s,xs,hg,e1,e2,hk3⟩:=Bv hk2;clear hk2;subst e1;subst e2;obtain⟨us0,rfl,hz,hc⟩:=(hm 0 _ u rfl rfl).1;have hv:=hmv _ _ (hc 0 _ rfl);rw[C23 hz];exact⟨_,_,_,_,S',h',ρ',L1,U',hk3,H',hs',hmv,hU,.ma hg (hv s xs hg) hA⟩
   ·obtain⟨as,qs,rs,ws,S',h',ρ',L1,U',hk2,H',hs',hmv,hU,hA⟩:=Ke H hs (by simpa using hl) (fun i v' u' hv hu=>hm (i+1) v' u' (by simpa using hv) (by simpa using hu)) hk'
    obtain⟨s,xs,hg,e1,e2,hk3⟩:=Bv hk2;clear hk2;subst e1;obtain⟨us0,rfl,hz,hc⟩:=(hm 0 _ u rfl rfl).1;have hr:Rep x w Ax (.arg s0 g n0) (us0.getD 0 undef):=(show Mov x w h n ρ (.arg s0 g n0) (us0.getD 0 undef)from hc 0 _ rfl) rfl;rw[C23 hz];exact⟨_,_,_,_,S',h',ρ',L1,U',hk3,H',hs',hmv,hU,.ma hg (B9p H' hr hg e2) hA⟩
end
section
variable{P:Program}{E:Env}{x:Ctx}{w w':World}{h h2 hf hc hy:Ah}{n n2 nn nf:Nat→Prop}{L L2:List AV}{U U':Nat→Value}{ρ ρ2 ρf:Option Nat→Am}{sh:Bool}{id:Nat}
theorem Az.known{v:AV}{u:Value}(hs:Az x w h n ρ v u)(hg:E4 (fun g _=>n g) v)(hlt:∀g r,A4 h g=some r→n g)(h1:∀g,n g→A4 h2 g=A4 h g∧ρ2 (some g)=ρ (some g))(h3:∀g,n g→n2 g):Az x w h2 n2 ρ2 v u:=
 hs.weaken hg h3 (fun g hn hl=>by rw[(h1 g hn).1];exact hl) hlt fun g p hn=>.inr ⟨fun s xs h=>⟨xs,by
  unfold hget at h⊢;rw[(h1 g hn).1];exact h,rfl⟩,fun q hq=>by rw[(h1 g hn).2];exact hq⟩
theorem Mov.known{v:AV}{u:Value}(hm:Mov x w h n ρ v u)(hv:∀g,g∈v.ids1→n g)(hlt:∀g r,A4 h g=some r→n g)(h1:∀g,n g→A4 h2 g=A4 h g∧ρ2 (some g)=ρ (some g))(h3:∀g,n g→n2 g):Mov x w h2 n2 ρ2 v u:=by
 cases v with
 |view g p o l=>
  intro s xs hg;have hn:=hv g (by simp[AV.ids1]);refine(hm s xs ?_).known (.view hn) hlt h1 h3;unfold hget at hg⊢;rw[(h1 g hn).1]at hg;exact hg
 |ptr g p i f=>
  intro s xs hg;have hn:=hv g (by simp[AV.ids1]);refine(hm s xs ?_).known (.ptr hn) hlt h1 h3;unfold hget at hg⊢;rw[(h1 g hn).1]at hg;exact hg
 |bx g f=>
  intro s r hg;have hn:=hv g (by simp[AV.ids1]);refine(hm s r ?_).known (.bx hn) hlt h1 h3;rw[(h1 g hn).1]at hg;exact hg
 |_=>exact hm
theorem Ob:∀{cs:List AV} {i:Nat} {c:AV},cs[i]? =some c→∀g,g∈c.ids1→g∈G9 cs
 |[],i,c,hc,g,hg=>by simp at hc
 |a::cs,i,c,hc,g,hg=>by
  simp only[G9,List.mem_append];cases i with
  |zero=>simp only[List.getElem?_cons_zero,Option.some.injEq]at hc;subst hc;exact .inl hg
  |succ i=>exact .inr (Ob (by simpa using hc) g hg)
theorem Vn{v:AV}(h1:∀cs,v≠.agg cs)(h2:∀f cs,v≠.fn f cs)(h3:∀cs,v≠.tup cs):v.ids=v.ids1:=by
 cases v<;>first|rfl|exact absurd rfl (h1 _)|exact absurd rfl (h2 _ _)|exact absurd rfl (h3 _)
theorem A4x{S:Af}{ts:Array Value}:∀(is:List Nat) {h:Ah} {n:Nat→Prop} {L:List AV} {ρ:Option Nat→Am},is.Nodup→(∀i,i∈is→∃s xs,L[i]? =some (.own s xs))→(∀i,i∈is→¬n (id+i))→
 Bp x w h n L U ρ→Aw x w h n ρ S ts→∃h' n' L' ρ',Bp x w h' n' L' U ρ'∧Aw x w h' n' ρ' S ts∧(∀i,i∈is→A4 h' (id+i)=L[i]? ∧∀q,ρ' (some (id+i)) q=ρ none ((0,i)::q))∧
  (∀g,(∀i,i∈is→g≠id+i)→A4 h' g=A4 h g∧ρ' (some g)=ρ (some g))∧(∀g,n' g↔n g∨∃i,i∈is∧g=id+i)
 |[],h,n,L,ρ,hnd,hown,hfr,H,hs=>⟨h,n,L,ρ,H,hs,by simp,fun _ _=>⟨rfl,rfl⟩,by simp⟩
 |i::is,h,n,L,ρ,hnd,hown,hfr,H,hs=>by
  obtain⟨s,xs,hi⟩:=hown i (by simp);have hid:=hfr i (by simp);have H1:=H.rootOne hi hid;have S1:=Aw.rootOne H hs (i:=i) hid (.own s xs);have hni:i∉is:=(List.nodup_cons.1 hnd).1;obtain⟨h',n',L',ρ',H2,S2,a1,a2,a3⟩:=A4x is (List.nodup_cons.1 hnd).2 (fun j hj=>by
   obtain⟨s',xs',e⟩:=hown j (by simp[hj]);have:j≠i:=fun e'=>hni (e'▸hj);exact⟨s',xs',by rw[List.getElem?_set_ne (Ne.symm this)];exact e⟩) (fun j hj=>by
   have:j≠i:=fun e'=>hni (e'▸hj);rintro(h|h)
   ·exact hfr j (by simp[hj]) h
   ·omega) H1 S1
  refine⟨h',n',L',ρ',H2,S2,fun j hj=>?_,fun g hg=>?_,fun g=>?_⟩
  ·rcases List.mem_cons.1 hj with rfl|hj
   ·obtain⟨b1,b2⟩:=a2 (id+j) (fun k hk e=>by
     have:j=k:=by omega
     exact hni (this▸hk))
    refine⟨by rw[b1,Ac,if_pos rfl,hi],fun q=>?_⟩;rw[b2];simp[Hv,Am.sub]
   ·have hji:j≠i:=fun e'=>hni (e'▸hj)
    obtain⟨b1,b2⟩:=a1 j hj;refine⟨by rw[b1,List.getElem?_set_ne (Ne.symm hji)],fun q=>?_⟩;rw[b2];simp[Hv,hji]
  ·obtain⟨b1,b2⟩:=a2 g (fun k hk=>hg k (by simp[hk]))
   have hgi:=hg i (by simp);rw[b1,b2,Ac,if_neg (Ne.symm hgi)];exact⟨rfl,by simp[Hv,hgi]⟩
  ·rw[a3]
   constructor
   ·rintro((h|rfl)|⟨k,hk,rfl⟩)
    ·exact .inl h
    ·exact .inr ⟨i,by simp,rfl⟩
    ·exact .inr ⟨k,by simp[hk],rfl⟩
   ·rintro(h|⟨k,hk,rfl⟩)
    ·exact .inl (.inl h)
    ·rcases List.mem_cons.1 hk with rfl|hk
     ·exact .inl (.inr rfl)
     ·exact .inr ⟨k,hk,rfl⟩
theorem B74{y:Ctx}{hy:Ah}{ny:Nat→Prop}{ρy:Option Nat→Am}{π:Am}{s:Nat}{xs:List (List AV)}{u:Value}{j:Nat}(hr:Rep x w π (.own s xs) u)(hp:ρy (some j) []=π [])(hl:A4 hy j=some (.own s xs)):
 Az y w hy ny ρy (.view j [] 0 xs.length) u:=by
 have hget':hget hy j []=some (.own s xs):=by rw[Cn hl];rfl
 cases hr with
 |own0=>exact .view0 hget' (by simp)
 |own V hρ hcap hrow hb hroom hc hr1=>
  rename_i cap b o c;have:=Az.view (x:=y) (n:=ny) (ρ:=ρy) (off:=0) (cap:=cap) (b:=b) (o:=o) hget' (by simp) hcap (hp.trans hρ) hb (by simpa using hroom);simpa using this
structure A39(id:Nat)(L:List AV)(h2:Ah)(qs:List (Nat×Br))(i g0:Nat)(gs:List (Nat×Br))(hy:Ah):Prop where
 of:∀(j:Nat) r,A4 hy j=some r→g0≤j∧∃(g:Nat) (p:Br),gs[j - g0]? =some (g,p)∧hget h2 g p=some r
 own:∀(t g:Nat) (p:Br),gs[t]? =some (g,p)→∃s xs,hget h2 g p=some (.own s xs)∧A4 hy (g0+t)=some (.own s xs)
 src:∀(t g:Nat) (p:Br),gs[t]? =some (g,p)→(∃m,i≤m∧g=id+m∧p=[]∧∃s xs,L[m]? =some (.own s xs))∨(g,p)∈qs
theorem Be{α:Type}:∀(a b:List (Nat×α)) (k:Nat),A4 (a++b) k=match A4 a k with|some v=>some v|none=>A4 b k
 |[],b,k=>rfl
 |(j,v)::a,b,k=>by
  simp only[List.cons_append];rw[Ac,Ac];by_cases h:j=k
  ·rw[if_pos h,if_pos h]
  ·rw[if_neg h,if_neg h];exact Be a b k
theorem A39.append{i i' g0:Nat}{qs:List (Nat×Br)}{gs gs':List (Nat×Br)}{ha hb:Ah}(A:A39 id L h2 [] i g0 gs ha)(B:A39 id L h2 qs i' (g0+gs.length) gs' hb)(hii:i≤i'):A39 id L h2 qs i g0 (gs++gs') (ha++hb)where
 of:=fun j r hr=>by
  rw[Be]at hr;cases hl:A4 ha j with
  |some v=>
   rw[hl]at hr;simp only[Option.some.injEq]at hr;subst hr;obtain⟨h1,g,p,h3,h4⟩:=A.of j v hl;refine⟨h1,g,p,?_,h4⟩;have:j - g0<gs.length:=by
    rcases Nat.lt_or_ge (j - g0) gs.length with h|h
    ·exact h
    ·rw[List.getElem?_eq_none h]at h3;cases h3
   rw[List.getElem?_append_left this];exact h3
  |none=>
   rw[hl]at hr;obtain⟨h1,g,p,h3,h4⟩:=B.of j r hr;refine⟨by omega,g,p,?_,h4⟩;rw[List.getElem?_append_right (by omega),show j - g0 - gs.length=j - (g0+gs.length)from by omega];exact h3
 own:=fun t g p hg=>by
  by_cases ht:t<gs.length
  ·rw[List.getElem?_append_left ht]at hg
   obtain⟨s,xs,h1,h3⟩:=A.own t g p hg;exact⟨s,xs,h1,by rw[Be,h3]⟩
  ·rw[List.getElem?_append_right (by omega)]at hg
   obtain⟨s,xs,h1,h3⟩:=B.own _ g p hg;refine⟨s,xs,h1,?_⟩;rw[Be];have hn:A4 ha (g0+t)=none:=by
    cases hl:A4 ha (g0+t)with
    |none=>rfl
    |some v=>
     obtain⟨_,g',p',h5,_⟩:=A.of _ v hl;rw[List.getElem?_eq_none (by omega)]at h5;cases h5
   rw[hn];rw[show g0+t=g0+gs.length+(t - gs.length)from by omega];exact h3
 src:=fun t g p hg=>by
  by_cases ht:t<gs.length
  ·rw[List.getElem?_append_left ht]at hg
   rcases A.src t g p hg with h|h
   ·exact .inl h
   ·cases h
  ·rw[List.getElem?_append_right (by omega)]at hg
   rcases B.src _ g p hg with⟨m,h1,h3⟩|h
   ·exact .inl ⟨m,by omega,h3⟩
   ·exact .inr h
theorem Rv(H:Bp x w h n L U ρ)(R1:∀(i:Nat) s xs,L[i]? =some (.own s xs)→A4 h2 (id+i)=some (.own s xs)∧∀q,ρ2 (some (id+i)) q=ρ none ((0,i)::q))(hlift:∀gs,Ye x (Ga sh x w ρ2 gs)):
 ∀(cs:List AV) (i g0:Nat),A2 cs→(∀(j:Nat) c,cs[j]? =some c→L[i+j]? =some c)→∃gs cs' os,(∀K,B8 g0 cs K→K cs' os (g0+gs.length))∧A39 id L h2 [] i g0 gs os∧cs'.length=cs.length∧
  (∀(t t' g:Nat) (p p':Br),gs[t]? =some (g,p)→gs[t']? =some (g,p')→t=t')∧(∀(t g:Nat) (p:Br),gs[t]? =some (g,p)→g<id+i+cs.length)∧
  ∀(GS:List (Nat×Br)) (HY:Ah),(∀t gp,gs[t]? =some gp→GS[g0+t]? =some gp)→(∀j r,A4 os j=some r→A4 HY j=some r)→∀ny,∀(j:Nat) c,cs'[j]? =some c→Az (Ga sh x w ρ2 GS) w HY ny (Cj ρ2 GS) c (U (i+j))
 |[],i,g0,hfr,hc=>⟨[],[],[],fun K hk=>hk,⟨by simp[A4],by simp,by simp⟩,rfl,by simp,by simp,fun GS HY _ _ ny j c hj=>by simp at hj⟩
 |c::cs,i,g0,hfr,hc=>by
  have hc0:=hc 0 c rfl;simp only[Nat.add_zero]at hc0;have hloose:=H.loose i c hc0;have hcs:∀(j:Nat) d,cs[j]? =some d→L[i+1+j]? =some d:=fun j d hj=>by
   rw[show i+1+j=i+(j+1)from by omega];exact hc (j+1) d (by simpa using hj)
  by_cases ho:∃s xs,c=.own s xs
  ·obtain⟨s,xs,rfl⟩:=ho
   obtain⟨gs,cs',os,a1,a2,a3,a4,a5,a6⟩:=Rv H R1 hlift cs (i+1) (g0+1) hfr.2 hcs;obtain⟨r1,r2⟩:=R1 i s xs hc0;have hget':hget h2 (id+i) []=some (.own s xs):=by rw[Cn r1];rfl
   have A0:A39 id L h2 [] i g0 [(id+i,[])] [(g0,.own s xs)]:=⟨fun j r hr=>by
    rw[Ac]at hr;by_cases hj:g0=j
    ·subst hj
     rw[if_pos rfl]at hr;simp only[Option.some.injEq]at hr;subst hr;exact⟨Nat.le_refl _,id+i,[],by simp,hget'⟩
    ·rw[if_neg hj]at hr;simp[A4]at hr,
    fun t g p hg=>by
     cases t with
     |zero=>
      simp only[List.getElem?_cons_zero,Option.some.injEq,Prod.mk.injEq]at hg;obtain⟨rfl,rfl⟩:=hg;exact⟨s,xs,hget',by simp[Ac]⟩
     |succ t=>simp at hg,
    fun t g p hg=>by
     cases t with
     |zero=>
      simp only[List.getElem?_cons_zero,Option.some.injEq,Prod.mk.injEq]at hg;obtain⟨rfl,rfl⟩:=hg;exact .inl ⟨i,Nat.le_refl _,rfl,rfl,s,xs,hc0⟩
     |succ t=>simp at hg⟩
   refine⟨(id+i,[])::gs,.view g0 [] 0 xs.length::cs',(g0,.own s xs)::os,fun K hk=>?_,A0.append a2 (by omega),by simp[a3],?_,?_,?_⟩
   ·have:=a1 _ hk
    simp only[List.length_cons];rw[show g0+(gs.length+1)=g0+1+gs.length from by omega];exact this
   ·intro t t' g p p' ht ht'
    cases t with
    |zero=>
     simp only[List.getElem?_cons_zero,Option.some.injEq,Prod.mk.injEq]at ht;obtain⟨rfl,rfl⟩:=ht;cases t' with
     |zero=>rfl
     |succ t'=>
      rcases a2.src t' _ p' (by simpa using ht')with⟨m,h1,h3,_⟩|h
      ·omega
      ·cases h
    |succ t=>
     cases t' with
     |zero=>
      simp only[List.getElem?_cons_zero,Option.some.injEq,Prod.mk.injEq]at ht';obtain⟨rfl,rfl⟩:=ht';rcases a2.src t _ p (by simpa using ht)with⟨m,h1,h3,_⟩|h
      ·omega
      ·cases h
     |succ t'=>rw[a4 t t' g p p' (by simpa using ht) (by simpa using ht')]
   ·intro t g p ht
    cases t with
    |zero=>
     simp only[List.getElem?_cons_zero,Option.some.injEq,Prod.mk.injEq]at ht;obtain⟨rfl,rfl⟩:=ht;simp
    |succ t=>
     have:=a5 t g p (by simpa using ht);simp only[List.length_cons];omega
   ·intro GS HY hG hH ny j c hj
    cases j with
    |zero=>
     simp only[List.getElem?_cons_zero,Option.some.injEq]at hj;subst hj;refine B74 hloose ?_ (hH g0 _ (by simp[Ac]));have:=hG 0 _ rfl;simp only[Nat.add_zero]at this;simp[Cj,this,Am.at_,r2,Am.sub]
    |succ j=>
     rw[show i+(j+1)=i+1+j from by omega];refine a6 GS HY (fun t gp ht=>?_) (fun j' r hr=>hH j' r ?_) ny j c (by simpa using hj)
     ·rw[show g0+1+t=g0+(t+1)from by omega]
      exact hG (t+1) gp (by simpa using ht)
     ·rw[Ac]
      have:=(a2.of j' r hr).1;rw[if_neg (by omega)];exact hr
  ·have hno:c.isOwn=false:=by cases c<;>first|rfl|exact absurd ⟨_,_,rfl⟩ ho
   obtain⟨gs,cs',os,a1,a2,a3,a4,a5,a6⟩:=Rv H R1 hlift cs (i+1) g0 hfr.2 hcs;refine⟨gs,c::cs',os,fun K hk=>?_,⟨a2.of,a2.own,fun t g p ht=>?_⟩,by simp[a3],a4,?_,?_⟩
   ·have hk':B8 g0 cs fun cs os n=>K (c::cs) os n:=by cases c<;>first|exact hk|exact absurd ⟨_,_,rfl⟩ ho
    exact a1 _ hk'
   ·rcases a2.src t g p ht with⟨m,h1,h3⟩|h
    ·exact .inl ⟨m,by omega,h3⟩
    ·exact .inr h
   ·intro t g p ht
    have:=a5 t g p ht;simp only[List.length_cons];omega
   ·intro GS HY hG hH ny j d hj
    cases j with
    |zero=>
     simp only[List.getElem?_cons_zero,Option.some.injEq]at hj;subst hj;exact .cell ((hloose.of_not_own hno).liftF (hlift GS) hfr.1)
    |succ j=>
     rw[show i+(j+1)=i+1+j from by omega];exact a6 GS HY hG hH ny j d (by simpa using hj)
end
end Go.GH
