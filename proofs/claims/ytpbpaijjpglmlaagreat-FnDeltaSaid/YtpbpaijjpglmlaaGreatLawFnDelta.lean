/- FnDelta: for all arguments the law returns true, and its arguments read as they did. It holds for every input, with no condition. -/
import Derived.Test.YtpbpaijjpglmlaaGreatSD
import Derived.Test.YtpbpaijjpglmlaaGreatRows
set_option linter.unusedVariables false
set_option linter.unusedSimpArgs false
set_option maxRecDepth 100000
namespace Go.GH
open Go Go.Proofs
open Go.ChangeShapes Go.WideShapes Go.ChangeAt Go.RowKit
theorem C6h{xs:List (List AV)}(h:∀r,r∈xs→ofL [.int .u8] r):∃s:Str,xs=s.map Ag:=by
 induction xs with
 |nil=>exact⟨[],rfl⟩
 |cons r xs ih=>
  obtain⟨s,rfl⟩:=ih fun r hr=>h r (by simp[hr]);obtain⟨c0,r0,rfl,⟨n,rfl,hn⟩,e⟩:=h r (by simp);have e:r0=[]:=e;subst e;have hn2:0≤n∧n≤255:=hn;refine⟨UInt8.ofNat n.toNat::s,?_⟩;have:((UInt8.ofNat n.toNat).toNat:Int)=n:=by rw[UInt8.toNat_ofNat'];omega
  rw[List.map_cons];unfold Ag;rw[this]
theorem C2h:R6 Tryz.prog 12 22=some [.slice 1 [.int .u8]]:=by kernel_rfl
theorem C6o{a:AV}(h:C6r Tryz.prog 12 22 a):∃s:Str,a=.rd 1 (s.map Ag)∧s.length≤9223372036854775807:=by
 obtain⟨sh,avs,h1,h2,h3⟩:=h;rw[C2h]at h1;obtain rfl:=Option.some.inj h1;rw[Tryz.underlying22]at h3;obtain⟨c,r,rfl,⟨xs,rfl,hl,hx⟩,e⟩:=h2;have e:r=[]:=e;subst e;obtain⟨s,rfl⟩:=C6h hx;have h3:[AV.rd 1 (s.map Ag)]=[a]:=h3;exact⟨s,(List.cons.inj h3).1.symm,by simpa using hl⟩
namespace YtpbpaijjpglmlaaGreat.fnDelta
open Go.ChangeShapes Go.WideShapes Go.ChangeAt Go.RowKit
set_option maxRecDepth 100000
theorem own:ownKnob Tryz.prog.godebug=none:=by kernel_rfl
theorem hargs:∀us,B61 Tryz.prog 12 [22] us→∃x,Ff.pre x∧Ff.enc x=us∧Ff.res x=.bool true:=by
 intro us has;obtain⟨a,r,rfl,ha,e⟩:=has;have e:r=[]:=e;subst e;obtain⟨s,rfl,h1⟩:=C6o ha;exact⟨s,h1,rfl,rfl⟩
theorem C8k(os:Os)(started:os.Started)(H:Type)(enc:TypeId×Value→H):
 ReturnsInHanded {} Tryz.checked os 6 .any (Go.Proofs.YtpbpaijjpglmlaaGreat.Rows.fnDeltaSpec.pre6 enc Tryz.prog Tryz.f6 Go.Proofs.YtpbpaijjpglmlaaGreat.Rows.fnDeltaRow.domain false) (Go.Proofs.YtpbpaijjpglmlaaGreat.Rows.fnDeltaSpec.post enc Tryz.prog Tryz.f6 false true false false):=by
 refine returnsInHanded_of_change_sized (C:=Tryz.checked) own started (by kernel_rfl) Tryz.func6
  (ChangeSpec.witness6 (enc:=enc) (C:=Tryz.checked) false ⟨#[],#[.slice none 0 0],[]⟩ 8 (by kernel_rfl) (by kernel_rfl) (by kernel_rfl) (by kernel_rfl)) ?_
 intro W base args ds gs before hval0 hW hcnd hsz0 _;have hval:∀(j:Nat) t v,Tryz.f6.params[j]? =some t→args[j]? =some v→Value.okWide Tryz.prog W .any base t v:=hval0;have hW':=hW;obtain⟨p,q,hA0,hV,rfl,hfz,hnd⟩:=hW;have hA:DataW.TrodAll enc Tryz.prog W 0 (fun _=>true) true Tryz.f6.params.toList args.toList ds p:=hA0;obtain⟨rfl,rfl⟩:=trodVars_none hV;have hA2:=hA;rw[Tryz.params6]at hA2;obtain⟨v0,vs0,d0,ds0,p0,q0,e0,rfl,rfl,h0,r0⟩:=trodAll_cons hA2;obtain⟨ez,rfl,rfl⟩:=trodAll_nil r0;have hsh:∀t,t∈Tryz.f6.params.toList→∃sh,R6 Tryz.prog 12 t=some sh:=by
  intro t ht;have ht:t=22:=by simpa[Tryz.params6]using ht
  rcases ht with rfl
  ·exact⟨_,C2h⟩
 refine(C3y A36 rfl Tryz.call6 (ts:=Tryz.f6.params.toList) rfl rfl hsh hargs ⟨fun _=>False,fun _ h=>h.elim,fun _ _=>trivial⟩ (fun j t v h1 h2=>hval j t v (by simpa using h1) h2) hA).mono fun e W' ⟨he,bel,hk⟩=>?_;subst he;exact⟨_,rfl,_,_,_,[],_,[],hW',trodAll_mk1 (shut_bool Tryz.underlying4 _),hk,rfl,bel.frame _,fun h=>by cases h⟩
theorem C9b:Go.Proofs.YtpbpaijjpglmlaaGreat.Rows.fnDeltaRow.holds Go.Proofs.YtpbpaijjpglmlaaGreat.Tryz.pinned (OpenSpec.ofChange Go.Proofs.YtpbpaijjpglmlaaGreat.Rows.fnDeltaSpec):=
 OpenClaim.holds_of_wide 6 Tryz.f6 rfl rfl rfl rfl rfl rfl rfl ⟨rfl,rfl,rfl,rfl,rfl⟩ rfl rfl rfl rfl rfl (by kernel_rfl) Tryz.func6 (by kernel_rfl)
  (of_decide_eq_true (by kernel_rfl)) (by unfold Func.isWrapper;first|(rw[if_pos (by decide+kernel)];kernel_rfl)|(rw[if_neg (by decide+kernel)];exact⟨rfl,rfl⟩))
  (fun os started H enc _=>C8k os started H enc)
theorem proved:Go.Proofs.YtpbpaijjpglmlaaGreat.Rows.FnDeltaSaid:=C9b
end YtpbpaijjpglmlaaGreat.fnDelta
end Go.GH
namespace Go.Proofs.YtpbpaijjpglmlaaGreat
/-- The law, under a short name. -/
theorem fnDelta_holds:Rows.FnDeltaSaid:=Go.GH.YtpbpaijjpglmlaaGreat.fnDelta.proved
end Go.Proofs.YtpbpaijjpglmlaaGreat
#print axioms Go.Proofs.YtpbpaijjpglmlaaGreat.fnDelta_holds
