import Derived.Calls
import Derived.CheckFast
import Derived.Orders
import Derived.Below
import Derived.Laws.Sem
import Derived.Laws.World
import Derived.Laws.StructEq
set_option linter.unusedVariables false
set_option linter.unusedSimpArgs false
namespace Go.GH
open Go
universe u
abbrev Br:=List (Nat×Nat)
inductive AV where
 |int (k:IntKind) (n:Int)
 |bool (b:Bool)
 |str (s:List UInt8)
 |nils
 |emp
 |rd (s:Nat) (xs:List (List AV))
 |own (s:Nat) (xs:List (List AV))
 |view (g:Nat) (p:Br) (off len:Nat)
 |ptr (g:Nat) (p:Br) (i f:Nat)
 |bx (g f:Nat)
 |pin (cs:List AV)
 |agg (cs:List AV)
 |tup (vs:List AV)
 |fn (f:Nat) (caps:List AV)
 |nilI
 |someI
 |nilp
 |undef
 |arg (s g n:Nat)
 deriving Inhabited
structure B20 where
 c:Option Bool
 v:AV
 deriving Inhabited
abbrev Af:=List (Nat×B20)
abbrev Ah:=List (Nat×AV)
structure St where
 slots:Af
 heap:Ah
 next:Nat
 deriving Inhabited
def A4{α:Type u}:List (Nat×α)→Nat→Option α
 |[],_=>none
 |(k,x)::r,d=>match Nat.beq k d with
  |true=>some x
  |false=>A4 r d
def update{α:Type u}:List (Nat×α)→Nat→α→List (Nat×α)
 |[],_,_=>[]
 |(k,x)::r,d,y=>match Nat.beq k d with
  |true=>(k,y)::r
  |false=>(k,x)::update r d y
def remove{α:Type u}:List (Nat×α)→Nat→List (Nat×α)
 |[],_=>[]
 |(k,x)::r,d=>match Nat.beq k d with
  |true=>remove r d
  |false=>(k,x)::remove r d
inductive TK where
 |int (k:IntKind)|bool|str|slice (e:Nat)|struct (fs:List (Nat×Nat))|ptr (e:Nat)|iface
 deriving Inhabited
structure Ty where
 k:TK
 size:Nat
 bytes:Nat
 zero:List AV
 cs:List (Option Nat)
 deriving Inhabited
inductive Mz where
 |rd (ts:List (Option Nat))|co (ts:List (Option Nat))|mv|mp|ma
 deriving Inhabited
structure Bd where
 ms:List Mz
 sc:Bool
 sh:Bool
 α:Type
 enc:α→List AV
 pre:α→Prop
 res:α→AV
 out:α→List AV
 gw:World→Prop
 ptr:Bool
structure Env where
 T:Nat→Option Ty
 F:Nat→Option Bd
 kp:List Nat
def TK.agg:TK→Bool
 |.struct _=>true
 |_=>false
def AV.cells:AV→List AV
 |.agg cs=>cs
 |v=>[v]
def _root_.Go.Value.toAV:Value→AV
 |.int k n=>.int k n
 |.bool b=>.bool b
 |.string s=>.str s.data.toList
 |.slice a l c=>match a with
  |none=>match l with
   |0=>match c with
    |0=>.nils
    |_=>.undef
   |_=>.undef
  |_=>.undef
 |.nilIface=>.nilI
 |.pointer a=>match a with
  |none=>.nilp
  |_=>.undef
 |.func fn a b=>match fn with
  |.func f=>match a with
   |⟨a⟩=>match a with
    |[]=>match b with
     |⟨b⟩=>match b with
      |[]=>.fn f []
      |_=>.undef
    |_=>.undef
  |_=>.undef
 |_=>.undef
def row(xs:List (List AV))(i:Nat):List AV:=xs.getD i []
def cell(cs:List AV)(f:Nat):AV:=cs.getD f .undef
def AV.get:Br→AV→Option AV
 |[],v=>some v
 |(i,f)::p,v=>match v with
  |.own _ xs=>match xs[i]? with
   |some r=>match r[f]? with
    |some c=>c.get p
    |none=>none
   |none=>none
  |_=>none
def AV.put(y:AV):Br→AV→AV
 |[],_=>y
 |(i,f)::p,v=>match v with
  |.own s xs=>.own s (xs.set i ((row xs i).set f (AV.put y p (cell (row xs i) f))))
  |v=>v
def hget(h:Ah)(g:Nat)(p:Br):Option AV:=match A4 h g with
 |some r=>r.get p
 |none=>none
def hput(h:Ah)(g:Nat)(p:Br)(y:AV):Ah:=match A4 h g with
 |some r=>update h g (AV.put y p r)
 |none=>h
mutual
def AV.toRd:AV→AV
 |.own s xs=>.rd s (D1 xs)
 |.agg cs=>.agg (Is cs)
 |.arg _ _ _=>.undef
 |.rd s xs=>.rd s (D1 xs)
 |v=>v
def Is:List AV→List AV
 |[]=>[]
 |c::r=>c.toRd::Is r
def D1:List (List AV)→List (List AV)
 |[]=>[]
 |c::r=>Is c::D1 r
end
mutual
def AV.noRd:AV→Prop
 |.rd _ _|.pin _|.arg _ _ _=>False
 |.own _ xs=>Ab xs
 |.agg cs|.tup cs|.fn _ cs=>A7 cs
 |_=>True
def A7:List AV→Prop
 |[]=>True
 |c::r=>c.noRd∧A7 r
def Ab:List (List AV)→Prop
 |[]=>True
 |c::r=>A7 c∧Ab r
end
mutual
def AV.free:AV→Prop
 |.arg _ _ _=>False
 |.rd _ xs=>A3 xs
 |.own _ xs=>A3 xs
 |.pin cs=>A2 cs
 |.agg cs=>A2 cs
 |.tup cs=>A2 cs
 |.fn _ cs=>A2 cs
 |_=>True
def A2:List AV→Prop
 |[]=>True
 |c::r=>c.free∧A2 r
def A3:List (List AV)→Prop
 |[]=>True
 |c::r=>A2 c∧A3 r
end
theorem H6:∀{cs:List AV} {c:AV},A2 cs→c∈cs→c.free
 |a::r,c,h,hc=>by
  rcases List.mem_cons.1 hc with rfl|hc
  ·exact h.1
  ·exact H6 h.2 hc
theorem Yu:∀{xs:List (List AV)} {r:List AV},A3 xs→r∈xs→A2 r
 |a::r,c,h,hc=>by
  rcases List.mem_cons.1 hc with rfl|hc
  ·exact h.1
  ·exact Yu h.2 hc
theorem A1{α:Type}{f:α→List AV}{l:List α}:A3 (l.map f)↔∀a,a∈l→A2 (f a):=by
 induction l with
 |nil=>simp[A3]
 |cons a l ih=>simp[A3,ih]
mutual
theorem AV.noRd_free:∀{v:AV},v.noRd→v.free
 |.arg _ _ _,h=>h.elim
 |.rd _ _,h=>h.elim
 |.pin _,h=>h.elim
 |.own _ xs,h=>Ks h
 |.agg cs,h=>Jv h
 |.tup cs,h=>Jv h
 |.fn _ cs,h=>Jv h
 |.int _ _,_=>trivial
 |.bool _,_=>trivial
 |.str _,_=>trivial
 |.nils,_=>trivial
 |.emp,_=>trivial
 |.view _ _ _ _,_=>trivial
 |.ptr _ _ _ _,_=>trivial
 |.bx _ _,_=>trivial
 |.nilI,_=>trivial
 |.someI,_=>trivial
 |.nilp,_=>trivial
 |.undef,_=>trivial
theorem Jv:∀{cs:List AV},A7 cs→A2 cs
 |[],_=>trivial
 |_::_,h=>⟨AV.noRd_free h.1,Jv h.2⟩
theorem Ks:∀{xs:List (List AV)},Ab xs→A3 xs
 |[],_=>trivial
 |_::_,h=>⟨Jv h.1,Ks h.2⟩
end
def Cy:Option Bool→Prop
 |none=>True
 |some b=>b=true
def A0g:Option Bool→Bool→Option Bool
 |none,b=>some b
 |some a,b=>some (a&&b)
def val(S:Af)(g:Option Bool)(x:Operand)(k:AV→Prop):Prop:=
 match x with
 |.const v=>k v.toAV
 |.tmp d=>match A4 S d with
  |some ⟨none,v⟩=>k v
  |some ⟨some c,v⟩=>(Cy g→c=true)∧k v
  |none=>False
 |.func f=>k (.fn f [])
 |.global _=>False
def A16(S:Af)(g:Option Bool):List Operand→(List AV→Prop)→Prop
 |[],k=>k []
 |x::r,k=>val S g x fun v=>A16 S g r fun vs=>k (v::vs)
def C03(S:Af)(g:Option Bool)(x:Option Operand)(k:Option AV→Prop):Prop:=
 match x with
 |none=>k none
 |some x=>val S g x fun v=>k (some v)
def Bc(S:Af)(d:Option Nat)(g:Option Bool)(v:AV):Af:=
 match d with
 |some d=>(d,⟨g,v⟩)::S
 |none=>S
def eqN(a b:Nat)(K:Prop):Prop:=
 match Nat.beq a b with
 |true=>K
 |false=>False
def leN(a b:Nat)(K:Prop):Prop:=
 match Nat.ble a b with
 |true=>K
 |false=>False
def Ur(d:Nat):List Nat→Bool
 |[]=>false
 |x::r=>match Nat.beq x d with
  |true=>true
  |false=>Ur d r
def B8(id:Nat):List AV→(List AV→Ah→Nat→Prop)→Prop
 |[],K=>K [] [] id
 |.own s xs::r,K=>B8 (id+1) r fun cs os n=>K (.view id [] 0 xs.length::cs) ((id,.own s xs)::os) n
 |c::r,K=>B8 id r fun cs os n=>K (c::cs) os n
def Bw(id:Nat):List AV→(List AV→Ah→Nat→Prop)→Prop
 |[],K=>K [] [] id
 |v::r,K=>(match v with
  |.own s xs=>fun K':AV→Ah→Nat→Prop=>K' (.view id [] 0 xs.length) [(id,.own s xs)] (id+1)
  |.agg cs=>fun K'=>B8 id cs fun cs' os n=>K' (.agg cs') os n
  |v=>fun K'=>K' v [] id) fun v' os n=>Bw n r fun vs' os' n'=>K (v'::vs') (os++os') n'
def Ib(id:Nat)(v:AV)(K:AV→Ah→Prop):Prop:=
 match v with
 |.own s xs=>K (.view id [] 0 xs.length) [(id,.own s xs)]
 |.agg cs=>B8 id cs fun cs' os n=>leN n (id+16) (K (.agg cs') os)
 |.tup vs=>Bw id vs fun vs' os n=>leN n (id+16) (K (.tup vs') os)
 |v=>K v []
def Mf(pt:Bool)(id:Nat)(v:AV)(K:AV→Ah→Prop):Prop:=
 match pt with
 |true=>match v with
  |.own s xs=>K (.bx id 0) [(id,.own s xs)]
  |_=>False
 |false=>Ib id v K
def U3(g:Nat)(p:Br)(i f:Nat):AV→AV
 |.own _ xs=>.view g (p++[(i,f)]) 0 xs.length
 |v=>v
def Gz(g:Nat)(p:Br)(i:Nat):Nat→List AV→List AV
 |_,[]=>[]
 |f,c::r=>U3 g p i f c::Gz g p i (f+1) r
def Ce:List UInt8→List UInt8→Bool
 |_,[]=>false
 |[],_::_=>true
 |a::x,b::y=>decide (a<b)||(a==b&&Ce x y)
def nm(e:Int)(K:Int→Prop):Prop:=∃r,e=r∧K r
theorem Hx{e:Int}{K:Int→Prop}(h:nm e K):K e:=by obtain⟨r,rfl,h⟩:=h;exact h
theorem B38{e:Int}{K:Int→Prop}(h:K e):nm e K:=⟨e,rfl,h⟩
def B2n(op:BinOp)(k:IntKind)(a b:Int)(K:AV→Prop):Prop:=
 match op with
 |.add=>nm (k.wrap (a+b)) fun r=>K (.int k r)
 |.sub=>nm (k.wrap (a - b)) fun r=>K (.int k r)
 |.mul=>nm (k.wrap (a*b)) fun r=>K (.int k r)
 |.quo=>b≠0∧nm (k.wrap (a.tdiv b)) fun r=>K (.int k r)
 |.rem=>b≠0∧nm (a.tmod b) fun r=>K (.int k r)
 |.and=>nm (k.wrap (BitVec.ofInt k.bits a&&&BitVec.ofInt k.bits b).toNat) fun r=>K (.int k r)
 |.or=>nm (k.wrap (BitVec.ofInt k.bits a|||BitVec.ofInt k.bits b).toNat) fun r=>K (.int k r)
 |.xor=>nm (k.wrap (BitVec.ofInt k.bits a^^^BitVec.ofInt k.bits b).toNat) fun r=>K (.int k r)
 |.eql=>K (.bool (a==b))
 |.neq=>K (.bool (a !=b))
 |.lss=>K (.bool (decide (a<b)))
 |.leq=>K (.bool (decide (a≤b)))
 |.gtr=>K (.bool (decide (a>b)))
 |.geq=>K (.bool (decide (a≥b)))
 |_=>False
def X8(op:BinOp)(k:IntKind)(a b:Int)(K:AV→Prop):Prop:=
 match op with
 |.shl=>0≤b∧nm (k.wrap (a*2^min b.toNat k.bits)) fun r=>K (.int k r)
 |.shr=>0≤b∧nm (a.fdiv (2^min b.toNat k.bits)) fun r=>K (.int k r)
 |_=>False
def A4h:BinOp→Bool
 |.shl|.shr=>true
 |_=>false
def B2x(op:BinOp)(a b:List UInt8)(K:AV→Prop):Prop:=
 match op with
 |.add=>a.length+b.length≤9223372036854775807∧K (.str (a++b))
 |.eql=>K (.bool (a==b))
 |.neq=>K (.bool (!(a==b)))
 |.lss=>K (.bool (Ce a b))
 |.leq=>K (.bool (Ce a b||a==b))
 |.gtr=>K (.bool (!(Ce a b||a==b)))
 |.geq=>K (.bool (!Ce a b))
 |_=>False
def L5(E:Env)(t:Nat)(K:Ty→Prop):Prop:=
 match E.T t with
 |some ty=>K ty
 |none=>False
def C1h(k:TK)(x y:AV)(K:Bool→Prop):Prop:=
 match k with
 |.int _=>match x,y with
  |.int k a,.int k' b=>match decide (k=k')with
   |true=>K (a==b)
   |false=>False
  |_,_=>False
 |.str=>match x,y with
  |.str a,.str b=>K (a==b)
  |_,_=>False
 |.bool=>match x,y with
  |.bool a,.bool b=>K (a==b)
  |_,_=>False
 |_=>False
def Jf(E:Env):Nat→List (Nat×Nat)→List AV→List AV→(Bool→Prop)→Prop
 |_,[],[],[],K=>K true
 |k,(o,u)::r,a::as,b::bs,K=>eqN o k (L5 E u fun ty=>C1h ty.k a b fun x=>Jf E (k+1) r as bs fun y=>K (x&&y))
 |_,_,_,_,_=>False
def A5p(h:Ah):AV→(Bool→Prop)→Prop
 |.nils,K=>K true
 |.view g p _ n,K=>match hget h g p with
  |some (.own _ _)=>0<n∧K false
  |_=>False
 |.rd _ xs,K=>(∃c r,xs[0]? =some (c::r))∧K false
 |_,_=>False
def B58(E:Env)(t:Nat)(h:Ah)(c:Bool)(x y:AV)(K:Bool→Prop):Prop:=
 L5 E t fun ty=>match ty.k with
  |.bool=>match x,y with
   |.bool a,.bool b=>K (a==b)
   |_,_=>False
  |.struct fs=>match x,y with
   |.agg a,.agg b=>Jf E 0 fs a b K
   |_,_=>False
  |.iface=>match x,y with
   |.nilI,.nilI=>match c with
    |true=>K true
    |false=>False
   |.someI,.nilI=>K false
   |_,_=>False
  |.slice _=>match y with
   |.nils=>A5p h x K
   |_=>False
  |_=>False
def Q5:Operand→Bool
 |.const _=>true
 |_=>false
def binOp(E:Env)(t:Nat)(h:Ah)(c:Bool)(op:BinOp)(x y:AV)(K:AV→Prop):Prop:=
 match x,y with
 |.int k a,.int k' b=>match A4h op with
  |true=>X8 op k a b K
  |false=>match decide (k=k')with
   |true=>B2n op k a b K
   |false=>False
 |.str a,.str b=>B2x op a b K
 |x,y=>match op with
  |.eql=>B58 E t h c x y fun b=>K (.bool b)
  |.neq=>B58 E t h c x y fun b=>K (.bool (!b))
  |_=>False
def unOp(op:UnOp)(x:AV)(K:AV→Prop):Prop:=
 match op,x with
 |.not,.bool b=>K (.bool (!b))
 |.neg,.int k n=>nm (k.wrap (0 - n)) fun r=>K (.int k r)
 |_,_=>False
def arr(h:Ah)(g:Nat)(p:Br)(K:Nat→List (List AV)→Prop):Prop:=
 match hget h g p with
 |some (.own s xs)=>K s xs
 |_=>False
def live(h:Ah)(g:Nat)(p:Br)(K:Prop):Prop:=
 match hget h g p with
 |some (.own _ _)=>K
 |_=>False
def lenOf(h:Ah)(x:AV)(K:Nat→Prop):Prop:=
 match x with
 |.view g p _ n=>live h g p (K n)
 |.rd _ xs=>K xs.length
 |.str s=>K s.length
 |.nils|.emp=>K 0
 |_=>False
def loadAt(gd:Option Bool)(ty:Ty)(h:Ah)(a:AV)(K:AV→Prop):Prop:=
 match a with
 |.bx g f=>arr h g [] fun s xs=>match xs with
  |[r]=>leN (f+ty.size) s (match ty.k.agg with
   |true=>K (.agg (Gz g [] 0 f ((r.drop f).take ty.size)))
   |false=>K (U3 g [] 0 f (cell r f)))
  |_=>False
 |.ptr g p i f=>arr h g p fun s xs=>leN (f+ty.size) s (∃r,(Cy gd→xs[i]? =some r)∧match ty.k.agg with
  |true=>K (.agg (Gz g p i f ((r.drop f).take ty.size)))
  |false=>K (U3 g p i f (cell r f)))
 |.pin cs=>leN ty.size cs.length (match ty.k.agg with
  |true=>K (.agg (cs.take ty.size))
  |false=>K (cell cs 0))
 |_=>False
def C22(E:Env)(t:Nat)(h:Ah)(x:AV)(K:Nat→Prop):Prop:=
 L5 E t fun ty=>match ty.k with
  |.str=>match x with
   |.str s=>K s.length
   |_=>False
  |.slice _=>match x with
   |.str _=>False
   |v=>lenOf h v K
  |_=>False
def O8(E:Env)(t f:Nat)(K:Nat→Nat→Prop):Prop:=
 L5 E t fun ty=>match ty.k with
  |.struct fs=>match fs[f]? with
   |some (o,u)=>K o u
   |none=>False
  |_=>False
def fieldAt(h:Ah)(a:AV)(o:Nat)(K:AV→Prop):Prop:=
 match a with
 |.bx g f0=>live h g [] (K (.bx g (f0+o)))
 |.ptr g p i f0=>live h g p (K (.ptr g p i (f0+o)))
 |.pin cs=>K (.pin (cs.drop o))
 |_=>False
def Zb(ty:Ty)(o:Nat)(a:AV)(K:AV→Prop):Prop:=
 match a with
 |.agg cs=>leN (o+ty.size) cs.length (match ty.k.agg with
  |true=>K (.agg ((cs.drop o).take ty.size))
  |false=>K (cell cs o))
 |_=>False
def Mr(E:Env)(t:Nat)(K:Ty→Prop):Prop:=
 L5 E t fun ty=>match ty.k with
  |.slice e=>L5 E e K
  |_=>False
def indexAt(ty:Ty)(h:Ah)(g:Option Bool)(x i:AV)(K:AV→Prop):Prop:=
 match x,i with
 |.view r p off len,.int _ n=>arr h r p fun s _=>eqN s ty.size ((Cy g→0≤n∧n<len)∧K (.ptr r p (off+n.toNat) 0))
 |.rd s xs,.int _ n=>eqN s ty.size (∃r,(Cy g→0≤n∧xs[n.toNat]? =some r)∧K (.pin r))
 |_,_=>False
def Hg(g:Nat):AV→Bool
 |.view g' (_::_) _ _|.ptr g' (_::_) _ _=>Nat.beq g' g
 |.agg _|.tup _|.fn _ _=>true
 |_=>false
def To(g:Nat):List AV→Bool
 |[]=>false
 |v::r=>match Hg g v with
  |true=>true
  |false=>To g r
def Ng(g:Nat):List AV→Bool
 |[]=>false
 |v::r=>match(match v with
  |.agg cs=>To g cs
  |v=>Hg g v)with
  |true=>true
  |false=>Ng g r
def L0(g:Nat):AV→Bool
 |.agg cs|.fn _ cs=>To g cs
 |.tup vs=>Ng g vs
 |v=>Hg g v
def voids(g:Nat):Af→Af
 |[]=>[]
 |(d,s)::r=>match L0 g s.v with
  |true=>(d,⟨s.c,.undef⟩)::voids g r
  |false=>(d,s)::voids g r
def W8(S:Af)(h:Ah)(g:Nat)(p:Br)(K:Af→Ah→Prop):Prop:=
 match p with
 |[]=>K S (remove h g)
 |q::p=>K (voids g S) (hput h g (q::p) .undef)
def Em(S:Af)(h:Ah)(t:Option Nat)(v:AV)(K:AV→Af→Ah→Prop):Prop:=
 match v with
 |.view g p off len=>arr h g p fun s xs=>W8 S h g p fun S' h'=>K (.own s ((xs.drop off).take len)) S' h'
 |.nils|.emp=>match t with
  |some s=>K (.own s []) S h
  |none=>False
 |.int k n=>K (.int k n) S h
 |.bool b=>K (.bool b) S h
 |.str s=>K (.str s) S h
 |.rd s xs=>K (.rd s xs) S h
 |.nilI=>K .nilI S h
 |.arg s g n=>K (.arg s g n) S h
 |_=>False
def C1(S:Af)(h:Ah):List (Option Nat)→List AV→(List AV→Af→Ah→Prop)→Prop
 |[],[],K=>K [] S h
 |t::ts,v::vs,K=>Em S h t v fun c S' h'=>C1 S' h' ts vs fun cs S'' h''=>K (c::cs) S'' h''
 |_,_,_=>False
def Jy(S:Af)(h:Ah)(ts:List (Option Nat)):List AV→(List (List AV)→Af→Ah→Prop)→Prop
 |[],K=>K [] S h
 |v::vs,K=>C1 S h ts v.cells fun c S' h'=>Jy S' h' ts vs fun cs S'' h''=>K (c::cs) S'' h''
def setCells:Nat→List AV→List AV→List AV
 |_,[],cs=>cs
 |f,x::r,cs=>setCells (f+1) r (cs.set f x)
def TK.scalar:TK→Bool
 |.int _|.bool|.str=>true
 |_=>false
def AV.scalar:AV→Bool
 |.int _ _|.bool _|.str _=>true
 |_=>false
def storeAt(ty:Ty)(S:Af)(h:Ah)(a x:AV)(K:Af→Ah→Prop):Prop:=
 match a with
 |.bx g f=>match ty.k.scalar with
  |true=>match x.scalar with
   |true=>arr h g [] fun s xs=>match xs with
    |[r]=>leN (f+1) s (match(cell r f).scalar with
     |true=>K S (update h g (.own s [r.set f x]))
     |false=>False)
    |_=>False
   |false=>False
  |false=>C1 S h ty.cs x.cells fun cs S' h'=>arr h' g [] fun s xs=>match xs with
    |[r]=>leN (f+ty.size) s (K (voids g S') (update h' g (.own s [setCells f cs r])))
    |_=>False
 |.ptr g p i f=>match ty.k.scalar with
  |true=>match x.scalar with
   |true=>arr h g p fun s xs=>leN (f+1) s (∃r,xs[i]? =some r∧match(cell r f).scalar with
     |true=>K S (hput h g p (.own s (xs.set i (r.set f x))))
     |false=>False)
   |false=>False
  |false=>C1 S h ty.cs x.cells fun cs S' h'=>arr h' g p fun s xs=>leN (f+ty.size) s (∃r,xs[i]? =some r∧
    K (voids g S') (hput h' g p (.own s (xs.set i (setCells f cs r)))))
 |_=>False
def Uh:List AV→List AV
 |[]=>[]
 |.own _ _::r=>.nils::Uh r
 |c::r=>c::Uh r
def Mb(E:Env)(fs:List (Nat×Nat)):List AV→List Nat→List AV→(List AV→Prop)→Prop
 |zs,[],[],K=>K zs
 |zs,i::is,v::vs,K=>match fs[i]? with
  |some (o,u)=>L5 E u fun ty=>match v with
   |.undef=>False
   |v=>eqN v.cells.length ty.size (leN (o+ty.size) zs.length (Mb E fs (setCells o v.cells zs) is vs K))
  |none=>False
 |_,_,_,_=>False
def R8:Nat→List Nat→Bool
 |_,[]=>true
 |k,i::r=>match Nat.beq k i with
  |true=>R8 (k+1) r
  |false=>false
def A2s(x:Option AV)(d:Nat)(K:Int→Prop):Prop:=
 match x with
 |none=>K d
 |some (.int _ n)=>K n
 |_=>False
def B3f(sz:Nat)(h:Ah)(x:AV)(l u:Int)(K:AV→Prop):Prop:=
 match x with
 |.view g p off _=>arr h g p fun s _=>eqN s sz (K (.view g p (off+l.toNat) (u.toNat - l.toNat)))
 |.rd s xs=>eqN s sz (K (.rd s ((xs.drop l.toNat).take (u.toNat - l.toNat))))
 |.nils=>K .nils
 |.emp=>K .emp
 |_=>False
def AV.isStr:AV→Bool
 |.str _=>true
 |_=>false
def Z6(E:Env)(gd:Option Bool)(t:Nat)(h:Ah)(x:AV)(hi mx:Option AV)(n:Nat)(l u:Int)(K:AV→Prop):Prop:=
 L5 E t fun ty=>match ty.k with
  |.str=>match mx with
   |none=>match x with
    |.str s=>(Cy gd→0≤l∧l≤u∧u≤n)∧K (.str ((s.drop l.toNat).take (u.toNat - l.toNat)))
    |_=>False
   |some _=>False
  |.slice e=>L5 E e fun te=>match mx with
   |none=>(Cy gd→0≤l∧l≤u∧u≤n)∧B3f te.size h x l u K
   |some mv=>match mv with
    |.int _ m=>match hi with
     |none=>False
     |some _=>(m=0∧l=0∧u=0∧x.isStr=false∧K .emp)∨(0≤l∧l≤u∧u≤m∧m≤n∧B3f te.size h x l u K)
    |_=>False
  |_=>False
def sliceAt(E:Env)(gd:Option Bool)(t:Nat)(h:Ah)(x:AV)(lo hi mx:Option AV)(K:AV→Prop):Prop:=
 lenOf h x fun n=>A2s lo 0 fun l=>A2s hi n fun u=>Z6 E gd t h x hi mx n l u K
def AV.isOwn:AV→Bool
 |.own _ _=>true
 |_=>false
def Kg(S:Af)(h:Ah)(keep:Bool)(sz:Nat)(x:AV)(K:List (List AV)→Af→Ah→Prop):Prop:=
 match x with
 |.view g p off len=>arr h g p fun s xs=>eqN s sz (match keep with
  |true=>(∀r,r∈(xs.drop off).take len→∀c,c∈r→c.isOwn=false)∧K ((xs.drop off).take len) S h
  |false=>W8 S h g p fun S' h'=>K ((xs.drop off).take len) S' h')
 |.rd s xs=>eqN s sz (K xs S h)
 |.nils|.emp=>K [] S h
 |.str bs=>eqN sz 1 (K (bs.map fun b=>[.int .u8 b.toNat]) S h)
 |_=>False
def C2r:List (Option Nat)→Bool
 |[]=>true
 |none::r=>C2r r
 |some _::_=>false
def T2:AV→Bool
 |.rd _ _|.str _=>true
 |_=>false
def Km(ty:Ty)(S:Af)(h:Ah)(id:Nat)(d:Option Nat)(x y:AV)(K:Af→Ah→Prop):Prop:=
 match T2 x with
 |true=>False
 |false=>Kg S h (C2r ty.cs) ty.size y fun ys S' h'=>Kg S' h' false ty.size x fun xs S'' h''=>
   (xs.length+ys.length)*(ty.bytes+1)≤140737488355328∧
   K (Bc S'' d none (.view id [] 0 (xs.length+ys.length))) ((id,.own ty.size (xs++ys))::h'')
def AV.ids1:AV→List Nat
 |.view g _ _ _|.ptr g _ _ _|.bx g _|.arg _ g _=>[g]
 |_=>[]
def G9:List AV→List Nat
 |[]=>[]
 |v::r=>v.ids1++G9 r
def AV.ids:AV→List Nat
 |.agg cs|.tup cs|.fn _ cs=>G9 cs
 |v=>v.ids1
def Rr(a b:List Nat):Bool:=a.any fun x=>Ur x b
def Kz(sh:Bool)(h:Ah)(t:Option Nat):AV→AV
 |.view g p off len=>match sh with
  |true=>.undef
  |false=>match hget h g p with
   |some (.own s xs)=>.rd s (D1 ((xs.drop off).take len))
   |_=>.undef
 |.bx g f=>match sh with
  |true=>.undef
  |false=>match A4 h g with
   |some (.own _ [r])=>.pin (Is (r.drop f))
   |_=>.undef
 |.ptr g p i f=>match sh with
  |true=>.undef
  |false=>match hget h g p with
   |some (.own _ xs)=>.pin (Is ((row xs i).drop f))
   |_=>.undef
 |.nils=>match t with
  |some s=>.rd s []
  |none=>.nils
 |.emp=>match t with
  |some s=>.rd s []
  |none=>.emp
 |.agg _|.tup _|.fn _ _|.own _ _|.arg _ _ _=>.undef
 |v=>v
def Hk(sh:Bool)(h:Ah):List (Option Nat)→List AV→List AV
 |_,[]=>[]
 |[],c::r=>Kz sh h none c::Hk sh h [] r
 |t::ts,c::r=>Kz sh h t c::Hk sh h ts r
def Ud(sh:Bool)(h:Ah)(ts:List (Option Nat)):AV→AV
 |.agg cs=>.agg (Hk sh h ts cs)
 |.fn f cs=>.fn f (Hk sh h [] cs)
 |v=>Kz sh h (ts.headD none) v
def wrap:AV→List AV→AV
 |.agg _,cs=>.agg cs
 |_,[c]=>c
 |_,_=>.undef
def Dm(sh:Bool)(S:Af)(h:Ah):List Mz→List AV→(List AV→List (Nat×Br)→List Nat→List Nat→Af→Ah→Prop)→Prop
 |[],[],K=>K [] [] [] [] S h
 |.rd ts::ms,v::vs,K=>Dm sh S h ms vs fun as qs rs ws S' h'=>K (Ud sh h' ts v::as) qs (v.ids++rs) ws S' h'
 |.co ts::ms,v::vs,K=>C1 S h ts v.cells fun cs S1 h1=>Dm sh S1 h1 ms vs fun as qs rs ws S' h'=>K (wrap v cs::as) qs rs (v.ids++ws) S' h'
 |.mv::ms,v::vs,K=>match v with
  |.view g p off len=>Dm sh S h ms vs fun as qs rs ws S' h'=>arr h' g p fun s xs=>off=0∧len=xs.length∧K (.own s xs::as) ((g,p)::qs) rs (g::ws) S' h'
  |.arg s g n=>Dm sh S h ms vs fun as qs rs ws S' h'=>arr h' g [] fun s' xs=>s=s'∧n=xs.length∧K (.own s' xs::as) ((g,[])::qs) rs (g::ws) S' h'
  |_=>False
 |.mp::ms,v::vs,K=>match v with
  |.bx g f=>match f with
   |0=>Dm sh S h ms vs fun as qs rs ws S' h'=>arr h' g [] fun s xs=>match xs with
    |[_]=>K (.own s xs::as) ((g,[])::qs) rs (g::ws) S' h'
    |_=>False
   |_=>False
  |_=>False
 |.ma::ms,v::vs,K=>match v with
  |.agg cs=>match cs with
   |[c]=>match c with
    |.view g p off len=>Dm sh S h ms vs fun as qs rs ws S' h'=>arr h' g p fun s xs=>off=0∧len=xs.length∧K (.agg [.own s xs]::as) ((g,p)::qs) rs (g::ws) S' h'
    |.arg s g n=>Dm sh S h ms vs fun as qs rs ws S' h'=>arr h' g [] fun s' xs=>s=s'∧n=xs.length∧K (.agg [.own s' xs]::as) ((g,[])::qs) rs (g::ws) S' h'
    |_=>False
   |_=>False
  |_=>False
 |_,_,_=>False
def Vs(S:Af)(h:Ah):List (Nat×Br)→List AV→(Af→Ah→Prop)→Prop
 |[],[],K=>K S h
 |[(g,p)],[y],K=>K (voids g S) (hput h g p y)
 |_,_,_=>False
def Jr:List Mz→Bool
 |[]=>true
 |.rd _::r=>Jr r
 |_::_=>false
def Jw:List AV→Nat
 |[]=>0
 |.own _ _::r=>Jw r+1
 |_::r=>Jw r
def J3:List AV→Nat
 |[]=>0
 |.own _ _::r=>J3 r+1
 |.agg cs::r=>J3 r+Jw cs
 |_::r=>J3 r
def Qm(E:Env)(S:Af)(h:Ah)(id:Nat)(d:Option Nat)(g:Option Bool)(f:Nat)(vs:List AV)(K:Af→Ah→Prop):Prop:=
 match E.F f with
 |some c=>Dm c.sh S h c.ms vs fun as qs rs ws S1 h1=>leN (J3 as) id (match Rr rs ws with
  |true=>False
  |false=>∃x:c.α,as=c.enc x∧(Cy g→c.pre x)∧Mf c.ptr id (c.res x) fun v os=>match c.sc with
   |true=>match Jr c.ms with
    |true=>match os with
     |[]=>K (Bc S1 d g v) h1
     |_=>False
    |false=>False
   |false=>Vs S1 h1 qs (c.out x) fun S' h'=>K (Bc S' d g v) (os++h'))
 |none=>False
def convert(ty:Ty)(x:AV)(K:AV→Prop):Prop:=
 match ty.k,x with
 |.int k,.int _ n=>nm (k.wrap n) fun r=>K (.int k r)
 |.str,.str s=>K (.str s)
 |_,_=>False
def Cd(E:Env)(o:Oper):Bool:=
 match o.op with
 |.move _|.assign _|.pick _ _ _|.load _ _|.nilCheck _|.binOp _ _ _ _ _|.unOp _ _ _|.fieldAddr _ _ _|.field _ _ _|.indexAddr _ _ _|.index _ _ _
 |.slice _ _ _ _ _|.extract _ _|.makeFunc _ _ _|.build _ _=>true
 |.convert _ t _=>match E.T t with
  |some ty=>match ty.k with
   |.int _=>true
   |_=>false
  |none=>false
 |.call c=>match c.callee with
  |.builtin b=>match b with
   |.len=>true
   |.min|.max=>true
   |_=>false
  |.value (.func f)=>match E.F f with
   |some c=>c.sc
   |none=>false
  |_=>false
 |_=>false
def N3(h:Ah)(x:AV)(K:List UInt8→Prop):Prop:=
 match x with
 |.view g p off len=>arr h g p fun s xs=>eqN s 1 (∃bs:List UInt8,(xs.drop off).take len=bs.map (fun b=>[.int .u8 b.toNat])∧K bs)
 |.rd s xs=>eqN s 1 (∃bs:List UInt8,xs=bs.map (fun b=>[.int .u8 b.toNat])∧K bs)
 |.nils|.emp=>K []
 |_=>False
def B0q(E:Env)(e:Nat)(K:Prop):Prop:=
 L5 E e fun te=>match te.k with
  |.int k=>match k with
   |.u8=>K
   |_=>False
  |_=>False
def A1u(b:Builtin)(x y:AV)(K:AV→Prop):Prop:=
 match x,y with
 |.int k a,.int _ b'=>match b with
  |.min=>nm (if a≤b' then a else b') fun r=>K (.int k r)
  |.max=>nm (if a≤b' then b' else a) fun r=>K (.int k r)
  |_=>False
 |_,_=>False
def B9b(g:Option Bool)(x:Bool)(bv:AV)(K:Bool→Prop):Prop:=match bv with
 |.bool y=>K (x||y)
 |.undef=>(Cy (A0g g (!x))→False)∧K true
 |_=>False
def B7u(g:Option Bool)(x:Bool)(av:AV)(K:Bool→Prop):Prop:=match av with
 |.bool y=>K (x&&y)
 |.undef=>(Cy (A0g g x)→False)∧K false
 |_=>False
def B0(E:Env)(id:Nat)(o:Oper)(g:Option Bool)(S:Af)(h:Ah)(K:Af→Ah→Prop):Prop:=
 match o.op with
 |.move x|.assign x=>val S g x fun v=>K (Bc S o.dst g v) h
 |.pick c a b=>val S g c fun cv=>match cv with
  |.bool x=>match a,b with
   |.const (.bool true),b=>val S (A0g g (!x)) b fun bv=>B9b g x bv fun y=>K (Bc S o.dst g (.bool y)) h
   |a,.const (.bool false)=>val S (A0g g x) a fun av=>B7u g x av fun y=>K (Bc S o.dst g (.bool y)) h
   |_,_=>False
  |_=>False
 |.alloc t=>L5 E t fun ty=>K (Bc S o.dst none (.bx id 0)) ((id,.own ty.size [ty.zero])::h)
 |.box t x=>L5 E t fun ty=>val S g x fun v=>C1 S h ty.cs v.cells fun cs S' h'=>K (Bc S' o.dst none (.bx id 0)) ((id,.own ty.size [cs])::h')
 |.load t a=>L5 E t fun ty=>val S g a fun av=>loadAt g ty h av fun v=>K (Bc S o.dst g v) h
 |.store t a x=>L5 E t fun ty=>val S g a fun av=>val S g x fun v=>storeAt ty S h av v fun S' h'=>K (Bc S' o.dst none .undef) h'
 |.nilCheck x=>val S g x fun v=>match v with
  |.bx g' f=>live h g' [] (K (Bc S o.dst g (.bx g' f)) h)
  |.ptr g' p i f=>live h g' p (K (Bc S o.dst g (.ptr g' p i f)) h)
  |.pin cs=>K (Bc S o.dst g (.pin cs)) h
  |_=>False
 |.binOp op t x y _=>val S g x fun a=>val S g y fun b=>binOp E t h (Q5 y) op a b fun v=>K (Bc S o.dst g v) h
 |.unOp op _ x=>val S g x fun v=>unOp op v fun u=>K (Bc S o.dst g u) h
 |.convert s t x=>L5 E s fun ts=>L5 E t fun ty=>val S g x fun v=>match ty.k with
  |.slice e=>match v with
   |.str bs=>B0q E e (K (Bc S o.dst none (.view id [] 0 bs.length)) ((id,.own 1 (bs.map fun b=>[.int .u8 b.toNat]))::h))
   |_=>False
  |.str=>match v with
   |.str s=>K (Bc S o.dst none (.str s)) h
   |v=>match ts.k with
    |.slice e=>B0q E e (N3 h v fun s=>K (Bc S o.dst none (.str s)) h)
    |_=>False
  |_=>convert ty v fun u=>K (Bc S o.dst g u) h
 |.fieldAddr t x f=>val S g x fun v=>O8 E t f fun off _=>fieldAt h v off fun u=>K (Bc S o.dst g u) h
 |.field t x f=>val S g x fun v=>O8 E t f fun off u=>L5 E u fun ty=>Zb ty off v fun u=>K (Bc S o.dst g u) h
 |.indexAddr t x i=>val S g x fun v=>val S g i fun n=>Mr E t fun ty=>indexAt ty h g v n fun u=>K (Bc S o.dst g u) h
 |.index t x i=>L5 E t fun ty=>val S g x fun v=>val S g i fun n=>match ty.k with
  |.str=>match v,n with
   |.str s,.int _ n=>∃b:UInt8,(Cy g→0≤n∧s[n.toNat]? =some b)∧K (Bc S o.dst g (.int .u8 b.toNat)) h
   |_,_=>False
  |_=>False
 |.slice t x lo hi mx=>val S g x fun v=>C03 S g lo fun l=>C03 S g hi fun u=>C03 S g mx fun m=>sliceAt E g t h v l u m fun w=>K (Bc S o.dst g w) h
 |.extract x i=>val S g x fun v=>match v with
  |.tup vs=>match vs[i]? with
   |some u=>K (Bc S o.dst g u) h
   |none=>False
  |_=>False
 |.makeFunc f first caps=>match f with
  |.func f=>eqN first.size 0<|A16 S g caps.toList fun cs=>K (Bc S o.dst g (.fn f cs)) h
  |_=>False
 |.build t parts=>L5 E t fun ty=>A16 S g (parts.toList.map fun q=>q.2) fun vs=>match ty.k with
  |.struct fs=>Mb E fs (Uh ty.zero) (parts.toList.map fun q=>q.1) vs fun cs=>K (Bc S o.dst g (.agg cs)) h
  |_=>False
 |.buildSlice t n parts=>Mr E t fun ty=>leN (n*ty.size) 16777216<|A16 S g (parts.toList.map fun q=>q.2) fun vs=>Jy S h ty.cs vs fun rows S' h'=>
   match R8 0 (parts.toList.map fun q=>q.1)with
   |true=>eqN n rows.length (K (Bc S' o.dst none (.view id [] 0 n)) ((id,.own ty.size rows)::h'))
   |false=>False
 |.makeSlice t l c=>Mr E t fun ty=>val S g l fun a=>val S g c fun b=>match a,b with
  |.int _ n,.int _ m=>0≤n∧n≤m∧m≤140737488355328∧m*ty.bytes≤140737488355328∧
    K (Bc S o.dst none (.view id [] 0 n.toNat)) ((id,.own ty.size (List.replicate n.toNat ty.zero))::h)
  |_,_=>False
 |.call c=>match c.callee with
  |.builtin b=>A16 S g c.args.toList fun vs=>match b,vs with
   |.len,[x]=>leN 1 c.argTypes.size<|C22 E (c.argTypes.getD 0 0) h x fun n=>K (Bc S o.dst g (.int .i64 n)) h
   |.append,[x,y]=>leN 1 c.argTypes.size<|Mr E (c.argTypes.getD 0 0) fun ty=>L5 E (c.argTypes.getD 1 0) fun t1=>match t1.k with
    |.int _=>False
    |_=>Km ty S h id o.dst x y K
   |b,[x,y]=>A1u b x y fun v=>K (Bc S o.dst g v) h
   |_,_=>False
  |.value f=>val S g f fun fv=>A16 S g c.args.toList fun vs=>match fv with
   |.fn f caps=>Qm E S h id o.dst g f (vs++caps) K
   |_=>False
  |_=>False
 |_=>False
def N2(S:Af)(ops:List Oper)(o:Oper)(K:Option Bool→Prop):Prop:=
 match o.guard with
 |none=>K none
 |some (j,b)=>match ops[j]? with
  |some oj=>match oj.dst with
   |some d=>match A4 S d with
    |some ⟨c,v⟩=>match v with
     |.bool x=>K (A0g c (match b with|true=>x|false=> !x))
     |.undef=>match c with
      |some b=>match b with
       |false=>K (some false)
       |true=>False
      |none=>False
     |_=>False
    |none=>False
   |none=>False
  |none=>False
def A6z(S:Af):Operand→Bool
 |.tmp d=>match A4 S d with
  |some s=>match s.v with
   |.undef=>match s.c with
    |some _=>true
    |none=>false
   |_=>false
  |none=>false
 |_=>false
def A00(S:Af):List Operand→Bool
 |[]=>false
 |x::r=>match A6z S x with
  |true=>true
  |false=>A00 S r
def Oq(S:Af)(o:Oper):Bool:=match o.op with
 |.pick c _ _=>A6z S c
 |op=>A00 S op.operands.toList
def Lg(E:Env)(id:Nat)(o:Oper)(g:Option Bool)(S:Af)(h:Ah)(K:Af→Ah→Prop):Prop:=
 match g with
 |none=>B0 E id o none S h K
 |some b=>match Cd E o with
  |true=>match Oq S o with
   |true=>(b=true→False)∧K (Bc S o.dst (some false) .undef) h
   |false=>B0 E id o (some b) S h K
  |false=>(b=true→B0 E id o none S h K)∧(b=false→K (Bc S o.dst (some false) .undef) h)
def Mi:List AV→List Nat
 |[]=>[]
 |v::r=>v.ids++Mi r
def AV.ids2:AV→List Nat
 |.tup cs|.fn _ cs=>Mi cs
 |v=>v.ids
def AV.nest:AV→Bool
 |.agg _|.tup _|.fn _ _=>true
 |_=>false
def Ze:List AV→Bool
 |[]=>false
 |v::r=>v.nest||Ze r
def Nl:List AV→Bool
 |[]=>false
 |v::r=>(match v with
  |.agg cs=>Ze cs
  |v=>v.nest)||Nl r
def AV.deepNest:AV→Bool
 |.agg cs|.fn _ cs=>Ze cs
 |.tup vs=>Nl vs
 |_=>false
def AV.idsU(v:AV):List Nat:=match v with
 |.undef=>[1000000007]
 |v=>match v.deepNest with
  |true=>1000000007::v.ids2
  |false=>v.ids2
def Ri(S:Af):Operand→List Nat
 |.tmp d=>match A4 S d with
  |some s=>s.v.idsU
  |none=>[]
 |_=>[]
def P8(S:Af):List Operand→List Nat
 |[]=>[]
 |x::r=>Ri S x++P8 S r
def touched(S:Af)(o:Oper):List Nat:=P8 S o.op.operands.toList
def AV.keepU(v:AV):List Nat:=v.idsU.filter fun i=>Nat.beq i 1000000007||L0 i v
def Lo(S:Af)(d:Nat):List Nat:=match A4 S d with
 |some s=>s.v.keepU
 |none=>[]
def Vf(S:Af):List Operand→List Nat
 |[]=>[]
 |.tmp d::r=>Lo S d++Vf S r
 |_::r=>Vf S r
def lookIds(S:Af)(o:Oper):List Nat:=Vf S o.op.operands.toList
def readIds(S:Af)(o:Oper):List Nat:=match o.op with
 |.extract _ _|.move _|.assign _=>[]
 |_=>touched S o
def C0i(E:Env)(S:Af)(o:Oper):List Nat:=
 match o.op with
 |.call c=>match c.callee with
  |.value (.func f)=>match E.F f with
   |some c'=>match Jr c'.ms with
    |true=>[]
    |false=>touched S o
   |none=>touched S o
  |_=>touched S o
 |.convert _ _ _=>[]
 |_=>touched S o
def wroteIds(E:Env)(id:Nat)(S:Af)(o:Oper):List Nat:=
 match Cd E o with
 |true=>[]
 |false=>1000000007::List.range' id 16++C0i E S o
def Og(E:Env)(o:Oper):Bool:=match o.op with
 |.store t _ _=>match E.T t with
  |some ty=>ty.k.scalar
  |none=>false
 |_=>false
def Pi(E:Env)(id:Nat)(S:Af)(o:Oper):List Nat:=match Og E o with
 |true=>[]
 |false=>wroteIds E id S o
def far:List Nat→List Nat
 |[]=>[]
 |x::r=>Nat.add x 2000000014::far r
def written(E:Env)(id:Nat)(S:Af)(o:Oper):List Nat:=wroteIds E id S o++far (Pi E id S o)
def Ql(S:Af)(o:Oper):List Nat:=match o.dst with
 |some d=>Lo S d
 |none=>[]
def gIds(S:Af)(ops:List Oper)(o:Oper):List Nat:=match o.guard with
 |none=>[]
 |some (j,_)=>match ops[j]? with
  |some oj=>match oj.dst with
   |some d=>Ri S (.tmp d)
   |none=>[]
  |none=>[]
def E2(E:Env)(ops:List Oper)(id:Nat)(o:Oper)(S S':Af):List Nat×List Nat:=(readIds S o++far (lookIds S o++(gIds S ops o++Ql S' o)),written E id S o)
abbrev C4n:=List (List Nat×List Nat)
def B62(E:Env)(ops:List Oper):List Oper→Nat→Af→Ah→C4n→(Af→Ah→C4n→Prop)→Prop
 |[],_,S,h,t,K=>K S h t
 |o::r,id,S,h,t,K=>N2 S ops o fun g=>Lg E id o g S h fun S' h'=>B62 E ops r (id+16) S' h' (E2 E ops id o S S'::t) K
def Zg(o:Oper)(f:List Nat×List Nat):Bool:=match o.op with
 |.alloc _|.makeSlice _ _ _=>true
 |.buildSlice _ _ _=>Nat.beq f.2.length 34
 |_=>false
def Yk(al:Bool)(x y:List Nat×List Nat):Bool:=Rr x.2 y.1||Rr x.1 y.2||(!al&&(!x.2.isEmpty&& !y.2.isEmpty))
def Bu(ops:Array Oper)(t:C4n):Bool:=
 let b:=CheckFast.beforeF ops;let l:=(ops.toList.zip t.reverse).zipIdx
 (ops.toList.zipIdx.all fun(o,i)=>o.after.toList.all fun e=> !Region.binds .any e||Nat.blt e.on i)&&
 l.all fun(x,i)=>l.all fun(y,j)=> !(Nat.blt i j)||(b.getD j 0).testBit i||(Oper.apart ops x.1 y.1&& !Yk (Zg y.1 y.2) x.2 y.2)
def AV.ren1(m:List (Nat×Nat)):AV→AV
 |.view g p o l=>.view ((A4 m g).getD 0) p o l
 |.ptr g p i f=>.ptr ((A4 m g).getD 0) p i f
 |.bx g f=>.bx ((A4 m g).getD 0) f
 |.agg _|.tup _|.fn _ _=>.rd 1 [[]]
 |v=>v
def AV.ren2(m:List (Nat×Nat)):AV→AV
 |.agg cs=>.agg (cs.map (AV.ren1 m))
 |v=>v.ren1 m
def AV.ren(m:List (Nat×Nat)):AV→AV
 |.agg cs=>.agg (cs.map (AV.ren1 m))
 |.tup cs=>.tup (cs.map (AV.ren2 m))
 |.fn f cs=>.fn f (cs.map (AV.ren1 m))
 |v=>v.ren1 m
def Qr(m:List (Nat×Nat)):List Nat→Bool
 |[]=>true
 |x::r=>match A4 m x with
  |some _=>Qr m r
  |none=>false
def T4(S:Af)(m:List (Nat×Nat)):Af→Prop
 |[]=>True
 |(d,s)::r=>(match s.c with
  |none=>match A4 S d with
   |some ⟨none,v⟩=>v=s.v.ren m
   |some ⟨some c,v⟩=>c=true∧v=s.v.ren m
   |none=>False
  |some _=>False)∧Qr m s.v.ids2=true∧T4 S m r
def Pt(h:Ah)(m:List (Nat×Nat)):Ah→Prop
 |[]=>True
 |(g,x)::r=>(match A4 m g with
  |some g'=>match A4 h g' with
   |some x'=>x'=x
   |none=>False
  |none=>False)∧Pt h m r
def nodup:List Nat→Bool
 |[]=>true
 |x::r=> !Ur x r&&nodup r
def A2g(n:Nat):List Nat→Bool
 |[]=>true
 |x::r=>Nat.blt x n&&A2g n r
def keeps(k:Nat):List (Nat×Nat)→Bool
 |[]=>true
 |(a,b)::r=>(Nat.beq a b||Nat.ble k a)&&keeps k r
structure Ent(k:Nat)(m:List (Nat×Nat))(σ τ:St):Prop where
 slots:T4 σ.slots m τ.slots
 heap:Pt σ.heap m τ.heap
 inj:nodup (m.map (·.2))=true
 lt:A2g τ.next (m.map (·.1))=true
 keep:keeps k m=true
 kn:Nat.ble k τ.next=true
inductive C80(k:Nat)(Inv:Nat→St→Prop)(n:Nat)(s:St):Prop
 |mk (n':Nat) (τ:St) (m:List (Nat×Nat)) (h1:n'<n) (h2:Ent k m s τ) (h3:Inv n' τ):C80 k Inv n s
abbrev StP:=Af→Ah→Nat→Prop
inductive B6g(k:Nat)(f:StP→StP)(S:Af)(h:Ah)(nx:Nat):Prop
 |mk (Inv:Nat→St→Prop) (h0:∃n τ m,Ent k m ⟨S,h,nx⟩ τ∧Inv n τ) (hr:∀n τ,Inv n τ→match τ with
  |⟨S,h,nx⟩=>f (fun S h nx=>C80 k Inv n ⟨S,h,nx⟩) S h nx):B6g k f S h nx
def lit(n:Nat)(K:Nat→Prop):Prop:=match n with
 |0=>K 0
 |m+1=>K (m+1)
def C5j(v:AV)(K:AV→Prop):Prop:=match v with
 |.int k n=>K (.int k n)
 |.bool b=>K (.bool b)
 |.str s=>K (.str s)
 |.nils=>K .nils
 |.emp=>K .emp
 |.rd s xs=>K (.rd s xs)
 |.own s xs=>lit s fun s=>K (.own s xs)
 |.view g p o l=>lit g fun g=>K (.view g p o l)
 |.ptr g p i f=>lit g fun g=>lit f fun f=>K (.ptr g p i f)
 |.bx g f=>lit g fun g=>lit f fun f=>K (.bx g f)
 |.pin cs=>K (.pin cs)
 |.agg cs=>K (.agg cs)
 |.tup vs=>K (.tup vs)
 |.fn f cs=>K (.fn f cs)
 |.nilI=>K .nilI
 |.someI=>K .someI
 |.nilp=>K .nilp
 |.undef=>K .undef
 |.arg s g n=>lit g fun g=>K (.arg s g n)
def C70:List AV→(List AV→Prop)→Prop
 |[],K=>K []
 |v::vs,K=>C5j v fun v=>C70 vs fun vs=>K (v::vs)
def C8r(v:AV)(K:AV→Prop):Prop:=match v with
 |.agg cs=>C70 cs fun cs=>K (.agg cs)
 |v=>C5j v K
def C96(c:Option Bool)(K:Option Bool→Prop):Prop:=match c with
 |none=>K none
 |some b=>K (some b)
def C3b(kp:List Nat):Af→List Nat→(Af→Prop)→Prop
 |[],_,K=>K []
 |(d,s)::r,done,K=>match Ur d kp with
  |false=>C3b kp r done K
  |true=>match Ur d done with
   |true=>C3b kp r done K
   |false=>lit d fun d'=>C96 s.c fun c=>C8r s.v fun v=>C3b kp r (d'::done) fun S=>K ((d',⟨c,v⟩)::S)
def C65:Ah→List Nat→(Ah→Prop)→Prop
 |[],_,K=>K []
 |(g,x)::r,done,K=>match Ur g done with
  |true=>C65 r done K
  |false=>lit g fun g'=>C5j x fun x'=>C65 r (g'::done) fun h=>K ((g',x')::h)
def lay(kp:List Nat)(S:Af)(h:Ah)(n:Nat)(K:StP):Prop:=C3b kp S [] fun S=>C65 h [] fun h=>lit n fun n=>K S h n
def awp(E:Env)(k:Nat):Code→StP→StP→(Nat→StP)→StP
 |.skip,N,_,_,S,h,n=>N S h n
 |.region _ ops draw,N,_,_,S,h,n=>B62 E ops.toList ops.toList n S h [] fun S h t=>match draw with
  |false=>lay E.kp S h (n+16*ops.size) N
  |true=>Bu ops t=true∧lay E.kp S h (n+16*ops.size) N
 |.seq a b,N,R,X,S,h,n=>awp E k a (fun S h n=>awp E k b N R X S h n) R X S h n
 |.cond c a b,N,R,X,S,h,n=>val S none c fun v=>match v with
  |.bool x=>(x=true→awp E k a N R X S h n)∧(x=false→awp E k b N R X S h n)
  |_=>False
 |.block id b,N,R,X,S,h,n=>awp E k b N R (fun i S h n=>match Nat.beq i id with|true=>N S h n|false=>X i S h n) S h n
 |.loop b,_,R,X,S,h,n=>B6g k (fun N=>awp E k b N R X) S h n
 |.exit id,_,_,X,S,h,n=>X id S h n
 |.scope b,N,R,X,S,h,n=>awp E k b N R X S h n
 |.ret,_,R,_,S,h,n=>R S h n
 |_,_,_,_,_,_,_=>False
def Bn:Nat→Nat→List Mz→List AV→(Af→Ah→Nat→List Nat→Prop)→Prop
 |_,g,[],[],K=>K [] [] g []
 |d,g,.rd _::ms,v::vs,K=>Bn (d+1) g ms vs fun S h n mu=>K ((d,⟨none,v⟩)::S) h n mu
 |d,g,.co _::ms,v::vs,K=>match v with
  |.own s xs=>Bn (d+1) (g+1) ms vs fun S h n mu=>K ((d,⟨none,.view g [] 0 xs.length⟩)::S) ((g,.own s xs)::h) n mu
  |.agg cs=>B8 g cs fun cs' os n1=>Bn (d+1) n1 ms vs fun S h n mu=>K ((d,⟨none,.agg cs'⟩)::S) (os++h) n mu
  |v=>Bn (d+1) g ms vs fun S h n mu=>K ((d,⟨none,v⟩)::S) h n mu
 |d,g,.mv::ms,v::vs,K=>match v with
  |.own s xs=>Bn (d+1) (g+1) ms vs fun S h n mu=>K ((d,⟨none,.view g [] 0 xs.length⟩)::S) ((g,.own s xs)::h) n (g::mu)
  |_=>False
 |d,g,.mp::ms,v::vs,K=>match v with
  |.own s xs=>Bn (d+1) (g+1) ms vs fun S h n mu=>K ((d,⟨none,.bx g 0⟩)::S) ((g,.own s xs)::h) n (g::mu)
  |_=>False
 |d,g,.ma::ms,v::vs,K=>match v with
  |.agg cs=>match cs with
   |[c]=>match c with
    |.own s xs=>Bn (d+1) (g+1) ms vs fun S h n mu=>K ((d,⟨none,.agg [.arg s g xs.length]⟩)::S) ((g,.own s xs)::h) n (g::mu)
    |_=>False
   |_=>False
  |_=>False
 |_,_,_,_,_=>False
structure Ctx where
 w0:World
 M:Nat→Prop
 k:Nat
 β:Nat→Option (Nat×Nat)
 R0:Nat→Prop
 R:Nat→Prop
 wr:World
abbrev Am:=Br→Option (Nat×Nat)
def Ax:Am:=fun _=>none
def Am.sub(ρ:Am)(i f:Nat):Am:=fun p=>ρ ((i,f)::p)
def Am.at_(ρ:Am)(p:Br):Am:=fun q=>ρ (p++q)
def As(xs:List (List AV))(i f:Nat):Option AV:=match xs[i]? with
 |some r=>r[f]?
 |none=>none
def Dn(s:List UInt8):Value:=.string ⟨⟨s⟩⟩
def B9a(fz:Nat×Nat)(n:Nat):Prop:=fz.2≤fz.1∨n≤fz.1
def Blk(w:World)(b:Nat)(c:Array Value):Prop:=∃e fz,w.heap[b]? =some (.cells c e fz)∧B9a fz c.size
theorem Blk.congr{w w':World}{b:Nat}{c:Array Value}(h:Blk w b c)(e:w'.heap[b]? =w.heap[b]?):Blk w' b c:=by
 obtain⟨t,fz,h1,h2⟩:=h;exact⟨t,fz,e.trans h1,h2⟩
theorem Blk.uniq{w:World}{b:Nat}{c c':Array Value}(h:Blk w b c)(h':Blk w b c'):c=c':=by
 obtain⟨t,fz,h1,_⟩:=h;obtain⟨t',fz',h2,_⟩:=h';rw[h1]at h2;simp only[Option.some.injEq,Obj.cells.injEq]at h2;exact h2.1
theorem Blk.cell{w:World}{b:Nat}{c:Array Value}(h:Blk w b c)(o:Nat):w.cell? ⟨b,o,none⟩=c[o]? :=by
 obtain⟨t,fz,h1,_⟩:=h;simp[World.cell?,h1]
theorem Blk.lt{w:World}{b:Nat}{c:Array Value}(h:Blk w b c):b<w.heap.size:=by
 obtain⟨t,fz,h1,_⟩:=h;rcases Nat.lt_or_ge b w.heap.size with hl|hl
 ·exact hl
 ·rw[Array.getElem?_eq_none hl]at h1;cases h1
def ext(n:Nat→Prop)(id:Nat):Nat→Prop:=fun g=>n g∨g=id
inductive Rep(x:Ctx)(w:World):Am→AV→Value→Prop
 |int {ρ k n}:Rep x w ρ (.int k n) (.int k n)
 |bool {ρ b}:Rep x w ρ (.bool b) (.bool b)
 |str {ρ s}:Rep x w ρ (.str s) (Dn s)
 |nilI {ρ}:Rep x w ρ .nilI .nilIface
 |undef {ρ v} (h1:v.oneCell'=true):Rep x w ρ .undef v
 |rd {ρ s xs a cap} (u:Nat→Nat→Value) (hcap:xs.length≤cap) (hrow:∀r,r∈xs→r.length=s)
   (hc:∀i f c,As xs i f=some c→∃b o,a=some ⟨b,o,none⟩∧x.R b∧True∧x.wr.cell? ⟨b,o+(i*s+f),none⟩=some (u i f))
   (hr:∀i f c,As xs i f=some c→Rep x w Ax c (u i f)):Rep x w ρ (.rd s xs) (.slice a xs.length cap)
 |own0 {ρ s a}:Rep x w ρ (.own s []) (.slice a 0 0)
 |own {ρ s xs cap b o c} (u:Nat→Nat→Value) (hρ:ρ []=some (b,o)) (hcap:xs.length≤cap) (hrow:∀r,r∈xs→r.length=s)
   (hb:Blk w b c) (hroom:o+cap*s≤c.size)
   (hc:∀i f d,As xs i f=some d→c[o+(i*s+f)]? =some (u i f))
   (hr:∀i f d,As xs i f=some d→Rep x w (ρ.sub i f) d (u i f)):Rep x w ρ (.own s xs) (.slice (some ⟨b,o,none⟩) xs.length cap)
 |arg0 {ρ s g a} (hk:g<x.k):Rep x w ρ (.arg s g 0) (.slice a 0 0)
 |arg {ρ s g n cap b o c} (hβ:x.β g=some (b,o)) (hk:g<x.k) (hcap:n≤cap) (hb:Blk x.w0 b c) (hroom:o+cap*s≤c.size):Rep x w ρ (.arg s g n) (.slice (some ⟨b,o,none⟩) n cap)
inductive Az(x:Ctx)(w:World)(h:Ah)(n:Nat→Prop)(ρ:Option Nat→Am):AV→Value→Prop
 |cell {v u} (hr:Rep x w Ax v u):Az x w h n ρ v u
 |nils:Az x w h n ρ .nils (.slice none 0 0)
 |emp {a}:Az x w h n ρ .emp (.slice a 0 0)
 |void {u}:Az x w h n ρ .undef u
 |someI {t z}:Az x w h n ρ .someI (.iface t z)
 |nilp:Az x w h n ρ .nilp (.pointer none)
 |gone {g p off len a l c} (hg:A4 h g=none) (hn:n g):Az x w h n ρ (.view g p off len) (.slice a l c)
 |gonep {g p i f a} (hg:A4 h g=none) (hn:n g):Az x w h n ρ (.ptr g p i f) (.pointer a)
 |goneb {g f a} (hg:A4 h g=none) (hn:n g):Az x w h n ρ (.bx g f) (.pointer a)
 |view0 {g p off s xs a} (hg:hget h g p=some (.own s xs)) (hl:off≤xs.length):Az x w h n ρ (.view g p off 0) (.slice a 0 0)
 |view {g p off len s xs cap b o c} (hg:hget h g p=some (.own s xs)) (hl:off+len≤xs.length) (hcap:len≤cap) (hρ:ρ (some g) p=some (b,o))
   (hb:Blk w b c) (hroom:o+(off+cap)*s≤c.size):Az x w h n ρ (.view g p off len) (.slice (some ⟨b,o+off*s,none⟩) len cap)
 |ptr {g p i f s xs b o} (hg:hget h g p=some (.own s xs)) (hρ:ρ (some g) p=some (b,o)):Az x w h n ρ (.ptr g p i f) (.pointer (some ⟨b,o+(i*s+f),none⟩))
 |bx {g f s r b o} (hg:A4 h g=some (.own s [r])) (hρ:ρ (some g) []=some (b,o)):Az x w h n ρ (.bx g f) (.pointer (some ⟨b,o+f,none⟩))
 |pin {cs b o} (u:Nat→Value) (hc:∀f c,cs[f]? =some c→x.R b∧True∧x.wr.cell? ⟨b,o+f,none⟩=some (u f)∧Rep x w Ax c (u f)):
   Az x w h n ρ (.pin cs) (.pointer (some ⟨b,o,none⟩))
 |agg {cs us} (hl:us.size=cs.length) (hc:∀i c,cs[i]? =some c→Az x w h n ρ c (us.getD i undef)):Az x w h n ρ (.agg cs) (.agg us)
 |tup {cs us} (hl:us.size=cs.length) (hc:∀i c,cs[i]? =some c→Az x w h n ρ c (us.getD i undef)):Az x w h n ρ (.tup cs) (.tuple us)
 |fn {f cs us} (hl:us.size=cs.length) (hc:∀i c,cs[i]? =some c→Az x w h n ρ c (us.getD i undef)):Az x w h n ρ (.fn f cs) (.func (.func f) #[] us)
def Tc(h:Ah)(L:List AV):Option Nat→Br→Option AV
 |some g,p=>hget h g p
 |none,p=>(AV.own 0 [L]).get p
structure Bp(x:Ctx)(w:World)(h:Ah)(n:Nat→Prop)(L:List AV)(U:Nat→Value)(ρ:Option Nat→Am):Prop where
 os:w.os=x.w0.os
 tape:w.tape=x.w0.tape
 output:w.output=x.w0.output
 size:x.w0.heap.size≤w.heap.size
 frame:∀b,b<x.w0.heap.size→¬x.M b→w.heap[b]? =x.w0.heap[b]?
 root:∀g r,A4 h g=some r→∃s xs v,r=.own s xs∧Rep x w (ρ (some g)) r v
 loose:∀j c,L[j]? =some c→Rep x w ((ρ none).sub 0 j) c (U j)
 live:∀k p q,ρ k p=some q→∃s xs,Tc h L k p=some (.own s xs)
 nobase:ρ none []=none
 inj:∀k p k' p' b o o',ρ k p=some (b,o)→ρ k' p'=some (b,o')→k=k'∧p=p'
 mine:∀k p b o,ρ k p=some (b,o)→((x.w0.heap.size≤b∨x.M b)∧¬x.R b)∧∃c,Blk w b c
 ids:∀g r,A4 h g=some r→n g
 keeps:∀b c,Blk x.w0 b c→∃c',Blk w b c'∧c'.size=c.size
 base:∀g r,g<x.k→A4 h g=some r→ρ (some g) []=x.β g
 kn:∀g,g<x.k→n g
 fixed:∀b,x.R b→w.heap[b]? =x.wr.heap[b]?
 rsub:∀b,x.R b→x.R0 b∨x.M b∨x.w0.heap.size≤b
 rlt:∀b,x.R b→b<w.heap.size
def Aw(x:Ctx)(w:World)(h:Ah)(n:Nat→Prop)(ρ:Option Nat→Am)(S:Af)(ts:Array Value):Prop:=
 ∀d s,A4 S d=some s→(Cy s.c→Az x w h n ρ s.v (ts.getD d undef))∧(s.c=some false→ts.getD d undef=undef)
theorem Rep.one{x:Ctx}{w:World}{ρ:Am}{v:AV}{u:Value}(h:Rep x w ρ v u):u.oneCell'=true:=by
 cases h<;>first|rfl|assumption
theorem Pw{k d:Nat}(h:¬k=d):Nat.beq k d=false:=by
 cases hb:Nat.beq k d with
 |false=>rfl
 |true=>exact absurd (Nat.eq_of_beq_eq_true hb) h
theorem Zz(k:Nat):Nat.beq k k=true:=Nat.beq_refl k
theorem Ac{α:Type u}(k:Nat)(x:α)(r:List (Nat×α))(d:Nat):A4 ((k,x)::r) d=if k=d then some x else A4 r d:=by
 simp only[A4];by_cases h:k=d
 ·subst h;rw[if_pos rfl,Zz]
 ·rw[if_neg h]
  have:Nat.beq k d=false:=Pw h;rw[this]
theorem Ik{α:Type u}(l:List (Nat×α))(d e:Nat):A4 (remove l d) e=if d=e then none else A4 l e:=by
 induction l with
 |nil=>simp[remove,A4]
 |cons q r ih=>
  obtain⟨k,y⟩:=q;simp only[remove];by_cases h:k=d
  ·subst h
   have:Nat.beq k k=true:=Zz k;rw[this];simp only;rw[ih,Ac];split<;>rfl
  ·have:Nat.beq k d=false:=Pw h
   rw[this];simp only;rw[Ac,Ac,ih];by_cases he:k=e
   ·subst he;simp[Ne.symm h]
   ·simp[he]
theorem Lx{α:Type u}(l:List (Nat×α))(d e:Nat)(y:α):A4 (update l d y) e=if d=e then(A4 l e).map (fun _=>y)else A4 l e:=by
 induction l with
 |nil=>simp[update,A4]
 |cons q r ih=>
  obtain⟨k,z⟩:=q;simp only[update];by_cases h:k=d
  ·subst h
   have:Nat.beq k k=true:=Zz k;rw[this];simp only;rw[Ac,Ac];split<;>simp_all
  ·have:Nat.beq k d=false:=Pw h
   rw[this];simp only;rw[Ac,Ac,ih];by_cases he:k=e
   ·subst he;simp[Ne.symm h]
   ·simp[he]
theorem Rep.frame{x:Ctx}{w w':World}{ρ:Am}{v:AV}{u:Value}(h:Rep x w ρ v u)(hw:∀p b o,ρ p=some (b,o)→w'.heap[b]? =w.heap[b]?):Rep x w' ρ v u:=by
 induction h with
 |int=>exact .int
 |bool=>exact .bool
 |str=>exact .str
 |nilI=>exact .nilI
 |undef h1=>exact .undef h1
 |rd u hcap hrow hc hr ih=>exact .rd u hcap hrow hc fun i f c h=>ih i f c h (fun p b o hp=>by simp[Ax]at hp)
 |own0=>exact .own0
 |own u hρ hcap hrow hb hroom hc hr ih=>
  exact .own u hρ hcap hrow (hb.congr (hw _ _ _ hρ)) hroom hc fun i f d h=>ih i f d h (fun p b o hp=>hw _ _ _ hp)
 |arg0 hk=>exact .arg0 hk
 |arg hβ hk hcap hb hroom=>exact .arg hβ hk hcap hb hroom
theorem Rep.frame_nowhere{x:Ctx}{w w':World}{v:AV}{u:Value}(h:Rep x w Ax v u):Rep x w' Ax v u:=
 h.frame fun p b o hp=>by simp[Ax]at hp
theorem Rep.place{x:Ctx}{w:World}{v:AV}{u:Value}{ρ:Am}(h:Rep x w Ax v u):Rep x w ρ v u:=by
 cases h with
 |int=>exact .int
 |bool=>exact .bool
 |str=>exact .str
 |nilI=>exact .nilI
 |undef h1=>exact .undef h1
 |rd u hcap hrow hc hr=>exact .rd u hcap hrow hc hr
 |own0=>exact .own0
 |own u hρ=>simp[Ax]at hρ
 |arg0 hk=>exact .arg0 hk
 |arg hβ hk hcap hb hroom=>exact .arg hβ hk hcap hb hroom
theorem Rep.congr{x:Ctx}{w:World}{v:AV}{u:Value}{ρ ρ':Am}(h:Rep x w ρ v u)(he:∀p,ρ p=ρ' p):Rep x w ρ' v u:=by
 have:ρ=ρ':=funext he;exact this▸h
theorem Az.frame{x:Ctx}{w w':World}{h:Ah}{n:Nat→Prop}{ρ:Option Nat→Am}{v:AV}{u:Value}(hs:Az x w h n ρ v u)
 (hw:∀g p b o c,ρ (some g) p=some (b,o)→Blk w b c→∃c',Blk w' b c'∧c'.size=c.size):Az x w' h n ρ v u:=by
 induction hs with
 |cell hr=>exact .cell hr.frame_nowhere
 |nils=>exact .nils
 |emp=>exact .emp
 |void=>exact .void
 |someI=>exact .someI
 |nilp=>exact .nilp
 |gone hg hn=>exact .gone hg hn
 |gonep hg hn=>exact .gonep hg hn
 |goneb hg hn=>exact .goneb hg hn
 |view0 hg hl=>exact .view0 hg hl
 |view hg hl hcap hρ hb hroom=>
  obtain⟨c',hb',hsz⟩:=hw _ _ _ _ _ hρ hb;exact .view hg hl hcap hρ hb' (by rw[hsz];exact hroom)
 |ptr hg hρ=>exact .ptr hg hρ
 |bx hg hρ=>exact .bx hg hρ
 |pin u hc=>exact .pin u fun f c hf=>⟨(hc f c hf).1,(hc f c hf).2.1,(hc f c hf).2.2.1,(hc f c hf).2.2.2.frame_nowhere⟩
 |agg hl hc ih=>exact .agg hl ih
 |tup hl hc ih=>exact .tup hl ih
 |fn hl hc ih=>exact .fn hl ih
theorem Qh(p q:Br)(v:AV):AV.get (p++q) v=(AV.get p v).bind (AV.get q):=by
 induction p generalizing v with
 |nil=>simp[AV.get]
 |cons a p ih=>
  obtain⟨i,f⟩:=a;simp only[List.cons_append,AV.get];cases v<;>try rfl
  rename_i s xs;simp only;cases xs[i]? with
  |none=>rfl
  |some r=>
   simp only;cases r[f]? with
   |none=>rfl
   |some c=>simp only;exact ih c
theorem Fr(i f:Nat)(p:Br)(s:Nat)(xs:List (List AV)):AV.get ((i,f)::p) (.own s xs)=(As xs i f).bind (AV.get p):=by
 simp only[AV.get,As];cases xs[i]? with
 |none=>rfl
 |some r=>
  simp only;cases r[f]? <;>rfl
theorem Ma{i f:Nat}{p:Br}{v c:AV}(h:AV.get ((i,f)::p) v=some c):∃s xs d,v=.own s xs∧As xs i f=some d∧AV.get p d=some c:=by
 cases v<;>simp only[AV.get]at h<;>try(cases h;done)
 rename_i s xs;refine⟨s,xs,?_⟩;have h':AV.get ((i,f)::p) (.own s xs)=some c:=by simpa[AV.get]using h
 rw[Fr]at h';cases hc:As xs i f with
 |none=>simp[hc]at h'
 |some d=>exact⟨d,rfl,rfl,by simpa[hc]using h'⟩
theorem Qx(xs:List (List AV))(i f:Nat)(y:AV)(i' f':Nat):
 As (xs.set i ((row xs i).set f y)) i' f'=if i'=i∧f'=f then(As xs i f).map (fun _=>y)else As xs i' f':=by
 unfold As;by_cases hi:i'=i
 ·subst hi
  by_cases hl:i'<xs.length
  ·have h1:(xs.set i' ((row xs i').set f y))[i']? =some ((row xs i').set f y):=by simp[hl]
   have h2:xs[i']? =some (row xs i'):=by simp[row,List.getD_eq_getElem?_getD,hl]
   rw[h1,h2];simp only;by_cases hf:f'=f
   ·subst hf
    simp only[and_self,if_true];by_cases hlf:f'<(row xs i').length
    ·simp[hlf]
    ·simp[hlf]
   ·rw[if_neg (by simp[hf]),List.getElem?_set_ne (Ne.symm hf)]
  ·have h1:(xs.set i' ((row xs i').set f y))[i']? =none:=by simp;omega
   have h2:xs[i']? =none:=by simp;omega
   rw[h1,h2];simp
 ·have h1:(xs.set i ((row xs i).set f y))[i']? =xs[i']? :=List.getElem?_set_ne (Ne.symm hi)
  rw[h1,if_neg (by simp[hi])]
theorem Tt{xs:List (List AV)}{i f:Nat}{d:AV}(h:As xs i f=some d):cell (row xs i) f=d:=by
 unfold As at h;cases hr:xs[i]? with
 |none=>simp[hr]at h
 |some r=>
  simp only[hr]at h;simp[cell,row,List.getD_eq_getElem?_getD,hr,h]
theorem C4o{xs:List (List AV)}{s i f:Nat}{y:AV}(h:∀r,r∈xs→r.length=s):∀r,r∈xs.set i ((row xs i).set f y)→r.length=s:=by
 intro r hr;by_cases hi:i<xs.length
 ·rcases List.mem_or_eq_of_mem_set hr with h1|h1
  ·exact h r h1
  ·subst h1
   rw[List.length_set];refine h _ ?_;simp only[row,List.getD_eq_getElem?_getD,List.getElem?_eq_getElem hi,Option.getD_some];exact List.getElem_mem hi
 ·rw[List.set_eq_of_length_le (by omega)]at hr
  exact h r hr
def Nm(ρ:Am):Br→Am→Am
 |[],π=>π
 |(i,f)::p,π=>fun
  |[]=>ρ []
  |(i',f')::q=>if i'=i∧f'=f then Nm (ρ.sub i f) p π q else ρ ((i',f')::q)
theorem Wx(ρ:Am)(p q:Br)(π:Am):Nm ρ p π (p++q)=π q:=by
 induction p generalizing ρ with
 |nil=>rfl
 |cons a p ih=>
  obtain⟨i,f⟩:=a;simp only[List.cons_append,Nm,and_self,if_true];exact ih _
theorem Ms(ρ:Am)(p q:Br)(π:Am)(h:¬∃q',q=p++q'):Nm ρ p π q=ρ q:=by
 induction p generalizing ρ q with
 |nil=>exact absurd ⟨q,rfl⟩ h
 |cons a p ih=>
  obtain⟨i,f⟩:=a;cases q with
  |nil=>rfl
  |cons c q=>
   obtain⟨i',f'⟩:=c;simp only[Nm];by_cases hc:i'=i∧f'=f
   ·obtain⟨rfl,rfl⟩:=hc
    rw[if_pos ⟨rfl,rfl⟩];exact ih _ _ fun⟨q',hq⟩=>h ⟨q',by rw[hq];rfl⟩
   ·rw[if_neg hc]
theorem Rep.get{x:Ctx}{w:World}{ρ:Am}{r c:AV}{v:Value}(h:Rep x w ρ r v)(p:Br)(hg:AV.get p r=some c):∃u,Rep x w (ρ.at_ p) c u:=by
 induction p generalizing ρ r v with
 |nil=>
  simp only[AV.get,Option.some.injEq]at hg;subst hg;exact⟨v,h⟩
 |cons a p ih=>
  obtain⟨i,f⟩:=a;obtain⟨s,xs,d,rfl,hd,hc⟩:=Ma hg;cases h with
  |own0=>simp[As]at hd
  |own u hρ hcap hrow hb hroom hcc hr=>exact ih (hr i f d hd) hc
theorem Rep.put{x:Ctx}{w w':World}{ρ π:Am}{r c y:AV}{v:Value}(h:Rep x w ρ r v)(p:Br)(hg:AV.get p r=some c)
 (hw:∀q b o,(¬∃q',q=p++q')→ρ q=some (b,o)→w'.heap[b]? =w.heap[b]?)
 (hy:∀u,Rep x w (ρ.at_ p) c u→Rep x w' π y u):Rep x w' (Nm ρ p π) (AV.put y p r) v:=by
 induction p generalizing ρ r v with
 |nil=>
  simp only[AV.get,Option.some.injEq]at hg;subst hg;exact hy v h
 |cons a p ih=>
  obtain⟨i,f⟩:=a;obtain⟨s,xs,d,rfl,hd,hc⟩:=Ma hg;cases h with
  |own0=>simp[As]at hd
  |own u hρ hcap hrow hb hroom hcc hr=>
   rename_i cap b o cc;simp only[AV.put];rw[Tt hd];rw[show xs.length=(xs.set i ((row xs i).set f (AV.put y p d))).length from by simp];have hi:=ih (hr i f d hd) hc (fun q b o hq he=>hw ((i,f)::q) b o (fun⟨q',e⟩=>hq ⟨q',by simpa using e⟩) he) (fun u hu=>hy u hu);refine .own u (ρ:=Nm ρ ((i,f)::p) π) hρ (by simpa using hcap) (C4o hrow) (hb.congr (hw [] b o (fun⟨q',e⟩=>by simp at e) hρ)) hroom ?_ ?_
   ·intro i' f' d' hd'
    rw[Qx]at hd';split at hd'
    ·rename_i he
     obtain⟨rfl,rfl⟩:=he;exact hcc _ _ d hd
    ·exact hcc _ _ _ hd'
   ·intro i' f' d' hd'
    rw[Qx]at hd';split at hd'
    ·rename_i he
     obtain⟨rfl,rfl⟩:=he;rw[hd]at hd';simp only[Option.map_some,Option.some.injEq]at hd';subst hd';refine hi.congr fun q=>?_;simp[Am.sub,Nm]
    ·rename_i he
     refine((hr _ _ _ hd').frame fun q b' o' hq=>hw ((i',f')::q) b' o' (fun⟨q',e⟩=>?_) hq).congr fun q=>?_
     ·simp only[List.cons_append,List.cons.injEq,Prod.mk.injEq]at e
      exact he ⟨e.1.1,e.1.2⟩
     ·simp only[Am.sub,Nm]
      rw[if_neg he]
theorem Rx{p q:Br}{r c y:AV}(hg:AV.get p r=some c):AV.get (p++q) (AV.put y p r)=AV.get q y:=by
 induction p generalizing r with
 |nil=>rfl
 |cons a p ih=>
  obtain⟨i,f⟩:=a;obtain⟨s,xs,d,rfl,hd,hc⟩:=Ma hg;simp only[List.cons_append,AV.put];rw[Fr,Qx,if_pos ⟨rfl,rfl⟩,hd,Tt hd];simp only[Option.map_some,Option.bind_some];exact ih hc
theorem Oi{p q:Br}{r c y:AV}{s:Nat}{xs:List (List AV)}(hg:AV.get p r=some c)(h:¬∃q',q=p++q')(hq:AV.get q r=some (.own s xs)):
 ∃xs',AV.get q (AV.put y p r)=some (.own s xs')∧xs'.length=xs.length:=by
 induction p generalizing r q with
 |nil=>exact absurd ⟨q,rfl⟩ h
 |cons a p ih=>
  obtain⟨i,f⟩:=a;obtain⟨s',xs',d,rfl,hd,hc⟩:=Ma hg;cases q with
  |nil=>
   simp only[AV.get,Option.some.injEq,AV.own.injEq]at hq;obtain⟨rfl,rfl⟩:=hq;exact⟨_,rfl,by simp⟩
  |cons c' q=>
   obtain⟨i',f'⟩:=c';simp only[AV.put];rw[Fr,Qx];rw[Fr]at hq;by_cases he:i'=i∧f'=f
   ·obtain⟨rfl,rfl⟩:=he
    rw[if_pos ⟨rfl,rfl⟩,hd,Tt hd];rw[hd]at hq;simp only[Option.map_some,Option.bind_some]at hq⊢;exact ih hc (fun⟨q',e⟩=>h ⟨q',by rw[e];rfl⟩) hq
   ·rw[if_neg he]
    exact⟨xs,hq,rfl⟩
inductive E4(P:Nat→Br→Prop):AV→Prop
 |view {g p o l} (h:P g p):E4 P (.view g p o l)
 |ptr {g p i f} (h:P g p):E4 P (.ptr g p i f)
 |bx {g f} (h:P g []):E4 P (.bx g f)
 |agg {cs} (h:∀c,c∈cs→E4 P c):E4 P (.agg cs)
 |tup {cs} (h:∀c,c∈cs→E4 P c):E4 P (.tup cs)
 |fn {f cs} (h:∀c,c∈cs→E4 P c):E4 P (.fn f cs)
 |int {k n}:E4 P (.int k n)
 |bool {b}:E4 P (.bool b)
 |str {s}:E4 P (.str s)
 |nils:E4 P .nils
 |emp:E4 P .emp
 |rd {s xs}:E4 P (.rd s xs)
 |own {s xs}:E4 P (.own s xs)
 |pin {cs}:E4 P (.pin cs)
 |nilI:E4 P .nilI
 |arg {s g n} (h:P g []):E4 P (.arg s g n)
 |someI:E4 P .someI
 |nilp:E4 P .nilp
 |undef:E4 P .undef
theorem E4.all{P:Nat→Br→Prop}(hP:∀g p,P g p){x:Ctx}{w:World}{h:Ah}{n:Nat→Prop}{ρ:Option Nat→Am}{v:AV}{u:Value}(hs:Az x w h n ρ v u):E4 P v:=by
 induction hs with
 |cell hr=>cases hr<;>first|exact .arg (hP _ _)|constructor
 |nils=>exact .nils
 |emp=>exact .emp
 |void=>exact .undef
 |someI=>exact .someI
 |nilp=>exact .nilp
 |gone hg=>exact .view (hP _ _)
 |gonep hg=>exact .ptr (hP _ _)
 |goneb hg=>exact .bx (hP _ _)
 |view0 hg hl=>exact .view (hP _ _)
 |view hg=>exact .view (hP _ _)
 |ptr hg hρ=>exact .ptr (hP _ _)
 |bx hg hρ=>exact .bx (hP _ _)
 |pin u hc=>exact .pin
 |agg hl hc ih=>exact .agg fun c hc'=>by obtain⟨i,hi⟩:=List.getElem?_of_mem hc';exact ih i c hi
 |tup hl hc ih=>exact .tup fun c hc'=>by obtain⟨i,hi⟩:=List.getElem?_of_mem hc';exact ih i c hi
 |fn hl hc ih=>exact .fn fun c hc'=>by obtain⟨i,hi⟩:=List.getElem?_of_mem hc';exact ih i c hi
theorem Az.weaken{P:Nat→Br→Prop}{x:Ctx}{w:World}{h h':Ah}{n n':Nat→Prop}{ρ ρ':Option Nat→Am}{v:AV}{u:Value}(hs:Az x w h n ρ v u)(hg:E4 P v)(hn:∀g,n g→n' g)
 (hnew:∀g,n g→A4 h g=none→A4 h' g=none)(hlt:∀g r,A4 h g=some r→n g)
 (hP:∀g p,P g p→A4 h' g=none∨((∀s xs,hget h g p=some (.own s xs)→∃xs',hget h' g p=some (.own s xs')∧xs'.length=xs.length)∧∀q,ρ (some g) p=some q→ρ' (some g) p=some q)):
 Az x w h' n' ρ' v u:=by
 have hlt':∀g p c,hget h g p=some c→n g:=fun g p c hc=>by
  unfold hget at hc;cases hl:A4 h g with
  |none=>simp[hl]at hc
  |some r=>exact hlt g r hl
 induction hs with
 |cell hr=>exact .cell hr
 |nils=>exact .nils
 |emp=>exact .emp
 |void=>exact .void
 |someI=>exact .someI
 |nilp=>exact .nilp
 |gone h0 hgn=>exact .gone (hnew _ hgn h0) (hn _ hgn)
 |gonep h0 hgn=>exact .gonep (hnew _ hgn h0) (hn _ hgn)
 |goneb h0 hgn=>exact .goneb (hnew _ hgn h0) (hn _ hgn)
 |view0 hgt hl=>
  cases hg with
  |view hp=>
   rcases hP _ _ hp with h0|⟨h1,h2⟩
   ·exact .gone h0 (hn _ (hlt' _ _ _ hgt))
   ·obtain⟨xs',e,hlen⟩:=h1 _ _ hgt
    exact .view0 e (by omega)
 |view hgt hl hcap hρ hb hroom=>
  cases hg with
  |view hp=>
   rcases hP _ _ hp with h0|⟨h1,h2⟩
   ·exact .gone h0 (hn _ (hlt' _ _ _ hgt))
   ·obtain⟨xs',e,hlen⟩:=h1 _ _ hgt
    exact .view e (by omega) hcap (h2 _ hρ) hb hroom
 |ptr hgt hρ=>
  cases hg with
  |ptr hp=>
   rcases hP _ _ hp with h0|⟨h1,h2⟩
   ·exact .gonep h0 (hn _ (hlt' _ _ _ hgt))
   ·obtain⟨xs',e,hlen⟩:=h1 _ _ hgt
    exact .ptr e (h2 _ hρ)
 |bx hgt hρ=>
  cases hg with
  |bx hp=>
   rcases hP _ _ hp with h0|⟨h1,h2⟩
   ·exact .goneb h0 (hn _ (hlt _ _ hgt))
   ·rename_i g f s r b o
    obtain⟨xs',e,hlen⟩:=h1 s [r] (by simp[hget,hgt,AV.get]);unfold hget at e;cases hl:A4 h' g with
    |none=>simp[hl]at e
    |some r'=>
     simp only[hl,AV.get,Option.some.injEq]at e;subst e;match xs',hlen with
     |[r'],_=>exact .bx hl (h2 _ hρ)
 |pin u hc=>exact .pin u hc
 |agg hl hc ih=>
  cases hg with
  |agg hall=>exact .agg hl fun i c hi=>ih i c hi (hall c (List.mem_of_getElem? hi))
 |tup hl hc ih=>
  cases hg with
  |tup hall=>exact .tup hl fun i c hi=>ih i c hi (hall c (List.mem_of_getElem? hi))
 |fn hl hc ih=>
  cases hg with
  |fn hall=>exact .fn hl fun i c hi=>ih i c hi (hall c (List.mem_of_getElem? hi))
theorem Sg{g:Nat}{v:AV}(h:Hg g v=false):E4 (fun g' p=>g'≠g∨p=[]) v:=by
 have ne:∀g',Nat.beq g' g=false→g'≠g:=fun g' hb e=>by rw[e,Zz]at hb;cases hb
 cases v with
 |view g' p o l=>
  cases p with
  |nil=>exact .view (.inr rfl)
  |cons a p=>exact .view (.inl (ne _ h))
 |ptr g' p i f=>
  cases p with
  |nil=>exact .ptr (.inr rfl)
  |cons a p=>exact .ptr (.inl (ne _ h))
 |bx g' f=>exact .bx (.inr rfl)
 |agg cs=>cases h
 |tup cs=>cases h
 |fn f cs=>cases h
 |int=>exact .int
 |bool=>exact .bool
 |str=>exact .str
 |nils=>exact .nils
 |emp=>exact .emp
 |rd=>exact .rd
 |own=>exact .own
 |pin=>exact .pin
 |nilI=>exact .nilI
 |someI=>exact .someI
 |nilp=>exact .nilp
 |undef=>exact .undef
 |arg s g' n=>exact .arg (.inr rfl)
theorem Ra{g:Nat}:∀{cs:List AV},To g cs=false→∀c,c∈cs→E4 (fun g' p=>g'≠g∨p=[]) c
 |[],_,c,hc=>by cases hc
 |v::r,h,c,hc=>by
  simp only[To]at h;cases hl:Hg g v with
  |true=>simp[hl]at h
  |false=>
   simp only[hl]at h;rcases List.mem_cons.1 hc with rfl|hc
   ·exact Sg hl
   ·exact Ra h c hc
theorem Z5{g:Nat}:∀{cs:List AV},Ng g cs=false→∀c,c∈cs→E4 (fun g' p=>g'≠g∨p=[]) c
 |[],_,c,hc=>by cases hc
 |v::r,h,c,hc=>by
  have hr:Ng g r=false∧E4 (fun g' p=>g'≠g∨p=[]) v:=by
   by_cases hv:∃cs,v=.agg cs
   ·obtain⟨cs,rfl⟩:=hv
    simp only[Ng]at h;cases hl:To g cs with
    |true=>simp[hl]at h
    |false=>
     simp only[hl]at h;exact⟨h,.agg (Ra hl)⟩
   ·have h2:(match Hg g v with|true=>true|false=>Ng g r)=false:=by
     cases v<;>first|exact h|exact absurd ⟨_,rfl⟩ hv
    cases hl:Hg g v with
    |true=>simp[hl]at h2
    |false=>
     simp only[hl]at h2;exact⟨h2,Sg hl⟩
  rcases List.mem_cons.1 hc with rfl|hc
  ·exact hr.2
  ·exact Z5 hr.1 c hc
theorem B67{g:Nat}{v:AV}(h:L0 g v=false):E4 (fun g' p=>g'≠g∨p=[]) v:=by
 cases v with
 |agg cs=>exact .agg (Ra h)
 |fn f cs=>exact .fn (Ra h)
 |tup cs=>exact .tup (Z5 h)
 |_=>exact Sg h
theorem Zr{g:Nat}{S:Af}{d:Nat}{s:B20}(h:A4 (voids g S) d=some s):
 ∃s0,A4 S d=some s0∧s.c=s0.c∧(s.v=s0.v∨s.v=.undef)∧E4 (fun g' p=>g'≠g∨p=[]) s.v:=by
 induction S with
 |nil=>simp[voids,A4]at h
 |cons q r ih=>
  obtain⟨k,s0⟩:=q;have hc:∃s',voids g ((k,s0)::r)=(k,s')::voids g r∧s'.c=s0.c∧(s'.v=s0.v∨s'.v=.undef)∧E4 (fun g' p=>g'≠g∨p=[]) s'.v:=by
   simp only[voids];cases hd:L0 g s0.v with
   |true=>exact⟨_,rfl,rfl,.inr rfl,.undef⟩
   |false=>exact⟨_,rfl,rfl,.inl rfl,B67 hd⟩
  obtain⟨v',e,h1,h2,h3⟩:=hc;rw[e,Ac]at h;rw[Ac];by_cases hk:k=d
  ·rw[if_pos hk]at h⊢
   simp only[Option.some.injEq]at h;subst h;exact⟨_,rfl,h1,h2,h3⟩
  ·rw[if_neg hk]at h⊢
   exact ih h
theorem Aw.weaken{P:Nat→Br→Prop}{x:Ctx}{w:World}{h h':Ah}{n n':Nat→Prop}{ρ ρ':Option Nat→Am}{S S':Af}{ts:Array Value}(hs:Aw x w h n ρ S ts)
 (hS:∀d s,A4 S' d=some s→∃s0,A4 S d=some s0∧s.c=s0.c∧(s.v=s0.v∨s.v=.undef)∧E4 P s.v)(hn:∀g,n g→n' g)
 (hnew:∀g,n g→A4 h g=none→A4 h' g=none)(hlt:∀g r,A4 h g=some r→n g)
 (hP:∀g p,P g p→A4 h' g=none∨((∀s xs,hget h g p=some (.own s xs)→∃xs',hget h' g p=some (.own s xs')∧xs'.length=xs.length)∧∀q,ρ (some g) p=some q→ρ' (some g) p=some q)):
 Aw x w h' n' ρ' S' ts:=by
 intro d s hd;obtain⟨s0,h0,hc,hv,hg⟩:=hS d s hd;obtain⟨h1,h2⟩:=hs d s0 h0;refine⟨fun ht=>?_,fun hf=>h2 (hc▸hf)⟩;rcases hv with hv|hv
 ·rw[hv]at hg⊢
  exact(h1 (hc▸ht)).weaken hg hn hnew hlt hP
 ·rw[hv]
  exact .void
theorem Aw.frame{x:Ctx}{w w':World}{h:Ah}{n:Nat→Prop}{ρ:Option Nat→Am}{S:Af}{ts:Array Value}(hs:Aw x w h n ρ S ts)
 (hw:∀g p b o c,ρ (some g) p=some (b,o)→Blk w b c→∃c',Blk w' b c'∧c'.size=c.size):Aw x w' h n ρ S ts:=
 fun d s hd=>⟨fun ht=>((hs d s hd).1 ht).frame hw,(hs d s hd).2⟩
def C8s(ts:Array Value):Option Nat→Value→Array Value
 |some k,u=>ts.setIfInBounds k u
 |none,_=>ts
theorem Aw.set{x:Ctx}{w:World}{h:Ah}{n:Nat→Prop}{ρ:Option Nat→Am}{S:Af}{ts:Array Value}(hs:Aw x w h n ρ S ts){d:Option Nat}{g:Option Bool}{v:AV}{u:Value}
 (hd:∀k,d=some k→k<ts.size)(hv:Cy g→Az x w h n ρ v u)(hg:g=some false→u=undef):
 Aw x w h n ρ (Bc S d g v) (C8s ts d u):=by
 cases d with
 |none=>exact hs
 |some k=>
  intro d' s hd';simp only[C8s];simp only[Bc]at hd';rw[Ac]at hd';have hk:=hd k rfl;by_cases e:k=d'
  ·subst e
   rw[if_pos rfl]at hd';simp only[Option.some.injEq]at hd';subst hd';have:(ts.setIfInBounds k u).getD k undef=u:=by simp[Array.getD_eq_getD_getElem?,hk]
   rw[this];exact⟨hv,hg⟩
  ·rw[if_neg e]at hd'
   have:(ts.setIfInBounds k u).getD d' undef=ts.getD d' undef:=by simp[Array.getD_eq_getD_getElem?,e]
   rw[this];exact hs d' s hd'
theorem Bp.world{x:Ctx}{w w':World}{h:Ah}{n:Nat→Prop}{L:List AV}{U:Nat→Value}{ρ:Option Nat→Am}(H:Bp x w h n L U ρ)
 (hh:w'.heap=w.heap)(h1:w'.os=w.os)(h2:w'.tape=w.tape)(h3:w'.output=w.output):Bp x w' h n L U ρ where
 os:=h1.trans H.os
 tape:=h2.trans H.tape
 output:=h3.trans H.output
 size:=by rw[hh];exact H.size
 frame:=fun b hb hm=>by rw[hh];exact H.frame b hb hm
 root:=fun g r hr=>by
  obtain⟨s,xs,v,e,hv⟩:=H.root g r hr;exact⟨s,xs,v,e,hv.frame fun p b o _=>by rw[hh]⟩
 loose:=fun j c hj=>(H.loose j c hj).frame fun p b o _=>by rw[hh]
 live:=H.live
 nobase:=H.nobase
 inj:=H.inj
 mine:=fun k p b o hk=>by
  obtain⟨h4,c,h5⟩:=H.mine k p b o hk;exact⟨h4,c,h5.congr (by rw[hh])⟩
 ids:=H.ids
 keeps:=fun b c hb=>by
  obtain⟨c',h6,h7⟩:=H.keeps b c hb;exact⟨c',h6.congr (by rw[hh]),h7⟩
 base:=H.base
 kn:=H.kn
 fixed:=fun b hb=>by rw[hh];exact H.fixed b hb
 rsub:=H.rsub
 rlt:=fun b hb=>by rw[hh];exact H.rlt b hb
def Iv(off s len:Nat)(ρ:Am):Am
 |[]=>match ρ []with
  |some (b,o)=>some (b,o+off*s)
  |none=>none
 |(i,f)::q=>if i<len then ρ ((off+i,f)::q)else none
def E9(ρ:Option Nat→Am)(m:Nat)(π:Am):Option Nat→Am
 |none=>fun
  |(0,j)::q=>if j=m then π q else ρ none ((0,j)::q)
  |q=>ρ none q
 |some g=>ρ (some g)
def Jg(U:Nat→Value)(m:Nat)(u:Value):Nat→Value:=fun j=>if j=m then u else U j
def Gq(ρ:Option Nat→Am)(g:Nat)(p:Br):Option Nat→Am
 |none=>ρ none
 |some g'=>if g'=g then Nm (ρ (some g)) p Ax else ρ (some g')
theorem A9b{ρ:Am}{p q:Br}{z:Nat×Nat}(h:Nm ρ p Ax q=some z):(¬∃q',q=p++q')∧ρ q=some z:=by
 by_cases he:∃q',q=p++q'
 ·obtain⟨q',rfl⟩:=he
  rw[Wx]at h;simp[Ax]at h
 ·exact⟨he,by rwa[Ms _ _ _ _ he]at h⟩
theorem La{xs:List (List AV)}{off len i f:Nat}(hi:i<len):As ((xs.drop off).take len) i f=As xs (off+i) f:=by
 unfold As;rw[List.getElem?_take,if_pos hi,List.getElem?_drop]
theorem Mk{xs:List (List AV)}{off len i f:Nat}(hi:¬i<len):As ((xs.drop off).take len) i f=none:=by
 unfold As;rw[List.getElem?_take,if_neg hi]
theorem C6{h:Ah}{g:Nat}{p:Br}{c:AV}(hg:hget h g p=some c):∃r,A4 h g=some r∧AV.get p r=some c:=by
 unfold hget at hg;cases hl:A4 h g with
 |none=>simp[hl]at hg
 |some r=>exact⟨r,rfl,by simpa[hl]using hg⟩
theorem Cn{h:Ah}{g:Nat}{p:Br}{r:AV}(hl:A4 h g=some r):hget h g p=AV.get p r:=by simp[hget,hl]
theorem F3{h:Ah}{g:Nat}{p:Br}{y r:AV}(hl:A4 h g=some r)(e:Nat):A4 (hput h g p y) e=if g=e then some (AV.put y p r)else A4 h e:=by
 unfold hput;rw[hl];simp only;rw[Lx];split
 ·rename_i he
  subst he;rw[hl];rfl
 ·rfl
def I2(h:Ah)(g:Nat):Br→Ah
 |[]=>remove h g
 |q::p=>hput h g (q::p) .undef
def C2c(S:Af)(g:Nat):Br→Af
 |[]=>S
 |_::_=>voids g S
theorem Ir(S:Af)(h:Ah)(g:Nat)(p:Br)(K:Af→Ah→Prop):W8 S h g p K=K (C2c S g p) (I2 h g p):=by
 cases p<;>rfl
theorem A4g{p:Br}{r y:AV}{a:Nat×Nat}{s:Nat}{xs:List (List AV)}(hr:r=.own s xs):∃xs',AV.put y (a::p) r=.own s xs'∧xs'.length=xs.length:=by
 subst hr;obtain⟨i,f⟩:=a;exact⟨_,rfl,by simp⟩
theorem Mo(h:Ah)(L:List AV)(q:Br):Tc h L none q=(AV.own 0 [L]).get q:=rfl
theorem Ct(h:Ah)(L:List AV)(g:Nat)(q:Br):Tc h L (some g) q=hget h g q:=rfl
theorem Oh(L:List AV)(i j:Nat)(q:Br):(AV.own 0 [L]).get ((i,j)::q)=if i=0 then(L[j]?).bind (AV.get q)else none:=by
 rw[Fr];unfold As;cases i with
 |zero=>simp
 |succ i=>simp
theorem Bp.live_none{x:Ctx}{w:World}{h:Ah}{n:Nat→Prop}{L:List AV}{U:Nat→Value}{ρ:Option Nat→Am}(H:Bp x w h n L U ρ){q:Br}{z:Nat×Nat}(hq:ρ none q=some z):
 ∃j q' s xs,q=(0,j)::q'∧j<L.length∧(L[j]?).bind (AV.get q')=some (.own s xs):=by
 obtain⟨s,xs,hs⟩:=H.live _ _ _ hq;cases q with
 |nil=>rw[H.nobase]at hq;cases hq
 |cons a q=>
  obtain⟨i,j⟩:=a;rw[Mo,Oh]at hs;by_cases hi:i=0
  ·subst hi
   rw[if_pos rfl]at hs;refine⟨j,q,s,xs,rfl,?_,hs⟩;rcases Nat.lt_or_ge j L.length with hj|hj
   ·exact hj
   ·rw[List.getElem?_eq_none hj]at hs;simp at hs
  ·rw[if_neg hi]at hs;cases hs
theorem Bp.detach{x:Ctx}{w:World}{h:Ah}{n:Nat→Prop}{L:List AV}{U:Nat→Value}{ρ:Option Nat→Am}(H:Bp x w h n L U ρ)
 {g:Nat}{p:Br}{off len s:Nat}{xs:List (List AV)}{u:Value}(hg:hget h g p=some (.own s xs))(hu:Az x w h n ρ (.view g p off len) u):
 Bp x w (I2 h g p) n (L++[.own s ((xs.drop off).take len)]) (Jg U L.length u) (E9 (Gq ρ g p) L.length (Iv off s len ((ρ (some g)).at_ p))):=by
 obtain⟨r,hl,hr⟩:=C6 hg;obtain⟨s0,xs0,v0,rfl,hv0⟩:=H.root g r hl;have hlk:∀e,e≠g→A4 (I2 h g p) e=A4 h e:=fun e he=>by
  cases p with
  |nil=>simp[I2,Ik,Ne.symm he]
  |cons a p=>simp[I2,F3 hl,Ne.symm he]
 have hlkg:A4 (I2 h g p) g=match p with|[]=>none|_::_=>some (AV.put .undef p (.own s0 xs0)):=by
  cases p with
  |nil=>simp[I2,Ik]
  |cons a p=>simp[I2,F3 hl]
 have orig:∀k q z,E9 (Gq ρ g p) L.length (Iv off s len ((ρ (some g)).at_ p)) k q=some z→
  (∃q',k=none∧q=(0,L.length)::q'∧((q'=[]∧∃o,ρ (some g) p=some (z.1,o))∨∃i f q'',q'=(i,f)::q''∧i<len∧ρ (some g) (p++(off+i,f)::q'')=some z))∨
  (ρ k q=some z∧(k=some g→¬∃q',q=p++q')∧(k=none→∃j q',q=(0,j)::q'∧j<L.length)):=by
  intro k q z hz;cases k with
  |none=>
   have hcase:(∃q',q=(0,L.length)::q'∧Iv off s len ((ρ (some g)).at_ p) q'=some z)∨(ρ none q=some z):=by
    cases q with
    |nil=>exact .inr hz
    |cons a q=>
     obtain⟨i,j⟩:=a;cases i with
     |zero=>
      simp only[E9]at hz;by_cases hj:j=L.length
      ·subst hj;rw[if_pos rfl]at hz;exact .inl ⟨q,rfl,hz⟩
      ·rw[if_neg hj]at hz;exact .inr hz
     |succ i=>exact .inr hz
   rcases hcase with⟨q',rfl,hz'⟩|hz'
   ·refine .inl ⟨q',rfl,rfl,?_⟩
    cases q' with
    |nil=>
     simp only[Iv,Am.at_,List.append_nil]at hz';cases hρ:ρ (some g) p with
     |none=>simp[hρ]at hz'
     |some y=>
      obtain⟨b,o⟩:=y;simp only[hρ,Option.some.injEq]at hz';subst hz';exact .inl ⟨rfl,o,rfl⟩
    |cons a q''=>
     obtain⟨i,f⟩:=a;simp only[Iv,Am.at_]at hz';by_cases hi:i<len
     ·rw[if_pos hi]at hz';exact .inr ⟨i,f,q'',rfl,hi,hz'⟩
     ·rw[if_neg hi]at hz';cases hz'
   ·obtain⟨j,q',_,_,e,hj,_⟩:=H.live_none hz'
    exact .inr ⟨hz',by simp,fun _=>⟨j,q',e,hj⟩⟩
  |some g'=>
   simp only[E9,Gq]at hz;by_cases he:g'=g
   ·subst he
    rw[if_pos rfl]at hz;obtain⟨h1,h2⟩:=A9b hz;exact .inr ⟨h2,fun _=>h1,by simp⟩
   ·rw[if_neg he]at hz
    exact .inr ⟨hz,fun h=>absurd (by simpa using h) he,by simp⟩
 refine⟨H.os,H.tape,H.output,H.size,H.frame,?_,?_,?_,H.nobase,?_,?_,?_,H.keeps,?_,H.kn,H.fixed,H.rsub,H.rlt⟩
 ·
  intro g' r' hr';by_cases he:g'=g
  ·subst he
   rw[hlkg]at hr';cases p with
   |nil=>cases hr'
   |cons a p=>
    simp only[Option.some.injEq]at hr';subst hr';obtain⟨xs',e1,_⟩:=A4g (p:=p) (y:=.undef) (a:=a) (s:=s0) (xs:=xs0) rfl;refine⟨s0,xs',v0,e1,?_⟩;show Rep x w (E9 (Gq ρ g' (a::p)) _ _ (some g')) _ _;simp only[E9,Gq,if_true];exact hv0.put (a::p) hr (fun _ _ _ _ _=>rfl) fun _ hq=>.undef hq.one
  ·rw[hlk g' he]at hr'
   obtain⟨s1,xs1,v1,e1,h1⟩:=H.root g' r' hr';refine⟨s1,xs1,v1,e1,h1.congr fun q=>?_⟩;simp[E9,Gq,he]
 ·
  intro j c hj;by_cases hjl:j=L.length
  ·subst hjl
   have hc:c=.own s ((xs.drop off).take len):=by simpa using hj.symm
   subst hc;simp only[Jg,if_true];have hplace:∀q,Am.sub (E9 (Gq ρ g p) L.length (Iv off s len ((ρ (some g)).at_ p)) none) 0 L.length q=Iv off s len ((ρ (some g)).at_ p) q:=by
    intro q;simp[Am.sub,E9]
   refine Rep.congr ?_ fun q=>(hplace q).symm;cases hu with
   |cell hc=>cases hc
   |gone h0=>rw[hl]at h0;cases h0
   |view0 hg' hl'=>
    rw[List.take_zero];exact .own0
   |view hg' hl' hcap hρ hb hroom=>
    rename_i s' xs' cap b o cc;rw[hg]at hg';simp only[Option.some.injEq,AV.own.injEq]at hg';obtain⟨rfl,rfl⟩:=hg';have hlen:((xs.drop off).take len).length=len:=by simp;omega
    have hr0:=hv0.get p hr;obtain⟨uu,hr1⟩:=hr0;cases hr1 with
    |own0=>
     have:len=0:=by simp at hl';omega
     subst this;rw[List.take_zero];exact .own (fun _ _=>undef) (by simp[Iv,Am.at_,hρ]) (by simp) (by simp) hb (by rw[Nat.add_assoc,←Nat.add_mul];exact hroom) (by simp[As]) (by simp[As])
    |own u1 hρ1 hcap1 hrow1 hb1 hroom1 hc1 hr1=>
     rename_i cap1 b1 o1 c1;have hρ1':ρ (some g) p=some (b1,o1):=by simpa[Am.at_]using hρ1
     rw[hρ]at hρ1';simp only[Option.some.injEq,Prod.mk.injEq]at hρ1';obtain⟨rfl,rfl⟩:=hρ1';obtain rfl:=hb.uniq hb1;have key:Rep x w (Iv off s len ((ρ (some g)).at_ p)) (.own s ((xs.drop off).take len)) (.slice (some ⟨b,o+off*s,none⟩) ((xs.drop off).take len).length cap):=by
      refine .own (fun i f=>u1 (off+i) f) (by simp[Iv,Am.at_,hρ]) (by rw[hlen];exact hcap) ?_ hb (by rw[Nat.add_assoc,←Nat.add_mul];exact hroom) ?_ ?_
      ·intro r hr';exact hrow1 r (List.mem_of_mem_drop (List.mem_of_mem_take hr'))
      ·intro i f d hd
       by_cases hi:i<len
       ·rw[La hi]at hd
        have:=hc1 _ _ _ hd;rw[Nat.add_mul]at this;rw[←this];congr 1;omega
       ·rw[Mk hi]at hd;cases hd
      ·intro i f d hd
       by_cases hi:i<len
       ·rw[La hi]at hd
        refine(hr1 _ _ _ hd).congr fun q=>?_;simp[Am.sub,Iv,hi]
       ·rw[Mk hi]at hd;cases hd
     rw[hlen]at key;exact key
  ·have hj':L[j]? =some c:=by
    rw[List.getElem?_append]at hj;split at hj
    ·exact hj
    ·rename_i h1
     have:j - L.length≠0:=by omega
     obtain⟨m,hm⟩:∃m,j - L.length=m+1:=⟨j - L.length - 1,by omega⟩
     rw[hm]at hj;simp at hj
   rw[show Jg U L.length u j=U j from by simp[Jg,hjl]];refine(H.loose j c hj').congr fun q=>?_;simp[Am.sub,E9,hjl,Gq]
 ·
  intro k q z hz;rcases orig k q z hz with⟨q',rfl,rfl,⟨rfl,o,ho⟩|⟨i,f,q'',rfl,hi,ho⟩⟩|⟨h1,h2,h3⟩
  ·exact⟨s,(xs.drop off).take len,by rw[Mo,Oh];simp[AV.get]⟩
  ·obtain⟨s1,xs1,h1⟩:=H.live _ _ _ ho
   rw[Ct,Cn hl,Qh,hr]at h1;simp only[Option.bind_some]at h1;rw[Fr]at h1;refine⟨s1,xs1,?_⟩;rw[Mo,Oh];simp only[if_true,List.getElem?_append_right (Nat.le_refl _),Nat.sub_self,List.getElem?_cons_zero,Option.bind_some];rw[Fr,La hi];exact h1
  ·cases k with
   |none=>
    obtain⟨s1,xs1,h4⟩:=H.live _ _ _ h1;obtain⟨j,q',rfl,hj⟩:=h3 rfl;refine⟨s1,xs1,?_⟩;rw[Mo,Oh]at h4⊢;rwa[List.getElem?_append_left hj]
   |some g'=>
    obtain⟨s1,xs1,h4⟩:=H.live _ _ _ h1;rw[Ct]at h4;by_cases he:g'=g
    ·subst he
     have hne:=h2 rfl;cases p with
     |nil=>exact absurd ⟨q,rfl⟩ hne
     |cons a p=>
      rw[Cn hl]at h4;obtain⟨xs',h5,_⟩:=Oi (y:=.undef) hr hne h4;exact⟨s1,xs',by rw[Ct,Cn (hlkg)];exact h5⟩
    ·refine⟨s1,xs1,?_⟩
     rw[Ct];unfold hget at h4⊢;rw[hlk g' he];exact h4
 ·
  intro k q k' q' b o o' hz hz';have hloc:∀(q1 q2:Br) z1 z2,((q1=[]∧∃o,ρ (some g) p=some (z1,o))∨∃i f q'',q1=(i,f)::q''∧i<len∧ρ (some g) (p++(off+i,f)::q'')=some (z1,z2))→
   ∃q0 o0,ρ (some g) (p++q0)=some (z1,o0)∧((q1=[]∧q0=[])∨∃i f q'',q1=(i,f)::q''∧q0=(off+i,f)::q''):=by
   intro q1 q2 z1 z2 h;rcases h with⟨rfl,o,ho⟩|⟨i,f,q'',rfl,hi,ho⟩
   ·exact⟨[],o,by simpa using ho,.inl ⟨rfl,rfl⟩⟩
   ·exact⟨_,_,ho,.inr ⟨i,f,q'',rfl,rfl⟩⟩
  rcases orig k q _ hz with⟨q1,rfl,rfl,h1⟩|⟨h1,h2,h3⟩<;>rcases orig k' q' _ hz' with⟨q1',rfl,rfl,h1'⟩|⟨h1',h2',h3'⟩
  ·obtain⟨q0,o0,e0,e1⟩:=hloc q1 [] b o h1
   obtain⟨q0',o0',e0',e1'⟩:=hloc q1' [] b o' h1';have:=(H.inj _ _ _ _ _ _ _ e0 e0').2;have:=List.append_cancel_left this;subst this;refine⟨rfl,?_⟩;rcases e1 with⟨rfl,rfl⟩|⟨i,f,q'',rfl,rfl⟩<;>rcases e1' with⟨rfl,h5⟩|⟨i',f',q''',rfl,h5⟩
   ·rfl
   ·cases h5
   ·cases h5
   ·simp only[List.cons.injEq,Prod.mk.injEq]at h5
    obtain⟨⟨h6,rfl⟩,rfl⟩:=h5;have:i=i':=by omega
    subst this;rfl
  ·obtain⟨q0,o0,e0,e1⟩:=hloc q1 [] b o h1
   obtain⟨e2,e3⟩:=H.inj _ _ _ _ _ _ _ e0 h1';exact absurd ⟨q0,e3.symm⟩ (h2' e2.symm)
  ·obtain⟨q0,o0,e0,e1⟩:=hloc q1' [] b o' h1'
   obtain⟨e2,e3⟩:=H.inj _ _ _ _ _ _ _ e0 h1;exact absurd ⟨q0,e3.symm⟩ (h2 e2.symm)
  ·exact H.inj _ _ _ _ _ _ _ h1 h1'
 ·
  intro k q b o hz;rcases orig k q _ hz with⟨q1,rfl,rfl,⟨rfl,o1,h1⟩|⟨i,f,q'',rfl,hi,h1⟩⟩|⟨h1,_,_⟩
  ·exact H.mine _ _ _ _ h1
  ·exact H.mine _ _ _ _ h1
  ·exact H.mine _ _ _ _ h1
 ·
  intro g' r' hr';by_cases he:g'=g
  ·subst he;exact H.ids _ _ hl
  ·rw[hlk g' he]at hr';exact H.ids _ _ hr'
 ·
  intro g' r' hk hr';by_cases he:g'=g
  ·subst he
   rw[hlkg]at hr';cases p with
   |nil=>cases hr'
   |cons a p=>simpa[E9,Gq,Nm]using H.base _ _ hk hl
  ·rw[hlk g' he]at hr'
   simpa[E9,Gq,he]using H.base _ _ hk hr'
theorem Bp.push{x:Ctx}{w:World}{h:Ah}{n:Nat→Prop}{L:List AV}{U:Nat→Value}{ρ:Option Nat→Am}(H:Bp x w h n L U ρ){c:AV}{u:Value}(hc:Rep x w Ax c u):
 Bp x w h n (L++[c]) (Jg U L.length u) ρ where
 os:=H.os
 tape:=H.tape
 output:=H.output
 size:=H.size
 frame:=H.frame
 root:=H.root
 loose:=fun j d hj=>by
  by_cases hjl:j=L.length
  ·subst hjl
   have:d=c:=by simpa using hj.symm
   subst this;simp only[Jg,if_true];exact hc.place
  ·have hj':L[j]? =some d:=by
    rw[List.getElem?_append]at hj;split at hj
    ·exact hj
    ·obtain⟨m,hm⟩:∃m,j - L.length=m+1:=⟨j - L.length - 1,by omega⟩
     rw[hm]at hj;simp at hj
   simp only[Jg,if_neg hjl];exact H.loose j d hj'
 live:=fun k p q hq=>by
  obtain⟨s,xs,hs⟩:=H.live k p q hq;cases k with
  |some g=>exact⟨s,xs,hs⟩
  |none=>
   obtain⟨j,q',s1,xs1,rfl,hj,h1⟩:=H.live_none hq;exact⟨s1,xs1,by rw[Mo,Oh,if_pos rfl,List.getElem?_append_left hj];exact h1⟩
 nobase:=H.nobase
 inj:=H.inj
 mine:=H.mine
 ids:=H.ids
 keeps:=H.keeps
 base:=H.base
 kn:=H.kn
 fixed:=H.fixed
 rsub:=H.rsub
 rlt:=H.rlt
theorem B8l{p q:Br}{r c y:AV}{s:Nat}{xs':List (List AV)}(hg:AV.get p r=some c)(h:¬∃q',q=p++q')(hq:AV.get q (AV.put y p r)=some (.own s xs')):
 ∃xs,AV.get q r=some (.own s xs)∧xs'.length=xs.length:=by
 induction p generalizing r q with
 |nil=>exact absurd ⟨q,rfl⟩ h
 |cons a p ih=>
  obtain⟨i,f⟩:=a;obtain⟨s',xs0,d,rfl,hd,hc⟩:=Ma hg;cases q with
  |nil=>
   simp only[AV.put,AV.get,Option.some.injEq,AV.own.injEq]at hq;obtain⟨rfl,rfl⟩:=hq;exact⟨_,rfl,by simp⟩
  |cons c' q=>
   obtain⟨i',f'⟩:=c';simp only[AV.put]at hq;rw[Fr,Qx]at hq;rw[Fr];by_cases he:i'=i∧f'=f
   ·obtain⟨rfl,rfl⟩:=he
    rw[if_pos ⟨rfl,rfl⟩,hd,Tt hd]at hq;rw[hd];simp only[Option.map_some,Option.bind_some]at hq⊢;exact ih hc (fun⟨q',e⟩=>h ⟨q',by rw[e];rfl⟩) hq
   ·rw[if_neg he]at hq
    exact⟨xs',hq,rfl⟩
def AV.movable:AV→Bool
 |.int _ _|.bool _|.str _|.rd _ _|.nilI|.arg _ _ _=>true
 |_=>false
def Mov(x:Ctx)(w:World)(h:Ah)(n:Nat→Prop)(ρ:Option Nat→Am)(v:AV)(u:Value):Prop:=
 match v with
 |.view g p off len=>∀s xs,hget h g p=some (.own s xs)→Az x w h n ρ (.view g p off len) u
 |.ptr g p i f=>∀s xs,hget h g p=some (.own s xs)→Az x w h n ρ (.ptr g p i f) u
 |.bx g f=>∀s r,A4 h g=some (.own s [r])→Az x w h n ρ (.bx g f) u
 |.nils=>u=.slice none 0 0
 |.emp=>∃a,u=.slice a 0 0
 |.pin cs=>Az x w [] (fun _=>False) (fun _=>Ax) (.pin cs) u
 |.someI=>∃t z,u=.iface t z
 |.nilp=>u=.pointer none
 |v=>v.movable=true→Rep x w Ax v u
theorem Az.mov{x:Ctx}{w:World}{h:Ah}{n:Nat→Prop}{ρ:Option Nat→Am}{v:AV}{u:Value}(hs:Az x w h n ρ v u):Mov x w h n ρ v u:=by
 cases v with
 |view g p off len=>exact fun _ _ _=>hs
 |ptr g p i f=>exact fun _ _ _=>hs
 |bx g f=>exact fun _ _ _=>hs
 |nils=>cases hs with
  |cell hr=>cases hr
  |nils=>rfl
 |emp=>cases hs with
  |cell hr=>cases hr
  |emp=>exact⟨_,rfl⟩
 |int k n=>intro _;cases hs with|cell hr=>exact hr
 |bool b=>intro _;cases hs with|cell hr=>exact hr
 |str s=>intro _;cases hs with|cell hr=>exact hr
 |rd s xs=>intro _;cases hs with|cell hr=>exact hr
 |nilI=>intro _;cases hs with|cell hr=>exact hr
 |own s xs=>intro h;cases h
 |pin cs=>cases hs with
  |cell hr=>cases hr
  |pin V hc=>exact .pin V hc
 |agg cs=>intro h;cases h
 |tup cs=>intro h;cases h
 |fn f cs=>intro h;cases h
 |someI=>cases hs with
  |cell hr=>cases hr
  |someI=>exact⟨_,_,rfl⟩
 |nilp=>cases hs with
  |cell hr=>cases hr
  |nilp=>rfl
 |undef=>intro h;cases h
 |arg s g n=>intro _;cases hs with|cell hr=>exact hr
section kill
variable{x:Ctx}{w:World}{h:Ah}{n:Nat→Prop}{L:List AV}{U:Nat→Value}{ρ:Option Nat→Am}
theorem Kr{g:Nat}{r:AV}(hl:A4 h g=some r)(p:Br){e:Nat}(he:e≠g):A4 (I2 h g p) e=A4 h e:=by
 cases p with
 |nil=>simp[I2,Ik,Ne.symm he]
 |cons a p=>simp[I2,F3 hl,Ne.symm he]
theorem Uy{g g':Nat}{p p':Br}{s s':Nat}{xs xs':List (List AV)}(hg:hget h g p=some (.own s xs))(h':hget (I2 h g p) g' p'=some (.own s' xs'))(m:Nat)(π:Am):
 (∃ys,hget h g' p'=some (.own s' ys)∧xs'.length=ys.length)∧E9 (Gq ρ g p) m π (some g') p'=ρ (some g') p':=by
 obtain⟨r,hl,hr⟩:=C6 hg;by_cases he:g'=g
 ·subst he
  cases p with
  |nil=>
   unfold hget at h';simp[I2,Ik]at h'
  |cons a p=>
   have hl':A4 (I2 h g' (a::p)) g'=some (AV.put .undef (a::p) r):=by simp[I2,F3 hl]
   rw[Cn hl']at h';have hne:¬∃q',p'=(a::p)++q':=by
    rintro⟨q',rfl⟩;rw[Rx hr]at h';cases q' with
    |nil=>simp[AV.get]at h'
    |cons b q'=>obtain⟨i,f⟩:=b;simp[AV.get]at h'
   obtain⟨ys,h1,h2⟩:=B8l hr hne h';exact⟨⟨ys,by rw[Cn hl];exact h1,h2⟩,by simp[E9,Gq,Ms _ _ _ _ hne]⟩
 ·have:hget (I2 h g p) g' p'=hget h g' p':=by unfold hget;rw[Kr hl p he]
  rw[this]at h';exact⟨⟨xs',h',rfl⟩,by simp[E9,Gq,he]⟩
theorem Mov.kill{g:Nat}{p:Br}{s:Nat}{xs:List (List AV)}(hg:hget h g p=some (.own s xs))(m:Nat)(π:Am){v:AV}{u:Value}(hm:Mov x w h n ρ v u):
 Mov x w (I2 h g p) n (E9 (Gq ρ g p) m π) v u:=by
 obtain⟨r,hl,hr⟩:=C6 hg;have hgone:∀g',A4 h g'=none→A4 (I2 h g p) g'=none:=fun g' h0=>by
  rw[Kr hl p (fun e=>by rw[e,hl]at h0;cases h0)];exact h0
 cases v with
 |view g' p' off len=>
  intro s' xs' h';obtain⟨⟨ys,h1,h2⟩,h3⟩:=Uy (ρ:=ρ) hg h' m π;have:=hm _ _ h1;cases this with
  |cell hr=>cases hr
  |gone h0 hn=>exact .gone (hgone _ h0) hn
  |view0 hg' hl'=>
   rw[h1]at hg';simp only[Option.some.injEq,AV.own.injEq]at hg';obtain⟨rfl,rfl⟩:=hg';exact .view0 h' (by omega)
  |view hg' hl' hcap hρ hb hroom=>
   rw[h1]at hg';simp only[Option.some.injEq,AV.own.injEq]at hg';obtain⟨rfl,rfl⟩:=hg';exact .view h' (by omega) hcap (h3.trans hρ) hb hroom
 |ptr g' p' i f=>
  intro s' xs' h';obtain⟨⟨ys,h1,h2⟩,h3⟩:=Uy (ρ:=ρ) hg h' m π;have:=hm _ _ h1;cases this with
  |cell hr=>cases hr
  |gonep h0 hn=>exact .gonep (hgone _ h0) hn
  |ptr hg' hρ=>
   rw[h1]at hg';simp only[Option.some.injEq,AV.own.injEq]at hg';obtain⟨rfl,rfl⟩:=hg';exact .ptr h' (h3.trans hρ)
 |bx g' f=>
  intro s' r' h';have h'':hget (I2 h g p) g' []=some (.own s' [r']):=by rw[Cn h'];rfl
  obtain⟨⟨ys,h1,h2⟩,h3⟩:=Uy (ρ:=ρ) hg h'' m π;match ys,h2 with
  |[y],_=>
   obtain⟨r2,hl2,hr2⟩:=C6 h1;simp only[AV.get,Option.some.injEq]at hr2;subst hr2;have:=hm _ _ hl2;cases this with
   |cell hr=>cases hr
   |goneb h0 hn=>exact .goneb (hgone _ h0) hn
   |bx hg' hρ=>exact .bx h' (h3.trans hρ)
 |nils=>exact hm
 |emp=>exact hm
 |int k n=>exact hm
 |bool b=>exact hm
 |str s=>exact hm
 |rd s xs=>exact hm
 |nilI=>exact hm
 |own s xs=>exact hm
 |pin cs=>exact hm
 |agg cs=>exact hm
 |tup cs=>exact hm
 |fn f cs=>exact hm
 |someI=>exact hm
 |nilp=>exact hm
 |undef=>exact hm
 |arg s g n=>exact hm
theorem Aw.kill{S:Af}{ts:Array Value}(H:Bp x w h n L U ρ)(hs:Aw x w h n ρ S ts){g:Nat}{p:Br}{s:Nat}{xs:List (List AV)}(hg:hget h g p=some (.own s xs))(m:Nat)(π:Am):
 Aw x w (I2 h g p) n (E9 (Gq ρ g p) m π) (C2c S g p) ts:=by
 obtain⟨r,hl,hr⟩:=C6 hg;have hnew:∀g',n g'→A4 h g'=none→A4 (I2 h g p) g'=none:=fun g' _ h0=>by
  rw[Kr hl p (fun e=>by rw[e,hl]at h0;cases h0)];exact h0
 cases p with
 |nil=>
  intro d s0 hd;refine⟨fun ht=>?_,(hs d s0 hd).2⟩;refine((hs d s0 hd).1 ht).weaken (P:=fun _ _=>True) (E4.all (fun _ _=>trivial) ((hs d s0 hd).1 ht)) (fun _ h=>h) hnew H.ids fun g' p' _=>?_;by_cases he:g'=g
  ·exact .inl (by simp[I2,Ik,he])
  ·refine .inr ⟨fun s1 xs1 h1=>⟨xs1,?_,rfl⟩,fun q hq=>by simpa[E9,Gq,he]using hq⟩
   unfold hget at h1⊢;rw[Kr hl [] he];exact h1
 |cons a p=>
  refine hs.weaken (P:=fun g' p'=>g'≠g∨p'=[]) (fun d s0 hd=>Zr hd) (fun _ h=>h) hnew H.ids fun g' p' hp'=>.inr ?_;by_cases he:g'=g
  ·subst he
   have hp':p'=[]:=hp'.resolve_left (by simp);subst hp';have hl':A4 (I2 h g' (a::p)) g'=some (AV.put .undef (a::p) r):=by simp[I2,F3 hl]
   have hne:¬∃q',([]:Br)=(a::p)++q':=by rintro⟨q',e⟩;cases e
   refine⟨fun s1 xs1 h1=>?_,fun q hq=>?_⟩
   ·rw[Cn hl]at h1
    obtain⟨xs',h2,h3⟩:=Oi (y:=.undef) hr hne h1;exact⟨xs',by rw[Cn hl'];exact h2,h3⟩
   ·simp only[E9,Gq,if_true]
    rw[Ms _ _ _ _ hne];exact hq
  ·refine⟨fun s1 xs1 h1=>⟨xs1,?_,rfl⟩,fun q hq=>by simpa[E9,Gq,he]using hq⟩
   unfold hget at h1⊢;rw[Kr hl _ he];exact h1
theorem Bv{g:Nat}{p:Br}{K:Nat→List (List AV)→Prop}(ha:arr h g p K):∃s xs,hget h g p=some (.own s xs)∧K s xs:=by
 unfold arr at ha;cases hg:hget h g p with
 |none=>simp[hg]at ha
 |some c=>
  rw[hg]at ha;cases c<;>simp only at ha;exact⟨_,_,rfl,ha⟩
theorem N9{S:Af}{ts:Array Value}{t:Option Nat}{v:AV}{u:Value}{K:AV→Af→Ah→Prop}(H:Bp x w h n L U ρ)(hs:Aw x w h n ρ S ts)(hm:Mov x w h n ρ v u)
 (hk:Em S h t v K):∃c S' h' ρ',K c S' h'∧Bp x w h' n (L++[c]) (Jg U L.length u) ρ'∧Aw x w h' n ρ' S' ts∧(∀v u,Mov x w h n ρ v u→Mov x w h' n ρ' v u)∧u.oneCell'=true:=by
 cases v<;>simp only[Em]at hk;case view g p off len=>
  obtain⟨s,xs,hg,hk⟩:=Bv hk;rw[Ir]at hk;have hv:=hm _ _ hg;refine⟨_,_,_,_,hk,H.detach hg hv,hs.kill H hg _ _,fun _ _ h=>h.kill hg _ _,?_⟩;cases hv with
  |cell hr=>cases hr
  |gone h0=>obtain⟨r,hl,_⟩:=C6 hg;rw[hl]at h0;cases h0
  |view0=>rfl
  |view=>rfl
 case nils=>
  cases t with
  |none=>exact hk.elim
  |some s=>
   have:u=.slice none 0 0:=hm;subst this;exact⟨_,_,_,ρ,hk,H.push .own0,hs,fun _ _ h=>h,rfl⟩
 case emp=>
  cases t with
  |none=>exact hk.elim
  |some s=>
   obtain⟨a,rfl⟩:∃a,u=.slice a 0 0:=hm;exact⟨_,_,_,ρ,hk,H.push .own0,hs,fun _ _ h=>h,rfl⟩
 all_goals
  have hr:=hm rfl;exact⟨_,_,_,ρ,hk,H.push hr,hs,fun _ _ h=>h,by cases hr<;>rfl⟩
theorem Kj:∀{ty:List (Option Nat)} {vs:List AV} {us:List Value} {x:Ctx} {w:World} {h:Ah} {n:Nat→Prop} {L:List AV} {U:Nat→Value} {ρ:Option Nat→Am} {S:Af} {ts:Array Value} {K:List AV→Af→Ah→Prop},
 Bp x w h n L U ρ→Aw x w h n ρ S ts→vs.length=us.length→(∀(i:Nat) v u,vs[i]? =some v→us[i]? =some u→Mov x w h n ρ v u)→C1 S h ty vs K→
 ∃cs S' h' ρ' U',K cs S' h'∧Bp x w h' n (L++cs) U' ρ'∧Aw x w h' n ρ' S' ts∧cs.length=vs.length∧ty.length=vs.length∧(∀(j:Nat) u,us[j]? =some u→U' (L.length+j)=u)∧(∀(j:Nat),j<L.length→U' j=U j)∧
  (∀v u,Mov x w h n ρ v u→Mov x w h' n ρ' v u)∧∀u,u∈us→u.oneCell'=true
 |[],[],us,x,w,h,n,L,U,ρ,S,ts,K,H,hs,hl,hm,hk=>by
  have:us=[]:=by cases us with|nil=>rfl|cons a r=>simp at hl
  subst this;exact⟨[],S,h,ρ,U,hk,by simpa using H,hs,rfl,rfl,by simp,fun _ _=>rfl,fun _ _ h=>h,by simp⟩
 |t::ty,v::vs,us,x,w,h,n,L,U,ρ,S,ts,K,H,hs,hl,hm,hk=>by
  obtain⟨u,us,rfl⟩:∃a r,us=a::r:=by cases us with|nil=>simp at hl|cons a r=>exact⟨a,r,rfl⟩
  simp only[C1]at hk;obtain⟨c,S1,h1,ρ1,hk1,H1,hs1,hk2,hone⟩:=N9 H hs (hm 0 v u rfl rfl) hk;obtain⟨cs,S2,h2,ρ2,U2,hk3,H2,hs2,hl2,hl3,hU,hU0,hk4,hone2⟩:=Kj H1 hs1 (by simpa using hl) (fun i v' u' hv hu=>hk2 _ _ (hm (i+1) v' u' (by simpa using hv) (by simpa using hu))) hk1;refine⟨c::cs,S2,h2,ρ2,U2,hk3,by simpa using H2,hs2,by simp[hl2],by simp[hl3],?_,?_,fun v u hv=>hk4 _ _ (hk2 _ _ hv),fun u' hu'=>by rcases List.mem_cons.1 hu' with rfl|h';exact hone;exact hone2 _ h'⟩
  ·intro j u' hj
   cases j with
   |zero=>
    simp only[List.getElem?_cons_zero,Option.some.injEq]at hj;subst hj;rw[hU0 _ (by simp)];simp[Jg]
   |succ j=>
    have:=hU j u' (by simpa using hj);rw[←this];congr 1;simp;omega
  ·intro j hj
   rw[hU0 j (by simp;omega)];simp[Jg,Nat.ne_of_lt hj]
 |[],v::vs,us,x,w,h,n,L,U,ρ,S,ts,K,H,hs,hl,hm,hk=>by simp[C1]at hk
 |t::ty,[],us,x,w,h,n,L,U,ρ,S,ts,K,H,hs,hl,hm,hk=>by simp[C1]at hk
end kill
theorem C7x{s i f i' f':Nat}(hf:f<s)(hf':f'<s)(h:i*s+f=i'*s+f'):i=i'∧f=f':=by
 have h1:i=i':=by
  have h2:(i*s+f)/s=i:=by rw[Nat.mul_comm,Nat.mul_add_div (by omega),Nat.div_eq_of_lt hf];omega
  have h3:(i'*s+f')/s=i':=by rw[Nat.mul_comm,Nat.mul_add_div (by omega),Nat.div_eq_of_lt hf'];omega
  rw[←h2,h,h3]
 subst h1;exact⟨rfl,by omega⟩
theorem A2q{xs:List (List AV)}{i f:Nat}{c:AV}(h:As xs i f=some c):∃r,xs[i]? =some r∧r[f]? =some c:=by
 unfold As at h;cases hr:xs[i]? with
 |none=>simp[hr]at h
 |some r=>exact⟨r,rfl,by simpa[hr]using h⟩
theorem Hw{xs:List (List AV)}{s i f:Nat}{c:AV}(hrow:∀r,r∈xs→r.length=s)(h:As xs i f=some c):i<xs.length∧f<s:=by
 obtain⟨r,h1,h2⟩:=A2q h;have hi:i<xs.length:=by
  rcases Nat.lt_or_ge i xs.length with hi|hi
  ·exact hi
  ·rw[List.getElem?_eq_none hi]at h1;cases h1
 refine⟨hi,?_⟩;have:=hrow r (List.mem_of_getElem? h1);rcases Nat.lt_or_ge f r.length with hf|hf
 ·omega
 ·rw[List.getElem?_eq_none hf]at h2;cases h2
theorem Ny{xs:List (List AV)}{s i f:Nat}(hrow:∀r,r∈xs→r.length=s)(hi:i<xs.length)(hf:f<s):∃c,As xs i f=some c:=by
 have h1:xs[i]? =some xs[i]:=List.getElem?_eq_getElem hi;have h2:=hrow xs[i] (List.getElem_mem hi);refine⟨xs[i][f],?_⟩;unfold As;rw[h1];simp only;exact List.getElem?_eq_getElem (by omega)
def Jb(ρ:Option Nat→Am)(id b s m:Nat):Option Nat→Am
 |none=>Ax
 |some g=>if g=id then fun
  |[]=>some (b,0)
  |(i,f)::q=>if i<m∧f<s then ρ none ((0,i*s+f)::q)else none
  else ρ (some g)
section
variable{x:Ctx}{w:World}{h:Ah}{n:Nat→Prop}{L:List AV}{U:Nat→Value}{ρ:Option Nat→Am}
theorem Bp.block_lt(H:Bp x w h n L U ρ){k:Option Nat}{p:Br}{b o:Nat}(hp:ρ k p=some (b,o)):b<w.heap.size:=by
 obtain⟨_,c,hb⟩:=H.mine _ _ _ _ hp;exact hb.lt
theorem J4(w:World)(o:Obj){b:Nat}(hb:b<w.heap.size):(w.alloc o).heap[b]? =w.heap[b]? :=RowKit.Below.heap_alloc w o b hb
theorem Up(w:World)(o:Obj):(w.alloc o).heap[w.heap.size]? =some o:=by
 show(w.heap.push o)[w.heap.size]? =_;simp
theorem A4e(w:World)(C:Array Value)(e:TypeId)(fz:Nat×Nat)(hf:B9a fz C.size):Blk (w.alloc (.cells C e fz)) w.heap.size C:=⟨e,fz,Up w _,hf⟩
theorem B7l(n:Nat):B9a (0,0) n:=.inl (Nat.le_refl _)
theorem Bp.newRoot(H:Bp x w h n L U ρ){id:Nat}(hid:¬n id){s cap:Nat}{rows:List (List AV)}{C:Array Value}{e:TypeId}{fz:Nat×Nat}(hfz:B9a fz C.size)(hrow:∀r,r∈rows→r.length=s)
 (hL:∀i f c,As rows i f=some c→L[i*s+f]? =some c)(hC:∀i f c,As rows i f=some c→C[i*s+f]? =some (U (i*s+f)))(hcap:rows.length≤cap)(hsz:cap*s≤C.size):
 Bp x (w.alloc (.cells C e fz)) ((id,.own s rows)::h) (ext n id) [] (fun _=>undef) (Jb ρ id w.heap.size s rows.length):=by
 have hne:∀g r,A4 h g=some r→g≠id:=fun g r hr e=>hid (e▸H.ids g r hr);have orig:∀k q z,Jb ρ id w.heap.size s rows.length k q=some z→(k=some id∧q=[]∧z=(w.heap.size,0))∨
  (∃i f q',k=some id∧q=(i,f)::q'∧i<rows.length∧f<s∧ρ none ((0,i*s+f)::q')=some z)∨(∃g,k=some g∧g≠id∧ρ (some g) q=some z):=by
  intro k q z hz;cases k with
  |none=>simp[Jb,Ax]at hz
  |some g=>
   simp only[Jb]at hz;by_cases hg:g=id
   ·subst hg
    rw[if_pos rfl]at hz;cases q with
    |nil=>simp only[Option.some.injEq]at hz;exact .inl ⟨rfl,rfl,hz.symm⟩
    |cons a q=>
     obtain⟨i,f⟩:=a;simp only at hz;split at hz
     ·rename_i hc;exact .inr (.inl ⟨i,f,q,rfl,rfl,hc.1,hc.2,hz⟩)
     ·cases hz
   ·rw[if_neg hg]at hz
    exact .inr (.inr ⟨g,rfl,hg,hz⟩)
 have hold:∀{k p b o},ρ k p=some (b,o)→(w.alloc (.cells C e fz)).heap[b]? =w.heap[b]? :=fun hp=>J4 w _ (H.block_lt hp);refine⟨H.os,H.tape,H.output,by have:=H.size;simp;omega,?_,?_,by simp,?_,rfl,?_,?_,?_,?_,?_,fun g hg=>.inl (H.kn g hg),fun b hb=>(J4 w _ (H.rlt b hb)).trans (H.fixed b hb),H.rsub,fun b hb=>by have:=H.rlt b hb;show b<(w.heap.push _).size;simp;omega⟩
 ·intro b hb hm
  rw[J4 w _ (by have:=H.size;omega)];exact H.frame b hb hm
 ·intro g r hr
  rw[Ac]at hr;by_cases hg:id=g
  ·subst hg
   rw[if_pos rfl]at hr;simp only[Option.some.injEq]at hr;subst hr;refine⟨s,rows,.slice (some ⟨w.heap.size,0,none⟩) rows.length cap,rfl,?_⟩;refine .own (fun i f=>U (i*s+f)) (by simp[Jb]) hcap hrow (A4e w C e fz hfz) (by simpa using hsz) (fun i f d hd=>by simpa using hC i f d hd) fun i f d hd=>?_;have hl:=Hw hrow hd;refine((H.loose _ _ (hL i f d hd)).frame fun p b o hp=>hold hp).congr fun q=>?_;simp[Jb,Am.sub,hl.1,hl.2]
  ·rw[if_neg hg]at hr
   obtain⟨s1,xs1,v1,e1,h1⟩:=H.root g r hr;refine⟨s1,xs1,v1,e1,(h1.frame fun p b o hp=>hold hp).congr fun q=>?_⟩;simp[Jb,Ne.symm hg]
 ·intro k q z hz
  rcases orig k q z hz with⟨rfl,rfl,rfl⟩|⟨i,f,q',rfl,rfl,hi,hf,hp⟩|⟨g,rfl,hg,hp⟩
  ·exact⟨s,rows,by rw[Ct];simp[hget,Ac,AV.get]⟩
  ·obtain⟨j,q0,s1,xs1,e1,hj,h1⟩:=H.live_none hp
   simp only[List.cons.injEq,Prod.mk.injEq,true_and]at e1;obtain⟨rfl,rfl⟩:=e1;obtain⟨c,hc⟩:=Ny hrow hi hf;rw[hL i f c hc]at h1;refine⟨s1,xs1,?_⟩;rw[Ct];simp only[hget,Ac,if_true];rw[Fr,hc];exact h1
  ·obtain⟨s1,xs1,h1⟩:=H.live _ _ _ hp
   refine⟨s1,xs1,?_⟩;rw[Ct]at h1⊢;unfold hget at h1⊢;rw[Ac,if_neg (Ne.symm hg)];exact h1
 ·intro k q k' q' b o o' hz hz'
  rcases orig k q _ hz with⟨rfl,rfl,e1⟩|⟨i,f,q1,rfl,rfl,hi,hf,hp⟩|⟨g,rfl,hg,hp⟩<;>rcases orig k' q' _ hz' with⟨rfl,rfl,e2⟩|⟨i',f',q1',rfl,rfl,hi',hf',hp'⟩|⟨g',rfl,hg',hp'⟩
  ·exact⟨rfl,rfl⟩
  ·simp only[Prod.mk.injEq]at e1;have:=H.block_lt hp';omega
  ·simp only[Prod.mk.injEq]at e1;have:=H.block_lt hp';omega
  ·simp only[Prod.mk.injEq]at e2;have:=H.block_lt hp;omega
  ·have:=(H.inj _ _ _ _ _ _ _ hp hp').2
   simp only[List.cons.injEq,Prod.mk.injEq,true_and]at this;obtain⟨h1,rfl⟩:=this;obtain⟨rfl,rfl⟩:=C7x hf hf' h1;exact⟨rfl,rfl⟩
  ·have:=(H.inj _ _ _ _ _ _ _ hp hp').1;cases this
  ·simp only[Prod.mk.injEq]at e2;have:=H.block_lt hp;omega
  ·have:=(H.inj _ _ _ _ _ _ _ hp hp').1;cases this
  ·exact H.inj _ _ _ _ _ _ _ hp hp'
 ·intro k q b o hz
  rcases orig k q _ hz with⟨rfl,rfl,e1⟩|⟨i,f,q1,rfl,rfl,hi,hf,hp⟩|⟨g,rfl,hg,hp⟩
  ·simp only[Prod.mk.injEq]at e1
   obtain⟨rfl,rfl⟩:=e1;exact⟨⟨.inl H.size,fun hr=>Nat.lt_irrefl _ (H.rlt _ hr)⟩,C,A4e w C e fz hfz⟩
  ·obtain⟨h1,c,h2⟩:=H.mine _ _ _ _ hp
   exact⟨h1,c,h2.congr (hold hp)⟩
  ·obtain⟨h1,c,h2⟩:=H.mine _ _ _ _ hp
   exact⟨h1,c,h2.congr (hold hp)⟩
 ·intro g r hr
  rw[Ac]at hr;by_cases hg:id=g
  ·exact .inr hg.symm
  ·rw[if_neg hg]at hr
   exact .inl (H.ids g r hr)
 ·intro b c hb
  obtain⟨c',h6,h7⟩:=H.keeps b c hb;exact⟨c',h6.congr (J4 w _ h6.lt),h7⟩
 ·intro g r hk hr
  have hne':g≠id:=fun e=>hid (e▸H.kn g hk);rw[Ac,if_neg (Ne.symm hne')]at hr;simpa[Jb,hne']using H.base g r hk hr
theorem Aw.newRoot{S:Af}{ts:Array Value}(H:Bp x w h n L U ρ)(hs:Aw x w h n ρ S ts){id:Nat}(hid:¬n id)(y:AV)(o:Obj)(s m:Nat):
 Aw x (w.alloc o) ((id,y)::h) (ext n id) (Jb ρ id w.heap.size s m) S ts:=by
 have h1:Aw x (w.alloc o) h n ρ S ts:=hs.frame fun g p b o' c hp hb=>⟨c,hb.congr (J4 w _ (H.block_lt hp)),rfl⟩
 intro d s0 hd;refine⟨fun ht=>?_,(h1 d s0 hd).2⟩;have h2:=(h1 d s0 hd).1 ht;refine h2.weaken (P:=fun g p=>n g∨A4 h g=none) (E4.all (fun g p=>?_) h2) (fun g hg=>.inl hg) ?_ H.ids ?_
 ·cases hl:A4 h g with
  |none=>exact .inr rfl
  |some r=>exact .inl (H.ids g r hl)
 ·intro g hg h0
  rw[Ac,if_neg (show¬id=g from fun e=>hid (e▸hg))];exact h0
 ·intro g p hg
  by_cases he:id=g
  ·subst he
   have hl:A4 h id=none:=by
    rcases hg with hg|hg
    ·exact absurd hg hid
    ·exact hg
   refine .inr ⟨fun s1 xs1 h3=>?_,fun q hq=>?_⟩
   ·simp[hget,hl]at h3
   ·obtain⟨s1,xs1,h3⟩:=H.live _ _ _ hq
    simp[Tc,hget,hl]at h3
  ·refine .inr ⟨fun s1 xs1 h3=>⟨xs1,?_,rfl⟩,fun q hq=>by simp[Jb,Ne.symm he];exact hq⟩
   unfold hget at h3⊢;rw[Ac,if_neg he];exact h3
end
theorem Nc:∀(L:List AV) (f:Nat) (r:List AV) (k:Nat),f+L.length≤r.length→(setCells f L r)[k]? =if f≤k∧k<f+L.length then L[k - f]? else r[k]?
 |[],f,r,k,h=>by simp only[setCells,List.length_nil];rw[if_neg (by omega)]
 |a::L,f,r,k,h=>by
  simp only[setCells,List.length_cons]at h⊢;rw[Nc L (f+1) (r.set f a) k (by simp;omega)];by_cases h1:f+1≤k∧k<f+1+L.length
  ·rw[if_pos h1,if_pos (by omega)]
   obtain⟨m,hm⟩:∃m,k - f=m+1:=⟨k - f - 1,by omega⟩
   rw[hm,List.getElem?_cons_succ];congr 1;omega
  ·rw[if_neg h1]
   by_cases h2:k=f
   ·have hlt:k<r.length:=by omega
    subst h2;rw[if_pos (by omega)];simp[hlt]
   ·rw[if_neg (by omega),List.getElem?_set_ne (Ne.symm h2)]
theorem Pg:∀(L:List AV) (f:Nat) (r:List AV),(setCells f L r).length=r.length
 |[],f,r=>rfl
 |a::L,f,r=>by simp[setCells,Pg L]
theorem Me{xs:List (List AV)}{L r:List AV}{i f:Nat}(hr:xs[i]? =some r)(hf:f+L.length≤r.length)(i' f':Nat):
 As (xs.set i (setCells f L r)) i' f'=if i'=i∧f≤f'∧f'<f+L.length then L[f' - f]? else As xs i' f':=by
 have hi:i<xs.length:=by
  rcases Nat.lt_or_ge i xs.length with hi|hi
  ·exact hi
  ·rw[List.getElem?_eq_none hi]at hr;cases hr
 unfold As;by_cases he:i'=i
 ·subst he
  have h1:(xs.set i' (setCells f L r))[i']? =some (setCells f L r):=by simp[hi]
  rw[h1,hr];show(setCells f L r)[f']? =if i'=i'∧f≤f'∧f'<f+L.length then L[f' - f]? else r[f']?
  rw[Nc L f r f' hf];by_cases hc:f≤f'∧f'<f+L.length
  ·rw[if_pos hc,if_pos ⟨rfl,hc⟩]
  ·rw[if_neg hc,if_neg (fun h=>hc h.2)]
 ·have h1:(xs.set i (setCells f L r))[i']? =xs[i']? :=List.getElem?_set_ne (Ne.symm he)
  rw[h1,if_neg (fun h=>he h.1)]
def Kf(ρ:Option Nat→Am)(g:Nat)(p:Br)(i f m b o:Nat):Am
 |[]=>some (b,o)
 |(i',f')::q=>if i'=i∧f≤f'∧f'<f+m then ρ none ((0,f' - f)::q)else ρ (some g) (p++(i',f')::q)
def Gt(ρ:Option Nat→Am)(g:Nat)(p:Br)(i f m b o:Nat):Option Nat→Am
 |none=>Ax
 |some g'=>if g'=g then Nm (ρ (some g)) p (Kf ρ g p i f m b o)else ρ (some g')
structure Ue(w w':World)(b:Nat)(c c':Array Value):Prop where
 hb:Blk w b c
 hb':Blk w' b c'
 sz:c'.size=c.size
 ne:∀b',b'≠b→w'.heap[b']? =w.heap[b']?
 size:w'.heap.size=w.heap.size
 os:w'.os=w.os
 tape:w'.tape=w.tape
 output:w'.output=w.output
section
variable{x:Ctx}{w w':World}{h:Ah}{n:Nat→Prop}{L:List AV}{U:Nat→Value}{ρ:Option Nat→Am}
theorem Wu{g:Nat}{p:Br}{s i f b o:Nat}{xs:List (List AV)}{r:List AV}(hg:hget h g p=some (.own s xs))(hr:xs[i]? =some r)(hf:f+L.length≤r.length)
 (hρ:ρ (some g) p=some (b,o)){p':Br}{s':Nat}{ys:List (List AV)}(hp:hget h g p'=some (.own s' ys))(hn:∀f' q,f≤f'→f'<f+L.length→p'≠p++(i,f')::q):
 (∃ys',hget (hput h g p (.own s (xs.set i (setCells f L r)))) g p'=some (.own s' ys')∧ys'.length=ys.length)∧Gt ρ g p i f L.length b o (some g) p'=ρ (some g) p':=by
 obtain⟨rt,hl,hrt⟩:=C6 hg;have hl':A4 (hput h g p (.own s (xs.set i (setCells f L r)))) g=some (AV.put (.own s (xs.set i (setCells f L r))) p rt):=by simp[F3 hl]
 rw[Cn hl]at hp;rw[Cn hl'];simp only[Gt,if_true];by_cases he:∃q',p'=p++q'
 ·obtain⟨q',rfl⟩:=he
  rw[Rx hrt,Wx];rw[Qh,hrt]at hp;simp only[Option.bind_some]at hp;cases q' with
  |nil=>
   simp only[AV.get,Option.some.injEq,AV.own.injEq]at hp;obtain⟨rfl,rfl⟩:=hp;exact⟨⟨_,rfl,by simp⟩,by simp[Kf,hρ]⟩
  |cons a q'=>
   obtain⟨i',f'⟩:=a;have hne:¬(i'=i∧f≤f'∧f'<f+L.length):=by
    rintro⟨rfl,h1,h2⟩;exact hn f' q' h1 h2 rfl
   rw[Fr,Me hr hf,if_neg hne,←Fr (s:=s)];refine⟨⟨ys,hp,rfl⟩,?_⟩;simp only[Kf,if_neg hne]
 ·rw[Ms _ _ _ _ he]
  exact⟨Oi hrt he hp,rfl⟩
theorem Bp.store(H:Bp x w h n L U ρ){g:Nat}{p:Br}{s i f b o:Nat}{xs:List (List AV)}{r:List AV}{c c':Array Value}(hg:hget h g p=some (.own s xs))(hr:xs[i]? =some r)
 (hf:f+L.length≤s)(hρ:ρ (some g) p=some (b,o))(W:Ue w w' b c c')(hc1:∀j,j<L.length→c'[o+(i*s+f)+j]? =some (U j))
 (hc2:∀k,(k<o+(i*s+f)∨o+(i*s+f)+L.length≤k)→c'[k]? =c[k]?):
 Bp x w' (hput h g p (.own s (xs.set i (setCells f L r)))) n [] (fun _=>undef) (Gt ρ g p i f L.length b o):=by
 obtain⟨rt,hl,hrt⟩:=C6 hg;have hl':A4 (hput h g p (.own s (xs.set i (setCells f L r)))) g=some (AV.put (.own s (xs.set i (setCells f L r))) p rt):=by simp[F3 hl]
 have hlk:∀e,e≠g→A4 (hput h g p (.own s (xs.set i (setCells f L r)))) e=A4 h e:=fun e he=>by simp[F3 hl,Ne.symm he]
 obtain⟨s0,xs0,v0,rfl,hv0⟩:=H.root g rt hl;obtain⟨u0,hu0⟩:=hv0.get p hrt;have hi:i<xs.length:=by
  rcases Nat.lt_or_ge i xs.length with hi|hi
  ·exact hi
  ·rw[List.getElem?_eq_none hi]at hr;cases hr
 have hrl:r.length=s:=by
  cases hu0 with
  |own0=>simp at hi
  |own u1 hρ1 hcap1 hrow1=>exact hrow1 r (List.mem_of_getElem? hr)
 have hfr:f+L.length≤r.length:=by omega
 have orig:∀k q z,Gt ρ g p i f L.length b o k q=some z→(∃f' q',k=some g∧q=p++(i,f')::q'∧f≤f'∧f'<f+L.length∧ρ none ((0,f' - f)::q')=some z)∨
  (∃g',k=some g'∧ρ (some g') q=some z∧(g'=g→∀f' q',f≤f'→f'<f+L.length→q≠p++(i,f')::q')):=by
  intro k q z hz;cases k with
  |none=>simp[Gt,Ax]at hz
  |some g'=>
   simp only[Gt]at hz;by_cases he:g'=g
   ·subst he
    rw[if_pos rfl]at hz;by_cases hx:∃q',q=p++q'
    ·obtain⟨q',rfl⟩:=hx
     rw[Wx]at hz;cases q' with
     |nil=>
      simp only[Kf,Option.some.injEq]at hz;subst hz;exact .inr ⟨g',rfl,by simpa using hρ,fun _ f' q' _ _ he=>by simp at he⟩
     |cons a q'=>
      obtain⟨i',f'⟩:=a;simp only[Kf]at hz;by_cases hc:i'=i∧f≤f'∧f'<f+L.length
      ·rw[if_pos hc]at hz
       obtain⟨rfl,h1,h2⟩:=hc;exact .inl ⟨f',q',rfl,rfl,h1,h2,hz⟩
      ·rw[if_neg hc]at hz
       refine .inr ⟨g',rfl,hz,fun _ f'' q'' h1 h2 he=>?_⟩;have:=List.append_cancel_left he;simp only[List.cons.injEq,Prod.mk.injEq]at this;obtain⟨⟨rfl,rfl⟩,rfl⟩:=this;exact hc ⟨rfl,h1,h2⟩
    ·rw[Ms _ _ _ _ hx]at hz
     exact .inr ⟨g',rfl,hz,fun _ f' q' _ _ he=>hx ⟨_,he⟩⟩
   ·rw[if_neg he]at hz
    exact .inr ⟨g',rfl,hz,fun h=>absurd h he⟩
 have hother:∀{k q b' o'},ρ k q=some (b',o')→(k≠some g∨q≠p)→w'.heap[b']? =w.heap[b']? :=fun{k q b' o'} hz hne=>by
  refine W.ne _ fun he=>?_;subst he;obtain⟨h1,h2⟩:=H.inj _ _ _ _ _ _ _ hz hρ;rcases hne with h3|h3
  ·exact h3 h1
  ·exact h3 h2
 refine⟨W.os.trans H.os,W.tape.trans H.tape,W.output.trans H.output,by rw[W.size];exact H.size,?_,?_,by simp,?_,rfl,?_,?_,?_,?_,?_,H.kn,fun b' hb'=>(W.ne b' (fun he=>(H.mine _ _ _ _ hρ).1.2 (he▸hb'))).trans (H.fixed b' hb'),H.rsub,fun b' hb'=>by rw[W.size];exact H.rlt b' hb'⟩
 ·intro b' hb' hm
  rw[W.ne b' (fun he=>?_)]
  ·exact H.frame b' hb' hm
  ·subst he
   obtain⟨⟨h1,_⟩,_⟩:=H.mine _ _ _ _ hρ;rcases h1 with h1|h1
   ·omega
   ·exact hm h1
 ·intro g' r' hr'
  by_cases he:g'=g
  ·subst he
   rw[hl']at hr';simp only[Option.some.injEq]at hr';subst hr';have hrep:Rep x w' (Nm (ρ (some g')) p (Kf ρ g' p i f L.length b o)) (AV.put (.own s (xs.set i (setCells f L r))) p (.own s0 xs0)) v0:=by
    refine hv0.put p hrt (fun q b' o' hq hz=>hother hz (.inr fun e=>hq ⟨[],by simp[e]⟩)) fun u hu=>?_;cases hu with
    |own0=>simp at hi
    |own u1 hρ1 hcap1 hrow1 hb1 hroom1 hcc1 hr1=>
     rename_i cap1 b1 o1 c1;have hρ1':ρ (some g') p=some (b1,o1):=by simpa[Am.at_]using hρ1
     rw[hρ]at hρ1';simp only[Option.some.injEq,Prod.mk.injEq]at hρ1';obtain⟨rfl,rfl⟩:=hρ1';obtain rfl:=W.hb.uniq hb1;rw[show xs.length=(xs.set i (setCells f L r)).length from by simp];refine .own (fun i' f'=>if i'=i∧f≤f'∧f'<f+L.length then U (f' - f)else u1 i' f') rfl (by simpa using hcap1) ?_ W.hb' (by rw[W.sz];exact hroom1) ?_ ?_
     ·intro r2 hr2
      rcases List.mem_or_eq_of_mem_set hr2 with h1|h1
      ·exact hrow1 r2 h1
      ·rw[h1,Pg];exact hrl
     ·intro i' f' d hd
      rw[Me hr hfr]at hd;by_cases hc:i'=i∧f≤f'∧f'<f+L.length
      ·simp only[if_pos hc]
       obtain⟨rfl,h1,h2⟩:=hc;have:=hc1 (f' - f) (by omega);rw[←this];congr 1;omega
      ·rw[if_neg hc]at hd
       simp only[if_neg hc];rw[hc2,hcc1 _ _ _ hd];have hlt:=Hw hrow1 hd;by_cases hii:i'=i
       ·subst hii
        omega
       ·rcases Nat.lt_or_gt_of_ne hii with hlt'|hlt'
        ·left
         have:i'*s+s≤i*s:=by rw[←Nat.succ_mul];exact Nat.mul_le_mul_right s hlt'
         omega
        ·right
         have:i*s+s≤i'*s:=by rw[←Nat.succ_mul];exact Nat.mul_le_mul_right s hlt'
         omega
     ·intro i' f' d hd
      rw[Me hr hfr]at hd;by_cases hc:i'=i∧f≤f'∧f'<f+L.length
      ·rw[if_pos hc]at hd
       simp only[if_pos hc];refine((H.loose _ _ hd).frame fun q b' o' hz=>hother hz (.inl (by simp))).congr fun q=>?_;simp[Am.sub,Kf,hc]
      ·rw[if_neg hc]at hd
       simp only[if_neg hc];refine((hr1 _ _ _ hd).frame fun q b' o' hz=>hother (k:=some g') (q:=p++(i',f')::q) hz (.inr (by simp))).congr fun q=>?_;simp only[Am.sub,Am.at_,Kf,if_neg hc]
   exact⟨s0,_,v0,(by
    cases p with
    |nil=>
     simp only[AV.get,Option.some.injEq,AV.own.injEq]at hrt;obtain⟨rfl,rfl⟩:=hrt;rfl
    |cons a p=>
     obtain⟨xs',e1,_⟩:=A4g (p:=p) (y:=.own s (xs.set i (setCells f L r))) (a:=a) (s:=s0) (xs:=xs0) rfl;exact e1▸rfl:AV.put (.own s (xs.set i (setCells f L r))) p (.own s0 xs0)=.own s0 (match AV.put (.own s (xs.set i (setCells f L r))) p (.own s0 xs0)with|.own _ ys=>ys|_=>[])),by
    simpa[Gt]using hrep⟩
  ·rw[hlk g' he]at hr'
   obtain⟨s1,xs1,v1,e1,h1⟩:=H.root g' r' hr';refine⟨s1,xs1,v1,e1,(h1.frame fun q b' o' hz=>hother hz (.inl (by simpa using he))).congr fun q=>?_⟩;simp[Gt,he]
 ·intro k q z hz
  rcases orig k q z hz with⟨f',q',rfl,rfl,h1,h2,hp⟩|⟨g',rfl,hp,hn⟩
  ·obtain⟨j,q0,s1,xs1,e1,hj,h3⟩:=H.live_none hp
   simp only[List.cons.injEq,Prod.mk.injEq,true_and]at e1;obtain⟨rfl,rfl⟩:=e1;refine⟨s1,xs1,?_⟩;rw[Ct,Cn hl',Rx hrt,Fr,Me hr hfr,if_pos ⟨rfl,h1,h2⟩];exact h3
  ·obtain⟨s1,xs1,h1⟩:=H.live _ _ _ hp
   rw[Ct]at h1⊢;by_cases he:g'=g
   ·subst he
    obtain⟨⟨ys',h2,_⟩,_⟩:=Wu (ρ:=ρ) hg hr hfr hρ h1 (hn rfl);exact⟨s1,ys',h2⟩
   ·refine⟨s1,xs1,?_⟩
    unfold hget at h1⊢;rw[hlk g' he];exact h1
 ·intro k q k' q' b1 o1 o2 hz hz'
  rcases orig k q _ hz with⟨f1,q1,rfl,rfl,h1,h2,hp⟩|⟨g1,rfl,hp,hn⟩<;>rcases orig k' q' _ hz' with⟨f1',q1',rfl,rfl,h1',h2',hp'⟩|⟨g1',rfl,hp',hn'⟩
  ·have:=(H.inj _ _ _ _ _ _ _ hp hp').2
   simp only[List.cons.injEq,Prod.mk.injEq,true_and]at this;obtain⟨h3,rfl⟩:=this;have:f1=f1':=by omega
   subst this;exact⟨rfl,rfl⟩
  ·have:=(H.inj _ _ _ _ _ _ _ hp hp').1;cases this
  ·have:=(H.inj _ _ _ _ _ _ _ hp hp').1;cases this
  ·obtain⟨h3,h4⟩:=H.inj _ _ _ _ _ _ _ hp hp'
   exact⟨h3,h4⟩
 ·intro k q b1 o1 hz
  have hmine:∀k0 q0 o0,ρ k0 q0=some (b1,o0)→((x.w0.heap.size≤b1∨x.M b1)∧¬x.R b1)∧∃c,Blk w' b1 c:=by
   intro k0 q0 o0 h0;obtain⟨h1,c1,h2⟩:=H.mine _ _ _ _ h0;refine⟨h1,?_⟩;by_cases hbb:b1=b
   ·subst hbb;exact⟨c',W.hb'⟩
   ·exact⟨c1,h2.congr (W.ne b1 hbb)⟩
  rcases orig k q _ hz with⟨f',q',rfl,rfl,h1,h2,hp⟩|⟨g',rfl,hp,hn⟩
  ·exact hmine _ _ _ hp
  ·exact hmine _ _ _ hp
 ·intro g' r' hr'
  by_cases he:g'=g
  ·subst he;exact H.ids _ _ hl
  ·rw[hlk g' he]at hr';exact H.ids _ _ hr'
 ·intro b' c1 hb1
  obtain⟨c2,h6,h7⟩:=H.keeps b' c1 hb1;by_cases hbb:b'=b
  ·subst hbb
   obtain rfl:=W.hb.uniq h6;exact⟨c',W.hb',W.sz.trans h7⟩
  ·exact⟨c2,h6.congr (W.ne b' hbb),h7⟩
 ·intro g' r' hk hr'
  by_cases he:g'=g
  ·subst he
   have hb:=H.base _ _ hk hl;simp only[Gt,if_true];cases p with
   |nil=>simp only[Nm,Kf];rw[←hb];exact hρ.symm
   |cons a p=>obtain⟨a1,a2⟩:=a;exact hb
  ·rw[hlk g' he]at hr'
   simpa[Gt,he]using H.base _ _ hk hr'
theorem Az.wrote{b:Nat}{c c':Array Value}(W:Ue w w' b c c'){v:AV}{u:Value}(hs:Az x w h n ρ v u):Az x w' h n ρ v u:=
 hs.frame fun g p b' o c1 hp hb=>by
  by_cases hbb:b'=b
  ·subst hbb
   obtain rfl:=W.hb.uniq hb;exact⟨c',W.hb',W.sz⟩
  ·exact⟨c1,hb.congr (W.ne b' hbb),rfl⟩
theorem Aw.store{S S':Af}{ts:Array Value}{P:Nat→Br→Prop}(H:Bp x w h n L U ρ)(hs:Aw x w h n ρ S ts){g:Nat}{p:Br}{s i f b o:Nat}{xs:List (List AV)}{r:List AV}{c c':Array Value}
 (hg:hget h g p=some (.own s xs))(hr:xs[i]? =some r)(hf:f+L.length≤r.length)(hρ:ρ (some g) p=some (b,o))(W:Ue w w' b c c')
 (hS:∀d s,A4 S' d=some s→∃s0,A4 S d=some s0∧s.c=s0.c∧(s.v=s0.v∨s.v=.undef)∧(Cy s.c→E4 P s.v))
 (hP:∀p' s' ys,P g p'→hget h g p'=some (.own s' ys)→∀f' q,f≤f'→f'<f+L.length→p'≠p++(i,f')::q):
 Aw x w' (hput h g p (.own s (xs.set i (setCells f L r)))) n (Gt ρ g p i f L.length b o) S' ts:=by
 obtain⟨rt,hl,hrt⟩:=C6 hg;have hlk:∀e,e≠g→A4 (hput h g p (.own s (xs.set i (setCells f L r)))) e=A4 h e:=fun e he=>by simp[F3 hl,Ne.symm he]
 intro d s1 hd;obtain⟨s0,h0,hc,hv,hgood⟩:=hS d s1 hd;obtain⟨h1,h2⟩:=hs d s0 h0;refine⟨fun ht=>?_,fun hf=>h2 (hc▸hf)⟩;rcases hv with hv|hv
 ·have hgd:=hgood ht
  rw[hv]at hgd⊢;refine((h1 (hc▸ht)).wrote W).weaken (P:=P) hgd (fun _ h=>h) ?_ H.ids ?_
  ·intro g' hg' h0'
   rw[hlk g' (fun e=>by rw[e,hl]at h0';cases h0')];exact h0'
  ·intro g' p' hp'
   by_cases he:g'=g
   ·subst he
    refine .inr ⟨fun s2 ys h3=>(Wu (ρ:=ρ) hg hr hf hρ h3 (hP p' s2 ys hp' h3)).1,fun q hq=>?_⟩;obtain⟨s2,ys,h3⟩:=H.live _ _ _ hq;rw[Ct]at h3;rw[(Wu (ρ:=ρ) hg hr hf hρ h3 (hP p' s2 ys hp' h3)).2];exact hq
   ·refine .inr ⟨fun s2 ys h3=>⟨ys,?_,rfl⟩,fun q hq=>by simpa[Gt,he]using hq⟩
    unfold hget at h3⊢;rw[hlk g' he];exact h3
 ·rw[hv]
  exact .void
end
theorem Je(b o k:Nat):(⟨b,o,none⟩:Addr).add k=⟨b,o+k,none⟩:=by
 unfold Addr.add;split
 ·rename_i h;subst h;rfl
 ·rfl
theorem B4v(w:World){b o:Nat}{c:Array Value}{e:TypeId}{f:Nat×Nat}(hb:w.heap[b]? =some (.cells c e f))(v:Value):
 (w.setCell ⟨b,o,none⟩ v).heap[b]? =some (.cells (c.setIfInBounds o v) e f):=by
 simp only[World.setCell,Array.getElem?_modify,if_true,hb,Option.map_some];simp
theorem A93(w:World){b o:Nat}{c:Array Value}(hb:Blk w b c)(v:Value):
 Ue w (w.setCell ⟨b,o,none⟩ v) b c (c.setIfInBounds o v)where
 hb:=hb
 hb':=by
  obtain⟨e,fz,h1,h2⟩:=hb;exact⟨e,fz,B4v w h1 v,by simpa using h2⟩
 sz:=by simp
 ne:=fun b' h=>by
  simp only[World.setCell,Array.getElem?_modify];rw[if_neg (Ne.symm h)]
 size:=by simp[World.setCell]
 os:=rfl
 tape:=rfl
 output:=rfl
theorem Ue.trans{w w1 w2:World}{b:Nat}{c c1 c2:Array Value}(h1:Ue w w1 b c c1)(h2:Ue w1 w2 b c1 c2):Ue w w2 b c c2 where
 hb:=h1.hb
 hb':=h2.hb'
 sz:=h2.sz.trans h1.sz
 ne:=fun b' h=>(h2.ne b' h).trans (h1.ne b' h)
 size:=h2.size.trans h1.size
 os:=h2.os.trans h1.os
 tape:=h2.tape.trans h1.tape
 output:=h2.output.trans h1.output
theorem Ue.refl{w:World}{b:Nat}{c:Array Value}(hb:Blk w b c):Ue w w b c c:=
 ⟨hb,hb,rfl,fun _ _=>rfl,rfl,rfl,rfl,rfl⟩
theorem Q7(P:Program):∀(vs:List Value) (k:Nat) (w:World) (b o:Nat) (c:Array Value),Blk w b c→o+k+vs.length≤c.size→(∀v,v∈vs→v.oneCell'=true)→
 ∃w' c',(storeCells ⟨b,o,none⟩ vs k).run P w=.ok () w'∧Ue w w' b c c'∧∀j,c'[j]? =if o+k≤j∧j<o+k+vs.length then vs[j - (o+k)]? else c[j]?
 |[],k,w,b,o,c,hb,hs,hv=>⟨w,c,rfl,.refl hb,fun j=>by simp only[List.length_nil];rw[if_neg (by omega)]⟩
 |v::vs,k,w,b,o,c,hb,hs,hv=>by
  simp only[List.length_cons]at hs;have hcell:w.cell? ⟨b,o+k,none⟩=some c[o+k]:=by
   rw[hb.cell];exact Array.getElem?_eq_getElem (by omega)
  have hfr:w.frozen? ⟨b,o+k,none⟩=false:=by
   obtain⟨e,fz,h1,h2⟩:=hb;obtain⟨lo,hi⟩:=fz;simp only[World.frozen?,h1];simp only[B9a]at h2;simp;omega
  have hst:(store ((⟨b,o,none⟩:Addr).add k) v).run P w=.ok () (w.setCell ⟨b,o+k,none⟩ v):=by
   rw[Je,run_store P w _ v .plain (hv v (by simp)),hcell];simp[hfr]
  have W1:=A93 w (o:=o+k) hb v;obtain⟨w',c',h1,W2,h2⟩:=Q7 P vs (k+1) (w.setCell ⟨b,o+k,none⟩ v) b o _ W1.hb' (by simp;omega) fun u hu=>hv u (by simp[hu]);refine⟨w',c',?_,W1.trans W2,fun j=>?_⟩
  ·simp only[storeCells,Sem.run_bind,hst,Result.andThen_ok]
   exact h1
  ·rw[h2 j]
   by_cases hj:o+(k+1)≤j∧j<o+(k+1)+vs.length
   ·rw[if_pos hj,if_pos (by simp;omega)]
    obtain⟨m,hm⟩:∃m,j - (o+k)=m+1:=⟨j - (o+k) - 1,by omega⟩
    rw[hm,List.getElem?_cons_succ];congr 1;omega
   ·rw[if_neg hj]
    by_cases he:j=o+k
    ·subst he
     rw[if_pos (by simp)];have hlt:o+k<c.size:=by omega
     simp[hlt]
    ·rw[if_neg (by simp;omega),Array.getElem?_setIfInBounds_ne (Ne.symm he)]
theorem Ro(P:Program)(w:World)(b o:Nat)(V:Nat→Value):∀(n i:Nat) (acc:Array Value),(∀j,j<n→w.cell? ⟨b,o+(i+j),none⟩=some (V (i+j)))→
 ∃arr,(loadCellsFrom ⟨b,o,none⟩ i n acc).run P w=.ok arr w∧arr.size=acc.size+n∧(∀j,j<acc.size→arr[j]? =acc[j]?)∧∀j,j<n→arr[acc.size+j]? =some (V (i+j))
 |0,i,acc,h=>⟨acc,rfl,by simp,fun _ _=>rfl,fun j hj=>by omega⟩
 |n+1,i,acc,h=>by
  have h0:=h 0 (by omega);obtain⟨arr,h1,h2,h3,h4⟩:=Ro P w b o V n (i+1) (acc.push (V i)) fun j hj=>by
   have:=h (j+1) (by omega);rw[show i+1+j=i+(j+1)from by omega];exact this
  refine⟨arr,?_,by simp at h2;omega,fun j hj=>?_,fun j hj=>?_⟩
  ·simp only[loadCellsFrom,Sem.run_bind,run_load,Je]
   simp only[Nat.add_zero]at h0;rw[h0];exact h1
  ·rw[h3 j (by simp;omega),Array.getElem?_push,if_neg (by omega)]
  ·cases j with
   |zero=>
    rw[Nat.add_zero,h3 acc.size (by simp)];simp
   |succ j=>
    have:=h4 j (by omega);simp only[Array.size_push]at this;rw[show acc.size+(j+1)=acc.size+1+j from by omega,this];congr 2;omega
theorem Xr(P:Program)(w:World)(b o n:Nat)(V:Nat→Value)(h:∀j,j<n→w.cell? ⟨b,o+j,none⟩=some (V j)):
 ∃arr,(loadCells ⟨b,o,none⟩ n).run P w=.ok arr w∧arr.size=n∧∀j,j<n→arr[j]? =some (V j):=by
 obtain⟨arr,h1,h2,_,h4⟩:=Ro P w b o V n 0 #[] (fun j hj=>by simpa using h j hj);exact⟨arr,h1,by simpa using h2,fun j hj=>by simpa using h4 j hj⟩
def F9(ρ:Option Nat→Am)(id:Nat)(base:Option (Nat×Nat))(jx:Nat)(my:Option Nat)(m k s:Nat):Option Nat→Am
 |none=>Ax
 |some g=>if g=id then fun
  |[]=>base
  |(i,f)::q=>if f<s then(if i<m then ρ none ((0,jx)::(i,f)::q)else if i<m+k then(match my with|some jy=>ρ none ((0,jy)::(i - m,f)::q)|none=>none)else none)else none
  else ρ (some g)
theorem M8{xs ys:List (List AV)}(i f:Nat):As (xs++ys) i f=if i<xs.length then As xs i f else As ys (i - xs.length) f:=by
 unfold As;by_cases h:i<xs.length
 ·rw[if_pos h,List.getElem?_append_left h]
 ·rw[if_neg h,List.getElem?_append_right (by omega)]
section
variable{x:Ctx}{w w':World}{h:Ah}{n:Nat→Prop}{L:List AV}{U:Nat→Value}{ρ:Option Nat→Am}
theorem Bp.appended(H:Bp x w h n L U ρ){id:Nat}(hid:¬n id){s jx:Nat}{my:Option Nat}{xs ys:List (List AV)}{base:Option (Nat×Nat)}{cap:Nat}{V:Nat→Nat→Value}
 (hjx:L[jx]? =some (.own s xs))(hjy:∀jy,my=some jy→jy≠jx∧L[jy]? =some (.own s ys))(hrx:∀r,r∈xs→r.length=s)(hry:∀r,r∈ys→r.length=s)
 (hold:∀k q b o,ρ k q=some (b,o)→¬(k=none∧q=[(0,jx)])→w'.heap[b]? =w.heap[b]?)
 (hfix:∀b,x.R b→w'.heap[b]? =w.heap[b]?)(hframe:∀b,b<x.w0.heap.size→¬x.M b→w'.heap[b]? =x.w0.heap[b]?)(hkeeps:∀b c,Blk w b c→∃c',Blk w' b c'∧c'.size=c.size)(hsize:w.heap.size≤w'.heap.size)(hos:w'.os=w.os)(htape:w'.tape=w.tape)(hout:w'.output=w.output)
 (hbase:∀b o,base=some (b,o)→(w.heap.size≤b∨∃o',ρ none [(0,jx)]=some (b,o'))∧((x.w0.heap.size≤b∨x.M b)∧¬x.R b)∧∃c,Blk w' b c∧xs.length+ys.length≤cap∧o+cap*s≤c.size∧
   ∀i f d,As (xs++ys) i f=some d→c[o+(i*s+f)]? =some (V i f))
 (hnone:base=none→xs++ys=[])
 (hV:∀i f d,As (xs++ys) i f=some d→Rep x w (fun q=>F9 ρ id base jx my xs.length ys.length s (some id) ((i,f)::q)) d (V i f)):
 Bp x w' ((id,.own s (xs++ys))::h) (ext n id) [] (fun _=>undef) (F9 ρ id base jx my xs.length ys.length s):=by
 have hrow:∀r,r∈xs++ys→r.length=s:=fun r hr=>by
  rcases List.mem_append.1 hr with hr|hr
  ·exact hrx r hr
  ·exact hry r hr
 have orig:∀k q z,F9 ρ id base jx my xs.length ys.length s k q=some z→(k=some id∧q=[]∧base=some z)∨
  (∃i f q',k=some id∧q=(i,f)::q'∧i<xs.length∧f<s∧ρ none ((0,jx)::(i,f)::q')=some z)∨
  (∃i f q' jy,k=some id∧q=(i,f)::q'∧¬i<xs.length∧i<xs.length+ys.length∧f<s∧my=some jy∧ρ none ((0,jy)::(i - xs.length,f)::q')=some z)∨
  (∃g,k=some g∧g≠id∧ρ (some g) q=some z):=by
  intro k q z hz;cases k with
  |none=>simp[F9,Ax]at hz
  |some g=>
   simp only[F9]at hz;by_cases hg:g=id
   ·subst hg
    rw[if_pos rfl]at hz;cases q with
    |nil=>exact .inl ⟨rfl,rfl,hz⟩
    |cons a q=>
     obtain⟨i,f⟩:=a;simp only at hz;split at hz
     ·rename_i hf
      split at hz
      ·rename_i hi;exact .inr (.inl ⟨i,f,q,rfl,rfl,hi,hf,hz⟩)
      ·rename_i hi
       split at hz
       ·rename_i hi2
        cases my with
        |none=>simp at hz
        |some jy=>exact .inr (.inr (.inl ⟨i,f,q,jy,rfl,rfl,hi,hi2,hf,rfl,hz⟩))
       ·cases hz
     ·cases hz
   ·rw[if_neg hg]at hz
    exact .inr (.inr (.inr ⟨g,rfl,hg,hz⟩))
 have orig2:∀k q z,F9 ρ id base jx my xs.length ys.length s k q=some z→(k=some id∧q=[]∧base=some z)∨∃k0 q0,ρ k0 q0=some z∧¬(k0=none∧q0=[(0,jx)]):=by
  intro k q z hz;rcases orig k q z hz with⟨h1,h2,h3⟩|⟨i,f,q',_,_,_,_,hp⟩|⟨i,f,q',jy,_,_,_,_,_,_,hp⟩|⟨g,_,_,hp⟩
  ·exact .inl ⟨h1,h2,h3⟩
  ·exact .inr ⟨_,_,hp,by simp⟩
  ·exact .inr ⟨_,_,hp,by simp⟩
  ·exact .inr ⟨_,_,hp,by simp⟩
 have hbne:∀b o,base=some (b,o)→∀k0 q0 o0,ρ k0 q0=some (b,o0)→k0=none∧q0=[(0,jx)]:=by
  intro b o hb k0 q0 o0 h0;obtain⟨h1|⟨o',h1⟩,_⟩:=hbase b o hb
  ·have:=H.block_lt h0;omega
  ·obtain⟨h2,h3⟩:=H.inj _ _ _ _ _ _ _ h0 h1
   exact⟨h2,h3⟩
 refine⟨hos.trans H.os,htape.trans H.tape,hout.trans H.output,Nat.le_trans H.size hsize,hframe,?_,by simp,?_,rfl,?_,?_,?_,?_,?_,fun g hg=>.inl (H.kn g hg),fun b hb=>(hfix b hb).trans (H.fixed b hb),H.rsub,fun b hb=>Nat.lt_of_lt_of_le (H.rlt b hb) hsize⟩
 ·intro g r hr
  rw[Ac]at hr;by_cases hg:id=g
  ·subst hg
   rw[if_pos rfl]at hr;simp only[Option.some.injEq]at hr;subst hr;have hVf:∀i f d,As (xs++ys) i f=some d→Rep x w' (fun q=>F9 ρ id base jx my xs.length ys.length s (some id) ((i,f)::q)) d (V i f):=fun i f d hd=>
    (hV i f d hd).frame fun q b o hq=>by
      rcases orig2 _ _ _ hq with⟨_,h2,_⟩|⟨k0,q0,h1,h2⟩
      ·cases h2
      ·exact hold _ _ _ _ h1 h2
   cases hb:base with
   |none=>
    rw[hnone hb];exact⟨s,[],.slice none 0 0,rfl,.own0⟩
   |some z=>
    obtain⟨b,o⟩:=z;obtain⟨_,_,c,hc,hcap,hroom,hcells⟩:=hbase b o hb;refine⟨s,xs++ys,.slice (some ⟨b,o,none⟩) (xs++ys).length cap,rfl,?_⟩;rw[←hb];exact .own V (by simp[F9,hb]) (by simpa using hcap) hrow hc hroom hcells fun i f d hd=>(hVf i f d hd).congr fun q=>rfl
  ·rw[if_neg hg]at hr
   obtain⟨s1,xs1,v1,e1,h1⟩:=H.root g r hr;refine⟨s1,xs1,v1,e1,(h1.frame fun q b o hq=>hold _ _ _ _ hq (by simp)).congr fun q=>?_⟩;simp[F9,Ne.symm hg]
 ·intro k q z hz
  have hget:∀i f q',AV.get ((i,f)::q') (.own s (xs++ys))=(As (xs++ys) i f).bind (AV.get q'):=fun i f q'=>Fr _ _ _ _ _;rcases orig k q z hz with⟨rfl,rfl,h3⟩|⟨i,f,q',rfl,rfl,hi,hf,hp⟩|⟨i,f,q',jy,rfl,rfl,hi,hi2,hf,hmy,hp⟩|⟨g,rfl,hg,hp⟩
  ·exact⟨s,xs++ys,by rw[Ct];simp[Go.GH.hget,Ac,AV.get]⟩
  ·obtain⟨j,q0,s1,xs1,e1,hj,h1⟩:=H.live_none hp
   simp only[List.cons.injEq,Prod.mk.injEq,true_and]at e1;obtain⟨rfl,rfl⟩:=e1;rw[hjx]at h1;simp only[Option.bind_some]at h1;rw[Fr]at h1;refine⟨s1,xs1,?_⟩;rw[Ct];simp only[Go.GH.hget,Ac,if_true];rw[Fr,M8,if_pos hi];exact h1
  ·obtain⟨j,q0,s1,xs1,e1,hj,h1⟩:=H.live_none hp
   simp only[List.cons.injEq,Prod.mk.injEq,true_and]at e1;obtain⟨rfl,rfl⟩:=e1;rw[(hjy _ hmy).2]at h1;simp only[Option.bind_some]at h1;rw[Fr]at h1;refine⟨s1,xs1,?_⟩;rw[Ct];simp only[Go.GH.hget,Ac,if_true];rw[Fr,M8,if_neg hi];exact h1
  ·obtain⟨s1,xs1,h1⟩:=H.live _ _ _ hp
   refine⟨s1,xs1,?_⟩;rw[Ct]at h1⊢;unfold Go.GH.hget at h1⊢;rw[Ac,if_neg (Ne.symm hg)];exact h1
 ·intro k q k' q' b o o' hz hz'
  rcases orig k q _ hz with⟨rfl,rfl,h3⟩|⟨i,f,q1,rfl,rfl,hi,hf,hp⟩|⟨i,f,q1,jy,rfl,rfl,hi,hi2,hf,hmy,hp⟩|⟨g,rfl,hg,hp⟩<;>
   rcases orig k' q' _ hz' with⟨rfl,rfl,h3'⟩|⟨i',f',q1',rfl,rfl,hi',hf',hp'⟩|⟨i',f',q1',jy',rfl,rfl,hi',hi2',hf',hmy',hp'⟩|⟨g',rfl,hg',hp'⟩
  ·exact⟨rfl,rfl⟩
  ·have:=hbne _ _ h3 _ _ _ hp';simp at this
  ·have:=hbne _ _ h3 _ _ _ hp';simp at this
  ·have:=hbne _ _ h3 _ _ _ hp';simp at this
  ·have:=hbne _ _ h3' _ _ _ hp;simp at this
  ·have:=(H.inj _ _ _ _ _ _ _ hp hp').2
   simp only[List.cons.injEq,Prod.mk.injEq,true_and]at this;obtain⟨⟨rfl,rfl⟩,rfl⟩:=this;exact⟨rfl,rfl⟩
  ·have:=(H.inj _ _ _ _ _ _ _ hp hp').2
   simp only[List.cons.injEq,Prod.mk.injEq,true_and]at this;exact absurd this.1.symm (hjy _ hmy').1
  ·have:=(H.inj _ _ _ _ _ _ _ hp hp').1;cases this
  ·have:=hbne _ _ h3' _ _ _ hp;simp at this
  ·have:=(H.inj _ _ _ _ _ _ _ hp hp').2
   simp only[List.cons.injEq,Prod.mk.injEq,true_and]at this;exact absurd this.1 (hjy _ hmy).1
  ·have:=(H.inj _ _ _ _ _ _ _ hp hp').2
   simp only[List.cons.injEq,Prod.mk.injEq,true_and]at this;obtain⟨h4,⟨h5,rfl⟩,rfl⟩:=this;have:i=i':=by omega
   subst this;exact⟨rfl,rfl⟩
  ·have:=(H.inj _ _ _ _ _ _ _ hp hp').1;cases this
  ·have:=hbne _ _ h3' _ _ _ hp;simp at this
  ·have:=(H.inj _ _ _ _ _ _ _ hp hp').1;cases this
  ·have:=(H.inj _ _ _ _ _ _ _ hp hp').1;cases this
  ·exact H.inj _ _ _ _ _ _ _ hp hp'
 ·intro k q b o hz
  rcases orig2 k q _ hz with⟨rfl,rfl,h3⟩|⟨k0,q0,h1,h2⟩
  ·obtain⟨_,h4,c,h5,_⟩:=hbase b o h3
   exact⟨h4,c,h5⟩
  ·obtain⟨h4,c,h5⟩:=H.mine _ _ _ _ h1
   exact⟨h4,c,h5.congr (hold _ _ _ _ h1 h2)⟩
 ·intro g r hr
  rw[Ac]at hr;by_cases hg:id=g
  ·exact .inr hg.symm
  ·rw[if_neg hg]at hr
   exact .inl (H.ids g r hr)
 ·intro b c hb
  obtain⟨c',h6,h7⟩:=H.keeps b c hb;obtain⟨c2,h8,h9⟩:=hkeeps b c' h6;exact⟨c2,h8,h9.trans h7⟩
 ·intro g r hk hr
  have hne':g≠id:=fun e=>hid (e▸H.kn g hk);rw[Ac,if_neg (Ne.symm hne')]at hr;simpa[F9,hne']using H.base g r hk hr
theorem Aw.appended{S:Af}{ts:Array Value}(H:Bp x w h n L U ρ)(hs:Aw x w h n ρ S ts){id:Nat}(hid:¬n id)(y:AV){base:Option (Nat×Nat)}{jx:Nat}{my:Option Nat}{m k s:Nat}
 (hold:∀g q b o,ρ (some g) q=some (b,o)→w'.heap[b]? =w.heap[b]?):
 Aw x w' ((id,y)::h) (ext n id) (F9 ρ id base jx my m k s) S ts:=by
 have h1:Aw x w' h n ρ S ts:=hs.frame fun g p b o' c hp hb=>⟨c,hb.congr (hold _ _ _ _ hp),rfl⟩
 intro d s0 hd;refine⟨fun ht=>?_,(h1 d s0 hd).2⟩;have h2:=(h1 d s0 hd).1 ht;refine h2.weaken (P:=fun g p=>n g∨A4 h g=none) (E4.all (fun g p=>?_) h2) (fun g hg=>.inl hg) ?_ H.ids ?_
 ·cases hl:A4 h g with
  |none=>exact .inr rfl
  |some r=>exact .inl (H.ids g r hl)
 ·intro g hg h0
  rw[Ac,if_neg (show¬id=g from fun e=>hid (e▸hg))];exact h0
 ·intro g p hg
  by_cases he:id=g
  ·subst he
   have hl:A4 h id=none:=by
    rcases hg with hg|hg
    ·exact absurd hg hid
    ·exact hg
   refine .inr ⟨fun s1 xs1 h3=>?_,fun q hq=>?_⟩
   ·simp[hget,hl]at h3
   ·obtain⟨s1,xs1,h3⟩:=H.live _ _ _ hq
    simp[Tc,hget,hl]at h3
  ·refine .inr ⟨fun s1 xs1 h3=>⟨xs1,?_,rfl⟩,fun q hq=>by simp[F9,Ne.symm he];exact hq⟩
   unfold hget at h3⊢;rw[Ac,if_neg he];exact h3
end
structure Wm(P:Program)(t:Nat)(ty:Ty):Prop where
 info:∃i z,P.info? t=some i∧i.size=ty.size∧i.bytes=ty.bytes∧i.zero=some z∧z.cells.size=ty.size∧ty.zero.length=ty.size∧
  ∀(j:Nat) c,ty.zero[j]? =some c→∃u,z.cells[j]? =some u∧u.oneCell'=true∧(∀x w,Rep x w Ax c u)∧(c.isOwn=true→u=.slice none 0 0)
 kind:match ty.k with
  |.int k=>P.underlying t=some (.int k)
  |.bool=>P.underlying t=some .bool
  |.str=>P.underlying t=some .string
  |.slice e=>P.underlying t=some (.slice e)
  |.ptr e=>P.underlying t=some (.pointer e)
  |.iface=>∃ms,P.underlying t=some (.interface ms)
  |.struct fs=>P.stoodInHeld t=false∧P.eqGuardType P.depth t=false∧∃fields:Array Field,P.underlying t=some (.struct fields)∧fields.size=fs.length∧∀(i:Nat) o u,fs[i]? =some (o,u)→∃f,fields[i]? =some f∧f.offset=o∧f.type=u∧f.name≠ "_"∧
    ∃j,P.info? u=some j∧j.size≠0
 one:ty.k.agg=false→ty.size=1
 strides:ty.cs.length=ty.size
 pos:0<ty.size
 bytes:ty.bytes≤140737488355328
theorem run_underlying(P:Program)(w:World)(t:TypeId)(d:TypeDesc)(h:P.underlying t=some d):(underlying t).run P w=.ok d w:=by
 simp[underlying,h]
theorem G7(P:Program)(w:World)(t:TypeId)(i:TypeInfo)(h:P.info? t=some i):(typeInfo t).run P w=.ok i w:=by
 simp[typeInfo,h]
theorem Qv(P:Program)(w:World)(t:TypeId)(i:TypeInfo)(h:P.info? t=some i):(sizeOf t).run P w=.ok i.size w:=by
 simp[sizeOf,G7 P w t i h]
theorem Ip(P:Program)(w:World)(t:TypeId)(i:TypeInfo)(z:Value)(h:P.info? t=some i)(hz:i.zero=some z):(zeroValue t).run P w=.ok z w:=by
 simp[zeroValue,G7 P w t i h,hz]
theorem Wm.sizeOf{P:Program}{t:Nat}{ty:Ty}(h:Wm P t ty)(w:World):(Go.sizeOf t).run P w=.ok ty.size w:=by
 obtain⟨i,z,h1,h2,_⟩:=h.info;rw[Qv P w t i h1,h2]
theorem Wm.isAgg{P:Program}{t:Nat}{ty:Ty}(h:Wm P t ty)(w:World):(Go.isAgg t).run P w=.ok ty.k.agg w:=by
 have hk:=h.kind;cases hkk:ty.k<;>rw[hkk]at hk<;>simp only at hk;case struct fs=>
  obtain⟨_,_,fields,h1,_⟩:=hk;simp[Go.isAgg,run_underlying P w t _ h1,TK.agg]
 case iface=>
  obtain⟨ms,h1⟩:=hk;simp[Go.isAgg,run_underlying P w t _ h1,TK.agg]
 all_goals simp[Go.isAgg,run_underlying P w t _ hk,TK.agg]
theorem Rep.of_not_own{x:Ctx}{w:World}{ρ:Am}{v:AV}{u:Value}(h:Rep x w ρ v u)(hv:v.isOwn=false):Rep x w Ax v u:=by
 cases h with
 |int=>exact .int
 |bool=>exact .bool
 |str=>exact .str
 |nilI=>exact .nilI
 |undef h1=>exact .undef h1
 |rd u hcap hrow hc hr=>exact .rd u hcap hrow hc hr
 |own0=>simp[AV.isOwn]at hv
 |own=>simp[AV.isOwn]at hv
 |arg0 hk=>exact .arg0 hk
 |arg hβ hk hcap hb hroom=>exact .arg hβ hk hcap hb hroom
section
variable{P:Program}{x:Ctx}{w:World}{h:Ah}{n:Nat→Prop}{L:List AV}{U:Nat→Value}{ρ:Option Nat→Am}
theorem Bp.cells(H:Bp x w h n L U ρ){g:Nat}{p:Br}{s b o:Nat}{xs:List (List AV)}(hg:hget h g p=some (.own s xs))(hρ:ρ (some g) p=some (b,o)):
 ∃(c:Array Value) (V:Nat→Nat→Value),Blk w b c∧(∀r,r∈xs→r.length=s)∧
  ∀i f d,As xs i f=some d→c[o+(i*s+f)]? =some (V i f)∧Rep x w (fun q=>ρ (some g) (p++(i,f)::q)) d (V i f):=by
 obtain⟨r,hl,hr⟩:=C6 hg;obtain⟨s0,xs0,v0,rfl,hv0⟩:=H.root g r hl;obtain⟨u,hu⟩:=hv0.get p hr;obtain⟨_,c1,hb1⟩:=H.mine _ _ _ _ hρ;cases hu with
 |own0=>
  exact⟨c1,fun _ _=>undef,hb1,by simp,by simp[As]⟩
 |own V hρ1 hcap hrow hb hroom hc hr1=>
  rename_i cap b1 o1 c;have hρ1':ρ (some g) p=some (b1,o1):=by simpa[Am.at_]using hρ1
  rw[hρ]at hρ1';simp only[Option.some.injEq,Prod.mk.injEq]at hρ1';obtain⟨rfl,rfl⟩:=hρ1';exact⟨c,V,hb,hrow,fun i f d hd=>⟨hc i f d hd,(hr1 i f d hd).congr fun q=>rfl⟩⟩
end
section
variable{P:Program}{x:Ctx}{w:World}{h:Ah}{n:Nat→Prop}{L:List AV}{U:Nat→Value}{ρ:Option Nat→Am}
theorem C1b(v:Value):Az x w h n ρ v.toAV v:=by
 unfold Value.toAV
 (repeat' split)<;>first
   |exact .cell .int
   |exact .cell .bool
   |exact .cell .str
   |exact .nils
   |exact .cell .nilI
   |exact .nilp
   |exact .fn (by simp) (by simp)
   |exact .void
theorem Cc{S:Af}{g:Option Bool}{y:Operand}{k:AV→Prop}{a:Act}(hs:Aw x w h n ρ S a.tmps)(hg:Cy g)(hv:val S g y k):∃v,k v∧Az x w h n ρ v (a.eval y):=by
 cases y with
 |const v=>exact⟨_,hv,C1b v⟩
 |func f=>exact⟨_,hv,.fn (by simp) (by simp)⟩
 |global q=>exact hv.elim
 |tmp d=>
  simp only[val]at hv;cases hl:A4 S d with
  |none=>rw[hl]at hv;exact hv.elim
  |some s=>
   rw[hl]at hv;obtain⟨c,v⟩:=s;cases c with
   |none=>exact⟨v,hv,(hs d _ hl).1 trivial⟩
   |some b=>exact⟨v,hv.2,(hs d _ hl).1 (hv.1 hg)⟩
theorem Le{S:Af}{g:Option Bool}{a:Act}(hs:Aw x w h n ρ S a.tmps)(hg:Cy g):∀{ys:List Operand} {k:List AV→Prop},A16 S g ys k→
 ∃vs,k vs∧vs.length=ys.length∧∀(i:Nat) v y,vs[i]? =some v→ys[i]? =some y→Az x w h n ρ v (a.eval y)
 |[],k,hv=>⟨[],hv,rfl,by simp⟩
 |y::ys,k,hv=>by
  obtain⟨v,h1,h2⟩:=Cc hs hg hv;obtain⟨vs,h3,h4,h5⟩:=Le hs hg h1;refine⟨v::vs,h3,by simp[h4],fun i v' y' hv' hy'=>?_⟩;cases i with
  |zero=>
   simp only[List.getElem?_cons_zero,Option.some.injEq]at hv' hy';subst hv';subst hy';exact h2
  |succ i=>exact h5 i v' y' (by simpa using hv') (by simpa using hy')
theorem C1e{S:Af}{g:Option Bool}{a:Act}(hs:Aw x w h n ρ S a.tmps)(hg:Cy g){y:Option Operand}{k:Option AV→Prop}(hv:C03 S g y k):
 (y=none∧k none)∨∃z v,y=some z∧k (some v)∧Az x w h n ρ v (a.eval z):=by
 cases y with
 |none=>exact .inl ⟨rfl,hv⟩
 |some z=>
  have hv':val S g z fun v=>k (some v):=hv;obtain⟨v,h1,h2⟩:=Cc hs hg hv';exact .inr ⟨z,v,rfl,h1,h2⟩
theorem Bj{a b:Nat}{K:Prop}(hk:leN a b K):a≤b∧K:=by
 unfold leN at hk;split at hk
 ·rename_i h;exact⟨Nat.le_of_ble_eq_true h,hk⟩
 ·exact hk.elim
theorem C8{a b:Nat}{K:Prop}(hk:eqN a b K):a=b∧K:=by
 unfold eqN at hk;split at hk
 ·rename_i h;exact⟨Nat.eq_of_beq_eq_true h,hk⟩
 ·exact hk.elim
theorem B9{E:Env}{t:Nat}{K:Ty→Prop}(hk:L5 E t K):∃ty,E.T t=some ty∧K ty:=by
 unfold L5 at hk;cases ht:E.T t with
 |none=>rw[ht]at hk;exact hk.elim
 |some ty=>rw[ht]at hk;exact⟨ty,rfl,hk⟩
theorem Bp.cell0(H:Bp x w h n L U ρ){b o:Nat}(hb:x.R b)(hm:True):w.cell? ⟨b,o,none⟩=x.wr.cell? ⟨b,o,none⟩:=by
 unfold World.cell?;rw[H.fixed b hb]
theorem Zd(H:Bp x w h n L U ρ){g:Nat}{p:Br}{i f s:Nat}{xs:List (List AV)}{d:AV}{u:Value}(hg:hget h g p=some (.own s xs))(hd:As xs i f=some d)
 (hr:Rep x w (fun q=>ρ (some g) (p++(i,f)::q)) d u):Az x w h n ρ (U3 g p i f d) u:=by
 have hget':hget h g (p++[(i,f)])=some d:=by
  obtain⟨r,hl,hr'⟩:=C6 hg;rw[Cn hl,Qh,hr'];simp only[Option.bind_some];rw[Fr,hd];rfl
 cases d with
 |own s' xs'=>
  simp only[U3];cases hr with
  |own0=>exact .view0 hget' (by simp)
  |own V hρ hcap hrow hb hroom hc hr1=>
   rename_i cap b o c;have:=Az.view (x:=x) (w:=w) (n:=n) (off:=0) (cap:=cap) hget' (by simp) hcap hρ hb (by simpa using hroom);simpa using this
 |_=>exact .cell (hr.of_not_own rfl)
theorem Nw(g:Nat)(p:Br)(i:Nat):∀(cs:List AV) (f j:Nat),(Gz g p i f cs)[j]? =(cs[j]?).map (U3 g p i (f+j))
 |[],f,j=>by simp[Gz]
 |c::cs,f,j=>by
  cases j with
  |zero=>simp[Gz]
  |succ j=>
   simp only[Gz,List.getElem?_cons_succ];rw[Nw g p i cs (f+1) j];congr 2;omega
theorem Pj(g:Nat)(p:Br)(i:Nat):∀(cs:List AV) (f:Nat),(Gz g p i f cs).length=cs.length
 |[],f=>rfl
 |c::cs,f=>by simp[Gz,Pj g p i cs]
theorem B8t(H:Bp x w h n L U ρ){t:Nat}{ty:Ty}(ht:Wm P t ty){g:Nat}{p:Br}{i f s b o:Nat}{xs:List (List AV)}{r:List AV}(hg:hget h g p=some (.own s xs))(hr:xs[i]? =some r)
 (hf:f+ty.size≤s)(hρ:ρ (some g) p=some (b,o)):
 ∃u,(Instr.loadAt t (.pointer (some ⟨b,o+(i*s+f),none⟩))).run P w=.ok u w∧
  Az x w h n ρ (match ty.k.agg with|true=>.agg (Gz g p i f ((r.drop f).take ty.size))|false=>U3 g p i f (cell r f)) u:=by
 obtain⟨c,V,hb,hrow,hc⟩:=H.cells hg hρ;have hrl:=hrow r (List.mem_of_getElem? hr);have hcell:∀j,j<ty.size→∃d,r[f+j]? =some d∧As xs i (f+j)=some d∧w.cell? ⟨b,o+(i*s+f)+j,none⟩=some (V i (f+j))∧Rep x w (fun q=>ρ (some g) (p++(i,f+j)::q)) d (V i (f+j)):=by
  intro j hj;obtain⟨d,hd⟩:∃d,r[f+j]? =some d:=⟨r[f+j],List.getElem?_eq_getElem (by omega)⟩
  have hcd:As xs i (f+j)=some d:=by unfold As;rw[hr];exact hd
  refine⟨d,hd,hcd,?_,(hc _ _ _ hcd).2⟩;rw[hb.cell,←(hc _ _ _ hcd).1];congr 1;omega
 cases hagg:ty.k.agg with
 |true=>
  obtain⟨arr,h1,h2,h3⟩:=Xr P w b (o+(i*s+f)) ty.size (fun j=>V i (f+j)) fun j hj=>by
   obtain⟨d,_,_,h4,_⟩:=hcell j hj;exact h4
  refine⟨.agg arr,by simp[Instr.loadAt,Instr.sureAddr,loadVar,ht.isAgg,hagg,ht.sizeOf,h1],.agg ?_ ?_⟩
  ·rw[h2,Pj]
   simp;omega
  ·intro j cj hj
   rw[Nw]at hj;have hjs:j<ty.size:=by
    rcases Nat.lt_or_ge j ty.size with hj'|hj'
    ·exact hj'
    ·rw[List.getElem?_take,if_neg (by omega)]at hj;cases hj
   obtain⟨d,hd,hcd,_,hrep⟩:=hcell j hjs;rw[List.getElem?_take,if_pos hjs,List.getElem?_drop,hd]at hj;simp only[Option.map_some,Option.some.injEq]at hj;subst hj;have:arr.getD j undef=V i (f+j):=by simp[Array.getD_eq_getD_getElem?,h3 j hjs]
   rw[this];exact Zd H hg hcd hrep
 |false=>
  have h1:=ht.one hagg;obtain⟨d,hd,hcd,h4,hrep⟩:=hcell 0 (by omega);simp only[Nat.add_zero]at hd hcd h4 hrep;refine⟨V i f,by simp[Instr.loadAt,Instr.sureAddr,loadVar,ht.isAgg,hagg,h4],?_⟩;have:cell r f=d:=by simp[cell,List.getD_eq_getElem?_getD,hd]
  rw[this];exact Zd H hg hcd hrep
theorem Zm(H:Bp x w h n L U ρ){gd:Option Bool}(hgd:Cy gd){t:Nat}{ty:Ty}(ht:Wm P t ty){a:AV}{ua:Value}{K:AV→Prop}(ha:Az x w h n ρ a ua)(hk:loadAt gd ty h a K):
 ∃v u,K v∧(Instr.loadAt t ua).run P w=.ok u w∧Az x w h n ρ v u:=by
 cases a<;>simp only[loadAt]at hk;case bx g f=>
  obtain⟨s,xs,hg,hk⟩:=Bv hk;match xs,hg,hk with
  |[r],hg,hk=>
   obtain⟨hf,hk⟩:=Bj hk;obtain⟨rt,hl,hrt⟩:=C6 hg;cases ha with
   |cell hr=>cases hr
   |goneb h0=>rw[hl]at h0;cases h0
   |bx hg' hρ=>
    rename_i s' r' b o;simp only[AV.get,Option.some.injEq]at hrt;subst hrt;rw[hl]at hg';simp only[Option.some.injEq,AV.own.injEq,List.cons.injEq,and_true]at hg';obtain⟨rfl,rfl⟩:=hg';obtain⟨u,h1,h2⟩:=B8t (i:=0) H ht hg rfl hf hρ;have e:o+(0*s+f)=o+f:=by simp
    rw[e]at h1;cases hagg:ty.k.agg with
    |true=>rw[hagg]at hk h2;exact⟨_,u,hk,h1,h2⟩
    |false=>rw[hagg]at hk h2;exact⟨_,u,hk,h1,h2⟩
  |[],hg,hk=>exact hk.elim
  |_::_::_,hg,hk=>exact hk.elim
 case ptr g p i f=>
  obtain⟨s,xs,hg,hk⟩:=Bv hk;obtain⟨hf,r,hr,hk⟩:=Bj hk;have hr:=hr hgd;obtain⟨rt,hl,hrt⟩:=C6 hg;cases ha with
  |cell hr=>cases hr
  |gonep h0=>rw[hl]at h0;cases h0
  |ptr hg' hρ=>
   rw[hg]at hg';simp only[Option.some.injEq,AV.own.injEq]at hg';obtain⟨rfl,rfl⟩:=hg';obtain⟨u,h1,h2⟩:=B8t H ht hg hr hf hρ;cases hagg:ty.k.agg with
   |true=>rw[hagg]at hk h2;exact⟨_,u,hk,h1,h2⟩
   |false=>rw[hagg]at hk h2;exact⟨_,u,hk,h1,h2⟩
 case pin cs=>
  obtain⟨hf,hk⟩:=Bj hk;cases ha with
  |cell hr=>cases hr
  |pin V hc=>
   rename_i b o;have hcell:∀j,j<ty.size→∃d,cs[j]? =some d∧w.cell? ⟨b,o+j,none⟩=some (V j)∧Rep x w Ax d (V j):=by
    intro j hj;obtain⟨d,hd⟩:∃d,cs[j]? =some d:=⟨cs[j],List.getElem?_eq_getElem (by omega)⟩
    obtain⟨h1,h2,h3,h4⟩:=hc j d hd;exact⟨d,hd,by rw[H.cell0 h1 h2];exact h3,h4⟩
   cases hagg:ty.k.agg with
   |true=>
    rw[hagg]at hk;obtain⟨arr,h1,h2,h3⟩:=Xr P w b o ty.size V fun j hj=>by
     obtain⟨d,_,h4,_⟩:=hcell j hj;exact h4
    refine⟨_,.agg arr,hk,by simp[Instr.loadAt,Instr.sureAddr,loadVar,ht.isAgg,hagg,ht.sizeOf,h1],.agg (by rw[h2];simp;omega) fun j cj hj=>?_⟩;have hjs:j<ty.size:=by
     rcases Nat.lt_or_ge j ty.size with hj'|hj'
     ·exact hj'
     ·rw[List.getElem?_take,if_neg (by omega)]at hj;cases hj
    obtain⟨d,hd,_,hrep⟩:=hcell j hjs;rw[List.getElem?_take,if_pos hjs,hd]at hj;simp only[Option.some.injEq]at hj;subst hj;have:arr.getD j undef=V j:=by simp[Array.getD_eq_getD_getElem?,h3 j hjs]
    rw[this];exact .cell hrep
   |false=>
    rw[hagg]at hk;have h1:=ht.one hagg;obtain⟨d,hd,h4,hrep⟩:=hcell 0 (by omega);simp only[Nat.add_zero]at h4;have hcd:cell cs 0=d:=by simp[cell,List.getD_eq_getElem?_getD,hd]
    rw[hcd]at hk;exact⟨_,V 0,hk,by simp[Instr.loadAt,Instr.sureAddr,loadVar,ht.isAgg,hagg,h4],.cell hrep⟩
end
section
variable{P:Program}{E:Env}{x:Ctx}{w:World}{h:Ah}{n:Nat→Prop}{L:List AV}{U:Nat→Value}{ρ:Option Nat→Am}
def TOk(P:Program)(E:Env):Prop:=∀t ty,E.T t=some ty→Wm P t ty
theorem Uq(hT:TOk P E){t f:Nat}{K:Nat→Nat→Prop}(hk:O8 E t f K):∃o u,K o u∧P.stoodInHeld t=false∧∃fields:Array Field,P.underlying t=some (.struct fields)∧∃fd,fields[f]? =some fd∧fd.offset=o∧fd.type=u∧
 ∃j,P.info? u=some j∧j.size≠0:=by
 obtain⟨ty,ht,hk⟩:=B9 hk;have hty:=hT t ty ht;have hkind:=hty.kind;cases hkk:ty.k<;>rw[hkk]at hk hkind<;>simp only at hk hkind;case struct fs=>
  cases hf:fs[f]? with
  |none=>rw[hf]at hk;exact hk.elim
  |some ou=>
   obtain⟨o,u⟩:=ou;rw[hf]at hk;obtain⟨h1,_,fields,h2,h3,h4⟩:=hkind;obtain⟨fd,h5,h6,h7,_,h8⟩:=h4 f o u hf;exact⟨o,u,hk,h1,fields,h2,fd,h5,h6,h7,h8⟩
theorem Kt{g:Nat}{p:Br}{K:Prop}(hk:live h g p K):∃s xs,hget h g p=some (.own s xs)∧K:=by
 unfold live at hk;cases hg:hget h g p with
 |none=>rw[hg]at hk;exact hk.elim
 |some c=>
  rw[hg]at hk;cases c<;>first|exact hk.elim|exact⟨_,_,rfl,hk⟩
theorem L3{g:Nat}{p:Br}{c:AV}(hg:hget h g p=some c):A4 h g≠none:=by
 obtain⟨r,hl,_⟩:=C6 hg;rw[hl];simp
theorem B1l(hT:TOk P E){t f:Nat}{a:AV}{ua:Value}{K:AV→Prop}(ha:Az x w h n ρ a ua)(hk:O8 E t f fun off _=>fieldAt h a off K):
 ∃v u,K v∧(Instr.fieldAt t ua f).run P w=.ok u w∧Az x w h n ρ v u:=by
 obtain⟨o,u,hk,_,fields,h2,fd,h5,h6,h7,j,h8,h9⟩:=Uq hT hk;have hplace:∀b q,(fieldPlace ⟨b,q,none⟩ fd).run P w=.ok ⟨b,q+o,none⟩ w:=by
  intro b q;simp only[fieldPlace,Sem.run_bind,h7,Qv P w u j h8,Result.andThen_ok];simp[h9,Je,h6]
 have hrun:∀b q,(Instr.fieldAt t (.pointer (some ⟨b,q,none⟩)) f).run P w=.ok (.pointer (some ⟨b,q+o,none⟩)) w:=by
  intro b q;simp[Instr.fieldAt,Instr.sureAddr,run_underlying P w t _ h2,h5,hplace]
 cases a with
 |bx g f0=>
  obtain⟨s,xs,hg,hk⟩:=Kt hk;cases ha with
  |cell hr=>cases hr
  |goneb h0=>exact absurd h0 (L3 hg)
  |bx hg hρ=>exact⟨_,_,hk,hrun _ _,by rw[Nat.add_assoc];exact .bx hg hρ⟩
 |ptr g p i f0=>
  obtain⟨s,xs,hg,hk⟩:=Kt hk;cases ha with
  |cell hr=>cases hr
  |gonep h0=>exact absurd h0 (L3 hg)
  |ptr hg hρ=>exact⟨_,_,hk,hrun _ _,by rw[Nat.add_assoc,Nat.add_assoc];exact .ptr hg hρ⟩
 |pin cs=>
  cases ha with
  |cell hr=>cases hr
  |pin V hc=>
   refine⟨_,_,hk,hrun _ _,.pin (fun j=>V (o+j)) fun j c hj=>?_⟩;rw[List.getElem?_drop]at hj;rw[Nat.add_assoc];exact hc _ _ hj
 |_=>exact hk.elim
theorem B29(hT:TOk P E){t f:Nat}{a:AV}{ua:Value}{K:AV→Prop}(ha:Az x w h n ρ a ua)(hk:O8 E t f fun off u=>L5 E u fun ty=>Zb ty off a K):
 ∃v u,K v∧(Instr.field t ua f).run P w=.ok u w∧Az x w h n ρ v u:=by
 obtain⟨o,u,hk,_,fields,h2,fd,h5,h6,h7,j,h8,h9⟩:=Uq hT hk;obtain⟨ty,htt,hk⟩:=B9 hk;have hty:=hT u ty htt;cases a with
 |agg cs=>
  obtain⟨hl,hk⟩:=Bj hk;cases ha with
  |cell hr=>cases hr
  |agg hsz hc=>
   rename_i us;cases hagg:ty.k.agg with
   |true=>
    rw[hagg]at hk;refine⟨_,.agg (us.extract o (o+ty.size)),hk,?_,.agg (by simp;omega) fun i c hi=>?_⟩
    ·simp[Instr.field,run_underlying P w t _ h2,h5,asAgg,part,h7,hty.isAgg,hagg,hty.sizeOf,h6]
    ·have hil:i<ty.size:=by
      rcases Nat.lt_or_ge i ty.size with h|h
      ·exact h
      ·rw[List.getElem?_take,if_neg (by omega)]at hi;cases hi
     rw[List.getElem?_take,if_pos hil,List.getElem?_drop]at hi;have:=hc _ _ hi;have e:(us.extract o (o+ty.size)).getD i undef=us.getD (o+i) undef:=by
      simp only[Array.getD_eq_getD_getElem?];rw[Array.getElem?_extract];rw[if_pos (by omega)]
     rw[e];exact this
   |false=>
    rw[hagg]at hk;have h1:=hty.one hagg;obtain⟨d,hd⟩:∃d,cs[o]? =some d:=⟨cs[o],List.getElem?_eq_getElem (by omega)⟩
    have hcd:cell cs o=d:=by simp[cell,List.getD_eq_getElem?_getD,hd]
    rw[hcd]at hk;have hu:us[o]? =some us[o]:=Array.getElem?_eq_getElem (by omega);refine⟨_,us[o],hk,?_,?_⟩
    ·simp[Instr.field,run_underlying P w t _ h2,h5,asAgg,part,h7,hty.isAgg,hagg,h6,hu]
    ·have:=hc o d hd
     simpa[Array.getD_eq_getD_getElem?,hu]using this
 |_=>exact hk.elim
theorem Md(hT:TOk P E){t:Nat}{K:Ty→Prop}(hk:Mr E t K):∃e ty,E.T e=some ty∧Wm P e ty∧P.underlying t=some (.slice e)∧K ty:=by
 obtain⟨ty,ht,hk⟩:=B9 hk;have hty:=hT t ty ht;have hkind:=hty.kind;cases hkk:ty.k<;>rw[hkk]at hk hkind<;>simp only at hk hkind;case slice e=>
  obtain⟨te,hte,hk⟩:=B9 hk;exact⟨e,te,hte,hT e te hte,hkind,hk⟩
theorem B0u(hT:TOk P E)(H:Bp x w h n L U ρ){t:Nat}{g:Option Bool}(hg:Cy g){a i:AV}{ua ui:Value}{K:AV→Prop}(ha:Az x w h n ρ a ua)(hi:Az x w h n ρ i ui)
 (hk:Mr E t fun ty=>indexAt ty h g a i K):∃v u,K v∧(Instr.indexAt t ua ui).run P w=.ok u w∧Az x w h n ρ v u:=by
 obtain⟨e,ty,hte,hty,hu,hk⟩:=Md hT hk;cases i with
 |int k m=>
  cases hi with
  |cell hr=>
   cases hr;cases a with
   |view q p off len=>
    obtain⟨s,xs,hgq,hk⟩:=Bv hk;obtain⟨rfl,hb,hk⟩:=C8 hk;obtain⟨h0,h1⟩:=hb hg;cases ha with
    |cell hr=>cases hr
    |gone h0=>exact absurd h0 (L3 hgq)
    |view0=>omega
    |view hgq' hl hcap hρ hbb hroom=>
     rename_i s' xs' cap b o c;rw[hgq]at hgq';simp only[Option.some.injEq,AV.own.injEq]at hgq';obtain⟨rfl,rfl⟩:=hgq';refine⟨_,.pointer (some ⟨b,o+((off+m.toNat)*ty.size+0),none⟩),hk,?_,.ptr hgq hρ⟩;simp only[Instr.indexAt,asIntOf,Sem.run_bind,Sem.run_pure,Result.andThen_ok,run_underlying P w t _ hu];simp only[Sem.run_ite,h0,h1,and_self,if_true,Sem.run_bind,hty.sizeOf,Result.andThen_ok,Sem.run_pure,Je];congr 4;rw[Nat.add_mul];omega
   |rd s xs=>
    obtain⟨rfl,r,hb,hk⟩:=C8 hk;obtain⟨h0,h1⟩:=hb hg;cases ha with
    |cell hr=>
     cases hr with
     |rd V hcap hrow hc hr=>
      rename_i ad cap;have hlt:m.toNat<xs.length:=by
       rcases Nat.lt_or_ge m.toNat xs.length with h|h
       ·exact h
       ·rw[List.getElem?_eq_none h]at h1;cases h1
      have hlt':m<xs.length:=by omega
      have hcell:∀f c,r[f]? =some c→As xs m.toNat f=some c:=fun f c hf=>by unfold As;rw[h1];exact hf
      have hrl:=hrow r (List.mem_of_getElem? h1);have hpos:=hty.pos;obtain⟨c0,hc0⟩:∃c,r[0]? =some c:=⟨r[0],List.getElem?_eq_getElem (by omega)⟩
      obtain⟨b,o,rfl,hb1,hb2,_⟩:=hc _ _ _ (hcell 0 c0 hc0);refine⟨_,.pointer (some ⟨b,o+m.toNat*ty.size,none⟩),hk,?_,.pin (fun f=>V m.toNat f) fun f c hf=>?_⟩
      ·simp only[Instr.indexAt,asIntOf,Sem.run_bind,Sem.run_pure,Result.andThen_ok,run_underlying P w t _ hu]
       simp only[Sem.run_ite,h0,hlt',and_self,if_true,Sem.run_bind,hty.sizeOf,Result.andThen_ok,Sem.run_pure,Je]
      ·obtain⟨b',o',e1,h3,h4,h5⟩:=hc _ _ _ (hcell f c hf)
       simp only[Option.some.injEq,Addr.mk.injEq,and_true]at e1;obtain⟨rfl,rfl⟩:=e1;exact⟨h3,h4,by rw[Nat.add_assoc];exact h5,(hr _ _ _ (hcell f c hf)).frame_nowhere⟩
   |_=>exact hk.elim
 |_=>cases a<;>exact hk.elim
end
section
variable{P:Program}{E:Env}{x:Ctx}{w:World}{h:Ah}{n:Nat→Prop}{L:List AV}{U:Nat→Value}{ρ:Option Nat→Am}
theorem Gs{k:IntKind}{a:Int}{u:Value}(hs:Az x w h n ρ (.int k a) u):u=.int k a:=by
 cases hs with|cell hr=>cases hr;rfl
theorem K1{b:Bool}{u:Value}(hs:Az x w h n ρ (.bool b) u):u=.bool b:=by
 cases hs with|cell hr=>cases hr;rfl
theorem Hm{s:List UInt8}{u:Value}(hs:Az x w h n ρ (.str s) u):u=Dn s:=by
 cases hs with|cell hr=>cases hr;rfl
theorem Oj(op:BinOp)(t:TypeId)(xo yo:Operand)(a b:Value)(hn:∀h:a=.nilIface,b≠.nilIface)(hg:∀cs,a=.agg cs→∀ds,b≠.agg ds):(eqGuard op t xo yo a b).run P w=.ok () w:=by
 unfold eqGuard;cases op<;>try(simp;done)
 all_goals
  simp only[Bool.not_true,Bool.false_eq_true,if_false];cases a<;>cases b<;>first
   |rfl
   |exact absurd rfl (hn rfl)
   |exact absurd rfl (hg _ rfl _)
theorem B7m{op:BinOp}{k:IntKind}{a b:Int}{t:TypeId}{K:AV→Prop}(hsh:A4h op=false)(hk:B2n op k a b K):
 ∃v u,K v∧(Go.binOp op t (.int k a) (.int k b)).run P w=.ok u w∧Rep x w Ax v u:=by
 cases op<;>simp only[B2n]at hk<;>try exact hk.elim
 case add=>exact⟨_,_,Hx hk,by simp[Go.binOp,Op.intArith],.int⟩
 case sub=>exact⟨_,_,Hx hk,by simp[Go.binOp,Op.intArith],.int⟩
 case mul=>exact⟨_,_,Hx hk,by simp[Go.binOp,Op.intArith],.int⟩
 case quo=>exact⟨_,_,Hx hk.2,by simp[Go.binOp,Op.intDiv,hk.1],.int⟩
 case rem=>exact⟨_,_,Hx hk.2,by simp[Go.binOp,Op.intDiv,hk.1],.int⟩
 case and=>exact⟨_,_,Hx hk,by simp[Go.binOp,Op.intBits],.int⟩
 case or=>exact⟨_,_,Hx hk,by simp[Go.binOp,Op.intBits],.int⟩
 case xor=>exact⟨_,_,Hx hk,by simp[Go.binOp,Op.intBits],.int⟩
 case eql=>exact⟨_,_,hk,by simp[Go.binOp,Op.intCmp],.bool⟩
 case neq=>exact⟨_,_,hk,by simp[Go.binOp,Op.intCmp],.bool⟩
 case lss=>exact⟨_,_,hk,by simp[Go.binOp,Op.intCmp],.bool⟩
 case leq=>exact⟨_,_,hk,by simp[Go.binOp,Op.intCmp],.bool⟩
 case gtr=>exact⟨_,_,hk,by simp[Go.binOp,Op.intCmp],.bool⟩
 case geq=>exact⟨_,_,hk,by simp[Go.binOp,Op.intCmp],.bool⟩
theorem A9g{op:BinOp}{k k':IntKind}{a b:Int}{t:TypeId}{K:AV→Prop}(hk:X8 op k a b K):
 ∃v u,K v∧(Go.binOp op t (.int k a) (.int k' b)).run P w=.ok u w∧Rep x w Ax v u:=by
 cases op<;>simp only[X8]at hk<;>try exact hk.elim
 case shl=>exact⟨_,_,Hx hk.2,by simp[Go.binOp,Op.shift,Int.not_lt.2 hk.1],.int⟩
 case shr=>exact⟨_,_,Hx hk.2,by simp[Go.binOp,Op.shift,Int.not_lt.2 hk.1],.int⟩
theorem Mt(a:List UInt8):(ByteArray.mk ⟨a⟩).toList=a:=by
 rw[ByteArray.toList_eq]
theorem Mv:∀(a b:List UInt8),Op.bytesLess a b=Ce a b
 |a,[]=>by cases a<;>rfl
 |[],b::bs=>rfl
 |a::as,b::bs=>by simp only[Op.bytesLess,Ce,Mv as bs]
theorem B8p{op:BinOp}{a b:List UInt8}{t:TypeId}{K:AV→Prop}(hk:B2x op a b K):
 ∃v u,K v∧(Go.binOp op t (Dn a) (Dn b)).run P w=.ok u w∧Rep x w Ax v u:=by
 cases op<;>simp only[B2x]at hk<;>try exact hk.elim
 case add=>
  refine⟨_,_,hk.2,?_,.str⟩;have hsz:((ByteArray.mk ⟨a⟩).size+(ByteArray.mk ⟨b⟩).size:Nat)=a.length+b.length:=rfl;have hle:¬(((a.length+b.length:Nat):Int)>IntKind.i64.max):=by
   have:IntKind.i64.max=9223372036854775807:=by decide
   rw[this];omega
  simp only[Go.binOp,Dn,Op.stringOp];rw[hsz,if_neg hle];have:(ByteArray.mk ⟨a⟩:ByteArray)++ByteArray.mk ⟨b⟩=ByteArray.mk ⟨a++b⟩:=by
   apply ByteArray.ext;simp
  rw[this];rfl
 case eql=>exact⟨_,_,hk,by simp[Go.binOp,Dn,Op.stringOp,Mt],.bool⟩
 case neq=>exact⟨_,_,hk,by simp[Go.binOp,Dn,Op.stringOp,Mt],.bool⟩
 case lss=>exact⟨_,_,hk,by simp[Go.binOp,Dn,Op.stringOp,Mt,Mv],.bool⟩
 case leq=>exact⟨_,_,hk,by simp[Go.binOp,Dn,Op.stringOp,Mt,Mv],.bool⟩
 case gtr=>exact⟨_,_,hk,by simp[Go.binOp,Dn,Op.stringOp,Mt,Mv],.bool⟩
 case geq=>exact⟨_,_,hk,by simp[Go.binOp,Dn,Op.stringOp,Mt,Mv],.bool⟩
end
section
variable{P:Program}{E:Env}{x:Ctx}{w:World}{h:Ah}{n:Nat→Prop}{L:List AV}{U:Nat→Value}{ρ:Option Nat→Am}
theorem C1k{d t:Nat}{ty:Ty}(ht:Wm P t ty){a b:AV}{ua ub:Value}{K:Bool→Prop}(ha:Az x w h n ρ a ua)(hb:Az x w h n ρ b ub)(hk:C1h ty.k a b K):
 ∃r,K r∧(Op.equalIn (d+1) t ua ub).run P w=.ok r w∧P.underlying t≠none∧ty.k.agg=false:=by
 have hkind:=ht.kind;cases hkk:ty.k<;>rw[hkk]at hk hkind<;>simp only[C1h]at hk hkind;case int k0=>
  cases a<;>cases b<;>simp only at hk;rename_i k m k' m';obtain rfl:=Gs ha;obtain rfl:=Gs hb;by_cases hkk:k=k'
  ·subst hkk
   simp only[decide_true]at hk;exact⟨_,hk,run_equalIn_int w d t _ _ _ _ hkind,by simp[hkind],rfl⟩
  ·simp only[hkk,decide_false]at hk
 case str=>
  cases a<;>cases b<;>simp only at hk;obtain rfl:=Hm ha;obtain rfl:=Hm hb;rename_i s1 s2;refine⟨_,hk,?_,by simp[hkind],rfl⟩;have:=run_equalIn_string (P:=P) w d t (ByteArray.mk ⟨s1⟩) (ByteArray.mk ⟨s2⟩) hkind;rw[Mt,Mt]at this;exact this
 case bool=>
  cases a<;>cases b<;>simp only at hk;obtain rfl:=K1 ha;obtain rfl:=K1 hb;exact⟨_,hk,run_equalIn_bool' w d t _ _ hkind,by simp[hkind],rfl⟩
theorem V5(hT:TOk P E){d:Nat}{us vs:Array Value}:∀{fs:List (Nat×Nat)} {flds:List Field} {k:Nat} {as bs:List AV} {K:Bool→Prop},flds.length=fs.length→
 (∀(i:Nat) o u,fs[i]? =some (o,u)→∃f,flds[i]? =some f∧f.offset=o∧f.type=u∧f.name≠ "_")→
 (∀(i:Nat) c,as[i]? =some c→k+i<us.size∧Az x w h n ρ c (us.getD (k+i) undef))→(∀(i:Nat) c,bs[i]? =some c→k+i<vs.size∧Az x w h n ρ c (vs.getD (k+i) undef))→
 Jf E k fs as bs K→∃r,K r∧(Op.eqFields (d+1) us vs flds).run P w=.ok r w
 |[],flds,k,as,bs,K,hl,hf,ha,hb,hk=>by
  have:flds=[]:=List.eq_nil_of_length_eq_zero (by simpa using hl);subst this;cases as<;>cases bs<;>simp only[Jf]at hk;exact⟨_,hk,by simp[Op.eqFields]⟩
 |(o,u)::fs,flds,k,as,bs,K,hl,hf,ha,hb,hk=>by
  obtain⟨fd,flds,rfl⟩:∃a r,flds=a::r:=by cases flds with|nil=>simp at hl|cons a r=>exact⟨a,r,rfl⟩
  cases as with
  |nil=>simp only[Jf]at hk
  |cons a as=>
   cases bs with
   |nil=>simp only[Jf]at hk
   |cons b bs=>
    simp only[Jf]at hk;obtain⟨rfl,hk⟩:=C8 hk;obtain⟨ty,htt,hk⟩:=B9 hk;have hty:=hT u ty htt;obtain⟨f',hf1,hf2,hf3,hf4⟩:=hf 0 o u rfl;simp only[List.getElem?_cons_zero,Option.some.injEq]at hf1;subst hf1;obtain⟨ha1,ha2⟩:=ha 0 a rfl;obtain⟨hb1,hb2⟩:=hb 0 b rfl;simp only[Nat.add_zero]at ha1 ha2 hb1 hb2;obtain⟨r1,hk,hrun,_,hagg⟩:=C1k (d:=d) hty ha2 hb2 hk;obtain⟨r2,hk,hrun2⟩:=V5 hT (d:=d) (us:=us) (vs:=vs) (by simpa using hl) (fun i o' u' hi=>hf (i+1) o' u' (by simpa using hi))
     (fun i c hi=>by have:=ha (i+1) c (by simpa using hi);rw[show o+1+i=o+(i+1)from by omega];exact this)
     (fun i c hi=>by have:=hb (i+1) c (by simpa using hi);rw[show o+1+i=o+(i+1)from by omega];exact this) hk
    refine⟨_,hk,?_⟩;have hpa:(part fd.type us fd.offset).run P w=.ok (us.getD o undef) w:=by
     simp[part,hf3,hty.isAgg,hagg,hf2,Array.getD_eq_getD_getElem?,Array.getElem?_eq_getElem ha1]
    have hpb:(part fd.type vs fd.offset).run P w=.ok (vs.getD o undef) w:=by
     simp[part,hf3,hty.isAgg,hagg,hf2,Array.getD_eq_getD_getElem?,Array.getElem?_eq_getElem hb1]
    rw[hf3]at hpa hpb;simp only[Op.eqFields,hf4,ne_eq,not_false_eq_true,if_true,Sem.run_bind,hpa,hpb,Result.andThen_ok,hf3,hrun];cases r1 with
    |true=>simpa using hrun2
    |false=>simp
theorem B94(d:Nat){a:AV}{ua:Value}{t e:Nat}{K:Bool→Prop}(hu:P.underlying t=some (.slice e))(ha:Az x w h n ρ a ua)(hk:A5p h a K):
 ∃r,K r∧(Op.equalIn (d+1) t ua (.slice none 0 0)).run P w=.ok r w∧(∀cs,ua≠.agg cs)∧ua≠.nilIface:=by
 cases a with
 |nils=>
  cases ha with
  |cell hr=>cases hr
  |nils=>exact⟨_,hk,by simp[Op.equalIn,run_underlying P w t _ hu],by simp,by simp⟩
 |view g p off len=>
  simp only[A5p]at hk;have:∃s xs,hget h g p=some (.own s xs)∧0<len∧K false:=by
   cases hg:hget h g p with
   |none=>rw[hg]at hk;exact hk.elim
   |some c=>
    rw[hg]at hk;cases c<;>first|exact hk.elim|exact⟨_,_,rfl,hk⟩
  obtain⟨s,xs,hg,hpos,hk⟩:=this;cases ha with
  |cell hr=>cases hr
  |gone h0=>exact absurd h0 (L3 hg)
  |view0=>omega
  |view=>exact⟨_,hk,by simp[Op.equalIn,run_underlying P w t _ hu],by simp,by simp⟩
 |rd s xs=>
  obtain⟨hpos,hk⟩:=hk;cases ha with
  |cell hr=>
   cases hr with
   |rd V hcap hrow hc hr=>
    rename_i ad cap;obtain⟨c0,r0,hr'⟩:=hpos;cases ad with
    |none=>
     obtain⟨b,o,e1,_⟩:=hc 0 0 c0 (by unfold As;rw[hr'];rfl);cases e1
    |some q=>exact⟨_,hk,by simp[Op.equalIn,run_underlying P w t _ hu],by simp,by simp⟩
 |_=>exact hk.elim
theorem A84(hT:TOk P E){t:Nat}{a b:AV}{ua ub:Value}{xo yo:Operand}{K:Bool→Prop}(ha:Az x w h n ρ a ua)(hb:Az x w h n ρ b ub)(hk:B58 E t h (Q5 yo) a b K):
 ∃r,K r∧(do eqGuard .eql t xo yo ua ub;Go.binOp .eql t ua ub).run P w=.ok (.bool r) w∧(do eqGuard .neq t xo yo ua ub;Go.binOp .neq t ua ub).run P w=.ok (.bool (!r)) w:=by
 obtain⟨ty,htt,hk⟩:=B9 hk;have hty:=hT t ty htt;have hkind:=hty.kind;have fin:∀{r:Bool},(Op.equalIn (9999+1) t ua ub).run P w=.ok r w→(∀op,op=.eql∨op=.neq→(eqGuard op t xo yo ua ub).run P w=.ok () w)→
  (∀op,op=.eql→(Go.binOp op t ua ub).run P w=.ok (.bool r) w)→(∀op,op=.neq→(Go.binOp op t ua ub).run P w=.ok (.bool (!r)) w)→
  (do eqGuard .eql t xo yo ua ub;Go.binOp .eql t ua ub).run P w=.ok (.bool r) w∧(do eqGuard .neq t xo yo ua ub;Go.binOp .neq t ua ub).run P w=.ok (.bool (!r)) w:=by
  intro r _ h2 h3 h4;constructor
  ·simp only[Sem.run_bind,h2 .eql (.inl rfl),Result.andThen_ok,h3 .eql rfl]
  ·simp only[Sem.run_bind,h2 .neq (.inr rfl),Result.andThen_ok,h4 .neq rfl]
 cases hkk:ty.k<;>rw[hkk]at hk hkind<;>simp only at hk hkind;case bool=>
  cases a<;>cases b<;>simp only at hk;obtain rfl:=K1 ha;obtain rfl:=K1 hb;refine⟨_,hk,fin (run_equalIn_bool' w _ t _ _ hkind) (fun op _=>Oj op t xo yo _ _ (by simp) (by simp)) ?_ ?_⟩
  ·rintro op rfl
   simp only[Go.binOp,Sem.run_bind,Op.equal];rw[show Op.maxDepth=9999+1 from rfl,run_equalIn_bool' w _ t _ _ hkind];rfl
  ·rintro op rfl
   simp only[Go.binOp,Sem.run_bind,Op.equal];rw[show Op.maxDepth=9999+1 from rfl,run_equalIn_bool' w _ t _ _ hkind];rfl
 case struct fs=>
  cases a<;>try exact hk.elim
  cases b<;>try exact hk.elim
  cases ha with
  |cell hr=>cases hr
  |agg hl1 hc1=>
   cases hb with
   |cell hr=>cases hr
   |agg hl2 hc2=>
    rename_i cs1 cs2 _ us vs;obtain⟨h1,h2,fields,h3,h4,h5⟩:=hkind;have hfo:P.fieldsOf t=fields:=by simp[Program.fieldsOf,h3]
    obtain⟨r,hk,hrun⟩:=V5 hT (d:=9998) (us:=us) (vs:=vs) (k:=0) (flds:=fields.toList) (by simpa using h4)
     (fun i o u hi=>by
       obtain⟨f,e1,e2,e3,e4,_⟩:=h5 i o u hi;exact⟨f,by simpa using e1,e2,e3,e4⟩)
     (fun i c hi=>by
       have hlt:i<cs1.length:=by
        rcases Nat.lt_or_ge i cs1.length with h|h
        ·exact h
        ·rw[List.getElem?_eq_none h]at hi;cases hi
       exact⟨by omega,by simpa using hc1 i c hi⟩)
     (fun i c hi=>by
       have hlt:i<cs2.length:=by
        rcases Nat.lt_or_ge i cs2.length with h|h
        ·exact h
        ·rw[List.getElem?_eq_none h]at hi;cases hi
       exact⟨by omega,by simpa using hc2 i c hi⟩) hk
    have heq:(Op.equalIn (9999+1) t (.agg us) (.agg vs)).run P w=.ok r w:=by
     rw[run_equalIn_struct w 9999 t us vs (by rw[hfo];exact h3) h1,hfo];exact hrun
    refine⟨r,hk,fin heq (fun op _=>run_eqGuard_agg w op t xo yo us vs h2) ?_ ?_⟩
    ·rintro op rfl
     rw[run_eql_struct,show(10000:Nat)=9999+1 from rfl,heq];rfl
    ·rintro op rfl
     rw[run_neq_struct,show(10000:Nat)=9999+1 from rfl,heq];rfl
 case slice e=>
  cases b<;>try exact hk.elim
  cases hb with
  |cell hr=>cases hr
  |nils=>
   obtain⟨r,hk,hrun,h1,h2⟩:=B94 9999 hkind ha hk;have hb1:∀op,op=.eql→(Go.binOp op t ua (.slice none 0 0)).run P w=.ok (.bool r) w:=by
    rintro op rfl;have:Go.binOp .eql t ua (.slice none 0 0)=(do pure (.bool (←Op.equal t ua (.slice none 0 0)))):=by cases ua<;>rfl
    rw[this];simp only[Sem.run_bind,Op.equal];rw[show Op.maxDepth=9999+1 from rfl,hrun];rfl
   have hb2:∀op,op=.neq→(Go.binOp op t ua (.slice none 0 0)).run P w=.ok (.bool (!r)) w:=by
    rintro op rfl;have:Go.binOp .neq t ua (.slice none 0 0)=(do pure (.bool (!(←Op.equal t ua (.slice none 0 0))))):=by cases ua<;>rfl
    rw[this];simp only[Sem.run_bind,Op.equal];rw[show Op.maxDepth=9999+1 from rfl,hrun];rfl
   exact⟨r,hk,fin hrun (fun op _=>Oj op t xo yo _ _ (by simp) (fun cs h=>absurd h (h1 cs))) hb1 hb2⟩
 case iface=>
  obtain⟨ms,hkind⟩:=hkind;cases a<;>try exact hk.elim
  ·cases b<;>try exact hk.elim
   cases ha with
   |cell hr=>
    cases hr;cases hb with
    |cell hr2=>
     cases hr2;simp only at hk;cases hc:Q5 yo with
     |false=>rw[hc]at hk;exact hk.elim
     |true=>
      rw[hc]at hk;have hy:(match yo with|.const _=>true|_=>false)=true:=by cases yo<;>simp_all[Q5]
      have heq:(Op.equalIn (9999+1) t .nilIface .nilIface).run P w=.ok true w:=by
       unfold Op.equalIn;simp[run_underlying P w t _ hkind]
      refine⟨_,hk,fin heq ?_ ?_ ?_⟩
      ·rintro op (rfl|rfl)<;>(unfold eqGuard;cases yo<;>simp_all)
      ·rintro op rfl
       simp only[Go.binOp,Sem.run_bind,Op.equal];rw[show Op.maxDepth=9999+1 from rfl,heq];rfl
      ·rintro op rfl
       simp only[Go.binOp,Sem.run_bind,Op.equal];rw[show Op.maxDepth=9999+1 from rfl,heq];rfl
  ·cases b<;>try exact hk.elim
   cases ha with
   |cell hr=>cases hr
   |someI=>
    cases hb with
    |cell hr2=>
     cases hr2;rename_i tt z;have heq:(Op.equalIn (9999+1) t (.iface tt z) .nilIface).run P w=.ok false w:=by
      unfold Op.equalIn;simp[run_underlying P w t _ hkind]
     refine⟨_,hk,fin heq (fun op _=>Oj op t xo yo _ _ (by simp) (by simp)) ?_ ?_⟩
     ·rintro op rfl
      simp only[Go.binOp,Sem.run_bind,Op.equal];rw[show Op.maxDepth=9999+1 from rfl,heq];rfl
     ·rintro op rfl
      simp only[Go.binOp,Sem.run_bind,Op.equal];rw[show Op.maxDepth=9999+1 from rfl,heq];rfl
theorem B8a(hT:TOk P E){t:Nat}{op:BinOp}{a b:AV}{ua ub:Value}{xo yo:Operand}{K:AV→Prop}(ha:Az x w h n ρ a ua)(hb:Az x w h n ρ b ub)(hk:binOp E t h (Q5 yo) op a b K):
 ∃v u,K v∧(do eqGuard op t xo yo ua ub;Go.binOp op t ua ub).run P w=.ok u w∧Az x w h n ρ v u:=by
 have plain:∀{v u},K v→(∀h:ua=.nilIface,ub≠.nilIface)→(∀cs,ua=.agg cs→∀ds,ub≠.agg ds)→(Go.binOp op t ua ub).run P w=.ok u w→Rep x w Ax v u→
  ∃v u,K v∧(do eqGuard op t xo yo ua ub;Go.binOp op t ua ub).run P w=.ok u w∧Az x w h n ρ v u:=by
  intro v u h1 h2 h3 h4 h5;exact⟨v,u,h1,by simp only[Sem.run_bind,Oj op t xo yo ua ub h2 h3,Result.andThen_ok,h4],.cell h5⟩
 have rest:(match op with
  |.eql=>B58 E t h (Q5 yo) a b fun b=>K (.bool b)
  |.neq=>B58 E t h (Q5 yo) a b fun b=>K (.bool (!b))
  |_=>False)→∃v u,K v∧(do eqGuard op t xo yo ua ub;Go.binOp op t ua ub).run P w=.ok u w∧Az x w h n ρ v u:=by
  intro hk;cases op<;>simp only at hk
  ·obtain⟨r,h1,h2,h3⟩:=A84 (xo:=xo) hT ha hb hk
   exact⟨_,_,h1,h2,.cell .bool⟩
  ·obtain⟨r,h1,h2,h3⟩:=A84 (xo:=xo) hT ha hb hk
   exact⟨_,_,h1,h3,.cell .bool⟩
 by_cases hint:(∃k m,a=.int k m)∧∃k m,b=.int k m
 ·obtain⟨⟨k,m,rfl⟩,k',m',rfl⟩:=hint
  obtain rfl:=Gs ha;obtain rfl:=Gs hb;simp only[binOp]at hk;cases hsh:A4h op with
  |true=>
   rw[hsh]at hk;obtain⟨v,u,h1,h2,h3⟩:=A9g (x:=x) (w:=w) (P:=P) (t:=t) (k':=k') hk;exact plain h1 (by simp) (by simp) h2 h3
  |false=>
   rw[hsh]at hk;by_cases hkk:k=k'
   ·subst hkk
    simp only[decide_true]at hk;obtain⟨v,u,h1,h2,h3⟩:=B7m (x:=x) (w:=w) (P:=P) (t:=t) hsh hk;exact plain h1 (by simp) (by simp) h2 h3
   ·simp only[hkk,decide_false]at hk
 ·by_cases hstr:(∃s,a=.str s)∧∃s,b=.str s
  ·obtain⟨⟨s,rfl⟩,s',rfl⟩:=hstr
   obtain rfl:=Hm ha;obtain rfl:=Hm hb;obtain⟨v,u,h1,h2,h3⟩:=B8p (x:=x) (w:=w) (P:=P) (t:=t) hk;exact plain h1 (by simp[Dn]) (by simp[Dn]) h2 h3
  ·refine rest ?_
   cases a<;>cases b<;>first
    |exact hk
    |exact absurd ⟨⟨_,_,rfl⟩,_,_,rfl⟩ hint
    |exact absurd ⟨⟨_,rfl⟩,_,rfl⟩ hstr
end
section
variable{P:Program}{E:Env}{x:Ctx}{w:World}{h:Ah}{n:Nat→Prop}{L:List AV}{U:Nat→Value}{ρ:Option Nat→Am}
theorem C0g{op:UnOp}{a:AV}{ua:Value}{K:AV→Prop}(ha:Az x w h n ρ a ua)(hk:unOp op a K):∃v u,K v∧(Op.unary op ua).run P w=.ok u w∧Az x w h n ρ v u:=by
 cases op<;>cases a<;>simp only[unOp]at hk<;>try exact hk.elim
 ·obtain rfl:=Gs ha
  exact⟨_,_,Hx hk,by simp[Op.unary,Op.intArith],.cell .int⟩
 ·obtain rfl:=K1 ha
  exact⟨_,_,hk,by simp[Op.unary],.cell .bool⟩
theorem A2v{a:AV}{ua:Value}{K:Nat→Prop}(ha:Az x w h n ρ a ua)(hk:lenOf h a K):∃m,K m∧((∃ad cap,ua=.slice ad m cap∧m≤cap)∨∃s:List UInt8,a=.str s∧ua=Dn s∧s.length=m):=by
 cases a with
 |view g p off len=>
  obtain⟨s,xs,hg,hk⟩:=Kt hk;cases ha with
  |cell hr=>cases hr
  |gone h0=>exact absurd h0 (L3 hg)
  |view0=>exact⟨_,hk,.inl ⟨_,_,rfl,Nat.le_refl _⟩⟩
  |view hg' hl hcap=>exact⟨_,hk,.inl ⟨_,_,rfl,hcap⟩⟩
 |rd s xs=>
  cases ha with
  |cell hr=>
   cases hr with
   |rd V hcap=>exact⟨_,hk,.inl ⟨_,_,rfl,hcap⟩⟩
 |str s=>
  obtain rfl:=Hm ha;exact⟨_,hk,.inr ⟨_,rfl,rfl,rfl⟩⟩
 |nils=>
  cases ha with
  |cell hr=>cases hr
  |nils=>exact⟨_,hk,.inl ⟨_,_,rfl,Nat.le_refl _⟩⟩
 |emp=>
  cases ha with
  |cell hr=>cases hr
  |emp=>exact⟨_,hk,.inl ⟨_,_,rfl,Nat.le_refl _⟩⟩
 |_=>exact hk.elim
theorem A2r{lo:Option AV}{ulo:Option Value}{d:Nat}{K:Int→Prop}(hl:(lo=none∧ulo=none)∨∃v u,lo=some v∧ulo=some u∧Az x w h n ρ v u)(hk:A2s lo d K):
 (ulo=none∧K d)∨∃k m,ulo=some (.int k m)∧K m:=by
 rcases hl with⟨rfl,rfl⟩|⟨v,u,rfl,rfl,hs⟩
 ·exact .inl ⟨rfl,hk⟩
 ·cases v<;>simp only[A2s]at hk
  obtain rfl:=Gs hs;exact .inr ⟨_,_,rfl,hk⟩
theorem Jz{k:IntKind}{i:Int}{y:Nat}{code:BoundsCode}(h0:0≤i)(h1:i≤y):(Instr.sliceBound (.int k i) y code).run P w=.ok i.toNat w:=by
 simp[Instr.sliceBound,asIntOf,h0,h1]
theorem Ui{isS:Bool}{len cap:Nat}{lo hi:Option Value}{l u:Int}(hlo:(lo=none∧l=0)∨∃k,lo=some (.int k l))(hhi:(hi=none∧u=len)∨∃k,hi=some (.int k u))
 (h0:0≤l)(h1:l≤u)(h2:u≤len)(hc:len≤cap):(Instr.sliceBounds isS len cap lo hi none).run P w=.ok (l.toNat,u.toNat,cap) w:=by
 have a1:∀k code,(Instr.sliceBound (.int k u) cap code).run P w=.ok u.toNat w:=fun k code=>Jz (by omega) (by omega);have a2:∀k code,(Instr.sliceBound (.int k l) u.toNat code).run P w=.ok l.toNat w:=fun k code=>Jz h0 (by omega);unfold Instr.sliceBounds;rcases hhi with⟨rfl,rfl⟩|⟨k,rfl⟩<;>rcases hlo with⟨rfl,rfl⟩|⟨k',rfl⟩
 ·simp
 ·have a3:∀code,(Instr.sliceBound (.int k' l) len code).run P w=.ok l.toNat w:=fun code=>Jz h0 (by omega)
  simp[a3]
 ·cases isS<;>simp[a1]
 ·cases isS<;>simp[a1,a2]
theorem X4(s:List UInt8):(ByteArray.mk ⟨s⟩).size=s.length:=rfl
theorem A52(s:List UInt8)(l u:Nat):(ByteArray.mk ⟨s⟩).extract l u=ByteArray.mk ⟨(s.drop l).take (u - l)⟩:=by
 apply ByteArray.ext;simp[ByteArray.data_extract]
theorem T5{len cap:Nat}{lo hi:Option Value}{l u m:Int}{km:IntKind}(hlo:(lo=none∧l=0)∨∃k,lo=some (.int k l))(hhi:∃k,hi=some (.int k u))
 (h0:0≤l)(h1:l≤u)(h2:u≤m)(hc:m≤cap):(Instr.sliceBounds true len cap lo hi (some (.int km m))).run P w=.ok (l.toNat,u.toNat,m.toNat) w:=by
 obtain⟨k,rfl⟩:=hhi;have a0:∀code,(Instr.sliceBound (.int km m) cap code).run P w=.ok m.toNat w:=fun code=>Jz (by omega) (by omega);have a1:∀code,(Instr.sliceBound (.int k u) m.toNat code).run P w=.ok u.toNat w:=fun code=>Jz (by omega) (by omega);have a2:∀k code,(Instr.sliceBound (.int k l) u.toNat code).run P w=.ok l.toNat w:=fun k code=>Jz h0 (by omega);unfold Instr.sliceBounds;rcases hlo with⟨rfl,rfl⟩|⟨k',rfl⟩
 ·simp[a0,a1]
 ·simp[a0,a1,a2]
theorem B3t{a:AV}{ad:Option Addr}{len cap l u m:Nat}{s:Nat}(ha:Az x w h n ρ a (.slice ad len cap))(h1:l≤u)(h2:u≤len)(h3:u≤m)(h4:m≤cap):
 (∀g p off s xs,a=.view g p off len→hget h g p=some (.own s xs)→Az x w h n ρ (.view g p (off+l) (u - l)) (.slice (if m=l then ad else ad.map (·.add (l*s))) (u - l) (m - l)))∧
 (∀s xs,a=.rd s xs→Az x w h n ρ (.rd s ((xs.drop l).take (u - l))) (.slice (if m=l then ad else ad.map (·.add (l*s))) (u - l) (m - l))):=by
 constructor
 ·rintro g p off s xs rfl hg
  cases ha with
  |cell hr=>cases hr
  |gone h0=>exact absurd h0 (L3 hg)
  |view0 hg' hl'=>
   have e1:u - l=0:=by omega
   have e2:m - l=0:=by omega
   have e3:l=0:=by omega
   rw[e1,e2,e3];exact .view0 hg' hl'
  |view hg' hl' hcap hρ hb hroom=>
   rename_i s' xs' b o c;rw[hg]at hg';simp only[Option.some.injEq,AV.own.injEq]at hg';obtain⟨rfl,rfl⟩:=hg';by_cases hm:m=l
   ·subst hm
    have e1:u - m=0:=by omega
    rw[e1,Nat.sub_self];exact .view0 hg (by omega)
   ·rw[if_neg hm]
    have e:(Option.map (fun y:Addr=>y.add (l*s)) (some ⟨b,o+off*s,none⟩))=some ⟨b,o+(off+l)*s,none⟩:=by
     simp only[Option.map_some,Je];rw[Nat.add_mul,Nat.add_assoc]
    rw[e];refine .view hg (by omega) (by omega) hρ hb (Nat.le_trans ?_ hroom);refine Nat.add_le_add_left (Nat.mul_le_mul_right s ?_) o;omega
 ·rintro s xs rfl
  cases ha with
  |cell hr=>
   cases hr with
   |rd V hcap hrow hc hr=>
    refine .cell ?_;have hlen:((xs.drop l).take (u - l)).length=u - l:=by simp;omega
    have:=Rep.rd (x:=x) (w:=w) (ρ:=Ax) (a:=if m=l then ad else ad.map (·.add (l*s))) (cap:=m - l) (s:=s) (xs:=(xs.drop l).take (u - l)) (fun i f=>V (l+i) f) (by rw[hlen];omega)
     (fun r hr'=>hrow r (List.mem_of_mem_drop (List.mem_of_mem_take hr'))) ?_ ?_
    ·rw[hlen]at this
     exact this
    ·intro i f c hc'
     by_cases hi:i<u - l
     ·rw[La hi]at hc'
      obtain⟨b,o,rfl,h5,h6,h7⟩:=hc _ _ _ hc';rw[if_neg (by omega)];refine⟨b,o+l*s,by simp only[Option.map_some,Je],h5,h6,?_⟩;rw[←h7,Nat.add_mul];congr 2;omega
     ·rw[Mk hi]at hc';cases hc'
    ·intro i f c hc'
     by_cases hi:i<u - l
     ·rw[La hi]at hc'
      exact hr _ _ _ hc'
     ·rw[Mk hi]at hc';cases hc'
theorem B1v(hT:TOk P E){gd:Option Bool}(hgd:Cy gd){t:Nat}{a:AV}{ua:Value}{lo hi mx:Option AV}{ulo uhi umx:Option Value}{K:AV→Prop}(ha:Az x w h n ρ a ua)
 (hlo:(lo=none∧ulo=none)∨∃v u,lo=some v∧ulo=some u∧Az x w h n ρ v u)(hhi:(hi=none∧uhi=none)∨∃v u,hi=some v∧uhi=some u∧Az x w h n ρ v u)
 (hmx:(mx=none∧umx=none)∨∃v u,mx=some v∧umx=some u∧Az x w h n ρ v u)(hk:sliceAt E gd t h a lo hi mx K):
 ∃v u,K v∧(Instr.sliceAt t ua ulo uhi umx).run P w=.ok u w∧Az x w h n ρ v u:=by
 obtain⟨len,hk,hform⟩:=A2v ha hk;have hlo':∃l,((ulo=none∧l=0)∨∃k,ulo=some (.int k l))∧A2s hi len fun u=>Z6 E gd t h a hi mx len l u K:=by
  rcases A2r hlo hk with⟨h1,h2⟩|⟨k,m,h1,h2⟩
  ·exact⟨0,.inl ⟨h1,rfl⟩,h2⟩
  ·exact⟨m,.inr ⟨k,h1⟩,h2⟩
 obtain⟨l,hul,hk2⟩:=hlo';clear hk;have hhi':∃u,((uhi=none∧u=(len:Int))∨∃k,uhi=some (.int k u))∧Z6 E gd t h a hi mx len l u K:=by
  rcases A2r hhi hk2 with⟨h1,h2⟩|⟨k,m,h1,h2⟩
  ·exact⟨_,.inl ⟨h1,rfl⟩,h2⟩
  ·exact⟨m,.inr ⟨k,h1⟩,h2⟩
 obtain⟨u,huh,hk3⟩:=hhi';clear hk2;obtain⟨ty,htt,hk⟩:=B9 hk3;clear hk3;have hty:=hT t ty htt;have hkind:=hty.kind;cases hkk:ty.k<;>rw[hkk]at hk hkind<;>simp only at hk hkind;case str=>
  rcases hmx with⟨rfl,rfl⟩|⟨v,uu,rfl,rfl,_⟩
  ·cases a with
   |str s=>
    obtain⟨hb3,hk4⟩:=hk;obtain⟨h0,h1,h2⟩:=hb3 hgd;clear hk;obtain rfl:=Hm ha;have hlen:s.length=len:=by
     rcases hform with⟨ad,cap,e,_⟩|⟨s',e,_,e2⟩
     ·simp[Dn]at e
     ·simp only[AV.str.injEq]at e;subst e;exact e2
    subst hlen;refine⟨_,_,hk4,?_,.cell .str⟩;have hb:=Ui (P:=P) (w:=w) (isS:=false) (len:=s.length) (cap:=s.length) hul huh h0 h1 h2 (Nat.le_refl _);simp only[Instr.sliceAt,Instr.slice,Dn,Sem.run_bind,run_underlying P w t _ hkind,Result.andThen_ok,Option.isSome_none,Bool.false_eq_true,if_false,X4,hb,Sem.run_pure,A52]
   |_=>exact hk.elim
  ·simp only at hk
 case slice e=>
  obtain⟨te,hte,hk5⟩:=B9 hk;clear hk;have hk:=hk5;clear hk5;have htyE:=hT e te hte;have cut:∀{m ad cap},ua=.slice ad len cap→l≤u→u.toNat≤len→u.toNat≤m→m≤cap→0≤l→B3f te.size h a l u K→
   ∃v,K v∧Az x w h n ρ v (.slice (if m=l.toNat then ad else ad.map (·.add (l.toNat*te.size))) (u.toNat - l.toNat) (m - l.toNat)):=by
   rintro m ad cap rfl h1 h2 h3 h4 h0 hq;clear hk;have hlu:l.toNat≤u.toNat:=Int.toNat_le_toNat h1;cases a with
   |view g p off len'=>
    obtain⟨s,xs,hg,hq1⟩:=Bv hq;obtain⟨rfl,hq2⟩:=C8 hq1;have hl':len'=len:=by
     cases ha with
     |cell hr=>cases hr
     |gone h0=>exact absurd h0 (L3 hg)
     |view0=>rfl
     |view=>rfl
    subst hl';exact⟨_,hq2,(B3t (s:=te.size) ha hlu h2 h3 h4).1 _ _ _ _ _ rfl hg⟩
   |rd s xs=>
    obtain⟨rfl,hq2⟩:=C8 hq;exact⟨_,hq2,(B3t (s:=te.size) ha hlu h2 h3 h4).2 _ _ rfl⟩
   |nils=>
    cases ha with
    |cell hr=>cases hr
    |nils=>
     have e1:l.toNat=0:=by omega
     have e2:u.toNat=0:=by omega
     have e3:m=0:=by omega
     rw[e1,e2,e3];exact⟨_,hq,.nils⟩
   |emp=>
    cases ha with
    |cell hr=>cases hr
    |emp=>
     have e1:l.toNat=0:=by omega
     have e2:u.toNat=0:=by omega
     have e3:m=0:=by omega
     rw[e1,e2,e3];exact⟨_,hq,.emp⟩
   |_=>exact hq.elim
  have run2:∀{m ad cap},ua=.slice ad len cap→(Instr.sliceBounds true len cap ulo uhi umx).run P w=.ok (l.toNat,u.toNat,m) w→
   (Instr.sliceAt t ua ulo uhi umx).run P w=.ok (.slice (if m=l.toNat then ad else ad.map (·.add (l.toNat*te.size))) (u.toNat - l.toNat) (m - l.toNat)) w:=by
   rintro m ad cap rfl hb;simp only[Instr.sliceAt,Instr.slice,Sem.run_bind,run_underlying P w t _ hkind,Result.andThen_ok,hb,htyE.sizeOf,Sem.run_pure]
  rcases hform with⟨ad,cap,rfl,hcap⟩|⟨s,rfl,_,e2⟩
  ·rcases hmx with⟨rfl,rfl⟩|⟨mv,umv,rfl,rfl,hmv⟩
   ·obtain⟨hb3,hk⟩:=hk
    obtain⟨h0,h1,h2⟩:=hb3 hgd;obtain⟨v,hk,hs⟩:=cut rfl h1 (by omega) (by omega) (Nat.le_refl cap) h0 hk;exact⟨v,_,hk,run2 rfl (Ui hul huh h0 h1 h2 hcap),hs⟩
   ·obtain⟨km,m,rfl⟩:∃km m,mv=.int km m:=by cases mv<;>first|exact⟨_,_,rfl⟩|exact hk.elim
    obtain rfl:=Gs hmv;cases hi with
    |none=>exact hk.elim
    |some hv=>
     have huh':∃k,uhi=some (.int k u):=by
      rcases huh with⟨e1,_⟩|e1
      ·rcases hhi with⟨e2,_⟩|⟨_,_,_,e3,_⟩
       ·cases e2
       ·rw[e3]at e1;cases e1
      ·exact e1
     rcases hk with⟨rfl,rfl,rfl,hns,hk⟩|⟨h0,h1,h2,h3,hk⟩
     ·refine⟨_,_,hk,run2 (m:=0) rfl (T5 hul huh' (by omega) (by omega) (by omega) (by omega)),?_⟩
      simp only[Int.toNat_zero,if_true,Nat.sub_self];exact .emp
     ·obtain⟨v,hk,hs⟩:=cut (m:=m.toNat) rfl h1 (by omega) (by omega) (by omega) h0 hk
      exact⟨v,_,hk,run2 rfl (T5 hul huh' h0 h1 h2 (by omega)),hs⟩
  ·exfalso
   cases mx with
   |none=>exact hk.2
   |some mv=>
    cases mv<;>simp only at hk;cases hi with
    |none=>exact hk
    |some hv=>
     rcases hk with⟨_,_,_,hns,hk⟩|⟨_,_,_,_,hk⟩
     ·simp[AV.isStr]at hns
     ·exact hk
end
end Go.GH
