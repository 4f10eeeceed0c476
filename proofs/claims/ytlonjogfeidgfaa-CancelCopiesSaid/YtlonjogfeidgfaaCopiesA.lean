import Derived.CallsIn
import Derived.Below
import Derived.Laws.AppendOwn
import Derived.Laws.CopyOwn
import Derived.Laws.Rows
import Derived.Orders
import Derived.ChangeKeysEq
import Derived.LaidEql
import Derived.Laws.Pointers
import Derived.MapKept
import Derived.TacticsIn
import Derived.LoopNIn
import Derived.RangeFuncLeaves
import Derived.RangeFuncRecord
import Derived.Conc.MuLone
import Derived.OrdersIn
namespace Go.Ev
open Go.RowKit
structure Place where
 block:Nat
 base:Nat
 ext:Nat
 deriving Inhabited
abbrev Pl:=Nat->Option Place
def Pl.le(m m':Pl):Prop:=∀ i p,m i=some p->m' i=some p
theorem Pl.le_refl(m:Pl):m.le m:=fun _ _ h=>h
theorem Pl.le_trans{a b c:Pl}(h:a.le b)(k:b.le c):a.le c:=fun i p hp=>k i p (h i p hp)
inductive VRel (m:Pl):Value->Value->Prop
 | bool (b:Bool):VRel m (.bool b) (.bool b)
 | int (k:IntKind) (n:Int):VRel m (.int k n) (.int k n)
 | float (k:FloatKind) (n:Nat):VRel m (.float k n) (.float k n)
 | complex (k:FloatKind) (a b:Nat):VRel m (.complex k a b) (.complex k a b)
 | string (s:ByteArray):VRel m (.string s) (.string s)
 | ptrNil:VRel m (.pointer none) (.pointer none)
 | ptr (i off:Nat) (p:Place) (h:m i=some p):VRel m (.pointer (some ⟨i,off,none⟩)) (.pointer (some ⟨p.block,p.base+off,none⟩))
 | sliceNil:VRel m (.slice none 0 0) (.slice none 0 0)
 | slice (i off len z c:Nat) (p:Place) (h:m i=some p) (hc:off+c*z=p.ext) (hl:len<=c) (hz:0<z) :
   VRel m (.slice (some ⟨i,off,none⟩) len z) (.slice (some ⟨p.block,p.base+off,none⟩) len c)
 | sliceEnd (i off z:Nat) (a:Addr) (hz:0<z):VRel m (.slice (some ⟨i,off,none⟩) 0 z) (.slice (some a) 0 0)
 | mapNil:VRel m (.map none) (.map none)
 | map (i:Nat) (p:Place) (h:m i=some p):VRel m (.map (some i)) (.map (some p.block))
 | nilFunc:VRel m .nilFunc .nilFunc
 | func (f:Fn) (a b c d:Array Value) (h1:a.size=c.size) (h2:b.size=d.size) (hf:∀ l,f≠.yield l)
   (e1:∀ j (h:j<a.size) (h':j<c.size),VRel m a[j] c[j]) (e2:∀ j (h:j<b.size) (h':j<d.size),VRel m b[j] d[j]):VRel m (.func f a b) (.func f c d)
 | yield (i:Nat) (p:Place) (h:m i=some p):VRel m (.func (.yield i) #[] #[]) (.func (.yield p.block) #[] #[])
 | nilIface:VRel m .nilIface .nilIface
 | iface (t:TypeId) (v u:Value) (h:VRel m v u):VRel m (.iface t v) (.iface t u)
 | agg (a b:Array Value) (h:a.size=b.size) (e:∀ j (h:j<a.size) (h':j<b.size),VRel m a[j] b[j]):VRel m (.agg a) (.agg b)
 | tuple (a b:Array Value) (h:a.size=b.size) (e:∀ j (h:j<a.size) (h':j<b.size),VRel m a[j] b[j]):VRel m (.tuple a) (.tuple b)
theorem VRel.mono{m m':Pl}(hm:m.le m'){v u:Value}(h:VRel m v u):VRel m' v u:=by
 induction h with
 | bool b=>exact .bool b
 | int k n=>exact .int k n
 | float k n=>exact .float k n
 | complex k a b=>exact .complex k a b
 | string s=>exact .string s
 | ptrNil=>exact .ptrNil
 | ptr i off p h=>exact .ptr i off p (hm _ _ h)
 | sliceNil=>exact .sliceNil
 | slice i off len z c p h hc hl hz=>exact .slice i off len z c p (hm _ _ h) hc hl hz
 | sliceEnd i off z a hz=>exact .sliceEnd i off z a hz
 | mapNil=>exact .mapNil
 | map i p h=>exact .map i p (hm _ _ h)
 | nilFunc=>exact .nilFunc
 | func f a b c d h1 h2 hf _ _ e1 e2=>exact .func f a b c d h1 h2 hf e1 e2
 | yield i p h=>exact .yield i p (hm _ _ h)
 | nilIface=>exact .nilIface
 | iface t v u _ ih=>exact .iface t v u ih
 | agg a b h _ e=>exact .agg a b h e
 | tuple a b h _ e=>exact .tuple a b h e
def VRels(m:Pl)(a b:List Value):Prop:=a.length=b.length/\∀ (j:Nat) v u,a[j]?=some v->b[j]?=some u->VRel m v u
theorem VRels.mono{m m':Pl}(hm:m.le m'){a b:List Value}(h:VRels m a b):VRels m' a b:=⟨h.1,fun j v u hv hu=>(h.2 j v u hv hu).mono hm⟩
theorem VRels.nil(m:Pl):VRels m [] []:=⟨rfl,fun j v u h=>by simp at h⟩
theorem VRels.cons{m:Pl}{v u:Value}{a b:List Value}(h:VRel m v u)(k:VRels m a b):VRels m (v::a) (u::b):=by
 refine⟨by simp[k.1],fun j x y hx hy=>?_⟩
 cases j with
 | zero=>simp at hx hy;subst hx;subst hy;exact h
 | succ j=>simp at hx hy;exact k.2 j x y hx hy
theorem VRels.get{m:Pl}{a b:List Value}(h:VRels m a b){j:Nat}{v:Value}(hv:a[j]?=some v):∃ u,b[j]?=some u/\VRel m v u:=by
 have hj:j<a.length:=(List.getElem?_eq_some_iff.1 hv).1
 have hj':j<b.length:=by rw[<- h.1];exact hj
 exact⟨b[j],List.getElem?_eq_getElem hj',h.2 j v _ hv (List.getElem?_eq_getElem hj')⟩
theorem VRels.append{m:Pl}{a b c d:List Value}(h:VRels m a b)(k:VRels m c d):VRels m (a++c) (b++d):=by
 refine⟨by simp[h.1,k.1],fun j v u hv hu=>?_⟩
 rw[List.getElem?_append] at hv hu
 rw[h.1] at hv
 split at hv
 ·rename_i hj;rw[if_pos hj] at hu;exact h.2 j v u hv hu
 ·rename_i hj;rw[if_neg hj] at hu;exact k.2 _ v u hv hu
theorem VRels.take{m:Pl}{a b:List Value}(n:Nat)(h:VRels m a b):VRels m (a.take n) (b.take n):=by
 refine⟨by simp[h.1],fun j v u hv hu=>?_⟩
 rw[List.getElem?_take] at hv hu
 split at hv
 ·rename_i hj;rw[if_pos hj] at hu;exact h.2 j v u hv hu
 ·cases hv
theorem VRels.drop{m:Pl}{a b:List Value}(n:Nat)(h:VRels m a b):VRels m (a.drop n) (b.drop n):=by
 refine⟨by simp[h.1],fun j v u hv hu=>?_⟩
 rw[List.getElem?_drop] at hv hu
 exact h.2 _ v u hv hu
theorem VRels.set{m:Pl}{a b:List Value}(n:Nat){v u:Value}(h:VRels m a b)(k:VRel m v u):VRels m (a.set n v) (b.set n u):=by
 refine⟨by simp[h.1],fun j x y hx hy=>?_⟩
 rw[List.getElem?_set] at hx hy
 rw[h.1] at hx
 split at hx
 ·rename_i hj
  subst hj
  rw[if_pos rfl] at hy
  split at hx
  ·rename_i hl;rw[if_pos hl] at hy;cases hx;cases hy;exact k
  ·cases hx
 ·rename_i hj;rw[if_neg hj] at hy;exact h.2 j x y hx hy
theorem VRels.of_arr{m:Pl}{a b:Array Value}(h:a.size=b.size)(e:∀ j (h:j<a.size) (h':j<b.size),VRel m a[j] b[j]):VRels m a.toList b.toList:=by
 refine⟨by simp[h],fun j v u hv hu=>?_⟩
 simp only[Array.getElem?_toList] at hv hu
 obtain⟨h1,rfl⟩:=Array.getElem?_eq_some_iff.1 hv
 obtain⟨h2,rfl⟩:=Array.getElem?_eq_some_iff.1 hu
 exact e j h1 h2
theorem VRels.arr{m:Pl}{a b:List Value}(h:VRels m a b):∀ j (h:j<a.toArray.size) (h':j<b.toArray.size),VRel m a.toArray[j] b.toArray[j]:=by
 intro j h1 h2
 exact h.2 j _ _ (by simp) (by simp)
theorem VRel.agg_l{m:Pl}{a b:List Value}(h:VRels m a b):VRel m (.agg a.toArray) (.agg b.toArray):=.agg _ _ (by simp[h.1]) h.arr
theorem VRel.tuple_l{m:Pl}{a b:List Value}(h:VRels m a b):VRel m (.tuple a.toArray) (.tuple b.toArray):=.tuple _ _ (by simp[h.1]) h.arr
mutual
def ground:Value->Bool
 | .bool _ | .int .. | .float .. | .complex .. | .string _ | .pointer none | .slice none 0 0 | .map none | .nilFunc | .nilIface=>true
 | .iface _ v=>ground v
 | .func f a b=>(match f with | .yield _=>false | _=>true)&&groundA a&&groundA b
 | .agg a=>groundA a
 | .tuple a=>groundA a
 | _=>false
def groundA:Array Value->Bool
 | ⟨l⟩=>groundL l
def groundL:List Value->Bool
 | []=>true
 | v::l=>ground v&&groundL l
end
theorem groundL_get:∀ {l:List Value} {j:Nat} {v:Value},groundL l=true->l[j]?=some v->ground v=true
 | x::l,0,v,h,hv=>by simp[groundL] at h hv;subst hv;exact h.1
 | x::l,j+1,v,h,hv=>by simp[groundL] at h hv;exact groundL_get h.2 hv
theorem groundA_get{a:Array Value}{j:Nat}(h:groundA a=true)(hj:j<a.size):ground a[j]=true:=by
 cases a with
 | mk l=>exact groundL_get (l:=l) (j:=j) h (by simp at hj ⊢)
theorem arr_eq{a b:Array Value}(h:a.size=b.size)(e:∀ j (h:j<a.size) (h':j<b.size),a[j]=b[j]):a=b:=Array.ext h e
theorem VRel.ground{m:Pl}{v u:Value}(h:VRel m v u):ground v=true->v=u:=by
 induction h with
 | func f a b c d h1 h2 hf _ _ e1 e2 =>
  intro g
  simp only[Ev.ground,Bool.and_eq_true] at g
  have ha:a=c:=arr_eq h1 fun j h h'=>e1 j h h' (groundA_get g.1.2 h)
  have hb:b=d:=arr_eq h2 fun j h h'=>e2 j h h' (groundA_get g.2 h)
  rw[ha,hb]
 | iface t v u _ ih=>intro g;simp only[Ev.ground] at g;rw[ih g]
 | agg a b h _ e=>intro g;simp only[Ev.ground] at g;rw[arr_eq h fun j h h'=>e j h h' (groundA_get g h)]
 | tuple a b h _ e=>intro g;simp only[Ev.ground] at g;rw[arr_eq h fun j h h'=>e j h h' (groundA_get g h)]
 | _=>intro g;first | rfl | (simp[Ev.ground] at g)
mutual
theorem VRel.refl(m:Pl):∀ (v:Value),Ev.ground v=true->VRel m v v
 | .bool b,_=>.bool b
 | .int k n,_=>.int k n
 | .float k n,_=>.float k n
 | .complex k a b,_=>.complex k a b
 | .string s,_=>.string s
 | .pointer none,_=>.ptrNil
 | .slice none 0 0,_=>.sliceNil
 | .map none,_=>.mapNil
 | .nilFunc,_=>.nilFunc
 | .nilIface,_=>.nilIface
 | .iface t v,g=>.iface t v v (VRel.refl m v (by simpa[Ev.ground] using g))
 | .func f a b,g=>by
  simp only[Ev.ground,Bool.and_eq_true] at g
  exact .func f a b a b rfl rfl (fun l e=>by subst e;simp at g) (fun j h _=>VRel.reflA m a g.1.2 j h) (fun j h _=>VRel.reflA m b g.2 j h)
 | .agg a,g=>.agg a a rfl (fun j h _=>VRel.reflA m a (by simpa[Ev.ground] using g) j h)
 | .tuple a,g=>.tuple a a rfl (fun j h _=>VRel.reflA m a (by simpa[Ev.ground] using g) j h)
theorem VRel.reflA(m:Pl):∀ (a:Array Value),groundA a=true->∀ j (h:j<a.size),VRel m a[j] a[j]
 | ⟨l⟩,g,j,h=>VRel.reflL m l g j (by simpa using h)
theorem VRel.reflL(m:Pl):∀ (l:List Value),groundL l=true->∀ j (h:j<l.length),VRel m l[j] l[j]
 | v::l,g,0,_=>VRel.refl m v (by simp only[groundL,Bool.and_eq_true] at g;exact g.1)
 | v::l,g,j+1,h=>VRel.reflL m l (by simp only[groundL,Bool.and_eq_true] at g;exact g.2) j (by simpa using h)
end
end Go.Ev
namespace Go.Ev
open Go.RowKit
abbrev Env:=List (Nat×Value)
def look:Env->Nat->Option Value
 | [],_=>none
 | (k,v)::r,t=>match Nat.beq k t with
  | true=>some v
  | false=>look r t
def EnvRel(m:Pl)(E:Env)(tmps:Array Value):Prop:=∀ t v,look E t=some v->∃ u,tmps[t]?=some u/\VRel m v u
theorem EnvRel.mono{m m':Pl}(hm:m.le m'){E:Env}{tmps:Array Value}(h:EnvRel m E tmps):EnvRel m' E tmps :=
 fun t v hv=>let ⟨u,h1,h2⟩:=h t v hv;⟨u,h1,h2.mono hm⟩
inductive AObj where
 | dead
 | cells (c:List Value) (rw:Bool)
 | loop (st:LoopState) (pending:Option Code) (E:Env) (n:Nat) (params:Array Tmp) (assign body:Code)
 | mp (es:List (Value×Value))
abbrev Hp:=List AObj
def Real(B:Nat)(m:Pl)(w:World)(p:Place):AObj->Prop
 | .dead=>True
 | .cells c rw=>∃ arr t fz,w.heap[p.block]?=some (.cells arr t fz)/\p.base+p.ext<=arr.size/\c.length<=p.ext /\
   VRels m c ((arr.toList.drop p.base).take c.length)/\(if rw=true then fz=(0,0)/\B<=p.block else p.block<B)
 | .loop st pending E n params assign body=>∃ l:Loop,w.heap[p.block]?=some (.loop l)/\l.state=st/\l.pending=pending/\l.params=params/\l.assign=assign /\
   l.body=body/\l.tmps.size=n/\EnvRel m E l.tmps/\B<=p.block
 | .mp es=>∃ (arr:Array MapEntry) (clock:Nat),w.heap[p.block]?=some (.map arr clock)/\arr.toList.map (fun e=>(e.key,e.val))=es/\(es.all fun x=>ground x.1&&ground x.2)=true/\B<=p.block
theorem Real.mono{B:Nat}{m m':Pl}(hm:m.le m'){w:World}{p:Place}{o:AObj}(h:Real B m w p o):Real B m' w p o:=by
 cases o with
 | dead=>trivial
 | cells c rw=>obtain⟨arr,t,fz,h1,h2,h3,h4,h5⟩:=h;exact⟨arr,t,fz,h1,h2,h3,h4.mono hm,h5⟩
 | loop st pending E n params assign body=>obtain⟨l,h1,h2,h3,h4,h5,h6,h7,h8,h9⟩:=h;exact⟨l,h1,h2,h3,h4,h5,h6,h7,h8.mono hm,h9⟩
 | mp es=>exact h
def AObj.owns:AObj->Bool
 | .cells _ rw=>rw
 | .loop ..=>true
 | .mp _=>true
 | .dead=>false
structure Bs where
 n:Nat
 K:List Nat
structure Sim(B:Bs)(w0:World)(m:Pl)(h:Hp)(w:World):Prop where
 below:Below B.n w0 w
 base:B.n<=w0.heap.size
 marks:∀ b∈B.K,B.n<=b/\w.heap[b]?=some (.deferred (some []))
 nodup:B.K.Nodup
 real:∀ i p,m i=some p->∃ o,h[i]?=some o/\Real B.n m w p o
 inj:∀ i j p q o o',m i=some p->m j=some q->h[i]?=some o->h[j]?=some o'->o.owns=true->o'.owns=true->p.block=q.block->i=j
variable {B:Bs} {w0:World} {m:Pl} {h:Hp} {w:World}
theorem Real.lt{p:Place}{o:AObj}(hr:Real B.n m w p o)(hd:o≠.dead):p.block<w.heap.size:=by
 cases o with
 | dead=>exact absurd rfl hd
 | cells c rw=>obtain⟨arr,t,fz,h1,_⟩:=hr;exact (Array.getElem?_eq_some_iff.1 h1).1
 | loop st pending E n params assign body=>obtain⟨l,h1,_⟩:=hr;exact (Array.getElem?_eq_some_iff.1 h1).1
 | mp es=>obtain⟨arr,c,h1,_⟩:=hr;exact (Array.getElem?_eq_some_iff.1 h1).1
theorem Real.frame{p:Place}{o:AObj}{w':World}(hr:Real B.n m w p o)(hb:o≠.dead->w'.heap[p.block]?=w.heap[p.block]?):Real B.n m w' p o:=by
 cases o with
 | dead=>trivial
 | cells c rw=>obtain⟨arr,t,fz,h1,h2⟩:=hr;exact⟨arr,t,fz,by rw[hb (by simp)];exact h1,h2⟩
 | loop st pending E n params assign body=>obtain⟨l,h1,h2⟩:=hr;exact⟨l,by rw[hb (by simp)];exact h1,h2⟩
 | mp es=>obtain⟨arr,c,h1,h2⟩:=hr;exact⟨arr,c,by rw[hb (by simp)];exact h1,h2⟩
theorem Real.owns_ge{p:Place}{o:AObj}(hr:Real B.n m w p o)(ho:o.owns=true):B.n<=p.block:=by
 cases o with
 | dead=>simp[AObj.owns] at ho
 | cells c rw=>simp[AObj.owns] at ho;subst ho;obtain⟨arr,t,fz,_,_,_,_,h5⟩:=hr;rw[if_pos rfl] at h5;exact h5.2
 | loop st pending E n params assign body=>obtain⟨l,_,_,_,_,_,_,_,_,h9⟩:=hr;exact h9
 | mp es=>obtain⟨_,_,_,_,_,h5⟩:=hr;exact h5
theorem Sim.size(s:Sim B w0 m h w):B.n<=w.heap.size:=Nat.le_trans s.base s.below.size
theorem Sim.fresh(s:Sim B w0 m h w){i:Nat}(hi:h.length<=i):m i=none:=by
 cases hm:m i with
 | none=>rfl
 | some p =>
  obtain⟨o,ho,_⟩:=s.real i p hm
  have:=(List.getElem?_eq_some_iff.1 ho).1
  omega
def Pl.put(m:Pl)(i:Nat)(p:Place):Pl:=fun j=>if j=i then some p else m j
theorem Pl.put_same(m:Pl)(i:Nat)(p:Place):m.put i p i=some p:=by simp[Pl.put]
theorem Pl.put_le{m:Pl}{i:Nat}{p:Place}(hi:m i=none):m.le (m.put i p):=fun j q hq=>by
 unfold Pl.put
 split
 ·rename_i e;subst e;rw[hi] at hq;cases hq
 ·exact hq
theorem Sim.drew(s:Sim B w0 m h w):Sim B w0 m h w.drew :=
 ⟨s.below.drew,s.base,s.marks,s.nodup,fun i p hi=>let ⟨o,ho,hr⟩:=s.real i p hi;⟨o,ho,hr.frame fun _=>rfl⟩,s.inj⟩
theorem Sim.drawn(s:Sim B w0 m h w)(n:Nat):Sim B w0 m h { w with drawn:=n } :=
 ⟨⟨s.below.os,s.below.tape,s.below.output,s.below.size,s.below.block⟩,s.base,s.marks,s.nodup,fun i p hi=>let ⟨o,ho,hr⟩:=s.real i p hi;⟨o,ho,hr.frame fun _=>rfl⟩,s.inj⟩
theorem Sim.new(s:Sim B w0 m h w)(x:Obj)(o:AObj)(p:Place)(hp:p.block=w.heap.size)
  (hr:Real B.n (m.put h.length p) (w.alloc x) p o):Sim B w0 (m.put h.length p) (h++[o]) (w.alloc x):=by
 have hf:m h.length=none:=s.fresh (Nat.le_refl _)
 have hle:=Pl.put_le (p:=p) hf
 have hlt:∀ j q,m j=some q->j<h.length:=fun j q hq=>by
  rcases Nat.lt_or_ge j h.length with k | k
  ·exact k
  ·rw[s.fresh k] at hq;cases hq
 have hold:∀ j q o',m j=some q->h[j]?=some o'->o'≠.dead->q.block<w.heap.size:=fun j q o' hq ho' hd=>by
  obtain⟨o2,h2,h3⟩:=s.real j q hq
  rw[ho'] at h2;cases h2
  exact h3.lt hd
 refine⟨s.below.alloc s.size x,s.base,fun b hb=>⟨(s.marks b hb).1,by
  rw[Below.heap_alloc w x b (Array.getElem?_eq_some_iff.1 (s.marks b hb).2).1];exact (s.marks b hb).2⟩,s.nodup,fun i q hq=>?_,fun i j q r a b hq hr' ha hb oa ob hbl=>?_⟩
 ·unfold Pl.put at hq
  split at hq
  ·rename_i e;subst e;cases hq;exact⟨o,by simp,hr⟩
  ·obtain⟨o',ho',hr'⟩:=s.real i q hq
   have hi:=hlt i q hq
   refine⟨o',by rw[List.getElem?_append_left hi];exact ho',(hr'.mono hle).frame fun hd=>?_⟩
   exact Below.heap_alloc w x _ (hr'.lt hd)
 ·have key:∀ k q a,(m.put h.length p) k=some q->(h++[o])[k]?=some a->a.owns=true->(k=h.length/\q.block=w.heap.size)\/(k<h.length/\m k=some q/\h[k]?=some a/\q.block<w.heap.size):=by
   intro k q a hq ha oa
   unfold Pl.put at hq
   split at hq
   ·rename_i e;cases hq;exact .inl ⟨e,hp⟩
   ·have hk:=hlt k q hq
    rw[List.getElem?_append_left hk] at ha
    exact .inr ⟨hk,hq,ha,hold k q a hq ha (fun e=>by subst e;simp[AObj.owns] at oa)⟩
  rcases key i q a hq ha oa with⟨e1,e2⟩ | ⟨e1,e2,e3,e4⟩<;>rcases key j r b hr' hb ob with⟨f1,f2⟩ | ⟨f1,f2,f3,f4⟩
  ·omega
  ·omega
  ·omega
  ·exact s.inj i j q r a b e2 f2 e3 f3 oa ob hbl
theorem Sim.newCells(s:Sim B w0 m h w)(c cs rest:List Value)(t:TypeId)(hc:VRels m c cs) :
  Sim B w0 (m.put h.length ⟨w.heap.size,0,cs.length+rest.length⟩) (h++[.cells c true]) (w.alloc (.cells (cs++rest).toArray t)):=by
 refine s.new _ _ _ rfl ⟨_,t,(0,0),by simpa using heap_alloc_new w _,by simp,by simp[hc.1],?_,by simp[s.size]⟩
 have:=hc.mono (Pl.put_le (p:=⟨w.heap.size,0,cs.length+rest.length⟩) (s.fresh (Nat.le_refl _)))
 simpa[hc.1] using this
theorem Sim.get(s:Sim B w0 m h w){i:Nat}{p:Place}{o:AObj}(hi:m i=some p)(ho:h[i]?=some o):Real B.n m w p o:=by
 obtain⟨o',ho',hr⟩:=s.real i p hi
 rw[ho] at ho';cases ho'
 exact hr
theorem Sim.cell(s:Sim B w0 m h w){i off:Nat}{p:Place}{c:List Value}{rw:Bool}{v:Value}(hi:m i=some p)(ho:h[i]?=some (.cells c rw))(hv:c[off]?=some v) :
  ∃ u,w.cell? ⟨p.block,p.base+off,none⟩=some u/\VRel m v u:=by
 obtain⟨arr,t,fz,h1,h2,h3,h4,_⟩:=s.get hi ho
 obtain⟨u,hu,hr⟩:=h4.get hv
 have hlt:off<c.length:=(List.getElem?_eq_some_iff.1 hv).1
 rw[List.getElem?_take,if_pos hlt,List.getElem?_drop] at hu
 exact⟨u,by simp[World.cell?,h1];simpa using hu,hr⟩
theorem Sim.cells(s:Sim B w0 m h w){i off n:Nat}{p:Place}{c:List Value}{rw:Bool}(hi:m i=some p)(ho:h[i]?=some (.cells c rw))(hn:off+n<=c.length) :
  ∃ us:List Value,VRels m ((c.drop off).take n) us/\us.length=n/\∀ j u,us[j]?=some u->w.cell? ((⟨p.block,p.base+off,none⟩:Addr).add j)=some u:=by
 obtain⟨arr,t,fz,h1,h2,h3,h4,_⟩:=s.get hi ho
 refine⟨((((arr.toList.drop p.base).take c.length).drop off).take n),(h4.drop off).take n,?_,fun j u hu=>?_⟩
 ·simp;omega
 ·rw[List.getElem?_take] at hu
  split at hu
  ·rw[List.getElem?_drop,List.getElem?_take] at hu
   split at hu
   ·rw[List.getElem?_drop] at hu
    have e:(⟨p.block,p.base+off,none⟩:Addr).add j=⟨p.block,p.base+off+j,none⟩:=by
     unfold Addr.add;split<;>simp_all
    rw[e]
    simp only[World.cell?,h1]
    simpa[Nat.add_assoc] using hu
   ·cases hu
  ·cases hu
theorem Sim.setRow(s:Sim B w0 m h w){i off:Nat}{p:Place}{c:List Value}(hi:m i=some p)(ho:h[i]?=some (.cells c true)){vs us:List Value}(hv:VRels m vs us)(hn:off+vs.length<=c.length) :
  ∃ (arr:Array Value) (t:TypeId),w.heap[p.block]?=some (.cells arr t (0,0))/\p.base+off+us.length<=arr.size /\
   Sim B w0 m (h.set i (.cells (c.take off++vs++c.drop (off+vs.length)) true)) (w.setRow p.block (arr.toList.take (p.base+off)++us++arr.toList.drop (p.base+off+us.length)).toArray):=by
 obtain⟨arr,t,fz,h1,h2,h3,h4,h5⟩:=s.get hi ho
 rw[if_pos rfl] at h5
 obtain⟨rfl,hB⟩:=h5
 have hul:us.length=vs.length:=hv.1.symm
 have hil:i<h.length:=(List.getElem?_eq_some_iff.1 ho).1
 refine⟨arr,t,h1,by omega,below_setRow s.below hB _,s.base,fun b hb=>⟨(s.marks b hb).1,by
  rw[setRow_other w p.block b _ (fun e=>by have:=(s.marks b hb).2;rw[e,h1] at this;cases this)];exact (s.marks b hb).2⟩,s.nodup,fun j q hq=>?_,fun j k q r a b hq hr ha hb oa ob hbl=>?_⟩
 ·obtain⟨o',ho',hr'⟩:=s.real j q hq
  by_cases hji:j=i
  ·subst hji
   rw[hi] at hq;cases hq
   refine⟨_,List.getElem?_set_self hil,_,t,(0,0),setRow_heap w p.block arr _ t _ h1,?_,?_,?_,by simp[hB]⟩
   ·simp;omega
   ·simp;omega
   ·have hlen:(c.take off++vs++c.drop (off+vs.length)).length=c.length:=by simp;omega
    rw[hlen]
    have key:((arr.toList.take (p.base+off)++us++arr.toList.drop (p.base+off+us.length)).drop p.base).take c.length =
      ((arr.toList.drop p.base).take c.length).take off++us++((arr.toList.drop p.base).take c.length).drop (off+us.length):=by
     apply List.ext_getElem?
     intro k
     simp only[List.getElem?_take,List.getElem?_drop,List.getElem?_append,List.length_append,List.length_take,List.length_drop,Array.length_toList]
     have e1:min off (min c.length (arr.size-p.base))=off:=by omega
     have e2:min (p.base+off) arr.size=p.base+off:=by omega
     simp only[e1,e2]
     by_cases k1:k<c.length
     ·by_cases k2:k<off
      ·have:p.base+k<p.base+off:=by omega
       have k3:k<off+us.length:=by omega
       have k4:p.base+k<p.base+off+us.length:=by omega
       simp[k1,k2,this,k3,k4]
      ·by_cases k3:k<off+us.length
       ·have k4:p.base+k<p.base+off+us.length:=by omega
        have k5:¬ p.base+k<p.base+off:=by omega
        have k6:p.base+k-(p.base+off)=k-off:=by omega
        simp[k1,k2,k3,k4,k5,k6]
       ·have k4:¬ p.base+k<p.base+off+us.length:=by omega
        have k5:p.base+off+us.length+(p.base+k-(p.base+off+us.length))=p.base+k:=by omega
        have k6:off+us.length+(k-(off+us.length))=k:=by omega
        simp[k1,k3,k4,k5,k6]
     ·by_cases k2:k<off
      ·omega
      ·by_cases k3:k<off+us.length
       ·omega
       ·have k6:off+us.length+(k-(off+us.length))=k:=by omega
        simp[k1,k3,k6]
    rw[List.toList_toArray,key,hul]
    exact ((h4.take off).append hv).append (h4.drop _)
  ·refine⟨o',by rw[List.getElem?_set_ne (Ne.symm hji)];exact ho',hr'.frame fun hd=>?_⟩
   by_cases hob:o'.owns=true
   ·exact setRow_other w p.block q.block _ fun e=>hji (s.inj j i q p o' _ hq hi ho' ho hob rfl e)
   ·refine setRow_other w p.block q.block _ fun e=>?_
    cases o' with
    | dead=>exact hd rfl
    | cells c' rw' =>
     cases rw' with
     | true=>exact hob rfl
     | false=>obtain⟨_,_,_,_,_,_,_,h6⟩:=hr';simp at h6;omega
    | loop st pending E n params assign body=>exact hob rfl
    | mp es=>exact hob rfl
 ·have key:∀ (k:Nat) (a:AObj),(h.set i (.cells (c.take off++vs++c.drop (off+vs.length)) true))[k]?=some a->a.owns=true->∃ a':AObj,h[k]?=some a'/\a'.owns=true:=by
   intro k a ha oa
   by_cases hk:k=i
   ·subst hk;exact⟨_,ho,rfl⟩
   ·rw[List.getElem?_set_ne (Ne.symm hk)] at ha;exact⟨a,ha,oa⟩
  obtain⟨a',ha',oa'⟩:=key j a ha oa
  obtain⟨b',hb',ob'⟩:=key k b hb ob
  exact s.inj j k q r a' b' hq hr ha' hb' oa' ob' hbl
theorem Sim.kill(s:Sim B w0 m h w)(i:Nat):Sim B w0 m (h.set i .dead) w:=by
 refine⟨s.below,s.base,s.marks,s.nodup,fun j q hq=>?_,fun j k q r a b hq hr ha hb oa ob hbl=>?_⟩
 ·obtain⟨o',ho',hr'⟩:=s.real j q hq
  by_cases hji:i=j
  ·subst hji
   exact⟨.dead,List.getElem?_set_self (List.getElem?_eq_some_iff.1 ho').1,trivial⟩
  ·exact⟨o',by rw[List.getElem?_set_ne hji];exact ho',hr'⟩
 ·have key:∀ (k:Nat) (a:AObj),(h.set i .dead)[k]?=some a->a.owns=true->h[k]?=some a:=by
   intro k a ha oa
   rw[List.getElem?_set] at ha
   split at ha
   ·split at ha
    ·cases ha;simp[AObj.owns] at oa
    ·cases ha
   ·exact ha
  exact s.inj j k q r a b hq hr (key j a ha oa) (key k b hb ob) oa ob hbl
structure Stp(m:Pl)(h:Hp)(m':Pl)(h':Hp):Prop where
 le:m.le m'
 old:∀ i,i<h.length->m' i=m i
 len:h.length<=h'.length
theorem Stp.refl(m:Pl)(h:Hp):Stp m h m h:=⟨m.le_refl,fun _ _=>rfl,Nat.le_refl _⟩
theorem Stp.trans{m m1 m2:Pl}{h h1 h2:Hp}(a:Stp m h m1 h1)(b:Stp m1 h1 m2 h2):Stp m h m2 h2 :=
 ⟨Pl.le_trans a.le b.le,fun i hi=>by rw[b.old i (Nat.lt_of_lt_of_le hi a.len),a.old i hi],Nat.le_trans a.len b.len⟩
theorem Stp.put{m:Pl}{h:Hp}(p:Place)(o:AObj)(hf:m h.length=none):Stp m h (m.put h.length p) (h++[o]) :=
 ⟨Pl.put_le hf,fun i hi=>by unfold Pl.put;rw[if_neg (by omega)],by simp⟩
theorem Stp.same{m:Pl}{h h':Hp}(e:h.length<=h'.length):Stp m h m h':=⟨m.le_refl,fun _ _=>rfl,e⟩
theorem Stp.at{m m':Pl}{h h0 h' h1:Hp}(a:Stp m h m' h')(e:h.length=h0.length)(e':h'.length=h1.length):Stp m h0 m' h1:=⟨a.le,fun i hi=>a.old i (by omega),by have:=a.len;omega⟩
end Go.Ev
namespace Go.Ev
def pureRun(P:Program):Sem Next->Option Next
 | .pure a=>some a
 | .program k=>pureRun P (k P)
 | .mark _ k=>pureRun P k
 | _=>none
def evalO(E:Env):Operand->Option Value
 | .tmp t=>look E t
 | .const v=>match ground v with
  | true=>some v
  | false=>none
 | .func f=>some (.func (.func f) #[] #[])
 | .global _=>none
def evalL(E:Env):List Operand->Option (List Value)
 | []=>some []
 | x::l=>match evalO E x,evalL E l with
  | some v,some vs=>some (v::vs)
  | _,_=>none
def isAggD:TypeDesc->Bool
 | .struct _ | .array _ _=>true
 | _=>false
def aggSize(P:Program)(t:TypeId):Option (Option Nat) :=
 match P.underlying t with
 | some d=>match isAggD d with
  | true=>match P.info? t with
   | some i=>some (some i.size)
   | none=>none
  | false=>some none
 | none=>none
def sizeO(P:Program)(t:TypeId):Option Nat:=match P.info? t with | some i=>some i.size | none=>none
def zeroO(P:Program)(t:TypeId):Option Value:=match P.info? t with | some i=>i.zero | none=>none
def cellsAt(h:Hp)(i:Nat):Option (List Value):=match h[i]? with | some (.cells c _)=>some c | _=>none
def ownAt(h:Hp)(i:Nat):Option (List Value):=match h[i]? with | some (.cells c true)=>some c | _=>none
def cut(c:List Value)(off n:Nat):Option (List Value):=match Nat.ble (off+n) c.length with
 | true=>some ((c.drop off).take n)
 | false=>none
def evLoad(P:Program)(h:Hp)(t:TypeId):Value->Option Value
 | .pointer (some ⟨i,off,none⟩)=>match cellsAt h i with
  | some c=>match aggSize P t with
   | some (some n)=>match cut c off n with
    | some l=>some (.agg l.toArray)
    | none=>none
   | some none=>c[off]?
   | none=>none
  | none=>none
 | _=>none
def evStore(P:Program)(h:Hp)(t:TypeId)(a v:Value):Option Hp :=
 match a with
 | .pointer (some ⟨i,off,none⟩)=>match ownAt h i,sizeO P t with
  | some c,some n=>match Nat.beq v.cells.toList.length n,Nat.ble (off+n) c.length,v.cells.toList.all Value.oneCell' with
   | true,true,true=>some (h.set i (.cells (c.take off++v.cells.toList++c.drop (off+v.cells.toList.length)) true))
   | _,_,_=>none
  | _,_=>none
 | _=>none
def ptrO(i:Nat):Value:=.pointer (some ⟨i,0,none⟩)
def evNew(h:Hp)(c:List Value):Value×Hp:=(ptrO h.length,h++[.cells c true])
def evAlloc(P:Program)(h:Hp)(t:TypeId):Option (Value×Hp):=match zeroO P t with
 | some z=>match ground z with
  | true=>some (evNew h z.cells.toList)
  | false=>none
 | none=>none
def partO(P:Program)(t:TypeId)(cs:Array Value)(off:Nat):Option Value:=match aggSize P t with
 | some (some n)=>some (.agg (cs.extract off (off+n)))
 | some none=>cs[off]?
 | none=>none
def placesO(P:Program):List Field->Option (List (Nat×Nat))
 | []=>some []
 | f::l=>match sizeO P f.type,placesO P l with
  | some n,some r=>some ((f.offset,n)::r)
  | _,_=>none
def evBuild(P:Program)(t:TypeId)(parts:List (Nat×Value)):Option Value:=match zeroO P t with
 | some z=>match ground z with
  | true=>match P.underlying t with
   | some (.struct fields)=>match placesO P fields.toList with
    | some pl=>match Instr.fill (pl.toArray[·]?) z.cells parts with
     | some cs=>some (.agg cs)
     | none=>none
    | none=>none
   | some (.array _ e)=>match sizeO P e with
    | some n=>match Instr.fill (fun i=>some (i*n,n)) z.cells parts with
     | some cs=>some (.agg cs)
     | none=>none
    | none=>none
   | _=>none
  | false=>none
 | none=>none
def evBuildSlice(P:Program)(h:Hp)(t:TypeId)(len:Nat)(parts:List (Nat×Value)):Option (Value×Hp):=match P.underlying t with
 | some (.slice e)=>match zeroO P e,sizeO P e with
  | some z,some n=>match ground z,Nat.ble 1 n,Nat.ble (len*n) 16777216 with
   | true,true,true=>match Instr.fill (fun i=>some (i*n,n)) ((Array.range (len*n)).map (z.cells[·%z.cells.size]!)) parts with
    | some cs=>some (.slice (some ⟨h.length,0,none⟩) len n,h++[.cells cs.toList true])
    | none=>none
   | _,_,_=>none
  | _,_=>none
 | _=>none
def evMakeSlice(P:Program)(h:Hp)(t:TypeId)(n k:Int):Option (Value×Hp):=match P.underlying t,n,k with
 | some (.slice e),.ofNat m,.ofNat m'=>match Nat.beq m m',P.info? e with
  | true,some inf=>match inf.zero with
   | some z=>match ground z,Nat.ble 1 inf.size,Nat.ble m 16777216,Nat.ble (inf.bytes*m) 281474976710656 with
    | true,true,true,true=>some (.slice (some ⟨h.length,0,none⟩) m inf.size,h++[.cells ((Array.range (m*inf.size)).map (z.cells[·%z.cells.size]!)).toList true])
    | _,_,_,_=>none
   | none=>none
  | _,_=>none
 | _,_,_=>none
def evField(P:Program)(t:TypeId)(v:Value)(f:Nat):Option Value:=match P.underlying t,v with
 | some (.struct fields),.agg cs=>match fields[f]? with
  | some fl=>partO P fl.type cs fl.offset
  | none=>none
 | _,_=>none
def evFieldAddr(P:Program)(t:TypeId)(a:Value)(f:Nat):Option Value:=match P.underlying t,a with
 | some (.struct fields),.pointer (some ⟨i,off,none⟩)=>match fields[f]? with
  | some fl=>match sizeO P fl.type with
   | some (_+1)=>some (.pointer (some ⟨i,off+fl.offset,none⟩))
   | _=>none
  | none=>none
 | _,_=>none
def evIndexAddr(P:Program)(t:TypeId)(x ix:Value):Option Value:=match P.underlying t,x,ix with
 | some (.slice e),.slice (some ⟨i,off,none⟩) len _,.int _ n=>match decide (0<=n),decide (n<(len:Int)),sizeO P e with
  | true,true,some sz=>some (.pointer (some ⟨i,off+n.toNat*sz,none⟩))
  | _,_,_=>none
 | some (.array len e),.pointer (some ⟨i,off,none⟩),.int _ n=>match decide (0<=n),decide (n<(len:Int)),sizeO P e with
  | true,true,some sz=>some (.pointer (some ⟨i,off+n.toNat*sz,none⟩))
  | _,_,_=>none
 | _,_,_=>none
def evIndex(P:Program)(t:TypeId)(x ix:Value):Option Value:=match P.underlying t,x,ix with
 | some (.array len e),.agg cs,.int _ n=>match decide (0<=n),decide (n<(len:Int)),sizeO P e with
  | true,true,some sz=>partO P e cs (n.toNat*sz)
  | _,_,_=>none
 | _,_,_=>none
def boundO(d y:Nat):Option Value->Option Nat
 | none=>some d
 | some (.int _ n)=>match decide (0<=n),decide (n<=(y:Int)) with
  | true,true=>some n.toNat
  | _,_=>none
 | _=>none
def evSlice(P:Program)(t:TypeId)(x:Value)(lo hi:Option Value):Option Value:=match P.underlying t,x with
 | some (.slice e),.slice (some ⟨i,off,none⟩) len z=>match boundO len len hi,sizeO P e with
  | some b,some sz=>match boundO 0 b lo,Nat.beq z sz with
   | some a,true=>some (.slice (some ⟨i,off+a*z,none⟩) (b-a) z)
   | _,_=>none
  | _,_=>none
 | some (.slice e),.slice none 0 0=>match boundO 0 0 hi,boundO 0 0 lo,sizeO P e with
  | some _,some _,some _=>some (.slice none 0 0)
  | _,_,_=>none
 | _,_=>none
def evNews(P:Program)(h:Hp)(e:TypeId)(xt:TypeId):Value->Option (Nat×List Value)
 | .slice none 0 0=>match P.underlying xt with
  | some (.slice _)=>some (0,[])
  | _=>none
 | .slice (some ⟨j,o,none⟩) k z=>match P.underlying xt,sizeO P e,cellsAt h j with
  | some (.slice _),some sz,some c=>match cut c o (k*sz),Nat.beq z sz with
   | some l,true=>some (k,l)
   | _,_=>none
  | _,_,_=>none
 | _=>none
def evAppend(P:Program)(h:Hp)(ts:List TypeId)(s x:Value):Option (Value×Hp):=match ts with
 | [st,xt]=>match P.underlying st with
  | some (.slice e)=>match P.info? e,evNews P h e xt x with
   | some inf,some (k,news)=>match k,inf.zero with
    | 0,_=>match s with
     | .slice none 0 0=>some (s,h)
     | .slice (some ⟨_,_,none⟩) _ _=>some (s,h)
     | _=>none
    | k+1,some z=>match ground z,Nat.beq z.cells.size inf.size,Nat.ble 1 inf.size,news.all Value.oneCell' with
     | true,true,true,true=>match s with
      | .slice none 0 0=>match Nat.ble ((k+1)*inf.bytes) 140737488355328,Nat.ble (k+1) 9007199254740992 with
       | true,true=>some (.slice (some ⟨h.length,0,none⟩) (k+1) inf.size,h++[.cells news true])
       | _,_=>none
      | .slice (some ⟨i,off,none⟩) n z=>match ownAt h i,Nat.ble ((n+(k+1))*inf.bytes) 140737488355328,Nat.ble (n+(k+1)) 9007199254740992,Nat.beq z inf.size with
       | some c,true,true,true=>match cut c off (n*inf.size) with
        | some olds=>some (.slice (some ⟨h.length,0,none⟩) (n+(k+1)) inf.size,h.set i .dead++[.cells (olds++news) true])
        | none=>none
       | _,_,_,_=>none
      | _=>none
     | _,_,_,_=>none
    | _,none=>none
   | _,_=>none
  | _=>none
 | _=>none
def mpE(es:List (Value×Value)):List MapEntry:=es.map fun x=>⟨x.1,x.2,0⟩
def isKeyB:TypeDesc->Value->Bool
 | .int k,.int j _=>decide (j=k)
 | .string,.string _=>true
 | _,_=>false
def mpAt(h:Hp)(i:Nat):Option (List (Value×Value)):=match h[i]? with | some (.mp es)=>some es | _=>none
def mpFind(P:Program)(kt:TypeId)(es:List (Value×Value))(k:Value):Option (Option (Nat×Value)):=match P.underlying kt with
 | some d=>match isKeyB d k&&es.all (fun x=>isKeyB d x.1) with
  | true=>Instr.findNow d k (mpE es) 0
  | false=>none
 | none=>none
def evLookup(P:Program)(h:Hp)(t:TypeId)(x k:Value)(ok:Bool):Option Value:=match P.underlying t,x with
 | some (.map kt et),.map (some i)=>match mpAt h i with
  | some es=>match mpFind P kt es k with
   | some (some (_,v))=>match ok with
    | true=>some (.tuple #[v,.bool true])
    | false=>some v
   | some none=>match zeroO P et with
    | some z=>match ground z,ok with
     | true,true=>some (.tuple #[z,.bool false])
     | true,false=>some z
     | false,_=>none
    | none=>none
   | none=>none
  | none=>none
 | _,_=>none
def evMapUpdate(P:Program)(h:Hp)(t:TypeId)(x k v:Value):Option Hp:=match P.underlying t,x with
 | some (.map kt _),.map (some i)=>match mpAt h i with
  | some es=>match ground k&&ground v with
   | true=>match mpFind P kt es k with
    | some (some (j,_))=>some (h.set i (.mp (es.set j (k,v))))
    | some none=>some (h.set i (.mp (es++[(k,v)])))
    | none=>none
   | false=>none
  | none=>none
 | _,_=>none
def evMethod(P:Program)(h:Hp)(name:String):Value->Option (FuncId×Value)
 | .iface t v=>match P.info? t with
  | some i=>match i.methods.find? (·.name==name) with
   | some mt=>match mt.path.toList,mt.func,P.underlying t with
    | [],some (f,true),some (.pointer _)=>some (f,v)
    | [],some (f,false),some (.pointer e)=>match v with
     | .pointer (some _)=>match evLoad P h e v with
      | some r=>some (f,r)
      | none=>none
     | _=>none
    | [],some (f,false),some d=>match isAggD d with
     | true=>some (f,v)
     | false=>none
    | _,_,_=>none
   | none=>none
  | none=>none
 | _=>none
def evClear(P:Program)(h:Hp)(t:TypeId):Value->Option Hp
 | .slice none 0 0=>match P.underlying t with
  | some (.slice _)=>some h
  | _=>none
 | .slice (some ⟨i,off,none⟩) n z=>match P.underlying t with
  | some (.slice e)=>match n with
   | 0=>some h
   | _=>match zeroO P e,ownAt h i with
    | some zv,some c=>match ground zv,Nat.beq zv.cells.size z,Nat.ble (off+n*z) c.length&&((Array.range (n*z)).map (zv.cells[·%zv.cells.size]!)).toList.all Value.oneCell' with
     | true,true,true=>some (h.set i (.cells (c.take off++((Array.range (n*z)).map (zv.cells[·%zv.cells.size]!)).toList++c.drop (off+n*z)) true))
     | _,_,_=>none
    | _,_=>none
  | _=>none
 | _=>none
def evEq(P:Program)(h:Hp)(t:TypeId)(x y:Value):Option Bool:=match P.underlying t,x,y with
 | some (.pointer _),.pointer none,.pointer b=>some b.isNone
 | some (.pointer _),.pointer (some _),.pointer none=>some false
 | some (.pointer e),.pointer (some ⟨i,o,none⟩),.pointer (some ⟨j,o',none⟩)=>match sizeO P e,ownAt h i,ownAt h j with
  | some (_+1),some _,some _=>match Nat.beq i j with
   | true=>some (Nat.beq o o')
   | false=>some false
  | _,_,_=>none
 | some (.slice _),.slice none _ _,.slice b _ _=>some b.isNone
 | some (.slice _),.slice (some _) _ _,.slice none _ _=>some false
 | some (.map _ _),.map none,.map b=>some b.isNone
 | some (.map _ _),.map (some _),.map none=>some false
 | some (.func ..),.nilFunc,.func ..=>some false
 | some (.func ..),.func ..,.nilFunc=>some false
 | some (.interface _),.nilIface,.iface ..=>some false
 | some (.interface _),.iface ..,.nilIface=>some false
 | _,_,_=>none
def evNil:Value->Option Value
 | .pointer (some a)=>some (.pointer (some a))
 | .iface t v=>some (.iface t v)
 | .func (.func f) a b=>some (.func (.func f) a b)
 | _=>none
def evAssert(P:Program)(v:Value)(t:TypeId)(ok:Bool):Option Value:=match P.underlying t,v with
 | some (.interface _),_=>none
 | some _,.iface u x=>match Nat.beq u t,ok with
  | true,true=>some (.tuple #[x,.bool true])
  | true,false=>some x
  | false,true=>match zeroO P t with
   | some z=>match ground z with
    | true=>some (.tuple #[z,.bool false])
    | false=>none
   | none=>none
  | false,false=>none
 | some _,.nilIface=>match ok,zeroO P t with
  | true,some z=>match ground z with
    | true=>some (.tuple #[z,.bool false])
    | false=>none
  | _,_=>none
 | _,_=>none
inductive Out where
 | val (v:Value) (h:Hp)
 | call (f:FuncId) (args:List Value)
 | yield (i:Nat) (args:List Value)
def valO(h:Hp):Option Value->Option Out
 | some v=>some (.val v h)
 | none=>none
def newO:Option (Value×Hp)->Option Out
 | some (v,h)=>some (.val v h)
 | none=>none
def evGround(P:Program)(h:Hp)(E:Env)(o:Oper):Option Out:=match evalL E o.op.operands.toList with
 | some vs=>match vs.all ground with
  | true=>match pureRun P (execOp (fun x=>(evalO E x).getD undef) o) with
   | some (.value v)=>match ground v with
    | true=>some (.val v h)
    | false=>none
   | some .skip=>none
   | _=>none
  | false=>none
 | none=>none
def partsO(E:Env):List (Nat×Operand)->Option (List (Nat×Value))
 | []=>some []
 | (i,x)::l=>match evalO E x,partsO E l with
  | some v,some r=>some ((i,v)::r)
  | _,_=>none
def optO(E:Env):Option Operand->Option (Option Value)
 | none=>some none
 | some x=>match evalO E x with
  | some v=>some (some v)
  | none=>none
def evCallV(f:Value)(args:List Value):Option Out:=match f with
 | .func (.func g) first captured=>some (.call g (first.toList++args++captured.toList))
 | .func (.yield i) _ _=>some (.yield i args)
 | _=>none
def v1(E:Env)(x:Operand)(k:Value->Option Out):Option Out:=match evalO E x with
 | some v=>k v
 | none=>none
def v2(E:Env)(x y:Operand)(k:Value->Value->Option Out):Option Out:=match evalO E x,evalO E y with
 | some v,some u=>k v u
 | _,_=>none
def evBuiltin(P:Program)(h:Hp)(E:Env)(o:Oper)(b:Builtin)(args:List Operand)(ts:List TypeId):Option Out:=match b with
 | .append=>match args with
  | [s,x]=>v2 E s x fun s x=>newO (evAppend P h ts s x)
  | _=>none
 | .len=>match args,ts with
  | [s],[t]=>v1 E s fun s=>match s,P.underlying t with
   | .slice _ n _,some (.slice _)=>some (.val (.int .i64 n) h)
   | .slice ..,_=>none
   | _,_=>evGround P h E o
  | _,_=>none
 | .clear=>match args,ts with
  | [s],[t]=>v1 E s fun s=>match evClear P h t s with
   | some h'=>some (.val (.tuple #[]) h')
   | none=>none
  | _,_=>none
 | _=>evGround P h E o
def evOp(P:Program)(h:Hp)(E:Env)(o:Oper):Option Out:=match o.op with
 | .move x | .assign x=>v1 E x fun v=>some (.val v h)
 | .pick c a b=>v1 E c fun c=>match c with
  | .bool true=>v1 E a fun v=>some (.val v h)
  | .bool false=>v1 E b fun v=>some (.val v h)
  | _=>none
 | .alloc t=>newO (evAlloc P h t)
 | .box _ x=>v1 E x fun v=>newO (some (evNew h v.cells.toList))
 | .build t ps=>match partsO E ps.toList with
  | some l=>valO h (evBuild P t l)
  | none=>none
 | .buildSlice t n ps=>match partsO E ps.toList with
  | some l=>newO (evBuildSlice P h t n l)
  | none=>none
 | .makeSlice t l c=>v2 E l c fun l c=>match l,c with
  | .int _ n,.int _ k=>newO (evMakeSlice P h t n k)
  | _,_=>none
 | .makeMap t none=>newO (some (.map (some h.length),h++[.mp []]))
 | .lookup t x k ok=>v2 E x k fun x k=>valO h (evLookup P h t x k ok)
 | .mapUpdate t x k y=>v2 E x k fun x k=>v1 E y fun y=>match evMapUpdate P h t x k y with
  | some h'=>some (.val undef h')
  | none=>none
 | .load t a=>v1 E a fun a=>valO h (evLoad P h t a)
 | .store t a x=>v2 E a x fun a x=>match evStore P h t a x with
  | some h'=>some (.val undef h')
  | none=>none
 | .nilCheck x=>v1 E x fun v=>valO h (evNil v)
 | .makeInterface t x=>v1 E x fun v=>match P.underlying t with
  | some (.interface _)=>none
  | some _=>some (.val (.iface t v) h)
  | none=>none
 | .makeFunc f first captured=>match f with
  | .func _=>match evalL E first.toList,evalL E captured.toList with
   | some a,some b=>some (.val (.func f a.toArray b.toArray) h)
   | _,_=>none
  | _=>none
 | .fieldAddr t x f=>v1 E x fun v=>valO h (evFieldAddr P t v f)
 | .field t x f=>v1 E x fun v=>valO h (evField P t v f)
 | .indexAddr t x ix=>v2 E x ix fun x ix=>valO h (evIndexAddr P t x ix)
 | .index t x ix=>v2 E x ix fun v ix=>match v with
  | .agg _=>valO h (evIndex P t v ix)
  | _=>evGround P h E o
 | .slice t x lo hi none=>match optO E lo,optO E hi with
  | some lo,some hi=>v1 E x fun v=>match v with
   | .slice ..=>valO h (evSlice P t v lo hi)
   | _=>evGround P h E o
  | _,_=>none
 | .extract t i=>v1 E t fun v=>match v with
  | .tuple vs=>valO h vs[i]?
  | _=>none
 | .typeAssert x _ t ok=>v1 E x fun v=>valO h (evAssert P v t ok)
 | .binOp op t x y _=>v2 E x y fun a b=>match ground a&&ground b with
  | true=>evGround P h E o
  | false=>match op with
   | .eql=>match evEq P h t a b with
    | some r=>some (.val (.bool r) h)
    | none=>none
   | .neq=>match evEq P h t a b with
    | some r=>some (.val (.bool (!r)) h)
    | none=>none
   | _=>none
 | .unOp .. | .convert ..=>evGround P h E o
 | .call c=>match c.callee with
  | .value f=>match evalL E c.args.toList with
   | some l=>v1 E f fun f=>evCallV f l
   | none=>none
  | .builtin b=>evBuiltin P h E o b c.args.toList c.argTypes.toList
  | .invoke r name=>match evalL E c.args.toList with
   | some l=>v1 E r fun r=>match evMethod P h name r with
    | some (f,x)=>some (.call f (x::l))
    | none=>none
   | none=>none
 | _=>none
end Go.Ev
namespace Go.Ev
open Go.RowKit
variable {P:Program} {B:Bs} {w0:World} {m:Pl} {h:Hp} {w:World} {E:Env} {a:Act}
theorem look_cons(k:Nat)(v:Value)(E:Env)(t:Nat):look ((k,v)::E) t=if k=t then some v else look E t:=by
 by_cases hk:k=t
 ·subst hk;simp[look]
 ·have h1:Nat.beq k t=false:=by
   cases hb:Nat.beq k t with
   | false=>rfl
   | true=>exact absurd (Nat.eq_of_beq_eq_true hb) hk
  simp[look,h1,hk]
theorem eval_tmp{t:Nat}{u:Value}(hu:a.tmps[t]?=some u):a.eval (.tmp t)=u:=by
 simp[Act.eval,hu,Array.getD_eq_getD_getElem?]
theorem evalO_rel(he:EnvRel m E a.tmps){x:Operand}{v:Value}(hv:evalO E x=some v):VRel m v (a.eval x):=by
 cases x with
 | tmp t =>
  obtain⟨u,hu,hr⟩:=he t v hv
  rw[eval_tmp hu];exact hr
 | const c =>
  simp only[evalO] at hv
  split at hv
  ·rename_i hg;cases hv;exact VRel.refl m _ hg
  ·cases hv
 | func f =>
  simp only[evalO] at hv;cases hv
  exact .func _ _ _ _ _ rfl rfl (fun l e=>by cases e) (fun j h'=>by simp at h') (fun j h'=>by simp at h')
 | global g=>simp[evalO] at hv
theorem evalL_rel(he:EnvRel m E a.tmps):∀ {xs:List Operand} {vs:List Value},evalL E xs=some vs->VRels m vs (xs.map a.eval)
 | [],vs,hv=>by simp[evalL] at hv;subst hv;exact VRels.nil m
 | x::xs,vs,hv=>by
  simp only[evalL] at hv
  split at hv
  ·rename_i v vs' h1 h2;cases hv;exact .cons (evalO_rel he h1) (evalL_rel he h2)
  ·cases hv
theorem pureRun_run:∀ (s:Sem Next) {n:Next},pureRun P s=some n->∀ w,s.run P w=.ok n w
 | .pure a,n,hs,w=>by simp[pureRun] at hs;subst hs;rfl
 | .program k,n,hs,w=>by simp only[pureRun] at hs;simp only[Sem.run];exact pureRun_run (k P) hs w
 | .mark _ k,n,hs,w=>by simp only[pureRun] at hs;simp only[Sem.run];exact pureRun_run k hs w
 | .load ..,n,hs,w=>by simp[pureRun] at hs
 | .store ..,n,hs,w=>by simp[pureRun] at hs
 | .new ..,n,hs,w=>by simp[pureRun] at hs
 | .shape ..,n,hs,w=>by simp[pureRun] at hs
 | .freeze ..,n,hs,w=>by simp[pureRun] at hs
 | .frozen ..,n,hs,w=>by simp[pureRun] at hs
 | .getObj ..,n,hs,w=>by simp[pureRun] at hs
 | .setObj ..,n,hs,w=>by simp[pureRun] at hs
 | .choose ..,n,hs,w=>by simp[pureRun] at hs
 | .sys ..,n,hs,w=>by simp[pureRun] at hs
 | .halt ..,n,hs,w=>by simp[pureRun] at hs
theorem run_isAgg'{t:TypeId}{d:TypeDesc}(hd:P.underlying t=some d)(w:World):(isAgg t).run P w=.ok (isAggD d) w:=by
 unfold isAgg
 rw[Sem.run_bind,run_underlying hd w]
 cases d<;>simp[isAggD]
theorem run_sizeOf'{t:TypeId}{i:TypeInfo}(hi:P.info? t=some i)(w:World):(sizeOf t).run P w=.ok i.size w:=by
 simp[sizeOf,typeInfo,hi]
theorem run_sizeO{t:TypeId}{n:Nat}(hi:sizeO P t=some n)(w:World):(sizeOf t).run P w=.ok n w:=by
 unfold sizeO at hi
 split at hi
 ·rename_i i h1;cases hi;exact run_sizeOf' h1 w
 ·cases hi
theorem run_zeroO{t:TypeId}{z:Value}(hi:zeroO P t=some z)(w:World):(zeroValue t).run P w=.ok z w:=by
 unfold zeroO at hi
 split at hi
 ·rename_i i h1;simp[zeroValue,typeInfo,h1,hi]
 ·cases hi
theorem aggSize_some{t:TypeId}{n:Nat}(ha:aggSize P t=some (some n)):(∀ w:World,(isAgg t).run P w=.ok true w)/\(∀ w:World,(sizeOf t).run P w=.ok n w):=by
 unfold aggSize at ha
 split at ha
 ·rename_i d hd
  split at ha
  ·rename_i hg
   split at ha
   ·rename_i i hi;cases ha;exact⟨fun w=>by rw[run_isAgg' hd,hg],run_sizeOf' hi⟩
   ·cases ha
  ·cases ha
 ·cases ha
theorem aggSize_none{t:TypeId}(ha:aggSize P t=some none):∀ w:World,(isAgg t).run P w=.ok false w:=by
 unfold aggSize at ha
 split at ha
 ·rename_i d hd
  split at ha
  ·split at ha<;>cases ha
  ·rename_i hg;exact fun w=>by rw[run_isAgg' hd,hg]
 ·cases ha
theorem cellsAt_some{i:Nat}{c:List Value}(hc:cellsAt h i=some c):∃ rw,h[i]?=some (.cells c rw):=by
 unfold cellsAt at hc
 split at hc
 ·rename_i c' rw h1;cases hc;exact⟨rw,h1⟩
 ·cases hc
theorem ownAt_some{i:Nat}{c:List Value}(hc:ownAt h i=some c):h[i]?=some (.cells c true):=by
 unfold ownAt at hc
 split at hc
 ·rename_i c' h1;cases hc;exact h1
 ·cases hc
theorem cut_some{c l:List Value}{off n:Nat}(hc:cut c off n=some l):off+n<=c.length/\l=(c.drop off).take n:=by
 unfold cut at hc
 split at hc
 ·rename_i hb;cases hc;exact⟨Nat.le_of_ble_eq_true hb,rfl⟩
 ·cases hc
theorem VRel.ptr_inv{i off:Nat}{u:Value}(hr:VRel m (.pointer (some ⟨i,off,none⟩)) u):∃ p,m i=some p/\u=.pointer (some ⟨p.block,p.base+off,none⟩):=by
 cases hr with
 | ptr i off p h=>exact⟨p,h,rfl⟩
theorem evLoad_snd(s:Sim B w0 m h w){t:TypeId}{a v u:Value}(hl:evLoad P h t a=some v)(hr:VRel m a u) :
  ∃ x,(Instr.loadAt t u).run P w=.ok x w/\VRel m v x:=by
 unfold evLoad at hl
 split at hl
 ·rename_i i off
  obtain⟨p,hp,rfl⟩:=hr.ptr_inv
  split at hl
  ·rename_i c hc
   obtain⟨rw,ho⟩:=cellsAt_some hc
   split at hl
   ·rename_i n ha
    obtain⟨h1,h2⟩:=aggSize_some ha
    split at hl
    ·rename_i l hcut
     cases hl
     obtain⟨hn,rfl⟩:=cut_some hcut
     obtain⟨us,hus,hlen,hcell⟩:=s.cells hp ho hn
     refine⟨.agg us.toArray,?_,VRel.agg_l hus⟩
     have hload:=run_loadCells_list (P:=P) w ⟨p.block,p.base+off,none⟩ us hcell
     rw[hlen] at hload
     simp[Instr.loadAt,Instr.sureAddr,loadVar,h1,h2,hload]
    ·cases hl
   ·rename_i ha
    have h1:=aggSize_none ha
    obtain⟨x,hx,hxr⟩:=s.cell hp ho hl
    exact⟨x,by simp[Instr.loadAt,Instr.sureAddr,loadVar,h1,hx],hxr⟩
   ·cases hl
  ·cases hl
 ·cases hl
theorem VRel.cells_rel{v u:Value}(hr:VRel m v u):VRels m v.cells.toList u.cells.toList:=by
 cases hr with
 | agg a b h e=>exact VRels.of_arr h e
 | bool b=>exact .cons (.bool b) (.nil m)
 | int k n=>exact .cons (.int k n) (.nil m)
 | float k n=>exact .cons (.float k n) (.nil m)
 | complex k a b=>exact .cons (.complex k a b) (.nil m)
 | string s=>exact .cons (.string s) (.nil m)
 | ptrNil=>exact .cons .ptrNil (.nil m)
 | ptr i off p h=>exact .cons (.ptr i off p h) (.nil m)
 | sliceNil=>exact .cons .sliceNil (.nil m)
 | slice i off len z c p h hc hl hz=>exact .cons (.slice i off len z c p h hc hl hz) (.nil m)
 | sliceEnd i off z a hz=>exact .cons (.sliceEnd i off z a hz) (.nil m)
 | mapNil=>exact .cons .mapNil (.nil m)
 | map i p h=>exact .cons (.map i p h) (.nil m)
 | nilFunc=>exact .cons .nilFunc (.nil m)
 | func f a b c d h1 h2 hf e1 e2=>exact .cons (.func f a b c d h1 h2 hf e1 e2) (.nil m)
 | yield i p h=>exact .cons (.yield i p h) (.nil m)
 | nilIface=>exact .cons .nilIface (.nil m)
 | iface t v u h=>exact .cons (.iface t v u h) (.nil m)
 | tuple a b h e=>exact .cons (.tuple a b h e) (.nil m)
theorem VRel.one{v u:Value}(hr:VRel m v u):u.oneCell'=v.oneCell':=by cases hr<;>rfl
theorem VRels.one{vs us:List Value}(hr:VRels m vs us)(ho:vs.all Value.oneCell'=true):∀ u∈us,u.oneCell'=true:=by
 intro u hu
 obtain⟨j,hj,rfl⟩:=List.getElem_of_mem hu
 have hj':j<vs.length:=by rw[hr.1];exact hj
 have:=hr.2 j vs[j] us[j] (List.getElem?_eq_getElem hj') (List.getElem?_eq_getElem hj)
 rw[this.one]
 exact List.all_eq_true.1 ho _ (List.getElem_mem hj')
theorem evStore_len{t:TypeId}{a v:Value}{h h':Hp}(hl:evStore P h t a v=some h'):h.length<=h'.length:=by
 unfold evStore at hl
 split at hl
 ·split at hl
  ·split at hl
   ·cases hl;simp
   ·cases hl
  ·cases hl
 ·cases hl
theorem evStore_snd(s:Sim B w0 m h w){t:TypeId}{a v ua uv:Value}{h':Hp}(hl:evStore P h t a v=some h')(hra:VRel m a ua)(hrv:VRel m v uv) :
  ∃ w',(Instr.storeAt t ua uv).run P w=.ok () w'/\Sim B w0 m h' w':=by
 unfold evStore at hl
 split at hl
 ·rename_i i off
  obtain⟨p,hp,rfl⟩:=hra.ptr_inv
  split at hl
  ·rename_i c n hc hn
   split at hl
   ·rename_i h1 h2 h3
    cases hl
    have ho:=ownAt_some hc
    have hlen:v.cells.toList.length=n:=Nat.eq_of_beq_eq_true h1
    have hle:off+n<=c.length:=Nat.le_of_ble_eq_true h2
    have hcr:=hrv.cells_rel
    obtain⟨arr,ty,hb,hfit,hs⟩:=s.setRow (off:=off) hp ho hcr (by omega)
    refine⟨_,?_,hs⟩
    have hst:=run_storeCells_at P p.block (p.base+off) ty uv.cells.toList 0 arr w hb (by simpa using hfit) (hcr.one h3)
    simp only[Nat.add_zero] at hst
    have hsz:uv.cells.size=n:=by
     have:=hcr.1
     simp only[Array.length_toList] at this hlen
     omega
    simp[Instr.storeAt,Instr.sureAddr,storeVar,run_sizeO hn,hsz,hst]
   ·cases hl
  ·cases hl
 ·cases hl
def Good(B:Bs)(w0:World)(m:Pl)(h:Hp)(v:Value)(h':Hp)(r:Result Value):Prop :=
 ∃ m' u w',Stp m h m' h'/\Sim B w0 m' h' w'/\VRel m' v u/\r=.ok u w'/\(h'=h->m'=m)
theorem hp_longer{α:Prop}{h:Hp}{o:AObj}(e:h++[o]=h):α:=absurd (congrArg List.length e) (by simp)
theorem hp_longer'{α:Prop}{h:Hp}{i:Nat}{x o:AObj}(e:h.set i x++[o]=h):α:=absurd (congrArg List.length e) (by simp)
theorem evNew_snd(s:Sim B w0 m h w){c cs:List Value}(t:TypeId)(hc:VRels m c cs) :
  Good B w0 m h (ptrO h.length) (h++[.cells c true]) (.ok (.pointer (some ⟨w.heap.size,0,none⟩)) (w.alloc (.cells cs.toArray t))):=by
 have hs:=s.newCells c cs [] t hc
 simp only[List.append_nil,List.length_nil,Nat.add_zero] at hs
 exact⟨_,_,_,Stp.put _ _ (s.fresh (Nat.le_refl _)),hs,by simpa[ptrO] using VRel.ptr (m:=m.put h.length ⟨w.heap.size,0,cs.length⟩) h.length 0 _ (Pl.put_same _ _ _),rfl,fun e=>hp_longer e⟩
theorem ground_rels{z:Value}(hz:ground z=true):VRels m z.cells.toList z.cells.toList:=(VRel.refl m z hz).cells_rel
theorem evAlloc_snd(s:Sim B w0 m h w){t:TypeId}{v:Value}{h':Hp}(hl:evAlloc P h t=some (v,h')) :
  Good B w0 m h v h' ((Instr.alloc t true (.tuple #[])).run P w):=by
 unfold evAlloc at hl
 split at hl
 ·rename_i z hz
  split at hl
  ·rename_i hg
   cases hl
   have hn:=evNew_snd s t (ground_rels (m:=m) hg)
   have:(Instr.alloc t true (.tuple #[])).run P w=.ok (.pointer (some ⟨w.heap.size,0,none⟩)) (w.alloc (.cells z.cells t)):=by
    simp[Instr.alloc,run_zeroO hz,newVar,newRow]
   rw[this]
   simpa using hn
  ·cases hl
 ·cases hl
theorem evBox_snd(s:Sim B w0 m h w)(t:TypeId){x u:Value}(hr:VRel m x u) :
  Good B w0 m h (evNew h x.cells.toList).1 (evNew h x.cells.toList).2 ((Instr.box t u).run P w):=by
 have hn:=evNew_snd s t hr.cells_rel
 have:(Instr.box t u).run P w=.ok (.pointer (some ⟨w.heap.size,0,none⟩)) (w.alloc (.cells u.cells t)):=by
  simp[Instr.box,newVar,newRow]
 rw[this]
 simpa[evNew] using hn
theorem foldl_set_rel:∀ (l l':List Value) (k off:Nat) (cs ds:Array Value),VRels m l l'->VRels m cs.toList ds.toList ->
  VRels m ((l.zipIdx k).foldl (fun cs (c,j)=>cs.setIfInBounds (off+j) c) cs).toList ((l'.zipIdx k).foldl (fun cs (c,j)=>cs.setIfInBounds (off+j) c) ds).toList
 | [],[],_,_,_,_,_,hcs=>by simpa using hcs
 | [],_::_,_,_,_,_,hl,_=>by have:=hl.1;simp at this
 | _::_,[],_,_,_,_,hl,_=>by have:=hl.1;simp at this
 | x::l,y::l',k,off,cs,ds,hl,hcs=>by
  simp only[List.zipIdx_cons,List.foldl_cons]
  refine foldl_set_rel l l' (k+1) off _ _ ⟨by have:=hl.1;simpa using this,fun j v u hv hu=>hl.2 (j+1) v u (by simpa using hv) (by simpa using hu)⟩ ?_
  simp only[Array.toList_setIfInBounds]
  exact hcs.set _ (hl.2 0 x y rfl rfl)
theorem fill_rel(place:Nat->Option (Nat×Nat)):∀ (ps qs:List (Nat×Value)) (cs ds:Array Value) {out:Array Value},
  ps.map (·.1)=qs.map (·.1)->VRels m (ps.map (·.2)) (qs.map (·.2))->VRels m cs.toList ds.toList->Instr.fill place cs ps=some out ->
  ∃ out',Instr.fill place ds qs=some out'/\VRels m out.toList out'.toList
 | [],[],cs,ds,out,_,_,hcs,hf=>by simp only[Instr.fill] at hf ⊢;cases hf;exact⟨ds,rfl,hcs⟩
 | [],_::_,_,_,_,h1,_,_,_=>by simp at h1
 | _::_,[],_,_,_,h1,_,_,_=>by simp at h1
 | (i,v)::ps,(j,u)::qs,cs,ds,out,h1,h2,hcs,hf=>by
  simp only[List.map_cons,List.cons.injEq] at h1
  obtain⟨rfl,h1⟩:=h1
  have hvu:VRel m v u:=h2.2 0 v u rfl rfl
  have hcl:=hvu.cells_rel
  simp only[Instr.fill] at hf ⊢
  cases hpl:place i with
  | none=>simp[hpl] at hf
  | some q =>
   obtain⟨off,size⟩:=q
   simp only[hpl] at hf ⊢
   have e1:u.cells.size=v.cells.size:=by have:=hcl.1;simp only[Array.length_toList] at this;omega
   have e2:ds.size=cs.size:=by have:=hcs.1;simp only[Array.length_toList] at this;omega
   rw[e1,e2]
   split at hf
   ·cases hf
   ·rename_i hc
    rw[if_neg hc]
    refine fill_rel place ps qs _ _ h1 ⟨by have:=h2.1;simpa using this,fun k x y hx hy=>h2.2 (k+1) x y (by simpa using hx) (by simpa using hy)⟩ ?_ hf
    have:=foldl_set_rel v.cells.toList u.cells.toList 0 off cs ds hcl hcs
    rw[<- Array.foldl_toList,<- Array.foldl_toList,Array.toList_zipIdx,Array.toList_zipIdx]
    exact this
theorem partsO_rel(he:EnvRel m E a.tmps):∀ {ps:List (Nat×Operand)} {l:List (Nat×Value)},partsO E ps=some l ->
  l.map (·.1)=(ps.map (fun x=>(x.1,a.eval x.2))).map (·.1)/\VRels m (l.map (·.2)) ((ps.map (fun x=>(x.1,a.eval x.2))).map (·.2))
 | [],l,hl=>by simp[partsO] at hl;subst hl;exact⟨rfl,VRels.nil m⟩
 | (i,x)::ps,l,hl=>by
  simp only[partsO] at hl
  split at hl
  ·rename_i v r h1 h2
   cases hl
   obtain⟨k1,k2⟩:=partsO_rel he h2
   exact⟨by simpa using k1,.cons (evalO_rel he h1) k2⟩
  ·cases hl
theorem run_places:∀ (fs:List Field) {pl:List (Nat×Nat)} (w:World),placesO P fs=some pl ->
  (fs.mapM (fun f=>do pure (f.offset,<- sizeOf f.type):Field->Sem (Nat×Nat))).run P w=.ok pl w
 | [],pl,w,hp=>by simp[placesO] at hp;subst hp;simp
 | f::fs,pl,w,hp=>by
  simp only[placesO] at hp
  split at hp
  ·rename_i n r h1 h2
   cases hp
   rw[List.mapM_cons]
   simp only[Sem.run_bind,run_sizeO h1,Result.andThen_ok,Sem.run_pure]
   rw[run_places fs w h2]
   rfl
  ·cases hp
theorem run_placesA{fs:Array Field}{pl:List (Nat×Nat)}(w:World)(hp:placesO P fs.toList=some pl) :
  (fs.mapM (fun f=>do pure (f.offset,<- sizeOf f.type):Field->Sem (Nat×Nat))).run P w=.ok pl.toArray w:=by
 rw[Array.mapM_eq_mapM_toList,Sem.run_map,run_places fs.toList w hp]
 rfl
theorem evBuild_snd(s:Sim B w0 m h w){t:TypeId}{ps:List (Nat×Value)}{qs:Array (Nat×Value)}{v:Value}(hl:evBuild P t ps=some v)
  (h1:ps.map (·.1)=qs.toList.map (·.1)) (h2:VRels m (ps.map (·.2)) (qs.toList.map (·.2))):Good B w0 m h v h ((Instr.build t qs).run P w):=by
 unfold evBuild at hl
 split at hl
 ·rename_i z hz
  split at hl
  ·rename_i hg
   split at hl
   ·rename_i fields hu
    split at hl
    ·rename_i pl hpl
     split at hl
     ·rename_i cs hf
      cases hl
      obtain⟨out,ho,hr⟩:=fill_rel _ ps qs.toList _ _ h1 h2 (ground_rels (m:=m) hg) hf
      refine⟨m,.agg out,w,Stp.refl m h,s,.agg _ _ (by have:=hr.1;simpa using this) (by simpa using hr.arr),?_⟩
      have hpm:=run_placesA (P:=P) w hpl
      unfold Instr.build
      rw[Sem.run_bind,run_zeroO hz]
      simp only[Result.andThen_ok]
      rw[Sem.run_bind,run_underlying hu]
      simp only[Result.andThen_ok]
      rw[Sem.run_bind,hpm]
      simp only[Result.andThen_ok]
      rw[ho]
      simp
     ·cases hl
    ·cases hl
   ·rename_i n e hu
    split at hl
    ·rename_i sz hsz
     split at hl
     ·rename_i cs hf
      cases hl
      obtain⟨out,ho,hr⟩:=fill_rel _ ps qs.toList _ _ h1 h2 (ground_rels (m:=m) hg) hf
      refine⟨m,.agg out,w,Stp.refl m h,s,.agg _ _ (by have:=hr.1;simpa using this) (by simpa using hr.arr),?_⟩
      exact⟨by simp[Instr.build,run_zeroO hz,run_underlying hu,run_sizeO hsz,ho],fun _=>rfl⟩
     ·cases hl
    ·cases hl
   ·cases hl
  ·cases hl
 ·cases hl
end Go.Ev
namespace Go.Ev
open Go.RowKit
variable {P:Program} {B:Bs} {w0:World} {m:Pl} {h:Hp} {w:World} {E:Env} {a:Act}
theorem zeros_rel{z:Value}(hz:ground z=true)(n:Nat) :
  VRels m ((Array.range n).map (z.cells[·%z.cells.size]!)).toList ((Array.range n).map (z.cells[·%z.cells.size]!)).toList:=by
 refine⟨rfl,fun j v u hv hu=>?_⟩
 rw[hv] at hu;cases hu
 simp only[Array.getElem?_toList,Array.getElem?_map,Option.map_eq_some_iff] at hv
 obtain⟨k,_,rfl⟩:=hv
 by_cases hc:k%z.cells.size<z.cells.size
 ·rw[getElem!_pos z.cells _ hc]
  have:=(ground_rels (m:=m) hz).2 (k%z.cells.size) z.cells[k%z.cells.size] z.cells[k%z.cells.size] (by simp) (by simp)
  exact this
 ·rw[getElem!_neg z.cells _ hc]
  exact .bool _
theorem size_of_fill(place:Nat->Option (Nat×Nat)):∀ (ps:List (Nat×Value)) (cs:Array Value) {out:Array Value},Instr.fill place cs ps=some out->out.size=cs.size
 | [],cs,out,hf=>by simp only[Instr.fill] at hf;cases hf;rfl
 | (i,v)::ps,cs,out,hf=>by
  simp only[Instr.fill] at hf
  cases hpl:place i with
  | none=>simp[hpl] at hf
  | some q =>
   obtain⟨off,size⟩:=q
   simp only[hpl] at hf
   split at hf
   ·cases hf
   ·rw[size_of_fill place ps _ hf,<- Array.foldl_toList]
    generalize v.cells.zipIdx.toList=l
    rename_i hcond
    clear hf hcond
    induction l generalizing cs with
    | nil=>rfl
    | cons x l ih=>simp only[List.foldl_cons];rw[ih];simp
theorem evBuildSlice_snd(s:Sim B w0 m h w){t:TypeId}{len:Nat}{ps:List (Nat×Value)}{qs:Array (Nat×Value)}{v:Value}{h':Hp}(hl:evBuildSlice P h t len ps=some (v,h'))
  (h1:ps.map (·.1)=qs.toList.map (·.1)) (h2:VRels m (ps.map (·.2)) (qs.toList.map (·.2))):Good B w0 m h v h' ((Instr.buildSlice t len qs).run P w):=by
 unfold evBuildSlice at hl
 split at hl
 ·rename_i e hu
  split at hl
  ·rename_i z n hz hn
   split at hl
   ·rename_i hg hn1 hn2
    split at hl
    ·rename_i cs hf
     cases hl
     have hn1':=Nat.le_of_ble_eq_true hn1
     have hn2':=Nat.le_of_ble_eq_true hn2
     obtain⟨out,ho,hr⟩:=fill_rel _ ps qs.toList _ _ h1 h2 (zeros_rel (m:=m) hg (len*n)) hf
     have hsz:out.size=len*n:=by rw[size_of_fill _ _ _ ho];simp
     have hs:=s.newCells cs.toList out.toList [] e hr
     simp only[List.append_nil,List.length_nil,Nat.add_zero,Array.length_toList,hsz] at hs
     refine⟨_,.slice (some ⟨w.heap.size,0,none⟩) len len,_,Stp.put _ _ (s.fresh (Nat.le_refl _)),hs,?_,?_,fun e=>hp_longer e⟩
     ·have:=VRel.slice (m:=m.put h.length ⟨w.heap.size,0,len*n⟩) h.length 0 len n len _ (Pl.put_same _ _ _) (by simp) (Nat.le_refl _) hn1'
      simpa using this
     ·have hlim:¬ (16777216<len*n):=by omega
      by_cases h0:len*n=0
      ·have hz0:len=0:=by
        rcases Nat.mul_eq_zero.1 h0 with h | h
        ·exact h
        ·omega
       subst hz0
       simp only[Nat.zero_mul] at ho
       have e0:∀ f:Nat->Value,(Array.range 0).map f=#[]:=fun f=>by simp
       rw[e0] at ho
       simp[Instr.buildSlice,run_underlying hu,run_sizeO hn,e0,ho,newRow]
      ·simp[Instr.buildSlice,run_underlying hu,run_sizeO hn,hlim,h0,run_zeroO hz,ho,newRow]
    ·cases hl
   ·cases hl
  ·cases hl
 ·cases hl
theorem evMakeSlice_snd(s:Sim B w0 m h w){t:TypeId}{n k:Int}{kd kd':IntKind}{v:Value}{h':Hp}(hl:evMakeSlice P h t n k=some (v,h')):Good B w0 m h v h' ((Instr.makeSlice t (.int kd n) (.int kd' k)).run P w):=by
 unfold evMakeSlice at hl
 split at hl
 ·rename_i e len len' hu
  split at hl
  ·rename_i inf hb hi
   split at hl
   ·rename_i z hz
    split at hl
    ·rename_i hg hn1 hn2 hn3
     cases hl
     have hll:len=len':=Nat.eq_of_beq_eq_true hb
     subst hll
     have hn1':=Nat.le_of_ble_eq_true hn1
     have hn2':=Nat.le_of_ble_eq_true hn2
     have hn3':=Nat.le_of_ble_eq_true hn3
     have hs:=s.newCells ((Array.range (len*inf.size)).map (z.cells[·%z.cells.size]!)).toList ((Array.range (len*inf.size)).map (z.cells[·%z.cells.size]!)).toList [] e (zeros_rel (m:=m) hg (len*inf.size))
     simp only[List.append_nil,List.length_nil,Nat.add_zero,Array.length_toList,Array.size_map,Array.size_range] at hs
     refine⟨_,.slice (some ⟨w.heap.size,0,none⟩) len len,_,Stp.put _ _ (s.fresh (Nat.le_refl _)),hs,?_,?_,fun e=>hp_longer e⟩
     ·have:=VRel.slice (m:=m.put h.length ⟨w.heap.size,0,len*inf.size⟩) h.length 0 len inf.size len _ (Pl.put_same _ _ _) (by simp) (Nat.le_refl _) hn1'
      simpa using this
     ·have hw:IntKind.i64.wrap (len:Int)=(len:Int):=by
       simp[IntKind.wrap,IntKind.signed,IntKind.bits]
       omega
      have hb0:((inf.bytes:Int)*(len:Int))<=281474976710656:=by
       have h:=Int.ofNat_le.2 hn3'
       rw[Int.natCast_mul] at h
       exact h
      have hlt:¬ ((len:Int)<0):=by omega
      have hgt:¬ ((inf.bytes:Int)*(len:Int) > 281474976710656):=by omega
      have hti:∀ w:World,(typeInfo e).run P w=.ok inf w:=fun w=>by simp[typeInfo,hi]
      have hsz:∀ w:World,(sizeOf e).run P w=.ok inf.size w:=fun w=>run_sizeOf' hi w
      have hzr:∀ w:World,(zeroValue e).run P w=.ok z w:=fun w=>by simp[zeroValue,typeInfo,hi,hz]
      have hai:∀ (kd:IntKind) (w:World),(asInt (.int kd (len:Int))).run P w=.ok (len:Int) w:=fun kd w=>by simp[asInt,asIntOf]
      have hl2:((Array.range (len*inf.size)).map (z.cells[·%z.cells.size]!)).toList.toArray=(Array.range (len*inf.size)).map (z.cells[·%z.cells.size]!):=Array.toArray_toList
      rw[hl2]
      simp only[Int.ofNat_eq_natCast]
      unfold Instr.makeSlice
      simp only[Sem.run_bind,run_underlying hu,Result.andThen_ok,hai,hti,hw,hlt,hgt,Int.toNat_natCast,hsz,run_askRoom,decide_false,decide_true,Bool.or_self,Bool.false_eq_true,if_false,Int.lt_irrefl,gt_iff_lt]
      have hgt':¬ (281474976710656<(inf.bytes:Int)*(len:Int)):=by omega
      by_cases h0:len*inf.size=0
      ·have e0:∀ f:Nat->Value,(Array.range 0).map f=#[]:=fun f=>by simp
       simp only[h0,e0]
       simp[hgt',h0,newRow,hsz]
       rw[e0]
      ·simp[hgt',h0,newRow,hsz,hzr]
    ·cases hl
   ·cases hl
  ·cases hl
 ·cases hl
theorem partO_snd{t:TypeId}{cs ds:Array Value}{off:Nat}{v:Value}(hp:partO P t cs off=some v)(hr:VRels m cs.toList ds.toList)(w:World) :
  ∃ u,(part t ds off).run P w=.ok u w/\VRel m v u:=by
 unfold partO at hp
 split at hp
 ·rename_i n ha
  cases hp
  obtain⟨h1,h2⟩:=aggSize_some ha
  refine⟨.agg (ds.extract off (off+n)),by simp[part,h1,h2],.agg _ _ ?_ fun j hj hj'=>?_⟩
  ·have:=hr.1
   simp only[Array.length_toList] at this
   simp[this]
  ·simp only[Array.getElem_extract]
   exact hr.2 (off+j) _ _ (by simp) (by simp)
 ·rename_i ha
  have h1:=aggSize_none ha
  obtain⟨u,hu,hur⟩:=hr.get (j:=off) (by simpa using hp)
  exact⟨u,by simp only[Array.getElem?_toList] at hu;simp[part,h1,hu],hur⟩
 ·cases hp
theorem VRel.agg_inv{cs:Array Value}{u:Value}(hr:VRel m (.agg cs) u):∃ ds,u=.agg ds/\VRels m cs.toList ds.toList:=by
 cases hr with
 | agg a b h e=>exact⟨b,rfl,VRels.of_arr h e⟩
theorem evField_snd{t:TypeId}{x u v:Value}{f:Nat}(hl:evField P t x f=some v)(hr:VRel m x u)(w:World):∃ r,(Instr.field t u f).run P w=.ok r w/\VRel m v r:=by
 unfold evField at hl
 split at hl
 ·rename_i fields cs hu
  obtain⟨ds,rfl,hds⟩:=hr.agg_inv
  split at hl
  ·rename_i fl hfl
   obtain⟨r,h1,h2⟩:=partO_snd hl hds w
   exact⟨r,by simp[Instr.field,run_underlying hu,hfl,asAgg,h1],h2⟩
  ·cases hl
 ·cases hl
theorem evFieldAddr_snd{t:TypeId}{x u v:Value}{f:Nat}(hl:evFieldAddr P t x f=some v)(hr:VRel m x u)(w:World):∃ r,(Instr.fieldAt t u f).run P w=.ok r w/\VRel m v r:=by
 unfold evFieldAddr at hl
 split at hl
 ·rename_i fields i off hu
  obtain⟨p,hp,rfl⟩:=hr.ptr_inv
  split at hl
  ·rename_i fl hfl
   split at hl
   ·rename_i n hn
    cases hl
    refine⟨.pointer (some ⟨p.block,p.base+(off+fl.offset),none⟩),?_,.ptr i _ p hp⟩
    have e:(⟨p.block,p.base+off,none⟩:Addr).add fl.offset=⟨p.block,p.base+(off+fl.offset),none⟩:=by
     unfold Addr.add;split<;>simp_all [Nat.add_assoc]
    simp[Instr.fieldAt,run_underlying hu,hfl,Instr.sureAddr,fieldPlace,run_sizeO hn,e]
   ·cases hl
  ·cases hl
 ·cases hl
theorem add_addr(b k n:Nat):(⟨b,k,none⟩:Addr).add n=⟨b,k+n,none⟩:=by
 unfold Addr.add;split<;>simp_all
theorem VRel.int_inv{k:IntKind}{n:Int}{u:Value}(hr:VRel m (.int k n) u):u=.int k n:=by
 cases hr with
 | int k n=>rfl
theorem VRel.slice_inv{i off len z:Nat}{u:Value}(hr:VRel m (.slice (some ⟨i,off,none⟩) len z) u) :
  0<z/\((∃ p k,m i=some p/\off+k*z=p.ext/\len<=k/\u=.slice (some ⟨p.block,p.base+off,none⟩) len k)\/(len=0/\∃ b,u=.slice (some b) 0 0)):=by
 cases hr with
 | slice i off len z c p h hc hl hz=>exact⟨hz,.inl ⟨p,c,h,hc,hl,rfl⟩⟩
 | sliceEnd i off z b hz=>exact⟨hz,.inr ⟨rfl,b,rfl⟩⟩
theorem evIndexAddr_snd{t:TypeId}{x u ix iu v:Value}(hl:evIndexAddr P t x ix=some v)(hr:VRel m x u)(hi:VRel m ix iu)(w:World) :
  ∃ r,(Instr.indexAt t u iu).run P w=.ok r w/\VRel m v r:=by
 unfold evIndexAddr at hl
 split at hl
 ·rename_i e i off len c kk n hu
  have:=hi.int_inv
  subst this
  obtain⟨hz,hcase⟩:=hr.slice_inv
  split at hl
  ·rename_i sz h1 h2 hsz
   cases hl
   have h1':0<=n:=by simpa using h1
   have h2':n<(len:Int):=by simpa using h2
   rcases hcase with⟨p,k,hp,_,_,rfl⟩ | ⟨rfl,_⟩
   ·refine⟨.pointer (some ⟨p.block,p.base+(off+n.toNat*sz),none⟩),?_,.ptr i _ p hp⟩
    simp[Instr.indexAt,asIntOf,run_underlying hu,h1',h2',run_sizeO hsz,add_addr,Nat.add_assoc]
   ·simp at h2';omega
  ·cases hl
 ·rename_i len e i off kk n hu
  have:=hi.int_inv
  subst this
  obtain⟨p,hp,rfl⟩:=hr.ptr_inv
  split at hl
  ·rename_i sz h1 h2 hsz
   cases hl
   have h1':0<=n:=by simpa using h1
   have h2':n<(len:Int):=by simpa using h2
   refine⟨.pointer (some ⟨p.block,p.base+(off+n.toNat*sz),none⟩),?_,.ptr i _ p hp⟩
   simp[Instr.indexAt,asIntOf,run_underlying hu,h1',h2',run_sizeO hsz,add_addr,Nat.add_assoc,Instr.sureAddr]
  ·cases hl
 ·cases hl
theorem evIndex_snd{t:TypeId}{x u ix iu v:Value}(hl:evIndex P t x ix=some v)(hr:VRel m x u)(hi:VRel m ix iu)(w:World) :
  ∃ r,(Instr.index t u iu).run P w=.ok r w/\VRel m v r:=by
 unfold evIndex at hl
 split at hl
 ·rename_i len e cs kk n hu
  have:=hi.int_inv
  subst this
  obtain⟨ds,rfl,hds⟩:=hr.agg_inv
  split at hl
  ·rename_i sz h1 h2 hsz
   have h1':0<=n:=by simpa using h1
   have h2':n<(len:Int):=by simpa using h2
   obtain⟨r,k1,k2⟩:=partO_snd hl hds w
   exact⟨r,by simp[Instr.index,asIntOf,run_underlying hu,h1',h2',run_sizeO hsz,k1],k2⟩
  ·cases hl
 ·cases hl
theorem sliceBound_ok{k:IntKind}{n:Int}{y:Nat}{code:BoundsCode}(h0:0<=n)(h1:n<=(y:Int))(w:World):(Instr.sliceBound (.int k n) y code).run P w=.ok n.toNat w:=by
 simp[Instr.sliceBound,asIntOf,h0,h1]
def ORel(m:Pl):Option Value->Option Value->Prop
 | none,none=>True
 | some v,some u=>VRel m v u
 | _,_=>False
theorem boundO_some{d y r:Nat}{v u:Option Value}(hb:boundO d y v=some r)(hr:ORel m v u) :
  (v=none/\u=none/\r=d)\/(∃ k n,u=some (.int k n)/\0<=n/\n<=(y:Int)/\r=n.toNat):=by
 unfold boundO at hb
 split at hb
 ·cases hb
  cases u with
  | none=>exact .inl ⟨rfl,rfl,rfl⟩
  | some u=>exact hr.elim
 ·rename_i k n
  cases u with
  | none=>exact hr.elim
  | some u =>
   have:=VRel.int_inv hr
   subst this
   split at hb
   ·rename_i h1 h2;cases hb;exact .inr ⟨k,n,rfl,by simpa using h1,by simpa using h2,rfl⟩
   ·cases hb
 ·cases hb
theorem sliceBounds_ok{len cap b a:Nat}{lo hi ulo uhi:Option Value}(h1:boundO len len hi=some b)(h2:boundO 0 b lo=some a)(hl:ORel m lo ulo)(hh:ORel m hi uhi)(hc:len<=cap)(w:World) :
  (Instr.sliceBounds true len cap ulo uhi none).run P w=.ok (a,b,cap) w/\a<=b/\b<=len:=by
 rcases boundO_some h1 hh with⟨_,rfl,rfl⟩ | ⟨k,n,rfl,hn0,hn1,rfl⟩
 ·rcases boundO_some h2 hl with⟨_,rfl,rfl⟩ | ⟨k',n',rfl,hm0,hm1,rfl⟩
  ·exact⟨by simp[Instr.sliceBounds],by omega,Nat.le_refl _⟩
  ·exact⟨by simp[Instr.sliceBounds,sliceBound_ok hm0 hm1],by omega,Nat.le_refl _⟩
 ·have hn2:n<=(cap:Int):=by omega
  rcases boundO_some h2 hl with⟨_,rfl,rfl⟩ | ⟨k',n',rfl,hm0,hm1,rfl⟩
  ·exact⟨by simp[Instr.sliceBounds,sliceBound_ok hn0 hn2],by omega,by omega⟩
  ·exact⟨by simp[Instr.sliceBounds,sliceBound_ok hn0 hn2,sliceBound_ok hm0 hm1],by omega,by omega⟩
end Go.Ev
namespace Go.Ev
open Go.RowKit
variable {P:Program} {B:Bs} {w0:World} {m:Pl} {h:Hp} {w:World} {E:Env} {a:Act}
theorem VRel.slice_nil_inv{u:Value}(hr:VRel m (.slice none 0 0) u):u=.slice none 0 0:=by
 cases hr with
 | sliceNil=>rfl
theorem evSlice_snd{t:TypeId}{x u v:Value}{lo hi ulo uhi:Option Value}(hl:evSlice P t x lo hi=some v)(hr:VRel m x u)(hlo:ORel m lo ulo)(hhi:ORel m hi uhi)(w:World) :
  ∃ r,(Instr.sliceAt t u ulo uhi none).run P w=.ok r w/\VRel m v r:=by
 unfold evSlice at hl
 split at hl
 ·rename_i e i off len z hu
  obtain⟨hz,hcase⟩:=hr.slice_inv
  split at hl
  ·rename_i b sz hb hsz
   split at hl
   ·rename_i a' ha hzs
    cases hl
    have ez:z=sz:=Nat.eq_of_beq_eq_true hzs
    subst ez
    rcases hcase with⟨p,k,hp,hk,hlen,rfl⟩ | ⟨rfl,bb,rfl⟩
    ·obtain⟨hsb,hab,hbl⟩:=sliceBounds_ok (P:=P) hb ha hlo hhi hlen w
     by_cases hka:k=a'
     ·subst hka
      have e0:b-k=0:=by omega
      refine⟨.slice (some ⟨p.block,p.base+off,none⟩) (b-k) (k-k),?_,?_⟩
      ·simp[Instr.sliceAt,run_underlying hu,Instr.slice,hsb,run_sizeO hsz]
      ·rw[e0,Nat.sub_self]
       exact .sliceEnd i _ z _ hz
     ·refine⟨.slice (some ⟨p.block,p.base+(off+a'*z),none⟩) (b-a') (k-a'),?_,?_⟩
      ·simp[Instr.sliceAt,run_underlying hu,Instr.slice,hsb,run_sizeO hsz,hka,add_addr,Nat.add_assoc]
      ·refine .slice i _ _ z _ p hp ?_ (by omega) hz
       have hle:a'<=k:=by omega
       have:a'*z+(k-a')*z=k*z:=by rw[<- Nat.add_mul];congr 1;omega
       omega
    ·obtain⟨hsb,hab,hbl⟩:=sliceBounds_ok (P:=P) hb ha hlo hhi (Nat.le_refl _) w
     have hb0:b=0:=by omega
     have ha0:a'=0:=by omega
     subst hb0;subst ha0
     refine⟨.slice (some bb) 0 0,?_,?_⟩
     ·simp[Instr.sliceAt,run_underlying hu,Instr.slice,hsb,run_sizeO hsz]
     ·exact .sliceEnd i _ z _ hz
   ·cases hl
  ·cases hl
 ·rename_i e hu
  have:=hr.slice_nil_inv
  subst this
  split at hl
  ·rename_i b a' sz hb ha hsz
   cases hl
   have hb0:b=0:=by
    rcases boundO_some hb hhi with⟨_,_,e5⟩ | ⟨_,_,_,_,e6,e7⟩<;>omega
   subst hb0
   obtain⟨hsb,hab,hbl⟩:=sliceBounds_ok (P:=P) hb ha hlo hhi (Nat.le_refl _) w
   have ha0:a'=0:=by omega
   subst ha0
   exact⟨.slice none 0 0,by simp[Instr.sliceAt,run_underlying hu,Instr.slice,hsb,run_sizeO hsz],.sliceNil⟩
  ·cases hl
 ·cases hl
theorem Sim.trash(s:Sim B w0 m h w){i:Nat}{p:Place}{c:List Value}(hi:m i=some p)(ho:h[i]?=some (.cells c true))(cs:Array Value):Sim B w0 m (h.set i .dead) (w.setRow p.block cs):=by
 have hr0:=s.get hi ho
 have hB:B.n<=p.block:=hr0.owns_ge rfl
 obtain⟨arr0,t0,fz0,g0,_⟩:=hr0
 have sk:=s.kill i
 refine⟨below_setRow s.below hB _,s.base,fun b hb=>⟨(s.marks b hb).1,by
  rw[setRow_other w p.block b _ (fun e=>by have:=(s.marks b hb).2;rw[e,g0] at this;cases this)];exact (s.marks b hb).2⟩,s.nodup,fun j q hq=>?_,sk.inj⟩
 obtain⟨o',ho',hr'⟩:=sk.real j q hq
 refine⟨o',ho',hr'.frame fun hd=>?_⟩
 have hji:j≠i:=by
  intro e;subst e
  rw[List.getElem?_set_self (List.getElem?_eq_some_iff.1 ho).1] at ho'
  cases ho';exact hd rfl
 rw[List.getElem?_set_ne (Ne.symm hji)] at ho'
 refine setRow_other w p.block q.block _ fun e=>?_
 cases o' with
 | dead=>exact hd rfl
 | cells c' rw' =>
  cases rw' with
  | true=>exact hji (s.inj j i q p _ _ hq hi ho' ho rfl rfl e)
  | false=>obtain⟨_,_,_,_,_,_,_,h6⟩:=hr';simp at h6;omega
 | loop st pending E n params assign body=>exact hji (s.inj j i q p _ _ hq hi ho' ho rfl rfl e)
 | mp es=>exact hji (s.inj j i q p _ _ hq hi ho' ho rfl rfl e)
theorem Sim.adopt(s:Sim B w0 m h w){o:AObj}{p:Place}(hr:Real B.n (m.put h.length p) w p o)(hn:∀ j q o',m j=some q->h[j]?=some o'->o'.owns=true->q.block≠p.block) :
  Sim B w0 (m.put h.length p) (h++[o]) w:=by
 have hf:m h.length=none:=s.fresh (Nat.le_refl _)
 have hle:=Pl.put_le (p:=p) hf
 have hlt:∀ j q,m j=some q->j<h.length:=fun j q hq=>by
  rcases Nat.lt_or_ge j h.length with k | k
  ·exact k
  ·rw[s.fresh k] at hq;cases hq
 refine⟨s.below,s.base,s.marks,s.nodup,fun i q hq=>?_,fun i j q r a b hq hr' ha hb oa ob hbl=>?_⟩
 ·unfold Pl.put at hq
  split at hq
  ·rename_i e;subst e;cases hq;exact⟨o,by simp,hr⟩
  ·obtain⟨o',ho',hr'⟩:=s.real i q hq
   have hi:=hlt i q hq
   exact⟨o',by rw[List.getElem?_append_left hi];exact ho',hr'.mono hle⟩
 ·have key:∀ (k:Nat) (q:Place) (a:AObj),(m.put h.length p) k=some q->(h++[o])[k]?=some a->a.owns=true->(k=h.length/\q=p)\/(k<h.length/\m k=some q/\h[k]?=some a):=by
   intro k q a hq ha oa
   unfold Pl.put at hq
   split at hq
   ·rename_i e;cases hq;exact .inl ⟨e,rfl⟩
   ·have hk:=hlt k q hq
    rw[List.getElem?_append_left hk] at ha
    exact .inr ⟨hk,hq,ha⟩
  rcases key i q a hq ha oa with⟨e1,e2⟩ | ⟨e1,e2,e3⟩<;>rcases key j r b hr' hb ob with⟨f1,f2⟩ | ⟨f1,f2,f3⟩
  ·omega
  ·subst e2;exact absurd hbl.symm (hn j r b f2 f3 ob)
  ·subst f2;exact absurd hbl (hn i q a e2 e3 oa)
  ·exact s.inj i j q r a b e2 f2 e3 f3 oa ob hbl
theorem evNews_snd(s:Sim B w0 m h w){e xt:TypeId}{x u:Value}{k:Nat}{news:List Value}(hn:evNews P h e xt x=some (k,news))(hr:VRel m x u){sz:Nat}(hsz:sizeO P e=some sz) :
  (∃ ee,P.underlying xt=some (.slice ee))/\((u=.slice none 0 0/\k=0/\news=[])\/(∃ b c us,u=.slice (some b) k c/\VRels m news us/\us.length=k*sz/\∀ j y,us[j]?=some y->w.cell? (b.add j)=some y)):=by
 unfold evNews at hn
 split at hn
 ·have:=hr.slice_nil_inv
  subst this
  split at hn
  ·rename_i ee hu;cases hn;exact⟨⟨_,hu⟩,.inl ⟨rfl,rfl,rfl⟩⟩
  ·cases hn
 ·rename_i j o kk z
  obtain⟨hz,hcase⟩:=hr.slice_inv
  split at hn
  ·rename_i ee sz' c hu hsz' hc
   rw[hsz] at hsz';cases hsz'
   obtain⟨rw,ho⟩:=cellsAt_some hc
   split at hn
   ·rename_i l hcut hzs
    cases hn
    obtain⟨hle,rfl⟩:=cut_some hcut
    refine⟨⟨_,hu⟩,.inr ?_⟩
    rcases hcase with⟨p,kc,hp,hk,hlen,rfl⟩ | ⟨rfl,bb,rfl⟩
    ·obtain⟨us,hus,hlen',hcell⟩:=s.cells hp ho hle
     exact⟨_,_,us,rfl,hus,hlen',hcell⟩
    ·exact⟨bb,0,[],rfl,by simpa using VRels.nil m,by simp,by simp⟩
   ·cases hn
  ·cases hn
 ·cases hn
theorem news_size{e xt:TypeId}{x:Value}{k:Nat}{news:List Value}(hn:evNews P h e xt x=some (k,news)){sz:Nat}(hsz:sizeO P e=some sz):news.length=k*sz:=by
 unfold evNews at hn
 split at hn
 ·split at hn
  ·cases hn;simp
  ·cases hn
 ·split at hn
  ·rename_i ee sz' c hu hsz' hc
   rw[hsz] at hsz';cases hsz'
   split at hn
   ·rename_i l hcut _
    cases hn
    obtain⟨hle,rfl⟩:=cut_some hcut
    simp;omega
   ·cases hn
  ·cases hn
 ·cases hn
structure Src(P:Program)(w:World)(size:Nat)(xt:TypeId)(u:Value)(k:Nat)(us:List Value):Prop where
 ty:∃ ee,P.underlying xt=some (.slice ee)
 len:∀ w':World,(Builtin.lenOf u).run P w'=.ok k w'
 first:(Builtin.firstCells size k u).run P w=.ok us.toArray w
 first':(Builtin.firstCells size k u).run P w.drew=.ok us.toArray w.drew
 size:us.length=k*size
theorem Src.none{size:Nat}{xt:TypeId}(ht:∃ ee,P.underlying xt=some (.slice ee)):Src P w size xt (.slice none 0 0) 0 [] :=
 ⟨ht,fun _=>by simp[Builtin.lenOf],run_firstCells_none w size 0 0 0,run_firstCells_none w.drew size 0 0 0,by simp⟩
theorem Src.some{size:Nat}{xt:TypeId}(ht:∃ ee,P.underlying xt=.some (.slice ee)){b:Addr}{k c:Nat}{us:List Value}(hl:us.length=k*size)(hc:∀ j y,us[j]?=.some y->w.cell? (b.add j)=.some y) :
  Src P w size xt (.slice (.some b) k c) k us :=
 ⟨ht,fun _=>by simp[Builtin.lenOf],run_firstCells_some w size k b k c us hl hc,run_firstCells_some w.drew size k b k c us hl hc,hl⟩
theorem run_append_in{st xt ty e:TypeId}{i:TypeInfo}(ht:P.underlying st=some (.slice e))(hi:P.info? e=some i){g o n cap:Nat}{cur:Array Value}{et:TypeId}(hg:w.heap[g]?=some (.cells cur et (0,0)))
  {u:Value} {k:Nat} {us:List Value} (hs:Src P w i.size xt u k us) (h1:∀ y∈us,y.oneCell'=true) (hroom:n+k<=cap) (hfit:o+n*i.size+us.length<=cur.size) :
  (Builtin.append_ #[st,xt] ty #[.slice (some ⟨g,o,none⟩) n cap,u]).run P w =
   .ok (.slice (some ⟨g,o,none⟩) (n+k) cap) (w.setRow g (cur.toList.take (o+n*i.size)++us++cur.toList.drop (o+n*i.size+us.length)).toArray):=by
 obtain⟨ee,hee⟩:=hs.ty
 have hst:=run_storeCells_at P g (o+n*i.size) et us 0 cur w hg (by simpa using hfit) h1
 simp only[Nat.add_zero] at hst
 simp[Builtin.append_,run_underlying ht,run_underlying hee,sizeOf,typeInfo,hi,hs.len,hroom,hs.first,add_addr,hst]
theorem run_append_out{st xt ty e:TypeId}{i:TypeInfo}{z:Value}(ht:P.underlying st=some (.slice e))(hi:P.info? e=some i)(hz:i.zero=some z){base:Option Addr}{n cap:Nat}{olds:List Value}
  (hb:(Builtin.firstCells i.size n (.slice base n cap)).run P w.drew=.ok olds.toArray w.drew)
  {u:Value} {k:Nat} {us:List Value} (hs:Src P w i.size xt u k us) (hg:cap<n+k) (h63:n+k<=9007199254740992) (h48:(n+k)*i.bytes<=140737488355328) :
  ∃ c,n+k<=c/\(Builtin.append_ #[st,xt] ty #[.slice base n cap,u]).run P w =
   .ok (.slice (some ⟨w.heap.size,0,none⟩) (n+k) c) (w.drew.alloc (.cells ((olds++us)++(Builtin.zeroCells z.cells (c-(n+k))).toList).toArray e)):=by
 obtain⟨ee,hee⟩:=hs.ty
 refine⟨grownCap w (n+k) cap e,grownCap_ge _ _ _ _,?_⟩
 have hn:¬ (n+k<=cap):=by omega
 have h63':¬ (9223372036854775807<((n:Int)+(k:Int))):=by omega
 have h48':¬ (281474976710656<Builtin.nextslicecap (n+k) cap*i.bytes):=by have:=growslice_fits hg h48;omega
 simp[Builtin.append_,run_underlying ht,run_underlying hee,sizeOf,typeInfo,zeroValue,hi,hz,hs.len,hn,h63',h48',Question.forced,hs.first',hb,newRow,grownCap]
 congr 2
 apply Array.ext'
 simp
end Go.Ev
namespace Go.Ev
open Go.RowKit
variable {P:Program} {B:Bs} {w0:World} {m:Pl} {h:Hp} {w:World} {E:Env} {a:Act}
theorem grown_good(s:Sim B w0 m h w){olds news us:List Value}{n size c:Nat}{e:TypeId}{z:Value}(hz:z.cells.size=size)(hsz:0<size)(ho:VRels m olds news)(hu:us.length=n*size)
  {vs:List Value} (hv:VRels m vs us) {k:Nat} (hk:news.length=k*size) (hc:k+n<=c) :
  ∃ m' w',Stp m h m' (h++[.cells (olds++vs) true])/\Sim B w0 m' (h++[.cells (olds++vs) true]) w'/\VRel m' (.slice (some ⟨h.length,0,none⟩) (k+n) size) (.slice (some ⟨w.heap.size,0,none⟩) (k+n) c) /\
   w'=w.drew.alloc (.cells ((news++us)++(Builtin.zeroCells z.cells (c-(k+n))).toList).toArray e):=by
 have hs:=(s.drew).newCells (olds++vs) (news++us) (Builtin.zeroCells z.cells (c-(k+n))).toList e (ho.append hv)
 have hl:(news++us).length+(Builtin.zeroCells z.cells (c-(k+n))).toList.length=c*size:=by
  simp only[List.length_append,Array.length_toList,size_zeroCells,hz,hk,hu,<- Nat.add_mul]
  congr 1;omega
 rw[hl] at hs
 refine⟨_,_,Stp.put _ _ (s.fresh (Nat.le_refl _)),hs,?_,rfl⟩
 have:=VRel.slice (m:=m.put h.length ⟨w.drew.heap.size,0,c*size⟩) h.length 0 (k+n) size c _ (Pl.put_same _ _ _) (by simp) hc hsz
 simpa using this
theorem evAppend_snd(s:Sim B w0 m h w){ts:List TypeId}{x y v ux uy:Value}{h':Hp}(ty:TypeId)(hl:evAppend P h ts x y=some (v,h'))(hx:VRel m x ux)(hy:VRel m y uy) :
  Good B w0 m h v h' ((Builtin.append_ ts.toArray ty #[ux,uy]).run P w):=by
 unfold evAppend at hl
 split at hl
 ·rename_i st xt
  split at hl
  ·rename_i e hu
   split at hl
   ·rename_i inf k news hinf hnews
    have hsz:sizeO P e=some inf.size:=by simp[sizeO,hinf]
    have hnl:=news_size hnews hsz
    obtain⟨hty,hsrc⟩:=evNews_snd s hnews hy hsz
    have src:∃ us,VRels m news us/\Src P w inf.size xt uy k us:=by
     rcases hsrc with⟨rfl,rfl,rfl⟩ | ⟨b,c,us,rfl,hus,hlen,hcell⟩
     ·exact⟨[],VRels.nil m,Src.none hty⟩
     ·exact⟨us,hus,Src.some hty hlen hcell⟩
    obtain⟨us,hus,hS⟩:=src
    split at hl
    ·
     have hnil:news=[]:=List.eq_nil_of_length_eq_zero (by simpa using hnl)
     subst hnil
     have hus0:us=[]:=List.eq_nil_of_length_eq_zero (by have:=hus.1;simpa using this.symm)
     subst hus0
     obtain⟨ee,hee⟩:=hS.ty
     have key:∀ (base:Option Addr) (n cap:Nat),n<=cap->(Builtin.append_ [st,xt].toArray ty #[.slice base n cap,uy]).run P w=.ok (.slice base n cap) w:=by
      intro base n cap hn
      cases base<;>simp[Builtin.append_,run_underlying hu,run_underlying hee,sizeOf,typeInfo,hinf,hS.len,hn,hS.first,storeCells]
     split at hl
     ·cases hl
      have:=hx.slice_nil_inv
      subst this
      exact⟨m,_,w,Stp.refl m h,s,.sliceNil,key none 0 0 (Nat.le_refl _),fun _=>rfl⟩
     ·rename_i i off n z
      cases hl
      have hx':=hx
      obtain⟨hz,hcase⟩:=hx.slice_inv
      rcases hcase with⟨p,c,hp,hc,hlen,rfl⟩ | ⟨rfl,bb,rfl⟩
      ·exact⟨m,_,w,Stp.refl m h,s,hx',key _ _ _ hlen,fun _=>rfl⟩
      ·exact⟨m,_,w,Stp.refl m h,s,hx',key _ _ _ (Nat.le_refl _),fun _=>rfl⟩
     ·cases hl
    ·rename_i k0 z hz
     split at hl
     ·rename_i hg hzs hpos hone
      have hzs':z.cells.size=inf.size:=Nat.eq_of_beq_eq_true hzs
      have hpos':0<inf.size:=Nat.le_of_ble_eq_true hpos
      have hone':=hus.one hone
      split at hl
      ·
       split at hl
       ·rename_i hb1 hb2
        cases hl
        have hb1':=Nat.le_of_ble_eq_true hb1
        have hb2':=Nat.le_of_ble_eq_true hb2
        have:=hx.slice_nil_inv
        subst this
        obtain⟨c,hc,hrun⟩:=run_append_out (st:=st) (xt:=xt) (ty:=ty) hu hinf hz (base:=none) (n:=0) (cap:=0) (olds:=[]) (run_firstCells_none w.drew inf.size 0 0 0) hS (by omega) (by omega) (by simpa using hb1')
        obtain⟨m',w',h1,h2,h3,h4⟩:=grown_good s (olds:=[]) (news:=[]) (k:=0) (e:=e) hzs' hpos' (VRels.nil m) hS.size hus (by simp) hc
        refine⟨m',_,w',h1.at rfl (by simp),by simpa using h2,by simpa using h3,?_,fun e=>hp_longer e⟩
        rw[h4]
        simpa using hrun
       ·cases hl
      ·rename_i i off n zz
       split at hl
       ·rename_i c hown hb1 hb2 hzz
        have hb1':=Nat.le_of_ble_eq_true hb1
        have hb2':=Nat.le_of_ble_eq_true hb2
        have ezz:zz=inf.size:=Nat.eq_of_beq_eq_true hzz
        subst ezz
        split at hl
        ·rename_i olds hcut
         cases hl
         obtain⟨hle,rfl⟩:=cut_some hcut
         have ho:=ownAt_some hown
         obtain⟨_,hcase⟩:=hx.slice_inv
         have grow:∀ (base:Option Addr) (cap:Nat) (os:List Value),VRels m ((c.drop off).take (n*inf.size)) os->os.length=n*inf.size ->
           (Builtin.firstCells inf.size n (.slice base n cap)).run P w.drew=.ok os.toArray w.drew->cap<n+(k0+1) ->
           Good B w0 m h (.slice (some ⟨h.length,0,none⟩) (n+(k0+1)) inf.size) (h.set i .dead++[.cells ((c.drop off).take (n*inf.size)++news) true])
            ((Builtin.append_ [st,xt].toArray ty #[.slice base n cap,uy]).run P w):=by
          intro base cap os hos hol hf hcap
          obtain⟨c',hc',hrun⟩:=run_append_out (st:=st) (xt:=xt) (ty:=ty) hu hinf hz (base:=base) (n:=n) (cap:=cap) (olds:=os) hf hS hcap hb2' hb1'
          obtain⟨m',w',h1,h2,h3,h4⟩:=grown_good (s.kill i) (e:=e) hzs' hpos' hos hS.size hus hol hc'
          simp only[List.length_set] at h3
          refine⟨m',_,w',h1.at (by simp) rfl,h2,h3,?_,fun e=>hp_longer' e⟩
          rw[h4]
          exact hrun
         rcases hcase with⟨p,cap,hp,hcap,hlen,rfl⟩ | ⟨rfl,bb,rfl⟩
         ·by_cases hroom:n+(k0+1)<=cap
          ·
           obtain⟨arr,t,fz,g1,g2,g3,g4,g5⟩:=s.get hp ho
           rw[if_pos rfl] at g5
           obtain⟨rfl,hB⟩:=g5
           have hul:us.length=(k0+1)*inf.size:=hS.size
           have hmul:(n+(k0+1))*inf.size<=cap*inf.size:=Nat.mul_le_mul_right _ hroom
           rw[Nat.add_mul] at hmul
           have hrun:=run_append_in (st:=st) (xt:=xt) (ty:=ty) hu hinf (o:=p.base+off) g1 hS hone' hroom (by omega)
           have st1:=s.trash hp ho ((arr.toList.take (p.base+off+n*inf.size)++us++arr.toList.drop (p.base+off+n*inf.size+us.length)).toArray)
           have hb:=setRow_heap w p.block arr (arr.toList.take (p.base+off+n*inf.size)++us++arr.toList.drop (p.base+off+n*inf.size+us.length)).toArray t _ g1
           have hnl':news.length=us.length:=hus.1
           have hlen0:((c.drop off).take (n*inf.size)).length=n*inf.size:=by simp;omega
           have hf:m (h.set i .dead).length=none:=by rw[List.length_set];exact s.fresh (Nat.le_refl _)
           have hle':=Pl.put_le (p:=(⟨p.block,p.base+off,p.ext-off⟩:Place)) hf
           have st2:=st1.adopt (o:=.cells ((c.drop off).take (n*inf.size)++news) true) (p:=⟨p.block,p.base+off,p.ext-off⟩) ?_ ?_
           ·rw[List.length_set] at st2 hle'
            refine⟨_,_,_,(Stp.put _ .dead (s.fresh (Nat.le_refl _))).at rfl (by simp),st2,?_,hrun,fun e=>hp_longer' e⟩
            exact VRel.slice (m:=m.put h.length ⟨p.block,p.base+off,p.ext-off⟩) h.length 0 (n+(k0+1)) inf.size cap _ (Pl.put_same _ _ _) (by simp;omega) hroom hpos'
           ·refine⟨_,t,(0,0),hb,?_,?_,?_,by simp[hB]⟩
            ·simp;omega
            ·rw[List.length_append,hlen0,hnl'];simp;omega
            ·rw[List.length_append,hlen0,hnl']
             have key:((arr.toList.take (p.base+off+n*inf.size)++us++arr.toList.drop (p.base+off+n*inf.size+us.length)).toArray.toList.drop (p.base+off)).take (n*inf.size+us.length) =
               (((arr.toList.drop p.base).take c.length).drop off).take (n*inf.size)++us:=by
              apply List.ext_getElem?
              intro j
              simp only[List.getElem?_take,List.getElem?_drop,List.getElem?_append,List.length_append,List.length_take,List.length_drop,Array.length_toList]
              have e1:min (n*inf.size) (min c.length (arr.size-p.base)-off)=n*inf.size:=by omega
              have e2:min (p.base+off+n*inf.size) arr.size=p.base+off+n*inf.size:=by omega
              simp only[e1,e2]
              by_cases k1:j<n*inf.size
              ·have a1:j<n*inf.size+us.length:=by omega
               have a2:p.base+off+j<p.base+off+n*inf.size+us.length:=by omega
               have a3:p.base+off+j<p.base+off+n*inf.size:=by omega
               have a4:off+j<c.length:=by omega
               simp[k1,a1,a4,Nat.add_assoc]
              ·by_cases k2:j<n*inf.size+us.length
               ·have a2:p.base+off+j<p.base+off+n*inf.size+us.length:=by omega
                have a3:¬ p.base+off+j<p.base+off+n*inf.size:=by omega
                have a4:p.base+off+j-(p.base+off+n*inf.size)=j-n*inf.size:=by omega
                simp[k1,k2,a2,a3,a4]
               ·have a5:us[j-n*inf.size]?=none:=List.getElem?_eq_none (by omega)
                simp[k1,k2,a5]
             rw[key]
             exact (((g4.drop off).take (n*inf.size)).mono hle').append (hus.mono hle')
           ·intro j q o' hq ho' hown'
            by_cases hji:j=i
            ·subst hji
             rw[List.getElem?_set_self (List.getElem?_eq_some_iff.1 ho).1] at ho'
             cases ho'
             simp[AObj.owns] at hown'
            ·rw[List.getElem?_set_ne (Ne.symm hji)] at ho'
             exact fun e=>hji (s.inj j i q p o' _ hq hp ho' ho hown' rfl e)
          ·obtain⟨os,hos,hol,hcell⟩:=s.cells hp ho hle
           exact grow _ cap os hos hol (run_firstCells_some w.drew inf.size n _ n cap os hol hcell) (by omega)
         ·have h0:0*inf.size=0:=Nat.zero_mul _
          refine grow _ 0 [] (by rw[h0];simpa using VRels.nil m) (by simp) ?_ (by omega)
          exact run_firstCells_some w.drew inf.size 0 bb 0 0 [] (by simp) (by simp)
        ·cases hl
       ·cases hl
      ·cases hl
     ·cases hl
    ·cases hl
   ·cases hl
  ·cases hl
 ·cases hl
end Go.Ev
namespace Go.Ev
open Go.RowKit
variable {P:Program} {B:Bs} {w0:World} {m:Pl} {h:Hp} {w:World} {E:Env} {a:Act}
def eqPlain:Value->Bool
 | .int .. | .float .. | .complex .. | .string .. | .agg ..=>false
 | _=>true
theorem binOp_eql{t:TypeId}{x y:Value}{r:Bool}(hx:eqPlain x=true)(he:(Op.equal t x y).run P w=.ok r w):(binOp .eql t x y).run P w=.ok (.bool r) w:=by
 cases x<;>simp[eqPlain] at hx<;>simp[binOp,he]
theorem binOp_neq{t:TypeId}{x y:Value}{r:Bool}(hx:eqPlain x=true)(he:(Op.equal t x y).run P w=.ok r w):(binOp .neq t x y).run P w=.ok (.bool (!r)) w:=by
 cases x<;>simp[eqPlain] at hx<;>simp[binOp,he]
theorem VRel.ptr_nil_inv{u:Value}(hr:VRel m (.pointer none) u):u=.pointer none:=by
 cases hr with
 | ptrNil=>rfl
theorem VRel.ptr_any_inv{b:Option Addr}{u:Value}(hr:VRel m (.pointer b) u):∃ b',u=.pointer b'/\b'.isNone=b.isNone:=by
 cases hr with
 | ptrNil=>exact⟨none,rfl,rfl⟩
 | ptr i off p h=>exact⟨_,rfl,rfl⟩
theorem VRel.slice_any_inv{b:Option Addr}{n z:Nat}{u:Value}(hr:VRel m (.slice b n z) u):∃ b' c,u=.slice b' n c/\b'.isNone=b.isNone:=by
 cases hr with
 | sliceNil=>exact⟨none,0,rfl,rfl⟩
 | slice i off len z c p h hc hl hz=>exact⟨_,_,rfl,rfl⟩
 | sliceEnd i off z b hz=>exact⟨_,_,rfl,rfl⟩
theorem VRel.map_any_inv{b:Option Nat}{u:Value}(hr:VRel m (.map b) u):∃ b',u=.map b'/\b'.isNone=b.isNone:=by
 cases hr with
 | mapNil=>exact⟨none,rfl,rfl⟩
 | map i p h=>exact⟨_,rfl,rfl⟩
theorem VRel.nilFunc_inv{u:Value}(hr:VRel m .nilFunc u):u=.nilFunc:=by cases hr with | nilFunc=>rfl
theorem VRel.func_any_inv{f:Fn}{x y:Array Value}{u:Value}(hr:VRel m (.func f x y) u):∃ g x' y',u=.func g x' y':=by
 cases hr with
 | func f a b c d h1 h2 hf e1 e2=>exact⟨_,_,_,rfl⟩
 | yield i p h=>exact⟨_,_,_,rfl⟩
theorem VRel.nilIface_inv{u:Value}(hr:VRel m .nilIface u):u=.nilIface:=by cases hr with | nilIface=>rfl
theorem VRel.iface_inv{t:TypeId}{v u:Value}(hr:VRel m (.iface t v) u):∃ x,u=.iface t x/\VRel m v x:=by
 cases hr with
 | iface t v u h=>exact⟨u,rfl,h⟩
theorem evEq_snd(s:Sim B w0 m h w){t:TypeId}{x y ux uy:Value}{r:Bool}(hl:evEq P h t x y=some r)(hx:VRel m x ux)(hy:VRel m y uy) :
  eqPlain ux=true/\(Op.equal t ux uy).run P w=.ok r w:=by
 suffices H:eqPlain ux=true/\∀ d:Nat,(Op.equalIn (d+1) t ux uy).run P w=.ok r w from ⟨H.1,H.2 9999⟩
 unfold evEq at hl
 split at hl
 ·rename_i e b hu
  cases hl
  have:=hx.ptr_nil_inv;subst this
  obtain⟨b',rfl,hb⟩:=hy.ptr_any_inv
  refine⟨rfl,fun d=>?_⟩
  rw[<- hb]
  simp[Op.equalIn,run_underlying hu]
 ·rename_i e b hu
  cases hl
  have:=hy.ptr_nil_inv;subst this
  obtain⟨b',rfl,hb⟩:=hx.ptr_any_inv
  refine⟨rfl,fun d=>?_⟩
  cases b' with
  | none=>simp at hb
  | some b'=>simp[Op.equalIn,run_underlying hu]
 ·rename_i e i o j o' hu
  obtain⟨p,hp,rfl⟩:=hx.ptr_inv
  obtain⟨q,hq,rfl⟩:=hy.ptr_inv
  refine⟨rfl,fun d=>?_⟩
  split at hl
  ·rename_i n c c' hn hc hc'
   have hoi:=ownAt_some hc
   have hoj:=ownAt_some hc'
   have gp:=s.get hp hoi
   have gq:=s.get hq hoj
   split at hl
   ·rename_i hij
    have e1:i=j:=Nat.eq_of_beq_eq_true hij
    subst e1
    rw[hp] at hq;cases hq
    cases hl
    by_cases ho:o=o'
    ·subst ho
     simp[Op.equalIn,run_underlying hu,run_sizeO hn,sameAddr]
    ·have:Nat.beq o o'=false:=by
      cases hb:Nat.beq o o' with
      | false=>rfl
      | true=>exact absurd (Nat.eq_of_beq_eq_true hb) ho
     simp[Op.equalIn,run_underlying hu,run_sizeO hn,sameAddr,this,ho]
   ·rename_i hij
    cases hl
    have hne:i≠j:=by
     intro e;subst e
     have:=Nat.beq_refl i
     rw[this] at hij;cases hij
    have hbl:p.block≠q.block:=fun e=>hne (s.inj i j p q _ _ hp hq hoi hoj rfl rfl e)
    obtain⟨arr,t1,fz,g1,_,_,_,g5⟩:=gp
    obtain⟨arr',t2,fz',k1,_,_,_,k5⟩:=gq
    rw[if_pos rfl] at g5 k5
    obtain⟨rfl,_⟩:=g5
    obtain⟨rfl,_⟩:=k5
    have hsa:=run_sameAddr_other (P:=P) (w:=w) (a:=⟨p.block,p.base+o,none⟩) (b:=⟨q.block,q.base+o',none⟩) (by intro e;injection e with e;exact hbl e) g1 k1
    simp[Op.equalIn,run_underlying hu,run_sizeO hn,hsa]
  ·cases hl
 ·rename_i e n1 z1 b n2 z2 hu
  cases hl
  obtain⟨b1,c1,rfl,hb1⟩:=hx.slice_any_inv
  obtain⟨b2,c2,rfl,hb2⟩:=hy.slice_any_inv
  refine⟨rfl,fun d=>?_⟩
  have:b1=none:=by simpa using hb1
  subst this
  rw[<- hb2]
  simp[Op.equalIn,run_underlying hu]
 ·rename_i e b n1 z1 n2 z2 hu
  cases hl
  obtain⟨b1,c1,rfl,hb1⟩:=hx.slice_any_inv
  obtain⟨b2,c2,rfl,hb2⟩:=hy.slice_any_inv
  refine⟨rfl,fun d=>?_⟩
  have:b2=none:=by simpa using hb2
  subst this
  cases b1 with
  | none=>simp at hb1
  | some b1=>simp[Op.equalIn,run_underlying hu]
 ·rename_i k e b hu
  cases hl
  obtain⟨b1,rfl,hb1⟩:=hx.map_any_inv
  obtain⟨b2,rfl,hb2⟩:=hy.map_any_inv
  refine⟨rfl,fun d=>?_⟩
  have:b1=none:=by simpa using hb1
  subst this
  rw[<- hb2]
  simp[Op.equalIn,run_underlying hu]
 ·rename_i k e b hu
  cases hl
  obtain⟨b1,rfl,hb1⟩:=hx.map_any_inv
  obtain⟨b2,rfl,hb2⟩:=hy.map_any_inv
  refine⟨rfl,fun d=>?_⟩
  have:b2=none:=by simpa using hb2
  subst this
  cases b1 with
  | none=>simp at hb1
  | some b1=>simp[Op.equalIn,run_underlying hu]
 ·rename_i hu
  cases hl
  have:=hx.nilFunc_inv;subst this
  obtain⟨g,x',y',rfl⟩:=hy.func_any_inv
  exact⟨rfl,fun d=>by simp[Op.equalIn,run_underlying hu]⟩
 ·rename_i hu
  cases hl
  have:=hy.nilFunc_inv;subst this
  obtain⟨g,x',y',rfl⟩:=hx.func_any_inv
  exact⟨rfl,fun d=>by simp[Op.equalIn,run_underlying hu]⟩
 ·rename_i hu
  cases hl
  have:=hx.nilIface_inv;subst this
  obtain⟨x',rfl,_⟩:=hy.iface_inv
  exact⟨rfl,fun d=>by simp[Op.equalIn,run_underlying hu]⟩
 ·rename_i hu
  cases hl
  have:=hy.nilIface_inv;subst this
  obtain⟨x',rfl,_⟩:=hx.iface_inv
  exact⟨rfl,fun d=>by simp[Op.equalIn,run_underlying hu]⟩
 ·cases hl
end Go.Ev
namespace Go.Ev
open Go.RowKit
variable {P:Program} {B:Bs} {w0:World} {m:Pl} {h:Hp} {w:World} {E:Env} {a:Act}
def kv(e:MapEntry):Value×Value:=(e.key,e.val)
theorem mpAt_some{i:Nat}{es:List (Value×Value)}(hc:mpAt h i=some es):h[i]?=some (.mp es):=by
 unfold mpAt at hc
 split at hc
 ·rename_i h1;cases hc;exact h1
 ·cases hc
theorem isKeyB_ok{d:TypeDesc}{k:Value}(hk:isKeyB d k=true):MapKept.IsKey d k:=by
 cases d<;>cases k<;>simp_all [isKeyB,MapKept.IsKey]
theorem isKeyB_ground{d:TypeDesc}{k:Value}(hk:isKeyB d k=true):ground k=true:=by
 cases d<;>cases k<;>simp_all [isKeyB,ground]
theorem findNow_kv{d:TypeDesc}{k:Value}:∀ (l l':List MapEntry) (i:Nat),l.map kv=l'.map kv->Instr.findNow d k l i=Instr.findNow d k l' i
 | [],[],_,_=>rfl
 | [],_::_,_,h=>by simp at h
 | _::_,[],_,h=>by simp at h
 | e::l,e'::l',i,h=>by
  simp only[List.map_cons,List.cons.injEq,kv,Prod.mk.injEq] at h
  obtain⟨⟨h1,h2⟩,h3⟩:=h
  simp only[Instr.findNow,h1,h2,findNow_kv l l' (i+1) h3]
theorem mpE_kv(es:List (Value×Value)):(mpE es).map kv=es:=by
 induction es with
 | nil=>rfl
 | cons x l ih=>simp only[mpE,List.map_cons,kv] at ih ⊢;rw[<- ih];simp[mpE,kv,Function.comp_def]
theorem VRel.map_inv{i:Nat}{u:Value}(hr:VRel m (.map (some i)) u):∃ p,m i=some p/\u=.map (some p.block):=by
 cases hr with
 | map _ p hp=>exact⟨p,hp,rfl⟩
theorem Sim.mp(s:Sim B w0 m h w){i:Nat}{p:Place}{es:List (Value×Value)}(hi:m i=some p)(ho:h[i]?=some (.mp es)) :
  ∃ (arr:Array MapEntry) (clock:Nat),w.heap[p.block]?=some (.map arr clock)/\arr.toList.map kv=es/\(es.all fun x=>ground x.1&&ground x.2)=true/\B.n<=p.block:=s.get hi ho
theorem mpFind_snd{kt:TypeId}{es:List (Value×Value)}{k:Value}{r:Option (Nat×Value)}(hf:mpFind P kt es k=some r){arr:Array MapEntry}(ha:arr.toList.map kv=es) :
  ∃ d,P.underlying kt=some d/\MapKept.IsKey d k/\ground k=true/\(∀ x∈arr.toList,MapKept.IsKey d x.key)/\Instr.findNow d k arr.toList 0=some r:=by
 unfold mpFind at hf
 split at hf
 ·rename_i d hd
  split at hf
  ·rename_i hk
   simp only[Bool.and_eq_true] at hk
   refine⟨d,hd,isKeyB_ok hk.1,isKeyB_ground hk.1,fun x hx=>?_,?_⟩
   ·have:kv x∈es:=ha▸List.mem_map_of_mem hx
    exact isKeyB_ok (List.all_eq_true.1 hk.2 _ this)
   ·rw[<- hf];exact findNow_kv _ _ _ (by rw[ha,mpE_kv])
  ·cases hf
 ·cases hf
theorem ground_at{es:List (Value×Value)}(hg:(es.all fun x=>ground x.1&&ground x.2)=true){arr:Array MapEntry}(ha:arr.toList.map kv=es){e:MapEntry}(he:e∈arr.toList):ground e.val=true:=by
 have:kv e∈es:=ha▸List.mem_map_of_mem he
 have:=List.all_eq_true.1 hg _ this
 simp only[kv,Bool.and_eq_true] at this
 exact this.2
theorem evLookup_snd(s:Sim B w0 m h w){t:TypeId}{x k ux uk v:Value}{ok:Bool}(hl:evLookup P h t x k ok=some v)(hx:VRel m x ux)(hk:VRel m k uk) :
  ∃ r,(Instr.lookup t ux uk ok).run P w=.ok r w/\VRel m v r:=by
 unfold evLookup at hl
 split at hl
 ·rename_i kt et i hu
  obtain⟨p,hp,rfl⟩:=hx.map_inv
  split at hl
  ·rename_i es hes
   obtain⟨arr,clock,hb,ha,hg,_⟩:=s.mp hp (mpAt_some hes)
   split at hl
   ·rename_i j y hf
    obtain⟨d,hd,hkey,hkg,hks,hfn⟩:=mpFind_snd hf ha
    have:=hk.ground hkg;subst this
    have hy:ground y=true:=by
     rcases MapKept.findNow_spec hkey arr.toList 0 hks with⟨h1,_⟩ | ⟨j',e,h1,h2,_⟩
     ·rw[hfn] at h1;cases h1
     ·rw[hfn] at h1
      simp only[Option.some.injEq,Prod.mk.injEq] at h1
      rw[h1.2]
      exact ground_at hg ha (List.mem_of_getElem? h2)
    cases ok with
    | true =>
     cases hl
     exact⟨.tuple #[y,.bool true],by simp[Instr.lookup,run_underlying hu,MapKept.run_getObj_map hb,MapKept.run_checkKey hd hkey,MapKept.run_findKey hd hfn,Result.andThen],
      VRel.tuple_l (.cons (VRel.refl m y hy) (.cons (.bool _) (.nil m)))⟩
    | false =>
     simp only[Option.some.injEq] at hl
     subst hl
     exact⟨y,by simp[Instr.lookup,run_underlying hu,MapKept.run_getObj_map hb,MapKept.run_checkKey hd hkey,MapKept.run_findKey hd hfn,Result.andThen],VRel.refl m y hy⟩
   ·rename_i hf
    obtain⟨d,hd,hkey,hkg,hks,hfn⟩:=mpFind_snd hf ha
    have:=hk.ground hkg;subst this
    split at hl
    ·rename_i z hz
     split at hl
     ·rename_i hgz
      cases hl
      exact⟨.tuple #[z,.bool false],by simp[Instr.lookup,run_underlying hu,MapKept.run_getObj_map hb,MapKept.run_checkKey hd hkey,MapKept.run_findKey hd hfn,Result.andThen,run_zeroO hz],
       VRel.tuple_l (.cons (VRel.refl m z hgz) (.cons (.bool _) (.nil m)))⟩
     ·rename_i hgz
      simp only[Option.some.injEq] at hl
      subst hl
      exact⟨z,by simp[Instr.lookup,run_underlying hu,MapKept.run_getObj_map hb,MapKept.run_checkKey hd hkey,MapKept.run_findKey hd hfn,Result.andThen,run_zeroO hz],VRel.refl m z hgz⟩
     ·cases hl
    ·cases hl
   ·cases hl
  ·cases hl
 ·cases hl
theorem Sim.putMap(s:Sim B w0 m h w){i:Nat}{p:Place}{es es':List (Value×Value)}(hi:m i=some p)(ho:h[i]?=some (.mp es)){arr:Array MapEntry}{clock:Nat}(hl:w.heap[p.block]?=some (.map arr clock))
  {arr':Array MapEntry} {clock':Nat} (ha:arr'.toList.map kv=es') (hg:(es'.all fun x=>ground x.1&&ground x.2)=true) :
  Sim B w0 m (h.set i (.mp es')) { w with heap:=w.heap.setIfInBounds p.block (.map arr' clock') }:=by
 have hB:B.n<=p.block:=(s.get hi ho).owns_ge rfl
 have hil:i<h.length:=(List.getElem?_eq_some_iff.1 ho).1
 have hot:∀ k,k≠p.block->(w.heap.setIfInBounds p.block (.map arr' clock'))[k]?=w.heap[k]?:=fun k hk=>(MapKept.heap_set hl).2 k hk
 have hown:∀ j q o',m j=some q->h[j]?=some o'->o'≠.dead->j≠i->q.block≠p.block:=by
  intro j q o' hq ho' hd hji e
  have hr':=s.get hq ho'
  cases o' with
  | dead=>exact hd rfl
  | cells c rw =>
   obtain⟨arr,t,fz,h1,_⟩:=hr'
   rw[e,hl] at h1;cases h1
  | loop st pending E n params assign body=>exact hji (s.inj j i q p _ _ hq hi ho' ho rfl rfl e)
  | mp es=>exact hji (s.inj j i q p _ _ hq hi ho' ho rfl rfl e)
 refine⟨⟨s.below.os,s.below.tape,s.below.output,by have:=s.below.size;simpa using this,fun k hk=>?_⟩,s.base,fun b hb=>⟨(s.marks b hb).1,?_⟩,s.nodup,fun j q hq=>?_,fun j k q r x y hq hr' hx hy ox oy hbl=>?_⟩
 ·exact (hot k (by omega)).trans (s.below.block k hk)
 ·have hm:=(s.marks b hb).2
  exact (hot b (fun e=>by rw[e,hl] at hm;cases hm)).trans hm
 ·obtain⟨o',ho',hr'⟩:=s.real j q hq
  by_cases hji:j=i
  ·subst hji
   rw[hi] at hq;cases hq
   exact⟨.mp es',List.getElem?_set_self hil,arr',clock',(MapKept.heap_set hl).1,ha,hg,hB⟩
  ·exact⟨o',by rw[List.getElem?_set_ne (Ne.symm hji)];exact ho',hr'.frame fun hd=>hot _ (hown j q o' hq ho' hd hji)⟩
 ·have key:∀ (k:Nat) (x:AObj),(h.set i (.mp es'))[k]?=some x->x.owns=true->∃ x':AObj,h[k]?=some x'/\x'.owns=true:=by
   intro k x hx ox
   by_cases hk:k=i
   ·subst hk;exact⟨_,ho,rfl⟩
   ·rw[List.getElem?_set_ne (Ne.symm hk)] at hx;exact⟨x,hx,ox⟩
  obtain⟨x',hx',ox'⟩:=key j x hx ox
  obtain⟨y',hy',oy'⟩:=key k y hy oy
  exact s.inj j k q r x' y' hq hr' hx' hy' ox' oy' hbl
theorem evMapUpdate_len{t:TypeId}{x k v:Value}{h h':Hp}(hl:evMapUpdate P h t x k v=some h'):h.length<=h'.length:=by
 unfold evMapUpdate at hl
 split at hl
 ·split at hl
  ·split at hl
   ·split at hl
    ·cases hl;simp
    ·cases hl;simp
    ·cases hl
   ·cases hl
  ·cases hl
 ·cases hl
theorem modify_kv(arr:Array MapEntry)(j:Nat)(k v:Value):(arr.modify j fun e=>{ e with key:=k,val:=v }).toList.map kv=(arr.toList.map kv).set j (k,v):=by
 apply List.ext_getElem?
 intro n
 rw[List.getElem?_map,Array.getElem?_toList,Array.getElem?_modify,List.getElem?_set,List.length_map,Array.length_toList,List.getElem?_map,Array.getElem?_toList]
 by_cases hj:j=n
 ·subst hj
  simp only[if_true]
  by_cases hlt:j<arr.size
  ·simp[hlt,kv]
  ·simp[hlt]
 ·simp[hj]
theorem evMapUpdate_snd(s:Sim B w0 m h w){t:TypeId}{x k v ux uk uv:Value}{h':Hp}(hl:evMapUpdate P h t x k v=some h')(hx:VRel m x ux)(hk:VRel m k uk)(hv:VRel m v uv) :
  ∃ w',(Instr.mapUpdate t ux uk uv).run P w=.ok () w'/\Sim B w0 m h' w':=by
 unfold evMapUpdate at hl
 split at hl
 ·rename_i kt et i hu
  obtain⟨p,hp,rfl⟩:=hx.map_inv
  split at hl
  ·rename_i es hes
   have ho:=mpAt_some hes
   obtain⟨arr,clock,hb,ha,hg,hB⟩:=s.mp hp ho
   split at hl
   ·rename_i hkv
    simp only[Bool.and_eq_true] at hkv
    have:=hk.ground hkv.1;subst this
    have:=hv.ground hkv.2;subst this
    split at hl
    ·rename_i j y hf
     cases hl
     obtain⟨d,hd,hkey,_,hks,hfn⟩:=mpFind_snd hf ha
     rcases MapKept.findNow_spec hkey arr.toList 0 hks with⟨h1,_⟩ | ⟨j',e,h1,h2,h3⟩
     ·rw[hfn] at h1;cases h1
     ·rw[hfn] at h1
      simp only[Option.some.injEq,Prod.mk.injEq,Nat.zero_add] at h1
      obtain⟨rfl,rfl⟩:=h1
      have hj:arr[j]?=some e:=by simpa using h2
      refine⟨_,?_,s.putMap (clock':=clock) hp ho hb (modify_kv arr j k v |>.trans (by rw[ha])) ?_⟩
      ·simp[Instr.mapUpdate,run_underlying hu,MapKept.run_getObj_map hb,MapKept.run_checkKey hd hkey,MapKept.run_findKey hd hfn,hj,h3,MapKept.run_keyThatStays hkey,MapKept.run_setObj_map _ hb,Result.andThen]
      ·rw[List.all_eq_true] at hg ⊢
       intro z hz
       rcases List.mem_or_eq_of_mem_set hz with hz | rfl
       ·exact hg z hz
       ·simp[hkv.1,hkv.2]
    ·rename_i hf
     cases hl
     obtain⟨d,hd,hkey,_,hks,hfn⟩:=mpFind_snd hf ha
     refine⟨_,?_,s.putMap (clock':=clock+1) (arr':=arr.push ⟨k,v,clock⟩) hp ho hb (by simp[kv,<- ha]) ?_⟩
     ·simp[Instr.mapUpdate,run_underlying hu,MapKept.run_getObj_map hb,MapKept.run_checkKey hd hkey,MapKept.run_findKey hd hfn,MapKept.run_setObj_map _ hb,Result.andThen]
     ·rw[List.all_append,hg];simp[hkv.1,hkv.2]
    ·cases hl
   ·cases hl
  ·cases hl
 ·cases hl
theorem evMakeMap_snd(s:Sim B w0 m h w)(t:TypeId):Good B w0 m h (.map (some h.length)) (h++[.mp []]) ((Instr.makeMap t none).run P w):=by
 have hs:=s.new (.map #[] 0) (.mp []) ⟨w.heap.size,0,0⟩ rfl ⟨#[],0,by simpa using heap_alloc_new w _,rfl,rfl,s.size⟩
 exact⟨_,.map (some w.heap.size),_,Stp.put _ _ (s.fresh (Nat.le_refl _)),hs,VRel.map (m:=m.put h.length ⟨w.heap.size,0,0⟩) h.length _ (Pl.put_same _ _ _),by simp[Instr.makeMap,Result.andThen],fun e=>hp_longer e⟩
theorem evClear_len{t:TypeId}{x:Value}{h h':Hp}(hl:evClear P h t x=some h'):h.length<=h'.length:=by
 unfold evClear at hl
 split at hl
 ·split at hl
  ·cases hl;exact Nat.le_refl _
  ·cases hl
 ·split at hl
  ·split at hl
   ·cases hl;exact Nat.le_refl _
   ·split at hl
    ·split at hl
     ·cases hl;simp
     ·cases hl
    ·cases hl
  ·cases hl
 ·cases hl
theorem evClear_snd(s:Sim B w0 m h w){t ty:TypeId}{x ux:Value}{h':Hp}(hl:evClear P h t x=some h')(hr:VRel m x ux) :
  ∃ w',(Builtin.clear_ #[t] ty #[ux]).run P w=.ok (.tuple #[]) w'/\Sim B w0 m h' w':=by
 unfold evClear at hl
 split at hl
 ·have:=hr.slice_nil_inv;subst this
  split at hl
  ·rename_i e hu
   cases hl
   exact⟨w,by simp[Builtin.clear_,run_underlying hu],s⟩
  ·cases hl
 ·rename_i i off n z
  split at hl
  ·rename_i e hu
   split at hl
   ·cases hl
    obtain⟨b',c,rfl,hn⟩:=hr.slice_any_inv
    exact⟨w,by cases b'<;>simp[Builtin.clear_,run_underlying hu],s⟩
   ·rename_i hn0
    split at hl
    ·rename_i zv c hz hc
     split at hl
     ·rename_i h1 h2 h3
      cases hl
      simp only[Bool.and_eq_true] at h3
      have hzs:zv.cells.size=z:=Nat.eq_of_beq_eq_true h2
      subst hzs
      have hle:off+n*zv.cells.size<=c.length:=Nat.le_of_ble_eq_true h3.1
      have ho:=ownAt_some hc
      cases hr with
      | sliceEnd=>exact absurd rfl hn0
      | slice _ _ _ _ cap p hp hcap hlen hz0 =>
       have hzr:=zeros_rel (m:=m) h1 (n*zv.cells.size)
       obtain⟨arr,tt,hb,hfit,hs⟩:=s.setRow (off:=off) hp ho hzr (by simpa using hle)
       refine⟨_,?_,by simpa using hs⟩
       have hst:=run_storeCells_at P p.block (p.base+off) tt _ 0 arr w hb (by simpa using hfit) (fun v hv=>List.all_eq_true.1 h3.2 v hv)
       simp only[Nat.add_zero] at hst
       cases n with
       | zero=>exact absurd rfl hn0
       | succ n =>
        simp at hst
        simp[Builtin.clear_,run_underlying hu,run_zeroO hz,Builtin.zeroCells,hst]
     ·cases hl
    ·cases hl
  ·cases hl
 ·cases hl
theorem run_nilchk(t ty:TypeId)(b:Addr)(x y:String):Builtin.ssaWrapNilChk_ #[t] ty #[.pointer (some b),strVal x,strVal y]=pure (.pointer (some b)):=rfl
theorem evMethod_snd(s:Sim B w0 m h w){name:String}{r u x:Value}{f:FuncId}(hl:evMethod P h name r=some (f,x))(hr:VRel m r u) :
  ∃ ux,VRel m x ux/\∀ args,(callMethod u name args).run P w=(callFunc f (#[ux]++args)).run P w:=by
 unfold evMethod at hl
 split at hl
 ·rename_i t v
  obtain⟨v',rfl,hv⟩:=hr.iface_inv
  obtain⟨fu,hfu⟩:∃ n,P.types.size+Made.depth=n+1:=⟨P.types.size+99,rfl⟩
  split at hl
  ·rename_i i hi
   split at hl
   ·rename_i mt hmt
    split at hl
    ·rename_i g e hpath hfn hun
     cases hl
     refine⟨v',hv,fun args=>?_⟩
     simp[callMethod,hfu,method,typeInfo,hi,hmt,hpath,follow,hfn,receiverAt,run_underlying hun,Place.get]
    ·rename_i g e hpath hfn hun
     split at hl
     ·rename_i ad
      split at hl
      ·rename_i rv hld
       cases hl
       obtain⟨ur,h1,h2⟩:=evLoad_snd s hld hv
       obtain⟨b',hb',hn⟩:=hv.ptr_any_inv
       subst hb'
       cases b' with
       | none=>simp at hn
       | some ad' =>
        refine⟨ur,h2,fun args=>?_⟩
        have h1':(loadVar e ad').run P w=.ok ur w:=by simpa[Instr.loadAt,Instr.sureAddr] using h1
        simp[callMethod,hfu,method,typeInfo,hi,hmt,hpath,follow,hfn,receiverAt,run_underlying hun,Go.Place.get,run_nilchk,asAddr]
        split<;>simp[h1',Result.andThen]
      ·cases hl
     ·cases hl
    ·rename_i g d hnp hpath hfn hun
     split at hl
     ·rename_i hag
      cases hl
      refine⟨v',hv,fun args=>?_⟩
      cases d<;>simp[isAggD] at hag <;>
      simp[callMethod,hfu,method,typeInfo,hi,hmt,hpath,follow,hfn,receiverAt,run_underlying hun,Go.Place.get]
     ·cases hl
    ·cases hl
   ·cases hl
  ·cases hl
 ·cases hl
end Go.Ev
namespace Go.Ev
open Go.RowKit
variable {P:Program} {B:Bs} {w0:World} {m:Pl} {h:Hp} {w:World} {E:Env} {a:Act}
def OutSnd(P:Program)(B:Bs)(w0:World)(m:Pl)(h:Hp)(w:World)(r:Result Next):Out->Prop
 | .val v h'=>∃ m' u w',Stp m h m' h'/\Sim B w0 m' h' w'/\VRel m' v u/\(r=.ok (.value u) w'\/(r=.ok .skip w'/\u=undef))/\(h'=h->m'=m)
 | .call f args=>∃ us,VRels m args us/\r=(callFunc f us.toArray).run P w
 | .yield i args=>∃ us p,VRels m args us/\m i=some p/\r=(Instr.yield p.block us.toArray).run P w
theorem OutSnd.of_good{v:Value}{h':Hp}{x:Sem Value}(hg:Good B w0 m h v h' (x.run P w)) :
  OutSnd P B w0 m h w ((do let u <- x;pure (Next.value u):Sem Next).run P w) (.val v h'):=by
 obtain⟨m',u,w',h1,h2,h3,h4,h5⟩:=hg
 exact⟨m',u,w',h1,h2,h3,.inl (by simp[h4]),h5⟩
theorem OutSnd.of_run(s:Sim B w0 m h w){v:Value}{x:Sem Value}(hg:∃ r,x.run P w=.ok r w/\VRel m v r) :
  OutSnd P B w0 m h w ((do let u <- x;pure (Next.value u):Sem Next).run P w) (.val v h):=by
 obtain⟨r,h1,h2⟩:=hg
 exact OutSnd.of_good ⟨m,r,w,Stp.refl m h,s,h2,h1,fun _=>rfl⟩
theorem OutSnd.of_val(s:Sim B w0 m h w){v u:Value}(hr:VRel m v u):OutSnd P B w0 m h w ((pure (Next.value u):Sem Next).run P w) (.val v h) :=
 ⟨m,u,w,Stp.refl m h,s,hr,.inl rfl,fun _=>rfl⟩
theorem v1_some{x:Operand}{k:Value->Option Out}{out:Out}(hv:v1 E x k=some out):∃ v,evalO E x=some v/\k v=some out:=by
 unfold v1 at hv
 split at hv
 ·rename_i v h1;exact⟨v,h1,hv⟩
 ·cases hv
theorem v2_some{x y:Operand}{k:Value->Value->Option Out}{out:Out}(hv:v2 E x y k=some out):∃ v u,evalO E x=some v/\evalO E y=some u/\k v u=some out:=by
 unfold v2 at hv
 split at hv
 ·rename_i v u h1 h2;exact⟨v,u,h1,h2,hv⟩
 ·cases hv
theorem valO_some{o:Option Value}{out:Out}(hv:valO h o=some out):∃ v,o=some v/\out=.val v h:=by
 unfold valO at hv
 split at hv
 ·cases hv;exact⟨_,rfl,rfl⟩
 ·cases hv
theorem newO_some{o:Option (Value×Hp)}{out:Out}(hv:newO o=some out):∃ v h',o=some (v,h')/\out=.val v h':=by
 unfold newO at hv
 split at hv
 ·cases hv;exact⟨_,_,rfl,rfl⟩
 ·cases hv
theorem evalL_get:∀ {xs:List Operand} {vs:List Value},evalL E xs=some vs->∀ x∈xs,∃ v∈vs,evalO E x=some v
 | [],vs,_,x,hx=>by cases hx
 | y::xs,vs,hv,x,hx=>by
  simp only[evalL] at hv
  split at hv
  ·rename_i v vs' h1 h2
   cases hv
   rcases List.mem_cons.1 hx with rfl | hx
   ·exact⟨v,by simp,h1⟩
   ·obtain⟨u,hu,he⟩:=evalL_get h2 x hx
    exact⟨u,by simp[hu],he⟩
  ·cases hv
theorem evGround_snd(s:Sim B w0 m h w)(he:EnvRel m E a.tmps){o:Oper}{out:Out}(hsel:∀ cs b,o.op≠.select cs b)(hl:evGround P h E o=some out) :
  OutSnd P B w0 m h w ((execOp a.eval o).run P w) out:=by
 unfold evGround at hl
 split at hl
 ·rename_i vs hvs
  split at hl
  ·rename_i hall
   split at hl
   ·rename_i v hp
    split at hl
    ·rename_i hg
     cases hl
     have hc:execOp a.eval o=execOp (fun x=>(evalO E x).getD undef) o:=by
      refine execOp_congr o hsel fun x hx=>?_
      obtain⟨u,hu,hxu⟩:=evalL_get hvs x (by simpa using hx)
      have:=(evalO_rel he hxu).ground (List.all_eq_true.1 hall u hu)
      rw[hxu,Option.getD_some,this]
     rw[hc,pureRun_run _ hp w]
     exact⟨m,v,w,Stp.refl m h,s,VRel.refl m v hg,.inl rfl,fun _=>rfl⟩
    ·cases hl
   ·cases hl
   ·cases hl
  ·cases hl
 ·cases hl
theorem optO_rel(he:EnvRel m E a.tmps){x:Option Operand}{v:Option Value}(hv:optO E x=some v):ORel m v (x.map a.eval):=by
 unfold optO at hv
 split at hv
 ·cases hv;trivial
 ·split at hv
  ·rename_i h1;cases hv;exact evalO_rel he h1
  ·cases hv
theorem evNil_snd{v r u:Value}(hl:evNil v=some r)(hr:VRel m v u):r=v/\((∃ b,u=.pointer (some b))\/(∃ t x,u=.iface t x)\/(∃ f x y,u=.func (.func f) x y)):=by
 unfold evNil at hl
 split at hl
 ·cases hl
  refine⟨rfl,.inl ?_⟩
  obtain⟨b',rfl,hb⟩:=hr.ptr_any_inv
  cases b' with
  | none=>simp at hb
  | some b'=>exact⟨_,rfl⟩
 ·cases hl
  obtain⟨x,rfl,_⟩:=hr.iface_inv
  exact⟨rfl,.inr (.inl ⟨_,_,rfl⟩)⟩
 ·cases hl
  cases hr with
  | func f a b c d h1 h2 hf e1 e2=>exact⟨rfl,.inr (.inr ⟨_,_,_,rfl⟩)⟩
 ·cases hl
theorem evAssert_snd{v u r:Value}{xt t:TypeId}{ok:Bool}(hl:evAssert P v t ok=some r)(hr:VRel m v u)(w:World):∃ y,(Instr.typeAssert u xt t ok).run P w=.ok y w/\VRel m r y:=by
 unfold evAssert at hl
 split at hl
 ·cases hl
 ·rename_i d tt x hni hu
  obtain⟨y,rfl,hy⟩:=hr.iface_inv
  have hd:∀ q,d≠.interface q:=fun q e=>hni q e
  by_cases hut:tt=t
  ·subst hut
   have hb:Nat.beq tt tt=true:=Nat.beq_refl _
   simp only[hb] at hl
   cases ok with
   | true =>
    simp only at hl;cases hl
    refine⟨.tuple #[y,.bool true],?_,VRel.tuple_l (.cons hy (.cons (.bool _) (.nil m)))⟩
    cases d<;>first | exact absurd rfl (hd _) | simp[Instr.typeAssert,run_underlying hu]
   | false =>
    simp only at hl;cases hl
    refine⟨y,?_,hy⟩
    cases d<;>first | exact absurd rfl (hd _) | simp[Instr.typeAssert,run_underlying hu]
  ·have hb:Nat.beq tt t=false:=by
    cases hb:Nat.beq tt t with
    | false=>rfl
    | true=>exact absurd (Nat.eq_of_beq_eq_true hb) hut
   simp only[hb] at hl
   cases ok with
   | true =>
    simp only at hl
    split at hl
    ·rename_i z hz
     split at hl
     ·rename_i hg
      cases hl
      refine⟨.tuple #[z,.bool false],?_,VRel.tuple_l (.cons (VRel.refl m z hg) (.cons (.bool _) (.nil m)))⟩
      cases d<;>first | exact absurd rfl (hd _) | simp[Instr.typeAssert,run_underlying hu,hut,run_zeroO hz]
     ·cases hl
    ·cases hl
   | false=>cases hl
 ·rename_i d hni hu
  have:=hr.nilIface_inv;subst this
  have hd:∀ q,d≠.interface q:=fun q e=>hni q e
  split at hl
  ·rename_i z hz
   split at hl
   ·rename_i hg
    cases hl
    refine⟨.tuple #[z,.bool false],?_,VRel.tuple_l (.cons (VRel.refl m z hg) (.cons (.bool _) (.nil m)))⟩
    cases d<;>first | exact absurd rfl (hd _) | simp[Instr.typeAssert,run_underlying hu,run_zeroO hz]
   ·cases hl
  ·cases hl
 ·cases hl
theorem VRel.func_inv{g:FuncId}{x y:Array Value}{u:Value}(hr:VRel m (.func (.func g) x y) u):∃ x' y',u=.func (.func g) x' y'/\VRels m x.toList x'.toList/\VRels m y.toList y'.toList:=by
 cases hr with
 | func f a b c d h1 h2 hf e1 e2=>exact⟨_,_,rfl,VRels.of_arr h1 e1,VRels.of_arr h2 e2⟩
theorem evCallV_snd{f u:Value}{args us:List Value}{out:Out}(hl:evCallV f args=some out)(hr:VRel m f u)(ha:VRels m args us) :
  OutSnd P B w0 m h w ((do let d <- Deferred.ofValue u us.toArray;invoke d.target d.args:Sem Next).run P w) out:=by
 unfold evCallV at hl
 split at hl
 ·cases hl
  obtain⟨x',y',rfl,h1,h2⟩:=hr.func_inv
  refine⟨x'.toList++us++y'.toList,(h1.append ha).append h2,?_⟩
  have e:(x'.toList++us++y'.toList).toArray=x'++us.toArray++y':=by apply Array.ext';simp
  rw[e]
  rfl
 ·cases hl
  cases hr with
  | func f a b c d h1 h2 hf e1 e2=>exact absurd rfl (hf _)
  | yield i p hp =>
   refine⟨us,p,ha,hp,?_⟩
   simp[Deferred.ofValue,invoke]
 ·cases hl
theorem evBuiltin_snd(s:Sim B w0 m h w)(he:EnvRel m E a.tmps){o:Oper}{c:Call}{b:Builtin}(ho:o.op=.call c)(hc:c.callee=.builtin b){out:Out}
  (hl:evBuiltin P h E o b c.args.toList c.argTypes.toList=some out):OutSnd P B w0 m h w ((execOp a.eval o).run P w) out:=by
 have hsel:∀ cs b,o.op≠.select cs b:=fun cs b=>by rw[ho];simp
 have hex:execOp a.eval o=builtin b c.argTypes o.type (c.args.map fun | .const _=>true | _=>false) (c.args.map a.eval):=by
  simp only[execOp,ho,resolve,hc]
  rfl
 unfold evBuiltin at hl
 split at hl
 ·split at hl
  ·rename_i x y hargs
   obtain⟨v,u,h1,h2,h3⟩:=v2_some hl
   obtain⟨r,h',h4,rfl⟩:=newO_some h3
   have ha:c.args.map a.eval=#[a.eval x,a.eval y]:=by
    apply Array.ext';simp[hargs]
   rw[hex,ha]
   have:=evAppend_snd s o.type h4 (evalO_rel he h1) (evalO_rel he h2)
   simp only[Array.toArray_toList] at this
   exact OutSnd.of_good this
  ·cases hl
 ·split at hl
  ·rename_i x t hargs hts
   obtain⟨v,h1,h2⟩:=v1_some hl
   split at h2
   ·rename_i b1 n z e hu
    cases h2
    have ha:c.args.map a.eval=#[a.eval x]:=by
     apply Array.ext';simp[hargs]
    have ht:c.argTypes=#[t]:=by apply Array.ext';simp[hts]
    obtain⟨b2,c2,hv,_⟩:=(evalO_rel he h1).slice_any_inv
    rw[hex,ha,ht,hv]
    exact⟨m,.int .i64 n,w,Stp.refl m h,s,.int _ _,.inl (by simp[builtin,Builtin.len_,run_underlying hu,goInt]),fun _=>rfl⟩
   ·cases h2
   ·exact evGround_snd s he hsel h2
  ·cases hl
 ·split at hl
  ·rename_i x t hargs hts
   obtain⟨v,h1,h2⟩:=v1_some hl
   split at h2
   ·rename_i h' hcl
    cases h2
    have ha:c.args.map a.eval=#[a.eval x]:=by
     apply Array.ext';simp[hargs]
    have ht:c.argTypes=#[t]:=by apply Array.ext';simp[hts]
    obtain⟨w',h3,h4⟩:=evClear_snd (ty:=o.type) s hcl (evalO_rel he h1)
    rw[hex,ha,ht]
    exact⟨m,.tuple #[],w',Stp.same (evClear_len hcl),h4,VRel.refl m _ rfl,.inl (by simp[builtin,h3]),fun _=>rfl⟩
   ·cases h2
  ·cases hl
 ·exact evGround_snd s he hsel hl
theorem eqGuard_run{op:BinOp}(hop:op=.eql\/op=.neq){t:TypeId}{x y:Operand}{v u:Value}(h1:eqPlain v=true)(h2:(v=.nilIface/\u=.nilIface)->False) :
  (eqGuard op t x y v u).run P w=.ok () w:=by
 rcases hop with rfl | rfl<;>cases v<;>simp[eqPlain] at h1<;>cases u<;>first | exact (h2 ⟨rfl,rfl⟩).elim | simp[eqGuard]
theorem map_parts(ps:Array (Nat×Operand)):(ps.map fun (i,x)=>(i,a.eval x)).toList=ps.toList.map (fun x=>(x.1,a.eval x.2)):=by simp
theorem evOp_snd(s:Sim B w0 m h w)(he:EnvRel m E a.tmps){o:Oper}{out:Out}(hl:evOp P h E o=some out) :
  OutSnd P B w0 m h w ((execOp a.eval o).run P w) out:=by
 unfold evOp at hl
 split at hl
 ·rename_i x ho
  obtain⟨v,h1,h2⟩:=v1_some hl
  cases h2
  simp only[execOp,ho]
  exact OutSnd.of_val s (evalO_rel he h1)
 ·rename_i x ho
  obtain⟨v,h1,h2⟩:=v1_some hl
  cases h2
  simp only[execOp,ho]
  exact OutSnd.of_val s (evalO_rel he h1)
 ·rename_i c x y ho
  obtain⟨v,h1,h2⟩:=v1_some hl
  have hc:=evalO_rel he h1
  split at h2
  ·obtain⟨v,h3,h4⟩:=v1_some h2
   cases h4
   have:a.eval c=.bool true:=by generalize a.eval c=q at hc;cases hc;rfl
   simp only[execOp,ho,this,asBool]
   exact OutSnd.of_val s (evalO_rel he h3)
  ·obtain⟨v,h3,h4⟩:=v1_some h2
   cases h4
   have:a.eval c=.bool false:=by generalize a.eval c=q at hc;cases hc;rfl
   simp only[execOp,ho,this,asBool]
   exact OutSnd.of_val s (evalO_rel he h3)
  ·cases h2
 ·rename_i t ho
  obtain⟨v,h',h1,rfl⟩:=newO_some hl
  simp only[execOp,ho]
  exact OutSnd.of_good (evAlloc_snd s h1)
 ·rename_i t x ho
  obtain⟨v,h1,h2⟩:=v1_some hl
  obtain⟨r,h',h3,rfl⟩:=newO_some h2
  cases h3
  simp only[execOp,ho]
  exact OutSnd.of_good (evBox_snd s t (evalO_rel he h1))
 ·rename_i t ps ho
  split at hl
  ·rename_i l hp
   obtain⟨v,h1,rfl⟩:=valO_some hl
   obtain⟨k1,k2⟩:=partsO_rel he hp
   simp only[execOp,ho]
   refine OutSnd.of_good (evBuild_snd s h1 ?_ ?_)
   ·rw[map_parts];exact k1
   ·rw[map_parts];exact k2
  ·cases hl
 ·rename_i t n ps ho
  split at hl
  ·rename_i l hp
   obtain⟨v,h',h1,rfl⟩:=newO_some hl
   obtain⟨k1,k2⟩:=partsO_rel he hp
   simp only[execOp,ho]
   refine OutSnd.of_good (evBuildSlice_snd s h1 ?_ ?_)
   ·rw[map_parts];exact k1
   ·rw[map_parts];exact k2
  ·cases hl
 ·rename_i t x y ho
  obtain⟨a1,b1,h1,h2,h3⟩:=v2_some hl
  split at h3
  ·rename_i kd n kd' k
   obtain⟨v,h',h4,rfl⟩:=newO_some h3
   have e1:=evalO_rel he h1
   have e2:=evalO_rel he h2
   simp only[execOp,ho]
   generalize a.eval x=q1 at e1
   generalize a.eval y=q2 at e2
   cases e1
   cases e2
   exact OutSnd.of_good (evMakeSlice_snd s h4)
  ·cases h3
 ·rename_i t ho
  obtain⟨v,h',h1,rfl⟩:=newO_some hl
  cases h1
  simp only[execOp,ho]
  exact OutSnd.of_good (evMakeMap_snd s t)
 ·rename_i t x k ok ho
  obtain⟨v,u,h1,h2,h3⟩:=v2_some hl
  obtain⟨r,h4,rfl⟩:=valO_some h3
  simp only[execOp,ho]
  exact OutSnd.of_run s (evLookup_snd s h4 (evalO_rel he h1) (evalO_rel he h2))
 ·rename_i t x k y ho
  obtain⟨v,u,h1,h2,h3⟩:=v2_some hl
  obtain⟨z,h4,h5⟩:=v1_some h3
  split at h5
  ·rename_i h' h6
   cases h5
   obtain⟨w',k1,k2⟩:=evMapUpdate_snd (P:=P) s h6 (evalO_rel he h1) (evalO_rel he h2) (evalO_rel he h4)
   refine⟨m,undef,w',Stp.same (evMapUpdate_len h6),k2,VRel.refl m _ rfl,.inr ⟨?_,rfl⟩,fun _=>rfl⟩
   simp[execOp,ho,k1]
  ·cases h5
 ·rename_i t x ho
  obtain⟨v,h1,h2⟩:=v1_some hl
  obtain⟨r,h3,rfl⟩:=valO_some h2
  simp only[execOp,ho]
  exact OutSnd.of_run s (evLoad_snd s h3 (evalO_rel he h1))
 ·rename_i t x y ho
  obtain⟨v,u,h1,h2,h3⟩:=v2_some hl
  split at h3
  ·rename_i h' h4
   cases h3
   obtain⟨w',k1,k2⟩:=evStore_snd (P:=P) s h4 (evalO_rel he h1) (evalO_rel he h2)
   refine⟨m,undef,w',Stp.same (evStore_len h4),k2,VRel.refl m _ rfl,.inr ⟨?_,rfl⟩,fun _=>rfl⟩
   simp[execOp,ho,k1]
  ·cases h3
 ·rename_i x ho
  obtain⟨v,h1,h2⟩:=v1_some hl
  obtain⟨r,h3,rfl⟩:=valO_some h2
  obtain⟨rfl,hc⟩:=evNil_snd h3 (evalO_rel he h1)
  refine⟨m,a.eval x,w,Stp.refl m h,s,evalO_rel he h1,.inl ?_,fun _=>rfl⟩
  rcases hc with⟨b,hb⟩ | ⟨t,y,hb⟩ | ⟨f,y,z,hb⟩<;>simp[execOp,ho,hb]
 ·rename_i t x ho
  obtain⟨v,h1,h2⟩:=v1_some hl
  split at h2
  ·cases h2
  ·rename_i d hni hu
   cases h2
   simp only[execOp,ho]
   refine OutSnd.of_run s ⟨.iface t (a.eval x),?_,.iface t _ _ (evalO_rel he h1)⟩
   cases d<;>first | exact (hni _ rfl).elim | simp[Instr.makeInterface,run_underlying hu]
  ·cases h2
 ·rename_i f first captured ho
  split at hl
  ·split at hl
   ·rename_i x y h1 h2
    cases hl
    simp only[execOp,ho]
    have r1:=evalL_rel he h1
    have r2:=evalL_rel he h2
    refine OutSnd.of_run s ⟨_,rfl,?_⟩
    refine .func _ _ _ _ _ ?_ ?_ (fun l e=>by cases e) ?_ ?_
    ·have:=r1.1;simpa using this
    ·have:=r2.1;simpa using this
    ·intro j hj hj'
     exact r1.2 j _ _ (by simp) (by rw[List.getElem?_map,Array.getElem?_toList,Array.getElem?_eq_getElem (by simpa using hj')];simp)
    ·intro j hj hj'
     exact r2.2 j _ _ (by simp) (by rw[List.getElem?_map,Array.getElem?_toList,Array.getElem?_eq_getElem (by simpa using hj')];simp)
   ·cases hl
  ·cases hl
 ·rename_i t x f ho
  obtain⟨v,h1,h2⟩:=v1_some hl
  obtain⟨r,h3,rfl⟩:=valO_some h2
  simp only[execOp,ho]
  exact OutSnd.of_run s (evFieldAddr_snd h3 (evalO_rel he h1) w)
 ·rename_i t x f ho
  obtain⟨v,h1,h2⟩:=v1_some hl
  obtain⟨r,h3,rfl⟩:=valO_some h2
  simp only[execOp,ho]
  exact OutSnd.of_run s (evField_snd h3 (evalO_rel he h1) w)
 ·rename_i t x ix ho
  obtain⟨v,u,h1,h2,h3⟩:=v2_some hl
  obtain⟨r,h4,rfl⟩:=valO_some h3
  simp only[execOp,ho]
  exact OutSnd.of_run s (evIndexAddr_snd h4 (evalO_rel he h1) (evalO_rel he h2) w)
 ·rename_i t x ix ho
  obtain⟨v,u,h1,h2,h3⟩:=v2_some hl
  split at h3
  ·obtain⟨r,h4,rfl⟩:=valO_some h3
   simp only[execOp,ho]
   exact OutSnd.of_run s (evIndex_snd h4 (evalO_rel he h1) (evalO_rel he h2) w)
  ·exact evGround_snd s he (fun cs b=>by rw[ho];simp) h3
 ·rename_i t x lo hi ho
  split at hl
  ·rename_i vlo vhi hlo hhi
   obtain⟨v,h1,h2⟩:=v1_some hl
   split at h2
   ·obtain⟨r,h4,rfl⟩:=valO_some h2
    simp only[execOp,ho]
    exact OutSnd.of_run s (evSlice_snd h4 (evalO_rel he h1) (optO_rel he hlo) (optO_rel he hhi) w)
   ·exact evGround_snd s he (fun cs b=>by rw[ho];simp) h2
  ·cases hl
 ·rename_i t i ho
  obtain⟨v,h1,h2⟩:=v1_some hl
  have hr:=evalO_rel he h1
  split at h2
  ·rename_i vs
   obtain⟨r,h4,rfl⟩:=valO_some h2
   simp only[execOp,ho]
   cases hv:a.eval t<;>rw[hv] at hr<;>cases hr
   rename_i hsz e
   have hrs:=VRels.of_arr hsz e
   obtain⟨u,hu,hur⟩:=hrs.get (j:=i) (by simpa using h4)
   refine OutSnd.of_run s ⟨u,?_,hur⟩
   simp only[Array.getElem?_toList] at hu
   simp[Instr.extract,hu]
  ·cases h2
 ·rename_i x xt t ok ho
  obtain⟨v,h1,h2⟩:=v1_some hl
  obtain⟨r,h3,rfl⟩:=valO_some h2
  simp only[execOp,ho]
  exact OutSnd.of_run s (evAssert_snd h3 (evalO_rel he h1) w)
 ·rename_i op t x y yt ho
  obtain⟨v,u,h1,h2,h3⟩:=v2_some hl
  split at h3
  ·exact evGround_snd s he (fun cs b=>by rw[ho];simp) h3
  ·have hnn:(ground v&&ground u)=false->(a.eval x=.nilIface/\a.eval y=.nilIface)->False:=by
    intro hgr hn
    have r1:=evalO_rel he h1
    have r2:=evalO_rel he h2
    rw[hn.1] at r1;rw[hn.2] at r2
    cases r1;cases r2
    simp[ground] at hgr
   rename_i hgr
   split at h3
   ·split at h3
    ·rename_i r h4
     cases h3
     obtain⟨k1,k2⟩:=evEq_snd s h4 (evalO_rel he h1) (evalO_rel he h2)
     refine⟨m,.bool r,w,Stp.refl m h,s,.bool _,.inl ?_,fun _=>rfl⟩
     simp[execOp,ho,eqGuard_run (P:=P) (w:=w) (t:=t) (x:=x) (y:=y) (.inl rfl) k1 (hnn hgr),binOp_eql k1 k2]
    ·cases h3
   ·split at h3
    ·rename_i r h4
     cases h3
     obtain⟨k1,k2⟩:=evEq_snd s h4 (evalO_rel he h1) (evalO_rel he h2)
     refine⟨m,.bool (!r),w,Stp.refl m h,s,.bool _,.inl ?_,fun _=>rfl⟩
     simp[execOp,ho,eqGuard_run (P:=P) (w:=w) (t:=t) (x:=x) (y:=y) (.inr rfl) k1 (hnn hgr),binOp_neq k1 k2]
    ·cases h3
   ·cases h3
 ·rename_i ho;exact evGround_snd s he (fun cs b=>by rw[ho];simp) hl
 ·rename_i ho;exact evGround_snd s he (fun cs b=>by rw[ho];simp) hl
 ·rename_i c ho
  split at hl
  ·rename_i f hc
   split at hl
   ·rename_i l hargs
    obtain⟨v,h1,h2⟩:=v1_some hl
    have:=evCallV_snd (P:=P) (B:=B) (w0:=w0) (h:=h) (w:=w) h2 (evalO_rel he h1) (evalL_rel he hargs)
    simp only[execOp,ho,resolve,hc]
    have e:(c.args.toList.map a.eval).toArray=c.args.map a.eval:=by apply Array.ext';simp
    rw[e] at this
    exact this
   ·cases hl
  ·rename_i b hc
   exact evBuiltin_snd s he ho hc hl
  ·rename_i r name hc
   split at hl
   ·rename_i l hargs
    obtain⟨v,h1,h2⟩:=v1_some hl
    split at h2
    ·rename_i f x hmt
     cases h2
     obtain⟨ux,k1,k2⟩:=evMethod_snd (P:=P) s hmt (evalO_rel he h1)
     refine⟨ux::c.args.toList.map a.eval,.cons k1 (evalL_rel he hargs),?_⟩
     simp only[execOp,ho,resolve,hc]
     have e:(#[a.eval r]++c.args.map a.eval).extract 1 (#[a.eval r]++c.args.map a.eval).size=c.args.map a.eval:=by
      rw[Array.size_append]
      apply Array.ext'
      simp[List.take_of_length_le]
     have e2:(ux::c.args.toList.map a.eval).toArray=#[ux]++c.args.map a.eval:=by apply Array.ext';simp
     rw[e2,<- k2,Sem.run_bind,Sem.run_pure]
     have e0:(#[a.eval r]++c.args.map a.eval)[0]?=some (a.eval r):=by rw[Array.getElem?_append];simp
     simp only[Result.andThen,invoke,e,e0]
    ·cases h2
   ·cases hl
 ·cases hl
end Go.Ev
namespace Go.Ev
inductive Tgt where
 | fn (f:FuncId)
 | round (i:Nat)
abbrev CallF:=Tgt->List Value->Hp->Option (Value×Hp)
inductive Ex where
 | normal
 | ret
 | exit (id:Nat)
def putE(n:Nat)(E:Env)(dst:Option Tmp)(v:Value):Option Env:=match dst with
 | none=>some E
 | some d=>match Nat.blt d n with
  | true=>some ((d,v)::E)
  | false=>none
def wantedO(ops:Array Oper)(E:Env)(o:Oper):Option Bool:=match o.guard with
 | none=>some true
 | some (j,want)=>match (ops[j]?).bind (·.dst) with
  | some d=>match look E d with
   | some (.bool b)=>some (b==want)
   | some (.tuple ⟨[]⟩)=>some false
   | _=>none
  | none=>none
def evStep(P:Program)(C:CallF)(h:Hp)(E:Env)(o:Oper):Option (Value×Hp):=match evOp P h E o with
 | some (.val v h')=>some (v,h')
 | some (.call f args)=>C (.fn f) args h
 | some (.yield i args)=>C (.round i) args h
 | none=>none
def evOps(P:Program)(C:CallF)(n:Nat)(ops:Array Oper):List Oper->Env->Hp->Option (Env×Hp)
 | [],E,h=>some (E,h)
 | o::rest,E,h=>match wantedO ops E o with
  | some true=>match evStep P C h E o with
   | some (v,h')=>match putE n E o.dst v with
    | some E'=>evOps P C n ops rest E' h'
    | none=>none
   | none=>none
  | some false=>match putE n E o.dst undef with
   | some E'=>evOps P C n ops rest E' h
   | none=>none
  | none=>none
end Go.Ev
namespace Go.Ev
inductive Kd where
 | pure | read | alloc | major
def kindOf(o:Oper):Kd:=match o.op with
 | .move _ | .assign _ | .pick .. | .build .. | .nilCheck _ | .makeInterface .. | .makeFunc .. | .fieldAddr .. | .field .. | .indexAddr .. | .index .. | .slice .. | .extract ..
 | .typeAssert .. | .unOp .. | .convert ..=>.pure
 | .call c=>match c.callee with
  | .builtin .len | .builtin .min | .builtin .max=>.pure
  | _=>.major
 | .binOp .. | .load .. | .lookup ..=>.read
 | .alloc _ | .box .. | .buildSlice .. | .makeSlice .. | .makeMap ..=>.alloc
 | _=>.major
def tmpsOf:List Operand->List Nat
 | []=>[]
 | .tmp t::l=>t::tmpsOf l
 | _::l=>tmpsOf l
def readsOf(ops:Array Oper)(o:Oper):List Nat:=(match o.guard with
 | some (j,_)=>match (ops[j]?).bind (·.dst) with
  | some d=>[d]
  | none=>[]
 | none=>[])++tmpsOf o.op.operands.toList
def memN(d:Nat):List Nat->Bool
 | []=>false
 | x::l=>match Nat.beq x d with
  | true=>true
  | false=>memN d l
def writes(o:Oper)(d:Nat):Bool:=match o.dst with
 | some x=>Nat.beq x d
 | none=>false
def bound(ops:Array Oper)(x y:Oper):Bool :=
 (match x.dst with
  | some d=>memN d (readsOf ops y)||writes y d
  | none=>false) ||
 (match y.dst with
  | some d=>memN d (readsOf ops x)
  | none=>false) ||
 (match kindOf x,kindOf y with
  | .major,.major | .major,.alloc=>true
  | _,_=>false)
def ancs:List Oper->List Nat->List Nat
 | [],acc=>acc
 | o::l,acc=>ancs l (acc++[o.after.toList.foldl (fun s e=>match Region.binds .any e with
  | true=>s ||| 2 ^ e.on ||| acc.getD e.on 0
  | false=>s) 0])
def anc(an:List Nat)(i j:Nat):Bool:=Nat.testBit (an.getD j 0) i
def edgesOk(o:Oper)(j:Nat):Bool:=o.after.toList.all fun e=>match Region.binds .any e with
 | true=>Nat.blt e.on j
 | false=>true
def pairOk(ops:Array Oper)(an:List Nat)(i j:Nat)(x y:Oper):Bool:=match Nat.blt i j with
 | true=>match bound ops x y with
  | true=>anc an i j
  | false=>true
 | false=>true
def statOk(ops:Array Oper):Bool :=
 let an:=ancs ops.toList []
 (ops.toList.zipIdx.all fun (y,j)=>edgesOk y j&&(match y.op with | .select ..=>false | _=>true)&&ops.toList.zipIdx.all fun (x,i)=>pairOk ops an i j x y)
def pairsOf(ops:Array Oper):List (Nat×Nat) :=
 let an:=ancs ops.toList []
 ops.toList.zipIdx.flatMap fun (x,i)=>match kindOf x with
  | .read=>ops.toList.zipIdx.filterMap fun (y,j)=>match kindOf y with
   | .major=>match anc an i j||anc an j i with
    | true=>none
    | false=>some (i,j)
   | _=>none
  | .alloc=>ops.toList.zipIdx.filterMap fun (y,j)=>match kindOf y with
   | .major=>match Nat.blt i j with
    | true=>match anc an i j with
     | true=>none
     | false=>some (i,j)
    | false=>none
   | _=>none
  | _=>[]
def stepO(P:Program)(C:CallF)(ops:Array Oper)(o:Oper)(E:Env)(h:Hp):Option (Value×Hp):=match wantedO ops E o with
 | some true=>evStep P C h E o
 | some false=>some (undef,h)
 | none=>none
def traceO(P:Program)(C:CallF)(n:Nat)(ops:Array Oper):List Oper->Env->Hp->Option (List (Env×Hp))
 | [],E,h=>some [(E,h)]
 | o::l,E,h=>match stepO P C ops o E h with
  | some (v,h')=>match putE n E o.dst v with
   | some E'=>match traceO P C n ops l E' h' with
    | some tr=>some ((E,h)::tr)
    | none=>none
   | none=>none
  | none=>none
mutual
def veq:Value->Value->Bool
 | .bool a,.bool b=>a==b
 | .int j a,.int k b=>decide (j=k)&&decide (a=b)
 | .string a,.string b=>decide (a=b)
 | .pointer a,.pointer b=>decide (a=b)
 | .slice a n c,.slice b m d=>decide (a=b)&&Nat.beq n m&&Nat.beq c d
 | .map a,.map b=>decide (a=b)
 | .nilFunc,.nilFunc=>true
 | .nilIface,.nilIface=>true
 | .iface t v,.iface u w=>Nat.beq t u&&veq v w
 | .agg a,.agg b=>veqA a b
 | .tuple a,.tuple b=>veqA a b
 | .func (.func f) a b,.func (.func g) c d=>Nat.beq f g&&veqA a c&&veqA b d
 | _,_=>false
def veqA:Array Value->Array Value->Bool
 | ⟨a⟩,⟨b⟩=>veqL a b
def veqL:List Value->List Value->Bool
 | [],[]=>true
 | v::a,w::b=>veq v w&&veqL a b
 | _,_=>false
end
def madeSame(k:Nat)(h1 h2:Hp):Bool:=match h1[k]?,h2[k]? with
 | some (.cells c true),some (.cells d true)=>veqL c d
 | _,_=>false
def pairSame(P:Program)(ops:Array Oper)(tr:List (Env×Hp))(ij:Nat×Nat):Bool:=match ops[ij.1]?,tr[ij.1]?,tr[ij.2]?,tr[ij.2+1]? with
 | some o,some (E,h),some (_,h1),some (_,h2)=>match wantedO ops E o with
  | some true=>match kindOf o with
   | .alloc=>madeSame h.length h1 h2
   | _=>match evOp P h E o,evOp P h1 E o,evOp P h2 E o with
    | some (.val v _),some (.val v1 _),some (.val v2 _)=>veq v v1&&veq v v2
    | _,_,_=>false
  | some false=>true
  | none=>false
 | _,_,_,_=>false
def evDraw(P:Program)(C:CallF)(n:Nat)(ops:Array Oper)(E:Env)(h:Hp):Option (Env×Hp):=match statOk ops with
 | true=>match pairsOf ops with
  | []=>evOps P C n ops ops.toList E h
  | ps=>match traceO P C n ops ops.toList E h with
   | some tr=>match ps.all (pairSame P ops tr) with
    | true=>tr[ops.size]?
    | false=>none
   | none=>none
 | false=>none
def posOf:List Nat->Nat->Nat
 | [],_=>0
 | x::l,j=>match Nat.beq x j with
  | true=>0
  | false=>posOf l j+1
def relabG(π:List Nat):Option (Nat×Bool)->Option (Nat×Bool)
 | some (j,b)=>some (posOf π j,b)
 | none=>none
def relab(π:List Nat)(o:Oper):Oper:={ o with after:=(o.after.toList.map fun e=>{ e with on:=posOf π e.on }).toArray,guard:=relabG π o.guard }
def permOps(π:List Nat)(ops:Array Oper):Array Oper:=(π.map fun i=>relab π (ops.getD i default)).toArray
def permOk(π:List Nat)(n:Nat):Bool:=Nat.beq π.length n&&((List.range n).all fun i=>Nat.blt (π.getD i 0) n&&Nat.beq (posOf π (π.getD i 0)) i)&&(List.range n).all fun j=>Nat.blt (posOf π j) n
def isReady(done:Nat)(o:Oper):Bool:=o.after.toList.all fun e=>match Region.binds .any e with
 | true=>Nat.testBit done e.on
 | false=>true
def pickO(f:Oper->Bool)(done:Nat):List (Oper×Nat)->Option Nat
 | []=>none
 | (o,j)::l=>match Nat.testBit done j with
  | true=>pickO f done l
  | false=>match f o&&isReady done o with
   | true=>some j
   | false=>pickO f done l
def minorO(o:Oper):Bool:=match kindOf o with
 | .major=>false
 | _=>true
def orderL(l:List (Oper×Nat)):Nat->Nat->List Nat
 | 0,_=>[]
 | k+1,done=>match pickO minorO done l with
  | some j=>j::orderL l k (done ||| 2 ^ j)
  | none=>match pickO (fun _=>true) done l with
   | some j=>j::orderL l k (done ||| 2 ^ j)
   | none=>[]
def drawOps(ops:Array Oper):Array Oper:=match statOk ops with
 | true=>ops
 | false=>match permOk (orderL ops.toList.zipIdx ops.size 0) ops.size with
  | true=>permOps (orderL ops.toList.zipIdx ops.size 0) ops
  | false=>ops
end Go.Ev
namespace Go.Ev
def evLoop(body:Env->Hp->Option (Ex×Env×Hp)):Nat->Env->Hp->Option (Ex×Env×Hp)
 | 0,_,_=>none
 | k+1,E,h=>match body E h with
  | some (.normal,E',h')=>evLoop body k E' h'
  | r=>r
def jumpO:Option Code->Option Ex
 | none=>some .normal
 | some .ret=>some .ret
 | some (.exit id)=>some (.exit id)
 | _=>none
def evRange(C:CallF)(n:Nat)(E:Env)(h:Hp)(g:Operand)(ps:Array Tmp)(assign body:Code):Option (Ex×Env×Hp):=match evalO E g with
 | some gv=>match evCallV gv [.func (.yield h.length) #[] #[]] with
  | some (.call f args)=>match C (.fn f) args (h++[.loop .ready none E n ps assign body]) with
   | some (_,h2)=>match h2[h.length]? with
    | some (.loop .ready pend _ _ _ _ _)=>match jumpO pend with
     | some x=>some (x,E,h2.set h.length .dead)
     | none=>none
    | some (.loop .done pend _ _ _ _ _)=>match jumpO pend with
     | some x=>some (x,E,h2.set h.length .dead)
     | none=>none
    | _=>none
   | none=>none
  | _=>none
 | none=>none
def evCode(P:Program)(C:CallF)(k n:Nat)(rd:Bool):Code->Env->Hp->Option (Ex×Env×Hp)
 | .skip,E,h=>some (.normal,E,h)
 | .label _,E,h=>some (.normal,E,h)
 | .ret,E,h=>some (.ret,E,h)
 | .exit id,E,h=>some (.exit id,E,h)
 | .seq a b,E,h=>match evCode P C k n rd a E h with
  | some (.normal,E',h')=>evCode P C k n rd b E' h'
  | r=>r
 | .cond c x y,E,h=>match evalO E c with
  | some (.bool true)=>evCode P C k n rd x E h
  | some (.bool false)=>evCode P C k n rd y E h
  | _=>none
 | .block id b,E,h=>match evCode P C k n rd b E h with
  | some (.exit j,E',h')=>match Nat.beq j id with
   | true=>some (.normal,E',h')
   | false=>some (.exit j,E',h')
  | r=>r
 | .loop b,E,h=>evLoop (evCode P C k n rd b) k E h
 | .region _ ops false,E,h=>match evOps P C n ops ops.toList E h with
  | some (E',h')=>some (.normal,E',h')
  | none=>none
 | .region _ ops true,E,h=>match evDraw P C n (drawOps ops) E h with
  | some (E',h')=>some (.normal,E',h')
  | none=>none
 | .rangeFunc g ps assign body,E,h=>match rd with
  | false=>evRange C n E h g ps assign body
  | true=>none
 | _,_,_=>none
def enterE:Nat->List Value->Env
 | _,[]=>[]
 | i,v::l=>(i,v)::enterE (i+1) l
def evResult(P:Program)(E:Env)(h:Hp):ResultVar->Option Value
 | .tmp t=>look E t
 | .cell a t=>match look E a with
  | some v=>evLoad P h t v
  | none=>none
def evResultL(P:Program)(E:Env)(h:Hp):List ResultVar->Option (List Value)
 | []=>some []
 | r::l=>match evResult P E h r,evResultL P E h l with
  | some v,some vs=>some (v::vs)
  | _,_=>none
def evResults(P:Program)(fn:Func)(E:Env)(h:Hp):Option Value:=match evResultL P E h fn.results.toList with
 | some [v]=>some v
 | some vs=>some (.tuple vs.toArray)
 | none=>none
def setRound(h:Hp)(i:Nat)(st:LoopState)(pend:Option Code):Option Hp:=match h[i]? with
 | some (.loop _ _ E n ps assign body)=>some (h.set i (.loop st pend E n ps assign body))
 | _=>none
def evRound(P:Program)(C:CallF)(k:Nat)(i:Nat)(args:List Value)(h:Hp):Option (Value×Hp):=match h[i]? with
 | some (.loop _ _ E n ps assign body)=>match Nat.beq ps.toList.length args.length,ps.toList.all (Nat.blt · n) with
  | true,true=>match evCode P C k n true assign ((ps.toList.zip args).foldl (fun E x=>x::E) E) h with
   | some (.normal,E2,h2)=>match h2[i]? with
    | some (.loop .ready pend2 _ _ _ _ _)=>match setRound h2 i .busy pend2 with
     | some h3=>match evCode P C k n true body E2 h3 with
      | some (.normal,_,h4)=>match setRound h4 i .ready none with
       | some h5=>some (.bool true,h5)
       | none=>none
      | some (.ret,_,h4)=>match setRound h4 i .done (some .ret) with
       | some h5=>some (.bool false,h5)
       | none=>none
      | some (.exit id,_,h4)=>match setRound h4 i .done (some (.exit id)) with
       | some h5=>some (.bool false,h5)
       | none=>none
      | none=>none
     | none=>none
    | _=>none
   | _=>none
  | _,_=>none
 | _=>none
def evBody(P:Program)(C:CallF)(k:Nat)(f:FuncId)(args:List Value)(h:Hp):Option (Value×Hp):=match P.funcs[f]? with
 | some fn=>match fn.body with
  | some c=>match evCode P C k (args.length+(fn.ntmps-args.length)) false c (enterE 0 args) h with
   | some (.normal,E,h')=>match evResults P fn E h' with
    | some v=>some (v,h')
    | none=>none
   | some (.ret,E,h')=>match evResults P fn E h' with
    | some v=>some (v,h')
    | none=>none
   | _=>none
  | none=>none
 | none=>none
def closedF(P:Program)(f:FuncId):Bool:=match P.funcs[f]? with
 | some fn=>match fn.resultTypes.toList with
  | [t]=>match P.underlying t with
   | some .bool=>true
   | _=>false
  | _=>false
 | none=>false
def closedO(r:Option (Value×Hp))(h:Hp):Option (Value×Hp):=match r with
 | some (v,_)=>match ground v with
  | true=>some (v,h)
  | false=>none
 | none=>none
def bodyless(P:Program)(f:FuncId):Bool:=match P.funcs[f]? with
 | some fn=>match fn.body with
  | some _=>false
  | none=>true
 | none=>false
def cloneO(h:Hp)(args:List Value):Option (Value×Hp):=match args with
 | [.iface t (.map (some r))]=>match mpAt h r with
  | some es=>some (.iface t (.map (some h.length)),h++[.mp es])
  | none=>none
 | _=>none
def externO(P:Program)(f:FuncId)(args:List Value)(h:Hp):Option (Value×Hp):=match P.funcs[f]? with
 | some fn => match fn.name == "maps.clone" && fn.origin == "" with
  | true=>cloneO h args
  | false=>none
 | none=>none
def evCall(P:Program):Nat->CallF
 | 0,_,_,_=>none
 | k+1,.fn f,args,h=>match args.isEmpty&&closedF P f with
  | true=>closedO (evBody P (evCall P k) k f args []) h
  | false=>match bodyless P f with
   | true=>externO P f args h
   | false=>evBody P (evCall P k) k f args h
 | k+1,.round i,args,h=>evRound P (evCall P k) k i args h
end Go.Ev
namespace Go.Ev
open Go.RowKit
variable {P:Program} {C:CallF}
def Fr(rd:Option Nat):Fence:={ Fence.wide with round:=rd }
theorem Fr_calls{rd:Option Nat}{nn:Nat}{f:FuncId}{args:Array Value}{w:World}{R:Ending->World->Prop}(h:Calls P f args w R):CallsIn (Fr rd) nn P f args w R :=
 (callsIn_wide (n:=nn)).2 h
theorem Fr_depth(rd:Option Nat)(n:Nat):(Fr rd).depth.isSome=true->1<=n:=by simp[Fr,Fence.wide]
def Back(B:Bs)(w0:World)(m:Pl)(h:Hp)(r:Value)(h':Hp):Ending->World->Prop :=
 fun e w'=>∃ m' u,Stp m h m' h'/\Sim B w0 m' h' w'/\VRel m' r u/\e=.returned u
structure CSnd(P:Program)(C:CallF):Prop where
 fn : ∀ {f args h r h'}, C (.fn f) args h = some (r, h') → ((∃ fn c, P.funcs[f]? = some fn ∧ fn.body = some c ∧ (fn.name == "runtime.NumGoroutine") = false) ∧
  ∀ B w0 m w us,Sim B w0 m h w->VRels m args us->Calls P f us.toArray w (Back B w0 m h r h')) \/
  ((∃ fn,P.funcs[f]?=some fn/\fn.body=none)/\(∃ t x,args=[.iface t x])/\(∃ t x,r=.iface t x)/\∀ B w0 m w us,Sim B w0 m h w->VRels m args us->∃ m' u w',Stp m h m' h'/\Sim B w0 m' h' w'/\VRel m' r u/\(callFunc f us.toArray).run P w=.ok (.value u) w')
 round:∀ {i args h r h'},C (.round i) args h=some (r,h')->∀ B w0 m w us p,Sim B w0 m h w->VRels m args us->m i=some p ->
  ∃ l:Loop,w.heap[p.block]?=some (.loop l)/\us.toArray.size=l.params.size /\
   ∀ nn,RoundIn Fence.wide nn P p.block l.fn ((l.params.zip us.toArray).foldl (fun tmps (t,x)=>tmps.setIfInBounds t x) l.tmps) l.assign l.body w (Back B w0 m h r h')
variable {B:Bs} {w0:World} {m:Pl} {h h':Hp} {w:World} {E E':Env} {a:Act} {n nn:Nat} {rd:Option Nat}
theorem putE_rel(he:EnvRel m E a.tmps)(hs:a.tmps.size=n){dst:Option Tmp}{v u:Value}(hp:putE n E dst v=some E')(hr:VRel m v u) :
  EnvRel m E' (a.put dst u).tmps/\(a.put dst u).tmps.size=n/\(a.put dst u).defers=a.defers:=by
 unfold putE at hp
 cases dst with
 | none=>cases hp;exact⟨he,hs,rfl⟩
 | some d =>
  simp only at hp
  split at hp
  ·rename_i hlt
   cases hp
   have hd:d<a.tmps.size:=by rw[hs];exact Nat.le_of_ble_eq_true (show Nat.ble (d+1) n=true from hlt)
   refine⟨fun t x hx=>?_,by simp[Act.put,hs],rfl⟩
   rw[look_cons] at hx
   simp only[Act.put,Array.getElem?_setIfInBounds]
   split at hx
   ·rename_i e;subst e;cases hx;exact⟨u,by simp[hd],hr⟩
   ·rename_i e
    obtain⟨y,hy,hyr⟩:=he t x hx
    exact⟨y,by simp[e,hy],hyr⟩
  ·cases hp
theorem wantedO_rel(he:EnvRel m E a.tmps){ops:Array Oper}{o:Oper}{b:Bool}(hw:wantedO ops E o=some b):Region.wanted o (yielded ops a.tmps)=b:=by
 unfold wantedO at hw
 split at hw
 ·rename_i hg;cases hw;simp[Region.wanted,hg]
 ·rename_i j want hg
  split at hw
  ·rename_i d hd
   split at hw
   ·rename_i x hx
    cases hw
    obtain⟨u,hu,hr⟩:=he d _ hx
    have:u=.bool x:=by cases hr;rfl
    subst this
    simp[Region.wanted,hg,yielded,hd,hu]
   ·rename_i hx
    cases hw
    obtain⟨u,hu,hr⟩:=he d _ hx
    cases hr with
    | tuple x y hs e=>simp[Region.wanted,hg,yielded,hd,hu]
   ·cases hw
  ·cases hw
theorem no_defer{o:Oper}{out:Out}(ho:evOp P h E o=some out):∀ c,o.op≠.defer c:=by
 intro c hc
 unfold evOp at ho
 rw[hc] at ho
 cases ho
theorem evStep_snd(hC:CSnd P C)(s:Sim B w0 m h w)(he:EnvRel m E a.tmps){o:Oper}{v:Value}(ho:evStep P C h E o=some (v,h')){next:Act->World->Prop}{Q:Exit->Act->World->Prop}
  (hk:∀ m' u w',Stp m h m' h'->Sim B w0 m' h' w'->VRel m' v u->next (a.put o.dst u) w'):o.wpIn (Fr rd) nn P a w next Q:=by
 unfold evStep at ho
 split at ho
 ·rename_i v1 h1 hop
  cases ho
  have hs:=evOp_snd s he hop
  obtain⟨m',u,w',h1,h2,h3,h4,_⟩:=hs
  refine⟨fun _ _=>trivial,?_⟩
  rw[Oper.semAt_eq _ _ _ (no_defer hop)]
  rcases h4 with h4 | ⟨h4,rfl⟩
  ·rw[h4,Oper.uponIn_value];exact hk m' u w' h1 h2 h3
  ·rw[h4,Oper.uponIn_skip];exact hk m' undef w' h1 h2 h3
 ·rename_i f args hop
  obtain⟨us,hus,hr⟩:=evOp_snd s he hop
  rcases hC.fn ho with⟨⟨fn,c,hf,hb,hn⟩,hcall⟩ | ⟨_,_,_,hext⟩
  ·refine⟨fun _ _=>trivial,?_⟩
   rw[Oper.semAt_eq _ _ _ (no_defer hop),hr,Go.MuLone.run_callFunc_enter hf hn hb,Oper.uponIn_enter]
   refine⟨Fr_depth rd nn,Fr_calls ((hcall B w0 m w us s hus).mono ?_)⟩
   rintro e w' ⟨m',u,k1,k2,k3,rfl⟩
   exact hk m' u w' k1 k2 k3
  ·obtain⟨m',u,w',k1,k2,k3,k4⟩:=hext B w0 m w us s hus
   refine⟨fun _ _=>trivial,?_⟩
   rw[Oper.semAt_eq _ _ _ (no_defer hop),hr,k4,Oper.uponIn_value]
   exact hk m' u w' k1 k2 k3
 ·rename_i i args hop
  obtain⟨us,p,hus,hp,hr⟩:=evOp_snd s he hop
  obtain⟨l,hl,hsz,hround⟩:=hC.round ho B w0 m w us p s hus hp
  refine⟨fun _ _=>trivial,?_⟩
  rw[Oper.semAt_eq _ _ _ (no_defer hop),hr,run_yield hl hsz,Oper.uponIn_round]
  refine⟨Fr_depth rd nn,?_⟩
  have:=(hround (nn-1)).mono (R':=fun
   | .returned v,w''=>next (a.put o.dst v) w''
   | .panicked chain,w''=>Q (.panic chain) a w''
   | .outgrown,_=>LetsOut Q) (by
    rintro e w' ⟨m',u,k1,k2,k3,rfl⟩
    exact hk m' u w' k1 k2 k3)
  exact this
 ·cases ho
theorem evOps_snd(hC:CSnd P C){ops:Array Oper}{Q:Exit->Act->World->Prop}:∀ (l:List Oper) {E:Env} {h:Hp} {m:Pl} {a:Act} {w:World},evOps P C n ops l E h=some (E',h') ->
  Sim B w0 m h w->EnvRel m E a.tmps->a.tmps.size=n ->
  (∀ m' a' w',Stp m h m' h'->Sim B w0 m' h' w'->EnvRel m' E' a'.tmps->a'.tmps.size=n->a'.defers=a.defers->Q .normal a' w')->wpListIn (Fr rd) nn P ops Q l a w
 | [],E,h,m,a,w,ho,s,he,hs,hk=>by
  simp only[evOps] at ho;cases ho
  exact hk m a w (.refl _ _) s he hs rfl
 | o::l,E,h,m,a,w,ho,s,he,hs,hk=>by
  simp only[evOps] at ho
  unfold wpListIn
  split at ho
  ·rename_i hw
   rw[if_pos (wantedO_rel he hw)]
   split at ho
   ·rename_i v h1 hst
    split at ho
    ·rename_i E1 hput
     refine evStep_snd hC s he hst fun m1 u w1 k1 k2 k3=>?_
     obtain⟨q1,q2,q3⟩:=putE_rel (he.mono k1.le) hs hput k3
     exact evOps_snd hC l ho k2 q1 q2 fun m' a' w' r1 r2 r3 r4 r5=>hk m' a' w' (k1.trans r1) r2 r3 r4 (by rw[r5,q3])
    ·cases ho
   ·cases ho
  ·rename_i hw
   rw[if_neg (by rw[wantedO_rel he hw];simp)]
   refine⟨fun _ _=>trivial,?_⟩
   split at ho
   ·rename_i E1 hput
    obtain⟨q1,q2,q3⟩:=putE_rel he hs hput (VRel.refl m undef rfl)
    exact evOps_snd hC l ho s q1 q2 fun m' a' w' r1 r2 r3 r4 r5=>hk m' a' w' r1 r2 r3 r4 (by rw[r5,q3])
   ·cases ho
  ·cases ho
end Go.Ev
namespace Go.Ev
open Go.RowKit
variable {P:Program} {C:CallF}
variable {B:Bs} {w0:World} {m:Pl} {h h':Hp} {w:World} {E E':Env} {a:Act} {n nn:Nat} {rd:Option Nat}
mutual
theorem veq_eq:∀ {a b:Value},veq a b=true->a=b
 | .bool a,b,h=>by cases b<;>simp[veq] at h;rw[h]
 | .int j a,b,h=>by cases b<;>simp[veq] at h;rw[h.1,h.2]
 | .string a,b,h=>by cases b<;>simp[veq] at h;rw[h]
 | .pointer a,b,h=>by cases b<;>simp[veq] at h;rw[h]
 | .slice a n c,b,h=>by cases b<;>simp[veq] at h;rw[h.1.1,h.1.2,h.2]
 | .map a,b,h=>by cases b<;>simp[veq] at h;rw[h]
 | .nilFunc,b,h=>by cases b<;>simp[veq] at h;rfl
 | .nilIface,b,h=>by cases b<;>simp[veq] at h;rfl
 | .iface t v,b,h=>by
  cases b<;>simp[veq] at h
  rw[h.1,veq_eq h.2]
 | .agg a,b,h=>by
  cases b<;>simp[veq] at h
  rw[veqA_eq h]
 | .tuple a,b,h=>by
  cases b<;>simp[veq] at h
  rw[veqA_eq h]
 | .func f a b,c,h=>by
  cases c with
  | func g c d =>
   cases f<;>cases g<;>simp[veq] at h
   rw[h.1.1,veqA_eq h.1.2,veqA_eq h.2]
  | _=>cases f<;>simp[veq] at h
 | .float ..,b,h=>by cases b<;>simp[veq] at h
 | .complex ..,b,h=>by cases b<;>simp[veq] at h
theorem veqA_eq:∀ {a b:Array Value},veqA a b=true->a=b
 | ⟨a⟩,⟨b⟩,h=>by rw[veqL_eq (a:=a) (b:=b) (by simpa[veqA] using h)]
theorem veqL_eq:∀ {a b:List Value},veqL a b=true->a=b
 | [],[],_=>rfl
 | [],_::_,h=>by simp[veqL] at h
 | _::_,[],h=>by simp[veqL] at h
 | v::a,w::b,h=>by
  simp[veqL] at h
  rw[veq_eq h.1,veqL_eq h.2]
end
theorem mem_tmpsOf{t:Nat}:∀ {l:List Operand},Operand.tmp t∈l->t∈tmpsOf l
 | x::l,h=>by
  rcases List.mem_cons.1 h with rfl | h
  ·simp[tmpsOf]
  ·have:=mem_tmpsOf h
   cases x<;>simp[tmpsOf,this]
theorem evalO_congr{x:Operand}(h:∀ t,x=.tmp t->look E t=look E' t):evalO E x=evalO E' x:=by
 cases x<;>simp[evalO]
 exact h _ rfl
theorem evalL_congr:∀ {l:List Operand},(∀ t,.tmp t∈l->look E t=look E' t)->evalL E l=evalL E' l
 | [],_=>rfl
 | x::l,h=>by
  simp only[evalL]
  rw[evalO_congr (fun t e=>h t (by simp[e])),evalL_congr (fun t ht=>h t (by simp[ht]))]
theorem partsO_congr:∀ {l:List (Nat×Operand)},(∀ t,.tmp t∈l.map (·.2)->look E t=look E' t)->partsO E l=partsO E' l
 | [],_=>rfl
 | (i,x)::l,h=>by
  simp only[partsO]
  rw[evalO_congr (fun t e=>h t (by simp[e])),partsO_congr (fun t ht=>h t (by simp only[List.map_cons,List.mem_cons];exact .inr ht))]
theorem evGround_congr{o:Oper}(hs:∀ cs b,o.op≠.select cs b)(ha:∀ t,.tmp t∈o.op.operands.toList->look E t=look E' t):evGround P h E o=evGround P h E' o:=by
 unfold evGround
 rw[evalL_congr ha]
 have:execOp (fun x=>(evalO E x).getD undef) o=execOp (fun x=>(evalO E' x).getD undef) o :=
  execOp_congr o hs fun x hx=>by rw[evalO_congr (fun t e=>ha t (by subst e;simpa using hx))]
 rw[this]
theorem v1_congr{x:Operand}{k k':Value->Option Out}(hx:∀ t,x=.tmp t->look E t=look E' t)(hk:∀ v,k v=k' v):v1 E x k=v1 E' x k':=by
 unfold v1
 rw[evalO_congr hx]
 split<;>first | exact hk _ | rfl
theorem v2_congr{x y:Operand}{k k':Value->Value->Option Out}(hx:∀ t,x=.tmp t->look E t=look E' t)(hy:∀ t,y=.tmp t->look E t=look E' t)(hk:∀ v u,k v u=k' v u):v2 E x y k=v2 E' x y k':=by
 unfold v2
 rw[evalO_congr hx,evalO_congr hy]
 split<;>first | exact hk _ _ | rfl
theorem evOp_congr{o:Oper}(ha:∀ t,.tmp t∈o.op.operands.toList->look E t=look E' t):evOp P h E o=evOp P h E' o:=by
 have g:(∀ cs b,o.op≠.select cs b)->evGround P h E o=evGround P h E' o:=fun hs=>evGround_congr hs ha
 unfold evOp
 cases ho:o.op with
 | move x=>exact v1_congr (fun t e=>ha t (by rw[ho];simp[Op.operands,e])) fun _=>rfl
 | assign x=>exact v1_congr (fun t e=>ha t (by rw[ho];simp[Op.operands,e])) fun _=>rfl
 | pick c x y =>
  refine v1_congr (fun t e=>ha t (by rw[ho];simp[Op.operands,e])) fun v=>?_
  split
  ·exact v1_congr (fun t e=>ha t (by rw[ho];simp[Op.operands,e])) fun _=>rfl
  ·exact v1_congr (fun t e=>ha t (by rw[ho];simp[Op.operands,e])) fun _=>rfl
  ·rfl
 | alloc t=>rfl
 | box t x=>exact v1_congr (fun t e=>ha t (by rw[ho];simp[Op.operands,e])) fun _=>rfl
 | build t ps=>simp only[];rw[partsO_congr (fun t ht=>ha t (by rw[ho];simpa[Op.operands] using ht))]
 | buildSlice t k ps=>simp only[];rw[partsO_congr (fun t ht=>ha t (by rw[ho];simpa[Op.operands] using ht))]
 | makeSlice t x y=>exact v2_congr (fun t e=>ha t (by rw[ho];simp[Op.operands,e])) (fun t e=>ha t (by rw[ho];simp[Op.operands,e])) fun _ _=>rfl
 | makeMap t r=>cases r<;>rfl
 | lookup t x k ok=>exact v2_congr (fun t e=>ha t (by rw[ho];simp[Op.operands,e])) (fun t e=>ha t (by rw[ho];simp[Op.operands,e])) fun _ _=>rfl
 | mapUpdate t x k y =>
  exact v2_congr (fun t e=>ha t (by rw[ho];simp[Op.operands,e])) (fun t e=>ha t (by rw[ho];simp[Op.operands,e])) fun _ _=>v1_congr (fun t e=>ha t (by rw[ho];simp[Op.operands,e])) fun _=>rfl
 | load t x=>exact v1_congr (fun t e=>ha t (by rw[ho];simp[Op.operands,e])) fun _=>rfl
 | store t x y=>exact v2_congr (fun t e=>ha t (by rw[ho];simp[Op.operands,e])) (fun t e=>ha t (by rw[ho];simp[Op.operands,e])) fun _ _=>rfl
 | nilCheck x=>exact v1_congr (fun t e=>ha t (by rw[ho];simp[Op.operands,e])) fun _=>rfl
 | makeInterface t x=>exact v1_congr (fun t e=>ha t (by rw[ho];simp[Op.operands,e])) fun _=>rfl
 | makeFunc f first captured =>
  simp only[]
  rw[evalL_congr (l:=first.toList) (fun t e=>ha t (by rw[ho];simp[Op.operands] at e ⊢;exact .inl e)),evalL_congr (l:=captured.toList) (fun t e=>ha t (by rw[ho];simp[Op.operands] at e ⊢;exact .inr e))]
 | fieldAddr t x f=>exact v1_congr (fun t e=>ha t (by rw[ho];simp[Op.operands,e])) fun _=>rfl
 | field t x f=>exact v1_congr (fun t e=>ha t (by rw[ho];simp[Op.operands,e])) fun _=>rfl
 | indexAddr t x y=>exact v2_congr (fun t e=>ha t (by rw[ho];simp[Op.operands,e])) (fun t e=>ha t (by rw[ho];simp[Op.operands,e])) fun _ _=>rfl
 | index t x y =>
  refine v2_congr (fun t e=>ha t (by rw[ho];simp[Op.operands,e])) (fun t e=>ha t (by rw[ho];simp[Op.operands,e])) fun _ _=>?_
  split
  ·rfl
  ·exact g (fun cs b=>by rw[ho];simp)
 | slice t x lo hi mx =>
  cases mx with
  | none =>
   have el:optO E lo=optO E' lo:=by cases lo<;>simp[optO];rw[evalO_congr (fun t e=>ha t (by rw[ho];simp[Op.operands,e]))]
   have eh:optO E hi=optO E' hi:=by cases hi<;>simp[optO];rw[evalO_congr (fun t e=>ha t (by rw[ho];simp[Op.operands,e]))]
   simp only[]
   rw[el,eh]
   split
   ·refine v1_congr (fun t e=>ha t (by rw[ho];simp[Op.operands,e])) fun _=>?_
    split
    ·rfl
    ·exact g (fun cs b=>by rw[ho];simp)
   ·rfl
  | some mx=>rfl
 | extract x i=>exact v1_congr (fun t e=>ha t (by rw[ho];simp[Op.operands,e])) fun _=>rfl
 | typeAssert x xt t ok=>exact v1_congr (fun t e=>ha t (by rw[ho];simp[Op.operands,e])) fun _=>rfl
 | binOp op t x y yt =>
  refine v2_congr (fun t e=>ha t (by rw[ho];simp[Op.operands,e])) (fun t e=>ha t (by rw[ho];simp[Op.operands,e])) fun _ _=>?_
  split
  ·exact g (fun cs b=>by rw[ho];simp)
  ·rfl
 | unOp op t x=>exact g (fun cs b=>by rw[ho];simp)
 | convert s d x=>exact g (fun cs b=>by rw[ho];simp)
 | call c =>
  simp only[]
  cases hc:c.callee with
  | value f =>
   simp only[]
   rw[evalL_congr (l:=c.args.toList) (fun t e=>ha t (by rw[ho];simp[Op.operands,Call.operands] at e ⊢;exact .inr e))]
   split
   ·exact v1_congr (fun t e=>ha t (by rw[ho];simp[Op.operands,Call.operands,hc,e])) fun _=>rfl
   ·rfl
  | builtin b =>
   simp only[]
   have hg:=g (fun cs b=>by rw[ho];simp)
   have hargs:∀ x∈c.args.toList,∀ t,x=.tmp t->look E t=look E' t:=fun x hx t e=>ha t (by rw[ho];subst e;simp[Op.operands,Call.operands] at hx ⊢;exact .inr hx)
   unfold evBuiltin
   split
   ·split
    ·rename_i x y hxy
     exact v2_congr (hargs x (by rw[hxy];simp)) (hargs y (by rw[hxy];simp)) fun _ _=>rfl
    ·rfl
   ·split
    ·rename_i x t hx ht
     refine v1_congr (hargs x (by rw[hx];simp)) fun _=>?_
     split<;>first | rfl | exact hg
    ·rfl
   ·split
    ·rename_i x t hx ht
     exact v1_congr (hargs x (by rw[hx];simp)) fun _=>rfl
    ·rfl
   ·exact hg
  | invoke r mname =>
   simp only[]
   rw[evalL_congr (l:=c.args.toList) (fun t e=>ha t (by rw[ho];simp[Op.operands,Call.operands] at e ⊢;exact .inr e))]
   split
   ·exact v1_congr (fun t e=>ha t (by rw[ho];simp[Op.operands,Call.operands,hc,e])) fun _=>rfl
   ·rfl
 | _=>rfl
theorem evGround_pure{o:Oper}{out:Out}(ho:evGround P h E o=some out):∃ v,out=.val v h/\∀ h',evGround P h' E o=some (.val v h'):=by
 unfold evGround at ho ⊢
 split at ho
 ·rename_i vs hvs
  split at ho
  ·rename_i hall
   split at ho
   ·rename_i v hp
    split at ho
    ·rename_i hg
     cases ho
     refine⟨v,rfl,fun h'=>?_⟩
     simp_all
    ·cases ho
   ·cases ho
   ·cases ho
  ·cases ho
 ·cases ho
theorem valO_pure{x:Option Value}{out:Out}(ho:valO h x=some out):∃ v,out=.val v h/\∀ h',valO h' x=some (.val v h'):=by
 obtain⟨v,rfl,rfl⟩:=valO_some ho
 exact⟨v,rfl,fun _=>rfl⟩
theorem v1_pure{x:Operand}{k:Hp->Value->Option Out}{out:Out}(ho:v1 E x (k h)=some out)(hk:∀ v,k h v=some out->∃ u,out=.val u h/\∀ h',k h' v=some (.val u h')) :
  ∃ u,out=.val u h/\∀ h',v1 E x (k h')=some (.val u h'):=by
 obtain⟨v,h1,h2⟩:=v1_some ho
 obtain⟨u,e,hu⟩:=hk v h2
 exact⟨u,e,fun h'=>by simp[v1,h1,hu]⟩
theorem v2_pure{x y:Operand}{k:Hp->Value->Value->Option Out}{out:Out}(ho:v2 E x y (k h)=some out)(hk:∀ v v',k h v v'=some out->∃ u,out=.val u h/\∀ h',k h' v v'=some (.val u h')) :
  ∃ u,out=.val u h/\∀ h',v2 E x y (k h')=some (.val u h'):=by
 obtain⟨v,v',h1,h1',h2⟩:=v2_some ho
 obtain⟨u,e,hu⟩:=hk v v' h2
 exact⟨u,e,fun h'=>by simp[v2,h1,h1',hu]⟩
end Go.Ev
namespace Go.Ev
open Go.RowKit
variable {P:Program} {C:CallF}
variable {B:Bs} {w0:World} {m:Pl} {h h':Hp} {w:World} {E E':Env} {a:Act} {n nn:Nat} {rd:Option Nat}
theorem kind_pure{o:Oper}{out:Out}(hk:kindOf o=.pure)(ho:evOp P h E o=some out):∃ v,out=.val v h/\∀ h',evOp P h' E o=some (.val v h'):=by
 unfold evOp at ho ⊢
 cases hop:o.op with
 | move x=>rw[hop] at ho;exact v1_pure (k:=fun h v=>some (.val v h)) ho fun v e=>⟨v,by cases e;rfl,fun _=>rfl⟩
 | assign x=>rw[hop] at ho;exact v1_pure (k:=fun h v=>some (.val v h)) ho fun v e=>⟨v,by cases e;rfl,fun _=>rfl⟩
 | pick c x y =>
  rw[hop] at ho
  refine v1_pure (k:=fun h c=>match c with
   | .bool true=>v1 E x fun v=>some (.val v h)
   | .bool false=>v1 E y fun v=>some (.val v h)
   | _=>none) ho fun v e=>?_
  split at e
  ·exact v1_pure (k:=fun h v=>some (.val v h)) e fun v e=>⟨v,by cases e;rfl,fun _=>rfl⟩
  ·exact v1_pure (k:=fun h v=>some (.val v h)) e fun v e=>⟨v,by cases e;rfl,fun _=>rfl⟩
  ·cases e
 | build t ps =>
  rw[hop] at ho
  simp only[] at ho ⊢
  split at ho
  ·exact valO_pure ho
  ·cases ho
 | nilCheck x=>rw[hop] at ho;exact v1_pure (k:=fun h v=>valO h (evNil v)) ho fun v e=>valO_pure e
 | makeInterface t x =>
  rw[hop] at ho
  refine v1_pure (k:=fun h v=>match P.underlying t with
   | some (.interface _)=>none
   | some _=>some (.val (.iface t v) h)
   | none=>none) ho fun v e=>?_
  split at e
  ·cases e
  ·rename_i d hni hd
   cases e
   exact⟨_,rfl,fun _=>rfl⟩
  ·cases e
 | makeFunc f first captured =>
  rw[hop] at ho
  simp only[] at ho ⊢
  split at ho
  ·split at ho
   ·cases ho;exact⟨_,rfl,fun _=>rfl⟩
   ·cases ho
  ·cases ho
 | fieldAddr t x f=>rw[hop] at ho;exact v1_pure (k:=fun h v=>valO h (evFieldAddr P t v f)) ho fun v e=>valO_pure e
 | field t x f=>rw[hop] at ho;exact v1_pure (k:=fun h v=>valO h (evField P t v f)) ho fun v e=>valO_pure e
 | indexAddr t x y=>rw[hop] at ho;exact v2_pure (k:=fun h v u=>valO h (evIndexAddr P t v u)) ho fun v u e=>valO_pure e
 | index t x y =>
  rw[hop] at ho
  refine v2_pure (k:=fun h v ix=>match v with
   | .agg _=>valO h (evIndex P t v ix)
   | _=>evGround P h E o) ho fun v u e=>?_
  split at e
  ·exact valO_pure e
  ·exact evGround_pure e
 | slice t x lo hi mx =>
  rw[hop] at ho
  cases mx with
  | some mx=>cases ho
  | none =>
   simp only[] at ho ⊢
   split at ho
   ·rename_i vlo vhi _ _
    refine v1_pure (k:=fun h v=>match v with
     | .slice ..=>valO h (evSlice P t v vlo vhi)
     | _=>evGround P h E o) ho fun v e=>?_
    split at e
    ·exact valO_pure e
    ·exact evGround_pure e
   ·cases ho
 | extract x i =>
  rw[hop] at ho
  refine v1_pure (k:=fun h v=>match v with
   | .tuple vs=>valO h vs[i]?
   | _=>none) ho fun v e=>?_
  split at e
  ·exact valO_pure e
  ·cases e
 | typeAssert x xt t ok=>rw[hop] at ho;exact v1_pure (k:=fun h v=>valO h (evAssert P v t ok)) ho fun v e=>valO_pure e
 | unOp op t x=>rw[hop] at ho;exact evGround_pure ho
 | convert s d x=>rw[hop] at ho;exact evGround_pure ho
 | call c =>
  rw[hop] at ho
  simp only[] at ho ⊢
  simp only[kindOf,hop] at hk
  cases hc:c.callee with
  | value f=>rw[hc] at hk;cases hk
  | invoke r mname=>rw[hc] at hk;cases hk
  | builtin b =>
   rw[hc] at ho hk
   simp only[] at ho ⊢
   cases b<;>simp only[] at hk<;>first | cases hk | skip
   ·unfold evBuiltin at ho ⊢
    simp only[] at ho ⊢
    split at ho
    ·rename_i x t hx ht
     refine v1_pure (k:=fun h s=>match s,P.underlying t with
      | .slice _ n _,some (.slice _)=>some (.val (.int .i64 n) h)
      | .slice ..,_=>none
      | _,_=>evGround P h E o) ho fun v e=>?_
     split at e
     ·cases e;exact⟨_,rfl,fun _=>rfl⟩
     ·cases e
     ·rename_i h1 h2
      obtain⟨u,e1,e2⟩:=evGround_pure e
      refine⟨u,e1,fun h'=>?_⟩
      rw[<- e2 h']
    ·cases ho
   ·unfold evBuiltin at ho ⊢;exact evGround_pure ho
   ·unfold evBuiltin at ho ⊢;exact evGround_pure ho
 | _=>simp only[kindOf,hop] at hk;cases hk
theorem cellsAt_ext{os:Hp}{i:Nat}{c:List Value}(hc:cellsAt h i=some c):cellsAt (h++os) i=some c:=by
 obtain⟨rw,ho⟩:=cellsAt_some hc
 unfold cellsAt
 rw[List.getElem?_append_left (List.getElem?_eq_some_iff.1 ho).1,ho]
theorem ownAt_ext{os:Hp}{i:Nat}{c:List Value}(hc:ownAt h i=some c):ownAt (h++os) i=some c:=by
 have ho:=ownAt_some hc
 unfold ownAt
 rw[List.getElem?_append_left (List.getElem?_eq_some_iff.1 ho).1,ho]
theorem evLoad_ext{os:Hp}{t:TypeId}{a v:Value}(hl:evLoad P h t a=some v):evLoad P (h++os) t a=some v:=by
 unfold evLoad at hl ⊢
 split at hl
 ·rename_i i off
  split at hl
  ·rename_i c hc
   rw[cellsAt_ext hc]
   exact hl
  ·cases hl
 ·cases hl
theorem evEq_ext{os:Hp}{t:TypeId}{x y:Value}{r:Bool}(hl:evEq P h t x y=some r):evEq P (h++os) t x y=some r:=by
 unfold evEq at hl ⊢
 split at hl
 ·assumption
 ·assumption
 ·rename_i e i o j o' hu
  split at hl
  ·rename_i k c c' hk hc hc'
   simp only[ownAt_ext hc,ownAt_ext hc',hk]
   exact hl
  ·cases hl
 all_goals first | assumption | cases hl
theorem mpAt_ext{os:Hp}{i:Nat}{es:List (Value×Value)}(hc:mpAt h i=some es):mpAt (h++os) i=some es:=by
 have ho:=mpAt_some hc
 unfold mpAt
 rw[List.getElem?_append_left (List.getElem?_eq_some_iff.1 ho).1,ho]
theorem evLookup_ext{os:Hp}{t:TypeId}{x k v:Value}{ok:Bool}(hl:evLookup P h t x k ok=some v):evLookup P (h++os) t x k ok=some v:=by
 unfold evLookup at hl ⊢
 split at hl
 ·rename_i kt et i hu
  split at hl
  ·rename_i es hc
   simp only[mpAt_ext hc]
   exact hl
  ·cases hl
 ·cases hl
theorem kind_read{o:Oper}{out:Out}(hk:kindOf o=.read)(ho:evOp P h E o=some out):∃ v,out=.val v h/\∀ os,evOp P (h++os) E o=some (.val v (h++os)):=by
 unfold evOp at ho ⊢
 cases hop:o.op with
 | load t x =>
  rw[hop] at ho
  obtain⟨v,h1,h2⟩:=v1_some ho
  obtain⟨u,h3,rfl⟩:=valO_some h2
  exact⟨u,rfl,fun os=>by simp[v1,h1,evLoad_ext h3,valO]⟩
 | binOp op t x y yt =>
  rw[hop] at ho
  obtain⟨v,u,h1,h2,h3⟩:=v2_some ho
  split at h3
  ·rename_i hg
   obtain⟨r,e1,e2⟩:=evGround_pure h3
   exact⟨r,e1,fun os=>by simp[v2,h1,h2,hg,e2]⟩
  ·rename_i hg
   split at h3
   ·split at h3
    ·rename_i r hr
     cases h3
     exact⟨_,rfl,fun os=>by simp[v2,h1,h2,hg,evEq_ext hr]⟩
    ·cases h3
   ·split at h3
    ·rename_i r hr
     cases h3
     exact⟨_,rfl,fun os=>by simp[v2,h1,h2,hg,evEq_ext hr]⟩
    ·cases h3
   ·cases h3
 | lookup t x k ok =>
  rw[hop] at ho
  obtain⟨v,u,h1,h2,h3⟩:=v2_some ho
  obtain⟨r,h4,rfl⟩:=valO_some h3
  exact⟨r,rfl,fun os=>by simp[v2,h1,h2,evLookup_ext h4,valO]⟩
 | call c=>simp only[kindOf,hop] at hk;split at hk<;>cases hk
 | _=>simp only[kindOf,hop] at hk;cases hk
theorem kind_alloc(s:B.n<=w.heap.size)(he:EnvRel m E a.tmps){o:Oper}{out:Out}(hk:kindOf o=.alloc)(ho:evOp P h E o=some out) :
  ∃ v ob x ext u,out=.val v (h++[ob])/\ob.owns=true/\(execOp a.eval o).run P w=.ok (.value u) (w.alloc x) /\
   ∀ m':Pl,m.le m'->m' h.length=some ⟨w.heap.size,0,ext⟩->VRel m' v u/\Real B.n m' (w.alloc x) ⟨w.heap.size,0,ext⟩ ob:=by
 have newc:∀ {c cs:List Value} (t:TypeId) (m':Pl),m.le m'->VRels m c cs->Real B.n m' (w.alloc (.cells cs.toArray t)) ⟨w.heap.size,0,cs.length⟩ (.cells c true):=by
  intro c cs t m' hm hc
  refine⟨_,t,(0,0),by simpa using heap_alloc_new w _,by simp,by simp[hc.1],?_,by simp[s]⟩
  have:=hc.mono hm
  simpa[hc.1] using this
 unfold evOp at ho
 cases hop:o.op with
 | alloc t =>
  rw[hop] at ho
  obtain⟨v,h',h1,rfl⟩:=newO_some ho
  unfold evAlloc at h1
  split at h1
  ·rename_i z hz
   split at h1
   ·rename_i hg
    cases h1
    refine⟨_,.cells z.cells.toList true,.cells z.cells t,z.cells.toList.length,.pointer (some ⟨w.heap.size,0,none⟩),rfl,rfl,?_,fun m' hm hp=>⟨?_,?_⟩⟩
    ·simp[execOp,hop,Instr.alloc,run_zeroO hz,newVar,newRow]
    ·simpa[evNew,ptrO] using VRel.ptr (m:=m') h.length 0 _ hp
    ·simpa using newc t m' hm (ground_rels hg)
   ·cases h1
  ·cases h1
 | makeMap t r =>
  rw[hop] at ho
  cases r with
  | some r=>cases ho
  | none =>
   obtain⟨v,h',h1,rfl⟩:=newO_some ho
   cases h1
   refine⟨_,.mp [],.map #[] 0,0,.map (some w.heap.size),rfl,rfl,?_,fun m' hm hp=>⟨?_,?_⟩⟩
   ·simp[execOp,hop,Instr.makeMap,Result.andThen]
   ·exact VRel.map (m:=m') h.length _ hp
   ·exact⟨#[],0,by simpa using heap_alloc_new w _,rfl,rfl,s⟩
 | box t x =>
  rw[hop] at ho
  obtain⟨v,h1,h2⟩:=v1_some ho
  obtain⟨r,h',h3,rfl⟩:=newO_some h2
  cases h3
  have hr:=evalO_rel he h1
  refine⟨_,.cells v.cells.toList true,.cells (a.eval x).cells t,(a.eval x).cells.toList.length,.pointer (some ⟨w.heap.size,0,none⟩),rfl,rfl,?_,fun m' hm hp=>⟨?_,?_⟩⟩
  ·simp[execOp,hop,Instr.box,newVar,newRow]
  ·simpa[evNew,ptrO] using VRel.ptr (m:=m') h.length 0 _ hp
  ·simpa using newc t m' hm hr.cells_rel
 | buildSlice t len ps =>
  rw[hop] at ho
  simp only[] at ho
  split at ho
  ·rename_i l hp
   obtain⟨v,h',h1,rfl⟩:=newO_some ho
   obtain⟨k1,k2⟩:=partsO_rel he hp
   have k1':l.map (·.1)=(ps.map fun (i,x)=>(i,a.eval x)).toList.map (·.1):=by rw[map_parts];exact k1
   have k2':VRels m (l.map (·.2)) ((ps.map fun (i,x)=>(i,a.eval x)).toList.map (·.2)):=by rw[map_parts];exact k2
   have hexec:execOp a.eval o=(do let u <- Instr.buildSlice t len (ps.map fun (i,x)=>(i,a.eval x));pure (Next.value u):Sem Next):=by simp only[execOp,hop]
   generalize (ps.map fun (i,x)=>(i,a.eval x))=qs at k1' k2' hexec
   unfold evBuildSlice at h1
   split at h1
   ·rename_i e hu
    split at h1
    ·rename_i z k hz hn
     split at h1
     ·rename_i hg hn1 hn2
      split at h1
      ·rename_i cs hf
       cases h1
       have hn1':=Nat.le_of_ble_eq_true hn1
       have hn2':=Nat.le_of_ble_eq_true hn2
       obtain⟨out,ho,hr⟩:=fill_rel _ l _ _ _ k1' k2' (zeros_rel (m:=m) hg (len*k)) hf
       have hsz:out.size=len*k:=by rw[size_of_fill _ _ _ ho];simp
       refine⟨_,.cells cs.toList true,.cells out e,len*k,.slice (some ⟨w.heap.size,0,none⟩) len len,rfl,rfl,?_,fun m' hm hp=>⟨?_,?_⟩⟩
       ·have hlim:¬ (16777216<len*k):=by omega
        by_cases h0:len*k=0
        ·have hz0:len=0:=by
          rcases Nat.mul_eq_zero.1 h0 with h | h
          ·exact h
          ·omega
         subst hz0
         simp only[Nat.zero_mul] at ho
         have e0:∀ f:Nat->Value,(Array.range 0).map f=#[]:=fun f=>by simp
         rw[e0] at ho
         rw[hexec]
         simp[Instr.buildSlice,run_underlying hu,run_sizeO hn,e0,ho,newRow]
        ·rw[hexec]
         simp[Instr.buildSlice,run_underlying hu,run_sizeO hn,hlim,h0,run_zeroO hz,ho,newRow]
       ·have:=VRel.slice (m:=m') h.length 0 len k len _ hp (by simp) (Nat.le_refl _) hn1'
        simpa using this
       ·have:=newc (cs:=out.toList) e m' hm hr
        simpa[hsz] using this
      ·cases h1
     ·cases h1
    ·cases h1
   ·cases h1
  ·cases ho
 | makeSlice t x y =>
  rw[hop] at ho
  obtain⟨a1,b1,h1,h2,h3⟩:=v2_some ho
  split at h3
  ·rename_i kd n kd' k
   obtain⟨v,h',h4,rfl⟩:=newO_some h3
   have e1:=evalO_rel he h1
   have e2:=evalO_rel he h2
   have hexec:execOp a.eval o=(do let u <- Instr.makeSlice t (a.eval x) (a.eval y);pure (Next.value u):Sem Next):=by simp only[execOp,hop]
   generalize a.eval x=q1 at e1 hexec
   generalize a.eval y=q2 at e2 hexec
   cases e1
   cases e2
   unfold evMakeSlice at h4
   split at h4
   ·rename_i e len len' hu
    split at h4
    ·rename_i inf hb hi
     split at h4
     ·rename_i z hz
      split at h4
      ·rename_i hg hn1 hn2 hn3
       cases h4
       have hll:len=len':=Nat.eq_of_beq_eq_true hb
       subst hll
       have hn1':=Nat.le_of_ble_eq_true hn1
       have hn2':=Nat.le_of_ble_eq_true hn2
       have hn3':=Nat.le_of_ble_eq_true hn3
       obtain⟨zs,hzs⟩:∃ zs:Array Value,zs=(Array.range (len*inf.size)).map (z.cells[·%z.cells.size]!):=⟨_,rfl⟩
       have zsz:zs.size=len*inf.size:=by rw[hzs];simp
       have zrel:VRels m zs.toList zs.toList:=by rw[hzs];exact zeros_rel (m:=m) hg (len*inf.size)
       rw[<- hzs]
       refine⟨_,.cells zs.toList true,.cells zs e,len*inf.size,.slice (some ⟨w.heap.size,0,none⟩) len len,rfl,rfl,?_,fun m' hm hp=>⟨?_,?_⟩⟩
       ·have hw:IntKind.i64.wrap (len:Int)=(len:Int):=by
         simp[IntKind.wrap,IntKind.signed,IntKind.bits]
         omega
        have hb0:((inf.bytes:Int)*(len:Int))<=281474976710656:=by
         have h:=Int.ofNat_le.2 hn3'
         rw[Int.natCast_mul] at h
         exact h
        have hlt:¬ ((len:Int)<0):=by omega
        have hgt:¬ ((inf.bytes:Int)*(len:Int) > 281474976710656):=by omega
        have hti:∀ w:World,(typeInfo e).run P w=.ok inf w:=fun w=>by simp[typeInfo,hi]
        have hsz:∀ w:World,(sizeOf e).run P w=.ok inf.size w:=fun w=>run_sizeOf' hi w
        have hzr:∀ w:World,(zeroValue e).run P w=.ok z w:=fun w=>by simp[zeroValue,typeInfo,hi,hz]
        have hai:∀ (kd:IntKind) (w:World),(asInt (.int kd (len:Int))).run P w=.ok (len:Int) w:=fun kd w=>by simp[asInt,asIntOf]
        rw[hexec]
        simp only[Int.ofNat_eq_natCast]
        unfold Instr.makeSlice
        simp only[Sem.run_bind,run_underlying hu,Result.andThen_ok,hai,hti,hw,hlt,hgt,Int.toNat_natCast,hsz,run_askRoom,decide_false,decide_true,Bool.or_self,Bool.false_eq_true,if_false,Int.lt_irrefl,gt_iff_lt]
        have hgt':¬ (281474976710656<(inf.bytes:Int)*(len:Int)):=by omega
        by_cases h0:len*inf.size=0
        ·have e0:∀ f:Nat->Value,(Array.range 0).map f=#[]:=fun f=>by simp
         have z0:zs=#[]:=by rw[hzs,h0,e0]
         rw[z0]
         simp[hgt',h0,newRow,hsz]
         rw[e0]
        ·rw[hzs]
         simp[hgt',h0,newRow,hsz,hzr]
       ·have:=VRel.slice (m:=m') h.length 0 len inf.size len _ hp (by simp) (Nat.le_refl _) hn1'
        simpa using this
       ·have:=newc (cs:=zs.toList) e m' hm zrel
        simpa[zsz] using this
      ·cases h4
     ·cases h4
    ·cases h4
   ·cases h4
  ·cases h3
 | call c=>simp only[kindOf,hop] at hk;split at hk<;>cases hk
 | _=>simp only[kindOf,hop] at hk;cases hk
theorem Sim.newAt(s:Sim B w0 m h w){i:Nat}(x:Obj)(o:AObj)(p:Place)(hi:m i=none)(ho:h[i]?=some o)(hp:p.block=w.heap.size)
  (hr:Real B.n (m.put i p) (w.alloc x) p o):Sim B w0 (m.put i p) h (w.alloc x):=by
 have hle:=Pl.put_le (p:=p) hi
 refine⟨s.below.alloc s.size x,s.base,fun b hb=>⟨(s.marks b hb).1,by
  rw[Below.heap_alloc w x b (Array.getElem?_eq_some_iff.1 (s.marks b hb).2).1];exact (s.marks b hb).2⟩,s.nodup,fun j q hq=>?_,fun j k q r a b hq hr' ha hb oa ob hbl=>?_⟩
 ·unfold Pl.put at hq
  split at hq
  ·rename_i e;subst e;cases hq;exact⟨o,ho,hr⟩
  ·obtain⟨o',ho',hr'⟩:=s.real j q hq
   exact⟨o',ho',(hr'.mono hle).frame fun hd=>Below.heap_alloc w x _ (hr'.lt hd)⟩
 ·have key:∀ (k:Nat) (q:Place) (a:AObj),(m.put i p) k=some q->h[k]?=some a->a.owns=true->(k=i/\q.block=w.heap.size)\/(m k=some q/\q.block<w.heap.size):=by
   intro k q a hq ha oa
   unfold Pl.put at hq
   split at hq
   ·rename_i e;cases hq;exact .inl ⟨e,hp⟩
   ·exact .inr ⟨hq,(s.get hq ha).lt (fun e=>by subst e;simp[AObj.owns] at oa)⟩
  rcases key j q a hq ha oa with⟨e1,e2⟩ | ⟨e1,e2⟩<;>rcases key k r b hr' hb ob with⟨f1,f2⟩ | ⟨f1,f2⟩
  ·omega
  ·omega
  ·omega
  ·exact s.inj j k q r a b e1 f1 ha hb oa ob hbl
theorem Sim.ext(s:Sim B w0 m h w)(os:Hp):Sim B w0 m (h++os) w:=by
 have hlt:∀ j q,m j=some q->j<h.length:=fun j q hq=>by
  rcases Nat.lt_or_ge j h.length with k | k
  ·exact k
  ·rw[s.fresh k] at hq;cases hq
 refine⟨s.below,s.base,s.marks,s.nodup,fun j q hq=>?_,fun j k q r a b hq hr' ha hb oa ob hbl=>?_⟩
 ·obtain⟨o',ho',hr'⟩:=s.real j q hq
  exact⟨o',by rw[List.getElem?_append_left (hlt j q hq)];exact ho',hr'⟩
 ·rw[List.getElem?_append_left (hlt j q hq)] at ha
  rw[List.getElem?_append_left (hlt k r hr')] at hb
  exact s.inj j k q r a b hq hr' ha hb oa ob hbl
end Go.Ev
namespace Go.Ev
open Go.RowKit
variable {P:Program} {C:CallF}
variable {B:Bs} {w0:World} {m:Pl} {h h':Hp} {w:World} {E E':Env} {a:Act} {n nn:Nat} {rd:Option Nat} {ops:Array Oper}
inductive AncP (ops:Array Oper):Nat->Nat->Prop
 | one {i j:Nat} {o:Oper} (ho:ops[j]?=some o) {e:Edge} (he:e∈o.after) (hb:Region.binds .any e=true) (hi:e.on=i):AncP ops i j
 | more {i k j:Nat} (h1:AncP ops i k) (h2:AncP ops k j):AncP ops i j
theorem testBit_or{x y i:Nat}:Nat.testBit (x ||| y) i=(Nat.testBit x i||Nat.testBit y i):=Nat.testBit_or x y i
theorem foldl_anc(acc:List Nat)(i:Nat):∀ (l:List Edge) (s:Nat),Nat.testBit (l.foldl (fun s e=>match Region.binds .any e with
  | true=>s ||| 2 ^ e.on ||| acc.getD e.on 0
  | false=>s) s) i=true->Nat.testBit s i=true\/∃ e∈l,Region.binds .any e=true/\(e.on=i\/Nat.testBit (acc.getD e.on 0) i=true)
 | [],s,hb=>.inl hb
 | e::l,s,hb=>by
  simp only[List.foldl_cons] at hb
  rcases foldl_anc acc i l _ hb with h1 | ⟨e',he',h2⟩
  ·cases hbd:Region.binds .any e with
   | true =>
    simp only[hbd,testBit_or,Bool.or_eq_true] at h1
    rcases h1 with (h1 | h1) | h1
    ·exact .inl h1
    ·refine .inr ⟨e,by simp,hbd,.inl ?_⟩
     simpa[Nat.testBit_two_pow] using h1
    ·exact .inr ⟨e,by simp,hbd,.inr h1⟩
   | false=>simp only[hbd] at h1;exact .inl h1
  ·exact .inr ⟨e',by simp[he'],h2⟩
theorem ancs_spec:∀ (l:List Oper) (acc:List Nat),(∀ k,k<l.length->l[k]?=ops[acc.length+k]?)->(∀ j i,Nat.testBit (acc.getD j 0) i=true->AncP ops i j) ->
  ∀ j i,Nat.testBit ((ancs l acc).getD j 0) i=true->AncP ops i j
 | [],acc,_,hacc=>hacc
 | o::l,acc,hl,hacc=>by
  simp only[ancs]
  refine ancs_spec l _ (fun k hk=>?_) fun j i hb=>?_
  ·have:=hl (k+1) (by simp;omega)
   simp only[List.getElem?_cons_succ] at this
   rw[this];congr 1;simp;omega
  ·rcases Nat.lt_trichotomy j acc.length with hj | hj | hj
   ·refine hacc j i ?_
    simpa[List.getD_eq_getElem?_getD,List.getElem?_append_left hj] using hb
   ·subst hj
    have ho:ops[acc.length]?=some o:=by have:=hl 0 (by simp);simpa using this.symm
    simp only[List.getD_eq_getElem?_getD,List.getElem?_append_right (Nat.le_refl _),Nat.sub_self,List.getElem?_cons_zero,Option.getD_some] at hb
    rcases foldl_anc acc i _ 0 hb with h1 | ⟨e,he,hbd,h2⟩
    ·simp at h1
    ·rcases h2 with h2 | h2
     ·exact .one ho (by simpa using he) hbd h2
     ·exact .more (hacc _ _ h2) (.one ho (by simpa using he) hbd rfl)
   ·rw[List.getD_eq_getElem?_getD,List.getElem?_eq_none (by simp;omega)] at hb
    simp at hb
theorem anc_spec{i j:Nat}(ha:anc (ancs ops.toList []) i j=true):AncP ops i j:=by
 refine ancs_spec ops.toList [] (fun k hk=>by simp) (fun j i hb=>?_) j i ha
 simp at hb
def Closed(ops:Array Oper)(L:Array Bool):Prop:=∀ j oj,ops[j]?=some oj->L.getD j false=true->∀ e∈oj.after,Region.binds .any e=true->L.getD e.on false=true
theorem AncP.closed{L:Array Bool}(hc:Closed ops L){i j:Nat}(ha:AncP ops i j):L.getD j false=true->L.getD i false=true:=by
 induction ha with
 | one ho he hb hi=>intro hj;subst hi;exact hc _ _ ho hj _ he hb
 | more _ _ ih1 ih2=>intro hj;exact ih1 (ih2 hj)
theorem memN_iff{d:Nat}:∀ {l:List Nat},memN d l=true↔d∈l
 | []=>by simp[memN]
 | x::l=>by
  simp only[memN]
  by_cases hx:x=d
  ·subst hx;simp
  ·have:Nat.beq x d=false:=by
    cases hb:Nat.beq x d with
    | false=>rfl
    | true=>exact absurd (Nat.eq_of_beq_eq_true hb) hx
   rw[this]
   simp only[memN_iff,List.mem_cons]
   exact⟨.inr,fun h=>h.resolve_left (fun e=>hx e.symm)⟩
theorem writes_iff{o:Oper}{d:Nat}:writes o d=true↔o.dst=some d:=by
 unfold writes
 cases h:o.dst with
 | none=>simp
 | some x=>simp
structure StatOk(ops:Array Oper):Prop where
 sel:∀ (j:Nat) (o:Oper) cs b,ops[j]?=some o->o.op≠.select cs b
 edge:∀ (j:Nat) (o:Oper),ops[j]?=some o->∀ e∈o.after,Region.binds .any e=true->e.on<j
 pair:∀ (i j:Nat) (x y:Oper),ops[i]?=some x->ops[j]?=some y->i<j->bound ops x y=true->AncP ops i j
theorem mem_zipIdx{j:Nat}{o:Oper}(ho:ops[j]?=some o):(o,j)∈ops.toList.zipIdx:=by
 rw[List.mem_zipIdx_iff_getElem?]
 simpa using ho
theorem statOk_spec(hs:statOk ops=true):StatOk ops:=by
 unfold statOk at hs
 simp only[List.all_eq_true] at hs
 refine⟨fun j o cs b ho hsel=>?_,fun j o ho e he hb=>?_,fun i j x y hx hy hij hbd=>?_⟩
 ·have:=hs _ (mem_zipIdx ho)
  simp only[hsel,Bool.and_false,Bool.false_and,Bool.false_eq_true] at this
 ·have:=hs _ (mem_zipIdx ho)
  simp only[Bool.and_eq_true] at this
  have h1:=this.1.1
  unfold edgesOk at h1
  have h2:=List.all_eq_true.1 h1 e (by simpa using he)
  rw[hb] at h2
  exact Nat.le_of_ble_eq_true (show Nat.ble (e.on+1) j=true from h2)
 ·have:=hs _ (mem_zipIdx hy)
  simp only[Bool.and_eq_true,List.all_eq_true] at this
  have h1:=this.2 _ (mem_zipIdx hx)
  unfold pairOk at h1
  have hb:Nat.blt i j=true:=Nat.ble_eq_true_of_le hij
  rw[hb,hbd] at h1
  exact anc_spec h1
theorem bound_spec{x y:Oper}(h:bound ops x y=false):(∀ d,x.dst=some d->d∉readsOf ops y/\y.dst≠some d)/\(∀ d,y.dst=some d->d∉readsOf ops x):=by
 unfold bound at h
 simp only[Bool.or_eq_false_iff] at h
 refine⟨fun d hd=>?_,fun d hd=>?_⟩
 ·have h1:=h.1.1
  rw[hd] at h1
  simp only[Bool.or_eq_false_iff] at h1
  exact⟨fun hm=>by rw[memN_iff.2 hm] at h1;simp at h1,fun hw=>by rw[writes_iff.2 hw] at h1;simp at h1⟩
 ·have h1:=h.1.2
  rw[hd] at h1
  exact fun hm=>by simp only[memN_iff.2 hm] at h1;cases h1
structure Tr(P:Program)(C:CallF)(n:Nat)(ops:Array Oper)(st:Nat->Env×Hp):Prop where
 step:∀ i o,ops[i]?=some o->∃ v,stepO P C ops o (st i).1 (st i).2=some (v,(st (i+1)).2)/\putE n (st i).1 o.dst v=some (st (i+1)).1
theorem traceO_len:∀ (l:List Oper) {E:Env} {h:Hp} {tr:List (Env×Hp)},traceO P C n ops l E h=some tr->tr.length=l.length+1/\tr[0]?=some (E,h)
 | [],E,h,tr,ht=>by simp only[traceO] at ht;cases ht;simp
 | o::l,E,h,tr,ht=>by
  simp only[traceO] at ht
  split at ht
  ·split at ht
   ·split at ht
    ·rename_i tr' htr
     cases ht
     have:=traceO_len l htr
     simp[this.1]
    ·cases ht
   ·cases ht
  ·cases ht
theorem traceO_step:∀ (l:List Oper) {E:Env} {h:Hp} {tr:List (Env×Hp)},traceO P C n ops l E h=some tr->∀ i o,l[i]?=some o ->
  ∃ E1 h1 E2 h2 v,tr[i]?=some (E1,h1)/\tr[i+1]?=some (E2,h2)/\stepO P C ops o E1 h1=some (v,h2)/\putE n E1 o.dst v=some E2
 | [],_,_,_,_,i,o,ho=>by simp at ho
 | x::l,E,h,tr,ht,i,o,ho=>by
  simp only[traceO] at ht
  split at ht
  ·rename_i v h2 hst
   split at ht
   ·rename_i E2 hput
    split at ht
    ·rename_i tr' htr
     cases ht
     cases i with
     | zero =>
      simp at ho;subst ho
      exact⟨E,h,E2,h2,v,rfl,by simpa using (traceO_len l htr).2,hst,hput⟩
     | succ i =>
      obtain⟨E1,h1,E3,h3,u,k1,k2,k3,k4⟩:=traceO_step l htr i o (by simpa using ho)
      exact⟨E1,h1,E3,h3,u,by simpa using k1,by simpa using k2,k3,k4⟩
    ·cases ht
   ·cases ht
  ·cases ht
theorem traceO_Tr{E:Env}{h:Hp}{tr:List (Env×Hp)}(ht:traceO P C n ops ops.toList E h=some tr):Tr P C n ops (fun i=>tr.getD i ([],[])):=by
 refine⟨fun i o ho=>?_⟩
 obtain⟨E1,h1,E2,h2,v,k1,k2,k3,k4⟩:=traceO_step ops.toList ht i o (by simpa using ho)
 exact⟨v,by simp[List.getD_eq_getElem?_getD,k1,k2,k3],by simp[List.getD_eq_getElem?_getD,k1,k2,k4]⟩
theorem evOps_trace:∀ (l:List Oper) {E:Env} {h:Hp},evOps P C n ops l E h=some (E',h')->∃ tr,traceO P C n ops l E h=some tr/\tr[l.length]?=some (E',h')
 | [],E,h,ho=>by simp only[evOps] at ho;cases ho;exact⟨_,rfl,rfl⟩
 | o::l,E,h,ho=>by
  simp only[evOps] at ho
  have key:∀ {v:Value} {h1:Hp} {E1:Env},stepO P C ops o E h=some (v,h1)->putE n E o.dst v=some E1->evOps P C n ops l E1 h1=some (E',h') ->
    ∃ tr,traceO P C n ops (o::l) E h=some tr/\tr[(o::l).length]?=some (E',h'):=by
   intro v h1 E1 k1 k2 k3
   obtain⟨tr,t1,t2⟩:=evOps_trace l k3
   exact⟨(E,h)::tr,by simp[traceO,k1,k2,t1],by simpa using t2⟩
  split at ho
  ·rename_i hw
   split at ho
   ·rename_i v h1 hst
    split at ho
    ·rename_i E1 hput;exact key (by simp[stepO,hw,hst]) hput ho
    ·cases ho
   ·cases ho
  ·rename_i hw
   split at ho
   ·rename_i E1 hput;exact key (by simp[stepO,hw]) hput ho
   ·cases ho
  ·cases ho
theorem Tr.keep{st:Nat->Env×Hp}(ht:Tr P C n ops st){t:Nat}:∀ (d p:Nat),(∀ i,p<=i->i<p+d->∀ o,ops[i]?=some o->o.dst≠some t)->p+d<=ops.size->look (st (p+d)).1 t=look (st p).1 t
 | 0,p,_,_=>rfl
 | d+1,p,hw,hle=>by
  have ih:=ht.keep d p (fun i h1 h2=>hw i h1 (by omega)) (by omega)
  rw[<- ih]
  have hlt:p+d<ops.size:=by omega
  obtain⟨v,_,hput⟩:=ht.step (p+d) ops[p+d] (Array.getElem?_eq_getElem hlt)
  have hne:=hw (p+d) (by omega) (by omega) _ (Array.getElem?_eq_getElem hlt)
  show look (st (p+d+1)).1 t=_
  unfold putE at hput
  cases hd:ops[p+d].dst with
  | none=>rw[hd] at hput;simp only[Option.some.injEq] at hput;rw[<- hput]
  | some x =>
   rw[hd] at hput hne
   simp only at hput
   split at hput
   ·simp only[Option.some.injEq] at hput
    rw[<- hput,look_cons,if_neg (fun e=>hne (by rw[e]))]
   ·cases hput
theorem Tr.wrote{st:Nat->Env×Hp}(ht:Tr P C n ops st){j p t:Nat}{o:Oper}(hj:ops[j]?=some o)(hd:o.dst=some t){v:Value}(hst:stepO P C ops o (st j).1 (st j).2=some (v,(st (j+1)).2))
  (hjp:j<p) (hp:p<=ops.size) (hw:∀ i,j<i->i<p->∀ o,ops[i]?=some o->o.dst≠some t):look (st p).1 t=some v:=by
 have:=ht.keep (t:=t) (p-(j+1)) (j+1) (fun i h1 h2=>hw i (by omega) (by omega)) (by omega)
 rw[show j+1+(p-(j+1))=p by omega] at this
 rw[this]
 obtain⟨v',h1,hput⟩:=ht.step j o hj
 rw[hst] at h1
 cases h1
 unfold putE at hput
 rw[hd] at hput
 simp only at hput
 split at hput
 ·simp only[Option.some.injEq] at hput
  rw[<- hput,look_cons,if_pos rfl]
 ·cases hput
theorem kind_alloc_ev{o:Oper}{out:Out}(hk:kindOf o=.alloc)(ho:evOp P h E o=some out):∃ v ob,out=.val v (h++[ob]):=by
 unfold evOp at ho
 cases hop:o.op with
 | alloc t =>
  rw[hop] at ho
  obtain⟨v,h',h1,rfl⟩:=newO_some ho
  unfold evAlloc at h1
  split at h1
  ·split at h1
   ·cases h1;exact⟨_,_,rfl⟩
   ·cases h1
  ·cases h1
 | makeMap t r =>
  rw[hop] at ho
  cases r with
  | some r=>cases ho
  | none =>
   obtain⟨v,h',h1,rfl⟩:=newO_some ho
   cases h1
   exact⟨_,_,rfl⟩
 | box t x =>
  rw[hop] at ho
  obtain⟨v,h1,h2⟩:=v1_some ho
  obtain⟨r,h',h3,rfl⟩:=newO_some h2
  cases h3
  exact⟨_,_,rfl⟩
 | buildSlice t len ps =>
  rw[hop] at ho
  simp only[] at ho
  split at ho
  ·obtain⟨v,h',h1,rfl⟩:=newO_some ho
   unfold evBuildSlice at h1
   split at h1
   ·split at h1
    ·split at h1
     ·split at h1
      ·cases h1;exact⟨_,_,rfl⟩
      ·cases h1
     ·cases h1
    ·cases h1
   ·cases h1
  ·cases ho
 | makeSlice t x y =>
  rw[hop] at ho
  obtain⟨a1,b1,h1,h2,h3⟩:=v2_some ho
  split at h3
  ·obtain⟨v,h',h4,rfl⟩:=newO_some h3
   unfold evMakeSlice at h4
   split at h4
   ·split at h4
    ·split at h4
     ·split at h4
      ·cases h4;exact⟨_,_,rfl⟩
      ·cases h4
     ·cases h4
    ·cases h4
   ·cases h4
  ·cases h3
 | call c=>simp only[kindOf,hop] at hk;split at hk<;>cases hk
 | _=>simp only[kindOf,hop] at hk;cases hk
theorem kind_minor{o:Oper}{out:Out}(hk:kindOf o≠.major)(ho:evOp P h E o=some out):∃ v os,out=.val v (h++os):=by
 cases hkk:kindOf o with
 | major=>exact absurd hkk hk
 | pure=>obtain⟨u,e,_⟩:=kind_pure hkk ho;exact⟨u,[],by simpa using e⟩
 | read=>obtain⟨u,e,_⟩:=kind_read hkk ho;exact⟨u,[],by simpa using e⟩
 | alloc=>obtain⟨u,ob,e⟩:=kind_alloc_ev hkk ho;exact⟨u,[ob],e⟩
theorem stepO_minor{o:Oper}{v:Value}(hk:kindOf o≠.major)(hs:stepO P C ops o E h=some (v,h')):∃ os,h'=h++os:=by
 unfold stepO at hs
 split at hs
 ·unfold evStep at hs
  split at hs
  ·rename_i v1 h1 hop
   obtain⟨u,os,e⟩:=kind_minor hk hop
   simp only[Option.some.injEq,Prod.mk.injEq] at hs
   cases e
   exact⟨os,hs.2.symm⟩
  ·rename_i f args hop
   obtain⟨u,os,e⟩:=kind_minor hk hop
   cases e
  ·rename_i f args hop
   obtain⟨u,os,e⟩:=kind_minor hk hop
   cases e
  ·cases hs
 ·simp only[Option.some.injEq,Prod.mk.injEq] at hs
  exact⟨[],by simp[hs.2]⟩
 ·cases hs
theorem Tr.grow{st:Nat->Env×Hp}(ht:Tr P C n ops st):∀ (d p:Nat),(∀ i,p<=i->i<p+d->∀ o,ops[i]?=some o->kindOf o≠.major)->p+d<=ops.size->∃ os,(st (p+d)).2=(st p).2++os
 | 0,p,_,_=>⟨[],by simp⟩
 | d+1,p,hw,hle=>by
  obtain⟨os,hos⟩:=ht.grow d p (fun i h1 h2=>hw i h1 (by omega)) (by omega)
  have hlt:p+d<ops.size:=by omega
  obtain⟨v,hst,_⟩:=ht.step (p+d) ops[p+d] (Array.getElem?_eq_getElem hlt)
  have hk:=hw (p+d) (by omega) (by omega) _ (Array.getElem?_eq_getElem hlt)
  have key:∃ os',(st (p+d+1)).2=(st (p+d)).2++os':=stepO_minor hk hst
  obtain⟨os',hos'⟩:=key
  exact⟨os++os',by rw[show p+(d+1)=p+d+1 by omega,hos',hos,List.append_assoc]⟩
end Go.Ev
namespace Go.Ev
open Go.RowKit
variable {P:Program} {F:Fence} {nn:Nat} {ops:Array Oper} {π:List Nat} {Q:Exit->Act->World->Prop}
theorem posOf_get:∀ {π:List Nat} {j:Nat},posOf π j<π.length->π[posOf π j]?=some j
 | [],j,h=>by simp at h
 | x::l,j,h=>by
  unfold posOf at h ⊢
  cases hb:Nat.beq x j with
  | true=>simp[Nat.eq_of_beq_eq_true hb]
  | false =>
   rw[hb] at h
   simp only[List.length_cons] at h
   simp only[List.getElem?_cons_succ]
   exact posOf_get (by omega)
theorem posOf_none:∀ {π:List Nat} {j:Nat},j∉π->posOf π j=π.length
 | [],j,h=>rfl
 | x::l,j,h=>by
  simp only[List.mem_cons,not_or] at h
  unfold posOf
  cases hb:Nat.beq x j with
  | true=>exact absurd (Nat.eq_of_beq_eq_true hb).symm h.1
  | false=>simp only[List.length_cons];rw[posOf_none h.2]
structure PermOk(π:List Nat)(n:Nat):Prop where
 len:π.length=n
 lt:∀ i,i<n->∃ j,π[i]?=some j/\j<n/\posOf π j=i
 pos:∀ j,j<n->posOf π j<n/\π[posOf π j]?=some j
 out:∀ j,n<=j->posOf π j=n
theorem permOk_spec{n:Nat}(h:permOk π n=true):PermOk π n:=by
 unfold permOk at h
 simp only[Bool.and_eq_true,List.all_eq_true,List.mem_range] at h
 obtain⟨⟨h1,h2⟩,h3⟩:=h
 have hl:=Nat.eq_of_beq_eq_true h1
 have lt:∀ i,i<n->∃ j,π[i]?=some j/\j<n/\posOf π j=i:=fun i hi=>by
  obtain⟨k1,k2⟩:=h2 i hi
  have hi':i<π.length:=by omega
  have e:π.getD i 0=π[i]:=by simp[List.getD_eq_getElem?_getD,hi']
  rw[e] at k1 k2
  exact⟨_,List.getElem?_eq_getElem hi',Nat.le_of_ble_eq_true k1,Nat.eq_of_beq_eq_true k2⟩
 refine⟨hl,lt,fun j hj=>?_,fun j hj=>?_⟩
 ·have:=Nat.le_of_ble_eq_true (h3 j hj)
  exact⟨this,posOf_get (by omega)⟩
 ·rw[posOf_none,hl]
  intro hm
  obtain⟨i,hi,e⟩:=List.mem_iff_getElem.1 hm
  obtain⟨j',e1,e2,_⟩:=lt i (by omega)
  rw[List.getElem?_eq_getElem hi] at e1
  simp only[Option.some.injEq] at e1
  omega
theorem permOps_size:(permOps π ops).size=π.length:=by simp[permOps]
theorem permOps_get(hp:PermOk π ops.size){j:Nat}{o:Oper}(ho:ops[j]?=some o):(permOps π ops)[posOf π j]?=some (relab π o):=by
 obtain⟨hj,e⟩:=Array.getElem?_eq_some_iff.1 ho
 obtain⟨h1,h2⟩:=hp.pos j hj
 simp only[permOps,List.getElem?_toArray,List.getElem?_map,h2,Option.map_some,Option.some.injEq]
 congr 1
 simp[Array.getD,hj,e]
theorem permOps_back(hp:PermOk π ops.size){i:Nat}{o:Oper}(ho:(permOps π ops)[i]?=some o):∃ j x,posOf π j=i/\ops[j]?=some x/\o=relab π x:=by
 have hi:i<ops.size:=by rw[<- hp.len,<- permOps_size (ops:=ops)];exact (Array.getElem?_eq_some_iff.1 ho).1
 obtain⟨j,e1,e2,e3⟩:=hp.lt i hi
 refine⟨j,ops[j],e3,Array.getElem?_eq_getElem e2,?_⟩
 have:=permOps_get hp (Array.getElem?_eq_getElem e2)
 rw[e3,ho] at this
 simpa using this
theorem yielded_perm(hp:PermOk π ops.size)(tmps:Array Value)(j:Nat):yielded (permOps π ops) tmps (posOf π j)=yielded ops tmps j:=by
 unfold yielded
 rcases Nat.lt_or_ge j ops.size with hj | hj
 ·rw[permOps_get hp (Array.getElem?_eq_getElem hj),Array.getElem?_eq_getElem hj]
  rfl
 ·rw[hp.out j hj,Array.getElem?_eq_none hj,Array.getElem?_eq_none (by rw[permOps_size,hp.len];exact Nat.le_refl _)]
theorem wanted_perm(hp:PermOk π ops.size)(tmps:Array Value)(o:Oper):Region.wanted (relab π o) (yielded (permOps π ops) tmps)=Region.wanted o (yielded ops tmps):=by
 unfold Region.wanted
 cases hg:o.guard with
 | none=>simp[relab,relabG,hg]
 | some g =>
  obtain⟨j,b⟩:=g
  simp[relab,relabG,hg,yielded_perm hp]
theorem relab_wp{o:Oper}{a:Act}{w:World}{K:Act->World->Prop}:(relab π o).wpIn F nn P a w K Q↔o.wpIn F nn P a w K Q:=by
 have e1:(relab π o).about P w a.eval=o.about P w a.eval:=rfl
 have e2:(relab π o).semAt F.round a.eval=o.semAt F.round a.eval:=rfl
 have e3:∀ r,(relab π o).uponIn F nn P a K Q r=o.uponIn F nn P a K Q r:=fun r=>by
  cases r with
  | ok x w=>cases x<;>rfl
  | halt x w=>cases x<;>rfl
 unfold Oper.wpIn
 rw[e1,e2,e3]
theorem wpOp_perm(hp:PermOk π ops.size){j:Nat}{a:Act}{w:World}{K:Act->World->Prop}(h:wpOpIn F nn P (permOps π ops) Q (posOf π j) K a w):wpOpIn F nn P ops Q j K a w:=by
 unfold wpOpIn at h ⊢
 cases ho:ops[j]? with
 | none =>
  have hj:ops.size<=j:=Array.getElem?_eq_none_iff.1 ho
  rw[hp.out j hj,Array.getElem?_eq_none (by rw[permOps_size,hp.len];exact Nat.le_refl _)] at h
  exact h
 | some o =>
  rw[permOps_get hp ho] at h
  simp only[wanted_perm hp] at h ⊢
  split at h
  ·rename_i hw;rw[if_pos hw];exact relab_wp.1 h
  ·rename_i hw;rw[if_neg hw];exact h
def SameL(π:List Nat)(n:Nat)(L L':Array Bool):Prop:=L.size=n/\L'.size=n/\∀ j,j<n->L'.getD (posOf π j) false=L.getD j false
theorem SameL.all{n:Nat}{L L':Array Bool}(hp:PermOk π n)(s:SameL π n L L')(j:Nat):L'.getD (posOf π j) false=L.getD j false:=by
 rcases Nat.lt_or_ge j n with hj | hj
 ·exact s.2.2 j hj
 ·rw[hp.out j hj]
  have h1:L.size<=j:=by rw[s.1];exact hj
  have h2:L'.size<=n:=by rw[s.2.1];exact Nat.le_refl _
  simp[Array.getD_eq_getD_getElem?,h1,h2]
theorem SameL.ready{L L':Array Bool}(hp:PermOk π ops.size)(s:SameL π ops.size L L'){j:Nat}(hr:j∈Region.ready .any ops L):posOf π j∈Region.ready .any (permOps π ops) L':=by
 obtain⟨h1,o,ho,h2⟩:=mem_ready.1 hr
 have hj:=(Array.getElem?_eq_some_iff.1 ho).1
 obtain⟨q1,_⟩:=hp.pos j hj
 refine mem_ready.2 ⟨?_,relab π o,permOps_get hp ho,fun e he hb=>?_⟩
 ·have:=s.2.2 j hj
  have l1:j<L.size:=by rw[s.1];exact hj
  have l2:posOf π j<L'.size:=by rw[s.2.1];exact q1
  simp[Array.getD_eq_getD_getElem?,l1,l2] at this h1 ⊢
  rw[this,h1]
 ·simp only[relab,List.mem_toArray,List.mem_map] at he
  obtain⟨e0,he0,rfl⟩:=he
  rw[s.all hp]
  exact h2 e0 (by simpa using he0) hb
theorem SameL.none{L L':Array Bool}(hp:PermOk π ops.size)(s:SameL π ops.size L L')(hr:Region.ready .any ops L=[]):Region.ready .any (permOps π ops) L'=[]:=by
 cases hl:Region.ready .any (permOps π ops) L' with
 | nil=>rfl
 | cons i r =>
  have hi:i∈Region.ready .any (permOps π ops) L':=by rw[hl];simp
  obtain⟨h1,o,ho,h2⟩:=mem_ready.1 hi
  obtain⟨j,x,rfl,hx,rfl⟩:=permOps_back hp ho
  have hj:=(Array.getElem?_eq_some_iff.1 hx).1
  have:j∈Region.ready .any ops L:=by
   refine mem_ready.2 ⟨?_,x,hx,fun e he hb=>?_⟩
   ·have:=s.2.2 j hj
    have l1:j<L.size:=by rw[s.1];exact hj
    have l2:posOf π j<L'.size:=by rw[s.2.1];exact (hp.pos j hj).1
    simp[Array.getD_eq_getD_getElem?,l1,l2] at this h1 ⊢
    rw[<- this,h1]
   ·have:=h2 { e with on:=posOf π e.on } (by
     simp only[relab,List.mem_toArray,List.mem_map]
     exact⟨e,by simpa using he,rfl⟩) hb
    rwa [s.all hp] at this
  rw[hr] at this;cases this
theorem SameL.set{L L':Array Bool}{n:Nat}(hp:PermOk π n)(s:SameL π n L L'){j:Nat}(hj:j<n):SameL π n (L.setIfInBounds j true) (L'.setIfInBounds (posOf π j) true):=by
 refine⟨by simp[s.1],by simp[s.2.1],fun k hk=>?_⟩
 have l1:j<L.size:=by rw[s.1];exact hj
 have l2:posOf π j<L'.size:=by rw[s.2.1];exact (hp.pos j hj).1
 have hk':=s.2.2 k hk
 by_cases e:k=j
 ·subst e
  simp[Array.getD_eq_getD_getElem?,l1,l2]
 ·have e':posOf π k≠posOf π j:=fun h=>by
   have h1:=(hp.pos k hk).2
   have h2:=(hp.pos j hj).2
   rw[h,h2] at h1
   simp only[Option.some.injEq] at h1
   exact e h1.symm
  simp[Array.getD_eq_getD_getElem?,Ne.symm e,Ne.symm e'] at hk' ⊢
  exact hk'
theorem wpAny_perm(hp:PermOk π ops.size):∀ (fuel:Nat) {L L':Array Bool} {a:Act} {w:World},SameL π ops.size L L'->wpAnyIn F nn P .any (permOps π ops) Q fuel L' a w->wpAnyIn F nn P .any ops Q fuel L a w
 | 0,L,L',a,w,s,h=>by
  refine⟨?_,h.2⟩
  cases hl:Region.ready .any ops L with
  | nil=>rfl
  | cons j r =>
   have:=s.ready hp (j:=j) (by rw[hl];simp)
   rw[h.1] at this;cases this
 | fuel+1,L,L',a,w,s,h=>by
  refine⟨fun hr=>h.1 (s.none hp hr),fun j hj=>?_⟩
  obtain⟨_,o,ho,_⟩:=mem_ready.1 hj
  have hj':=(Array.getElem?_eq_some_iff.1 ho).1
  exact wpOpIn_mono (fun a w=>wpAny_perm hp fuel (s.set hp hj')) (wpOp_perm hp (h.2 _ (s.ready hp hj)))
end Go.Ev
namespace Go.Ev
open Go.RowKit
variable {P:Program} {C:CallF}
variable {B:Bs} {w0:World} {m m0:Pl} {h h':Hp} {w:World} {E E':Env} {a:Act} {n nn:Nat} {rd:Option Nat} {ops:Array Oper} {st:Nat->Env×Hp} {ds:List Deferred}
def restrictE(E:Env):List Nat->Env
 | []=>[]
 | t::l=>match look E t with
  | some v=>(t,v)::restrictE E l
  | none=>restrictE E l
theorem restrictE_look{t:Nat}:∀ {l:List Nat} {v:Value},look (restrictE E l) t=some v->t∈l/\look E t=some v
 | [],v,h=>by simp[restrictE,look] at h
 | x::l,v,h=>by
  simp only[restrictE] at h
  split at h
  ·rename_i u hu
   rw[look_cons] at h
   split at h
   ·rename_i e;subst e;cases h;exact⟨by simp,hu⟩
   ·have:=restrictE_look h;exact⟨by simp[this.1],this.2⟩
  ·have:=restrictE_look h;exact⟨by simp[this.1],this.2⟩
theorem restrictE_mem{t:Nat}:∀ {l:List Nat},t∈l->look (restrictE E l) t=look E t
 | x::l,h=>by
  simp only[restrictE]
  by_cases hx:x=t
  ·subst hx
   split
   ·rename_i u hu;rw[look_cons,if_pos rfl,hu]
   ·rename_i hu
    rw[hu]
    cases hl:look (restrictE E l) x with
    | none=>rfl
    | some v=>rw[(restrictE_look hl).2] at hu;cases hu
  ·have ht:t∈l:=by
    rcases List.mem_cons.1 h with e | h
    ·exact absurd e.symm hx
    ·exact h
   split
   ·rw[look_cons,if_neg hx];exact restrictE_mem ht
   ·exact restrictE_mem ht
theorem wantedO_congr{o:Oper}(ha:∀ t∈readsOf ops o,look E t=look E' t):wantedO ops E o=wantedO ops E' o:=by
 unfold wantedO
 cases hg:o.guard with
 | none=>rfl
 | some g =>
  obtain⟨j,want⟩:=g
  simp only[]
  cases hd:(ops[j]?).bind (·.dst) with
  | none=>rfl
  | some d =>
   simp only[]
   rw[ha d (by simp[readsOf,hg,hd])]
theorem evStep_congr{o:Oper}(ha:∀ t∈readsOf ops o,look E t=look E' t):evStep P C h E o=evStep P C h E' o:=by
 unfold evStep
 rw[evOp_congr (P:=P) (h:=h) (E:=E) (E':=E') fun t ht=>ha t (by simp only[readsOf,List.mem_append];exact .inr (mem_tmpsOf ht))]
theorem count_set{j:Nat}:∀ {l:List Bool},l[j]?=some false->(l.set j true).count false+1=l.count false:=by
 induction j with
 | zero =>
  intro l h
  cases l with
  | nil=>simp at h
  | cons x l=>simp at h;subst h;simp
 | succ j ih =>
  intro l h
  cases l with
  | nil=>simp at h
  | cons x l =>
   simp only[List.getElem?_cons_succ] at h
   simp only[List.set_cons_succ,List.count_cons]
   have:=ih h
   omega
structure DInv(P:Program)(C:CallF)(B:Bs)(w0:World)(m0:Pl)(n:Nat)(ops:Array Oper)(st:Nat->Env×Hp)(ds:List Deferred)(L:Array Bool)(a:Act)(w:World):Prop where
 size:L.size=ops.size
 closed:Closed ops L
 n:a.tmps.size=n
 ds:a.defers=ds
 ex:∃ m q,(Stp m0 (st 0).2 m (st q).2/\∀ p,p<q->(st p).2.length<=(st (p+1)).2.length)/\Sim B w0 m (st q).2 w/\q<=ops.size/\(∀ i o,i<q->ops[i]?=some o->kindOf o=.major->L.getD i false=true) /\
  (∀ o,ops[q]?=some o->kindOf o=.major/\L.getD q false=false) /\
  (∀ p t v,p<=ops.size->look (st p).1 t=some v->(∀ i o,i<p->ops[i]?=some o->o.dst=some t->L.getD i false=true) ->
   (∀ i o,p<=i->ops[i]?=some o->o.dst=some t->L.getD i false=false)->∃ u,a.tmps[t]?=some u/\VRel m v u) /\
  (∀ j o,j<q->ops[j]?=some o->kindOf o=.alloc->L.getD j false=false->wantedO ops (st j).1 o=some true->m (st j).2.length=none)
theorem next_major(ops:Array Oper):∀ (d p:Nat),p+d=ops.size->∃ q,p<=q/\q<=ops.size/\(∀ i o,p<=i->i<q->ops[i]?=some o->kindOf o≠.major)/\(∀ o,ops[q]?=some o->kindOf o=.major)
 | 0,p,hp=>⟨p,Nat.le_refl _,by omega,fun i o h1 h2=>by omega,fun o ho=>by have:=(Array.getElem?_eq_some_iff.1 ho).1;omega⟩
 | d+1,p,hp=>by
  have hlt:p<ops.size:=by omega
  cases hk:kindOf ops[p] with
  | major=>exact⟨p,Nat.le_refl _,by omega,fun i o h1 h2=>by omega,fun o ho=>by rw[Array.getElem?_eq_getElem hlt] at ho;cases ho;exact hk⟩
  | _ =>
   obtain⟨q,h1,h2,h3,h4⟩:=next_major ops d (p+1) (by omega)
   refine⟨q,by omega,h2,fun i o k1 k2 ho=>?_,h4⟩
   rcases Nat.lt_or_ge p i with hpi | hpi
   ·exact h3 i o hpi k2 ho
   ·have:i=p:=by omega
    subst this
    rw[Array.getElem?_eq_getElem hlt] at ho
    cases ho
    rw[hk];simp
theorem getD_set{L:Array Bool}{i j:Nat}(hj:j<L.size):(L.setIfInBounds j true).getD i false=if i=j then true else L.getD i false:=by
 by_cases e:i=j
 ·subst e;simp[Array.getD_eq_getD_getElem?,hj]
 ·simp[Array.getD_eq_getD_getElem?,e,Ne.symm e]
def PairsOk(P:Program)(ops:Array Oper)(st:Nat->Env×Hp):Prop:=∀ i j x y,ops[i]?=some x->ops[j]?=some y->kindOf x=.read->kindOf y=.major->¬ AncP ops i j->¬ AncP ops j i ->
 wantedO ops (st i).1 x=some true->∀ v,evOp P (st i).2 (st i).1 x=some (.val v (st i).2)->evOp P (st j).2 (st i).1 x=some (.val v (st j).2)/\evOp P (st (j+1)).2 (st i).1 x=some (.val v (st (j+1)).2)
def MadesOk(ops:Array Oper)(st:Nat->Env×Hp):Prop:=∀ i j x y,ops[i]?=some x->ops[j]?=some y->kindOf x=.alloc->kindOf y=.major->i<j->¬ AncP ops i j ->
 wantedO ops (st i).1 x=some true->∀ ob,(st j).2[(st i).2.length]?=some ob->(st (j+1)).2[(st i).2.length]?=some ob
theorem mono_of{st:Nat->Env×Hp}{q:Nat}(h:∀ p,p<q->(st p).2.length<=(st (p+1)).2.length):∀ (d p:Nat),p+d<=q->(st p).2.length<=(st (p+d)).2.length
 | 0,p,_=>Nat.le_refl _
 | d+1,p,hd=>Nat.le_trans (mono_of h d p (by omega)) (h (p+d) (by omega))
theorem draw_step(hC:CSnd P C)(hso:StatOk ops)(ht:Tr P C n ops st)(hpo:PairsOk P ops st)(hmo:MadesOk ops st){Q:Exit->Act->World->Prop}{L:Array Bool}(inv:DInv P C B w0 m0 n ops st ds L a w){j:Nat}
  (hr:j∈Region.ready .any ops L):wpOpIn (Fr rd) nn P ops Q j (DInv P C B w0 m0 n ops st ds (L.setIfInBounds j true)) a w:=by
 obtain⟨hun,o,ho,hall⟩:=mem_ready.1 hr
 have hjs:j<ops.size:=(Array.getElem?_eq_some_iff.1 ho).1
 have hjL:j<L.size:=by rw[inv.size];exact hjs
 have hunf:L.getD j false=false:=by
  simp[Array.getD_eq_getD_getElem?,hjL] at hun ⊢;exact hun
 obtain⟨m,q,⟨hm0,hlen⟩,hsim,hq,hmaj,hqm,hregs,hnews⟩:=inv.ex
 have hmono:∀ p p',p<=p'->p'<=q->(st p).2.length<=(st p').2.length:=fun p p' h1 h2=>by
  have:=mono_of hlen (p'-p) p (by omega)
  rwa [show p+(p'-p)=p' by omega] at this
 obtain⟨v,hst,hput⟩:=ht.step j o ho
 have hanc:∀ i,AncP ops i j->L.getD i false=true:=by
  intro i hi
  have hc':Closed ops (L.setIfInBounds j true):=by
   intro k ok hk hl e he hb
   rw[getD_set hjL] at hl ⊢
   split at hl
   ·rename_i e1;subst e1
    rw[ho] at hk;cases hk
    rw[hall e he hb];split<;>rfl
   ·rw[inv.closed k ok hk hl e he hb];split<;>rfl
  have h1:=hi.closed hc' (by rw[getD_set hjL,if_pos rfl])
  rw[getD_set hjL] at h1
  split at h1
  ·rename_i e;subst e
   have hlt:∀ {x y:Nat},AncP ops x y->x<y:=by
    intro x y hxy
    induction hxy with
    | one ho he hb hi=>subst hi;exact hso.edge _ _ ho _ he hb
    | more _ _ ih1 ih2=>omega
   exact absurd (hlt hi) (Nat.lt_irrefl _)
  ·exact h1
 have hlate:∀ i,AncP ops j i->L.getD i false=false:=by
  intro i hi
  cases hl:L.getD i false with
  | false=>rfl
  | true=>rw[hi.closed inv.closed hl] at hunf;cases hunf
 have hord:∀ i y,ops[i]?=some y->i≠j->(if i<j then L.getD i false=false else L.getD i false=true)->bound ops (if i<j then y else o) (if i<j then o else y)=false:=by
  intro i y hy hij hl
  by_cases hlt:i<j
  ·rw[if_pos hlt] at hl ⊢
   rw[if_pos hlt]
   cases hb:bound ops y o with
   | false=>rfl
   | true=>rw[hanc i (hso.pair i j y o hy ho hlt hb)] at hl;cases hl
  ·rw[if_neg hlt] at hl ⊢
   rw[if_neg hlt]
   cases hb:bound ops o y with
   | false=>rfl
   | true=>rw[hlate i (hso.pair j i o y ho hy (by omega) hb)] at hl;cases hl
 have hread:∀ t∈readsOf ops o,∀ v,look (st j).1 t=some v->∃ u,a.tmps[t]?=some u/\VRel m v u:=by
  intro t ht' v hv
  refine hregs j t v (by omega) hv (fun i y hi hy hd=>?_) (fun i y hi hy hd=>?_)
  ·cases hl:L.getD i false with
   | true=>rfl
   | false =>
    have:=hord i y hy (by omega) (by rw[if_pos hi];exact hl)
    rw[if_pos hi,if_pos hi] at this
    exact absurd ht' ((bound_spec this).1 t hd).1
  ·by_cases hij:i=j
   ·subst hij;exact hunf
   ·cases hl:L.getD i false with
    | false=>rfl
    | true =>
     have hnl:¬ i<j:=by omega
     have:=hord i y hy hij (by rw[if_neg hnl];exact hl)
     rw[if_neg hnl,if_neg hnl] at this
     exact absurd ht' ((bound_spec this).2 t hd)
 have heR:EnvRel m (restrictE (st j).1 (readsOf ops o)) a.tmps:=fun t v hv=>hread t (restrictE_look hv).1 v (restrictE_look hv).2
 have hagr:∀ t∈readsOf ops o,look (restrictE (st j).1 (readsOf ops o)) t=look (st j).1 t:=fun t ht'=>restrictE_mem ht'
 have hwR:wantedO ops (restrictE (st j).1 (readsOf ops o)) o=wantedO ops (st j).1 o:=wantedO_congr hagr
 have hclosed':Closed ops (L.setIfInBounds j true):=by
  intro k ok hk hl e he hb
  rw[getD_set hjL] at hl ⊢
  split at hl
  ·rename_i e1;subst e1
   rw[ho] at hk;cases hk
   rw[hall e he hb];split<;>rfl
  ·rw[inv.closed k ok hk hl e he hb];split<;>rfl
 have hregs':∀ (m':Pl) (u:Value),m.le m'->VRel m' v u->∀ p t x,p<=ops.size->look (st p).1 t=some x->(∀ i o,i<p->ops[i]?=some o->o.dst=some t->(L.setIfInBounds j true).getD i false=true) ->
   (∀ i o,p<=i->ops[i]?=some o->o.dst=some t->(L.setIfInBounds j true).getD i false=false)->∃ y,(a.put o.dst u).tmps[t]?=some y/\VRel m' x y:=by
  intro m' u hm' hvu p t x hp hx h1 h2
  by_cases hd:o.dst=some t
  ·
   have hjp:j<p:=by
    rcases Nat.lt_or_ge j p with h | h
    ·exact h
    ·have:=h2 j o h ho hd
     rw[getD_set hjL,if_pos rfl] at this;cases this
   have hw:=ht.wrote ho hd hst hjp hp (fun i hi1 hi2 y hy hyd=>by
    have hli:=h1 i y hi2 hy hyd
    rw[getD_set hjL,if_neg (by omega)] at hli
    have hnl:¬ i<j:=by omega
    have:=hord i y hy (by omega) (by rw[if_neg hnl];exact hli)
    rw[if_neg hnl,if_neg hnl] at this
    exact ((bound_spec this).1 t hd).2 hyd)
   rw[hw] at hx;cases hx
   have hlt:t<a.tmps.size:=by
    unfold putE at hput
    rw[hd] at hput
    simp only at hput
    split at hput
    ·rename_i hb;rw[inv.n];exact Nat.le_of_ble_eq_true (show Nat.ble (t+1) n=true from hb)
    ·cases hput
   exact⟨u,by simp[hd,Act.put,hlt],hvu⟩
  ·obtain⟨y,hy,hyr⟩:=hregs p t x hp hx (fun i y hi hy hyd=>by
     have hne:i≠j:=fun e=>by subst e;rw[ho] at hy;cases hy;exact hd hyd
     have:=h1 i y hi hy hyd
     rwa [getD_set hjL,if_neg hne] at this) (fun i y hi hy hyd=>by
     have hne:i≠j:=fun e=>by subst e;rw[ho] at hy;cases hy;exact hd hyd
     have:=h2 i y hi hy hyd
     rwa [getD_set hjL,if_neg hne] at this)
   refine⟨y,?_,hyr.mono hm'⟩
   cases hdd:o.dst with
   | none=>exact hy
   | some d =>
    have:d≠t:=fun e=>hd (by rw[hdd,e])
    simp[Act.put,this,hy]
 have hn':∀ u,(a.put o.dst u).tmps.size=n:=fun u=>by
  cases o.dst with
  | none=>exact inv.n
  | some d=>simp[Act.put,inv.n]
 have hds':∀ u,(a.put o.dst u).defers=ds:=fun u=>by cases o.dst<;>exact inv.ds
 have made:∀ (i:Nat) (y:Oper),ops[i]?=some y->kindOf y=.alloc->wantedO ops (st i).1 y=some true->∃ ob,(st (i+1)).2=(st i).2++[ob]:=by
  intro i y hy hky hwy
  obtain⟨vv,hs1,_⟩:=ht.step i y hy
  unfold stepO at hs1
  rw[hwy] at hs1
  simp only at hs1
  unfold evStep at hs1
  split at hs1
  ·rename_i v2 h2 hop2
   obtain⟨z1,ob1,e⟩:=kind_alloc_ev hky hop2
   simp only[Option.some.injEq,Prod.mk.injEq] at hs1
   cases e
   exact⟨ob1,hs1.2.symm⟩
  ·rename_i f args hop2;obtain⟨z1,ob1,e⟩:=kind_alloc_ev hky hop2;cases e
  ·rename_i f args hop2;obtain⟨z1,ob1,e⟩:=kind_alloc_ev hky hop2;cases e
  ·cases hs1
 have same:∀ (m':Pl) (u:Value) (w':World),m.le m'->(∀ i,i<(st 0).2.length->m' i=m i)->VRel m' v u->Sim B w0 m' (st q).2 w'->j≠q ->
   (∀ k y,k<q->ops[k]?=some y->kindOf y=.alloc->k≠j->L.getD k false=false->wantedO ops (st k).1 y=some true->m' (st k).2.length=none) ->
   DInv P C B w0 m0 n ops st ds (L.setIfInBounds j true) (a.put o.dst u) w':=by
  intro m' u w' h1 hold h2 h3 hjq h4
  refine⟨by simp[inv.size],hclosed',hn' u,hds' u,m',q,⟨⟨Pl.le_trans hm0.le h1,fun i hi=>by rw[hold i hi,hm0.old i hi],hm0.len⟩,hlen⟩,h3,hq,fun i y hi hy hk=>?_,fun y hy=>?_,hregs' m' u h1 h2,fun k y hk hy hka hl hw=>?_⟩
  ·rw[getD_set hjL,hmaj i y hi hy hk];split<;>rfl
  ·refine⟨(hqm y hy).1,?_⟩
   rw[getD_set hjL,if_neg (fun e=>hjq e.symm)];exact (hqm y hy).2
  ·rw[getD_set hjL] at hl
   split at hl
   ·cases hl
   ·rename_i hkj;exact h4 k y hk hy hka hkj hl hw
 have move:∀ (m':Pl) (u:Value) (w':World),Stp m (st j).2 m' (st (j+1)).2->VRel m' v u->Sim B w0 m' (st (j+1)).2 w'->j=q->DInv P C B w0 m0 n ops st ds (L.setIfInBounds j true) (a.put o.dst u) w':=by
  intro m' u w' h1 h2 h3 hjq
  subst hjq
  obtain⟨q',k1,k2,k3,k4⟩:=next_major ops (ops.size-(j+1)) (j+1) (by omega)
  obtain⟨os,hos⟩:=ht.grow (q'-(j+1)) (j+1) (fun i i1 i2 y hy=>k3 i y i1 (by omega) hy) (by omega)
  rw[show j+1+(q'-(j+1))=q' by omega] at hos
  have hs':Sim B w0 m' (st q').2 w':=by rw[hos];exact h3.ext os
  have hkj:=(hqm o ho).1
  have hlen':∀ p,p<q'->(st p).2.length<=(st (p+1)).2.length:=fun p hp=>by
   rcases Nat.lt_trichotomy p j with hpj | hpj | hpj
   ·exact hlen p hpj
   ·subst hpj;exact h1.len
   ·obtain⟨os',hos'⟩:=ht.grow 1 p (fun i i1 i2 y hy=>k3 i y (by omega) (by omega) hy) (by omega)
    rw[hos'];simp
  refine⟨by simp[inv.size],hclosed',hn' u,hds' u,m',q',⟨hm0.trans (h1.at rfl rfl |>.trans (Stp.same (by rw[hos];simp))),hlen'⟩,hs',k2,fun i y hi hy hk=>?_,fun y hy=>⟨k4 y hy,?_⟩,hregs' m' u h1.le h2,fun k y hk hy hka hl hw=>?_⟩
  ·rw[getD_set hjL]
   split
   ·rfl
   ·rcases Nat.lt_or_ge i j with hij | hij
    ·exact hmaj i y hij hy hk
    ·exact absurd hk (k3 i y (by omega) hi hy)
  ·rw[getD_set hjL,if_neg (by omega)]
   refine hlate q' (hso.pair j q' o y ho hy (by omega) ?_)
   unfold bound
   rw[hkj,k4 y hy]
   simp
  ·rw[getD_set hjL] at hl
   split at hl
   ·cases hl
   ·rename_i hkne
    rcases Nat.lt_or_ge k j with hkj' | hkj'
    ·obtain⟨ob1,hob1⟩:=made k y hy hka hw
     have h5:=hmono (k+1) j (by omega) (Nat.le_refl _)
     rw[hob1,List.length_append,List.length_singleton] at h5
     rw[h1.old _ (by omega)]
     exact hnews k y hkj' hy hka hl hw
    ·obtain⟨os',hos'⟩:=ht.grow (k-(j+1)) (j+1) (fun i i1 i2 y hy=>k3 i y i1 (by omega) hy) (by omega)
     rw[show j+1+(k-(j+1))=k by omega] at hos'
     refine h3.fresh ?_
     rw[hos'];simp
 unfold wpOpIn
 simp only[ho]
 unfold stepO at hst
 split at hst
 ·
  rename_i hw
  rw[if_pos (wantedO_rel heR (hwR.trans hw))]
  cases hk:kindOf o with
  | major =>
   have hjq:j=q:=by
    rcases Nat.lt_trichotomy j q with h1 | h1 | h1
    ·rw[hmaj j o h1 ho hk] at hunf;cases hunf
    ·exact h1
    ·have hqs:q<ops.size:=by omega
     have hqq:=hqm _ (Array.getElem?_eq_getElem hqs)
     have:bound ops ops[q] o=true:=by unfold bound;rw[hk,hqq.1];simp
     rw[hanc q (hso.pair q j _ o (Array.getElem?_eq_getElem hqs) ho h1 this)] at hqq
     cases hqq.2
   subst hjq
   refine evStep_snd hC hsim heR ((evStep_congr hagr).trans hst) fun m' u w' h1 h2 h3=>move m' u w' h1 h3 h2 rfl
  | pure =>
   have hne:j≠q:=fun e=>by subst e;rw[(hqm o ho).1] at hk;cases hk
   unfold evStep at hst
   split at hst
   ·rename_i v1 h1 hop
    simp only[Option.some.injEq,Prod.mk.injEq] at hst
    obtain⟨y,e1,e2⟩:=kind_pure hk hop
    cases e1
    rw[hst.1] at e2
    have hop':evOp P (st q).2 (restrictE (st j).1 (readsOf ops o)) o=some (.val v (st q).2):=by
     rw[evOp_congr (E':=(st j).1) fun t ht'=>hagr t (by simp only[readsOf,List.mem_append];exact .inr (mem_tmpsOf ht'))]
     exact e2 _
    obtain⟨m',u,w',k1,k2,k3,k4,k5⟩:=evOp_snd hsim heR hop'
    have:=k5 rfl
    subst this
    refine⟨fun _ _=>trivial,?_⟩
    rw[Oper.semAt_eq _ _ _ (no_defer hop')]
    rcases k4 with k4 | ⟨k4,rfl⟩
    ·rw[k4,Oper.uponIn_value];exact same m' u w' m'.le_refl (fun _ _=>rfl) k3 k2 hne fun k y h1 h2 h3 h4 h5 h6=>hnews k y h1 h2 h3 h5 h6
    ·rw[k4,Oper.uponIn_skip];exact same m' undef w' m'.le_refl (fun _ _=>rfl) k3 k2 hne fun k y h1 h2 h3 h4 h5 h6=>hnews k y h1 h2 h3 h5 h6
   ·rename_i f args hop;obtain⟨y,e1,_⟩:=kind_pure hk hop;cases e1
   ·rename_i f args hop;obtain⟨y,e1,_⟩:=kind_pure hk hop;cases e1
   ·cases hst
  | read =>
   have hne:j≠q:=fun e=>by subst e;rw[(hqm o ho).1] at hk;cases hk
   unfold evStep at hst
   split at hst
   ·rename_i v1 h1 hop
    simp only[Option.some.injEq,Prod.mk.injEq] at hst
    obtain⟨y,e1,e2⟩:=kind_read hk hop
    cases e1
    have hv1:=hst.1
    subst hv1
    have hop':evOp P (st q).2 (st j).1 o=some (.val v1 (st q).2):=by
     rcases Nat.lt_or_ge j q with hjq | hjq
     ·
      have last:∀ (d:Nat),j+1+d<=q->evOp P (st (j+1+d)).2 (st j).1 o=some (.val v1 (st (j+1+d)).2):=by
       intro d
       induction d with
       | zero =>
        intro _
        have:=hst.2
        simp only[Nat.add_zero]
        rw[<- this]
        have:=e2 []
        simpa using this
       | succ d ih =>
        intro hd
        have ih':=ih (by omega)
        have hlt:j+1+d<ops.size:=by omega
        obtain⟨vv,hstt,_⟩:=ht.step (j+1+d) _ (Array.getElem?_eq_getElem hlt)
        by_cases hkm:kindOf ops[j+1+d]=.major
        ·have hli:=hmaj (j+1+d) _ (by omega) (Array.getElem?_eq_getElem hlt) hkm
         have hna:¬ AncP ops j (j+1+d):=fun ha=>by rw[hlate _ ha] at hli;cases hli
         have hnb:¬ AncP ops (j+1+d) j:=fun ha=>by
          have hlt':∀ {x y:Nat},AncP ops x y->x<y:=by
           intro x y hxy
           induction hxy with
           | one ho he hb hi=>subst hi;exact hso.edge _ _ ho _ he hb
           | more _ _ ih1 ih2=>omega
          have:=hlt' ha
          omega
         exact (hpo j (j+1+d) o _ ho (Array.getElem?_eq_getElem hlt) hk hkm hna hnb hw v1 hop).2
        ·obtain⟨os,hos⟩:=stepO_minor hkm hstt
         obtain⟨y',e1',e2'⟩:=kind_read hk ih'
         cases e1'
         show evOp P (st (j+1+d+1)).2 (st j).1 o=some (.val v1 (st (j+1+d+1)).2)
         rw[hos]
         exact e2' os
      have:=last (q-(j+1)) (by omega)
      rwa [show j+1+(q-(j+1))=q by omega] at this
     ·have hqs:q<ops.size:=by omega
      have hqq:=hqm _ (Array.getElem?_eq_getElem hqs)
      have hna:¬ AncP ops q j:=fun ha=>by rw[hanc q ha] at hqq;cases hqq.2
      have hnb:¬ AncP ops j q:=fun ha=>by
       have hlt':∀ {x y:Nat},AncP ops x y->x<y:=by
        intro x y hxy
        induction hxy with
        | one ho he hb hi=>subst hi;exact hso.edge _ _ ho _ he hb
        | more _ _ ih1 ih2=>omega
       have:=hlt' ha
       omega
      exact (hpo j q o _ ho (Array.getElem?_eq_getElem hqs) hk hqq.1 hnb hna hw v1 hop).1
    have hop2:evOp P (st q).2 (restrictE (st j).1 (readsOf ops o)) o=some (.val v1 (st q).2):=by
     rw[evOp_congr (E':=(st j).1) fun t ht'=>hagr t (by simp only[readsOf,List.mem_append];exact .inr (mem_tmpsOf ht'))]
     exact hop'
    obtain⟨m',u,w',k1,k2,k3,k4,k5⟩:=evOp_snd hsim heR hop2
    have:=k5 rfl
    subst this
    refine⟨fun _ _=>trivial,?_⟩
    rw[Oper.semAt_eq _ _ _ (no_defer hop2)]
    rcases k4 with k4 | ⟨k4,rfl⟩
    ·rw[k4,Oper.uponIn_value];exact same m' u w' m'.le_refl (fun _ _=>rfl) k3 k2 hne fun k y h1 h2 h3 h4 h5 h6=>hnews k y h1 h2 h3 h5 h6
    ·rw[k4,Oper.uponIn_skip];exact same m' undef w' m'.le_refl (fun _ _=>rfl) k3 k2 hne fun k y h1 h2 h3 h4 h5 h6=>hnews k y h1 h2 h3 h5 h6
   ·rename_i f args hop;obtain⟨y,e1,_⟩:=kind_read hk hop;cases e1
   ·rename_i f args hop;obtain⟨y,e1,_⟩:=kind_read hk hop;cases e1
   ·cases hst
  | alloc =>
   have hne:j≠q:=fun e=>by subst e;rw[(hqm o ho).1] at hk;cases hk
   have hjq:j<q:=by
    rcases Nat.lt_or_ge j q with h1 | h1
    ·exact h1
    ·have hqs:q<ops.size:=by omega
     have hqq:=hqm _ (Array.getElem?_eq_getElem hqs)
     have:bound ops ops[q] o=true:=by unfold bound;rw[hk,hqq.1];simp
     rw[hanc q (hso.pair q j _ o (Array.getElem?_eq_getElem hqs) ho (by omega) this)] at hqq
     cases hqq.2
   unfold evStep at hst
   split at hst
   ·rename_i v1 h1 hop
    simp only[Option.some.injEq,Prod.mk.injEq] at hst
    have hopR:evOp P (st j).2 (restrictE (st j).1 (readsOf ops o)) o=some (.val v1 h1):=by
     rw[evOp_congr (E':=(st j).1) fun t ht'=>hagr t (by simp only[readsOf,List.mem_append];exact .inr (mem_tmpsOf ht'))]
     exact hop
    obtain⟨y,ob,x,ext,u,e1,e2,e3,e4⟩:=kind_alloc hsim.size heR hk hopR
    cases e1
    have hid:m (st j).2.length=none:=hnews j o hjq ho hk hunf hw
    have hobj:(st q).2[(st j).2.length]?=some ob:=by
     have go:∀ d,j+1+d<=q->(st (j+1+d)).2[(st j).2.length]?=some ob:=by
      intro d
      induction d with
      | zero=>intro _;simp only[Nat.add_zero];rw[<- hst.2];simp
      | succ d ih =>
       intro hd
       have ih':=ih (by omega)
       have hlt:j+1+d<ops.size:=by omega
       obtain⟨vv,hstt,_⟩:=ht.step (j+1+d) _ (Array.getElem?_eq_getElem hlt)
       by_cases hkm:kindOf ops[j+1+d]=.major
       ·have hli:=hmaj (j+1+d) _ (by omega) (Array.getElem?_eq_getElem hlt) hkm
        exact hmo j (j+1+d) o _ ho (Array.getElem?_eq_getElem hlt) hk hkm (by omega) (fun ha=>by rw[hlate _ ha] at hli;cases hli) hw ob ih'
       ·obtain⟨os,hos⟩:=stepO_minor hkm hstt
        show (st (j+1+d+1)).2[(st j).2.length]?=some ob
        rw[hos,List.getElem?_append_left (List.getElem?_eq_some_iff.1 ih').1]
        exact ih'
     have:=go (q-(j+1)) (by omega)
     rwa [show j+1+(q-(j+1))=q by omega] at this
    have hle:=Pl.put_le (p:=(⟨w.heap.size,0,ext⟩:Place)) hid
    obtain⟨f1,f2⟩:=e4 _ hle (Pl.put_same _ _ _)
    have hs':=hsim.newAt x ob ⟨w.heap.size,0,ext⟩ hid hobj rfl f2
    rw[hst.1] at f1
    refine⟨fun _ _=>trivial,?_⟩
    rw[Oper.semAt_eq _ _ _ (no_defer hopR),e3,Oper.uponIn_value]
    have h0j:=hmono 0 j (by omega) (by omega)
    refine same _ u _ hle (fun i hi=>by unfold Pl.put;rw[if_neg (by omega)]) f1 hs' hne fun k z k1 k2 k3 k4 k5 k6=>?_
    have hk0:=hnews k z k1 k2 k3 k5 k6
    have hnum:(st k).2.length≠(st j).2.length:=by
     rcases Nat.lt_trichotomy k j with hkj | hkj | hkj
     ·obtain⟨ob1,hob1⟩:=made k z k2 k3 k6
      have h5:=hmono (k+1) j (by omega) (by omega)
      rw[hob1,List.length_append,List.length_singleton] at h5
      omega
     ·exact absurd hkj k4
     ·obtain⟨ob1,hob1⟩:=made j o ho hk hw
      have h5:=hmono (j+1) k (by omega) (by omega)
      rw[hob1,List.length_append,List.length_singleton] at h5
      omega
    simp[Pl.put,hnum,hk0]
   ·rename_i f args hop;obtain⟨y,ob,e1⟩:=kind_alloc_ev hk hop;cases e1
   ·rename_i f args hop;obtain⟨y,ob,e1⟩:=kind_alloc_ev hk hop;cases e1
   ·cases hst
 ·
  rename_i hw
  rw[if_neg (by rw[wantedO_rel heR (hwR.trans hw)];simp)]
  simp only[Option.some.injEq,Prod.mk.injEq] at hst
  refine⟨fun _ _=>trivial,?_⟩
  have hv:VRel m v undef:=by rw[<- hst.1];exact VRel.refl m undef rfl
  by_cases hjq:j=q
  ·exact move m undef w (by rw[hst.2];exact .refl _ _) hv (by rw[<- hst.2,hjq];exact hsim) hjq
  ·exact same m undef w m.le_refl (fun _ _=>rfl) hv hsim hjq fun k y h1 h2 h3 h4 h5 h6=>hnews k y h1 h2 h3 h5 h6
 ·cases hst
theorem draw_all(hC:CSnd P C)(hso:StatOk ops)(ht:Tr P C n ops st)(hpo:PairsOk P ops st)(hmo:MadesOk ops st){Q:Exit->Act->World->Prop}
  (hk:∀ m' a' w',Stp m0 (st 0).2 m' (st ops.size).2->Sim B w0 m' (st ops.size).2 w'->EnvRel m' (st ops.size).1 a'.tmps->a'.tmps.size=n->a'.defers=ds->Q .normal a' w') :
  ∀ (fuel:Nat) (L:Array Bool) (a:Act) (w:World),L.toList.count false<=fuel->DInv P C B w0 m0 n ops st ds L a w->wpAnyIn (Fr rd) nn P .any ops Q fuel L a w:=by
 have done:∀ (L:Array Bool) (a:Act) (w:World),Region.ready .any ops L=[]->DInv P C B w0 m0 n ops st ds L a w->Q .normal a w:=by
  intro L a w hr inv
  have hall:∀ j,j<ops.size->L.getD j false=true:=by
   intro j
   induction j using Nat.strongRecOn with
   | _ j ih =>
    intro hj
    cases hl:L.getD j false with
    | true=>rfl
    | false =>
     have hjL:j<L.size:=by rw[inv.size];exact hj
     have:j∈Region.ready .any ops L:=mem_ready.2 ⟨by simp[Array.getD_eq_getD_getElem?,hjL] at hl ⊢;exact hl,ops[j],Array.getElem?_eq_getElem hj,fun e he hb =>
      have:=hso.edge j _ (Array.getElem?_eq_getElem hj) e he hb
      ih e.on this (by omega)⟩
     rw[hr] at this;cases this
  obtain⟨m,q,h1,h2,h3,h4,h5,h6,h7⟩:=inv.ex
  have hq:q=ops.size:=by
   rcases Nat.lt_or_ge q ops.size with hlt | hge
   ·have:=(h5 _ (Array.getElem?_eq_getElem hlt)).2
    rw[hall q hlt] at this;cases this
   ·omega
  subst hq
  exact hk m a w h1.1 h2 (fun t v hv=>h6 ops.size t v (Nat.le_refl _) hv (fun i o hi _ _=>hall i hi) (fun i o hi ho _=>by have:=(Array.getElem?_eq_some_iff.1 ho).1;omega)) inv.n inv.ds
 intro fuel
 induction fuel with
 | zero =>
  intro L a w hc inv
  have hr:Region.ready .any ops L=[]:=by
   cases hrr:Region.ready .any ops L with
   | nil=>rfl
   | cons j l =>
    have hj:j∈Region.ready .any ops L:=by rw[hrr];simp
    obtain⟨hun,o,ho,_⟩:=mem_ready.1 hj
    have hjL:j<L.size:=by rw[inv.size];exact (Array.getElem?_eq_some_iff.1 ho).1
    have:false∈L.toList:=by
     simp[Array.getD_eq_getD_getElem?,hjL] at hun
     refine List.mem_iff_getElem?.2 ⟨j,?_⟩
     rw[Array.getElem?_toList,Array.getElem?_eq_getElem hjL,hun]
    have:=List.count_pos_iff.2 this
    omega
  exact⟨hr,done L a w hr inv⟩
 | succ fuel ih =>
  intro L a w hc inv
  refine⟨fun hr=>done L a w hr inv,fun j hj=>?_⟩
  refine wpOpIn_mono (fun a' w' inv'=>ih _ a' w' ?_ inv') (draw_step hC hso ht hpo hmo inv hj)
  obtain⟨hun,o,ho,_⟩:=mem_ready.1 hj
  have hjL:j<L.size:=by rw[inv.size];exact (Array.getElem?_eq_some_iff.1 ho).1
  have:=count_set (j:=j) (l:=L.toList) (by simp[Array.getD_eq_getD_getElem?,hjL] at hun;simp[hjL,hun])
  simp only[Array.toList_setIfInBounds]
  omega
theorem pairs_ok{tr:List (Env×Hp)}(hp:(pairsOf ops).all (pairSame P ops tr)=true):PairsOk P ops (fun i=>tr.getD i ([],[])):=by
 intro i j x y hx hy hkx hky hij hji hw v hv
 have hmem:(i,j)∈pairsOf ops:=by
  unfold pairsOf
  refine List.mem_flatMap.2 ⟨(x,i),mem_zipIdx hx,?_⟩
  simp only[hkx]
  refine List.mem_filterMap.2 ⟨(y,j),mem_zipIdx hy,?_⟩
  simp only[hky]
  have h1:anc (ancs ops.toList []) i j=false:=by
   cases h:anc (ancs ops.toList []) i j with
   | false=>rfl
   | true=>exact absurd (anc_spec h) hij
  have h2:anc (ancs ops.toList []) j i=false:=by
   cases h:anc (ancs ops.toList []) j i with
   | false=>rfl
   | true=>exact absurd (anc_spec h) hji
  simp[h1,h2]
 have:=List.all_eq_true.1 hp _ hmem
 unfold pairSame at this
 simp only[hx] at this
 split at this
 ·rename_i o E h E1 h1 E2 h2 eo e1 e2 e3
  cases eo
  simp only[List.getD_eq_getElem?_getD,e1,e2,e3,Option.getD_some] at hw hv ⊢
  rw[hw,hkx] at this
  simp only at this
  split at this
  ·rename_i v0 _ v1 _ v2 _ k0 k1 k2
   simp only[Bool.and_eq_true] at this
   rw[hv] at k0
   cases k0
   obtain⟨y1,f1,_⟩:=kind_read hkx k1
   obtain⟨y2,f2,_⟩:=kind_read hkx k2
   cases f1;cases f2
   rw[k1,k2,<- veq_eq this.1,<- veq_eq this.2]
   exact⟨rfl,rfl⟩
  ·cases this
 ·cases this
theorem mades_ok{tr:List (Env×Hp)}(hp:(pairsOf ops).all (pairSame P ops tr)=true):MadesOk ops (fun i=>tr.getD i ([],[])):=by
 intro i j x y hx hy hkx hky hlt hij hw ob hob
 have hmem:(i,j)∈pairsOf ops:=by
  unfold pairsOf
  refine List.mem_flatMap.2 ⟨(x,i),mem_zipIdx hx,?_⟩
  simp only[hkx]
  refine List.mem_filterMap.2 ⟨(y,j),mem_zipIdx hy,?_⟩
  have h0:Nat.blt i j=true:=Nat.ble_eq_true_of_le hlt
  have h1:anc (ancs ops.toList []) i j=false:=by
   cases h:anc (ancs ops.toList []) i j with
   | false=>rfl
   | true=>exact absurd (anc_spec h) hij
  simp[hky,h0,h1]
 have:=List.all_eq_true.1 hp _ hmem
 unfold pairSame at this
 simp only[hx] at this
 split at this
 ·rename_i o E h E1 h1 E2 h2 eo e1 e2 e3
  cases eo
  simp only[List.getD_eq_getElem?_getD,e1,e2,e3,Option.getD_some] at hw hob ⊢
  rw[hw,hkx] at this
  simp only at this
  unfold madeSame at this
  split at this
  ·rename_i c d k1 k2
   rw[k1] at hob
   rw[k2,<- hob,veqL_eq this]
  ·cases this
 ·cases this
theorem evDraw_snd(hC:CSnd P C)(hm:P.follows .mixedOrders=true){id:Nat}{Q:Exit->Act->World->Prop}(ho:evDraw P C n (drawOps ops) E h=some (E',h'))(s:Sim B w0 m h w)(he:EnvRel m E a.tmps)
  (hs:a.tmps.size=n) (hk:∀ m' a' w',Stp m h m' h'->Sim B w0 m' h' w'->EnvRel m' E' a'.tmps->a'.tmps.size=n->a'.defers=a.defers->Q .normal a' w'):(Code.region id ops true).wpIn (Fr rd) nn P Q a w:=by
 suffices H:wpAnyIn (Fr rd) nn P .any (drawOps ops) Q (drawOps ops).size (Array.replicate (drawOps ops).size false) a { w with drawn:=w.drawn+1 } by
  refine wpIn_region_any hm ?_
  unfold drawOps at H
  split at H
  ·exact H
  ·split at H
   ·rename_i hp
    have hp':=permOk_spec hp
    rw[permOps_size,hp'.len] at H
    refine wpAny_perm hp' _ ⟨by simp,by simp,fun j hj=>?_⟩ H
    obtain⟨q1,_⟩:=hp'.pos j hj
    simp[Array.getD_eq_getD_getElem?,hj,q1]
   ·exact H
 generalize drawOps ops=ops at ho ⊢
 have main:∀ {tr:List (Env×Hp)},statOk ops=true->traceO P C n ops ops.toList E h=some tr->(pairsOf ops).all (pairSame P ops tr)=true->tr[ops.size]?=some (E',h')->wpAnyIn (Fr rd) nn P .any ops Q ops.size (Array.replicate ops.size false) a { w with drawn:=w.drawn+1 }:=by
  intro tr hst htr hpa hlast
  have hso:=statOk_spec hst
  have ht:=traceO_Tr (C:=C) (n:=n) htr
  have h0:=(traceO_len ops.toList htr).2
  have e0:tr.getD 0 ([],[])=(E,h):=by simp[List.getD_eq_getElem?_getD,h0]
  have eN:tr.getD ops.size ([],[])=(E',h'):=by simp[List.getD_eq_getElem?_getD,hlast]
  have s':Sim B w0 m h { w with drawn:=w.drawn+1 }:=s.drawn _
  refine draw_all (m0:=m) (n:=n) (ds:=a.defers) hC hso ht (pairs_ok hpa) (mades_ok hpa) (fun m' a' w' h1 h2 h3 h4 h5=>hk m' a' w' (by simpa only[e0,eN] using h1) (by simpa only[eN] using h2) (by simpa only[eN] using h3) h4 h5) _ _ _ _ (by simp) ?_
  have hfalse:∀ i,(Array.replicate ops.size false).getD i false=false:=fun i=>by
   rcases Nat.lt_or_ge i ops.size with h | h<;>simp[Array.getD_eq_getD_getElem?,h]
  obtain⟨q,k1,k2,k3,k4⟩:=next_major ops ops.size 0 (by omega)
  obtain⟨os,hos⟩:=ht.grow q 0 (fun i i1 i2 y hy=>k3 i y i1 (by omega) hy) (by omega)
  simp only[Nat.zero_add,e0] at hos
  refine⟨by simp,fun j oj _ hl=>(by rw[hfalse] at hl;cases hl),hs,rfl,m,q,⟨Stp.same (by simp only[e0];rw[hos];simp),fun p hp=>?_⟩,by rw[hos];exact s'.ext os,k2,fun i o hi hy hky=>absurd hky (k3 i o (by omega) hi hy),fun o hy=>⟨k4 o hy,hfalse q⟩,
   fun p t v hp hv hb1 _=>?_,fun j o hj hy hky _ _=>?_⟩
  ·obtain⟨os',hos'⟩:=ht.grow 1 p (fun i i1 i2 y hy=>k3 i y (by omega) (by omega) hy) (by omega)
   simp only[hos',List.length_append]
   omega
  ·have hkeep:=ht.keep (t:=t) p 0 (fun i _ hi o hy hd=>by
    have:=hb1 i o (by omega) hy hd
    rw[hfalse] at this;cases this) (by omega)
   simp only[Nat.zero_add,e0] at hkeep
   exact he t v (by rw[<- hkeep];exact hv)
  ·obtain⟨os',hos'⟩:=ht.grow j 0 (fun i i1 i2 y hy=>k3 i y i1 (by omega) hy) (by omega)
   simp only[Nat.zero_add,e0] at hos'
   refine s'.fresh ?_
   rw[hos'];simp
 unfold evDraw at ho
 split at ho
 ·rename_i hst
  split at ho
  ·rename_i hp0
   obtain⟨tr,t1,t2⟩:=evOps_trace ops.toList ho
   exact main hst t1 (by rw[hp0];rfl) (by simpa using t2)
  ·split at ho
   ·rename_i tr htr
    split at ho
    ·rename_i hpa;exact main hst htr hpa ho
    ·cases ho
   ·cases ho
 ·cases ho
end Go.Ev
