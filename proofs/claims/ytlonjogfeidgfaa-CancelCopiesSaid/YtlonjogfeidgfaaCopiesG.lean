import Derived.Test.YtlonjogfeidgfaaCopiesF
import Derived.Test.YtlonjogfeidgfaaProg
import Derived.KernelRfl
set_option linter.unusedVariables false
namespace Go.Proofs.Ytlonjogfeidgfaa.gr
open Go Go.Ev Go.Proofs.Ytlonjogfeidgfaa.tr
set_option maxRecDepth 100000
set_option linter.unusedVariables false
set_option linter.constructorNameAsVariable false
def nums(k:Nat):List Int:=(List.range k).map fun i=>((i+1:Nat):Int)
theorem nums_succ(k:Nat):nums (k+1)=nums k++[((k+1:Nat):Int)]:=by simp[nums,List.range_succ]
theorem nums_len(k:Nat):(nums k).length=k:=by simp[nums]
def GS.pends(x:GS):List Int:=(nums 64).filter x.pend
theorem pends_le(x:GS):x.pends.length<=64:=Nat.le_trans (List.length_filter_le _ _) (by rw[nums_len];omega)
theorem filter_len{l:List Int}(f:Int->Bool):(l.filter f).length<=l.length:=List.length_filter_le _ _
section
variable {h h' g:Hp} {ρ ρ' ρ1:Lay} {γ γ' γ1:GL} {x:GS} {t':TS} {c:Nat}
theorem inL_len'(l:List Int):(inL l).length=l.length*1:=by simp[inL]
theorem pd_loop(ok:TOk c x.t)(hc:c<=1000)(W:WI none x.t){lo:Nat}(hf:∀ q,fpG ρ γ q->q<lo):∀ (f j:Nat) (v:Value) (E:Env) (g:Hp),j+f=64->GAt g ρ γ x->lo<=g.length->SlV g lo v ((nums j).filter x.pend).length 1 (inL ((nums j).filter x.pend)) ->
  EnvLe [(4,.int .i64 ((j+1:Nat):Int)),(3,v),(0,ptr γ.g)] E ->
  ∃ E1 g1 w,Keep (fun q=>lo<=q) g g1/\SlV g1 lo w x.pends.length 1 (inL x.pends)/\EnvLe [(3,w)] E1/\LRun Try.prog 17 false (loopN Try.f12 0) E g (.exit 0) E1 g1
 | 0,j,v,E,g,hj,a,hlo,sv,hE=>by
  have e:j=64:=by omega
  subst e
  obtain⟨E2,q1,q2⟩:=pvC 0 hE (c17p.pd_out γ.g 0 0 0 0 ((64+1:Nat):Int) 0 v [] g g) ⟨leF (by omega),trivial⟩
  exact⟨E2,g,v,Keep.refl _ _,sv,.trans (.add (.nil _) rfl) q1,.last q2 (by simp)⟩
 | f+1,j,v,E,g,hj,a,hlo,sv,hE=>by
  obtain⟨g1,R,K⟩:=pend_run a ok hc W ((j+1:Nat):Int)
  have A1:(Asm.cmp .leq ((j+1:Nat):Int) 64 true).holds Try.prog:=leT (by omega)
  have N1:(Asm.arith .add .i64 ((j+1:Nat):Int) 1 ((j+1+1:Nat):Int)).holds Try.prog:=addI (by omega) (by omega) (by omega)
  have hlo1:lo<=g1.length:=Nat.le_trans hlo K.1
  obtain⟨A,hA⟩:∃ A,A=(nums j).filter x.pend:=⟨_,rfl⟩
  have hAl:A.length<=64:=by rw[hA];exact Nat.le_trans (filter_len _) (by rw[nums_len];omega)
  have nx:(nums (j+1)).filter x.pend=A++(if x.pend ((j+1:Nat):Int) then [((j+1:Nat):Int)] else []):=by
   rw[nums_succ,List.filter_append,hA,List.filter_cons,List.filter_nil]
  rw[<- hA] at sv
  have sv1:SlV g1 lo v A.length 1 (inL A):=sv.keep K fun q e=>e.elim
  have up:∀ {E1:Env} {g2:Hp} {v':Value},Keep (fun q=>lo<=q) g g2->SlV g2 lo v' ((nums (j+1)).filter x.pend).length 1 (inL ((nums (j+1)).filter x.pend)) ->
    EnvLe [(4,.int .i64 ((j+1+1:Nat):Int)),(3,v'),(0,ptr γ.g)] E1->CRun Try.prog 17 false (loopN Try.f12 0) E g .normal E1 g2 ->
    ∃ E1 g1 w,Keep (fun q=>lo<=q) g g1/\SlV g1 lo w x.pends.length 1 (inL x.pends)/\EnvLe [(3,w)] E1/\LRun Try.prog 17 false (loopN Try.f12 0) E g (.exit 0) E1 g1:=by
   intro E1 g2 v' K2 s2 hE1 hc1
   obtain⟨E2,g3,w,K3,s3,e3,l3⟩:=pd_loop ok hc W hf f (j+1) v' E1 g2 (by omega) (a.keep K2 fun q h1 h2=>by have:=hf q h2;omega) (Nat.le_trans hlo K2.1) s2 hE1
   exact⟨E2,g3,w,K2.trans K3,s3,e3,.step hc1 l3⟩
  have Kg:Keep (fun q=>lo<=q) g g1:=K.mono fun _ _ e=>e.elim
  cases e:x.pend ((j+1:Nat):Int) with
  | false =>
   rw[e] at R
   obtain⟨E1,q1,q2⟩:=pvC 0 hE (c17p.pd_no γ.g 0 0 0 0 ((j+1:Nat):Int) ((j+1+1:Nat):Int) v [] g g1) ⟨A1,R,N1,trivial⟩
   rw[e] at nx
   exact up Kg (by rw[nx];simpa using sv1) (.trans (.add (.add (.add (.nil _) rfl) rfl) rfl) q1) q2
  | true =>
   rw[e] at R nx
   have el:inL (A++[((j+1:Nat):Int)])=inL A++[.int .i64 ((j+1:Nat):Int)]:=by rw[inL_app];rfl
   rcases sv1 with⟨h1,h2,rfl⟩ | ⟨h1,h2,d,rfl,h4,h5⟩
   ·have A0:A=[]:=List.length_eq_zero_iff.1 h1
    obtain⟨E1,q1,q2⟩:=pvC 0 hE (c17p.pd_n γ.g g1.length (g1.length+1) 0 0 ((j+1:Nat):Int) ((j+1+1:Nat):Int) undef [] g g1)
     ⟨A1,R,rfl,a_appGN rfl rfl (by omega) (gW _ _) (pL _ _),N1,trivial⟩
    refine up (Kg.trans ((Keep.push _ _ _).trans (Keep.push _ _ _))) (v':=.slice (some ⟨g1.length+1,0,none⟩) 1 1) ?_ (.trans (.add (.add (.add (.nil _) rfl) rfl) rfl) q1) q2
    rw[nx,A0]
    exact .inr ⟨by simp,by simp[inL],g1.length+1,rfl,gV _ (pL _ _),by omega⟩
   ·have hd:=get_lt h4
    obtain⟨E1,q1,q2⟩:=pvC 0 hE (c17p.pd_s γ.g g1.length (g1.length+1) d A.length ((j+1:Nat):Int) ((j+1+1:Nat):Int) undef (inL A++[.int .i64 ((j+1:Nat):Int)]) g g1)
     ⟨A1,R,rfl,a_appGS (n:=A.length) (z:=1) (b:=8) (cs:=inL A) (item:=[.int .i64 ((j+1:Nat):Int)]) rfl rfl (by omega) (by omega) h2 (gP h4) (gW _ _) (pL _ _),N1,trivial⟩
    refine up (Kg.trans (((Keep.push _ _ _).trans (Keep.set (fp:=fun q=>lo<=q) h5 _)).trans (Keep.push _ _ _))) (v':=.slice (some ⟨g1.length+1,0,none⟩) (A.length+1) 1) ?_ (.trans (.add (.add (.add (.nil _) rfl) rfl) rfl) q1) q2
    rw[nx,if_pos rfl,el]
    exact .inr ⟨by simp,by simp[inL],g1.length+1,by rw[List.length_append];rfl,gV _ (by simp[SH.den]),by omega⟩
theorem pending_run(a:GAt h ρ γ x)(ok:TOk c x.t)(hc:c<=1000)(W:WI none x.t) :
  ∃ v g,Run Try.prog 12 [ptr γ.g] h v g/\Grow h g/\SlV g h.length v x.pends.length 1 (inL x.pends):=by
 obtain⟨E1,g,w,K,s,e1,l1⟩:=pd_loop ok hc W (lo:=h.length) (fun q e=>a.lt e) 64 0 (.slice none 0 0) [(4,.int .i64 1),(3,.slice none 0 0),(0,ptr γ.g)] h rfl a (Nat.le_refl _) (.inl ⟨rfl,rfl,rfl⟩) (EnvLe.refl _)
 exact⟨w,g,pvF 0 Try.func12 (c17p.pd γ.g w h g) ⟨a_loop (by kernel_rfl) (.add (.add (.add (.nil _) rfl) rfl) rfl) e1 l1,trivial⟩,K.mono fun q hq e=>by omega,s⟩
end
end Go.Proofs.Ytlonjogfeidgfaa.gr
namespace Go.Proofs.Ytlonjogfeidgfaa.gr
open Go Go.Ev Go.Proofs.Ytlonjogfeidgfaa.tr
set_option maxRecDepth 100000
set_option linter.unusedVariables false
set_option linter.constructorNameAsVariable false
def toldL:List Ef->List Int
 | []=>[]
 | e::l=>if e.kind=2 then e.n::toldL l else toldL l
def leftL:List Ef->Bool
 | []=>false
 | e::l=>decide (e.kind=3)||leftL l
section
variable {b o p d:Nat} {i:Int} {w nv:Value} {z:Bool}
variable {h:Hp} {W N T:List Int} {t:Value} {lf:Bool}
end
end Go.Proofs.Ytlonjogfeidgfaa.gr
namespace Go.Proofs.Ytlonjogfeidgfaa.gr
open Go Go.Ev Go.Proofs.Ytlonjogfeidgfaa.tr
set_option maxRecDepth 100000
set_option linter.unusedVariables false
set_option linter.constructorNameAsVariable false
section
variable {x:GS} {k:Nat}
theorem lateF_ok(o:GOk k x):GOk (k+1) x.lateF.1/\x.lateF.2.1.length<=130:=by
 obtain⟨c,a,b,d,e⟩:=o
 have hd:x.lateF.1.du.length=x.du.length-1:=by
  have:x.lateF.1.du=popped x.du:=by rw[GS.lateF,GS.fail,GS.after,turned_du];rfl
  rw[this,popped_len]
 have ht:=late_t x
 refine⟨⟨c+1,ht▸a.fail,ht▸b.fail _ _ _,ht▸d.fail a _ _ _,by rw[hd];omega⟩,?_⟩
 have h1:=turned_len (x.t.fail (popP x.du).2 1 c13p.late).2.1 (x:={ x.pop with t:=(x.t.fail (popP x.du).2 1 c13p.late).1 }) (c:=c+1) a.fail (b.fail _ _ _) (d.fail a _ _ _)
 have h2:=fail_ef x.t (popP x.du).2 1 c13p.late
 have h3:x.lateF.2.1=(({ x.pop with t:=(x.t.fail (popP x.du).2 1 c13p.late).1 }:GS).turned (x.t.fail (popP x.du).2 1 c13p.late).2.1).2:=rfl
 rw[h3];omega
theorem come_len(o:GOk k x):x.come.2.length<=65:=by
 obtain⟨⟨c,a,b,d,_⟩,_⟩:=lateF_ok o
 exact strikes_len a b d _
theorem expF_efs:∀ (f:Nat) {x:GS} (now:Int),GOk k x->(expF f x now).2.length<=195*x.du.length
 | 0,x,now,o=>by simp[expF]
 | f+1,x,now,o=>by
  unfold gr.expF;split
  ·simp
  ·rename_i p r e
   have hl:x.du.length=r.length+1:=by rw[e];rfl
   split
   ·have hne:x.du≠[]:=by rw[e];simp
    have h1:=expF_efs f now (o.come hne).over
    have h2:=over_du_len x.come.1
    have h3:=(lateF_ok o).2
    have h4:=come_len o
    rw[come_du,popped_len] at h2
    simp only[List.length_append]
    omega
   ·simp
theorem run_efs(o:GOk k x)(hk:k<=400)(op:OpV):(x.run op).2.1.length<=100000:=by
 obtain⟨c,a,b,d,e⟩:=o
 have tl:∀ {r:TS×List Ef×Int} {c:Nat},TOk c r.1->WI none r.1->WJ r.1->r.2.1.length<=2->(x.after r).2.1.length<=100000:=fun {r c} h1 h2 h3 h4=>by
  have:=turned_len r.2.1 (x:={ x with t:=r.1 }) (c:=c) h1 h2 h3
  have e:(x.after r).2.1=(({ x with t:=r.1 }:GS).turned r.2.1).2:=rfl
  rw[e];omega
 unfold GS.run
 repeat' split
 ·simp
 ·simp
 ·exact tl a.end (b.end a _ _ _) (d.end a _ _ _) (end_ef _ _ _ _)
 ·exact tl a.leave (b.leave a _ _ _) (d.leave a _ _ _) (leave_ef _ _ _ _)
 ·simp
 ·simp
 ·exact tl a.fail (b.fail _ _ _) (d.fail a _ _ _) (fail_ef _ _ _ _)
 ·simp
 ·show (x.strikeT op.n).2.1.length<=100000
  unfold GS.strikeT;split
  ·simp
  ·exact Nat.le_trans (strike_len x true op.n _) (reach_len a b d _ _)
 ·have h1:=expF_efs x.over.du.length op.n (show GOk k x.over from GOk.over ⟨c,a,b,d,e⟩)
  have h2:=over_du_len x
  show (expF x.over.du.length x.over op.n).2.length<=100000
  omega
 ·simp
end
end Go.Proofs.Ytlonjogfeidgfaa.gr
namespace Go.Proofs.Ytlonjogfeidgfaa.gr
open Go Go.Ev Go.Proofs.Ytlonjogfeidgfaa.tr
set_option maxRecDepth 100000
set_option linter.unusedVariables false
set_option linter.constructorNameAsVariable false
def GS.nx(x:GS):Int×Bool:=match x.du with
 | []=>(0,false)
 | p::_=>(p.1,true)
section
variable {h h' g:Hp} {ρ ρ':Lay} {γ γ':GL} {x:GS} {c:Nat}
theorem next_run(a:GAt h ρ γ x)(ok:TOk c x.t)(hc:c<=1000)(hl:x.du.length<=100000) :
  ∃ g,Run Try.prog 28 [ptr γ.g] h (.tuple #[.int .i64 x.over.nx.1,.bool x.over.nx.2]) g/\GAt g ρ γ x.over/\GStep ρ γ h ρ γ g:=by
 obtain⟨g,R,b,S⟩:=over_run a ok hc hl
 have hlo:=over_du_len x
 refine⟨g,?_,b,S⟩
 generalize x.over=y at b hlo ⊢
 have O:=b.obj
 cases hd:γ.d with
 | none =>
  have e0:=b.dun hd
  rw[hd] at O
  have e:y.nx=(0,false):=by unfold GS.nx;rw[e0]
  rw[e]
  exact pvF 0 Try.func28 (c32p.nx_nil γ.g 0 0 0 h g) ⟨R,aL O rfl,eqT rfl,trivial⟩
 | some d =>
  rw[hd] at O
  obtain⟨junk,hj⟩:=b.duo d hd
  have S3:(Asm.ld1 (.is g) γ.g 3 (.slice (some ⟨d,0,none⟩) y.du.length 2)).holds Try.prog:=aL O rfl
  cases hx:y.du with
  | nil =>
   have e:y.nx=(0,false):=by unfold GS.nx;rw[hx]
   rw[e]
   exact pvF 0 Try.func28 (c32p.nx_zero γ.g d y.du.length 0 h g) ⟨R,S3,eqT (by rw[hx];rfl),trivial⟩
  | cons p r =>
   have hpos:0<y.du.length:=by rw[hx];simp
   have e:y.nx=(p.1,true):=by unfold GS.nx;rw[hx]
   rw[e]
   have D:DAt g γ.g d y.du _ junk:=⟨O,rfl,hj,fun f=>b.gd (by rw[hd,f]),by omega⟩
   obtain⟨L1,_,_⟩:=D.ld (k:=0) (p:=p) (by rw[hx];rfl) (s:=.is g) rfl
   have off0:(Asm.off 0 0 0 y.du.length 2).holds Try.prog:=offI (q:=0) rfl hpos (by omega)
   exact pvF 0 Try.func28 (c32p.nx_go γ.g d y.du.length p.1 h g) ⟨R,S3,eqF (by simp only[Int.ofNat_eq_natCast];omega),S3,off0,L1,trivial⟩
end
end Go.Proofs.Ytlonjogfeidgfaa.gr
namespace Go.Proofs.Ytlonjogfeidgfaa.gr
open Go Go.Ev Go.Proofs.Ytlonjogfeidgfaa.tr
set_option maxRecDepth 100000
set_option linter.unusedVariables false
set_option linter.constructorNameAsVariable false
section
variable {h g:Hp} {ρ:Lay} {γ:GL} {x:GS} {c:Nat} {now:Int}
end
end Go.Proofs.Ytlonjogfeidgfaa.gr
namespace Go.Proofs.Ytlonjogfeidgfaa.gr
open Go Go.Ev Go.Proofs.Ytlonjogfeidgfaa.tr
set_option linter.unusedVariables false
set_option linter.constructorNameAsVariable false
theorem ixO_left{v:Option Nat}:∀ {l e:List (Option Nat)},v∈l->ixO v (l++e)=ixO v l
 | x::l,e,h=>by
  simp only[List.cons_append,ixO]
  split
  ·rfl
  ·rename_i c
   rw[ixO_left (List.mem_of_ne_of_mem (Ne.symm c) h)]
def Ext(s:Nat)(l l':List (Option Nat)):Prop:=some s∈l->some s∈l'/\ixO (some s) l'=ixO (some s) l/\l'.take (ixO (some s) l)=l.take (ixO (some s) l)
theorem Ext.refl(s:Nat)(l:List (Option Nat)):Ext s l l:=fun h=>⟨h,rfl,rfl⟩
theorem Ext.trans{s:Nat}{l l1 l2:List (Option Nat)}(a:Ext s l l1)(b:Ext s l1 l2):Ext s l l2:=fun h=>by
 obtain⟨a1,a2,a3⟩:=a h
 obtain⟨b1,b2,b3⟩:=b a1
 exact⟨b1,b2.trans a2,by rw[<- a2,b3,a2,a3]⟩
theorem ext_app(s:Nat)(l e:List (Option Nat)):Ext s l (l++e):=fun h =>
 ⟨List.mem_append_left _ h,ixO_left h,List.take_append_of_le_length (Nat.le_of_lt (ixO_lt h))⟩
theorem ext_drop{s:Nat}{l:List (Option Nat)}{e:Option Nat}(h:e≠some s):Ext s (l++[e]) l:=fun hm=>by
 have hl:some s∈l:=by
  rcases List.mem_append.1 hm with h1 | h1
  ·exact h1
  ·exact absurd (List.mem_singleton.1 h1).symm h
 exact⟨hl,(ixO_left hl).symm,by rw[ixO_left hl];exact (List.take_append_of_le_length (Nat.le_of_lt (ixO_lt hl))).symm⟩
def Live(n:Nat)(t:TS)(s:Nat):Prop:=∃ j z,j<n/\t.tks[j]?=some z/\z.en=false/\z.inn=some s
structure Cs(t t':TS):Prop where
 le:t.tks.length<=t'.tks.length
 tk:∀ (k:Nat) x',k<t.tks.length->t'.tks[k]?=some x'->x'.en=false->∃ x,t.tks[k]?=some x/\x.en=false/\x'.inn=x.inn/\∀ s,Live t.tks.length t' s->Ext s x.opn x'.opn
 sc:∀ (s:Nat) y,t.scs[s]?=some y->∃ y',t'.scs[s]?=some y'/\y'.ow=y.ow
section
variable {t t' t1 t2:TS} {c c' k:Nat}
theorem Cs.refl(t:TS):Cs t t:=⟨Nat.le_refl _,fun k x _ hx he=>⟨x,hx,he,rfl,fun s _=>.refl _ _⟩,fun s y hy=>⟨y,hy,rfl⟩⟩
theorem Cs.trans(a:Cs t t1)(b:Cs t1 t2):Cs t t2:=by
 refine⟨Nat.le_trans a.le b.le,fun k x2 hk hx2 he2=>?_,fun s y hy=>?_⟩
 ·obtain⟨x1,hx1,he1,hi1,e1⟩:=b.tk k x2 (Nat.lt_of_lt_of_le hk a.le) hx2 he2
  obtain⟨x,hx,he,hi,e⟩:=a.tk k x1 hk hx1 he1
  refine⟨x,hx,he,hi1.trans hi,fun s ⟨j,z2,hj,hz2,hze,hzi⟩=>?_⟩
  obtain⟨z1,hz1,hze1,hzi1,_⟩:=b.tk j z2 (Nat.lt_of_lt_of_le hj a.le) hz2 hze
  exact (e s ⟨j,z1,hj,hz1,hze1,hzi1▸hzi⟩).trans (e1 s ⟨j,z2,Nat.lt_of_lt_of_le hj a.le,hz2,hze,hzi⟩)
 ·obtain⟨y1,h1,o1⟩:=a.sc s y hy
  obtain⟨y2,h2,o2⟩:=b.sc s y1 h1
  exact⟨y2,h2,o2.trans o1⟩
theorem cs_upS{f:Sc->Sc}(h:∀ y,(f y).ow=y.ow):Cs t (t.upS k f) :=
 ⟨Nat.le_refl _,fun j x _ hx he=>⟨x,hx,he,rfl,fun s _=>.refl _ _⟩,fun s y hy=>by
  refine⟨if k=s then f y else y,by rw[upS_get,hy];rfl,?_⟩
  split
  ·exact h y
  ·rfl⟩
theorem cs_upT{f:Tk->Tk}(h:∀ x,t.tks[k]?=some x->(f x).en=false->x.en=false/\(f x).inn=x.inn/\∀ s,Live t.tks.length (t.upT k f) s->Ext s x.opn (f x).opn):Cs t (t.upT k f):=by
 refine⟨by rw[upT_len];exact Nat.le_refl _,fun j x' hj hx' he=>?_,fun s y hy=>⟨y,hy,rfl⟩⟩
 obtain⟨x,hx,⟨rfl,rfl⟩ | ⟨_,rfl⟩⟩:=upT_inv hx'
 ·obtain⟨h1,h2,h3⟩:=h x hx he
  exact⟨x,hx,h1,h2,h3⟩
 ·exact⟨x',hx,he,rfl,fun s _=>.refl _ _⟩
theorem cs_irr{f:Tk->Tk}(h1:∀ x,(f x).inn=x.inn)(h2:∀ x,(f x).opn=x.opn)(h3:∀ x,(f x).en=false->x.en=false):Cs t (t.upT k f) :=
 cs_upT fun x _ he=>⟨h3 x he,h1 x,fun s _=>by rw[h2];exact .refl _ _⟩
theorem cs_app(e:Option Nat):Cs t (t.upT k fun x=>{ x with opn:=x.opn++[e] }):=cs_upT fun x _ he=>⟨he,rfl,fun s _=>ext_app s _ _⟩
theorem cs_drop{e:Option Nat}(h:∀ x,t.tks[k]?=some x->x.opn.getLast?=some e)(hn:∀ s,e=some s->¬ Live t.tks.length t s):Cs t (t.upT k fun x=>{ x with opn:=x.opn.dropLast }):=by
 refine cs_upT fun x hx he=>⟨he,rfl,fun s hl=>?_⟩
 have hg:=h x hx
 have hx2:x.opn=x.opn.dropLast++[e]:=by
  obtain⟨l,hl⟩:=List.getLast?_eq_some_iff.1 hg
  rw[hl];simp
 have hne:e≠some s:=fun f=>hn s f (by
  obtain⟨j,z,h1,h2,h3,h4⟩:=hl
  obtain⟨w,hw,⟨rfl,rfl⟩ | ⟨_,rfl⟩⟩:=upT_inv h2
  ·exact⟨_,w,h1,hw,h3,h4⟩
  ·exact⟨j,z,h1,hw,h3,h4⟩)
 show Ext s x.opn x.opn.dropLast
 have:=ext_drop (l:=x.opn.dropLast) hne
 rwa [<- hx2] at this
theorem cs_newS{su:Bool}:Cs t (t.newS k su) :=
 ⟨Nat.le_refl _,fun j x _ hx he=>⟨x,hx,he,rfl,fun s _=>.refl _ _⟩,fun s y hy=>⟨y,by simp only[TS.newS];rw[List.getElem?_append_left (gT hy)];exact hy,rfl⟩⟩
theorem cs_newT{inn:Option Nat}:Cs t (t.newT inn) :=
 ⟨by simp[TS.newT],fun j x hj hx he=>⟨x,by simp only[TS.newT] at hx;rwa [List.getElem?_append_left hj] at hx,he,rfl,fun s _=>.refl _ _⟩,fun s y hy=>⟨y,hy,rfl⟩⟩
theorem chain_run'{x:Tk}(hx:t.tks[k]?=some x)(he:x.en=false):t.chain ((k+1:Nat):Int)=(t.chainG (k+1) k x.opn.length,0):=by
 have hk:=gT hx
 have hr:t.runs ((k+1:Nat):Int)=(some k,0):=by
  unfold TS.runs
  rw[if_neg (by omega),show (((k+1:Nat):Int)-1).toNat=k by omega,hx]
  simp[he]
 unfold TS.chain
 rw[hr]
 simp only[hx]
theorem chain_no{n:Int}(h:∀ (k:Nat) x,n=((k+1:Nat):Int)->t.tks[k]?=some x->x.en=true):(t.chain n).1=[]:=by
 unfold TS.chain
 split
 ·rfl
 ·rename_i k e hq
  obtain⟨_,rfl,x,hx,he⟩:=runs_some hq
  have:=h k x (by omega) hx
  rw[he] at this;cases this
end
section
variable {x:GS} {t':TS} {c c':Nat}
theorem pend_iff{n:Int}(h:x.pend n=true):∃ (k:Nat) (y:Tk),n=((k+1:Nat):Int)/\x.t.tks[k]?=some y/\y.en=false:=by
 refine Classical.byContradiction fun hn=>?_
 have:(x.t.chain n).1=[]:=chain_no fun k y hk hy=>by
  cases e:y.en with
  | true=>rfl
  | false=>exact absurd ⟨k,y,hk,hy,e⟩ hn
 rw[GS.pend,this] at h
 cases h
end
end Go.Proofs.Ytlonjogfeidgfaa.gr
namespace Go.Proofs.Ytlonjogfeidgfaa.gr
open Go Go.Ev Go.Proofs.Ytlonjogfeidgfaa.tr
set_option linter.unusedVariables false
set_option linter.constructorNameAsVariable false
section
variable {t t':TS} {c k:Nat}
theorem chain_two(ok:TOk c t)(W:WI none t)(J:WJ t){k:Nat}{x:Tk}{n:Int}(hx:t.tks[k]?=some x)(he:x.en=false)(h:((2:Int),n)∈t.chainG (k+1) k x.opn.length) :
  ∃ (s:Nat) (y:Sc),n=((s+1:Nat):Int)/\t.scs[s]?=some y/\((some s∈x.opn/\y.ow=k)\/∃ s0,x.inn=some s0/\Abv t s s0):=by
 rw[TS.chainG] at h
 simp only[hx,List.take_length] at h
 rw[List.mem_append,List.mem_append,List.mem_singleton] at h
 rcases h with (h | h) | h
 ·obtain⟨v,hv,e⟩:=List.mem_map.1 h
  rw[List.mem_reverse] at hv
  cases v with
  | none=>simp[lkP,lkK] at e
  | some s =>
   obtain⟨y,hy⟩:∃ y,t.scs[s]?=some y:=⟨_,List.getElem?_eq_getElem (ok.opn k x s hx hv)⟩
   exact⟨s,y,(congrArg Prod.snd e).symm,hy,.inl ⟨hv,W.ow1 k x s y hx hv hy⟩⟩
 ·simp at h
 ·cases hi:x.inn with
  | none=>rw[hi] at h;cases h
  | some s0 =>
   obtain⟨y0,z0,hy0,hz0,_,hin,hen,hlt⟩:=W.above ok hx he hi
   simp only[hi,hy0,hz0] at h
   have form:∀ (f k top:Nat),((2:Int),n)∈t.chainG f k top->∃ s:Nat,n=((s+1:Nat):Int):=by
    intro f
    induction f with
    | zero=>intro k top h;cases h
    | succ f ih =>
     intro k top h
     rw[TS.chainG] at h
     split at h
     ·cases h
     ·rw[List.mem_append,List.mem_append,List.mem_singleton] at h
      rcases h with (h | h) | h
      ·obtain⟨v,hv,e⟩:=List.mem_map.1 h
       cases v with
       | none=>simp[lkP,lkK] at e
       | some s=>exact⟨s,(congrArg Prod.snd e).symm⟩
      ·simp at h
      ·split at h
       ·cases h
       ·split at h
        ·cases h
        ·split at h
         ·cases h
         ·rcases List.mem_cons.1 h with e | h
          ·rename_i s _ _ _ _ _ _ _
           exact⟨_,congrArg Prod.snd e⟩
          ·exact ih _ _ h
   obtain⟨s,rfl⟩:∃ s:Nat,n=((s+1:Nat):Int):=by
    rcases List.mem_cons.1 h with e | h
    ·exact⟨s0,congrArg Prod.snd e⟩
    ·exact form _ _ _ h
   have ha:=(chain_abv ok W J s0 y0 z0 k hy0 hz0 hin (by omega) hen s).1 h
   have hle:=ha.le J W
   obtain⟨y,hy⟩:∃ y,t.scs[s]?=some y:=⟨_,List.getElem?_eq_getElem (by have:=gT hy0;omega)⟩
   exact⟨s,y,rfl,hy,.inr ⟨s0,rfl,ha⟩⟩
theorem below_some{s:Nat}(h:s<t.scs.length):(t.below ((s+1:Nat):Int)).1=t.belowG t.scs.length s:=by
 unfold TS.below TS.scope
 rw[if_neg (by omega),show (((s+1:Nat):Int)-1).toNat=s by omega]
theorem sco_some{s:Nat}{y:Sc}(h:t.scs[s]?=some y):(t.sco ((s+1:Nat):Int)).1=scV y:=by
 have:=gT h
 unfold TS.sco TS.scope
 rw[if_neg (by omega),show (((s+1:Nat):Int)-1).toNat=s by omega]
 simp only[h]
theorem mem_nmI{k:Nat}{l:List Nat}:((k+1:Nat):Int)∈nmI l↔k∈l:=by
 rw[nmI,List.mem_map]
 exact⟨fun⟨j,hj,e⟩=>(show j=k by omega)▸hj,fun h=>⟨k,h,rfl⟩⟩
theorem reach_scope(ok:TOk c t)(W:WI none t)(J:WJ t){k:Nat}{x:Tk}{n:Int}(hx:t.tks[k]?=some x)(he:x.en=false)(h:((2:Int),n)∈t.chainG (k+1) k x.opn.length) :
  ((k+1:Nat):Int)∈(t.sco n).1.ow::nmI (t.below n).1:=by
 obtain⟨s,y,rfl,hy,⟨h1,h2⟩ | ⟨s0,h1,h2⟩⟩:=chain_two ok W J hx he h
 ·rw[sco_some hy]
  exact List.mem_cons.2 (.inl (by simp[scV,h2]))
 ·rw[below_some (gT hy)]
  exact List.mem_cons_of_mem _ (mem_nmI.2 ((mem_below ok W J _ s (by omega) (gT hy) k).2 ⟨x,s0,hx,he,h1,h2⟩))
theorem over_out(ok:TOk c t)(W:WI none t)(J:WJ t){k s:Nat}{x:Tk}{y:Sc}(hx:t.tks[k]?=some x)(he:x.en=false)(hy:t.scs[s]?=some y)(hov:y.ov=true):((2:Int),((s+1:Nat):Int))∉t.chainG (k+1) k x.opn.length:=fun h=>by
 obtain⟨s',y',e,hy',⟨h1,h2⟩ | ⟨s0,h1,h2⟩⟩:=chain_two ok W J hx he h
 ·have:s'=s:=by omega
  subst this
  rw[hy] at hy';cases hy'
  have:=(W.ov s' y x hy (by rw[h2];exact hx)).2 h1
  rw[hov] at this;cases this
 ·have:s'=s:=by omega
  subst this
  rw[hy] at hy';cases hy'
  obtain⟨y0,z0,hy0,hz0,hov0,hin,hen,hlt⟩:=W.above ok hx he h1
  have opn:∃ z,t.tks[y.ow]?=some z/\some s'∈z.opn:=by
   rcases h2.last with rfl | ⟨s1,hp,_⟩
   ·rw[hy0] at hy;cases hy;exact⟨z0,hz0,hin⟩
   ·obtain⟨y1,z1,hy1,hz1,hs1,h3 | ⟨h3,h4⟩⟩:=hp
    ·have hm:=List.mem_of_mem_take (lastS_mem h3)
     exact⟨z1,by rw[W.ow1 _ z1 s' y hz1 hm hy];exact hz1,hm⟩
    ·have he1:z1.en=false:=by
      cases h5:z1.en with
      | false=>rfl
      | true=>rw[W.en _ z1 hz1 h5] at hs1;cases hs1
     obtain⟨y2,z2,hy2,hz2,_,hin2,_,_⟩:=W.above ok hz1 he1 h4
     rw[hy] at hy2;cases hy2
     exact⟨z2,hz2,hin2⟩
  obtain⟨z,hz,hin2⟩:=opn
  have:=(W.ov s' y z hy hz).2 hin2
  rw[hov] at this;cases this
end
theorem pendL_mono{tm sm tm' sm':List Int}(h1:∀ n,n∈tm->n∈tm')(h2:∀ n,n∈sm->n∈sm'):∀ {l:List Pr},pendL tm sm l=true->pendL tm' sm' l=true
 | [],h=>by cases h
 | p::l,h=>by
  have ih:=pendL_mono h1 h2 (l:=l)
  simp only[pendL,pendD] at h ⊢
  by_cases c3:p.1=3
  ·simp[c3] at h
  ·by_cases c1:p.1=1/\p.2∈tm
   ·simp[c1.1,h1 _ c1.2]
   ·by_cases c2:p.1=2/\p.2∈sm
    ·simp[c2.1,h2 _ c2.2]
    ·simp only[c3,if_false,c1,c2] at h
     simp only[c3,if_false]
     split
     ·rename_i b e
      split at e
      ·cases e;rfl
      ·split at e
       ·cases e;rfl
       ·cases e
     ·exact ih h
theorem pendL_newS{tm sm:List Int}{n:Int}:∀ {l:List Pr},pendL tm (sm++[n]) l=true->pendL tm sm l=false->((2:Int),n)∈l
 | [],h,_=>by cases h
 | p::l,h,h'=>by
  have ih:=pendL_newS (tm:=tm) (sm:=sm) (n:=n) (l:=l)
  simp only[pendL,pendD] at h h'
  by_cases c3:p.1=3
  ·simp[c3] at h
  ·by_cases c1:p.1=1/\p.2∈tm
   ·simp[c1] at h'
   ·by_cases c2:p.1=2/\p.2∈sm
    ·simp[c2] at h'
    ·by_cases c4:p.1=2/\p.2=n
     ·exact List.mem_cons.2 (.inl (Prod.ext c4.1.symm c4.2.symm))
     ·have c5:¬ (p.1=2/\p.2∈sm++[n]):=fun h=>(List.mem_append.1 h.2).elim (fun h2=>c2 ⟨h.1,h2⟩) fun h2=>c4 ⟨h.1,List.mem_singleton.1 h2⟩
      simp only[c3,if_false,c1,c2,c5] at h h'
      exact List.mem_cons_of_mem _ (ih h h')
theorem toldL_app:∀ l m:List Ef,toldL (l++m)=toldL l++toldL m
 | [],m=>rfl
 | e::l,m=>by simp only[List.cons_append,toldL,toldL_app l m];split<;>rfl
theorem leftL_app:∀ l m:List Ef,leftL (l++m)=(leftL l||leftL m)
 | [],m=>by simp[leftL]
 | e::l,m=>by simp only[List.cons_append,leftL,leftL_app l m,Bool.or_assoc]
theorem toldL_efP:∀ l:List Int,toldL (l.map efP)=l
 | []=>rfl
 | n::l=>by simp only[List.map_cons,toldL,toldL_efP l];rfl
structure Tl(x:GS)(l:List Ef)(y:GS):Prop where
 up:∀ m,x.pend m=true->y.pend m=true
 told:∀ m,m∈toldL l->x.pend m=false/\y.pend m=true
 all:∀ m,y.pend m=true->x.pend m=false->m∈toldL l
theorem Tl.refl(x:GS):Tl x [] x:=⟨fun _ h=>h,fun m h=>(by cases h),fun m h h'=>by rw[h] at h';cases h'⟩
theorem mark_up{x:GS}{b:Bool}{n:Int}(m:Int)(h:x.pend m=true):(x.mark n b).pend m=true:=by
 cases b
 ·exact pendL_mono (fun _ h=>h) (fun _ h=>List.mem_append_left _ h) h
 ·exact pendL_mono (fun _ h=>List.mem_append_left _ h) (fun _ h=>h) h
theorem strike_tl{x:GS}{b:Bool}{n:Int}{l:List Int}(hr:∀ m,(x.mark n b).pend m=true->x.pend m=false->m∈l):Tl x (x.strike b n l).2 (x.strike b n l).1:=by
 unfold GS.strike
 split
 ·exact .refl x
 ·refine⟨fun m h=>mark_up m h,fun m h=>?_,fun m h h'=>?_⟩
  ·rw[toldL_efP,List.mem_filter] at h
   have h2:=List.mem_filter.1 h.1
   exact⟨by simpa using h2.2,h.2⟩
  ·rw[toldL_efP,List.mem_filter]
   exact⟨List.mem_filter.2 ⟨hr m h h',by simp[h']⟩,h⟩
section
variable {x:GS} {c k:Nat}
theorem strikes_tl(ok:TOk c x.t)(W:WI none x.t)(J:WJ x.t)(n:Int):Tl x (x.strikes n).2 (x.strikes n).1:=by
 refine strike_tl fun m h h'=>?_
 obtain⟨k,y,rfl,hy,he⟩:=pend_iff h
 have hy:x.t.tks[k]?=some y:=hy
 have e1:=chain_run' hy he
 have h2:pendL x.tm (x.sm++[n]) (x.t.chain ((k+1:Nat):Int)).1=true:=h
 have h3:pendL x.tm x.sm (x.t.chain ((k+1:Nat):Int)).1=false:=h'
 rw[e1] at h2 h3
 exact reach_scope ok W J hy he (pendL_newS h2 h3)
end
end Go.Proofs.Ytlonjogfeidgfaa.gr
namespace Go.Proofs.Ytlonjogfeidgfaa.gr
open Go Go.Ev Go.Proofs.Ytlonjogfeidgfaa.tr
set_option linter.unusedVariables false
set_option linter.constructorNameAsVariable false
section
variable {t t':TS} {c c' k:Nat}
theorem Cs.scl(C:Cs t t'):t.scs.length<=t'.scs.length:=by
 by_cases h:t.scs.length=0
 ·omega
 ·obtain⟨y,hy⟩:∃ y,t.scs[t.scs.length-1]?=some y:=⟨_,List.getElem?_eq_getElem (by omega)⟩
  obtain⟨y',hy',_⟩:=C.sc _ y hy
  have:=gT hy'
  omega
theorem cs_blame(s:Nat)(fk:Int)(ft:ByteArray):Cs t (t.blame s fk ft).1:=by
 unfold TS.blame
 split
 ·split
  ·exact cs_upS fun _=>rfl
  ·exact .refl t
 ·exact .refl t
theorem cs_open(n:Int)(su:Bool):Cs t (t.open n su).1:=by
 unfold TS.open
 split
 ·exact .refl t
 ·split
  ·exact .refl t
  ·exact cs_newS.trans (cs_app _)
theorem cs_add(inn:Option Nat):Cs t (t.add inn):=by
 cases inn with
 | none=>exact cs_newT
 | some s =>
  unfold TS.add
  refine Cs.trans (Cs.trans cs_newT (cs_upS ?_)) (cs_upS ?_)
  ·intro y;rfl
  ·intro y;rfl
theorem cs_root:Cs t t.root.1:=by
 unfold TS.root
 split
 ·exact .refl t
 ·exact cs_add none
theorem cs_spawn(n:Int):Cs t (t.spawn n).1:=by
 unfold TS.spawn
 split
 ·exact .refl t
 ·split
  ·exact .refl t
  ·split
   ·exact .refl t
   ·rename_i s hs
    split
    ·exact .refl t
    ·exact cs_add (some s)
theorem cs_shield(n:Int):Cs t (t.shield n).1:=by
 unfold TS.shield
 split
 ·exact .refl t
 ·split
  ·split
   ·exact .refl t
   ·exact cs_app none
  ·exact .refl t
theorem cs_unveil(n:Int):Cs t (t.unveil n).1:=by
 unfold TS.unveil
 split
 ·exact .refl t
 ·split
  ·rename_i x hx
   split
   ·rename_i hg
    exact cs_drop (e:=none) (fun y hy=>by rw[hx] at hy;cases hy;exact hg) fun s e=>by cases e
   ·exact .refl t
  ·exact .refl t
theorem cs_fail(n fk:Int)(ft:ByteArray):Cs t (t.fail n fk ft).1:=by
 unfold TS.fail
 split
 ·exact .refl t
 ·split
  ·exact .refl t
  ·split
   ·exact .refl t
   ·split
    ·exact cs_blame _ _ _
    ·exact .refl t
theorem not_live{e:Option Nat}(W:WI e t){s:Nat}{y:Sc}(hy:t.scs[s]?=some y)(hl:y.live<=0)(n:Nat):¬ Live n t s:=fun⟨j,z,h1,h2,h3,h4⟩=>by
 have hm:=(W.mem s y j hy).2 ⟨z,h2,h4⟩
 have h0:=W.live s y hy
 have h5:y.tks.countP t.rn=0:=by omega
 rw[List.countP_eq_zero] at h5
 exact absurd (by rw[rn_of h2,h3];rfl) (h5 j hm)
theorem cs_fin{e:Option Nat}(W:WI e t)(s:Nat):Cs t (t.fin s).1:=by
 unfold TS.fin
 split
 ·exact .refl t
 ·rename_i y hy
  split
  ·exact .refl t
  ·rename_i x hx
   split
   ·rename_i hf
    simp only[finB,Bool.and_eq_true,decide_eq_true_eq] at hf
    have a1:Cs t (t.upS s fun y=>{ y with ov:=true }):=cs_upS fun _=>rfl
    have a2:Cs (t.upS s fun y=>{ y with ov:=true }) ((t.upS s fun y=>{ y with ov:=true }).upT y.ow fun x=>{ x with opn:=x.opn.dropLast }) :=
     cs_drop (e:=some s) (fun z hz=>by
      have hz':t.tks[y.ow]?=some z:=hz
      rw[hx] at hz';cases hz';exact hf.1.2) fun s' e' hl=>by
       cases e'
       exact not_live W hy hf.2 _ hl
    show Cs t (t.fin0 s y.ow)
    unfold TS.fin0
    refine Cs.trans (Cs.trans (a1.trans a2) (cs_irr ?_ ?_ ?_)) (cs_irr ?_ ?_ ?_)
    ·intro x;rfl
    ·intro x;rfl
    ·intro x h;exact h
    ·intro x;rfl
    ·intro x;rfl
    ·intro x h;exact h
   ·exact .refl t
theorem cs_leave1(s:Nat)(fk:Int)(ft:ByteArray):Cs t (t.leave1 k s fk ft):=by
 unfold TS.leave1
 refine Cs.trans (Cs.trans (cs_blame s fk ft) (cs_irr ?_ ?_ ?_)) (cs_irr ?_ ?_ ?_)
 ·intro x;rfl
 ·intro x;rfl
 ·intro x h;exact h
 ·intro x;rfl
 ·intro x;rfl
 ·intro x h;exact h
theorem cs_end1(fk:Int)(ft:ByteArray):Cs t (t.end1 k fk ft):=by
 unfold TS.end1
 refine Cs.trans (cs_irr ?_ ?_ ?_) (cs_irr ?_ ?_ ?_)
 ·intro x;rfl
 ·intro x;rfl
 ·intro x h;cases h
 ·intro x;rfl
 ·intro x;rfl
 ·intro x h;exact h
theorem cs_end3(s:Nat)(y:Sc)(fk:Int)(ft:ByteArray):Cs t (t.end3 k s y fk ft).1:=by
 have h:Cs t (t.end2 k s fk ft):=by
  unfold TS.end2
  refine Cs.trans (cs_end1 fk ft) (cs_upS ?_)
  intro y;rfl
 unfold TS.end3
 split
 ·exact h
 ·exact h.trans (cs_blame _ _ _)
def Fn(t t':TS):Prop:=∀ (j:Nat) x',t'.tks[j]?=some x'->x'.en=false->∃ x,t.tks[j]?=some x/\(x'.opn=x.opn\/∃ s,x.opn=x'.opn++[some s])
def Fs(n:Option Nat)(t t':TS):Prop:=∀ (j:Nat) x,t.tks[j]?=some x->x.en=false->(n=some j/\∀ x',t'.tks[j]?=some x'->x'.en=true)\/∃ x',t'.tks[j]?=some x'/\x'.en=false/\x'.opn=x.opn
theorem fn_tks(h:t'.tks=t.tks):Fn t t':=fun j x' hx' _=>⟨x',by rw[<- h];exact hx',.inl rfl⟩
theorem fs_tks(h:t'.tks=t.tks):Fs none t t':=fun j x hx he=>.inr ⟨x,by rw[h];exact hx,he,rfl⟩
theorem fail_tks(t:TS)(n fk:Int)(ft:ByteArray):(t.fail n fk ft).1.tks=t.tks:=by
 unfold TS.fail
 split
 ·rfl
 ·split
  ·rfl
  ·split
   ·rfl
   ·split
    ·exact blame_tks
    ·rfl
theorem fin_tks{s:Nat}:∀ (j:Nat) x',(t.fin s).1.tks[j]?=some x'->∃ x,t.tks[j]?=some x/\x'.en=x.en/\x'.inn=x.inn/\(x'.opn=x.opn\/x.opn=x'.opn++[some s]):=by
 intro j x' hx'
 unfold TS.fin at hx'
 split at hx'
 ·exact⟨x',hx',rfl,rfl,.inl rfl⟩
 ·rename_i y hy
  split at hx'
  ·exact⟨x',hx',rfl,rfl,.inl rfl⟩
  ·rename_i x hx
   split at hx'
   ·rename_i hf
    simp only[finB,Bool.and_eq_true,decide_eq_true_eq] at hf
    obtain⟨x3,hx3,e3⟩:=upT_inv hx'
    obtain⟨x2,hx2,e2⟩:=upT_inv hx3
    obtain⟨x1,hx1,e1⟩:=upT_inv hx2
    have hx1:t.tks[j]?=some x1:=hx1
    have hd:y.ow=j->x1.opn=x1.opn.dropLast++[some s]:=fun e=>by
     rw[e,hx1] at hx;cases hx
     obtain⟨l,hl⟩:=List.getLast?_eq_some_iff.1 hf.1.2
     rw[hl];simp
    refine⟨x1,hx1,?_⟩
    rcases e1 with⟨r1,rfl⟩ | ⟨r1,rfl⟩<;>rcases e2 with⟨r2,rfl⟩ | ⟨r2,rfl⟩<;>rcases e3 with⟨r3,rfl⟩ | ⟨r3,rfl⟩<;>first | exact absurd r1 r2 | exact absurd r2 r1 | exact absurd r1 r3 | exact absurd r3 r1 | skip
    ·exact⟨rfl,rfl,.inr (hd r1)⟩
    ·exact⟨rfl,rfl,.inl rfl⟩
   ·exact⟨x',hx',rfl,rfl,.inl rfl⟩
theorem fin_cases{s:Nat}(t:TS):((t.fin s).2=[]/\(t.fin s).1=t)\/(∃ e,(t.fin s).2=[e]/\e.kind=3/\(∃ y,t.scs[s]?=some y/\y.live<=0)/\∃ y',(t.fin s).1.scs[s]?=some y'/\y'.ov=true):=by
 unfold TS.fin
 split
 ·exact .inl ⟨rfl,rfl⟩
 ·rename_i y hy
  split
  ·exact .inl ⟨rfl,rfl⟩
  ·rename_i x hx
   split
   ·rename_i hf
    simp only[finB,Bool.and_eq_true,decide_eq_true_eq] at hf
    exact .inr ⟨_,rfl,rfl,⟨y,hy,hf.2⟩,{ y with ov:=true },by
     show (t.upS s fun y=>{ y with ov:=true }).scs[s]?=_
     rw[upS_at hy],rfl⟩
   ·exact .inl ⟨rfl,rfl⟩
end
section
variable {x:GS} {t':TS} {c c':Nat}
theorem strikes_over{x:GS}(ok:TOk c x.t)(W:WI none x.t)(J:WJ x.t){s:Nat}{y:Sc}(hy:x.t.scs[s]?=some y)(hov:y.ov=true)(m:Int):m∉toldL (x.strikes ((s+1:Nat):Int)).2:=fun h=>by
 obtain⟨h1,h2⟩:=(strikes_tl ok W J ((s+1:Nat):Int)).told m h
 have key:∀ {z:GS},z.t=x.t->z.tm=x.tm->(z.sm=x.sm\/z.sm=x.sm++[((s+1:Nat):Int)])->z.pend m=true->False:=fun {z} e1 e2 e3 hz=>by
  obtain⟨k,w,rfl,hw,he⟩:=pend_iff hz
  rw[e1] at hw
  have hc:=chain_run' hw he
  rw[GS.pend,e1,e2,hc] at hz
  rw[GS.pend,hc] at h1
  rcases e3 with e3 | e3
  ·rw[e3] at hz;rw[hz] at h1;cases h1
  ·rw[e3] at hz
   exact over_out ok W J hw he hy hov (pendL_newS hz h1)
 unfold GS.strikes GS.strike at h2
 split at h2
 ·exact key rfl rfl (.inl rfl) h2
 ·exact key (z:=x.mark ((s+1:Nat):Int) false) rfl rfl (.inr rfl) h2
end
end Go.Proofs.Ytlonjogfeidgfaa.gr
namespace Go.Proofs.Ytlonjogfeidgfaa.gr
open Go Go.Ev Go.Proofs.Ytlonjogfeidgfaa.tr
set_option linter.unusedVariables false
set_option linter.constructorNameAsVariable false
section
variable {t:TS} {c k:Nat}
theorem fail_kinds(n fk:Int)(ft:ByteArray):∀ e,e∈(t.fail n fk ft).2.1->e.kind=1/\e.n<=t.scs.length:=by
 intro e he
 unfold TS.fail at he
 split at he
 ·cases he
 ·rename_i s _ hq
  obtain⟨_,h1,h2⟩:=scope_some hq
  split at he
  ·cases he
  ·split at he
   ·cases he
   ·split at he
    ·simp only at he
     split at he
     ·rw[List.mem_singleton] at he;subst he
      refine⟨rfl,?_⟩
      show n<=_
      omega
     ·cases he
    ·cases he
theorem no_left{l:List Ef}(h:∀ e,e∈l->e.kind≠3):leftL l=false:=by
 induction l with
 | nil=>rfl
 | cons e l ih=>rw[leftL,decide_eq_false (h e (List.mem_cons_self ..)),ih fun e' h'=>h e' (List.mem_cons_of_mem _ h')];rfl
theorem turned_no{x:GS}:∀ (l:List Ef),(∀ e,e∈l->e.kind≠1)->x.turned l=(x,l)
 | [],_=>rfl
 | e::l,h=>by
  rw[GS.turned,if_neg (h e (List.mem_cons_self ..)),turned_no l fun e' h'=>h e' (List.mem_cons_of_mem _ h')]
theorem toldL_no:∀ {l:List Ef},(∀ e,e∈l->e.kind≠2)->toldL l=[]
 | [],_=>rfl
 | e::l,h=>by rw[toldL,if_neg (h e (List.mem_cons_self ..)),toldL_no fun e' h'=>h e' (List.mem_cons_of_mem _ h')]
structure EfOk(x:GS)(r:TS×List Ef×Int)(e:Option Nat):Prop where
 cs:Cs x.t r.1
 kinds:∀ e,e∈r.2.1->e.kind≠2/\(e.kind=1->e.n<=x.t.scs.length)
 fn:Fn x.t r.1
 fs:leftL r.2.1=false->Fs e x.t r.1
 left:WI none r.1->WJ r.1->(∃ c,TOk c r.1)->leftL r.2.1=true->∀ m,m∉toldL (({ x with t:=r.1 }:GS).turned r.2.1).2
 err:∀ j,e=some j->r.2.2=0
theorem EfOk.none'{x:GS}{i:Int}{e:Option Nat}(he:∀ j,e=some j->i=0):EfOk x (x.t,[],i) e :=
 ⟨.refl _,fun e h=>(by cases h),fun j y hy _=>⟨y,hy,.inl rfl⟩,fun _ j y hy hen=>.inr ⟨y,hy,hen,rfl⟩,fun _ _ _ h=>(by cases h),he⟩
theorem fail_ok(x:GS)(n fk:Int)(ft:ByteArray):EfOk x (x.t.fail n fk ft) none :=
 ⟨cs_fail n fk ft,fun e h=>(let ⟨h1,h2⟩:=fail_kinds n fk ft e h;⟨by omega,fun _=>h2⟩),fn_tks (fail_tks _ _ _ _),fun _=>fs_tks (fail_tks _ _ _ _),fun _ _ _ h=>(by
  rw[no_left fun e h=>(by
   have:=(fail_kinds n fk ft e h).1
   omega)] at h
  cases h),fun j h=>(by cases h)⟩
theorem leave1_tks{s:Nat}{fk:Int}{ft:ByteArray}:∀ (j:Nat) x',(t.leave1 k s fk ft).tks[j]?=some x'->∃ x,t.tks[j]?=some x/\x'.en=x.en/\x'.opn=x.opn:=by
 intro j x' hx'
 unfold TS.leave1 at hx'
 obtain⟨x2,hx2,e2⟩:=upT_inv hx'
 obtain⟨x1,hx1,e1⟩:=upT_inv hx2
 rw[blame_tks] at hx1
 refine⟨x1,hx1,?_⟩
 rcases e1 with⟨_,rfl⟩ | ⟨_,rfl⟩<;>rcases e2 with⟨_,rfl⟩ | ⟨_,rfl⟩<;>exact⟨rfl,rfl⟩
theorem leave1_len{s:Nat}{fk:Int}{ft:ByteArray}:(t.leave1 k s fk ft).tks.length=t.tks.length:=by
 unfold TS.leave1;rw[upT_len,upT_len,blame_tks]
theorem liveE_kinds(s:Nat)(fk:Int)(y:Sc):∀ e,e∈liveE s fk y->e.kind=1/\e.n=((s+1:Nat):Int):=fun e h=>by
 unfold liveE at h
 split at h
 ·rw[List.mem_singleton] at h;subst h;exact⟨rfl,rfl⟩
 ·cases h
theorem leave_ok(x:GS)(ok:TOk c x.t)(W:WI none x.t)(n fk:Int)(ft:ByteArray):EfOk x (x.t.leave n fk ft) none:=by
 unfold TS.leave
 split
 ·exact .none' fun j h=>by cases h
 ·rename_i k e' hq
  obtain⟨_,_,w,hx,he⟩:=runs_some hq
  split
  ·exact .none' fun j h=>by cases h
  ·rw[hx]
   simp only
   split
   ·rename_i s hl hg
    split
    ·rename_i y hy
     have W1:=W.leave1 hx he hg hy fk ft
     have hs:=gT hy
     have C:Cs x.t ((x.t.leave1 k s fk ft).fin s).1:=(cs_leave1 s fk ft).trans (cs_fin W1 s)
     have F:Fn x.t ((x.t.leave1 k s fk ft).fin s).1:=fun j x' hx' hen=>by
      obtain⟨x1,h1,h2,_,h3⟩:=fin_tks j x' hx'
      obtain⟨x0,h4,h5,h6⟩:=leave1_tks j x1 h1
      rw[h6] at h3
      exact⟨x0,h4,h3.elim .inl fun h=>.inr ⟨s,h⟩⟩
     rcases fin_cases (s:=s) (x.t.leave1 k s fk ft) with⟨g1,g2⟩ | ⟨e,g1,g2,⟨y1,g3,g4⟩,y2,g5,g6⟩
     ·rw[g2] at C F
      rw[g1,g2,List.append_nil]
      refine⟨C,fun e h=>?_,F,fun _ j z hz hen=>?_,fun _ _ _ h=>?_,fun j h=>by cases h⟩
      ·obtain⟨h1,h2⟩:=liveE_kinds s fk y e h
       exact⟨by omega,fun _=>by omega⟩
      ·obtain⟨z',hz'⟩:∃ z',(x.t.leave1 k s fk ft).tks[j]?=some z':=⟨_,List.getElem?_eq_getElem (by rw[leave1_len];exact gT hz)⟩
       obtain⟨z0,h4,h5,h6⟩:=leave1_tks j z' hz'
       rw[hz] at h4;cases h4
       exact .inr ⟨z',hz',by rw[h5];exact hen,h6⟩
      ·rw[no_left fun e h=>by
        have:=(liveE_kinds s fk y e h).1
        omega] at h
       cases h
     ·
      obtain⟨yb,hyb,hlive,_⟩:=blame_get (s:=s) (fk:=fk) (ft:=ft) hy
      have hlv:¬ (fk≠0/\0<y.live):=fun h=>by
       have h9:(x.t.leave1 k s fk ft).scs[s]?=some yb:=hyb
       rw[g3] at h9;cases h9
       omega
      have hE:liveE s fk y=[]:=by unfold liveE;rw[if_neg hlv]
      rw[hE,List.nil_append,g1]
      refine⟨C,fun e' h=>?_,F,fun h=>?_,fun _ _ _ _=>?_,fun j h=>by cases h⟩
      ·rw[List.mem_singleton] at h;subst h;exact⟨by omega,fun h=>by omega⟩
      ·simp[leftL,g2] at h
      ·intro m
       rw[turned_no _ fun e' h=>by rw[List.mem_singleton] at h;subst h;omega]
       rw[toldL_no fun e' h=>by rw[List.mem_singleton] at h;subst h;omega]
       intro h;cases h
    ·exact .none' fun j h=>by cases h
   ·exact .none' fun j h=>by cases h
theorem end1_tks{fk:Int}{ft:ByteArray}:∀ (j:Nat) x',(t.end1 k fk ft).tks[j]?=some x'->∃ x,t.tks[j]?=some x/\x'.opn=x.opn/\((k=j/\x'.en=true)\/(k≠j/\x'.en=x.en)):=by
 intro j x' hx'
 unfold TS.end1 at hx'
 obtain⟨x2,hx2,e2⟩:=upT_inv hx'
 obtain⟨x1,hx1,e1⟩:=upT_inv hx2
 refine⟨x1,hx1,?_⟩
 rcases e1 with⟨r1,rfl⟩ | ⟨r1,rfl⟩<;>rcases e2 with⟨r2,rfl⟩ | ⟨r2,rfl⟩
 ·exact⟨rfl,.inl ⟨r1,rfl⟩⟩
 ·exact absurd r1 r2
 ·exact absurd r2 r1
 ·exact⟨rfl,.inr ⟨r1,rfl⟩⟩
theorem end3_tk{s:Nat}{y:Sc}{fk:Int}{ft:ByteArray}:(t.end3 k s y fk ft).1.tks=(t.end1 k fk ft).tks:=by
 unfold TS.end3;split
 ·rfl
 ·rw[blame_tks];rfl
theorem end1_len{fk:Int}{ft:ByteArray}:(t.end1 k fk ft).tks.length=t.tks.length:=by
 unfold TS.end1;rw[upT_len,upT_len]
theorem saidE_kinds(s:Nat)(b:Bool):∀ e,e∈saidE s b->e.kind=1/\e.n=((s+1:Nat):Int):=fun e h=>by
 unfold saidE at h
 split at h
 ·rw[List.mem_singleton] at h;subst h;exact⟨rfl,rfl⟩
 ·cases h
theorem end_ok(x:GS)(ok:TOk c x.t)(W:WI none x.t)(n fk:Int)(ft:ByteArray):∃ e,EfOk x (x.t.end n fk ft) e/\∀ j:Nat,e=some j->n=((j+1:Nat):Int):=by
 unfold TS.end
 split
 ·exact⟨none,.none' (fun j h=>by cases h),fun j h=>by cases h⟩
 ·rename_i k e' hq
  obtain⟨_,hn,w,hx,he⟩:=runs_some hq
  split
  ·exact⟨none,.none' (fun j h=>by cases h),fun j h=>by cases h⟩
  ·rw[hx]
   simp only
   split
   ·exact⟨none,.none' (fun j h=>by cases h),fun j h=>by cases h⟩
   ·rename_i ho
    have ho':w.opn=[]:=Classical.byContradiction ho
    have FS:∀ {t':TS},t'.tks=(x.t.end1 k fk ft).tks->Fs (some k) x.t t':=fun {t'} h j z hz hen=>by
     obtain⟨z',hz'⟩:∃ z',(x.t.end1 k fk ft).tks[j]?=some z':=⟨_,List.getElem?_eq_getElem (by rw[end1_len];exact gT hz)⟩
     obtain⟨z0,h4,h5,⟨r,h6⟩ | ⟨r,h6⟩⟩:=end1_tks j z' hz'
     ·left
      refine⟨by rw[r],fun x' hx'=>?_⟩
      rw[h,hz'] at hx';cases hx';exact h6
     ·right
      rw[hz] at h4;cases h4
      exact⟨z',by rw[h];exact hz',by rw[h6];exact hen,h5⟩
    refine⟨some k,?_,fun j h=>by cases h;omega⟩
    split
    ·rename_i hi
     refine⟨cs_end1 fk ft,fun e h=>(by cases h),fun j x' hx' _=>?_,fun _=>FS rfl,fun _ _ _ h=>(by cases h),fun _ _=>rfl⟩
     obtain⟨x0,h4,h5,_⟩:=end1_tks j x' hx'
     exact⟨x0,h4,.inl h5⟩
    ·rename_i s hi
     split
     ·rename_i hno
      have:=ok.inn k w s hx hi
      rw[List.getElem?_eq_none_iff] at hno
      omega
     ·rename_i y hy
      have hs:=gT hy
      have W2:=W.end2 ok hx he ho' hi fk ft
      have W3:WI (some s) (x.t.end3 k s y fk ft).1:=by
       unfold TS.end3
       split
       ·exact W2
       ·exact W2.blame _ _ _
      have C:Cs x.t ((x.t.end3 k s y fk ft).1.fin s).1:=(cs_end3 s y fk ft).trans (cs_fin W3 s)
      have F:Fn x.t ((x.t.end3 k s y fk ft).1.fin s).1:=fun j x' hx' hen=>by
       obtain⟨x1,h1,h2,_,h3⟩:=fin_tks j x' hx'
       rw[end3_tk] at h1
       obtain⟨x0,h4,h5,_⟩:=end1_tks j x1 h1
       rw[h5] at h3
       exact⟨x0,h4,h3.elim .inl fun h=>.inr ⟨s,h⟩⟩
      rcases fin_cases (s:=s) (x.t.end3 k s y fk ft).1 with⟨g1,g2⟩ | ⟨e,g1,g2,_,y2,g5,g6⟩
      ·rw[g2] at C F
       rw[g1,g2,List.append_nil]
       refine⟨C,fun e h=>?_,F,fun _=>FS end3_tk,fun _ _ _ h=>?_,fun _ _=>rfl⟩
       ·obtain⟨h1,h2⟩:=saidE_kinds s _ e h
        exact⟨by omega,fun _=>by omega⟩
       ·rw[no_left fun e h=>by
         have:=(saidE_kinds s _ e h).1
         omega] at h
        cases h
      ·refine⟨C,fun e' h=>?_,F,fun h=>?_,fun W' J' ⟨c',ok'⟩ _ m=>?_,fun _ _=>rfl⟩
       ·rw[g1] at h
        rcases List.mem_append.1 h with h | h
        ·obtain⟨h1,h2⟩:=saidE_kinds s _ e' h
         exact⟨by omega,fun _=>by omega⟩
        ·rw[List.mem_singleton] at h;subst h;exact⟨by omega,fun h=>by omega⟩
       ·rw[g1,leftL_app] at h
        simp[leftL,g2] at h
       ·rw[g1]
        unfold saidE
        split
        ·show m∉toldL (GS.turned _ (_::[e])).2
         rw[GS.turned,if_pos rfl,turned_no _ fun e' h=>by rw[List.mem_singleton] at h;subst h;omega]
         rw[toldL_app,toldL_no (l:=[e]) fun e' h=>by rw[List.mem_singleton] at h;subst h;omega,List.append_nil]
         exact strikes_over (x:={ x with t:=((x.t.end3 k s y fk ft).1.fin s).1 }) ok' W' J' g5 g6 m
        ·rw[List.nil_append,turned_no _ fun e' h=>by rw[List.mem_singleton] at h;subst h;omega]
         rw[toldL_no fun e' h=>by rw[List.mem_singleton] at h;subst h;omega]
         intro h;cases h
end
end Go.Proofs.Ytlonjogfeidgfaa.gr
namespace Go.Proofs.Ytlonjogfeidgfaa.gr
open Go Go.Ev Go.Proofs.Ytlonjogfeidgfaa.tr
set_option linter.unusedVariables false
set_option linter.constructorNameAsVariable false
theorem swp_mem{l:List Pr}{a b:Nat}{p:Pr}(h:p∈swp l a b):p∈l:=by
 unfold swp at h
 split at h
 ·rename_i q r hq hr
  rcases List.mem_or_eq_of_mem_set h with h | h
  ·rcases List.mem_or_eq_of_mem_set h with h | h
   ·exact h
   ·rw[h];exact List.mem_of_getElem? hr
  ·rw[h];exact List.mem_of_getElem? hq
 ·exact h
theorem upF_mem:∀ (f j:Nat) {l:List Pr} {p:Pr},p∈upF f j l->p∈l
 | 0,_,_,_,h=>h
 | f+1,0,_,_,h=>h
 | f+1,j+1,l,p,h=>by
  simp only[upF] at h
  split at h
  ·split at h
   ·exact swp_mem (upF_mem f _ h)
   ·exact h
  ·exact h
theorem downF_mem:∀ (f k n:Nat) {l:List Pr} {p:Pr},p∈downF f k n l->p∈l
 | 0,_,_,_,_,h=>h
 | f+1,k,n,l,p,h=>by
  simp only[downF] at h
  split at h
  ·exact h
  ·split at h
   ·split at h
    ·exact swp_mem (downF_mem f _ _ h)
    ·exact h
   ·exact h
theorem popL_mem{l:List Pr}{p:Pr}(h:p∈popL l):p∈l:=swp_mem (downF_mem _ _ _ h)
theorem popped_mem{l:List Pr}{p:Pr}(h:p∈popped l):p∈l:=popL_mem (List.mem_of_mem_take h)
theorem popP_mem{l:List Pr}(h:l≠[]):popP l∈l:=by
 have hl:l.length≠0:=fun e=>h (List.length_eq_zero_iff.1 e)
 obtain⟨p,hp⟩:∃ p,(popL l)[l.length-1]?=some p:=⟨_,List.getElem?_eq_getElem (by rw[popL_len];omega)⟩
 rw[popP,hp]
 exact popL_mem (List.mem_of_getElem? hp)
theorem overF_mem:∀ (f:Nat) (t:TS) {l:List Pr} {p:Pr},p∈overF f t l->p∈l
 | 0,_,_,_,h=>h
 | f+1,t,[],p,h=>h
 | f+1,t,q::l,p,h=>by
  simp only[overF] at h
  split at h
  ·exact popped_mem (overF_mem f t h)
  ·exact h
structure MB(x:GS):Prop where
 tm:∀ n,n∈x.tm->n<=x.t.tks.length
 sm:∀ n,n∈x.sm->n<=x.t.scs.length
 du:∀ p,p∈x.du->p.2<=x.t.scs.length
section
variable {x:GS} {t':TS} {c k:Nat}
theorem MB.tree(M:MB x)(C:Cs x.t t'):MB { x with t:=t' }:=by
 have h1:=C.le
 have h2:=C.scl
 exact⟨fun n h=>by have:=M.tm n h;show n<=(t'.tks.length:Int);omega,fun n h=>by have:=M.sm n h;show n<=(t'.scs.length:Int);omega,fun p h=>by have:=M.du p h;show p.2<=(t'.scs.length:Int);omega⟩
theorem MB.strike(M:MB x){b:Bool}{n:Int}{l:List Int}(h:b=true->n<=x.t.tks.length)(h':b=false->n<=x.t.scs.length):MB (x.strike b n l).1:=by
 unfold GS.strike
 split
 ·exact M
 ·cases b with
  | true =>
   exact⟨fun m hm=>(List.mem_append.1 hm).elim (M.tm m) fun e=>by rw[List.mem_singleton.1 e];exact h rfl,M.sm,M.du⟩
  | false =>
   exact⟨M.tm,fun m hm=>(List.mem_append.1 hm).elim (M.sm m) fun e=>by rw[List.mem_singleton.1 e];exact h' rfl,M.du⟩
theorem MB.strikes(M:MB x){n:Int}(h:n<=x.t.scs.length):MB (x.strikes n).1:=M.strike (by simp) fun _=>h
theorem MB.turned:∀ (l:List Ef) {x:GS},MB x->(∀ e,e∈l->e.kind=1->e.n<=x.t.scs.length)->MB (x.turned l).1
 | [],x,M,h=>M
 | e::l,x,M,h=>by
  rw[GS.turned];split
  ·rename_i hk
   have ht:(x.strikes e.n).1.t=x.t:=strike_t _ _ _ _
   exact MB.turned l (M.strikes (h e (List.mem_cons_self ..) hk)) fun e' h1 h2=>by rw[ht];exact h e' (List.mem_cons_of_mem _ h1) h2
  ·exact MB.turned l M fun e' h1 h2=>h e' (List.mem_cons_of_mem _ h1) h2
theorem MB.after(M:MB x){r:TS×List Ef×Int}{e:Option Nat}(o:EfOk x r e):MB (x.after r).1 :=
 MB.turned r.2.1 (M.tree o.cs) fun e h1 h2=>by
  have h3:=(o.kinds e h1).2 h2
  have h4:=o.cs.scl
  show e.n<=(r.1.scs.length:Int)
  omega
theorem MB.over(M:MB x):MB x.over:=⟨M.tm,M.sm,fun p h=>M.du p (overF_mem _ _ h)⟩
theorem MB.late(M:MB x)(h:x.du≠[]):MB x.lateF.1:=by
 have M1:MB x.pop:=⟨M.tm,M.sm,fun p h=>M.du p (popped_mem h)⟩
 exact M1.after (fail_ok x.pop (popP x.du).2 1 c13p.late)
theorem MB.come(M:MB x)(h:x.du≠[]):MB x.come.1:=by
 refine (M.late h).strikes ?_
 rw[late_t]
 have h1:=M.du _ (popP_mem h)
 have h2:=(cs_fail (t:=x.t) (popP x.du).2 1 c13p.late).scl
 omega
theorem MB.expF:∀ (f:Nat) {x:GS} (now:Int),MB x->MB (expF f x now).1
 | 0,x,now,M=>M
 | f+1,x,now,M=>by
  unfold gr.expF;split
  ·exact M
  ·rename_i p r e
   split
   ·exact MB.expF f now (M.come (by rw[e];simp)).over
   ·exact M
theorem open_num{t:TS}(n:Int)(su:Bool):(t.open n su).2.2=0->(t.open n su).2.1<=(t.open n su).1.scs.length:=by
 unfold TS.open
 split
 ·rename_i e hq
  intro h
  simp only at h
  subst h
  exact absurd hq (by
   unfold TS.acts TS.runs
   intro h
   split at h
   ·rename_i q
    split at h
    ·split at h<;>simp at h
    ·simp at h
   ·rename_i q
    simp only[Prod.mk.injEq,true_and] at h
    subst h
    split at q
    ·simp at q
    ·split at q
     ·split at q<;>simp at q
     ·simp at q)
 ·split
  ·intro h;simp at h
  ·intro _
   show ((t.scs.length+1:Nat):Int)<=((t.openF _ su).scs.length:Int)
   simp[TS.openF,TS.newS,TS.upT]
theorem MB.open(M:MB x)(n:Int)(su:Bool)(u:Int):MB (x.open n su u):=by
 have M1:=M.tree (cs_open n su)
 unfold GS.open;split
 ·rename_i h
  refine⟨M1.tm,M1.sm,fun p hp=>?_⟩
  rcases List.mem_append.1 (upF_mem _ _ hp) with h1 | h1
  ·exact M1.du p h1
  ·rw[List.mem_singleton.1 h1];exact open_num n su h.1
 ·exact M1
theorem chain_ok_run{t:TS}{n:Int}(h:(t.chain n).2=0):∃ (k:Nat) (y:Tk),n=((k+1:Nat):Int)/\t.tks[k]?=some y/\y.en=false:=by
 unfold TS.chain at h
 split at h
 ·rename_i e hq
  have:=runs_none hq
  simp only at h
  omega
 ·rename_i k e hq
  obtain⟨_,h1,y,hy,he⟩:=runs_some hq
  exact⟨k,y,by omega,hy,he⟩
theorem MB.strikeT(M:MB x)(n:Int):MB (x.strikeT n).1:=by
 unfold GS.strikeT
 split
 ·exact M
 ·rename_i h
  have h0:(x.t.chain n).2=0:=Classical.byContradiction h
  obtain⟨k,y,rfl,hy,_⟩:=chain_ok_run h0
  have:=gT hy
  exact M.strike (fun _=>by omega) (by simp)
theorem MB.run(M:MB x)(ok:TOk c x.t)(W:WI none x.t)(o:OpV):MB (x.run o).1:=by
 unfold GS.run
 repeat' split
 ·exact M.open _ _ _
 ·exact M.tree (cs_spawn _)
 ·obtain⟨e,h,_⟩:=end_ok x ok W o.n o.fk o.ft
  exact M.after h
 ·exact M.after (leave_ok x ok W o.n o.fk o.ft)
 ·exact M.tree (cs_shield _)
 ·exact M.tree (cs_unveil _)
 ·exact M.after (fail_ok x o.n o.fk o.ft)
 ·exact M.tree cs_root
 ·exact M.strikeT _
 ·exact MB.expF _ _ M.over
 ·exact M
theorem MB.roots(n:Nat):MB (GS.roots n):=⟨fun _ h=>(by cases h),fun _ h=>(by cases h),fun _ h=>(by cases h)⟩
theorem MB.runL{n:Nat}(hn:n<=64):∀ (l:List OpV),MB ((GS.roots n).runL l):=by
 intro l
 suffices H:∀ (l:List OpV) (x:GS) (k:Nat),GOk k x->MB x->MB (x.runL l) from H l _ n (GOk.roots hn) (MB.roots n)
 intro l
 induction l with
 | nil=>intro x k _ M;exact M
 | cons o l ih =>
  intro x k ok M
  obtain⟨c,a,b,d,e⟩:=id ok
  exact ih _ _ (ok.run o) (M.run a b o)
theorem acts_zero{t:TS}{n e:Int}(h:t.acts n=(none,e)):e≠0:=by
 unfold TS.acts TS.runs at h
 intro h0
 subst h0
 split at h
 ·rename_i q
  split at h
  ·split at h<;>simp at h
  ·simp at h
 ·rename_i q
  simp only[Prod.mk.injEq,true_and] at h
  subst h
  split at q
  ·simp at q
  ·split at q
   ·split at q<;>simp at q
   ·simp at q
end
end Go.Proofs.Ytlonjogfeidgfaa.gr
namespace Go.Proofs.Ytlonjogfeidgfaa.gr
open Go Go.Ev Go.Proofs.Ytlonjogfeidgfaa.tr
set_option maxRecDepth 100000
set_option linter.unusedVariables false
set_option linter.constructorNameAsVariable false
theorem chunks{α:Type}(f:α->List Value){z:Nat}(hz:∀ x,(f x).length=z):∀ (n:Nat) (c:List Value),c.length=n*z->(∀ k,k<n->∃ x,(c.drop (k*z)).take z=f x) ->
  ∃ l:List α,l.length=n/\c=l.flatMap f/\∀ k x,l[k]?=some x->(c.drop (k*z)).take z=f x
 | 0,c,hl,_=>⟨[],rfl,List.length_eq_zero_iff.1 (by simpa using hl),fun k x h=>by simp at h⟩
 | n+1,c,hl,hc=>by
  have hs:(n+1)*z=n*z+z:=by rw[Nat.add_mul,Nat.one_mul]
  obtain⟨x,hx⟩:=hc 0 (by omega)
  obtain⟨l,h1,h2,h3⟩:=chunks f hz n (c.drop z) (by rw[List.length_drop,hl,hs];omega) (fun k hk=>by
   obtain⟨y,hy⟩:=hc (k+1) (by omega)
   refine⟨y,?_⟩
   rw[List.drop_drop,<- hy,Nat.add_mul,Nat.one_mul,Nat.add_comm])
  refine⟨x::l,by simp[h1],?_,fun k y hy=>?_⟩
  ·rw[List.flatMap_cons,<- h2,<- hx,Nat.zero_mul,List.drop_zero,List.take_append_drop]
  ·cases k with
   | zero=>simp at hy;subst hy;exact hx
   | succ k =>
    have:=h3 k y (by simpa using hy)
    rw[List.drop_drop,Nat.add_comm z] at this
    rw[Nat.add_mul,Nat.one_mul];exact this
theorem opC_flat:∀ l:List OpV,l.flatMap OpV.cells=opC l
 | []=>rfl
 | x::l=>by rw[List.flatMap_cons,opC_flat l];rfl
section
variable {h:Hp} {F:Nat}
theorem c3:Try.prog.cellsOf 3=1:=by kernel_rfl
theorem c4:Try.prog.cellsOf 4=1:=by kernel_rfl
theorem c9:Try.prog.cellsOf 9=1:=by kernel_rfl
theorem c29:Try.prog.cellsOf 29=2:=by kernel_rfl
theorem c31:Try.prog.cellsOf 31=6:=by kernel_rfl
theorem u3:Try.prog.underlying 3=some (.int .i64):=by kernel_rfl
theorem u4:Try.prog.underlying 4=some .bool:=by kernel_rfl
theorem u9:Try.prog.underlying 9=some .string:=by kernel_rfl
theorem u22:Try.prog.underlying 22=some (.slice 31):=by kernel_rfl
theorem op_cells{cs:List Value}(hc:ATyped Try.prog h F 31 cs):∃ x:OpV,cs=x.cells:=by
 obtain⟨G,rfl,hl,hf⟩:=hc.asStruct Try.underlying31
 rw[c31] at hl
 match cs,hl with
 | [a,b,m,c,d,e],_ =>
  simp only[List.forall_mem_cons,c3,c4,c29] at hf
  obtain⟨k,h1,_⟩:=hf.1.asInt u3
  obtain⟨n,h2,_⟩:=hf.2.1.asInt u3
  obtain⟨m,h6,_⟩:=hf.2.2.1.asInt u3
  obtain⟨t,h3⟩:=hf.2.2.2.1.asBool u4
  obtain⟨G,rfl,hl,hg⟩:=hf.2.2.2.2.1.asStruct Try.underlying29
  simp only[List.forall_mem_cons,c3,c9] at hg
  obtain⟨f,h4,_⟩:=hg.1.asInt u3
  obtain⟨s,h5,_⟩:=hg.2.1.asString u9
  simp at h1 h2 h3 h4 h5 h6
  subst h1;subst h2;subst h3;subst h4;subst h5;subst h6
  exact⟨⟨k,n,m,t,f,s⟩,rfl⟩
theorem ops_arg{a:Value}(ht:ArgTyped Try.prog h F 22 a):∃ l:List OpV,OpsAt h a l:=by
 obtain⟨G,rfl,rfl | ⟨i,len,c,rfl,hi,hl,_,hk⟩⟩:=ht.asSlice u22
 ·exact⟨[],.inl ⟨rfl,rfl⟩⟩
 ·rw[c31] at hl hk
  obtain⟨l,h1,h2,_⟩:=chunks OpV.cells (z:=6) (fun _=>rfl) len c hl (fun k hlt=>op_cells (hk k hlt))
  rw[opC_flat] at h2
  exact⟨l,.inr ⟨i,false,by rw[c31,h1],by rw[<- h2];exact hi⟩⟩
end
end Go.Proofs.Ytlonjogfeidgfaa.gr
namespace Go.Proofs.Ytlonjogfeidgfaa.gr
open Go Go.Ev Go.Proofs.Ytlonjogfeidgfaa.tr
set_option linter.unusedVariables false
set_option linter.constructorNameAsVariable false
def Ch(i j:Nat):Prop:=j=2*i+1\/j=2*i+2
theorem swp_at{l:List Pr}{a b:Nat}{p q:Pr}(ha:l[a]?=some p)(hb:l[b]?=some q)(k:Nat):(swp l a b)[k]?=if k=b then some p else if k=a then some q else l[k]?:=by
 have la:=gT ha
 have lb:=gT hb
 simp only[swp,ha,hb]
 by_cases h1:k=b
 ·subst h1
  rw[if_pos rfl,List.getElem?_set_self (by simpa using lb)]
 ·rw[if_neg h1,List.getElem?_set_ne (Ne.symm h1)]
  by_cases h2:k=a
  ·subst h2
   rw[if_pos rfl,List.getElem?_set_self la]
  ·rw[if_neg h2,List.getElem?_set_ne (Ne.symm h2)]
section
variable {x:GS} {k:Nat}
theorem after_du(x:GS)(r:TS×List Ef×Int):(x.after r).1.du=x.du:=turned_du _ _
theorem overF_end:∀ (f:Nat) (t:TS) (l:List Pr),l.length<=f->overF f t l=[]\/∃ p r,overF f t l=p::r/\(t.sco p.2).1.ov=false
 | 0,t,l,h=>.inl (by have:l=[]:=List.length_eq_zero_iff.1 (by omega);rw[this];rfl)
 | f+1,t,[],h=>.inl rfl
 | f+1,t,p::l,h=>by
  simp only[overF]
  split
  ·exact overF_end f t _ (by rw[popped_len];simp at h ⊢;omega)
  ·rename_i hn
   exact .inr ⟨p,l,rfl,Bool.eq_false_iff.2 hn⟩
theorem over_over(x:GS):x.over.over=x.over:=by
 have e:overF x.over.du.length x.t x.over.du=x.over.du:=by
  rcases overF_end x.du.length x.t x.du (Nat.le_refl _) with h | ⟨p,r,h,hv⟩
  ·have h:x.over.du=[]:=h
   rw[h];rfl
  ·have h:x.over.du=p::r:=h
   rw[h,List.length_cons,overF,hv];rfl
 show { x.over with du:=overF x.over.du.length x.t x.over.du }=x.over
 rw[e]
end
end Go.Proofs.Ytlonjogfeidgfaa.gr
namespace Go.Proofs.Ytlonjogfeidgfaa.gr
open Go Go.Ev Go.Proofs.Ytlonjogfeidgfaa.tr
set_option linter.unusedVariables false
set_option linter.constructorNameAsVariable false
def leP(p q:Pr):Prop:=lessP q p=false
theorem leP_iff{p q:Pr}:leP p q↔p.1<q.1\/(p.1=q.1/\p.2<=q.2):=by
 unfold leP lessP
 split
 ·simp only[decide_eq_false_iff_not];omega
 ·simp only[decide_eq_false_iff_not];omega
theorem leP_refl(p:Pr):leP p p:=by rw[leP_iff];omega
theorem leP_trans{p q r:Pr}(h:leP p q)(h':leP q r):leP p r:=by rw[leP_iff] at *;omega
theorem leP_anti{p q:Pr}(h:leP p q)(h':leP q p):p=q:=by
 rw[leP_iff] at *
 exact Prod.ext (by omega) (by omega)
theorem less_leP{p q:Pr}(h:lessP p q=true):leP p q:=by
 rw[leP_iff]
 unfold lessP at h;split at h
 ·have:=of_decide_eq_true h;omega
 ·have:=of_decide_eq_true h;omega
def HXn(n:Nat)(l:List Pr):Prop:=∀ i j p q,Ch i j->j<n->l[i]?=some p->l[j]?=some q->leP p q
def HX(l:List Pr):Prop:=HXn l.length l
theorem hx_root{l:List Pr}(H:HX l){p:Pr}(h0:l[0]?=some p):∀ (j:Nat) (q:Pr),l[j]?=some q->leP p q:=by
 intro j
 induction j using Nat.strongRecOn with
 | ind j ih =>
  intro q hq
  by_cases hj:j=0
  ·subst hj;rw[h0] at hq;cases hq;exact leP_refl _
  ·have hl:=gT hq
   obtain⟨r,hr⟩:∃ r,l[(j-1) / 2]?=some r:=⟨_,List.getElem?_eq_getElem (by omega)⟩
   exact leP_trans (ih ((j-1) / 2) (by omega) r hr) (H ((j-1) / 2) j r q (by unfold Ch;omega) hl hr hq)
theorem hx_min{l r:List Pr}{p:Pr}(H:HX l)(e:l=p::r):∀ q,q∈l->leP p q:=fun q hq=>by
 obtain⟨j,hj⟩:=List.getElem?_of_mem hq
 exact hx_root H (by rw[e];rfl) j q hj
def UpX(j:Nat)(l:List Pr):Prop :=
 (∀ i k p q,Ch i k->k≠j->l[i]?=some p->l[k]?=some q->leP p q)/\(∀ i k p q,Ch i j->Ch j k->l[i]?=some p->l[k]?=some q->leP p q)
theorem upF_hx:∀ (f j:Nat) (l:List Pr),j<f->UpX j l->HX (upF f j l)
 | 0,j,l,h,_=>by omega
 | f+1,0,l,h,U=>fun i k p q c hk hp hq=>U.1 i k p q c (by unfold Ch at c;omega) hp hq
 | f+1,j+1,l,h,U=>by
  obtain⟨U1,U2⟩:=U
  simp only[upF]
  have stop:(∀ p q,l[j / 2]?=some p->l[j+1]?=some q->leP p q)->HX l:=fun hs i k p q c hk hp hq=>by
   by_cases e:k=j+1
   ·subst e
    have:i=j / 2:=by unfold Ch at c;omega
    subst this
    exact hs p q hp hq
   ·exact U1 i k p q c e hp hq
  split
  ·rename_i p q hp hq
   split
   ·rename_i hl
    have hle:=less_leP hl
    refine upF_hx f (j / 2) _ (by omega) ⟨fun i k a b c hne ha hb=>?_,fun i k a b c1 c2 ha hb=>?_⟩
    ·rw[swp_at hq hp] at ha hb
     by_cases k1:k=j+1
     ·rw[if_pos k1] at hb;cases hb
      have:i=j / 2:=by unfold Ch at c;omega
      rw[if_neg (by omega),if_pos this] at ha;cases ha
      exact hle
     ·rw[if_neg k1,if_neg hne] at hb
      by_cases i1:i=j+1
      ·rw[if_pos i1] at ha;cases ha
       exact U2 (j / 2) k _ _ (by unfold Ch;omega) (by rw[<- i1];exact c) hq hb
      ·rw[if_neg i1] at ha
       by_cases i2:i=j / 2
       ·rw[if_pos i2] at ha;cases ha
        exact leP_trans hle (U1 (j / 2) k q b (by rw[<- i2];exact c) k1 hq hb)
       ·rw[if_neg i2] at ha
        exact U1 i k a b c k1 ha hb
    ·rw[swp_at hq hp] at ha hb
     have hi:i<j / 2:=by unfold Ch at c1;omega
     rw[if_neg (by omega),if_neg (by omega)] at ha
     have h1:=U1 i (j / 2) a q c1 (by omega) ha hq
     by_cases k1:k=j+1
     ·rw[if_pos k1] at hb;cases hb
      exact h1
     ·rw[if_neg k1,if_neg (by unfold Ch at c2;omega)] at hb
      exact leP_trans h1 (U1 (j / 2) k q b c2 k1 hq hb)
   ·rename_i hl
    exact stop fun a b ha hb=>by rw[hq] at ha;rw[hp] at hb;cases ha;cases hb;exact hl
  ·rename_i hno
   exact stop fun a b ha hb=>(hno b a hb ha).elim
theorem hx_push{l:List Pr}(H:HX l)(p:Pr):HX (upF (l.length+1) l.length (l++[p])):=by
 refine upF_hx _ _ _ (by omega) ⟨fun i k a b c hne ha hb=>?_,fun i k a b c1 c2 ha hb=>?_⟩
 ·have hk:=gT hb
  rw[List.length_append,List.length_singleton] at hk
  have hi:i<k:=by unfold Ch at c;omega
  rw[List.getElem?_append_left (by omega)] at ha hb
  exact H i k a b c (by omega) ha hb
 ·have hk:=gT hb
  rw[List.length_append,List.length_singleton] at hk
  unfold Ch at c2;omega
def DnX(n k:Nat)(l:List Pr):Prop :=
 (∀ i j p q,Ch i j->j<n->i≠k->l[i]?=some p->l[j]?=some q->leP p q)/\(∀ i j p q,Ch i k->Ch k j->j<n->l[i]?=some p->l[j]?=some q->leP p q)
theorem dnC_minX{l:List Pr}{n k:Nat}(hn:n<=l.length)(hk:2*k+1<n) :
  Ch k (dnC l n (2*k+1))/\dnC l n (2*k+1)<n/\∀ j p q,Ch k j->j<n->l[dnC l n (2*k+1)]?=some p->l[j]?=some q->leP p q:=by
 obtain⟨a,ha⟩:∃ a,l[2*k+1]?=some a:=⟨_,List.getElem?_eq_getElem (by omega)⟩
 unfold dnC
 by_cases h1:2*k+1+1<n
 ·obtain⟨b,hb⟩:∃ b,l[2*k+1+1]?=some b:=⟨_,List.getElem?_eq_getElem (by omega)⟩
  rw[if_pos h1]
  simp only[hb,ha]
  cases hl:lessP b a with
  | true =>
   have hle:=less_leP hl
   simp only[if_true]
   refine⟨.inr rfl,h1,fun j p q c hj hp hq=>?_⟩
   rw[hb] at hp;cases hp
   rcases c with rfl | rfl
   ·rw[ha] at hq;cases hq;exact hle
   ·rw[hb] at hq;cases hq;exact leP_refl _
  | false =>
   simp only[Bool.false_eq_true,if_false]
   refine⟨.inl rfl,by omega,fun j p q c hj hp hq=>?_⟩
   rw[ha] at hp;cases hp
   rcases c with rfl | rfl
   ·rw[ha] at hq;cases hq;exact leP_refl _
   ·rw[hb] at hq;cases hq;exact hl
 ·rw[if_neg h1]
  refine⟨.inl rfl,hk,fun j p q c hj hp hq=>?_⟩
  rcases c with rfl | rfl
  ·rw[hp] at hq;cases hq;exact leP_refl _
  ·omega
theorem downF_hx:∀ (f k n:Nat) (l:List Pr),n<=l.length->n-k<=f->DnX n k l->HXn n (downF f k n l)
 | 0,k,n,l,hn,h,D=>fun i j p q c hj hp hq=>by
  by_cases e:i=k
  ·subst e;unfold Ch at c;omega
  ·exact D.1 i j p q c hj e hp hq
 | f+1,k,n,l,hn,h,D=>by
  obtain⟨D1,D2⟩:=D
  simp only[downF]
  split
  ·rename_i hend
   exact fun i j p q c hj hp hq=>by
    by_cases e:i=k
    ·subst e;unfold Ch at c;omega
    ·exact D1 i j p q c hj e hp hq
  ·rename_i hend
   obtain⟨C1,C2,C3⟩:=dnC_minX hn (k:=k) (by omega)
   generalize dnC l n (2*k+1)=d at C1 C2 C3 ⊢
   have stop:(∀ p q,l[k]?=some p->l[d]?=some q->leP p q)->HXn n l:=fun hs i j p q c hj hp hq=>by
    by_cases e:i=k
    ·subst e
     obtain⟨a,ha⟩:∃ a,l[d]?=some a:=⟨_,List.getElem?_eq_getElem (by omega)⟩
     exact leP_trans (hs p a hp ha) (C3 j a q c hj ha hq)
    ·exact D1 i j p q c hj e hp hq
   split
   ·rename_i p q hp hq
    split
    ·rename_i hl
     have hle:=less_leP hl
     have hkd:k<d:=by unfold Ch at C1;omega
     refine downF_hx f d n _ (by rw[swp_len];exact hn) (by omega) ⟨fun i j a b c hj hne ha hb=>?_,fun i j a b c1 c2 hj ha hb=>?_⟩
     ·rw[swp_at hq hp] at ha hb
      rw[if_neg hne] at ha
      by_cases i1:i=k
      ·rw[if_pos i1] at ha;cases ha
       by_cases j1:j=d
       ·rw[if_pos j1] at hb;cases hb
        exact hle
       ·rw[if_neg j1,if_neg (by unfold Ch at c;omega)] at hb
        exact C3 j _ b (by rw[<- i1];exact c) hj hp hb
      ·rw[if_neg i1] at ha
       by_cases j1:j=d
       ·exact absurd c (by unfold Ch at C1 ⊢;omega)
       ·rw[if_neg j1] at hb
        by_cases j2:j=k
        ·rw[if_pos j2] at hb;cases hb
         exact D2 i d a _ (by rw[<- j2];exact c) C1 C2 ha hp
        ·rw[if_neg j2] at hb
         exact D1 i j a b c hj i1 ha hb
     ·rw[swp_at hq hp] at ha hb
      have hi:i=k:=by unfold Ch at c1 C1;omega
      have hjd:d<j:=by unfold Ch at c2;omega
      rw[if_neg (by omega),if_pos hi] at ha;cases ha
      rw[if_neg (by omega),if_neg (by omega)] at hb
      exact D1 d j _ b c2 hj (by omega) hp hb
    ·rename_i hl
     exact stop fun a b ha hb=>by rw[hq] at ha;rw[hp] at hb;cases ha;cases hb;exact Bool.eq_false_iff.2 hl
   ·rename_i hno
    exact stop fun a b ha hb=>(hno b a hb ha).elim
theorem hx_popped{l:List Pr}(H:HX l):HX (popped l):=by
 have hl:(popped l).length=l.length-1:=popped_len l
 have key:HXn (l.length-1) (popL l):=by
  unfold popL
  refine downF_hx _ _ _ _ (by rw[swp_len];omega) (by omega) ⟨fun i j p q c hj hne hp hq=>?_,fun i j p q c1 _ _ _ _=>by unfold Ch at c1;omega⟩
  obtain⟨a,ha⟩:∃ a,l[0]?=some a:=⟨_,List.getElem?_eq_getElem (by omega)⟩
  obtain⟨b,hb⟩:∃ b,l[l.length-1]?=some b:=⟨_,List.getElem?_eq_getElem (by omega)⟩
  have hij:i<j:=by unfold Ch at c;omega
  rw[swp_at ha hb,if_neg (by omega),if_neg (by omega)] at hp hq
  exact H i j p q c (by omega) hp hq
 intro i j p q c hj hp hq
 rw[hl] at hj
 have hij:i<j:=by unfold Ch at c;omega
 unfold popped at hp hq
 rw[List.getElem?_take_of_lt (by omega)] at hp hq
 exact key i j p q c hj hp hq
theorem swp_perm(l:List Pr)(a b:Nat):(swp l a b).Perm l:=by
 unfold swp
 split
 ·rename_i p q hp hq
  obtain⟨ha,rfl⟩:=List.getElem?_eq_some_iff.1 hp
  obtain⟨hb,rfl⟩:=List.getElem?_eq_some_iff.1 hq
  exact List.set_set_perm ha hb
 ·exact .refl _
theorem upF_perm:∀ (f j:Nat) (l:List Pr),(upF f j l).Perm l
 | 0,_,_=>.refl _
 | f+1,0,_=>.refl _
 | f+1,j+1,l=>by
  simp only[upF]
  split
  ·split
   ·exact (upF_perm f _ _).trans (swp_perm _ _ _)
   ·exact .refl _
  ·exact .refl _
theorem downF_perm:∀ (f k n:Nat) (l:List Pr),(downF f k n l).Perm l
 | 0,_,_,_=>.refl _
 | f+1,k,n,l=>by
  simp only[downF]
  split
  ·exact .refl _
  ·split
   ·split
    ·exact (downF_perm f _ _ _).trans (swp_perm _ _ _)
    ·exact .refl _
   ·exact .refl _
theorem downF_ge:∀ (f k n:Nat) (l:List Pr) (i:Nat),n<=l.length->n<=i->(downF f k n l)[i]?=l[i]?
 | 0,_,_,_,_,_,_=>rfl
 | f+1,k,n,l,i,hn,hi=>by
  simp only[downF]
  split
  ·rfl
  ·rename_i hend
   obtain⟨C1,C2,_⟩:=dnC_minX hn (k:=k) (by omega)
   generalize dnC l n (2*k+1)=d at C1 C2 ⊢
   split
   ·rename_i p q hp hq
    split
    ·rw[downF_ge f d n _ i (by rw[swp_len];exact hn) hi,swp_at hq hp,if_neg (by omega),if_neg (by unfold Ch at C1;omega)]
    ·rfl
   ·rfl
theorem popP_head{l r:List Pr}{p:Pr}(e:l=p::r):popP l=p/\(popped l++[p]).Perm l:=by
 have h0:l[0]?=some p:=by rw[e];rfl
 have hl:0<l.length:=gT h0
 obtain⟨b,hb⟩:∃ b,l[l.length-1]?=some b:=⟨_,List.getElem?_eq_getElem (by omega)⟩
 have h1:(popL l)[l.length-1]?=some p:=by
  unfold popL
  rw[downF_ge _ _ _ _ _ (by rw[swp_len];omega) (Nat.le_refl _),swp_at h0 hb,if_pos rfl]
 have h2:popped l++[p]=popL l:=by
  unfold popped
  have hlt:=gT h1
  have:=(List.getElem?_eq_some_iff.1 h1).2
  rw[<- this,List.take_append_getElem hlt,List.take_of_length_le (by rw[popL_len];omega)]
 refine⟨by unfold popP;rw[h1];rfl,?_⟩
 rw[h2]
 unfold popL
 exact (downF_perm _ _ _ _).trans (swp_perm _ _ _)
def Nd(l:List Pr):Prop:=(l.map Prod.snd).Nodup
theorem nd_popped{l r:List Pr}{p:Pr}(N:Nd l)(e:l=p::r):Nd (popped l)/\∀ q,q∈popped l↔q∈l/\q≠p:=by
 have P:=(popP_head e).2
 have N2:((popped l++[p]).map Prod.snd).Nodup:=(P.map Prod.snd).nodup_iff.2 N
 rw[List.map_append,List.nodup_append] at N2
 refine⟨N2.1,fun q=>?_⟩
 rw[<- P.mem_iff,List.mem_append,List.mem_singleton]
 constructor
 ·intro h
  refine⟨.inl h,fun e=>?_⟩
  subst e
  exact N2.2.2 q.2 (List.mem_map_of_mem h) q.2 (by simp) rfl
 ·rintro⟨h | h,h'⟩
  ·exact h
  ·exact absurd h h'
def Om(t t':TS):Prop:=∀ (s:Nat) y,t.scs[s]?=some y->y.ov=true->∃ y',t'.scs[s]?=some y'/\y'.ov=true
section
variable {t t1 t':TS} {k:Nat}
theorem Om.refl(t:TS):Om t t:=fun s y h e=>⟨y,h,e⟩
theorem Om.trans(a:Om t t1)(b:Om t1 t'):Om t t':=fun s y h e=>by
 obtain⟨y1,h1,e1⟩:=a s y h e
 exact b s y1 h1 e1
theorem om_upT{f:Tk->Tk}:Om t (t.upT k f):=fun s y h e=>⟨y,h,e⟩
theorem om_upS{f:Sc->Sc}(hf:∀ y,y.ov=true->(f y).ov=true):Om t (t.upS k f):=fun s y h e=>by
 refine⟨if k=s then f y else y,?_,?_⟩
 ·show (t.scs.modify k f)[s]?=_
  rw[List.getElem?_modify,h];simp
 ·split
  ·exact hf y e
  ·exact e
theorem om_newS{su:Bool}:Om t (t.newS k su):=fun s y h e=>⟨y,by show (t.scs++_)[s]?=_;rw[List.getElem?_append_left (gT h)];exact h,e⟩
theorem om_newT{inn:Option Nat}:Om t (t.newT inn):=fun s y h e=>⟨y,h,e⟩
theorem om_blame(s:Nat)(fk:Int)(ft:ByteArray):Om t (t.blame s fk ft).1:=by
 unfold TS.blame
 split
 ·split
  ·exact om_upS fun _ h=>h
  ·exact .refl t
 ·exact .refl t
theorem om_open(n:Int)(su:Bool):Om t (t.open n su).1:=by
 unfold TS.open
 split
 ·exact .refl t
 ·split
  ·exact .refl t
  ·exact om_newS.trans om_upT
theorem om_add(inn:Option Nat):Om t (t.add inn):=by
 cases inn with
 | none=>exact om_newT
 | some s =>
  unfold TS.add
  refine Om.trans (Om.trans om_newT (om_upS ?_)) (om_upS ?_)
  ·intro y h;exact h
  ·intro y h;exact h
theorem om_root:Om t t.root.1:=by
 unfold TS.root
 split
 ·exact .refl t
 ·exact om_add none
theorem om_spawn(n:Int):Om t (t.spawn n).1:=by
 unfold TS.spawn
 split
 ·exact .refl t
 ·split
  ·exact .refl t
  ·split
   ·exact .refl t
   ·split
    ·exact .refl t
    ·exact om_add (some _)
theorem om_shield(n:Int):Om t (t.shield n).1:=by
 unfold TS.shield
 split
 ·exact .refl t
 ·split
  ·split
   ·exact .refl t
   ·exact om_upT
  ·exact .refl t
theorem om_unveil(n:Int):Om t (t.unveil n).1:=by
 unfold TS.unveil
 split
 ·exact .refl t
 ·split
  ·split
   ·exact om_upT
   ·exact .refl t
  ·exact .refl t
theorem om_fail(n fk:Int)(ft:ByteArray):Om t (t.fail n fk ft).1:=by
 unfold TS.fail
 split
 ·exact .refl t
 ·split
  ·exact .refl t
  ·split
   ·exact .refl t
   ·split
    ·exact om_blame _ _ _
    ·exact .refl t
theorem om_fin(s:Nat):Om t (t.fin s).1:=by
 unfold TS.fin
 split
 ·exact .refl t
 ·split
  ·exact .refl t
  ·split
   ·show Om t (t.fin0 s _)
    unfold TS.fin0
    exact Om.trans (Om.trans (Om.trans (om_upS fun _ _=>rfl) om_upT) om_upT) om_upT
   ·exact .refl t
theorem om_leave1(s:Nat)(fk:Int)(ft:ByteArray):Om t (t.leave1 k s fk ft):=by
 unfold TS.leave1
 exact Om.trans (Om.trans (om_blame s fk ft) om_upT) om_upT
theorem om_end1(fk:Int)(ft:ByteArray):Om t (t.end1 k fk ft):=by
 unfold TS.end1
 exact Om.trans om_upT om_upT
theorem om_end3(s:Nat)(y:Sc)(fk:Int)(ft:ByteArray):Om t (t.end3 k s y fk ft).1:=by
 have h:Om t (t.end2 k s fk ft):=by
  unfold TS.end2
  refine Om.trans (om_end1 fk ft) (om_upS ?_)
  intro y h;exact h
 unfold TS.end3
 split
 ·exact h
 ·exact h.trans (om_blame _ _ _)
theorem om_leave(n fk:Int)(ft:ByteArray):Om t (t.leave n fk ft).1:=by
 unfold TS.leave
 split
 ·exact .refl t
 ·split
  ·exact .refl t
  ·split
   ·exact .refl t
   ·split
    ·split
     ·exact (om_leave1 _ _ _).trans (om_fin _)
     ·exact .refl t
    ·exact .refl t
theorem om_end(n fk:Int)(ft:ByteArray):Om t (t.end n fk ft).1:=by
 unfold TS.end
 split
 ·exact .refl t
 ·split
  ·exact .refl t
  ·split
   ·exact .refl t
   ·split
    ·exact .refl t
    ·split
     ·exact om_end1 _ _
     ·split
      ·exact .refl t
      ·exact (om_end3 _ _ _ _).trans (om_fin _)
theorem Om.sco(O:Om t t')(n:Int)(h:(t'.sco n).1.ov=false):(t.sco n).1.ov=false:=by
 unfold TS.sco
 split
 ·rename_i s e hq
  split
  ·rename_i y hy
   cases hv:y.ov with
   | false=>exact hv
   | true =>
    obtain⟨y',hy',hv'⟩:=O s y hy hv
    unfold TS.scope at hq
    split at hq
    ·cases hq
    ·simp only[Prod.mk.injEq,Option.some.injEq] at hq
     have en:n=((s+1:Nat):Int):=by omega
     rw[en,sco_some hy'] at h
     have:y'.ov=false:=h
     rw[hv'] at this;cases this
  ·rfl
 ·rfl
end
structure Dd(t:TS)(a b:List Pr):Prop where
 ha:HX a
 hb:HX b
 na:Nd a
 nb:Nd b
 mem:∀ p:Pr,(t.sco p.2).1.ov=false->(p∈a↔p∈b)
section
variable {t t':TS} {a b:List Pr}
theorem Dd.om(D:Dd t a b)(O:Om t t'):Dd t' a b:=⟨D.ha,D.hb,D.na,D.nb,fun p h=>D.mem p (O.sco _ h)⟩
theorem Dd.symm(D:Dd t a b):Dd t b a:=⟨D.hb,D.ha,D.nb,D.na,fun p h=>(D.mem p h).symm⟩
theorem Dd.trans{c:List Pr}(D:Dd t a b)(D':Dd t b c):Dd t a c:=⟨D.ha,D'.hb,D.na,D'.nb,fun p h=>(D.mem p h).trans (D'.mem p h)⟩
theorem overF_dd:∀ (f:Nat) (t:TS) (a:List Pr),HX a->Nd a->Dd t a (overF f t a)
 | 0,t,a,H,N=>⟨H,H,N,N,fun _ _=>Iff.rfl⟩
 | f+1,t,[],H,N=>⟨H,H,N,N,fun _ _=>Iff.rfl⟩
 | f+1,t,p::r,H,N=>by
  simp only[overF]
  split
  ·rename_i hv
   obtain⟨N2,M⟩:=nd_popped N rfl
   have D:=overF_dd f t (popped (p::r)) (hx_popped H) N2
   refine⟨H,D.hb,N,D.nb,fun q hq=>?_⟩
   rw[<- D.mem q hq,M]
   refine⟨fun h=>⟨h,fun e=>?_⟩,fun h=>h.1⟩
   subst e
   rw[hv] at hq;cases hq
  ·exact⟨H,H,N,N,fun _ _=>Iff.rfl⟩
theorem Dd.over(D:Dd t a b)(f f':Nat):Dd t (overF f t a) (overF f' t b) :=
 ((overF_dd f t a D.ha D.na).symm.trans D).trans (overF_dd f' t b D.hb D.nb)
theorem Dd.push(D:Dd t a b){p:Pr}(h1:p.2∉a.map Prod.snd)(h2:p.2∉b.map Prod.snd):Dd t (upF (a.length+1) a.length (a++[p])) (upF (b.length+1) b.length (b++[p])):=by
 have nd:∀ {l:List Pr},Nd l->p.2∉l.map Prod.snd->Nd (upF (l.length+1) l.length (l++[p])):=fun {l} N h=>by
  refine ((upF_perm _ _ _).map Prod.snd).nodup_iff.2 ?_
  rw[List.map_append,List.nodup_append]
  refine⟨N,by simp,fun x hx y hy e=>?_⟩
  simp only[List.map_cons,List.map_nil,List.mem_singleton] at hy
  subst e;subst hy
  exact h hx
 refine⟨hx_push D.ha p,hx_push D.hb p,nd D.na h1,nd D.nb h2,fun q hq=>?_⟩
 rw[(upF_perm _ _ _).mem_iff,(upF_perm _ _ _).mem_iff,List.mem_append,List.mem_append,D.mem q hq]
theorem Dd.head(D:Dd t a b)(h1:∀ p r,a=p::r->(t.sco p.2).1.ov=false)(h2:∀ p r,b=p::r->(t.sco p.2).1.ov=false):(a=[]/\b=[])\/∃ p r s,a=p::r/\b=p::s:=by
 cases ea:a with
 | nil =>
  cases eb:b with
  | nil=>exact .inl ⟨rfl,rfl⟩
  | cons q s =>
   have:=(D.mem q (h2 q s eb)).2 (by rw[eb];exact List.mem_cons_self ..)
   rw[ea] at this;cases this
 | cons p r =>
  have hpb:=(D.mem p (h1 p r ea)).1 (by rw[ea];exact List.mem_cons_self ..)
  cases eb:b with
  | nil=>rw[eb] at hpb;cases hpb
  | cons q s =>
   have hqa:=(D.mem q (h2 q s eb)).2 (by rw[eb];exact List.mem_cons_self ..)
   have:=leP_anti (hx_min D.ha ea q hqa) (hx_min D.hb eb p hpb)
   subst this
   exact .inr ⟨p,r,s,rfl,rfl⟩
theorem Dd.pop{p:Pr}{r s:List Pr}(D:Dd t a b)(ea:a=p::r)(eb:b=p::s):Dd t (popped a) (popped b):=by
 obtain⟨n1,m1⟩:=nd_popped D.na ea
 obtain⟨n2,m2⟩:=nd_popped D.nb eb
 exact⟨hx_popped D.ha,hx_popped D.hb,n1,n2,fun q hq=>by rw[m1,m2,D.mem q hq]⟩
end
def GS.wd(x:GS)(d:List Pr):GS:={ x with du:=d }
section
variable {x:GS} {d:List Pr}
theorem mark_wd(x:GS)(d:List Pr)(n:Int)(b:Bool):(x.wd d).mark n b=(x.mark n b).wd d:=by cases b<;>rfl
theorem strike_wd(x:GS)(d:List Pr)(b:Bool)(n:Int)(l:List Int):(x.wd d).strike b n l=((x.strike b n l).1.wd d,(x.strike b n l).2):=by
 have em:(x.wd d).mks b=x.mks b:=by cases b<;>rfl
 unfold GS.strike
 by_cases h:n∈x.mks b
 ·rw[if_pos (by rw[em];exact h),if_pos h]
 ·rw[if_neg (by rw[em];exact h),if_neg h,mark_wd];rfl
theorem strikes_wd(x:GS)(d:List Pr)(n:Int):(x.wd d).strikes n=((x.strikes n).1.wd d,(x.strikes n).2):=strike_wd _ _ _ _ _
theorem turned_wd:∀ (l:List Ef) (x:GS) (d:List Pr),(x.wd d).turned l=((x.turned l).1.wd d,(x.turned l).2)
 | [],x,d=>rfl
 | e::l,x,d=>by
  rw[GS.turned,GS.turned]
  split
  ·rw[strikes_wd,turned_wd l]
  ·rw[turned_wd l]
theorem after_wd(x:GS)(d:List Pr)(r:TS×List Ef×Int):(x.wd d).after r=((x.after r).1.wd d,(x.after r).2.1,(x.after r).2.2):=by
 unfold GS.after
 have:({ x.wd d with t:=r.1 }:GS)=({ x with t:=r.1 }:GS).wd d:=rfl
 rw[this,turned_wd]
theorem strikeT_wd(x:GS)(d:List Pr)(n:Int):(x.wd d).strikeT n=((x.strikeT n).1.wd d,(x.strikeT n).2.1,(x.strikeT n).2.2):=by
 unfold GS.strikeT
 have:(x.wd d).t=x.t:=rfl
 rw[this]
 by_cases h:(x.t.chain n).2=0
 ·rw[if_neg (fun e=>e h),if_neg (fun e=>e h),strike_wd]
 ·rw[if_pos h,if_pos h]
theorem late_wd(x:GS)(d:List Pr)(h:popP d=popP x.du):(x.wd d).lateF=(x.lateF.1.wd (popped d),x.lateF.2.1,x.lateF.2.2):=by
 have e:(x.wd d).pop=x.pop.wd (popped d):=rfl
 have e2:(x.wd d).du=d:=rfl
 unfold GS.lateF
 rw[e,e2,h]
 exact after_wd _ _ _
theorem come_wd(x:GS)(d:List Pr)(h:popP d=popP x.du):(x.wd d).come=(x.come.1.wd (popped d),x.come.2):=by
 have e2:(x.wd d).du=d:=rfl
 unfold GS.come
 rw[late_wd x d h,e2,h,strikes_wd]
theorem overF_live(f:Nat)(t:TS)(l:List Pr)(h:l.length<=f):∀ p r,overF f t l=p::r->(t.sco p.2).1.ov=false:=fun p r e=>by
 rcases overF_end f t l h with h | ⟨p',r',h,hv⟩
 ·rw[h] at e;cases e
 ·rw[h] at e;cases e;exact hv
theorem expF_wd:∀ (f f':Nat) (x:GS) (d:List Pr) (now:Int),x.du.length<=f->d.length<=f'->Dd x.t x.du d->(∀ p r,x.du=p::r->(x.t.sco p.2).1.ov=false)->(∀ p r,d=p::r->(x.t.sco p.2).1.ov=false) ->
  ∃ d',expF f' (x.wd d) now=((expF f x now).1.wd d',(expF f x now).2)/\Dd (expF f x now).1.t (expF f x now).1.du d'
 | 0,f',x,d,now,h,h',D,l1,l2=>by
  have e0:x.du=[]:=List.length_eq_zero_iff.1 (by omega)
  rcases D.head l1 l2 with⟨_,e⟩ | ⟨p,r,s,e,_⟩
  ·subst e
   refine⟨[],?_,D⟩
   cases f'<;>rfl
  ·rw[e0] at e;cases e
 | f+1,f',x,d,now,h,h',D,l1,l2=>by
  rcases D.head l1 l2 with⟨e0,e⟩ | ⟨p,r,s,e1,e2⟩
  ·subst e
   have:expF (f+1) x now=(x,[]):=by unfold gr.expF;rw[e0]
   rw[this]
   refine⟨[],?_,D⟩
   cases f'<;>rfl
  ·obtain⟨f',rfl⟩:∃ g,f'=g+1:=⟨f'-1,by rw[e2] at h';simp at h';omega⟩
   have a1:expF (f+1) x now=if p.1<=now then ((expF f x.come.1.over now).1,(x.lateF.2.1++x.come.2)++(expF f x.come.1.over now).2) else (x,[]):=by
    conv=>lhs;unfold gr.expF
    rw[e1]
   have a2:expF (f'+1) (x.wd d) now=if p.1<=now then ((expF f' (x.wd d).come.1.over now).1,((x.wd d).lateF.2.1++(x.wd d).come.2)++(expF f' (x.wd d).come.1.over now).2) else (x.wd d,[]):=by
    have e3:(x.wd d).du=p::s:=e2
    conv=>lhs;unfold gr.expF
    rw[e3]
   rw[a1,a2]
   by_cases hp:p.1<=now
   ·rw[if_pos hp,if_pos hp]
    have hh:popP d=popP x.du:=by rw[(popP_head e2).1,(popP_head e1).1]
    rw[late_wd x d hh,come_wd x d hh]
    have O:Om x.t x.come.1.t:=by rw[come_t];exact om_fail _ _ _
    have D2:Dd x.come.1.t x.come.1.du (popped d):=by rw[come_du];exact (D.pop e1 e2).om O
    have g1:=over_du_len x.come.1
    rw[come_du,popped_len] at g1
    have g2:=overF_len (popped d).length x.come.1.t (popped d)
    rw[popped_len] at g2
    have eo:(x.come.1.wd (popped d)).over=x.come.1.over.wd (overF (popped d).length x.come.1.t (popped d)):=rfl
    obtain⟨d',q1,q2⟩:=expF_wd f f' x.come.1.over (overF (popped d).length x.come.1.t (popped d)) now (by omega) (by rw[popped_len];omega) (D2.over _ _)
     (overF_live _ _ _ (Nat.le_refl _)) (overF_live _ _ _ (Nat.le_refl _))
    refine⟨d',?_,q2⟩
    simp only[eo,q1]
   ·rw[if_neg hp,if_neg hp]
    exact⟨d,rfl,D⟩
theorem expire_wd{x:GS}{d:List Pr}(D:Dd x.t x.du d)(now:Int):∃ d',(x.wd d).expire now=((x.expire now).1.wd d',(x.expire now).2)/\Dd (x.expire now).1.t (x.expire now).1.du d' :=
 expF_wd x.over.du.length (overF d.length x.t d).length x.over (overF d.length x.t d) now (Nat.le_refl _) (Nat.le_refl _) (D.over _ _) (overF_live _ _ _ (Nat.le_refl _)) (overF_live _ _ _ (Nat.le_refl _))
theorem open_new{t:TS}{n:Int}{su:Bool}(h:(t.open n su).2.2=0):(t.open n su).2.1=((t.scs.length+1:Nat):Int):=by
 unfold TS.open at h ⊢
 split at h
 ·rename_i e hq
  exact absurd h (acts_zero hq)
 ·split at h
  ·cases h
  ·rename_i hn;rw[if_neg hn]
theorem open_wd{x:GS}{d:List Pr}(D:Dd x.t x.du d)(M:MB x)(M':MB (x.wd d))(n:Int)(su:Bool)(u:Int):∃ d',(x.wd d).open n su u=(x.open n su u).wd d'/\Dd (x.open n su u).t (x.open n su u).du d':=by
 have et:(x.wd d).t=x.t:=rfl
 have ed:(x.wd d).du=d:=rfl
 have O:=om_open (t:=x.t) n su
 unfold GS.open
 rw[et,ed]
 by_cases h:(x.t.open n su).2.2=0/\0<=u/\u<=1000000000000
 ·rw[if_pos h,if_pos h]
  have hn:=open_new h.1
  have out:∀ {l:List Pr},(∀ p,p∈l->p.2<=(x.t.scs.length:Int))->(x.t.open n su).2.1∉l.map Prod.snd:=fun {l} hl hm=>by
   obtain⟨p,hp,e⟩:=List.mem_map.1 hm
   have:=hl p hp
   rw[e,hn] at this;omega
  exact⟨_,rfl,(D.push (p:=(u,(x.t.open n su).2.1)) (out M.du) (out M'.du)).om O⟩
 ·rw[if_neg h,if_neg h]
  exact⟨d,rfl,D.om O⟩
theorem run_wd{x:GS}{d:List Pr}(D:Dd x.t x.du d)(M:MB x)(M':MB (x.wd d))(o:OpV):∃ d',(x.wd d).run o=((x.run o).1.wd d',(x.run o).2.1,(x.run o).2.2)/\Dd (x.run o).1.t (x.run o).1.du d':=by
 have et:(x.wd d).t=x.t:=rfl
 have aft:∀ (r:TS×List Ef×Int),Om x.t r.1->Dd (x.after r).1.t (x.after r).1.du d:=fun r O=>by
  rw[after_t,after_du];exact D.om O
 unfold GS.run
 rw[et]
 by_cases h0:o.k=0
 ·rw[if_pos h0,if_pos h0]
  obtain⟨d',e,D'⟩:=open_wd D M M' o.n o.y o.m
  exact⟨d',by rw[e],D'⟩
 rw[if_neg h0,if_neg h0]
 by_cases h1:o.k=1
 ·rw[if_pos h1,if_pos h1]
  exact⟨d,rfl,D.om (om_spawn _)⟩
 rw[if_neg h1,if_neg h1]
 by_cases h2:o.k=2
 ·rw[if_pos h2,if_pos h2]
  refine⟨d,?_,aft _ (om_end _ _ _)⟩
  have:=after_wd x d (x.t.end o.n o.fk o.ft)
  unfold GS.end
  rw[et,this]
 rw[if_neg h2,if_neg h2]
 by_cases h3:o.k=3
 ·rw[if_pos h3,if_pos h3]
  refine⟨d,?_,aft _ (om_leave _ _ _)⟩
  have:=after_wd x d (x.t.leave o.n o.fk o.ft)
  unfold GS.leave
  rw[et,this]
 rw[if_neg h3,if_neg h3]
 by_cases h4:o.k=4
 ·rw[if_pos h4,if_pos h4]
  exact⟨d,rfl,D.om (om_shield _)⟩
 rw[if_neg h4,if_neg h4]
 by_cases h5:o.k=5
 ·rw[if_pos h5,if_pos h5]
  exact⟨d,rfl,D.om (om_unveil _)⟩
 rw[if_neg h5,if_neg h5]
 by_cases h6:o.k=6
 ·rw[if_pos h6,if_pos h6]
  refine⟨d,?_,aft _ (om_fail _ _ _)⟩
  have:=after_wd x d (x.t.fail o.n o.fk o.ft)
  unfold GS.fail
  rw[et,this]
 rw[if_neg h6,if_neg h6]
 by_cases h7:o.k=7
 ·rw[if_pos h7,if_pos h7]
  exact⟨d,rfl,D.om om_root⟩
 rw[if_neg h7,if_neg h7]
 by_cases h8:o.k=8
 ·rw[if_pos h8,if_pos h8]
  refine⟨d,by rw[strikeT_wd],?_⟩
  have e1:(x.strikeT o.n).1.t=x.t:=by
   unfold GS.strikeT;split
   ·rfl
   ·exact strike_t _ _ _ _
  have e2:(x.strikeT o.n).1.du=x.du:=by
   unfold GS.strikeT;split
   ·rfl
   ·exact strike_du _ _ _ _
  show Dd (x.strikeT o.n).1.t (x.strikeT o.n).1.du d
  rw[e1,e2];exact D
 rw[if_neg h8,if_neg h8]
 by_cases h9:o.k=9
 ·rw[if_pos h9,if_pos h9]
  obtain⟨d',e,D'⟩:=expire_wd D o.n
  exact⟨d',by rw[e],D'⟩
 rw[if_neg h9,if_neg h9]
 exact⟨d,rfl,D⟩
def GS.runE:GS->List OpV->List Ef
 | _,[]=>[]
 | x,o::l=>(x.run o).2.1++(x.run o).1.runE l
theorem runE_app:∀ (l m:List OpV) (x:GS),x.runE (l++m)=x.runE l++(x.runL l).runE m
 | [],m,x=>rfl
 | o::l,m,x=>by
  show (x.run o).2.1++(x.run o).1.runE (l++m)=((x.run o).2.1++(x.run o).1.runE l)++((x.run o).1.runL l).runE m
  rw[runE_app l m,List.append_assoc]
theorem runL_wd:∀ (l:List OpV) {x:GS} {d:List Pr} {k k':Nat},Dd x.t x.du d->GOk k x->GOk k' (x.wd d)->MB x->MB (x.wd d) ->
  ∃ d',(x.wd d).runL l=(x.runL l).wd d'/\(x.wd d).runE l=x.runE l
 | [],x,d,k,k',D,o,o',M,M'=>⟨d,rfl,rfl⟩
 | a::l,x,d,k,k',D,o,o',M,M'=>by
  obtain⟨d',e,D'⟩:=run_wd D M M' a
  obtain⟨c,ok,W,_⟩:=id o
  obtain⟨c',ok',W',_⟩:=id o'
  have M2:=M.run ok W a
  have M2':=M'.run ok' W' a
  have o2:=o.run a
  have o2':=o'.run a
  rw[e] at M2' o2'
  obtain⟨d2,q1,q2⟩:=runL_wd l D' o2 o2' M2 M2'
  refine⟨d2,?_,?_⟩
  ·show ((x.wd d).run a).1.runL l=_
   rw[e];exact q1
  ·show ((x.wd d).run a).2.1++((x.wd d).run a).1.runE l=_
   rw[e,q2];rfl
end
section
def Hn(x:GS):Prop:=HX x.du/\Nd x.du
theorem hn_dd{x:GS}(H:Hn x):Dd x.t x.du x.du:=⟨H.1,H.1,H.2,H.2,fun _ _=>Iff.rfl⟩
theorem hn_run{x:GS}(H:Hn x)(M:MB x)(o:OpV):Hn (x.run o).1:=by
 obtain⟨d',_,D⟩:=run_wd (hn_dd H) M M o
 exact⟨D.ha,D.na⟩
theorem hn_runL:∀ (l:List OpV) {x:GS} {k:Nat},Hn x->GOk k x->MB x->Hn (x.runL l)
 | [],_,_,H,_,_=>H
 | o::l,x,k,H,ok,M=>by
  obtain⟨c,t,W,_⟩:=id ok
  exact hn_runL l (hn_run H M o) (ok.run o) (M.run t W o)
theorem hn_roots(n:Nat):Hn (GS.roots n):=⟨fun i j p q c hj hp hq=>(by cases hp),List.nodup_nil⟩
end
end Go.Proofs.Ytlonjogfeidgfaa.gr
namespace Go.Proofs.Ytlonjogfeidgfaa.c36p
open Go Go.Ev
set_option maxRecDepth 100000
set_option linter.unusedVariables false
theorem mc(m m2:Nat)(g g1:Hp) :
  let Z1:Value:=.iface 84 (.map (some m2))
  pvFn Try.prog (pvCall Try.prog 0) Try.f58 [.map (some m)] (.is g) [.ret Z1 (.is g1)] =
  some (.map (some m2),.is g1,[],[.call 83 [.iface 84 (.map (some m))] (.is g) Z1 (.is g1)]):=by intros;kernel_rfl
theorem dc_nil(o n a d:Nat)(cs:List Value)(g:Hp) :
  pvFn Try.prog (pvCall Try.prog 0) Try.f59 [.slice none 0 0] (.is g) [] =
  some (.slice none 0 0,.is g,[],[]):=by intros;kernel_rfl
theorem dc_0(o n a d:Nat)(cs:List Value)(g:Hp) :
  let Z1:SH:=.push (.is g) (.cells [] true)
  pvFn Try.prog (pvCall Try.prog 0) Try.f59 [.slice (some ⟨o,0,none⟩) 0 2] (.is g) [.idx a,.app0] =
  some (.slice (some ⟨a,0,none⟩) 0 2,Z1,[],[.len (.is g) a,.app0 Z1 o 0 0]):=by intros;kernel_rfl
theorem dc_1(o n a d:Nat)(cs:List Value)(g:Hp) :
  let Z1:SH:=.push (.is g) (.cells [] true)
  pvFn Try.prog (pvCall Try.prog 0) Try.f59 [.slice (some ⟨o,0,none⟩) (n+1) 2] (.is g) [.idx a,.app cs cs n d] =
  some (.slice (some ⟨d,0,none⟩) (0+(n+1)) 2,.push (.set Z1 a .dead) (.cells cs true),[],[.len (.is g) a,.app Z1 a 0 0 o 0 (Nat.succ n) n 2 16 cs cs d]):=by intros;kernel_rfl
theorem cg(i r r2 m m2 n n2 b:Nat)(od oe:Option Addr)(ld zd le ze:Nat)(g g1 g2 g3 g4:Hp) :
  let Z1:Value:=.pointer (some ⟨r,0,none⟩)
  let Z2:Value:=.pointer (some ⟨r2,0,none⟩)
  let Z3:Value:=.pointer (some ⟨i,1,none⟩)
  let Z4:Value:=.pointer (some ⟨i,2,none⟩)
  let Z5:Value:=.pointer (some ⟨i,3,none⟩)
  pvFn Try.prog (pvCall Try.prog 0) Try.f32 [.pointer (some ⟨i,0,none⟩)] (.is g) [.val Z1,.ret Z2 (.is g1),.val (.map (some m)),.ret (.map (some m2)) (.is g2),.val (.map (some n)),.ret (.map (some n2)) (.is g3),.val (.slice od ld zd),.ret (.slice oe le ze) (.is g4),.idx b] =
  some (.pointer (some ⟨b,0,none⟩),.push (.is g4) (.cells [Z2,.map (some m2),.map (some n2),.slice oe le ze] true),[],[.stat (drawN Try.f32 0),.again (.is g1) 84 Z3 (.map (some m)),.again (.is g) 84 Z3 (.map (some m)),.again (.is g1) 84 Z3 (.map (some m)),.again (.is g2) 84 Z4 (.map (some n)),.again (.is g) 84 Z4 (.map (some n)),.again (.is g1) 84 Z4 (.map (some n)),.again (.is g2) 84 Z4 (.map (some n)),.again (.is g1) 84 Z4 (.map (some n)),.again (.is g2) 84 Z4 (.map (some n)),.again (.is g3) 86 Z5 (.slice od ld zd),.again (.is g) 86 Z5 (.slice od ld zd),.again (.is g1) 86 Z5 (.slice od ld zd),.again (.is g3) 86 Z5 (.slice od ld zd),.again (.is g1) 86 Z5 (.slice od ld zd),.again (.is g2) 86 Z5 (.slice od ld zd),.again (.is g3) 86 Z5 (.slice od ld zd),.again (.is g2) 86 Z5 (.slice od ld zd),.again (.is g3) 86 Z5 (.slice od ld zd),.ld1 (.is g) i 0 Z1,.call 57 [Z1] (.is g) Z2 (.is g1),.ld1 (.is g1) i 1 (.map (some m)),.call 58 [.map (some m)] (.is g1) (.map (some m2)) (.is g2),.ld1 (.is g2) i 2 (.map (some n)),.call 58 [.map (some n)] (.is g2) (.map (some n2)) (.is g3),.ld1 (.is g3) i 3 (.slice od ld zd),.call 59 [.slice od ld zd] (.is g3) (.slice oe le ze) (.is g4),.len (.is g4) b]):=by intros;kernel_rfl
theorem eq(oa ob:Option Addr)(ln za zb:Nat)(g g1:Hp) :
  pvFn Try.prog (pvCall Try.prog 0) Try.f35 [.slice oa ln za,.slice ob ln zb] (.is g) [.bit false,.loop (.exit 0) [] (.is g1)] =
  some (.bool true,.is g1,[],[.cmp .neq (Int.ofNat ln) (Int.ofNat ln) false,.loop 26 false (loopN Try.f35 0) [(13,.int .i64 0),(12,.int .i64 (Int.ofNat ln)),(11,.slice oa ln za),(10,.bool false),(9,.int .i64 (Int.ofNat ln)),(8,.slice ob ln zb),(7,.int .i64 (Int.ofNat ln)),(6,.slice oa ln za),(4,.bool false),(0,.slice oa ln za),(1,.slice ob ln zb)] (.is g) (.exit 0) [] (.is g1)]):=by intros;kernel_rfl
theorem eq_out(oa ob:Option Addr)(ln za zb:Nat)(i:Int)(g:Hp) :
  pvCode Try.prog (pvCall Try.prog 0) 26 false (loopN Try.f35 0) [(13,.int .i64 i),(12,.int .i64 (Int.ofNat ln)),(1,.slice ob ln zb),(0,.slice oa ln za)] (.is g) [.bit false] =
  some (.exit 0,[(14,.bool false),(13,.int .i64 i),(12,.int .i64 (Int.ofNat ln)),(1,.slice ob ln zb),(0,.slice oa ln za)],.is g,[],[.cmp .lss i (Int.ofNat ln) false]):=by intros;kernel_rfl
theorem eq_go(ox oy ln q:Nat)(i i1 k:Int)(g:Hp) :
  let Z1:Value:=.slice (some ⟨oy,0,none⟩) ln 1
  let Z2:Value:=.slice (some ⟨ox,0,none⟩) ln 1
  pvCode Try.prog (pvCall Try.prog 0) 26 false (loopN Try.f35 0) [(13,.int .i64 i),(12,.int .i64 (Int.ofNat ln)),(1,Z1),(0,Z2)] (.is g) [.bit true,.offs q,.val (.int .i64 k),.offs q,.val (.int .i64 k),.bit false,.num i1] =
  some (.normal,[(13,.int .i64 i1),(25,.int .i64 i1),(24,.bool false),(23,.int .i64 k),(22,.pointer (some ⟨oy,q,none⟩)),(21,.int .i64 i),(20,Z1),(19,.int .i64 k),(18,.pointer (some ⟨ox,q,none⟩)),(17,.int .i64 i),(16,Z2),(5,.int .i64 i),(15,.int .i64 i),(14,.bool true),(13,.int .i64 i),(12,.int .i64 (Int.ofNat ln)),(1,Z1),(0,Z2)],.is g,[],[.cmp .lss i (Int.ofNat ln) true,.stat (drawN Try.f35 0),.off q 0 i ln 1,.ld1 (.is g) ox q (.int .i64 k),.off q 0 i ln 1,.ld1 (.is g) oy q (.int .i64 k),.cmp .neq k k false,.arith .add .i64 i 1 i1]):=by intros;kernel_rfl
theorem tl_out(K:Env)(j p:Int)(g:Hp) :
  pvCode Try.prog (pvCall Try.prog 0) 113 false (loopN Try.f7 0) ((78,.int .i64 j)::(77,.int .i64 p)::K) (.is g) [.bit false] =
  some (.exit 0,(79,.bool false)::(78,.int .i64 j)::(77,.int .i64 p)::K,.is g,[],[.cmp .lss j p false]):=by intros;kernel_rfl
end Go.Proofs.Ytlonjogfeidgfaa.c36p
namespace Go.Proofs.Ytlonjogfeidgfaa.c27p
open Go Go.Ev
set_option maxRecDepth 100000
set_option linter.unusedVariables false
theorem dl_out(K:Env)(j p:Int)(g:Hp) :
  pvCode Try.prog (pvCall Try.prog 0) 100 false (loopN Try.f4 1) ((67,.int .i64 j)::(66,.int .i64 p)::K) (.is g) [.bit false] =
  some (.exit 2,(68,.bool false)::(67,.int .i64 j)::(66,.int .i64 p)::K,.is g,[],[.cmp .lss j p false]):=by intros;kernel_rfl
end Go.Proofs.Ytlonjogfeidgfaa.c27p
namespace Go.Proofs.Ytlonjogfeidgfaa.gr
open Go Go.Ev Go.Proofs.Ytlonjogfeidgfaa.tr
set_option maxRecDepth 100000
set_option linter.unusedVariables false
set_option linter.constructorNameAsVariable false
section
variable {h:Hp}
end
section
variable {h:Hp} {ρ:Lay} {γ:GL} {x:GS} {c:Nat}
end
end Go.Proofs.Ytlonjogfeidgfaa.gr
namespace Go.Proofs.Ytlonjogfeidgfaa.gr
open Go Go.Ev Go.Proofs.Ytlonjogfeidgfaa.tr
set_option maxRecDepth 100000
set_option linter.unusedVariables false
set_option linter.constructorNameAsVariable false
theorem stat32:(Asm.stat (drawN Try.f32 0)).holds Try.prog:=show statOk (drawN Try.f32 0)=true by kernel_rfl
theorem mclone_run{h:Hp}{m:Nat}{es:List (Value×Value)}(hm:h[m]?=some (.mp es)):Run Try.prog 58 [.map (some m)] h (.map (some h.length)) (h++[AObj.mp es]) :=
 pvF 0 Try.func58 (c36p.mc m h.length h (h++[AObj.mp es])) ⟨Run.clone Try.func83 (by kernel_rfl) (by kernel_rfl) hm,trivial⟩
theorem dclone_run{h:Hp}{o:Nat}{l:List Pr}{junk:List Value}(ho:h[o]?=some (.cells (prL l++junk) true))(hb:l.length<=1000000) :
  ∃ d h',Run Try.prog 59 [.slice (some ⟨o,0,none⟩) l.length 2] h (.slice (some ⟨d,0,none⟩) l.length 2) h'/\Grow h h'/\h'[d]?=some (.cells (prL l) true)/\h.length<=d/\d<h'.length:=by
 have hlen:=prL_len l
 have h1:(prL l).all Value.oneCell'=true:=by
  clear ho hlen hb
  induction l with
  | nil=>rfl
  | cons p l ih=>simp[prL,prC,Value.oneCell',ih]
 cases hn:l.length with
 | zero =>
  have e:l=[]:=List.length_eq_zero_iff.1 hn
  subst e
  exact⟨h.length,_,pvF 0 Try.func59 (c36p.dc_0 o 0 h.length 0 [] h) ⟨rfl,⟨rfl,_,cells_of (gP ho),Nat.zero_le _⟩,trivial⟩,(Keep.refl (fun _=>False) _).pushN _,gW _ _,Nat.le_refl _,by simp[SH.den]⟩
 | succ n =>
  rw[hn] at hlen hb
  have r:=pvF 0 Try.func59 (c36p.dc_1 o n h.length (h.length+1) (prL l) h) ⟨rfl,⟨rfl,⟨_,cells_of (gP ho),by rw[List.length_append,hlen];omega,by rw[List.drop_zero,show Nat.succ n*2=(prL l).length from hlen.symm];simp⟩,h1,by (first | omega | (simp;omega)),by (first | omega | (simp;omega)),⟨_,own_of (gW _ _),by simp,by simp⟩,by simp[SH.den]⟩,trivial⟩
  rw[Nat.zero_add] at r
  exact⟨h.length+1,_,r,(((Keep.refl (fun _=>False) h).pushN _).setN (Nat.le_refl _) _).pushN _,gV _ (by simp[SH.den]),by omega,by simp[SH.den]⟩
section
variable {h:Hp} {ρ:Lay} {γ:GL} {x:GS} {c:Nat}
theorem copyG_run(a:GAt h ρ γ x)(ok:TOk c x.t)(hc:c<=100000)(hl:x.du.length<=100000) :
  ∃ σ δ h',Run Try.prog 32 [ptr γ.g] h (ptr δ.g) h'/\GAt h' σ δ x/\Grow h h'/\∀ q,fpG σ δ q->h.length<=q:=by
 obtain⟨r,hr,hp⟩:=root_ptr a
 obtain⟨b,σ,g1,R1,T1,M1⟩:=copy_run a.tat ok hc hr
 have K1:Grow h g1:=M1.keep
 have lt1:∀ q,fpT σ q->q<g1.length:=fun q ⟨r,e⟩=>T1.lt e
 have m1:g1[γ.m]?=some (.mp (mks x.tm)):=K1.2 _ _ a.tmo id
 have R2:=mclone_run m1
 obtain⟨g2,hg2⟩:∃ g2,g2=g1++[AObj.mp (mks x.tm)]:=⟨_,rfl⟩
 have K2:Grow g1 g2:=by rw[hg2];exact Keep.push _ _ _
 have n2:g2[γ.n]?=some (.mp (mks x.sm)):=(K1.trans K2).2 _ _ a.smo id
 have R3:=mclone_run n2
 obtain⟨g3,hg3⟩:∃ g3,g3=g2++[AObj.mp (mks x.sm)]:=⟨_,rfl⟩
 have K3:Grow g2 g3:=by rw[hg3];exact Keep.push _ _ _
 rw[<- hg2] at R2
 rw[<- hg3] at R3
 have l2:g2.length=g1.length+1:=by rw[hg2];simp
 have l3:g3.length=g2.length+1:=by rw[hg3];simp
 have O:=a.obj
 have O1:=K1.2 _ _ O id
 have O2:=K2.2 _ _ O1 id
 have O3:=K3.2 _ _ O2 id
 have hD:∃ δd g4,Run Try.prog 59 [slw γ.d x.du.length] g3 (slw δd x.du.length) g4/\Grow g3 g4/\(∀ d,δd=some d->g4[d]?=some (.cells (prL x.du) true)/\g3.length<=d/\d<g4.length)/\(δd=none->x.du=[]):=by
  cases hd:γ.d with
  | none=>exact⟨none,g3,pvF 0 Try.func59 (c36p.dc_nil 0 0 0 0 [] g3) trivial,.refl _,fun d e=>(by cases e),fun _=>a.dun hd⟩
  | some d =>
   obtain⟨junk,hj⟩:=a.duo d hd
   obtain⟨d',g4,R4,K4,hd',h1,h2⟩:=dclone_run ((K1.trans (K2.trans K3)).2 _ _ hj id) (by omega)
   exact⟨some d',g4,R4,K4,fun e he=>(by cases he;exact⟨hd',h1,h2⟩),fun e=>(by cases e)⟩
 obtain⟨δd,g4,R4,K4,D1,D2⟩:=hD
 have hv:∀ (o:Option Nat) n,veqR (slw o n)=true:=fun o n=>by cases o<;>rfl
 have A1:∀ {g':Hp},g'[γ.g]?=some (.cells [pvv (ρ .root),.map (some γ.m),.map (some γ.n),slw γ.d x.du.length] true)->(Asm.again (.is g') 84 (.pointer (some ⟨γ.g,1,none⟩)) (.map (some γ.m))).holds Try.prog:=fun e=>a_again1 agg84 e rfl rfl
 have A2:∀ {g':Hp},g'[γ.g]?=some (.cells [pvv (ρ .root),.map (some γ.m),.map (some γ.n),slw γ.d x.du.length] true)->(Asm.again (.is g') 84 (.pointer (some ⟨γ.g,2,none⟩)) (.map (some γ.n))).holds Try.prog:=fun e=>a_again1 agg84 e rfl rfl
 have A3:∀ {g':Hp},g'[γ.g]?=some (.cells [pvv (ρ .root),.map (some γ.m),.map (some γ.n),slw γ.d x.du.length] true)->(Asm.again (.is g') 86 (.pointer (some ⟨γ.g,3,none⟩)) (slw γ.d x.du.length)).holds Try.prog:=fun e=>a_again1 agg86 e rfl (hv _ _)
 have L0:(Asm.ld1 (.is h) γ.g 0 (ptr r)).holds Try.prog:=aL O (by rw[hp];rfl)
 have L1:(Asm.ld1 (.is g1) γ.g 1 (.map (some γ.m))).holds Try.prog:=aL O1 rfl
 have L2:(Asm.ld1 (.is g2) γ.g 2 (.map (some γ.n))).holds Try.prog:=aL O2 rfl
 have L3:(Asm.ld1 (.is g3) γ.g 3 (slw γ.d x.du.length)).holds Try.prog:=aL O3 rfl
 obtain⟨od,ld,zd,eD⟩:∃ od ld zd,slw γ.d x.du.length=.slice od ld zd:=by cases γ.d<;>exact⟨_,_,_,rfl⟩
 obtain⟨oe,le,ze,eE⟩:∃ od ld zd,slw δd x.du.length=.slice od ld zd:=by cases δd<;>exact⟨_,_,_,rfl⟩
 rw[eD] at A3 L3 R4
 rw[eE] at R4
 have B1:=A1 O
 have B2:=A1 O1
 have C0:=A2 O
 have C1:=A2 O1
 have C2:=A2 O2
 have E0:=A3 (by rw[<- eD];exact O)
 have E1:=A3 (by rw[<- eD];exact O1)
 have E2:=A3 (by rw[<- eD];exact O2)
 have E3:=A3 (by rw[<- eD];exact O3)
 have R:=pvF 0 Try.func32 (c36p.cg γ.g r b γ.m g1.length γ.n g2.length g4.length od oe ld zd le ze h g1 g2 g3 g4)
  ⟨stat32,B2,B1,B2,C2,C0,C1,C2,C1,C2,E3,E0,E1,E3,E1,E2,E3,E2,E3,L0,R1,L1,R2,L2,R3,L3,R4,rfl,trivial⟩
 have l4:=K4.1
 have K14:Grow g1 g4:=K2.trans (K3.trans K4)
 obtain⟨g5,hg5⟩:∃ g5,g5=g4++[AObj.cells [ptr b,.map (some g1.length),.map (some g2.length),.slice oe le ze] true]:=⟨_,rfl⟩
 have K5:Grow g4 g5:=by rw[hg5];exact Keep.push _ _ _
 refine⟨σ,⟨g4.length,g1.length,g2.length,δd⟩,g5,by rw[hg5];exact R,?_,(K1.trans K14).trans K5,?_⟩
 ·refine⟨T1.grow (K14.trans K5),?_,?_,?_,fun d e=>?_,D2,fun e=>?_,fun e=>?_,fun e=>?_,fun d e f=>?_,by show g1.length≠g2.length;omega,fun e=>?_⟩
  ·show g5[g4.length]?=_
   rw[hg5,gW,M1.root,eE];rfl
  ·exact (K3.trans (K4.trans K5)).2 _ _ (by rw[hg2];exact gW _ _) id
  ·exact (K4.trans K5).2 _ _ (by rw[hg3];exact gW _ _) id
  ·exact⟨[],by rw[List.append_nil];exact K5.2 _ _ (D1 d e).1 id⟩
  ·have:=lt1 _ e;simp only at this;omega
  ·have:=lt1 _ e;simp only at this;omega
  ·have:=lt1 _ e;simp only at this;omega
  ·have:=lt1 _ f;have:=(D1 d e).2.1;omega
  ·have:=(D1 _ e).2.2;simp only at this;omega
 ·intro q e
  have k1:=K1.1
  rcases e with e | e | e | e | e
  ·exact M1.new q e
  ·simp only at e;omega
  ·simp only at e;omega
  ·simp only at e;omega
  ·have:=(D1 q e).2.1;omega
end
section
variable {h:Hp}
variable {ρ:Lay} {γ:GL} {x:GS} {c:Nat}
theorem stat35:(Asm.stat (drawN Try.f35 0)).holds Try.prog:=show statOk (drawN Try.f35 0)=true by kernel_rfl
theorem equalI_loop{l:List Int}{oa ob:Option Addr}{za zb:Nat}(hb:l.length<=1000000)(A:l.length≠0->∃ o junk rw,oa=some ⟨o,0,none⟩/\za=1/\h[o]?=some (.cells (inL l++junk) rw))(B:l.length≠0->∃ o junk rw,ob=some ⟨o,0,none⟩/\zb=1/\h[o]?=some (.cells (inL l++junk) rw)) :
  ∀ (j i:Nat) (E:Env),i+j=l.length->EnvLe [(13,.int .i64 (i:Int)),(12,.int .i64 (Int.ofNat l.length)),(1,.slice ob l.length zb),(0,.slice oa l.length za)] E ->
   ∃ E1,LRun Try.prog 26 false (loopN Try.f35 0) E h (.exit 0) E1 h:=by
 intro j
 induction j with
 | zero =>
  intro i E hi hE
  have e:i=l.length:=by omega
  subst e
  obtain⟨E2,q1,q2⟩:=pvC 0 hE (c36p.eq_out oa ob l.length za zb l.length h) ⟨ltF (by simp),trivial⟩
  exact⟨E2,.last q2 (by simp)⟩
 | succ j ih =>
  intro i E hi hE
  obtain⟨w,hw⟩:∃ w,l[i]?=some w:=⟨_,List.getElem?_eq_getElem (by omega)⟩
  obtain⟨o,junk,rw1,rfl,rfl,ho⟩:=A (by omega)
  obtain⟨o',junk',rw2,rfl,rfl,ho'⟩:=B (by omega)
  have a1:∀ junk:List Value,(inL l++junk)[i]?=some (.int .i64 w):=fun junk=>by
   rw[List.getElem?_append_left (by rw[inL_len'];omega)];exact inL_at hw
  obtain⟨E2,q1,q2⟩:=pvC 0 hE (c36p.eq_go o o' l.length i i ((i+1:Nat):Int) w h)
   ⟨ltT (by simp;omega),stat35,offI (q:=i) rfl (by omega) (by omega),aL ho (a1 _),offI (q:=i) rfl (by omega) (by omega),aL ho' (a1 _),neF rfl,addI rfl (by omega) (by omega),trivial⟩
  obtain⟨E3,s1⟩:=ih (i+1) E2 (by omega) (.trans (.add (.add (.add (.add (.nil _) rfl) rfl) rfl) rfl) q1)
  exact⟨E3,.step q2 s1⟩
theorem equalI_run{l:List Int}{v v':Value}(hb:l.length<=1000000)(A:SlG h v l.length 1 (inL l))(B:SlG h v' l.length 1 (inL l)):Run Try.prog 35 [v,v'] h (.bool true) h:=by
 obtain⟨_,oa,za,rfl,A⟩:=A
 obtain⟨_,ob,zb,rfl,B⟩:=B
 obtain⟨E1,q1⟩:=equalI_loop hb A B l.length 0 [(13,.int .i64 (0:Nat)),(12,.int .i64 (Int.ofNat l.length)),(1,.slice ob l.length zb),(0,.slice oa l.length za)] (by omega) (EnvLe.refl _)
 exact pvF 0 Try.func35 (c36p.eq oa ob l.length za zb h h) ⟨neF rfl,a_loop (by kernel_rfl) (.add (.add (.add (.add (.nil _) rfl) rfl) rfl) rfl) (.nil _) q1,trivial⟩
end
structure Two(h g:Hp)(ρ1:Lay)(γ1:GL)(b1:Nat)(ρ2:Lay)(γ2:GL)(b2:Nat)(x y:GS):Prop where
 a1:GAt g ρ1 γ1 x
 a2:GAt g ρ2 γ2 y
 m1:GMade h g ρ1 γ1 b1
 m2:GMade h g ρ2 γ2 b2
 dis:∀ q,fpG ρ1 γ1 q->¬ fpG ρ2 γ2 q
section
variable {h g g':Hp} {ρ1 ρ2 ρ':Lay} {γ1 γ2 γ':GL} {b1 b2:Nat} {x y x':GS}
theorem Two.swap(T:Two h g ρ1 γ1 b1 ρ2 γ2 b2 x y):Two h g ρ2 γ2 b2 ρ1 γ1 b1 y x:=⟨T.a2,T.a1,T.m2,T.m1,fun q e f=>T.dis q f e⟩
theorem Two.step(T:Two h g ρ1 γ1 b1 ρ2 γ2 b2 x y)(a:GAt g' ρ' γ' x')(S:GStep ρ1 γ1 g ρ' γ' g'):Two h g' ρ' γ' b1 ρ2 γ2 b2 x' y :=
 ⟨a,T.a2.keep S.keep T.dis,T.m1.step S,⟨(T.m1.step S).keep,T.m2.g,T.m2.new⟩,fun q e f=>(S.new q e).elim (fun e=>T.dis q e f) fun e=>by have:=T.a2.lt f;omega⟩
theorem Two.grow(T:Two h g ρ1 γ1 b1 ρ2 γ2 b2 x y)(K:Grow g g'):Two h g' ρ1 γ1 b1 ρ2 γ2 b2 x y:=T.step (T.a1.grow K) (.grow K)
theorem Two.of_copy{c:Nat}{h0 h:Hp}{ρ:Lay}{γ:GL}{b:Nat}(a:GAt h ρ γ x)(m:GMade h0 h ρ γ b)(ok:TOk c x.t)(hc:c<=100000)(hl:x.du.length<=100000) :
  ∃ σ δ h',Run Try.prog 32 [ptr γ.g] h (ptr δ.g) h'/\Two h0 h' ρ γ b σ δ δ.g x x:=by
 obtain⟨σ,δ,h',R,a',K,hn⟩:=copyG_run a ok hc hl
 exact⟨σ,δ,h',R,a.grow K,a',m.grow K,⟨m.keep.trans K,rfl,fun q e=>Nat.le_trans m.keep.1 (hn q e)⟩,fun q e f=>by have:=a.lt e;have:=hn q f;omega⟩
end
end Go.Proofs.Ytlonjogfeidgfaa.gr
namespace Go.Proofs.Ytlonjogfeidgfaa.gr
open Go Go.Ev Go.Proofs.Ytlonjogfeidgfaa.tr
set_option maxRecDepth 100000
set_option linter.unusedVariables false
set_option linter.constructorNameAsVariable false
section
variable {h:Hp} {ρ:Lay} {γ:GL} {x:GS} {c:Nat}
end
end Go.Proofs.Ytlonjogfeidgfaa.gr
namespace Go.Proofs.Ytlonjogfeidgfaa.gr
open Go Go.Ev Go.Proofs.Ytlonjogfeidgfaa.tr
set_option linter.unusedVariables false
set_option linter.constructorNameAsVariable false
section
variable {t:TS} {c:Nat}
end
end Go.Proofs.Ytlonjogfeidgfaa.gr
namespace Go.Proofs.Ytlonjogfeidgfaa.gr
open Go Go.Ev Go.Proofs.Ytlonjogfeidgfaa.tr
set_option maxRecDepth 100000
set_option linter.unusedVariables false
set_option linter.constructorNameAsVariable false
end Go.Proofs.Ytlonjogfeidgfaa.gr
namespace Go.Proofs.Ytlonjogfeidgfaa.gr
open Go Go.Ev Go.Proofs.Ytlonjogfeidgfaa.tr
set_option maxRecDepth 100000
set_option linter.unusedVariables false
set_option linter.constructorNameAsVariable false
theorem a_appBig{s:SH}{i n j m z bytes q:Nat}{cs news:List Value}{rw:Bool}(h0:s.den[i]?=some (.cells cs true))(hl0:cs.length=n*z)(h1:s.den[j]?=some (.cells news rw))(hl:news.length=(m+1)*z)
  (ho:news.all Value.oneCell'=true) (hn:n<=10000000000) (hm:m<=1000000) (hb:bytes<=1000) (hq:s.den.length=q):(Asm.app s i 0 n j 0 (m+1) m z bytes (cs++news) news q).holds Try.prog:=by
 have:(n+(m+1))*bytes<=20000000001*1000:=Nat.mul_le_mul (by omega) hb
 refine⟨rfl,⟨_,cells_of h1,by simp[hl],?_⟩,ho,by omega,by omega,⟨_,own_of h0,by simp[hl0],?_⟩,hq⟩
 ·rw[List.drop_zero,<- hl,List.take_length]
 ·rw[List.drop_zero,<- hl0,List.take_length]
theorem runE_len:∀ (l:List OpV) {x:GS} {k:Nat},GOk k x->k+2*l.length<=400->(x.runE l).length<=100000*l.length
 | [],_,_,_,_=>Nat.le_refl _
 | o::l,x,k,ok,h=>by
  have h1:=run_efs ok (by omega) o
  have h2:=runE_len l (ok.run o) (by rw[List.length_cons] at h;omega)
  show ((x.run o).2.1++(x.run o).1.runE l).length<=_
  rw[List.length_append,List.length_cons];omega
section
variable {g g':Hp} {lo n z:Nat} {v:Value} {cs:List Value} {fp:Nat->Prop}
theorem slv_keepX(s:SlV g lo v n z cs)(K:Keep fp g g')(hf:∀ q,lo<=q->q<g.length->¬ fp q):SlV g' lo v n z cs:=by
 rcases s with s | ⟨a1,a2,o,a3,a4,a5⟩
 ·exact .inl s
 ·exact .inr ⟨a1,a2,o,a3,K.2 _ _ a4 (hf o a5 (get_lt a4)),a5⟩
end
structure EA(lo:Nat)(g:Hp)(ρ:Lay)(γ:GL)(v:Value)(A:List Ef):Prop where
 sl:SlV g lo v A.length 5 (efC A)
 off:∀ w n z,v=.slice (some ⟨w,0,none⟩) n z->¬ fpG ρ γ w
section
variable {h g g':Hp} {lo:Nat} {ρ ρ' ρ1 ρ2:Lay} {γ γ' γ1 γ2:GL} {v:Value} {A:List Ef} {b1 b2:Nat} {x y:GS}
theorem EA.run(a:EA lo g ρ γ v A)(S:GStep ρ γ g ρ' γ' g'):EA lo g' ρ' γ' v A:=by
 obtain⟨s,off⟩:=a
 rcases s with⟨a1,a2,rfl⟩ | ⟨a1,a2,o,rfl,a4,a5⟩
 ·exact⟨.inl ⟨a1,a2,rfl⟩,fun w n z e=>by cases e⟩
 ·refine⟨.inr ⟨a1,a2,o,rfl,S.keep.2 _ _ a4 (off _ _ _ rfl),a5⟩,fun w n z e f=>?_⟩
  cases e
  rcases S.new _ f with f | f
  ·exact off _ _ _ rfl f
  ·have:=get_lt a4;omega
theorem Two.other{fp:Nat->Prop}(T:Two h g ρ1 γ1 b1 ρ2 γ2 b2 x y)(K:Keep fp g g')(h1:∀ q,fp q->¬ fpG ρ1 γ1 q)(h2:∀ q,fp q->¬ fpG ρ2 γ2 q)(h3:∀ q,fp q->h.length<=q):Two h g' ρ1 γ1 b1 ρ2 γ2 b2 x y:=by
 have Kh:Grow h g':=T.m1.keep.trans_new K fun q hq e=>by have:=h3 q e;omega
 exact⟨T.a1.keep K h1,T.a2.keep K h2,⟨Kh,T.m1.g,T.m1.new⟩,⟨Kh,T.m2.g,T.m2.new⟩,T.dis⟩
end
abbrev C0e(b o p i:Nat)(v u7 u9 u10 u11 u13 u2:Value):Env:=[(47,.int .i64 (i:Int)),(46,.int .i64 (Int.ofNat p)),(45,.slice (some ⟨o,0,none⟩) p 6),(8,ptr b),(12,v),(7,u7),(9,u9),(10,u10),(11,u11),(13,u13),(2,u2)]
theorem c0_loop{h:Hp}{b b2 o p kk lo:Nat}{rw:Bool}{l:List OpV}{x y:GS}{ρ2:Lay}{γ2:GL}{u7 u9 u10 u11 u13 u2:Value}(hp:p<=l.length)(hp2:p<=30)(ho:h[o]?=some (.cells (opC l) rw))(gok:GOk kk x)(hkk:kk<=200)(hlo:h.length<=lo)(f2:∀ q,fpG ρ2 γ2 q->q<lo) :
  ∀ (j i:Nat) (E:Env) (g:Hp) (ρ1:Lay) (γ1:GL) (v:Value),i+j=p->EnvLe (C0e b o p i v u7 u9 u10 u11 u13 u2) E->Two h g ρ1 γ1 b ρ2 γ2 b2 (x.runL (l.take i)) y->lo<=g.length->EA lo g ρ1 γ1 v (x.runE (l.take i)) ->
  ∃ E1 g' ρ1' γ1' v',EnvLe [(12,v'),(8,ptr b),(7,u7),(9,u9),(10,u10),(11,u11),(13,u13),(2,u2)] E1/\LRun Try.prog 114 false (loopN Try.f8 0) E g (.exit 0) E1 g'/\Two h g' ρ1' γ1' b ρ2 γ2 b2 (x.runL (l.take p)) y/\EA lo g' ρ1' γ1' v' (x.runE (l.take p))/\Keep (fun q=>fpG ρ1 γ1 q\/lo<=q) g g':=by
 intro j
 induction j with
 | zero =>
  intro i E g ρ1 γ1 v hi hE T hg A
  have e:i=p:=by omega
  subst e
  obtain⟨E2,q1,q2⟩:=pvC 0 hE (c39p.c0_out b o i 0 0 0 0 0 0 0 i 0 0 0 0 0 false false ⟨#[]⟩ u2 u7 undef u9 u10 u11 undef u13 v [] [] g g) ⟨ltF (by simp),trivial⟩
  exact⟨E2,g,ρ1,γ1,v,(.trans (.add (.add (.add (.add (.add (.add (.add (.add (.nil _) rfl) rfl) rfl) rfl) rfl) rfl) rfl) rfl) q1),.last q2 (by simp),T,A,.refl _ _⟩
 | succ j ih =>
  intro i E g ρ1 γ1 v hi hE T hg A
  obtain⟨w,hw⟩:∃ w,l[i]?=some w:=⟨_,List.getElem?_eq_getElem (by omega)⟩
  have hog:=T.m1.get ho
  have hat:=opC_at hw
  have hlen:=opC_len l
  have hti:(l.take i).length<=i:=by simp;omega
  have ok:GOk (kk+2*(l.take i).length) (x.runL (l.take i)):=gok.runL
  have hE0:=runE_len (l.take i) gok (by omega)
  have hn1:x.runL (l.take (i+1))=((x.runL (l.take i)).run w).1:=by rw[take_one hw,runL_app];rfl
  have hn2:x.runE (l.take (i+1))=x.runE (l.take i)++((x.runL (l.take i)).run w).2.1:=by
   rw[take_one hw,runE_app]
   show _++(_++[])=_
   rw[List.append_nil]
  obtain⟨X,hX⟩:∃ X,X=x.runL (l.take i):=⟨_,rfl⟩
  obtain⟨B,hB⟩:∃ B,B=x.runE (l.take i):=⟨_,rfl⟩
  rw[<- hX] at T ok hn1 hn2
  rw[<- hB] at A hn2 hE0
  obtain⟨ga,hga⟩:∃ ga,ga=(g++[AObj.cells [.int .i64 0,.int .i64 0,.int .i64 0,.bool false,.int .i64 0,.string ⟨#[]⟩] true]).set g.length (.cells w.cells true):=⟨_,rfl⟩
  have hd:ga[g.length]?=some (.cells w.cells true):=by rw[hga];exact gE (gW _ _)
  have Ka:Grow g ga:=by rw[hga];exact ((Keep.refl (fun _=>False) g).pushN _).setN (Nat.le_refl _) _
  have Ta:=T.grow Ka
  have Aa:=A.run (.grow Ka)
  obtain⟨ev,ρ',γ',g1,R1,a',S1,s1⟩:=run_run Ta.a1 ok (by omega) w
  rw[Ta.m1.g] at R1
  have T1:=Ta.step a' S1
  have A1:=Aa.run S1
  have hefs:=run_efs ok (by omega) w
  have lga:=Ka.1
  have lg1:=S1.keep.1
  have K01:Keep (fun q=>fpG ρ1 γ1 q\/lo<=q) g g1:=(Ka.mono fun _ _ e=>e.elim).trans (S1.keep.mono fun _ _ e=>.inl e)
  have X1:(Asm.cmp .lss (i:Int) (Int.ofNat p) true).holds Try.prog:=ltT (by simp only[Int.ofNat_eq_natCast];omega)
  have X2:(Asm.off (i*6) 0 (i:Int) p 6).holds Try.prog:=offI (q:=i) rfl (by omega) (by omega)
  have X3:(Asm.ldn (.is g) o (i*6) 6 w.cells).holds Try.prog:=aN hog (by omega) hat
  have X4:(Asm.st (.push (.is g) (.cells [.int .i64 0,.int .i64 0,.int .i64 0,.bool false,.int .i64 0,.string ⟨#[]⟩] true)) g.length 0 w.cells w.cells).holds Try.prog:=a_st (gW _ _) (by simp[OpV.cells]) rfl
  have X6:∀ s:SH,s.den=ga->(Asm.ldn s g.length 0 6 w.cells).holds Try.prog:=fun s e=>aN (by rw[e];exact hd) (by simp[OpV.cells]) rfl
  have X9:(Asm.arith .add .i64 (i:Int) 1 ((i+1:Nat):Int)).holds Try.prog:=addI rfl (by omega) (by omega)
  have fin:∀ {E2:Env} {gN:Hp} {vN:Value},EnvLe (C0e b o p (i+1) vN u7 u9 u10 u11 u13 u2) E2->Two h gN ρ' γ' b ρ2 γ2 b2 (X.run w).1 y->Keep (fun q=>lo<=q) g1 gN->EA lo gN ρ' γ' vN (B++(X.run w).2.1)->CRun Try.prog 114 false (loopN Try.f8 0) E g .normal E2 gN ->
    ∃ E1 g' ρ1' γ1' v',EnvLe [(12,v'),(8,ptr b),(7,u7),(9,u9),(10,u10),(11,u11),(13,u13),(2,u2)] E1/\LRun Try.prog 114 false (loopN Try.f8 0) E g (.exit 0) E1 g'/\Two h g' ρ1' γ1' b ρ2 γ2 b2 (x.runL (l.take p)) y/\EA lo g' ρ1' γ1' v' (x.runE (l.take p))/\Keep (fun q=>fpG ρ1 γ1 q\/lo<=q) g g':=by
   intro E2 gN vN e2 TN KN AN c2
   have lgN:=KN.1
   obtain⟨E3,g4,ρ4,γ4,v4,z1,z2,z3,z4,z5⟩:=ih (i+1) E2 gN ρ' γ' vN (by omega) e2 (by rw[hn1];exact TN) (by omega) (by rw[hn2];exact AN)
   refine⟨E3,g4,ρ4,γ4,v4,z1,.step c2 z2,z3,z4,(K01.trans (KN.mono fun _ _ e=>.inr e)).trans (z5.mono fun q _ e=>?_)⟩
   rcases e with e | e
   ·rcases S1.new q e with e | e
    ·exact .inl e
    ·exact .inr (by omega)
   ·exact .inr e
  rcases s1 with⟨e1,e2,rfl⟩ | ⟨e1,e2,mm,rfl,m4,m5⟩
  ·have es:(X.run w).2.1=[]:=List.length_eq_zero_iff.1 e1
   have AN:EA lo g1 ρ' γ' v (B++(X.run w).2.1):=by rw[es,List.append_nil];exact A1
   rcases A1.sl with⟨o1,o2,rfl⟩ | ⟨o1,o2,ww,rfl,o4,o5⟩
   ·obtain⟨E2,q1,q2⟩:=pvC 0 hE (c39p.c0_0 b o p (i*6) g.length 0 0 0 0 0 i ((i+1:Nat):Int) w.k w.n w.m w.fk w.y (X.run w).2.2 w.ft u2 u7 undef u9 u10 u11 undef u13 undef [] [] g g1)
     ⟨X1,X2,X3,rfl,X4,X6 _ hga.symm,by rw[hga] at R1;exact R1,X9,trivial⟩
    exact fin (.trans (.add (.add (.add (.add (.add (.add (.add (.add (.add (.add (.add (.nil _) rfl) rfl) rfl) rfl) rfl) rfl) rfl) rfl) rfl) rfl) rfl) q1) T1 (.refl _ _) AN q2
   ·obtain⟨E2,q1,q2⟩:=pvC 0 hE (c39p.c0_0s b o p (i*6) g.length ww B.length 0 0 0 i ((i+1:Nat):Int) w.k w.n w.m w.fk w.y (X.run w).2.2 w.ft u2 u7 undef u9 u10 u11 undef u13 undef [] [] g g1)
     ⟨X1,X2,X3,rfl,X4,X6 _ hga.symm,by rw[hga] at R1;exact R1,X9,trivial⟩
    exact fin (.trans (.add (.add (.add (.add (.add (.add (.add (.add (.add (.add (.add (.nil _) rfl) rfl) rfl) rfl) rfl) rfl) rfl) rfl) rfl) rfl) rfl) q1) T1 (.refl _ _) AN q2
  ·obtain⟨k1,hk1⟩:∃ k1,(X.run w).2.1.length=k1+1:=⟨(X.run w).2.1.length-1,by omega⟩
   rcases A1.sl with⟨o1,o2,rfl⟩ | ⟨o1,o2,ww,rfl,o4,o5⟩
   ·have B0:B=[]:=List.length_eq_zero_iff.1 o1
    have ap:(Asm.appNil (.is g1) mm 0 (k1+1) k1 5 48 (efC (X.run w).2.1) g1.length).holds Try.prog:=a_appNJ (junk:=[]) (by rw[List.append_nil];exact m4) (by rw[efC_len,hk1]) (efC_one _) (by omega) (by omega) rfl
    have R1:Run Try.prog 13 [ptr b,.agg w.cells.toArray] ga (.tuple #[.slice (some ⟨mm,0,none⟩) (k1+1) 5,.bool (X.run w).2.2]) g1:=by rw[<- hk1];exact R1
    obtain⟨E2,q1,q2⟩:=pvC 0 hE (c39p.c0_n b o p (i*6) g.length 0 0 mm k1 g1.length i ((i+1:Nat):Int) w.k w.n w.m w.fk w.y (X.run w).2.2 w.ft u2 u7 undef u9 u10 u11 undef u13 undef [] (efC (X.run w).2.1) g g1)
     ⟨X1,X2,X3,rfl,X4,X6 _ hga.symm,by rw[hga] at R1;exact R1,ap,X9,trivial⟩
    have Kp:Grow g1 (g1++[AObj.cells (efC (X.run w).2.1) true]):=Keep.push _ _ _
    refine fin (vN:=.slice (some ⟨g1.length,0,none⟩) (k1+1) 5) (.trans (.add (.add (.add (.add (.add (.add (.add (.add (.add (.add (.add (.nil _) rfl) rfl) rfl) rfl) rfl) rfl) rfl) rfl) rfl) rfl) rfl) q1) (T1.grow Kp) (Kp.mono fun _ _ e=>e.elim) ⟨?_,fun u n z e f=>?_⟩ q2
    ·rw[B0,List.nil_append]
     exact .inr ⟨by omega,by rw[efC_len],g1.length,by rw[hk1],gW _ _,by omega⟩
    ·cases e
     have:=T1.a1.lt f;omega
   ·have ap:(Asm.app (.is g1) ww 0 B.length mm 0 (k1+1) k1 5 48 (efC B++efC (X.run w).2.1) (efC (X.run w).2.1) g1.length).holds Try.prog:=a_appBig o4 (efC_len _) m4 (by rw[efC_len,hk1]) (efC_one _) (by omega) (by omega) (by omega) rfl
    have R1:Run Try.prog 13 [ptr b,.agg w.cells.toArray] ga (.tuple #[.slice (some ⟨mm,0,none⟩) (k1+1) 5,.bool (X.run w).2.2]) g1:=by rw[<- hk1];exact R1
    obtain⟨E2,q1,q2⟩:=pvC 0 hE (c39p.c0_s b o p (i*6) g.length ww B.length mm k1 g1.length i ((i+1:Nat):Int) w.k w.n w.m w.fk w.y (X.run w).2.2 w.ft u2 u7 undef u9 u10 u11 undef u13 undef (efC B++efC (X.run w).2.1) (efC (X.run w).2.1) g g1)
     ⟨X1,X2,X3,rfl,X4,X6 _ hga.symm,by rw[hga] at R1;exact R1,ap,X9,trivial⟩
    have Kp:Keep (fun q=>q=ww) g1 ((g1.set ww .dead)++[AObj.cells (efC B++efC (X.run w).2.1) true]):=(Keep.set (fp:=fun q=>q=ww) rfl _).trans (Keep.push _ _ _)
    have TN:=T1.other Kp (fun q e=>by subst e;exact A1.off _ _ _ rfl) (fun q e f=>by have:=f2 q f;omega) (fun q e=>by omega)
    refine fin (vN:=.slice (some ⟨g1.length,0,none⟩) (B.length+(k1+1)) 5) (.trans (.add (.add (.add (.add (.add (.add (.add (.add (.add (.add (.add (.nil _) rfl) rfl) rfl) rfl) rfl) rfl) rfl) rfl) rfl) rfl) rfl) q1) TN (Kp.mono fun q _ e=>by omega) ⟨?_,fun u n z e f=>?_⟩ q2
    ·exact .inr ⟨by rw[List.length_append];omega,by rw[efC_len],g1.length,by rw[List.length_append,hk1],by rw[efC_app];exact gV _ (by simp),by omega⟩
    ·cases e
     have:=T1.a1.lt f;omega
abbrev C1e(b o p i:Nat)(v u8 u12:Value):Env:=[(87,.int .i64 (i:Int)),(86,.int .i64 (Int.ofNat p)),(85,.slice (some ⟨o,0,none⟩) p 6),(7,ptr b),(13,v),(8,u8),(12,u12)]
theorem c1_loop{h:Hp}{b b2 o p kk lo:Nat}{rw:Bool}{l:List OpV}{x y:GS}{ρ2:Lay}{γ2:GL}{u8 u12:Value}(hp:p<=l.length)(hp2:p<=30)(ho:h[o]?=some (.cells (opC l) rw))(gok:GOk kk x)(hkk:kk<=200)(hlo:h.length<=lo)(f2:∀ q,fpG ρ2 γ2 q->q<lo) :
  ∀ (j i:Nat) (E:Env) (g:Hp) (ρ1:Lay) (γ1:GL) (v:Value),i+j=p->EnvLe (C1e b o p i v u8 u12) E->Two h g ρ1 γ1 b ρ2 γ2 b2 (x.runL (l.take i)) y->lo<=g.length->EA lo g ρ1 γ1 v (x.runE (l.take i)) ->
  ∃ E1 g' ρ1' γ1' v',EnvLe [(13,v'),(7,ptr b),(8,u8),(12,u12)] E1/\LRun Try.prog 114 false (loopN Try.f8 1) E g (.exit 2) E1 g'/\Two h g' ρ1' γ1' b ρ2 γ2 b2 (x.runL (l.take p)) y/\EA lo g' ρ1' γ1' v' (x.runE (l.take p))/\Keep (fun q=>fpG ρ1 γ1 q\/lo<=q) g g':=by
 intro j
 induction j with
 | zero =>
  intro i E g ρ1 γ1 v hi hE T hg A
  have e:i=p:=by omega
  subst e
  obtain⟨E2,q1,q2⟩:=pvC 0 hE (c39p.c1_out b o i 0 0 0 0 0 0 0 i 0 0 0 0 0 false false ⟨#[]⟩ undef undef u8 undef undef undef u12 undef v [] [] g g) ⟨ltF (by simp),trivial⟩
  exact⟨E2,g,ρ1,γ1,v,(.trans (.add (.add (.add (.add (.nil _) rfl) rfl) rfl) rfl) q1),.last q2 (by simp),T,A,.refl _ _⟩
 | succ j ih =>
  intro i E g ρ1 γ1 v hi hE T hg A
  obtain⟨w,hw⟩:∃ w,l[i]?=some w:=⟨_,List.getElem?_eq_getElem (by omega)⟩
  have hog:=T.m1.get ho
  have hat:=opC_at hw
  have hlen:=opC_len l
  have hti:(l.take i).length<=i:=by simp;omega
  have ok:GOk (kk+2*(l.take i).length) (x.runL (l.take i)):=gok.runL
  have hE0:=runE_len (l.take i) gok (by omega)
  have hn1:x.runL (l.take (i+1))=((x.runL (l.take i)).run w).1:=by rw[take_one hw,runL_app];rfl
  have hn2:x.runE (l.take (i+1))=x.runE (l.take i)++((x.runL (l.take i)).run w).2.1:=by
   rw[take_one hw,runE_app]
   show _++(_++[])=_
   rw[List.append_nil]
  obtain⟨X,hX⟩:∃ X,X=x.runL (l.take i):=⟨_,rfl⟩
  obtain⟨B,hB⟩:∃ B,B=x.runE (l.take i):=⟨_,rfl⟩
  rw[<- hX] at T ok hn1 hn2
  rw[<- hB] at A hn2 hE0
  obtain⟨ga,hga⟩:∃ ga,ga=(g++[AObj.cells [.int .i64 0,.int .i64 0,.int .i64 0,.bool false,.int .i64 0,.string ⟨#[]⟩] true]).set g.length (.cells w.cells true):=⟨_,rfl⟩
  have hd:ga[g.length]?=some (.cells w.cells true):=by rw[hga];exact gE (gW _ _)
  have Ka:Grow g ga:=by rw[hga];exact ((Keep.refl (fun _=>False) g).pushN _).setN (Nat.le_refl _) _
  have Ta:=T.grow Ka
  have Aa:=A.run (.grow Ka)
  obtain⟨ev,ρ',γ',g1,R1,a',S1,s1⟩:=run_run Ta.a1 ok (by omega) w
  rw[Ta.m1.g] at R1
  have T1:=Ta.step a' S1
  have A1:=Aa.run S1
  have hefs:=run_efs ok (by omega) w
  have lga:=Ka.1
  have lg1:=S1.keep.1
  have K01:Keep (fun q=>fpG ρ1 γ1 q\/lo<=q) g g1:=(Ka.mono fun _ _ e=>e.elim).trans (S1.keep.mono fun _ _ e=>.inl e)
  have X1:(Asm.cmp .lss (i:Int) (Int.ofNat p) true).holds Try.prog:=ltT (by simp only[Int.ofNat_eq_natCast];omega)
  have X2:(Asm.off (i*6) 0 (i:Int) p 6).holds Try.prog:=offI (q:=i) rfl (by omega) (by omega)
  have X3:(Asm.ldn (.is g) o (i*6) 6 w.cells).holds Try.prog:=aN hog (by omega) hat
  have X4:(Asm.st (.push (.is g) (.cells [.int .i64 0,.int .i64 0,.int .i64 0,.bool false,.int .i64 0,.string ⟨#[]⟩] true)) g.length 0 w.cells w.cells).holds Try.prog:=a_st (gW _ _) (by simp[OpV.cells]) rfl
  have X6:∀ s:SH,s.den=ga->(Asm.ldn s g.length 0 6 w.cells).holds Try.prog:=fun s e=>aN (by rw[e];exact hd) (by simp[OpV.cells]) rfl
  have X9:(Asm.arith .add .i64 (i:Int) 1 ((i+1:Nat):Int)).holds Try.prog:=addI rfl (by omega) (by omega)
  have fin:∀ {E2:Env} {gN:Hp} {vN:Value},EnvLe (C1e b o p (i+1) vN u8 u12) E2->Two h gN ρ' γ' b ρ2 γ2 b2 (X.run w).1 y->Keep (fun q=>lo<=q) g1 gN->EA lo gN ρ' γ' vN (B++(X.run w).2.1)->CRun Try.prog 114 false (loopN Try.f8 1) E g .normal E2 gN ->
    ∃ E1 g' ρ1' γ1' v',EnvLe [(13,v'),(7,ptr b),(8,u8),(12,u12)] E1/\LRun Try.prog 114 false (loopN Try.f8 1) E g (.exit 2) E1 g'/\Two h g' ρ1' γ1' b ρ2 γ2 b2 (x.runL (l.take p)) y/\EA lo g' ρ1' γ1' v' (x.runE (l.take p))/\Keep (fun q=>fpG ρ1 γ1 q\/lo<=q) g g':=by
   intro E2 gN vN e2 TN KN AN c2
   have lgN:=KN.1
   obtain⟨E3,g4,ρ4,γ4,v4,z1,z2,z3,z4,z5⟩:=ih (i+1) E2 gN ρ' γ' vN (by omega) e2 (by rw[hn1];exact TN) (by omega) (by rw[hn2];exact AN)
   refine⟨E3,g4,ρ4,γ4,v4,z1,.step c2 z2,z3,z4,(K01.trans (KN.mono fun _ _ e=>.inr e)).trans (z5.mono fun q _ e=>?_)⟩
   rcases e with e | e
   ·rcases S1.new q e with e | e
    ·exact .inl e
    ·exact .inr (by omega)
   ·exact .inr e
  rcases s1 with⟨e1,e2,rfl⟩ | ⟨e1,e2,mm,rfl,m4,m5⟩
  ·have es:(X.run w).2.1=[]:=List.length_eq_zero_iff.1 e1
   have AN:EA lo g1 ρ' γ' v (B++(X.run w).2.1):=by rw[es,List.append_nil];exact A1
   rcases A1.sl with⟨o1,o2,rfl⟩ | ⟨o1,o2,ww,rfl,o4,o5⟩
   ·obtain⟨E2,q1,q2⟩:=pvC 0 hE (c39p.c1_0 b o p (i*6) g.length 0 0 0 0 0 i ((i+1:Nat):Int) w.k w.n w.m w.fk w.y (X.run w).2.2 w.ft undef undef u8 undef undef undef u12 undef undef [] [] g g1)
     ⟨X1,X2,X3,rfl,X4,X6 _ hga.symm,by rw[hga] at R1;exact R1,X9,trivial⟩
    exact fin (.trans (.add (.add (.add (.add (.add (.add (.add (.nil _) rfl) rfl) rfl) rfl) rfl) rfl) rfl) q1) T1 (.refl _ _) AN q2
   ·obtain⟨E2,q1,q2⟩:=pvC 0 hE (c39p.c1_0s b o p (i*6) g.length ww B.length 0 0 0 i ((i+1:Nat):Int) w.k w.n w.m w.fk w.y (X.run w).2.2 w.ft undef undef u8 undef undef undef u12 undef undef [] [] g g1)
     ⟨X1,X2,X3,rfl,X4,X6 _ hga.symm,by rw[hga] at R1;exact R1,X9,trivial⟩
    exact fin (.trans (.add (.add (.add (.add (.add (.add (.add (.nil _) rfl) rfl) rfl) rfl) rfl) rfl) rfl) q1) T1 (.refl _ _) AN q2
  ·obtain⟨k1,hk1⟩:∃ k1,(X.run w).2.1.length=k1+1:=⟨(X.run w).2.1.length-1,by omega⟩
   rcases A1.sl with⟨o1,o2,rfl⟩ | ⟨o1,o2,ww,rfl,o4,o5⟩
   ·have B0:B=[]:=List.length_eq_zero_iff.1 o1
    have ap:(Asm.appNil (.is g1) mm 0 (k1+1) k1 5 48 (efC (X.run w).2.1) g1.length).holds Try.prog:=a_appNJ (junk:=[]) (by rw[List.append_nil];exact m4) (by rw[efC_len,hk1]) (efC_one _) (by omega) (by omega) rfl
    have R1:Run Try.prog 13 [ptr b,.agg w.cells.toArray] ga (.tuple #[.slice (some ⟨mm,0,none⟩) (k1+1) 5,.bool (X.run w).2.2]) g1:=by rw[<- hk1];exact R1
    obtain⟨E2,q1,q2⟩:=pvC 0 hE (c39p.c1_n b o p (i*6) g.length 0 0 mm k1 g1.length i ((i+1:Nat):Int) w.k w.n w.m w.fk w.y (X.run w).2.2 w.ft undef undef u8 undef undef undef u12 undef undef [] (efC (X.run w).2.1) g g1)
     ⟨X1,X2,X3,rfl,X4,X6 _ hga.symm,by rw[hga] at R1;exact R1,ap,X9,trivial⟩
    have Kp:Grow g1 (g1++[AObj.cells (efC (X.run w).2.1) true]):=Keep.push _ _ _
    refine fin (vN:=.slice (some ⟨g1.length,0,none⟩) (k1+1) 5) (.trans (.add (.add (.add (.add (.add (.add (.add (.nil _) rfl) rfl) rfl) rfl) rfl) rfl) rfl) q1) (T1.grow Kp) (Kp.mono fun _ _ e=>e.elim) ⟨?_,fun u n z e f=>?_⟩ q2
    ·rw[B0,List.nil_append]
     exact .inr ⟨by omega,by rw[efC_len],g1.length,by rw[hk1],gW _ _,by omega⟩
    ·cases e
     have:=T1.a1.lt f;omega
   ·have ap:(Asm.app (.is g1) ww 0 B.length mm 0 (k1+1) k1 5 48 (efC B++efC (X.run w).2.1) (efC (X.run w).2.1) g1.length).holds Try.prog:=a_appBig o4 (efC_len _) m4 (by rw[efC_len,hk1]) (efC_one _) (by omega) (by omega) (by omega) rfl
    have R1:Run Try.prog 13 [ptr b,.agg w.cells.toArray] ga (.tuple #[.slice (some ⟨mm,0,none⟩) (k1+1) 5,.bool (X.run w).2.2]) g1:=by rw[<- hk1];exact R1
    obtain⟨E2,q1,q2⟩:=pvC 0 hE (c39p.c1_s b o p (i*6) g.length ww B.length mm k1 g1.length i ((i+1:Nat):Int) w.k w.n w.m w.fk w.y (X.run w).2.2 w.ft undef undef u8 undef undef undef u12 undef undef (efC B++efC (X.run w).2.1) (efC (X.run w).2.1) g g1)
     ⟨X1,X2,X3,rfl,X4,X6 _ hga.symm,by rw[hga] at R1;exact R1,ap,X9,trivial⟩
    have Kp:Keep (fun q=>q=ww) g1 ((g1.set ww .dead)++[AObj.cells (efC B++efC (X.run w).2.1) true]):=(Keep.set (fp:=fun q=>q=ww) rfl _).trans (Keep.push _ _ _)
    have TN:=T1.other Kp (fun q e=>by subst e;exact A1.off _ _ _ rfl) (fun q e f=>by have:=f2 q f;omega) (fun q e=>by omega)
    refine fin (vN:=.slice (some ⟨g1.length,0,none⟩) (B.length+(k1+1)) 5) (.trans (.add (.add (.add (.add (.add (.add (.add (.nil _) rfl) rfl) rfl) rfl) rfl) rfl) rfl) q1) TN (Kp.mono fun q _ e=>by omega) ⟨?_,fun u n z e f=>?_⟩ q2
    ·exact .inr ⟨by rw[List.length_append];omega,by rw[efC_len],g1.length,by rw[List.length_append,hk1],by rw[efC_app];exact gV _ (by simp),by omega⟩
    ·cases e
     have:=T1.a1.lt f;omega
def cpOk(x:GS)(l:List OpV):Prop:=x.over.runE l=x.runE l/\(x.over.runL l).pends=(x.runL l).pends
theorem copieslaw_run{h:Hp}{l1 l2:List OpV}{v1 v2:Value}(n:Int)(hv:OpsAt h v1 l1)(hv2:OpsAt h v2 l2)(H:1<=n->n<=64->cpOk ((GS.roots n.toNat).runL (l1.take 60)) (l2.take 30)):∃ h',Run Try.prog 8 [.int .i64 n,v1,v2] h (.bool true) h':=by
 rcases made_run n hv with⟨_,r⟩ | ⟨h1,h2,b,ρ,γ,g1,r,a,m⟩
 ·exact⟨h,pvF 0 Try.func8 (c39p.cp_err n v1 v2 h h h) ⟨r,awake_run h,trivial⟩⟩
 ·have H:=H h1 h2
  have til:(l1.take 60).length<=60:=by simp;omega
  have G0:GOk (n.toNat+2*(l1.take 60).length) ((GS.roots n.toNat).runL (l1.take 60)):=(GOk.roots (by omega)).runL
  have hkk:n.toNat+2*(l1.take 60).length<=184:=by omega
  revert a H G0
  generalize (GS.roots n.toNat).runL (l1.take 60)=x
  generalize n.toNat+2*(l1.take 60).length=kk at hkk
  intro a H G0
  have G1:=G0.over
  obtain⟨c0,ok0,W0,J0,hc0⟩:=id G0
  obtain⟨c1,ok1,W1,J1,hc1⟩:=id G1
  obtain⟨σ,δ,g2,R2,T2⟩:=Two.of_copy a m ok0 (by omega) (by omega)
  rw[m.g] at R2
  obtain⟨w,g3,R3,K3,s3⟩:=pending_run T2.a1 ok0 (by omega) W0
  rw[m.g] at R3
  have T3:=T2.grow K3
  obtain⟨g4,R4,a4,S4⟩:=next_run T3.a1 ok0 (by omega) (by omega)
  rw[m.g] at R4
  have T4:=T3.step a4 S4
  have lt2:∀ q,fpG ρ γ q->q<g2.length:=fun q e=>T2.a1.lt e
  have ltd:∀ q,fpG σ δ q->q<g2.length:=fun q e=>T2.a2.lt e
  have k3:=K3.1
  have k4:=S4.keep.1
  have s4:SlV g4 g2.length w x.pends.length 1 (inL x.pends):=s3.keep S4.keep lt2
  have hpl:=pends_le x
  obtain⟨ow,lw,zw,rfl⟩:∃ a b c,w=.slice a b c:=by rcases s3 with⟨_,_,h⟩ | ⟨_,_,_,h,_⟩<;>exact⟨_,_,_,h⟩
  have nx2:x.over.over.nx=x.over.nx:=by rw[over_over]
  have fin:∀ {g8:Hp} {ρ' σ':Lay} {γ' δ':GL} {l':List OpV} {kk1 kk2:Nat},Two h g8 ρ' γ' b σ' δ' δ.g (x.over.runL l') (x.runL l')->GOk kk1 (x.over.runL l')->GOk kk2 (x.runL l')->kk1<=900->kk2<=900->(x.over.runL l').pends=(x.runL l').pends ->
    ∃ od ld zd oe le ze g9 g10,Run Try.prog 12 [ptr b] g8 (.slice od ld zd) g9/\Run Try.prog 12 [ptr δ.g] g9 (.slice oe le ze) g10/\Run Try.prog 35 [.slice od ld zd,.slice oe le ze] g10 (.bool true) g10:=by
   intro g8 ρ' σ' γ' δ' l' kk1 kk2 T8 q1 q2 hk1 hk2 he
   obtain⟨d1,o1,w1,_,hd1⟩:=id q1
   obtain⟨d2,o2,w2,_,hd2⟩:=id q2
   obtain⟨u1,g9,R9,K9,s9⟩:=pending_run T8.a1 o1 (by omega) w1
   have T9:=T8.grow K9
   obtain⟨u2,g10,R10,K10,s10⟩:=pending_run T9.a2 o2 (by omega) w2
   rw[T8.m1.g] at R9
   rw[T9.m2.g] at R10
   have hp8:=pends_le (x.runL l')
   rw[he] at s9
   have Q:=equalI_run (by omega) (s9.keep K10 fun q e=>e.elim).g s10.g
   obtain⟨od,ld,zd,rfl⟩:∃ a b c,u1=.slice a b c:=by rcases s9 with⟨_,_,h⟩ | ⟨_,_,_,h,_⟩<;>exact⟨_,_,_,h⟩
   obtain⟨oe,le,ze,rfl⟩:∃ a b c,u2=.slice a b c:=by rcases s10 with⟨_,_,h⟩ | ⟨_,_,_,h,_⟩<;>exact⟨_,_,_,h⟩
   exact⟨od,ld,zd,oe,le,ze,g9,g10,R9,R10,Q⟩
  have mid:∀ {g5:Hp} {σ':Lay} {δ':GL} {y:GS},Two h g5 ρ γ b σ' δ' δ.g x.over y->SlV g5 g2.length (.slice ow lw zw) x.pends.length 1 (inL x.pends) ->
    ∃ oc lc zc g6 g7,Run Try.prog 28 [ptr b] g5 (.tuple #[.int .i64 x.over.nx.1,.bool x.over.nx.2]) g6/\Run Try.prog 12 [ptr b] g6 (.slice oc lc zc) g7/\Run Try.prog 35 [.slice oc lc zc,.slice ow lw zw] g7 (.bool true) g7/\Two h g7 ρ γ b σ' δ' δ.g x.over y/\Keep (fpG ρ γ) g5 g7:=by
   intro g5 σ' δ' y T5 s5
   obtain⟨g6,R6,a6,S6⟩:=next_run T5.a1 ok1 (by omega) (by omega)
   rw[m.g,nx2] at R6
   rw[over_over] at a6
   have T6:=T5.step a6 S6
   obtain⟨u,g7,R7,K7,s7⟩:=pending_run T6.a1 ok1 (by omega) W1
   rw[m.g] at R7
   have s7':SlV g7 g2.length (.slice ow lw zw) x.pends.length 1 (inL x.pends):=(s5.keep S6.keep lt2).keep K7 fun q e=>e.elim
   have s7:SlV g7 g6.length u x.pends.length 1 (inL x.pends):=s7
   have Q:=equalI_run (by omega) s7.g s7'.g
   obtain⟨oc,lc,zc,rfl⟩:∃ a b c,u=.slice a b c:=by rcases s7 with⟨_,_,h⟩ | ⟨_,_,_,h,_⟩<;>exact⟨_,_,_,h⟩
   exact⟨oc,lc,zc,g6,g7,R6,R7,Q,T6.grow K7,S6.keep.trans (K7.mono fun _ _ e=>e.elim)⟩
  rcases hv2 with⟨rfl,rfl⟩ | ⟨o,rw,rfl,ho⟩
  ·obtain⟨oc,lc,zc,g6,g7,R6,R7,Q7,T7,K7⟩:=mid T4 s4
   obtain⟨od,ld,zd,oe,le,ze,g9,g10,R9,R10,Q10⟩:=fin (l':=[]) T7 G1 G0 (by omega) (by omega) rfl
   have M0:(Asm.mm false 0 30 0).holds Try.prog:=by simp[Asm.holds]
   have Q8:Run Try.prog 34 [.slice none 0 0,.slice none 0 0] g7 (.bool true) g7:=equalEf_run (l:=[]) (by simp) ⟨rfl,none,0,rfl,fun e=>absurd rfl e⟩ ⟨rfl,none,0,rfl,fun e=>absurd rfl e⟩
   cases hok:x.over.nx.2 with
   | true =>
    rw[hok] at R4 R6
    exact⟨g10,pvF 0 Try.func8 (c39p.cp_ntrue b δ.g 0 0 0 lw zw 0 0 0 0 lc zc ld zd le ze ow none none oc od oe n x.over.nx.1 v1 h g1 g2 g3 g4 g4 g6 g7 g7 g9 g10 g10) ⟨r,R2,R3,R4,M0,ltF (by omega),R6,R7,Q7,neF rfl,M0,ltF (by omega),Q8,R9,R10,Q10,awake_run g10,trivial⟩⟩
   | false =>
    rw[hok] at R4 R6
    exact⟨g10,pvF 0 Try.func8 (c39p.cp_nfalse b δ.g 0 0 0 lw zw 0 0 0 0 lc zc ld zd le ze ow none none oc od oe n x.over.nx.1 v1 h g1 g2 g3 g4 g4 g6 g7 g7 g9 g10 g10) ⟨r,R2,R3,R4,M0,ltF (by omega),R6,R7,Q7,neF rfl,M0,ltF (by omega),Q8,R9,R10,Q10,awake_run g10,trivial⟩⟩
  ·obtain⟨p,hp⟩:∃ p,p=min l2.length 30:=⟨_,rfl⟩
   have ep:l2.take 30=l2.take p:=by
    by_cases c:l2.length<=30
    ·rw[hp,Nat.min_eq_left c,List.take_length,List.take_of_length_le c]
    ·rw[hp,Nat.min_eq_right (by omega)]
   rw[ep] at H
   obtain⟨H1,H2⟩:=H
   have M0:(Asm.mm false (Int.ofNat l2.length) 30 (Int.ofNat p)).holds Try.prog:=.inr ⟨rfl,by simp only[Int.ofNat_eq_natCast];split<;>omega⟩
   have C0:(Asm.cut none (some (.int .i64 (Int.ofNat p))) l2.length 0 p).holds Try.prog:=a_cut (by omega)
   have hml:=m.keep.1
   obtain⟨E5,g5,σ',δ',va,e5,l5,T5s,A5,K5⟩:=c0_loop (b:=δ.g) (b2:=b) (lo:=g4.length) (y:=x.over) (u7:=ptr b) (u9:=.slice ow lw zw) (u10:=.int .i64 x.over.nx.1) (u11:=.bool x.over.nx.2) (u13:=.slice none 0 0) (u2:=.slice (some ⟨o,0,none⟩) l2.length 6) (p:=p) (l:=l2) (by omega) (by omega) ho G0 (by omega) T4.m1.keep.1 (fun q e=>T4.a1.lt e) p 0
    (C0e δ.g o p 0 (.slice none 0 0) (ptr b) (.slice ow lw zw) (.int .i64 x.over.nx.1) (.bool x.over.nx.2) (.slice none 0 0) (.slice (some ⟨o,0,none⟩) l2.length 6)) g4 σ δ (.slice none 0 0) (by omega) (EnvLe.refl _) T4.swap (Nat.le_refl _) ⟨.inl ⟨rfl,rfl,rfl⟩,fun w n z e=>by cases e⟩
   have T5:=T5s.swap
   have k5:=K5.1
   have s5:SlV g5 g2.length (.slice ow lw zw) x.pends.length 1 (inL x.pends):=slv_keepX s4 K5 fun q h1 h2 e=>by
    rcases e with e | e
    ·have:=ltd q e;omega
    ·omega
   obtain⟨oc,lc,zc,g6,g7,R6,R7,Q7,T7,K7⟩:=mid T5 s5
   have k7:=K7.1
   obtain⟨E8,g8,ρ',γ',vb,e8,l8,T8,A8,K8⟩:=c1_loop (b:=b) (b2:=δ.g) (lo:=g7.length) (y:=x.runL (l2.take p)) (u8:=ptr δ.g) (u12:=va) (p:=p) (l:=l2) (by omega) (by omega) ho G1 (by omega) T7.m1.keep.1 (fun q e=>T7.a2.lt e) p 0
    (C1e b o p 0 (.slice none 0 0) (ptr δ.g) va) g7 ρ γ (.slice none 0 0) (by omega) (EnvLe.refl _) T7 (Nat.le_refl _) ⟨.inl ⟨rfl,rfl,rfl⟩,fun w n z e=>by cases e⟩
   have tip:(l2.take p).length<=30:=by simp;omega
   have hlen:=runE_len (l2.take p) G0 (by omega)
   have sa:SlV g8 g4.length va (x.runE (l2.take p)).length 5 (efC (x.runE (l2.take p))):=by
    refine slv_keepX (slv_keepX A5.sl K7 fun q h1 h2 e=>?_) K8 fun q h1 h2 e=>?_
    ·have:=lt2 q e;omega
    ·rcases e with e | e
     ·have:=lt2 q e;omega
     ·omega
   have sb:=A8.sl
   rw[H1] at sb
   have Q8:=equalEf_run (by omega) sa.g sb.g
   obtain⟨oa,la,za,rfl⟩:∃ a b c,va=.slice a b c:=by rcases sa with⟨_,_,h⟩ | ⟨_,_,_,h,_⟩<;>exact⟨_,_,_,h⟩
   obtain⟨ob,lb,zb,rfl⟩:∃ a b c,vb=.slice a b c:=by rcases sb with⟨_,_,h⟩ | ⟨_,_,_,h,_⟩<;>exact⟨_,_,_,h⟩
   obtain⟨od,ld,zd,oe,le,ze,g9,g10,R9,R10,Q10⟩:=fin (l':=l2.take p) T8 G1.runL G0.runL (by omega) (by omega) H2
   have EN0:EnvLe [(12,.slice oa la za),(7,ptr b),(8,ptr δ.g),(9,.slice ow lw zw),(10,.int .i64 x.over.nx.1),(11,.bool x.over.nx.2),(13,.slice none 0 0),(2,.slice (some ⟨o,0,none⟩) l2.length 6)] E5:=.trans (.add (.add (.add (.add (.add (.add (.add (.add (.nil _) rfl) rfl) rfl) rfl) rfl) rfl) rfl) rfl) e5
   have EN1:EnvLe [(13,.slice ob lb zb),(7,ptr b),(8,ptr δ.g),(12,.slice oa la za)] E8:=.trans (.add (.add (.add (.add (.nil _) rfl) rfl) rfl) rfl) e8
   cases hok:x.over.nx.2 with
   | true =>
    rw[hok] at R4 R6 l5 EN0
    exact⟨g10,pvF 0 Try.func8 (c39p.cp_strue b δ.g o l2.length p lw zw la za lb zb lc zc ld zd le ze ow oa ob oc od oe n x.over.nx.1 v1 h g1 g2 g3 g4 g5 g6 g7 g8 g9 g10 g10) ⟨r,R2,R3,R4,M0,C0,a_loop (by kernel_rfl) (.add (.add (.add (.add (.add (.add (.add (.add (.add (.add (.add (.nil _) rfl) rfl) rfl) rfl) rfl) rfl) rfl) rfl) rfl) rfl) rfl) EN0 l5,R6,R7,Q7,neF rfl,M0,C0,a_loop (by kernel_rfl) (.add (.add (.add (.add (.add (.add (.add (.nil _) rfl) rfl) rfl) rfl) rfl) rfl) rfl) EN1 l8,Q8,R9,R10,Q10,awake_run g10,trivial⟩⟩
   | false =>
    rw[hok] at R4 R6 l5 EN0
    exact⟨g10,pvF 0 Try.func8 (c39p.cp_sfalse b δ.g o l2.length p lw zw la za lb zb lc zc ld zd le ze ow oa ob oc od oe n x.over.nx.1 v1 h g1 g2 g3 g4 g5 g6 g7 g8 g9 g10 g10) ⟨r,R2,R3,R4,M0,C0,a_loop (by kernel_rfl) (.add (.add (.add (.add (.add (.add (.add (.add (.add (.add (.add (.nil _) rfl) rfl) rfl) rfl) rfl) rfl) rfl) rfl) rfl) rfl) rfl) EN0 l5,R6,R7,Q7,neF rfl,M0,C0,a_loop (by kernel_rfl) (.add (.add (.add (.add (.add (.add (.add (.nil _) rfl) rfl) rfl) rfl) rfl) rfl) rfl) EN1 l8,Q8,R9,R10,Q10,awake_run g10,trivial⟩⟩
theorem cp_ok{x:GS}{k:Nat}(o:GOk k x)(M:MB x)(H:Hn x)(l:List OpV):cpOk x l:=by
 have D:Dd x.t x.du x.over.du:=overF_dd _ _ _ H.1 H.2
 have ew:x.over=x.wd x.over.du:=rfl
 obtain⟨d',e1,e2⟩:=runL_wd l D o (k':=k) (by rw[<- ew];exact o.over) M (by rw[<- ew];exact M.over)
 rw[<- ew] at e1 e2
 exact⟨e2,by rw[e1];rfl⟩
theorem copies_law{h:Hp}{l1 l2:List OpV}{v1 v2:Value}(n:Int)(hv:OpsAt h v1 l1)(hv2:OpsAt h v2 l2):∃ h',Run Try.prog 8 [.int .i64 n,v1,v2] h (.bool true) h' :=
 copieslaw_run n hv hv2 fun h1 h2=>cp_ok (GOk.roots (n:=n.toNat) (by omega)).runL (MB.runL (by omega) _) (hn_runL _ (hn_roots _) (GOk.roots (n:=n.toNat) (by omega)) (MB.roots _)) _
end Go.Proofs.Ytlonjogfeidgfaa.gr
