import Derived.Test.YtlonjogfeidgfaaComesE
set_option linter.unusedVariables false
namespace Go.Proofs.Ytlonjogfeidgfaa.gr
open Go Go.Ev Go.Proofs.Ytlonjogfeidgfaa.tr
set_option maxRecDepth 100000
set_option linter.unusedVariables false
set_option linter.constructorNameAsVariable false
theorem und84:Try.prog.underlying 84=some (.map 3 4):=by kernel_rfl
theorem und3:Try.prog.underlying 3=some (.int .i64):=by kernel_rfl
theorem zer4:zeroO Try.prog 4=some (.bool false):=by kernel_rfl
theorem findMk (k:Int):∀ (l:List Int) (i:Nat),(k∈l→∃ j,Instr.findNow (.int .i64) (.int .i64 k) (mpE (mks l)) i=some (some (j,.bool true)))∧(k∉l→Instr.findNow (.int .i64) (.int .i64 k) (mpE (mks l)) i=some none)
 | [],i=>⟨fun h=>(by cases h),fun _=>rfl⟩
 | x::l,i=>by
  have ih:=findMk k l (i+1)
  by_cases e:k=x
  ·subst e
   exact ⟨fun _=>⟨i,by simp [mks,mpE,Instr.findNow,Instr.sameNow]⟩,fun h=>absurd (List.mem_cons_self) h⟩
  ·have step:Instr.findNow (.int .i64) (.int .i64 k) (mpE (mks (x::l))) i=Instr.findNow (.int .i64) (.int .i64 k) (mpE (mks l)) (i+1):=by
    have hb:(k==x)=false:=by simpa using e
    simp only [mks,mpE,List.map_cons,Instr.findNow,Instr.sameNow,if_true,hb]
   rw [step]
   exact ⟨fun h=>ih.1 ((List.mem_cons.1 h).resolve_left e),fun h=>ih.2 fun q=>h (List.mem_cons_of_mem _ q)⟩
theorem mk_keys (l:List Int):(mks l).all (fun x=>isKeyB (.int .i64) x.1)=true:=List.all_eq_true.2 fun y hy=>by
 simp only [mks,List.mem_map] at hy
 obtain ⟨a,_,rfl⟩:=hy
 rfl
theorem mpFind_mk (k:Int) (l:List Int):(k∈l→∃ j,mpFind Try.prog 3 (mks l) (.int .i64 k)=some (some (j,.bool true)))∧(k∉l→mpFind Try.prog 3 (mks l) (.int .i64 k)=some none):=by
 have e:mpFind Try.prog 3 (mks l) (.int .i64 k)=Instr.findNow (.int .i64) (.int .i64 k) (mpE (mks l)) 0:=by
  have:(isKeyB (.int .i64) (.int .i64 k)&&(mks l).all (fun x=>isKeyB (.int .i64) x.1))=true:=by rw [mk_keys];rfl
  simp only [mpFind,und3,this]
 rw [e];exact findMk k l 0
theorem a_lk {s:SH} {m:Nat} {l:List Int} {k:Int} (h:s.den[m]?=some (.mp (mks l))):(Asm.lk s 84 (.map (some m)) (.int .i64 k) false (.bool (decide (k∈l)))).holds Try.prog:=by
 have hm:mpAt s.den m=some (mks l):=by simp [mpAt,h]
 by_cases e:k∈l
 ·obtain ⟨j,hj⟩:=(mpFind_mk k l).1 e
  simp [Asm.holds,evLookup,und84,hm,hj,e]
 ·have hj:=(mpFind_mk k l).2 e
  simp [Asm.holds,evLookup,und84,hm,hj,e,zer4,ground]
theorem a_lkT {s:SH} {m:Nat} {l:List Int} {k:Int} (h:s.den[m]?=some (.mp (mks l))) (e:k∈l):(Asm.lk s 84 (.map (some m)) (.int .i64 k) false (.bool true)).holds Try.prog:=by
 have:=a_lk (k:=k) h;rwa [decide_eq_true e] at this
theorem a_lkF {s:SH} {m:Nat} {l:List Int} {k:Int} (h:s.den[m]?=some (.mp (mks l))) (e:k∉l):(Asm.lk s 84 (.map (some m)) (.int .i64 k) false (.bool false)).holds Try.prog:=by
 have:=a_lk (k:=k) h;rwa [decide_eq_false e] at this
theorem a_mup {s:SH} {m:Nat} {l:List Int} {k:Int} (h:s.den[m]?=some (.mp (mks l))) (e:k∉l):(Asm.mup s 84 (.map (some m)) (.int .i64 k) (.bool true) m (mks (l++[k]))).holds Try.prog:=by
 have hm:mpAt s.den m=some (mks l):=by simp [mpAt,h]
 have hj:=(mpFind_mk k l).2 e
 have e1:mks (l++[k])=mks l++[(.int .i64 k,.bool true)]:=by simp [mks]
 simp [Asm.holds,evMapUpdate,und84,hm,hj,ground,e1]
def pendD (tm sm:List Int) (p:Pr):Option Bool:=if p.1=3 then some false else if p.1=1∧p.2∈tm then some true else if p.1=2∧p.2∈sm then some true else none
def pendL (tm sm:List Int):List Pr→Bool
 | []=>false
 | p::l=>match pendD tm sm p with
  | some b=>b
  | none=>pendL tm sm l
def GS.pend (x:GS) (n:Int):Bool:=pendL x.tm x.sm (x.t.chain n).1
theorem stat22 (k:Nat) (hk:k=0∨k=1):(Asm.stat (drawN Try.f22 k)).holds Try.prog:=by
 rcases hk with rfl | rfl
 ·exact show statOk (drawN Try.f22 0)=true by kernel_rfl
 ·exact show statOk (drawN Try.f22 1)=true by kernel_rfl
section
variable {h h' g:Hp} {ρ ρ' ρ1:Lay} {γ γ' γ1:GL} {x:GS} {t':TS} {c:Nat}
theorem pend_loop (a:GAt h ρ γ x) {l:List Pr} {o:Nat} (ho:h[o]?=some (.cells (prL l) true)) (hl:l.length≤1000000):∀ (m:List Pr) (j:Nat) (E:Env) (g:Hp),l.drop j=m→Grow h g →
  EnvLe [(18,.int .i64 (Int.ofNat j)),(17,.int .i64 (Int.ofNat l.length)),(16,.slice (some ⟨o,0,none⟩) l.length 2),(0,ptr γ.g)] E →
  ∃ E1 g1,Grow g g1∧((EnvLe [(4,.bool (pendL x.tm x.sm m))] E1∧LRun Try.prog 52 false (loopN Try.f22 0) E g .ret E1 g1)∨(pendL x.tm x.sm m=false∧LRun Try.prog 52 false (loopN Try.f22 0) E g (.exit 0) E1 g1))
 | [],j,E,g,hm,K,hE=>by
  have hj:l.length≤j:=List.drop_eq_nil_iff.1 hm
  obtain ⟨E1,q1,q2⟩:=pvC 0 (.trans (.add (.add (.nil _) rfl) rfl) hE) (c1p.pl_out (Int.ofNat j) (Int.ofNat l.length) g) ⟨ltF (by simp only [Int.ofNat_eq_natCast];omega),trivial⟩
  exact ⟨E1,g,.refl g,.inr ⟨rfl,.last q2 (by simp)⟩⟩
 | p::m,j,E,g,hm,K,hE=>by
  have hj:l[j]?=some p:=by rw [← List.head?_drop,hm];rfl
  have hlt:=get_lt' hj
  have hm':l.drop (j+1)=m:=by rw [← List.drop_drop,hm];rfl
  obtain ⟨k,n⟩:=p
  have ag:=a.grow K
  have hc:g[o]?=some (.cells (prL l) true):=K.get ho
  have L:=prL_at [] hj
  rw [List.append_nil] at L
  have A1:(Asm.cmp .lss (Int.ofNat j) (Int.ofNat l.length) true).holds Try.prog:=ltT (by simp only [Int.ofNat_eq_natCast];omega)
  have A2:(Asm.off (j*2) 0 (Int.ofNat j) l.length 2).holds Try.prog:=offI rfl hlt (by omega)
  have A3:(Asm.ldn (.is g) o (j*2) 2 [.int .i64 k,.int .i64 n]).holds Try.prog:=a_ldn hc (by rw [prL_len];omega) L
  obtain ⟨g2,hg2⟩:∃ g2,g2=(g++[AObj.cells [.int .i64 0,.int .i64 0] true]).set g.length (.cells [.int .i64 k,.int .i64 n] true):=⟨_,rfl⟩
  have K2:Grow g g2:=by rw [hg2];exact ((Grow.refl g).push _).set (Nat.le_refl _) _
  have bx:g2[g.length]?=some (.cells [.int .i64 k,.int .i64 n] true):=by rw [hg2];exact get_set_eq (get_new _ _)
  have A4:(Asm.st (.push (.is g) (.cells [.int .i64 0,.int .i64 0] true)) g.length 0 [.int .i64 k,.int .i64 n] [.int .i64 k,.int .i64 n]).holds Try.prog:=a_st (get_new _ _) (by simp) rfl
  obtain ⟨s2,hs2⟩:∃ s2:SH,s2=.set (.push (.is g) (.cells [.int .i64 0,.int .i64 0] true)) g.length (.cells [.int .i64 k,.int .i64 n] true):=⟨_,rfl⟩
  have den2:s2.den=g2:=by rw [hs2,hg2];rfl
  have X:(Asm.ld1 s2 g.length 0 (.int .i64 k)).holds Try.prog:=a_ld1 (by rw [den2];exact bx) rfl
  have Y:(Asm.ld1 s2 g.length 1 (.int .i64 n)).holds Try.prog:=a_ld1 (by rw [den2];exact bx) rfl
  have og:=(ag.grow K2)
  have M1:(Asm.ld1 s2 γ.g 1 (.map (some γ.m))).holds Try.prog:=a_ld1 (by rw [den2];exact og.obj) rfl
  have M2:(Asm.ld1 s2 γ.g 2 (.map (some γ.n))).holds Try.prog:=a_ld1 (by rw [den2];exact og.obj) rfl
  have T1:s2.den[γ.m]?=some (.mp (mks x.tm)):=by rw [den2];exact og.tmo
  have T2:s2.den[γ.n]?=some (.mp (mks x.sm)):=by rw [den2];exact og.smo
  have N1:(Asm.arith .add .i64 (Int.ofNat j) 1 (Int.ofNat (j+1))).holds Try.prog:=addI (by simp only [Int.ofNat_eq_natCast];omega) (by simp only [Int.ofNat_eq_natCast];omega) (by simp only [Int.ofNat_eq_natCast];omega)
  subst hs2
  have go:∀ {E1:Env} {s:SH} {h2:Hp},h2=g2→pendD x.tm x.sm (k,n)=none→EnvLe [(18,.int .i64 (Int.ofNat (j+1))),(17,.int .i64 (Int.ofNat l.length)),(16,.slice (some ⟨o,0,none⟩) l.length 2),(0,ptr γ.g)] E1 →
    CRun Try.prog 52 false (loopN Try.f22 0) E g .normal E1 h2 →
    ∃ E1 g1,Grow g g1∧((EnvLe [(4,.bool (pendL x.tm x.sm ((k,n)::m)))] E1∧LRun Try.prog 52 false (loopN Try.f22 0) E g .ret E1 g1)∨(pendL x.tm x.sm ((k,n)::m)=false∧LRun Try.prog 52 false (loopN Try.f22 0) E g (.exit 0) E1 g1)):=by
   intro E1 s h2 e0 hd hE1 hc1
   subst e0
   have e:pendL x.tm x.sm ((k,n)::m)=pendL x.tm x.sm m:=by simp only [pendL,hd]
   rw [e]
   obtain ⟨E2,g3,K3,q⟩:=pend_loop a ho hl m (j+1) E1 h2 hm' (K.trans K2) hE1
   exact ⟨E2,g3,K2.trans K3,q.elim (fun q=>.inl ⟨q.1,.step hc1 q.2⟩) fun q=>.inr ⟨q.1,.step hc1 q.2⟩⟩
  by_cases k3:k=3
  ·have e:pendL x.tm x.sm ((k,n)::m)=false:=by simp [pendL,pendD,k3]
   obtain ⟨E1,q1,q2⟩:=pvC 0 hE (c1p.pl_sh γ.g o l.length j (j*2) g.length 0 0 k n 0 false false g) ⟨A1,A2,A3,rfl,A4,X,eqT k3,trivial⟩
   rw [e]
   exact ⟨E1,g2,K2,.inl ⟨.trans (.add (.nil _) rfl) q1,.last (by rw [hg2];exact q2) (by simp)⟩⟩
  ·by_cases k1:k=1
   ·by_cases hn:n∈x.tm
    ·have e:pendL x.tm x.sm ((k,n)::m)=true:=by simp [pendL,pendD,k3,k1,hn]
     obtain ⟨E1,q1,q2⟩:=pvC 0 hE (c1p.pl_t1 γ.g o l.length j (j*2) g.length γ.m 0 k n 0 false false g) ⟨A1,A2,A3,rfl,A4,X,eqF k3,stat22 0 (by simp),X,eqT k1,M1,Y,a_lkT T1 hn,trivial⟩
     rw [e]
     exact ⟨E1,g2,K2,.inl ⟨.trans (.add (.nil _) rfl) q1,.last (by rw [hg2];exact q2) (by simp)⟩⟩
    ·obtain ⟨E1,q1,q2⟩:=pvC 0 hE (c1p.pl_t0 γ.g o l.length j (j*2) g.length γ.m 0 k n (Int.ofNat (j+1)) false false g) ⟨A1,A2,A3,rfl,A4,X,eqF k3,stat22 0 (by simp),X,eqT k1,M1,Y,a_lkF T1 hn,stat22 1 (by simp),X,eqF (by omega),N1,trivial⟩
     exact go (s:=.is g) hg2.symm (by simp [pendD,k3,k1,hn]) (.trans (.add (.add (.add (.add (.nil _) rfl) rfl) rfl) rfl) q1) q2
   ·by_cases k2:k=2
    ·by_cases hn:n∈x.sm
     ·have e:pendL x.tm x.sm ((k,n)::m)=true:=by simp [pendL,pendD,k2,hn]
      obtain ⟨E1,q1,q2⟩:=pvC 0 hE (c1p.pl_s1 γ.g o l.length j (j*2) g.length 0 γ.n k n 0 false false g) ⟨A1,A2,A3,rfl,A4,X,eqF k3,stat22 0 (by simp),X,eqF k1,stat22 1 (by simp),X,eqT k2,M2,Y,a_lkT T2 hn,trivial⟩
      rw [e]
      exact ⟨E1,g2,K2,.inl ⟨.trans (.add (.nil _) rfl) q1,.last (by rw [hg2];exact q2) (by simp)⟩⟩
     ·obtain ⟨E1,q1,q2⟩:=pvC 0 hE (c1p.pl_s0 γ.g o l.length j (j*2) g.length 0 γ.n k n (Int.ofNat (j+1)) false false g) ⟨A1,A2,A3,rfl,A4,X,eqF k3,stat22 0 (by simp),X,eqF k1,stat22 1 (by simp),X,eqT k2,M2,Y,a_lkF T2 hn,N1,trivial⟩
      exact go (s:=.is g) hg2.symm (by simp [pendD,k2,hn]) (.trans (.add (.add (.add (.add (.nil _) rfl) rfl) rfl) rfl) q1) q2
    ·obtain ⟨E1,q1,q2⟩:=pvC 0 hE (c1p.pl_no γ.g o l.length j (j*2) g.length 0 0 k n (Int.ofNat (j+1)) false false g) ⟨A1,A2,A3,rfl,A4,X,eqF k3,stat22 0 (by simp),X,eqF k1,stat22 1 (by simp),X,eqF k2,N1,trivial⟩
     exact go (s:=.is g) hg2.symm (by simp [pendD,k3,k1,k2]) (.trans (.add (.add (.add (.add (.nil _) rfl) rfl) rfl) rfl) q1) q2
theorem plain22:plainC (loopN Try.f22 0)=true:=by kernel_rfl
theorem chainG_len {t:TS} (ok:TOk c t):∀ f k top,(t.chainG f k top).length≤f*(c+2)
 | 0,k,top=>by simp [TS.chainG]
 | f+1,k,top=>by
  rw [TS.chainG]
  split
  ·simp
  ·rename_i y hy
   have hl:=ok.len k y hy
   have e:(f+1)*(c+2)=f*(c+2)+(c+2):=Nat.succ_mul _ _
   have h1:((y.opn.take top).reverse.map lkP).length≤c:=by simp;omega
   rw [List.length_append,List.length_append,List.length_singleton]
   split
   ·simp only [List.length_nil];omega
   ·rename_i s hs
    split
    ·simp only [List.length_nil];omega
    ·split
     ·simp only [List.length_nil];omega
     ·rename_i y2 hy2 _ z hz
      have:=chainG_len ok f y2.ow (ixO (some s) z.opn)
      rw [List.length_cons];omega
theorem chain_lim {t:TS} (ok:TOk c t) (hc:c≤1000) (n:Int):(t.chain n).1.length≤100000:=by
 rcases hq:t.runs n with ⟨k | k,e⟩
 ·simp only [TS.chain,hq,List.length_nil];omega
 ·obtain ⟨_,_,y,hy,_⟩:=runs_some hq
  have n64:=ok.n64
  have hk:=get_lt' hy
  simp only [TS.chain,hq,hy]
  have:=chainG_len ok (k+1) k y.opn.length
  have h2:(k+1)*(c+2)≤64*1002:=Nat.mul_le_mul (by omega) (by omega)
  omega
theorem pend_run (a:GAt h ρ γ x) (ok:TOk c x.t) (hc:c≤1000) (W:WI none x.t) (n:Int) :
  ∃ h',Run Try.prog 22 [ptr γ.g,.int .i64 n] h (.bool (x.pend n)) h'∧Grow h h':=by
 obtain ⟨r,hr⟩:=a.root
 obtain ⟨v,g,q1,K,sv⟩:=chain_run a.tat ok hc W hr n
 have lim:(x.t.chain n).1.length≤1000000:=Nat.le_trans (chain_lim ok hc n) (by omega)
 rcases sv with ⟨s1,s2,rfl⟩ | ⟨s1,s2,o,rfl,ho,_⟩
 ·have e0:(x.t.chain n).1=[]:=List.length_eq_zero_iff.1 s1
  have e:x.pend n=false:=by simp only [GS.pend,e0,pendL]
  rw [e]
  obtain ⟨E1,p1,p2⟩:=pvC 0 (EnvLe.refl [(18,.int .i64 0),(17,.int .i64 0)]) (c1p.pl_out 0 0 g) ⟨ltF (Int.le_refl _),trivial⟩
  exact ⟨g,pvF 0 Try.func22 (c1p.pe_nil γ.g r n (x.t.chain n).2 [] h g) ⟨tree_run a hr,q1,a_loop plain22 (.add (.add (.nil _) rfl) rfl) (.nil _) (.last p2 (by simp)),trivial⟩,K⟩
 ·obtain ⟨E1,g1,K1,q⟩:=pend_loop (a.grow K) ho lim _ 0 [(18,.int .i64 (Int.ofNat 0)),(17,.int .i64 (Int.ofNat (x.t.chain n).1.length)),(16,.slice (some ⟨o,0,none⟩) (x.t.chain n).1.length 2),(0,ptr γ.g)] g rfl (.refl g) (EnvLe.refl _)
  rw [List.drop_zero] at q
  rcases q with ⟨e1,l1⟩ | ⟨e1,l1⟩
  ·exact ⟨g1,pvF 0 Try.func22 (c1p.pe_go γ.g r o _ n (x.t.chain n).2 (x.pend n) h g g1) ⟨tree_run a hr,q1,a_loop plain22 (.add (.add (.add (.add (.nil _) rfl) rfl) rfl) rfl) e1 l1,trivial⟩,K.trans K1⟩
  ·rw [show x.pend n=false from e1]
   exact ⟨g1,pvF 0 Try.func22 (c1p.pe_end γ.g r o _ n (x.t.chain n).2 [] h g g1) ⟨tree_run a hr,q1,a_loop plain22 (.add (.add (.add (.add (.nil _) rfl) rfl) rfl) rfl) (.nil _) l1,trivial⟩,K.trans K1⟩
end
end Go.Proofs.Ytlonjogfeidgfaa.gr
namespace Go.Proofs.Ytlonjogfeidgfaa.gr
open Go Go.Ev Go.Proofs.Ytlonjogfeidgfaa.tr
set_option maxRecDepth 100000
set_option linter.unusedVariables false
set_option linter.constructorNameAsVariable false
abbrev p3 (i:Nat):Value:=.pointer (some ⟨i,3,none⟩)
abbrev hv (i:Nat):Value:=.iface 95 (p3 i)
theorem prC_len (p:Pr):(prC p).length=2:=rfl
theorem prL_set:∀ {l:List Pr} {k:Nat} (p:Pr) (junk:List Value),k<l.length→(prL l++junk).take (k*2)++prC p++(prL l++junk).drop (k*2+2)=prL (l.set k p)++junk
 | [],k,p,junk,h=>by simp at h
 | q::l,0,p,junk,h=>by simp [prL_cons,prC]
 | q::l,k+1,p,junk,h=>by
  have ih:=prL_set (l:=l) (k:=k) p junk (by simpa using h)
  have e1:(k+1)*2=k*2+2:=by omega
  rw [List.set_cons_succ,prL_cons,prL_cons,e1]
  have t:(prC q++prL l++junk).take (k*2+2)=prC q++(prL l++junk).take (k*2):=by
   rw [List.append_assoc,List.take_append,List.take_of_length_le (by rw [prC_len];omega),prC_len];simp
  have d:(prC q++prL l++junk).drop (k*2+2+2)=(prL l++junk).drop (k*2+2):=by
   rw [List.append_assoc,List.drop_append,List.drop_of_length_le (by rw [prC_len];omega),prC_len];simp
  rw [t,d,List.append_assoc,List.append_assoc,← List.append_assoc (List.take _ _),ih,List.append_assoc]
structure DAt (h:Hp) (i d:Nat) (l:List Pr) (cs junk:List Value):Prop where
 hf:h[i]?=some (.cells cs true)
 hs:cs[3]?=some (.slice (some ⟨d,0,none⟩) l.length 2)
 hd:h[d]?=some (.cells (prL l++junk) true)
 ne:d≠i
 len:l.length≤1000000
theorem agg86:aggSize Try.prog 86=some none:=by kernel_rfl
theorem mthLess (h : Hp) (i : Nat) : evMethod Try.prog h "Less" (hv i) = (match evLoad Try.prog h 86 (p3 i) with | some r => some (110, r) | none => none) := by kernel_rfl
theorem mthSwap (h : Hp) (i : Nat) : evMethod Try.prog h "Swap" (hv i) = (match evLoad Try.prog h 86 (p3 i) with | some r => some (111, r) | none => none) := by kernel_rfl
theorem mthLen (h : Hp) (i : Nat) : evMethod Try.prog h "Len" (hv i) = (match evLoad Try.prog h 86 (p3 i) with | some r => some (109, r) | none => none) := by kernel_rfl
theorem mthPush (h : Hp) (i : Nat) : evMethod Try.prog h "Push" (hv i) = some (113, p3 i) := by kernel_rfl
theorem mthPop (h : Hp) (i : Nat) : evMethod Try.prog h "Pop" (hv i) = some (112, p3 i) := by kernel_rfl
theorem ld86 {h:Hp} {i:Nat} {cs:List Value} {v:Value} {rw:Bool} (hi:h[i]?=some (.cells cs rw)) (hc:cs[3]?=some v):evLoad Try.prog h 86 (p3 i)=some v:=by
 simp only [evLoad,cells_of hi,agg86,hc]
theorem ltD {P:Program} {a b:Int}:(Asm.cmp .lss a b (decide (a<b))).holds P:=by simp [Asm.holds,cmpB]
def lessP (p q:Pr):Bool:=if p.1=q.1 then decide (p.2<q.2) else decide (p.1<q.1)
section
variable {h h' g:Hp} {i d:Nat} {l:List Pr} {cs junk:List Value}
theorem DAt.ld (D:DAt h i d l cs junk) {k:Nat} {p:Pr} (hk:l[k]?=some p) {s:SH} (e:s.den=h) :
  (Asm.ld1 s d (k*2) (.int .i64 p.1)).holds Try.prog∧(Asm.ld1 s d (k*2+1) (.int .i64 p.2)).holds Try.prog∧(Asm.ldn s d (k*2) 2 [.int .i64 p.1,.int .i64 p.2]).holds Try.prog:=by
 have hlt:=get_lt' hk
 have L:=prL_at junk hk
 have g:∀ j,j<2→(prL l++junk)[k*2+j]?=(prC p)[j]?:=fun j hj=>by
  rw [← L,List.getElem?_take,if_pos hj,List.getElem?_drop]
 have hd:s.den[d]?=some (.cells (prL l++junk) true):=by rw [e];exact D.hd
 exact ⟨a_ld1 hd (g 0 (by omega)),a_ld1 hd (g 1 (by omega)),a_ldn hd (by rw [List.length_append,prL_len];omega) L⟩
theorem stat110 (k:Nat) (hk:k=0∨k=1∨k=2):(Asm.stat (drawN Try.f110 k)).holds Try.prog:=by
 rcases hk with rfl | rfl | rfl
 ·exact show statOk (drawN Try.f110 0)=true by kernel_rfl
 ·exact show statOk (drawN Try.f110 1)=true by kernel_rfl
 ·exact show statOk (drawN Try.f110 2)=true by kernel_rfl
theorem stat111:(Asm.stat (drawN Try.f111 0)).holds Try.prog:=show statOk (drawN Try.f111 0)=true by kernel_rfl
theorem stat113:(Asm.stat (drawN Try.f113 0)).holds Try.prog:=show statOk (drawN Try.f113 0)=true by kernel_rfl
theorem less_run (D:DAt h i d l cs junk) {a b:Nat} {p q:Pr} (ha:l[a]?=some p) (hb:l[b]?=some q) :
  Run Try.prog 110 [.slice (some ⟨d,0,none⟩) l.length 2,.int .i64 (a:Int),.int .i64 (b:Int)] h (.bool (lessP p q)) h:=by
 obtain ⟨a1,a2,_⟩:=D.ld ha (s:=.is h) rfl
 obtain ⟨b1,b2,_⟩:=D.ld hb (s:=.is h) rfl
 have oa:(Asm.off (a*2) 0 (a:Int) l.length 2).holds Try.prog:=offI rfl (get_lt' ha) (by omega)
 have ob:(Asm.off (b*2) 0 (b:Int) l.length 2).holds Try.prog:=offI rfl (get_lt' hb) (by omega)
 by_cases e:p.1=q.1
 ·have el:lessP p q=decide (p.2<q.2):=by simp only [lessP,if_pos e]
  rw [el]
  exact pvF 0 Try.func110 (c3p.le_eq d l.length (a*2) (b*2) a b p.1 q.1 p.2 q.2 _ h) ⟨stat110 0 (by simp),oa,a1,ob,b1,neF e,stat110 2 (by simp),oa,a2,ob,b2,ltD,trivial⟩
 ·have el:lessP p q=decide (p.1<q.1):=by simp only [lessP,if_neg e]
  rw [el]
  exact pvF 0 Try.func110 (c3p.le_ne d l.length (a*2) (b*2) a b p.1 q.1 p.2 q.2 _ h) ⟨stat110 0 (by simp),oa,a1,ob,b1,neT e,stat110 1 (by simp),oa,a1,ob,b1,ltD,trivial⟩
def swp (l:List Pr) (a b:Nat):List Pr:=match l[a]?,l[b]? with
 | some p,some q=>(l.set a q).set b p
 | _,_=>l
theorem swp_len (l:List Pr) (a b:Nat):(swp l a b).length=l.length:=by unfold swp;split<;>simp
theorem DAt.set (D:DAt h i d l cs junk) {l':List Pr} (hl:l'.length=l.length):DAt (h.set d (.cells (prL l'++junk) true)) i d l' cs junk :=
 ⟨get_set_ne D.hf D.ne,by rw [hl];exact D.hs,get_set_eq D.hd,D.ne,by rw [hl];exact D.len⟩
theorem swap_run (D:DAt h i d l cs junk) {a b:Nat} (ha:a<l.length) (hb:b<l.length) :
  Run Try.prog 111 [.slice (some ⟨d,0,none⟩) l.length 2,.int .i64 (a:Int),.int .i64 (b:Int)] h (.tuple #[]) (h.set d (.cells (prL (swp l a b)++junk) true)):=by
 obtain ⟨p,hp⟩:∃ p,l[a]?=some p:=⟨_,List.getElem?_eq_getElem ha⟩
 obtain ⟨q,hq⟩:∃ q,l[b]?=some q:=⟨_,List.getElem?_eq_getElem hb⟩
 obtain ⟨_,_,a3⟩:=D.ld hp (s:=.is h) rfl
 obtain ⟨_,_,b3⟩:=D.ld hq (s:=.is h) rfl
 have oa:(Asm.off (a*2) 0 (a:Int) l.length 2).holds Try.prog:=offI rfl ha (by omega)
 have ob:(Asm.off (b*2) 0 (b:Int) l.length 2).holds Try.prog:=offI rfl hb (by omega)
 have es:swp l a b=(l.set a q).set b p:=by simp only [swp,hp,hq]
 have R:=pvF 0 Try.func111 (c3p.sw d l.length (a*2) (b*2) a b p.1 q.1 p.2 q.2 (prL (l.set a q)++junk) (prL ((l.set a q).set b p)++junk) h)
  ⟨stat111,ob,b3,oa,a3,oa,a_st D.hd (by simp [prL_len];omega) (prL_set q junk ha),ob,a_st (get_set_eq D.hd) (by simp [prL_len];omega) (prL_set p junk (by simpa using hb)),trivial⟩
 rw [es]
 have e:(h.set d (.cells (prL (l.set a q)++junk) true)).set d (.cells (prL ((l.set a q).set b p)++junk) true)=h.set d (.cells (prL ((l.set a q).set b p)++junk) true):=by simp
 rw [← e]
 exact R
def upF:Nat→Nat→List Pr→List Pr
 | 0,_,l=>l
 | f+1,j,l=>match j with
  | 0=>l
  | j+1=>match l[j+1]?,l[j / 2]? with
   | some p,some q=>match lessP p q with
    | true=>upF f (j / 2) (swp l (j / 2) (j+1))
    | false=>l
   | _,_=>l
theorem upF_len:∀ (f j:Nat) (l:List Pr),(upF f j l).length=l.length
 | 0,_,_=>rfl
 | f+1,0,_=>rfl
 | f+1,j+1,l=>by
  simp only [upF]
  split
  ·split
   ·rw [upF_len f,swp_len]
   ·rfl
  ·rfl
theorem set_same {h:Hp} {d:Nat} {o:AObj} (e:h[d]?=some o):h.set d o=h:=by
 apply List.ext_getElem?
 intro q
 rw [List.getElem?_set]
 split
 ·rename_i hq;subst hq;rw [e];simp [get_lt e]
 ·rfl
theorem up_loop:∀ (f j:Nat) (l:List Pr) (h:Hp) (E:Env),DAt h i d l cs junk→j<f→j<l.length→EnvLe [(1,.int .i64 (j:Int)),(0,hv i)] E →
  ∃ E1,LRun Try.prog 23 false (loopN Try.f84 0) E h (.exit 0) E1 (h.set d (.cells (prL (upF f j l)++junk) true))
 | 0,j,l,h,E,D,hj,_,_=>by omega
 | f+1,0,l,h,E,D,_,hl,hE=>by
  obtain ⟨E1,q1,q2⟩:=pvC 0 hE (c3p.up_end i 0 0 0 0 (-1) undef none 0 0 h h h) ⟨subI (by omega) (by omega) (by omega),by simp [Asm.holds,arithI];exact i64_id (by omega) (by omega),eqT rfl,trivial⟩
  rw [show upF (f+1) 0 l=l from rfl,set_same D.hd]
  exact ⟨E1,.last q2 (by simp)⟩
 | f+1,j+1,l,h,E,D,hj,hl,hE=>by
  have len:=D.len
  have hk:j / 2<l.length:=by omega
  obtain ⟨p,hp⟩:∃ p,l[j+1]?=some p:=⟨_,List.getElem?_eq_getElem hl⟩
  obtain ⟨q,hq⟩:∃ q,l[j / 2]?=some q:=⟨_,List.getElem?_eq_getElem hk⟩
  have A1:(Asm.arith .sub .i64 ((j+1:Nat):Int) 1 (j:Int)).holds Try.prog:=subI (by omega) (by omega) (by omega)
  have A2:(Asm.arith .quo .i64 (j:Int) 2 ((j / 2:Nat):Int)).holds Try.prog:=by
   have e:(j:Int).tdiv 2=((j / 2:Nat):Int):=by rw [Int.tdiv_eq_ediv_of_nonneg (by omega)];omega
   simp only [Asm.holds,arithI,e]
   exact congrArg some (i64_id (by omega) (by omega))
  have A3:(Asm.cmp .eql ((j / 2:Nat):Int) ((j+1:Nat):Int) false).holds Try.prog:=eqF (by omega)
  have M1 : (Asm.mth (.is h) "Less" (hv i) 110 (.slice (some ⟨d, 0, none⟩) l.length 2)).holds Try.prog := by simp only [Asm.holds, SH.den, mthLess, ld86 D.hf D.hs]
  have R:=less_run D hp hq
  cases e:lessP p q with
  | false =>
   rw [e] at R
   obtain ⟨E1,q1,q2⟩:=pvC 0 hE (c3p.up_stop i 0 0 ((j+1:Nat):Int) ((j / 2:Nat):Int) (j:Int) undef (some ⟨d,0,none⟩) l.length 2 h h h) ⟨A1,A2,A3,R,M1,trivial⟩
   have eu:upF (f+1) (j+1) l=l:=by simp only [upF,hp,hq,e]
   rw [eu,set_same D.hd]
   exact ⟨E1,.last q2 (by simp)⟩
  | true =>
   rw [e] at R
   have M2 : (Asm.mth (.is h) "Swap" (hv i) 111 (.slice (some ⟨d, 0, none⟩) l.length 2)).holds Try.prog := by simp only [Asm.holds, SH.den, mthSwap, ld86 D.hf D.hs]
   have S:=swap_run D hk hl
   obtain ⟨E1,q1,q2⟩:=pvC 0 hE (c3p.up_go i 0 0 ((j+1:Nat):Int) ((j / 2:Nat):Int) (j:Int) undef (some ⟨d,0,none⟩) l.length 2 h h _) ⟨A1,A2,A3,R,M1,S,M2,trivial⟩
   have eu:upF (f+1) (j+1) l=upF f (j / 2) (swp l (j / 2) (j+1)):=by simp only [upF,hp,hq,e]
   obtain ⟨E2,q3⟩:=up_loop f (j / 2) (swp l (j / 2) (j+1)) _ E1 (D.set (swp_len _ _ _)) (by omega) (by rw [swp_len];omega) (.trans (.add (.add (.nil _) rfl) rfl) q1)
   rw [eu]
   refine ⟨E2,.step q2 ?_⟩
   rw [List.set_set] at q3
   exact q3
theorem plain84:plainC (loopN Try.f84 0)=true:=by kernel_rfl
theorem up_run (D:DAt h i d l cs junk) {j:Nat} (hj:j<l.length):Run Try.prog 84 [hv i,.int .i64 (j:Int)] h (.tuple #[]) (h.set d (.cells (prL (upF (j+1) j l)++junk) true)):=by
 obtain ⟨E1,q⟩:=up_loop (j+1) j l h [(1,.int .i64 (j:Int)),(0,hv i)] D (by omega) hj (EnvLe.refl _)
 exact pvF 0 Try.func84 (c3p.up i (j:Int) [] h _) ⟨a_loop plain84 (.add (.add (.nil _) rfl) rfl) (.nil _) q,trivial⟩
end
end Go.Proofs.Ytlonjogfeidgfaa.gr
namespace Go.Proofs.Ytlonjogfeidgfaa.gr
open Go Go.Ev Go.Proofs.Ytlonjogfeidgfaa.tr
set_option maxRecDepth 100000
set_option linter.unusedVariables false
set_option linter.constructorNameAsVariable false
section
variable {h h' g:Hp} {ρ ρ' ρ1:Lay} {γ γ' γ1:GL} {x:GS} {t':TS} {c:Nat}
theorem GAt.dues (a:GAt h ρ γ x) {l:List Pr} {d:Nat} {junk:List Value} (K:Keep (fun q=>q=γ.g∨γ.d=some q) h g) (hd:γ.d=some d∨h.length≤d)
  (hg:g[γ.g]?=some (.cells [pvv (ρ .root),.map (some γ.m),.map (some γ.n),.slice (some ⟨d,0,none⟩) l.length 2] true)) (hc:g[d]?=some (.cells (prL l++junk) true)) :
  GAt g ρ { γ with d:=some d } { x with du:=l }∧GStep ρ γ h ρ { γ with d:=some d } g:=by
 have lt:∀ q,fpT ρ q→q<h.length:=fun q ⟨r,e⟩=>a.tat.lt e
 have ht:∀ q,(q=γ.g∨γ.d=some q)→¬ fpT ρ q:=fun q e=>e.elim (fun e=>e▸a.fg) fun e=>a.fd q e
 have nd:∀ q,γ.d=some q→q≠γ.m∧q≠γ.n:=fun q e=>by
  obtain ⟨j,hj⟩:=a.duo q e
  exact ⟨fun f=>(by have:=a.tmo;rw [← f,hj] at this;cases this),fun f=>(by have:=a.smo;rw [← f,hj] at this;cases this)⟩
 have ng:γ.m≠γ.g∧γ.n≠γ.g:=⟨fun f=>(by have:=a.tmo;rw [f,a.obj] at this;cases this),fun f=>(by have:=a.smo;rw [f,a.obj] at this;cases this)⟩
 refine ⟨⟨a.tat.keep K ht,hg,K.2 _ _ a.tmo fun e=>e.elim ng.1 fun e=>(nd _ e).1 rfl,K.2 _ _ a.smo fun e=>e.elim ng.2 fun e=>(nd _ e).2 rfl,
  fun d' e=>by cases e;exact ⟨junk,hc⟩,fun e=>by simp at e,a.fg,a.fm,a.fn,fun d' e=>?_,a.mn,fun e=>?_⟩,K.mono fun q _ e=>e.elim (fun e=>.inr (.inl e)) fun e=>.inr (.inr (.inr (.inr e))),fun q e=>?_,rfl⟩
 ·cases e
  exact hd.elim (fun e=>a.fd d e) fun e f=>by have:=lt _ f;omega
 ·simp only [Option.some.injEq] at e
  subst e
  rw [hg] at hc
  rcases hd with e | e
  ·exact a.gd e
  ·have:=get_lt a.obj;omega
 ·rcases e with e | e | e | e | e
  ·exact .inl (.inl e)
  ·exact .inl (.inr (.inl e))
  ·exact .inl (.inr (.inr (.inl e)))
  ·exact .inl (.inr (.inr (.inr (.inl e))))
  ·simp only [Option.some.injEq] at e
   subst e
   exact hd.elim (fun e=>.inl (.inr (.inr (.inr (.inr e))))) .inr
theorem root_ptr (a:GAt h ρ γ x):∃ r,ρ .root=some r∧pvv (ρ .root)=ptr r:=by
 obtain ⟨r,hr⟩:=a.root
 exact ⟨r,hr,by rw [hr];rfl⟩
theorem dpush_run (a:GAt h ρ γ x) (hl:x.du.length≤100000) (p:Pr) :
  ∃ g,Run Try.prog 113 [p3 γ.g,.iface 93 (.agg #[.int .i64 p.1,.int .i64 p.2])] h (.tuple #[]) g∧GAt g ρ { γ with d:=some (h.length+1) } { x with du:=x.du++[p] }∧GStep ρ γ h ρ { γ with d:=some (h.length+1) } g∧g.length=h.length+2:=by
 have hg:=get_lt a.obj
 have lapp:prL (x.du++[p])=prL x.du++prC p:=by rw [prL_app];simp [prL,prC]
 cases e:γ.d with
 | none =>
  have e0:=a.dun e
  have O:=a.obj
  rw [e] at O
  have O2:((h++[AObj.cells [.int .i64 p.1,.int .i64 p.2] true])++[AObj.cells [.int .i64 p.1,.int .i64 p.2] true])[γ.g]?=_:=get_push (get_push O)
  refine ⟨_,pvF 0 Try.func113 (c3p.pu_nil γ.g h.length (h.length+1) p.1 p.2 [pvv (ρ .root),.map (some γ.m),.map (some γ.n),.slice (some ⟨h.length+1,0,none⟩) 1 2] h)
   ⟨stat113,a_ld1 O rfl,rfl,a_appGN rfl rfl (by omega) (get_new _ _) (push_len _ _),a_st O2 (by simp) rfl,trivial⟩,?_⟩
  have K:Keep (fun q=>q=γ.g∨γ.d=some q) h (((h++[AObj.cells [.int .i64 p.1,.int .i64 p.2] true])++[AObj.cells [.int .i64 p.1,.int .i64 p.2] true]).set γ.g (.cells [pvv (ρ .root),.map (some γ.m),.map (some γ.n),.slice (some ⟨h.length+1,0,none⟩) 1 2] true)) :=
   ((Keep.push _ _ _).trans (Keep.push _ _ _)).trans (Keep.set (.inl rfl) _)
  have hd:(((h++[AObj.cells [.int .i64 p.1,.int .i64 p.2] true])++[AObj.cells [.int .i64 p.1,.int .i64 p.2] true]).set γ.g (.cells [pvv (ρ .root),.map (some γ.m),.map (some γ.n),.slice (some ⟨h.length+1,0,none⟩) 1 2] true))[h.length+1]?=some (.cells (prL [p]++[]) true) :=
   get_set_ne (get_new' _ (push_len _ _)) (by omega)
  have R:=a.dues (l:=x.du++[p]) (d:=h.length+1) (junk:=[]) K (.inr (by omega)) (by rw [e0];exact get_set_eq O2) (by rw [e0];exact hd)
  exact ⟨R.1,R.2,by simp [SH.den]⟩
 | some d =>
  obtain ⟨junk,hj⟩:=a.duo d e
  have O:=a.obj
  rw [e] at O
  have hdl:=get_lt hj
  have hdg:d≠γ.g:=fun f=>a.gd (by rw [e,f])
  have O2:(((h++[AObj.cells [.int .i64 p.1,.int .i64 p.2] true]).set d .dead)++[AObj.cells (prL x.du++prC p) true])[γ.g]?=_:=get_push (get_set_ne (get_push O) hdg)
  refine ⟨_,pvF 0 Try.func113 (c3p.pu_go γ.g d x.du.length h.length (h.length+1) p.1 p.2 [pvv (ρ .root),.map (some γ.m),.map (some γ.n),.slice (some ⟨h.length+1,0,none⟩) (x.du.length+1) 2] (prL x.du++prC p) h)
   ⟨stat113,a_ld1 O rfl,rfl,a_appSJ (m:=0) (junk2:=[]) (get_push hj) (by rw [prL_len]) (get_new _ _) rfl rfl (by omega) (by omega) (by omega) (push_len _ _),a_st O2 (by simp) rfl,trivial⟩,?_⟩
  have K:Keep (fun q=>q=γ.g∨γ.d=some q) h ((((h++[AObj.cells [.int .i64 p.1,.int .i64 p.2] true]).set d .dead)++[AObj.cells (prL x.du++prC p) true]).set γ.g (.cells [pvv (ρ .root),.map (some γ.m),.map (some γ.n),.slice (some ⟨h.length+1,0,none⟩) (x.du.length+1) 2] true)) :=
   (((Keep.push _ _ _).trans (Keep.set (.inr e) _)).trans (Keep.push _ _ _)).trans (Keep.set (.inl rfl) _)
  have R:=a.dues (l:=x.du++[p]) (d:=h.length+1) (junk:=[]) K (.inr (by omega)) (by rw [List.length_append];exact get_set_eq O2) (by rw [lapp,List.append_nil];exact get_set_ne (get_new' _ (by simp)) (by omega))
  exact ⟨R.1,R.2,by simp [SH.den]⟩
theorem hpush_run (a:GAt h ρ γ x) (hl:x.du.length≤100000) (p:Pr) :
  ∃ g,Run Try.prog 62 [hv γ.g,.iface 93 (.agg #[.int .i64 p.1,.int .i64 p.2])] h (.tuple #[]) g∧GAt g ρ { γ with d:=some (h.length+1) } { x with du:=upF (x.du.length+1) x.du.length (x.du++[p]) }∧GStep ρ γ h ρ { γ with d:=some (h.length+1) } g:=by
 obtain ⟨g,R,b,S,hlen⟩:=dpush_run a hl p
 obtain ⟨junk,hj⟩:=b.duo _ rfl
 have O:=b.obj
 have D:DAt g γ.g (h.length+1) (x.du++[p]) _ junk:=⟨O,rfl,hj,by have:=get_lt a.obj;omega,by simp;omega⟩
 have U:=up_run D (j:=x.du.length) (by simp)
 have L : (Asm.mth (.is g) "Len" (hv γ.g) 109 (.slice (some ⟨h.length + 1, 0, none⟩) (x.du ++ [p]).length 2)).holds Try.prog := by simp only [Asm.holds, SH.den, mthLen, ld86 D.hf D.hs]
 have N:=pvF 0 Try.func109 (c3p.ln (some ⟨h.length+1,0,none⟩) (x.du++[p]).length 2 g) trivial
 have A:(Asm.arith .sub .i64 (Int.ofNat (x.du++[p]).length) 1 (x.du.length:Int)).holds Try.prog:=subI (by simp) (by omega) (by omega)
 refine ⟨_,pvF 0 Try.func62 (c3p.hp γ.g (x.du++[p]).length 2 (some ⟨h.length+1,0,none⟩) _ _ _ h g _) ⟨R,mthPush h γ.g,N,L,A,U,trivial⟩,?_⟩
 have K2:Keep (fun q=>q=γ.g∨some (h.length+1)=some q) g (g.set (h.length+1) (.cells (prL (upF (x.du.length+1) x.du.length (x.du++[p]))++junk) true)):=Keep.set (.inr rfl) _
 have R2:=b.dues (l:=upF (x.du.length+1) x.du.length (x.du++[p])) K2 (.inl rfl) (by rw [upF_len];exact get_set_ne O D.ne) (get_set_eq hj)
 exact ⟨R2.1,S.trans R2.2⟩
end
end Go.Proofs.Ytlonjogfeidgfaa.gr
namespace Go.Proofs.Ytlonjogfeidgfaa.gr
open Go Go.Ev Go.Proofs.Ytlonjogfeidgfaa.tr
set_option maxRecDepth 100000
set_option linter.unusedVariables false
set_option linter.constructorNameAsVariable false
section
variable {h h' g:Hp} {ρ ρ' ρ1:Lay} {γ γ' γ1:GL} {x:GS} {t':TS} {c:Nat}
def GS.open (x:GS) (n:Int) (su:Bool) (u:Int):GS :=
 if (x.t.open n su).2.2=0∧0≤u∧u≤1000000000000 then { x with t:=(x.t.open n su).1,du:=upF (x.du.length+1) x.du.length (x.du++[(u,(x.t.open n su).2.1)]) } else { x with t:=(x.t.open n su).1 }
theorem openG_run (a:GAt h ρ γ x) (ok:TOk c x.t) (hc:c≤100000) (hl:x.du.length≤100000) (n:Int) (su:Bool) (u:Int) :
  ∃ ρ' γ' h',Run Try.prog 36 [ptr γ.g,.int .i64 n,.bool su,.int .i64 u] h (.tuple #[.int .i64 (x.t.open n su).2.1,.int .i64 (x.t.open n su).2.2]) h'∧GAt h' ρ' γ' (x.open n su u)∧GStep ρ γ h ρ' γ' h':=by
 obtain ⟨r,hr⟩:=a.root
 obtain ⟨ρ',g,q1,q2,q3⟩:=open_run a.tat ok hc hr n su
 have b:=a.tree q3 q2
 have T:=tree_run a hr
 by_cases e0:(x.t.open n su).2.2=0
 ·by_cases u0:0≤u
  ·by_cases u1:u≤1000000000000
   ·obtain ⟨g2,R,b2,S2⟩:=hpush_run b hl (u,(x.t.open n su).2.1)
    refine ⟨ρ',_,g2,pvF 0 Try.func36 (c5p.op_go γ.g r n u _ _ su h g g2) ⟨T,q1,eqT e0,geT u0,leT u1,R,trivial⟩,?_,(GStep.tree q3).trans S2⟩
    rw [GS.open,if_pos ⟨e0,u0,u1⟩];exact b2
   ·refine ⟨ρ',γ,g,pvF 0 Try.func36 (c5p.op_big γ.g r n u _ _ su h g g) ⟨T,q1,eqT e0,geT u0,leF (by omega),trivial⟩,?_,.tree q3⟩
    rw [GS.open,if_neg (fun e=>u1 e.2.2)];exact b
  ·refine ⟨ρ',γ,g,pvF 0 Try.func36 (c5p.op_neg γ.g r n u _ _ su h g g) ⟨T,q1,eqT e0,geF (by omega),trivial⟩,?_,.tree q3⟩
   rw [GS.open,if_neg (fun e=>u0 e.2.1)];exact b
 ·refine ⟨ρ',γ,g,pvF 0 Try.func36 (c5p.op_err γ.g r n u _ _ su h g g) ⟨T,q1,eqF e0,trivial⟩,?_,.tree q3⟩
  rw [GS.open,if_neg (fun e=>e0 e.1)];exact b
abbrev PF22 (γ:GL):Value:=.func (.func 22) #[ptr γ.g] #[]
theorem inL_len (l:List Int):(inL l).length=l.length:=by simp [inL]
theorem inL_app (l m:List Int):inL (l++m)=inL l++inL m:=by simp [inL]
theorem idx_loop (ok:TOk c x.t) (hc:c≤1000) (W:WI none x.t) {l:List Int} {o:Nat} {junk:List Value} (hl:l.length≤1000000):∀ (m:List Int) (j:Nat) (E:Env) (g:Hp),l.drop j=m→GAt g ρ γ x→g[o]?=some (.cells (inL l++junk) true) →
  EnvLe [(8,.int .i64 (j:Int)),(7,.int .i64 (Int.ofNat l.length)),(0,.slice (some ⟨o,0,none⟩) l.length 1),(1,PF22 γ)] E →
  ∃ E1 g1,Grow g g1∧((∃ k:Nat,j≤k∧k<l.length∧(∀ i y,j≤i→i<k→l[i]?=some y→x.pend y=false)∧(∀ y,l[k]?=some y→x.pend y=true)∧EnvLe [(4,.int .i64 (k:Int))] E1∧LRun Try.prog 19 false (loopN Try.f91 0) E g .ret E1 g1) ∨
   ((∀ i y,j≤i→l[i]?=some y→x.pend y=false)∧LRun Try.prog 19 false (loopN Try.f91 0) E g (.exit 0) E1 g1))
 | [],j,E,g,hm,a,ho,hE=>by
  have hj:l.length≤j:=List.drop_eq_nil_iff.1 hm
  obtain ⟨E1,q1,q2⟩:=pvC 0 (.trans (.add (.add (.nil _) rfl) rfl) hE) (c5p.il_out (j:Int) (Int.ofNat l.length) g) ⟨ltF (by simp only [Int.ofNat_eq_natCast];omega),trivial⟩
  exact ⟨E1,g,.refl g,.inr ⟨fun i y h1 h2=>by have:=get_lt' h2;omega,.last q2 (by simp)⟩⟩
 | y::m,j,E,g,hm,a,ho,hE=>by
  have hj:l[j]?=some y:=by rw [← List.head?_drop,hm];rfl
  have hlt:=get_lt' hj
  have hm':l.drop (j+1)=m:=by rw [← List.drop_drop,hm];rfl
  obtain ⟨g1,R,K⟩:=pend_run a ok hc W y
  have A1:(Asm.cmp .lss (j:Int) (Int.ofNat l.length) true).holds Try.prog:=ltT (by simp only [Int.ofNat_eq_natCast];omega)
  have A2:(Asm.off j 0 (j:Int) l.length 1).holds Try.prog:=offI rfl hlt (by omega)
  have A3:(Asm.ld1 (.is g) o j (.int .i64 y)).holds Try.prog:=a_ld1 ho (by rw [List.getElem?_append_left (by rw [inL_len];exact hlt)];exact inL_at hj)
  cases e:x.pend y with
  | true =>
   rw [e] at R
   obtain ⟨E1,q1,q2⟩:=pvC 0 hE (c5p.il_hit γ.g o l.length j j 0 y g g1) ⟨A1,A2,A3,R,trivial⟩
   exact ⟨E1,g1,K,.inl ⟨j,Nat.le_refl _,hlt,fun i z h1 h2=>by omega,fun z hz=>by rw [hj] at hz;cases hz;exact e,.trans (.add (.nil _) rfl) q1,.last q2 (by simp)⟩⟩
  | false =>
   rw [e] at R
   obtain ⟨E1,q1,q2⟩:=pvC 0 hE (c5p.il_go γ.g o l.length j j ((j+1:Nat):Int) y g g1) ⟨A1,A2,A3,R,addI (by omega) (by omega) (by omega),trivial⟩
   obtain ⟨E2,g2,K2,q⟩:=idx_loop ok hc W hl m (j+1) E1 g1 hm' (a.grow K) (K.get ho) (.trans (.add (.add (.add (.add (.nil _) rfl) rfl) rfl) rfl) q1)
   refine ⟨E2,g2,K.trans K2,q.elim (fun ⟨k,h1,h2,h3,h4,h5,h6⟩=>.inl ⟨k,by omega,h2,fun i z g1 g2 gz=>?_,h4,h5,.step q2 h6⟩) fun ⟨h1,h2⟩=>.inr ⟨fun i z g1 gz=>?_,.step q2 h2⟩⟩
   ·rcases Nat.lt_or_ge j i with f | f
    ·exact h3 i z f g2 gz
    ·have:i=j:=by omega
     subst this;rw [hj] at gz;cases gz;exact e
   ·rcases Nat.lt_or_ge j i with f | f
    ·exact h1 i z f gz
    ·have:i=j:=by omega
     subst this;rw [hj] at gz;cases gz;exact e
theorem plain91:plainC (loopN Try.f91 0)=true:=by kernel_rfl
theorem plain81:plainC (loopN Try.f81 0)=true:=by kernel_rfl
def GS.idle (x:GS) (l:List Int):List Int:=l.filter fun y=>!x.pend y
theorem del_loop (ok:TOk c x.t) (hc:c≤1000) (W:WI none x.t) {l:List Int} {o:Nat} {junk:List Value} (hl:l.length≤1000000) (hof:¬ fpG ρ γ o):∀ (m:List Int) (j:Nat) (C:List Value) (E:Env) (g:Hp),l.drop j=m→j≤l.length→GAt g ρ γ x→g[o]?=some (.cells C true) →
  C.length=l.length+junk.length→C.take (x.idle (l.take j)).length=inL (x.idle (l.take j))→C.drop j=inL (l.drop j)++junk →
  EnvLe [(6,.int .i64 (Int.ofNat j)),(5,.int .i64 (Int.ofNat (x.idle (l.take j)).length)),(0,.slice (some ⟨o,0,none⟩) l.length 1),(1,PF22 γ)] E →
  ∃ E1 g1 C1,Keep (fun q=>q=o) g g1∧GAt g1 ρ γ x∧g1[o]?=some (.cells C1 true)∧C1.length=l.length+junk.length∧C1.take (x.idle l).length=inL (x.idle l)∧C1.drop l.length=junk ∧
   EnvLe [(5,.int .i64 (Int.ofNat (x.idle l).length)),(0,.slice (some ⟨o,0,none⟩) l.length 1)] E1∧LRun Try.prog 42 false (loopN Try.f81 0) E g (.exit 0) E1 g1
 | [],j,C,E,g,hm,hj0,a,ho,c1,c2,c3,hE=>by
  have hj:j=l.length:=by have:=List.drop_eq_nil_iff.1 hm;omega
  subst hj
  obtain ⟨E1,q1,q2⟩:=pvC 0 hE (c5p.dl_out γ.g o l.length l.length (x.idle (l.take l.length)).length 0 0 0 0 0 [] g g) ⟨ltF (Int.le_refl _),trivial⟩
  rw [List.take_length] at c2 q1
  rw [List.drop_length] at c3
  exact ⟨E1,g,C,Keep.refl _ _,a,ho,c1,c2,by simpa [inL] using c3,.trans (.add (.add (.nil _) rfl) rfl) q1,.last q2 (by simp)⟩
 | y::m,j,C,E,g,hm,hj0,a,ho,c1,c2,c3,hE=>by
  have hj:l[j]?=some y:=by rw [← List.head?_drop,hm];rfl
  have hlt:=get_lt' hj
  have hm':l.drop (j+1)=m:=by rw [← List.drop_drop,hm];rfl
  have tk:l.take (j+1)=l.take j++[y]:=by rw [List.take_add_one,hj];rfl
  have iw:(x.idle (l.take j)).length≤j:=by
   have:=List.length_filter_le (fun y=>!x.pend y) (l.take j)
   simp only [GS.idle];simp at this ⊢;omega
  obtain ⟨g1,R,K⟩:=pend_run a ok hc W y
  have A1:(Asm.cmp .lss (Int.ofNat j) (Int.ofNat l.length) true).holds Try.prog:=ltT (by simp only [Int.ofNat_eq_natCast];omega)
  have A2:(Asm.off j 0 (Int.ofNat j) l.length 1).holds Try.prog:=offI rfl hlt (by omega)
  have cj:C[j]?=some (.int .i64 y):=by
   have:(C.drop j)[0]?=some (.int .i64 y):=by rw [c3,hm];rfl
   simpa using this
  have A3:(Asm.ld1 (.is g) o j (.int .i64 y)).holds Try.prog:=a_ld1 ho cj
  have N1:(Asm.arith .add .i64 (Int.ofNat j) 1 (Int.ofNat (j+1))).holds Try.prog:=addI (by simp only [Int.ofNat_eq_natCast];omega) (by simp only [Int.ofNat_eq_natCast];omega) (by simp only [Int.ofNat_eq_natCast];omega)
  have c3':C.drop (j+1)=inL (l.drop (j+1))++junk:=by
   rw [← List.drop_drop,c3,hm,hm'];rfl
  have up:∀ {E1:Env} {g2:Hp},(∃ E2 g3 C1,Keep (fun q=>q=o) g2 g3∧GAt g3 ρ γ x∧g3[o]?=some (.cells C1 true)∧C1.length=l.length+junk.length∧C1.take (x.idle l).length=inL (x.idle l)∧C1.drop l.length=junk ∧
    EnvLe [(5,.int .i64 (Int.ofNat (x.idle l).length)),(0,.slice (some ⟨o,0,none⟩) l.length 1)] E2∧LRun Try.prog 42 false (loopN Try.f81 0) E1 g2 (.exit 0) E2 g3)→Keep (fun q=>q=o) g g2→CRun Try.prog 42 false (loopN Try.f81 0) E g .normal E1 g2 →
    ∃ E2 g3 C1,Keep (fun q=>q=o) g g3∧GAt g3 ρ γ x∧g3[o]?=some (.cells C1 true)∧C1.length=l.length+junk.length∧C1.take (x.idle l).length=inL (x.idle l)∧C1.drop l.length=junk ∧
    EnvLe [(5,.int .i64 (Int.ofNat (x.idle l).length)),(0,.slice (some ⟨o,0,none⟩) l.length 1)] E2∧LRun Try.prog 42 false (loopN Try.f81 0) E g (.exit 0) E2 g3:=by
   intro E1 g2 ⟨E2,g3,C1,h1,h2,h3,h4,h5,h6,h7,h8⟩ K2 q2
   exact ⟨E2,g3,C1,K2.trans h1,h2,h3,h4,h5,h6,h7,.step q2 h8⟩
  cases e:x.pend y with
  | true =>
   rw [e] at R
   have ii:x.idle (l.take (j+1))=x.idle (l.take j):=by rw [tk,GS.idle,List.filter_append];simp [e,GS.idle]
   obtain ⟨E1,q1,q2⟩:=pvC 0 hE (c5p.dl_del γ.g o l.length j (x.idle (l.take j)).length j 0 (Int.ofNat (j+1)) 0 y [] g g1) ⟨A1,A2,A3,R,N1,trivial⟩
   exact up (del_loop ok hc W hl hof m (j+1) C E1 g1 hm' (by omega) (a.grow K) (K.get ho) c1 (by rw [ii];exact c2) c3' (.trans (.add (.add (.add (.add (.nil _) rfl) rfl) (by rw [ii];rfl)) rfl) q1)) (K.mono fun _ _ e=>e.elim) q2
  | false =>
   rw [e] at R
   have ii:x.idle (l.take (j+1))=x.idle (l.take j)++[y]:=by rw [tk,GS.idle,List.filter_append];simp [e,GS.idle]
   have hw:(x.idle (l.take j)).length<l.length:=by omega
   have st:(Asm.st (.is g1) o (x.idle (l.take j)).length [.int .i64 y] (C.set (x.idle (l.take j)).length (.int .i64 y))).holds Try.prog:=by
    refine a_st (K.get ho) (by simp;omega) ?_
    rw [List.set_eq_take_append_cons_drop,if_pos (by omega)];simp
   obtain ⟨E1,q1,q2⟩:=pvC 0 hE (c5p.dl_keep γ.g o l.length j (x.idle (l.take j)).length j (x.idle (l.take j)).length (Int.ofNat (j+1)) (Int.ofNat ((x.idle (l.take j)).length+1)) y _ g g1)
    ⟨A1,A2,A3,R,offI rfl hw (by omega),st,addI (by simp only [Int.ofNat_eq_natCast];omega) (by simp only [Int.ofNat_eq_natCast];omega) (by simp only [Int.ofNat_eq_natCast];omega),N1,trivial⟩
   have K2:Keep (fun q=>q=o) g (g1.set o (.cells (C.set (x.idle (l.take j)).length (.int .i64 y)) true)):=(K.mono fun _ _ e=>e.elim).trans (Keep.set (fp:=fun q=>q=o) rfl _)
   refine up (del_loop ok hc W hl hof m (j+1) _ E1 _ hm' (by omega) (a.keep K2 fun q e f=>hof (e▸f)) (get_set_eq (K.get ho)) (by simpa using c1) ?_ ?_ (.trans (.add (.add (.add (.add (.nil _) rfl) rfl) (by rw [ii];simp;rfl)) rfl) q1)) K2 q2
   ·rw [ii,List.length_append,List.length_singleton,inL_app]
    have:(C.set (x.idle (l.take j)).length (.int .i64 y)).take ((x.idle (l.take j)).length+1)=C.take (x.idle (l.take j)).length++[.int .i64 y]:=by
     rw [List.set_eq_take_append_cons_drop,if_pos (by omega),List.take_append,List.take_of_length_le (by simp;omega)]
     simp
     rw [Nat.min_eq_left (by omega)];simp
    rw [this,c2];rfl
   ·rw [List.drop_set_of_lt (by omega)];exact c3'
end
end Go.Proofs.Ytlonjogfeidgfaa.gr
namespace Go.Proofs.Ytlonjogfeidgfaa.gr
open Go Go.Ev Go.Proofs.Ytlonjogfeidgfaa.tr
set_option maxRecDepth 100000
set_option linter.unusedVariables false
set_option linter.constructorNameAsVariable false
theorem und32:Try.prog.underlying 32=some (.slice 3):=by kernel_rfl
theorem zer3:zeroO Try.prog 3=some (.int .i64 0):=by kernel_rfl
theorem a_clr {s:SH} {o p len:Nat} {C:List Value} (h:s.den[o]?=some (.cells C true)) (hp:p<len) (hl:len≤C.length) :
  (Asm.clr s 32 (.slice (some ⟨o,0+p*1,none⟩) (len-p) 1) o (C.take p++List.replicate (len-p) (.int .i64 0)++C.drop len)).holds Try.prog:=by
 obtain ⟨n,hn⟩:∃ n,len-p=n+1:=⟨len-p-1,by omega⟩
 have z:((Array.range ((n+1)*1)).map (fun i=>(Value.cells (.int .i64 0))[i%(Value.cells (.int .i64 0)).size]!)).toList=List.replicate (n+1) (.int .i64 0):=by
  apply List.ext_getElem
  ·simp
  ·intro k h1 h2
   simp [Value.cells,Nat.mod_one]
 have b:Nat.ble (0+p*1+(n+1)*1) C.length=true:=Nat.ble_eq_true_of_le (by omega)
 have one:(List.replicate (n+1) (Value.int .i64 0)).all Value.oneCell'=true:=by simp [Value.oneCell']
 simp only [Asm.holds,hn,evClear,und32,zer3,own_of h]
 simp only [z,b,one,ground,Bool.and_self]
 have e:0+p*1+(n+1)*1=len:=by omega
 rw [e,show 0+p*1=p by omega]
 rfl
section
variable {h h' g:Hp} {ρ ρ' ρ1:Lay} {γ γ' γ1:GL} {x:GS} {t':TS} {c:Nat}
theorem delete_run (a:GAt h ρ γ x) (ok:TOk c x.t) (hc:c≤1000) (W:WI none x.t) {l:List Int} {o:Nat} {junk:List Value} (hl:l.length≤1000000) (hof:¬ fpG ρ γ o) (ho:h[o]?=some (.cells (inL l++junk) true)) :
  ∃ g C,Run Try.prog 81 [.slice (some ⟨o,0,none⟩) l.length 1,PF22 γ] h (.slice (some ⟨o,0,none⟩) (x.idle l).length 1) g∧Keep (fun q=>q=o) h g∧g[o]?=some (.cells C true)∧C.take (x.idle l).length=inL (x.idle l)∧(x.idle l).length≤C.length:=by
 obtain ⟨E1,g1,K1,q⟩:=idx_loop ok hc W (junk:=junk) hl l 0 [(8,.int .i64 ((0:Nat):Int)),(7,.int .i64 (Int.ofNat l.length)),(0,.slice (some ⟨o,0,none⟩) l.length 1),(1,PF22 γ)] h rfl a ho (EnvLe.refl _)
 have il:(x.idle l).length≤l.length:=List.length_filter_le _ _
 rcases q with ⟨k,_,hk,h1,h2,h3,h4⟩ | ⟨h1,h4⟩
 ·obtain ⟨y,hy⟩:∃ y,l[k]?=some y:=⟨_,List.getElem?_eq_getElem hk⟩
  have py:=h2 y hy
  have R1:=pvF 0 Try.func91 (c5p.if_hit γ.g o l.length (k:Int) h g1) ⟨a_loop plain91 (.add (.add (.add (.add (.nil _) rfl) rfl) rfl) rfl) h3 h4,trivial⟩
  have ik:x.idle (l.take k)=l.take k:=by
   rw [GS.idle,List.filter_eq_self]
   intro z hz
   obtain ⟨i,hi⟩:=List.mem_iff_getElem?.1 hz
   rw [List.getElem?_take] at hi
   split at hi
   ·rename_i hik;rw [h1 i z (by omega) hik hi];rfl
   ·cases hi
  have ik1:x.idle (l.take (k+1))=l.take k:=by
   rw [List.take_add_one,hy,GS.idle,List.filter_append]
   have:=ik;simp only [GS.idle] at this
   rw [this];simp [py]
  have lk:(l.take k).length=k:=by simp;omega
  obtain ⟨E2,g2,C,K2,b,o2,c1,c2,c3,e2,l2⟩:=del_loop ok hc W (junk:=junk) hl hof (l.drop (k+1)) (k+1) (inL l++junk)
   [(6,.int .i64 (Int.ofNat (k+1))),(5,.int .i64 (Int.ofNat (x.idle (l.take (k+1))).length)),(0,.slice (some ⟨o,0,none⟩) l.length 1),(1,PF22 γ)] g1 rfl (by omega) (a.grow K1) (K1.get ho) (by simp [inL_len])
   (by rw [ik1,lk,List.take_append_of_le_length (by rw [inL_len];omega)];simp [inL])
   (by rw [List.drop_append_of_le_length (by rw [inL_len];omega)];simp [inL]) (EnvLe.refl _)
  have hlt:(x.idle l).length<l.length:=by
   have h5:l=l.take k++y::l.drop (k+1):=split_at hy
   have h6:x.idle l=x.idle (l.take k)++x.idle (l.drop (k+1)):=by
    conv=>lhs;rw [h5]
    simp [GS.idle,List.filter_append,py]
   have h7:(x.idle (l.drop (k+1))).length≤(l.drop (k+1)).length:=List.length_filter_le _ _
   rw [h6,ik,List.length_append,lk]
   rw [List.length_drop] at h7;omega
  refine ⟨_,_,pvF 0 Try.func81 (c5p.df γ.g o l.length (k:Int) (Int.ofNat (k+1)) (x.idle l).length (C.take (x.idle l).length++List.replicate (l.length-(x.idle l).length) (.int .i64 0)++C.drop l.length) h g1 g2)
   ⟨R1,eqF (by omega),addI (by simp only [Int.ofNat_eq_natCast];omega) (by simp only [Int.ofNat_eq_natCast];omega) (by simp only [Int.ofNat_eq_natCast];omega),
    a_loop plain81 (.add (.add (.add (.add (.nil _) rfl) rfl) (by rw [ik1,lk];rfl)) rfl |> fun q=>q) e2 l2,a_cut3 il,a_clr o2 hlt (by omega),a_cut il,trivial⟩,?_,get_set_eq o2,?_,?_⟩
  ·exact ((K1.mono fun _ _ e=>e.elim).trans K2).trans (Keep.set (fp:=fun q=>q=o) rfl _)
  ·rw [List.append_assoc,List.take_append,List.take_of_length_le (by simp;omega)]
   have:(x.idle l).length-(C.take (x.idle l).length).length=0:=by simp;omega
   rw [this,List.take_zero,List.append_nil];exact c2
  ·simp;omega
 ·have R1:=pvF 0 Try.func91 (c5p.if_no γ.g o l.length [] h g1) ⟨a_loop plain91 (.add (.add (.add (.add (.nil _) rfl) rfl) rfl) rfl) (.nil _) h4,trivial⟩
  have ik:x.idle l=l:=by
   rw [GS.idle,List.filter_eq_self]
   intro z hz
   obtain ⟨i,hi⟩:=List.mem_iff_getElem?.1 hz
   rw [h1 i z (by omega) hi];rfl
  rw [ik]
  exact ⟨g1,_,pvF 0 Try.func81 (c5p.df_no γ.g o l.length (Int.negSucc 0) h g1) ⟨R1,eqT rfl,trivial⟩,K1.mono fun _ _ e=>e.elim,K1.get ho,by rw [List.take_append_of_le_length (by rw [inL_len];omega),List.take_of_length_le (by rw [inL_len];omega)],by rw [List.length_append,inL_len];omega⟩
end
end Go.Proofs.Ytlonjogfeidgfaa.gr
namespace Go.Proofs.Ytlonjogfeidgfaa.gr
open Go Go.Ev Go.Proofs.Ytlonjogfeidgfaa.tr
set_option maxRecDepth 100000
set_option linter.unusedVariables false
set_option linter.constructorNameAsVariable false
def GS.mks (x:GS):Bool→List Int
 | true=>x.tm
 | false=>x.sm
def GS.mark (x:GS) (n:Int):Bool→GS
 | true=>{ x with tm:=x.tm++[n] }
 | false=>{ x with sm:=x.sm++[n] }
def GL.mp (γ:GL):Bool→Nat
 | true=>γ.m
 | false=>γ.n
def efP (n:Int):Ef:=⟨2,n,0,0,⟨#[]⟩⟩
def GS.strike (x:GS) (b:Bool) (n:Int) (l:List Int):GS×List Ef :=
 if n∈x.mks b then (x,[]) else (x.mark n b,((x.idle l).filter (x.mark n b).pend).map efP)
section
variable {h h' g:Hp} {ρ ρ' ρ1:Lay} {γ γ' γ1:GL} {x:GS} {t':TS} {c:Nat}
theorem GAt.lt (a:GAt h ρ γ x) {q:Nat} (e:fpG ρ γ q):q<h.length:=by
 rcases e with ⟨r,e⟩ | e | e | e | e
 ·exact a.tat.lt e
 ·subst e;exact get_lt a.obj
 ·subst e;exact get_lt a.tmo
 ·subst e;exact get_lt a.smo
 ·obtain ⟨j,hj⟩:=a.duo q e;exact get_lt hj
theorem GAt.mpo (a:GAt h ρ γ x) (b:Bool):h[γ.mp b]?=some (.mp (mks (x.mks b))):=by cases b<;>first | exact a.tmo | exact a.smo
theorem fp_mp (ρ:Lay) (γ:GL) (b:Bool):fpG ρ γ (γ.mp b):=by cases b<;>simp [fpG,GL.mp]
theorem GAt.mark (a:GAt h ρ γ x) (n:Int) (b:Bool):GAt (h.set (γ.mp b) (.mp (mks (x.mks b++[n])))) ρ γ (x.mark n b):=by
 have hm:γ.mp b≠γ.g:=fun e=>by have:=a.mpo b;rw [e,a.obj] at this;cases this
 have hd:∀ d,γ.d=some d→γ.mp b≠d:=fun d e f=>by obtain ⟨j,hj⟩:=a.duo d e;have:=a.mpo b;rw [f,hj] at this;cases this
 have ht:¬ fpT ρ (γ.mp b):=by cases b<;>first | exact a.fm | exact a.fn
 have T:=a.tat.keep (Keep.set (fp:=fun q=>q=γ.mp b) (h:=h) rfl (.mp (mks (x.mks b++[n])))) fun q e=>e▸ht
 cases b with
 | true=>exact ⟨T,get_set_ne a.obj hm,get_set_eq a.tmo,get_set_ne a.smo a.mn,fun d e=>let ⟨j,hj⟩:=a.duo d e;⟨j,get_set_ne hj (hd d e)⟩,a.dun,a.fg,a.fm,a.fn,a.fd,a.mn,a.gd⟩
 | false=>exact ⟨T,get_set_ne a.obj hm,get_set_ne a.tmo a.mn.symm,get_set_eq a.smo,fun d e=>let ⟨j,hj⟩:=a.duo d e;⟨j,get_set_ne hj (hd d e)⟩,a.dun,a.fg,a.fm,a.fn,a.fd,a.mn,a.gd⟩
theorem strk_loop (ok:TOk c x.t) (hc:c≤1000) (W:WI none x.t) {p:List Int} {o lo:Nat} {C:List Value} (hp:p.length≤100000) (hC:C.take p.length=inL p) (hol:o<lo):∀ (m:List Int) (j:Nat) (A:List Ef) (v:Value) (E:Env) (g:Hp),p.drop j=m→A.length≤j→GAt g ρ γ x→g[o]?=some (.cells C true)→(∀ q,fpG ρ γ q→q<lo)→lo≤g.length →
  SlV g lo v A.length 5 (efC A)→EnvLe [(23,.int .i64 (j:Int)),(22,.int .i64 (Int.ofNat p.length)),(21,.slice (some ⟨o,0,none⟩) p.length 1),(9,v),(0,ptr γ.g)] E →
  ∃ E1 g1 v1,Keep (fun q=>lo≤q) g g1∧SlV g1 lo v1 (A++(m.filter x.pend).map efP).length 5 (efC (A++(m.filter x.pend).map efP))∧EnvLe [(9,v1)] E1∧LRun Try.prog 37 false (loopN Try.f56 0) E g (.exit 0) E1 g1
 | [],j,A,v,E,g,hm,hA,a,ho,hf,hlo,sv,hE=>by
  have hj:p.length≤j:=List.drop_eq_nil_iff.1 hm
  obtain ⟨E1,q1,q2⟩:=pvC 0 (.trans (.add (.add (.add (.nil _) rfl) rfl) rfl) hE) (c5p.sl_out (j:Int) (Int.ofNat p.length) v g) ⟨ltF (by simp only [Int.ofNat_eq_natCast];omega),trivial⟩
  exact ⟨E1,g,v,Keep.refl _ _,by simpa using sv,.trans (.add (.nil _) rfl) q1,.last q2 (by simp)⟩
 | y::m,j,A,v,E,g,hm,hA,a,ho,hf,hlo,sv,hE=>by
  have hj:p[j]?=some y:=by rw [← List.head?_drop,hm];rfl
  have hlt:=get_lt' hj
  have hm':p.drop (j+1)=m:=by rw [← List.drop_drop,hm];rfl
  obtain ⟨g1,R,K⟩:=pend_run a ok hc W y
  have A1:(Asm.cmp .lss (j:Int) (Int.ofNat p.length) true).holds Try.prog:=ltT (by simp only [Int.ofNat_eq_natCast];omega)
  have A2:(Asm.off j 0 (j:Int) p.length 1).holds Try.prog:=offI rfl hlt (by omega)
  have cj:C[j]?=some (.int .i64 y):=by
   have:(C.take p.length)[j]?=some (.int .i64 y):=by rw [hC];exact inL_at hj
   rw [List.getElem?_take,if_pos hlt] at this
   exact this
  have A3:(Asm.ld1 (.is g) o j (.int .i64 y)).holds Try.prog:=a_ld1 ho cj
  have N1:(Asm.arith .add .i64 (j:Int) 1 ((j+1:Nat):Int)).holds Try.prog:=addI (by omega) (by omega) (by omega)
  have sv1:SlV g1 lo v A.length 5 (efC A):=by
   rcases sv with h | ⟨h1,h2,e,h3,h4,h5⟩
   ·exact .inl h
   ·exact .inr ⟨h1,h2,e,h3,K.get h4,h5⟩
  have hlo1:lo≤g1.length:=Nat.le_trans hlo K.1
  have up:∀ {E1:Env} {g2:Hp} {A':List Ef} {v':Value},A'++(m.filter x.pend).map efP=A++((y::m).filter x.pend).map efP→A'.length≤j+1→Keep (fun q=>lo≤q) g g2→SlV g2 lo v' A'.length 5 (efC A') →
    EnvLe [(23,.int .i64 ((j+1:Nat):Int)),(22,.int .i64 (Int.ofNat p.length)),(21,.slice (some ⟨o,0,none⟩) p.length 1),(9,v'),(0,ptr γ.g)] E1→CRun Try.prog 37 false (loopN Try.f56 0) E g .normal E1 g2 →
    ∃ E1 g1 v1,Keep (fun q=>lo≤q) g g1∧SlV g1 lo v1 (A++((y::m).filter x.pend).map efP).length 5 (efC (A++((y::m).filter x.pend).map efP))∧EnvLe [(9,v1)] E1∧LRun Try.prog 37 false (loopN Try.f56 0) E g (.exit 0) E1 g1:=by
   intro E1 g2 A' v' eA hA' K2 sv2 hE1 hc1
   obtain ⟨E2,g3,v3,K3,s3,e3,l3⟩:=strk_loop ok hc W hp hC hol m (j+1) A' v' E1 g2 hm' hA' (a.keep K2 fun q h1 h2=>by have:=hf q h2;omega) (K2.2 _ _ ho (by omega)) hf (Nat.le_trans hlo K2.1) sv2 hE1
   rw [eA] at s3
   exact ⟨E2,g3,v3,K2.trans K3,s3,e3,.step hc1 l3⟩
  cases e:x.pend y with
  | false =>
   rw [e] at R
   have eA:A++(m.filter x.pend).map efP=A++((y::m).filter x.pend).map efP:=by simp [e]
   obtain ⟨oa,cnt,za,rfl⟩:∃ oa cnt za,v=.slice oa cnt za:=by
    rcases sv with ⟨_,_,h⟩ | ⟨_,_,e,h,_⟩<;>exact ⟨_,_,_,h⟩
   obtain ⟨E1,q1,q2⟩:=pvC 0 hE (c5p.sl_no γ.g o p.length j 0 0 cnt (j:Int) ((j+1:Nat):Int) y oa za [] [] g g1) ⟨A1,A2,A3,R,N1,trivial⟩
   exact up eA (by omega) (K.mono fun _ _ e=>e.elim) sv1 (.trans (.add (.add (.add (.add (.add (.nil _) rfl) rfl) rfl) rfl) rfl) q1) q2
  | true =>
   rw [e] at R
   have eA:(A++[efP y])++(m.filter x.pend).map efP=A++((y::m).filter x.pend).map efP:=by simp [e]
   have ec:efC (A++[efP y])=efC A++(efP y).cells:=by rw [efC_app];simp [efC]
   rcases sv1 with ⟨h1,h2,rfl⟩ | ⟨h1,h2,d,rfl,h4,h5⟩
   ·have A0:A=[]:=List.length_eq_zero_iff.1 h1
    obtain ⟨E1,q1,q2⟩:=pvC 0 hE (c5p.sl_n γ.g o p.length j g1.length (g1.length+1) 0 (j:Int) ((j+1:Nat):Int) y none 0 [] [] g g1)
     ⟨A1,A2,A3,R,rfl,a_appGN rfl rfl (by omega) (get_new _ _) (push_len _ _),N1,trivial⟩
    refine up eA (by simp;omega) ((K.mono fun _ _ e=>e.elim).trans ((Keep.push _ _ _).trans (Keep.push _ _ _))) (.inr ⟨by simp,by rw [efC_len],g1.length+1,?_,?_,by omega⟩) (.trans (.add (.add (.add (.add (.add (.nil _) rfl) rfl) rfl) rfl) rfl) q1) q2
    ·rw [A0];rfl
    ·rw [A0];exact get_new' _ (push_len _ _)
   ·have hd:=get_lt h4
    obtain ⟨E1,q1,q2⟩:=pvC 0 hE (c5p.sl_s γ.g o p.length j g1.length (g1.length+1) A.length d (j:Int) ((j+1:Nat):Int) y (efC A++(efP y).cells) g g1)
     ⟨A1,A2,A3,R,rfl,a_appGS rfl rfl (by omega) (by omega) h2 (get_push h4) (get_new _ _) (push_len _ _),N1,trivial⟩
    refine up eA (by simp;omega) ((K.mono fun _ _ e=>e.elim).trans (((Keep.push _ _ _).trans (Keep.set (fp:=fun q=>lo≤q) h5 _)).trans (Keep.push _ _ _))) (.inr ⟨by simp,by rw [efC_len],g1.length+1,?_,?_,by omega⟩) (.trans (.add (.add (.add (.add (.add (.nil _) rfl) rfl) rfl) rfl) rfl) q1) q2
    ·rw [List.length_append];rfl
    ·rw [ec];exact get_new' _ (by simp [SH.den])
theorem plain56:plainC (loopN Try.f56 0)=true:=by kernel_rfl
theorem mark_t (x:GS) (n:Int) (b:Bool):(x.mark n b).t=x.t:=by cases b<;>rfl
theorem strike_run (a:GAt h ρ γ x) (ok:TOk c x.t) (hc:c≤1000) (W:WI none x.t) (b:Bool) (n:Int) {l:List Int} {o:Nat} {junk:List Value} (hl:l.length≤100000) (hof:¬ fpG ρ γ o) (ho:h[o]?=some (.cells (inL l++junk) true)) :
  ∃ v g,Run Try.prog 56 [ptr γ.g,.map (some (γ.mp b)),.int .i64 n,.slice (some ⟨o,0,none⟩) l.length 1] h v g∧GAt g ρ γ (x.strike b n l).1∧Keep (fun q=>fpG ρ γ q∨q=o) h g∧SlV g h.length v (x.strike b n l).2.length 5 (efC (x.strike b n l).2):=by
 by_cases e:n∈x.mks b
 ·rw [GS.strike,if_pos e]
  exact ⟨_,h,pvF 0 Try.func56 (c5p.sk_had γ.g (γ.mp b) o l.length n h) ⟨a_lkT (a.mpo b) e,trivial⟩,a,Keep.refl _ _,.inl ⟨rfl,rfl,rfl⟩⟩
 ·rw [GS.strike,if_neg e]
  obtain ⟨g1,C,R,K,o1,c1,c2⟩:=delete_run a ok hc W (Nat.le_trans hl (by omega)) hof ho
  have a1:GAt g1 ρ γ x:=a.keep K fun q e f=>hof (e▸f)
  have a2:=a1.mark n b
  have hmo:γ.mp b≠o:=fun f=>hof (f▸fp_mp ρ γ b)
  have hlen:g1.length=(g1.set (γ.mp b) (.mp (mks (x.mks b++[n])))).length:=by simp
  have hlg:=K.1
  obtain ⟨E1,g2,v,K2,sv,e2,l2⟩:=strk_loop (x:=x.mark n b) (γ:=γ) (ρ:=ρ) (lo:=h.length) (by rw [mark_t];exact ok) hc (by rw [mark_t];exact W) (p:=x.idle l) (Nat.le_trans (List.length_filter_le _ _) hl) c1 (get_lt ho) (x.idle l) 0 [] (.slice none 0 0)
   [(23,.int .i64 ((0:Nat):Int)),(22,.int .i64 (Int.ofNat (x.idle l).length)),(21,.slice (some ⟨o,0,none⟩) (x.idle l).length 1),(9,.slice none 0 0),(0,ptr γ.g)] _ rfl (Nat.le_refl _) a2 (get_set_ne o1 hmo) (fun q e=>a.lt e) (by omega) (.inl ⟨rfl,rfl,rfl⟩) (EnvLe.refl _)
  rw [List.nil_append] at sv
  refine ⟨v,g2,pvF 0 Try.func56 (c5p.sk γ.g (γ.mp b) o l.length (x.idle l).length n (mks (x.mks b++[n])) v [] h g1 g2)
   ⟨a_lkF (a.mpo b) e,R,a_mup (a1.mpo b) e,a_loop plain56 (.add (.add (.add (.add (.add (.nil _) rfl) rfl) rfl) rfl) rfl) e2 l2,trivial⟩,a2.keep K2 fun q h1 h2=>by have:=a.lt h2;omega,?_,sv⟩
  exact ((K.mono fun q _ e=>.inr e).trans (Keep.set (.inl (fp_mp ρ γ b)) _)).trans_new K2 fun q hq e=>by omega
end
end Go.Proofs.Ytlonjogfeidgfaa.gr
namespace Go.Proofs.Ytlonjogfeidgfaa.gr
open Go Go.Ev Go.Proofs.Ytlonjogfeidgfaa.tr
set_option maxRecDepth 100000
set_option linter.unusedVariables false
set_option linter.constructorNameAsVariable false
def nmI (l:List Nat):List Int:=l.map fun j=>((j+1:Nat):Int)
theorem nmL_inL (l:List Nat):nmL l=inL (nmI l):=by simp [nmL,inL,nmI]
def reachO (t:TS) (n:Int):List (Option Nat)→List Int
 | []=>[n]
 | none::l=>reachO t n l
 | some s::_=>n::nmI (t.below ((s+1:Nat):Int)).1
theorem stat31:(Asm.stat (drawN Try.f31 0)).holds Try.prog:=show statOk (drawN Try.f31 0)=true by kernel_rfl
section
variable {h h' g:Hp} {ρ ρ' ρ1:Lay} {γ γ' γ1:GL} {x:GS} {t':TS} {c:Nat}
theorem reach_loop (ok:TOk c x.t) (hc:c≤1000) (W:WI none x.t) (J:WJ x.t) {op:List (Option Nat)} {oo o:Nat} {nn:Int} (hl:op.length≤100000) (hof:¬ fpG ρ γ o) (hne:o≠oo):∀ (m:List (Option Nat)) (j:Nat) (E:Env) (g:Hp),op.drop j=m→GAt g ρ γ x →
  g[oo]?=some (.cells (lkL op) true)→g[o]?=some (.cells (inL [nn]) true) →
  EnvLe [(39,.int .i64 (j:Int)),(38,.int .i64 (Int.ofNat op.length)),(37,.slice (some ⟨oo,0,none⟩) op.length 2),(10,.slice (some ⟨o,0,none⟩) 1 1),(0,ptr γ.g),(1,.int .i64 nn)] E →
  ∃ E1 g1 f,Keep (fun q=>q=o) g g1∧(f=o∨g.length≤f)∧g1[f]?=some (.cells (inL (reachO x.t nn m)) true)∧EnvLe [(10,.slice (some ⟨f,0,none⟩) (reachO x.t nn m).length 1),(0,ptr γ.g),(1,.int .i64 nn)] E1∧LRun Try.prog 68 false (loopN Try.f31 0) E g (.exit 0) E1 g1
 | [],j,E,g,hm,a,hoo,ho,hE=>by
  have hj:op.length≤j:=List.drop_eq_nil_iff.1 hm
  obtain ⟨E1,q1,q2⟩:=pvC 0 (.trans (.add (.add (.add (.add (.add (.nil _) rfl) rfl) rfl) rfl) rfl) hE) (c8p.rl_out γ.g (j:Int) (Int.ofNat op.length) nn (.slice (some ⟨o,0,none⟩) 1 1) g) ⟨ltF (by simp only [Int.ofNat_eq_natCast];omega),trivial⟩
  exact ⟨E1,g,o,Keep.refl _ _,.inl rfl,ho,.trans (.add (.add (.add (.nil _) rfl) rfl) rfl) q1,.last q2 (by simp)⟩
 | v::m,j,E,g,hm,a,hoo,ho,hE=>by
  have hj:op[j]?=some v:=by rw [← List.head?_drop,hm];rfl
  have hlt:=get_lt' hj
  have hm':op.drop (j+1)=m:=by rw [← List.drop_drop,hm];rfl
  have L:((prL (op.map lkP)++[]).drop (j*2)).take 2=prC (lkP v):=prL_at [] (by rw [List.getElem?_map,hj];rfl)
  rw [List.append_nil,← lkL_pr] at L
  have A1:(Asm.cmp .lss (j:Int) (Int.ofNat op.length) true).holds Try.prog:=ltT (by simp only [Int.ofNat_eq_natCast];omega)
  have A2:(Asm.off (j*2) 0 (j:Int) op.length 2).holds Try.prog:=offI rfl hlt (by omega)
  have A3:(Asm.ldn (.is g) oo (j*2) 2 [.int .i64 (lkK v),.int .i64 (lkN v)]).holds Try.prog:=a_ldn hoo (by rw [lkL_len];omega) L
  obtain ⟨g2,hg2⟩:∃ g2,g2=(g++[AObj.cells [.int .i64 0,.int .i64 0] true]).set g.length (.cells [.int .i64 (lkK v),.int .i64 (lkN v)] true):=⟨_,rfl⟩
  have K2:Grow g g2:=by rw [hg2];exact ((Grow.refl g).push _).set (Nat.le_refl _) _
  have bx:g2[g.length]?=some (.cells [.int .i64 (lkK v),.int .i64 (lkN v)] true):=by rw [hg2];exact get_set_eq (get_new _ _)
  have A4:(Asm.st (.push (.is g) (.cells [.int .i64 0,.int .i64 0] true)) g.length 0 [.int .i64 (lkK v),.int .i64 (lkN v)] [.int .i64 (lkK v),.int .i64 (lkN v)]).holds Try.prog:=a_st (get_new _ _) (by simp) rfl
  obtain ⟨s2,hs2⟩:∃ s2:SH,s2=.set (.push (.is g) (.cells [.int .i64 0,.int .i64 0] true)) g.length (.cells [.int .i64 (lkK v),.int .i64 (lkN v)] true):=⟨_,rfl⟩
  have den2:s2.den=g2:=by rw [hs2,hg2];rfl
  have X:(Asm.ld1 s2 g.length 0 (.int .i64 (lkK v))).holds Try.prog:=a_ld1 (by rw [den2];exact bx) rfl
  have Y:(Asm.ld1 s2 g.length 1 (.int .i64 (lkN v))).holds Try.prog:=a_ld1 (by rw [den2];exact bx) rfl
  have ag:=a.grow K2
  obtain ⟨r,hr,hp⟩:=root_ptr a
  have M0:(Asm.ld1 s2 γ.g 0 (ptr r)).holds Try.prog:=a_ld1 (by rw [den2];exact ag.obj) (by rw [hp];rfl)
  cases v with
  | none =>
   have N1:(Asm.arith .add .i64 (j:Int) 1 ((j+1:Nat):Int)).holds Try.prog:=addI (by omega) (by omega) (by omega)
   subst hs2
   obtain ⟨E1,q1,q2⟩:=pvC 0 hE (c8p.rl_no γ.g 0 oo op.length (j*2) g.length 0 0 0 0 0 (j:Int) ((j+1:Nat):Int) 3 0 nn 0 (.slice (some ⟨o,0,none⟩) 1 1) [] [] g g) ⟨A1,A2,A3,rfl,A4,X,eqF (by omega),N1,trivial⟩
   have q2':CRun Try.prog 68 false (loopN Try.f31 0) E g .normal E1 g2:=by rw [hg2];exact q2
   obtain ⟨E2,g3,f,K3,f1,f2,e2,l2⟩:=reach_loop ok hc W J hl hof hne m (j+1) E1 g2 hm' ag (K2.get hoo) (K2.get ho) (.trans (.add (.add (.add (.add (.add (.add (.nil _) rfl) rfl) rfl) rfl) rfl) rfl) q1)
   exact ⟨E2,g3,f,(K2.mono fun _ _ e=>e.elim).trans K3,f1.imp id fun e=>Nat.le_trans K2.1 e,f2,e2,.step q2' l2⟩
  | some s =>
   obtain ⟨w,g3,R,K3,sv⟩:=below_run ag.tat ok hc W J hr ((s+1:Nat):Int)
   rw [← den2] at R
   have ho3:g3[o]?=some (.cells (inL [nn]) true):=K3.2 _ _ (K2.get ho) id
   subst hs2
   rcases sv with ⟨h1,h2,rfl⟩ | ⟨h1,h2,d,rfl,h4,h5⟩
   ·have e0:(x.t.below ((s+1:Nat):Int)).1=[]:=List.length_eq_zero_iff.1 h1
    obtain ⟨E1,q1,q2⟩:=pvC 0 hE (c8p.rl_sc0 γ.g r oo op.length (j*2) g.length o 0 0 0 0 (j:Int) 0 2 ((s+1:Nat):Int) nn (x.t.below ((s+1:Nat):Int)).2 undef [] [] g g3) ⟨A1,A2,A3,rfl,A4,X,eqT rfl,stat31,M0,Y,R,trivial⟩
    have er:reachO x.t nn (some s::m)=[nn]:=by simp only [reachO,e0];rfl
    rw [er]
    exact ⟨E1,g3,o,(K2.trans K3).mono fun _ _ e=>e.elim,.inl rfl,ho3,.trans (.add (.add (.add (.nil _) rfl) rfl) rfl) q1,.last q2 (by simp)⟩
   ·obtain ⟨k',hk'⟩:∃ k',(x.t.below ((s+1:Nat):Int)).1.length=k'+1:=⟨(x.t.below ((s+1:Nat):Int)).1.length-1,by omega⟩
    have hb:k'≤1000000:=by
     rcases hq:x.t.scope ((s+1:Nat):Int) with ⟨s' | s',e⟩
     ·exact absurd (by simp only [TS.below,hq];rfl) h1
     ·obtain ⟨_,_,hs⟩:=scope_some hq
      have:=below_len ok W J hs
      simp only [TS.below,hq] at hk'
      omega
    rw [hk'] at R
    obtain ⟨E1,q1,q2⟩:=pvC 0 hE (c8p.rl_sc γ.g r oo op.length (j*2) g.length o d (k'+1) k' g3.length (j:Int) 0 2 ((s+1:Nat):Int) nn (x.t.below ((s+1:Nat):Int)).2 undef (inL [nn]++nmL (x.t.below ((s+1:Nat):Int)).1) (nmL (x.t.below ((s+1:Nat):Int)).1) g g3)
     ⟨A1,A2,A3,rfl,A4,X,eqT rfl,stat31,M0,Y,R,a_appSJ (junk:=[]) (junk2:=[]) (by rw [List.append_nil];exact ho3) rfl (by rw [List.append_nil];exact h4) (by rw [nmL_len,hk'];omega) (by rw [nmL_inL];simp [inL,Value.oneCell']) (by omega) hb (by omega) rfl,trivial⟩
    have er:inL (reachO x.t nn (some s::m))=inL [nn]++nmL (x.t.below ((s+1:Nat):Int)).1:=by rw [nmL_inL];rfl
    have el:(reachO x.t nn (some s::m)).length=1+(k'+1):=by simp only [reachO,nmI,List.length_cons,List.length_map,hk'];omega
    have hdo:d≠o:=fun e=>by have:=get_lt (K2.get ho);omega
    refine ⟨E1,_,g3.length,((K2.trans K3).mono fun _ _ e=>e.elim).trans ((Keep.set (fp:=fun q=>q=o) rfl _).trans (Keep.push _ _ _)),.inr (Nat.le_trans K2.1 K3.1),by rw [er];exact get_new' _ (by simp [SH.den]),?_,.last q2 (by simp)⟩
    rw [el]
    exact .trans (.add (.add (.add (.nil _) rfl) rfl) rfl) q1
theorem plain31:plainC (loopN Try.f31 0)=true:=by kernel_rfl
def GS.strikeT (x:GS) (n:Int):GS×List Ef×Int :=
 if (x.t.chain n).2≠0 then (x,[],(x.t.chain n).2) else ((x.strike true n (reachO x.t n (x.t.task n).1.op)).1,(x.strike true n (reachO x.t n (x.t.task n).1.op)).2,0)
theorem reach_len (ok:TOk c t') (W:WI none t') (J:WJ t') (n:Int):∀ l,(reachO t' n l).length≤100000
 | []=>by simp [reachO]
 | none::l=>reach_len ok W J n l
 | some s::l=>by
  simp only [reachO,nmI,List.length_cons,List.length_map]
  rcases hq:t'.scope ((s+1:Nat):Int) with ⟨s' | s',e⟩
  ·simp only [TS.below,hq,List.length_nil];omega
  ·obtain ⟨_,_,hs⟩:=scope_some hq
   have:=below_len ok W J hs
   simp only [TS.below,hq]
   omega
theorem task_op_len (ok:TOk c t') (hc:c≤1000) (n:Int):(t'.task n).1.op.length≤1000:=by
 unfold TS.task
 split
 ·simp [TkV.zero]
 ·split
  ·rename_i y hy
   have:=ok.len _ y hy
   simp only [tkV];omega
  ·simp [TkV.zero]
theorem strikeT_run (a:GAt h ρ γ x) (ok:TOk c x.t) (hc:c≤1000) (W:WI none x.t) (J:WJ x.t) (n:Int) :
  ∃ v g,Run Try.prog 31 [ptr γ.g,.int .i64 n] h (.tuple #[v,.int .i64 (x.strikeT n).2.2]) g∧GAt g ρ γ (x.strikeT n).1∧GStep ρ γ h ρ γ g∧SlV g h.length v (x.strikeT n).2.1.length 5 (efC (x.strikeT n).2.1):=by
 obtain ⟨r,hr,hp⟩:=root_ptr a
 obtain ⟨v1,g1,q1,K1,_⟩:=chain_run a.tat ok hc W hr n
 have T:=tree_run a hr
 by_cases e0:(x.t.chain n).2=0
 ·have es:x.strikeT n=((x.strike true n (reachO x.t n (x.t.task n).1.op)).1,(x.strike true n (reachO x.t n (x.t.task n).1.op)).2,0):=by rw [GS.strikeT,if_neg (fun e=>e e0)]
  rw [es]
  rw [e0] at q1
  have a1:=a.grow K1
  obtain ⟨v2,g2,q2,K2,sv⟩:=task_run a1.tat ok (by omega) hr n
  have a2:=a1.grow K2
  have hlen:=task_op_len ok hc n
  obtain ⟨w,hw⟩:∃ w,w=x.t.task n:=⟨_,rfl⟩
  rw [← hw] at q2 sv hlen ⊢
  obtain ⟨⟨sc,en,lv,fk,ft,op⟩,er⟩:=w
  simp only [TkV.C] at q2 sv hlen ⊢
  have lr:=reach_len ok W J n op
  obtain ⟨g3,hg3⟩:∃ g3,g3=((g2++[AObj.cells [.int .i64 0,.bool false,.bool false,.int .i64 0,.string { data:=#[] },.slice none 0 0] true]).set g2.length (.cells [.int .i64 sc,.bool en,.bool lv,.int .i64 fk,.string ft,v2] true))++[AObj.cells [.int .i64 n] true]:=⟨_,rfl⟩
  have K3:Grow g2 g3:=by rw [hg3];exact (((Grow.refl g2).push _).set (Nat.le_refl _) _).push _
  have l3:g3.length=g2.length+2:=by rw [hg3];simp
  have a3:=a2.grow K3
  have K13:Grow h g3:=(K1.trans K2).trans K3
  have ho:g3[g2.length+1]?=some (.cells (inL [n]) true):=by rw [hg3];exact get_new' _ (by simp)
  have hbx:g3[g2.length]?=some (.cells [.int .i64 sc,.bool en,.bool lv,.int .i64 fk,.string ft,v2] true):=by rw [hg3];exact get_push (get_set_eq (get_new _ _))
  have hof:¬ fpG ρ γ (g2.length+1):=fun e=>by have:=a2.lt e;omega
  have fin:∀ {E1:Env} {g4:Hp} {f:Nat} (E0:Env) (s3:SH),s3.den=g3→Keep (fun q=>q=g2.length+1) g3 g4→(f=g2.length+1∨g3.length≤f)→g4[f]?=some (.cells (inL (reachO x.t n op)) true) →
    ∃ ev g5,Run Try.prog 56 [ptr γ.g,.map (some γ.m),.int .i64 n,.slice (some ⟨f,0,none⟩) (reachO x.t n op).length 1] g4 ev g5∧(Asm.ld1 (.is g4) γ.g 1 (.map (some γ.m))).holds Try.prog ∧
     GAt g5 ρ γ (x.strike true n (reachO x.t n op)).1∧GStep ρ γ h ρ γ g5∧SlV g5 h.length ev (x.strike true n (reachO x.t n op)).2.length 5 (efC (x.strike true n (reachO x.t n op)).2):=by
   intro E1 g4 f E0 s3 _ K4 f1 f2
   have a4:GAt g4 ρ γ x:=a3.keep K4 fun q e=>e▸hof
   have hff:¬ fpG ρ γ f:=fun e=>by have:=a.lt e;have:=K13.1;have:=K1.1;have:=K2.1;omega
   obtain ⟨ev,g5,R5,a5,K5,sv5⟩:=strike_run a4 ok hc W true n (junk:=[]) lr hff (by simpa using f2)
   have lh:h.length≤g4.length:=Nat.le_trans K13.1 K4.1
   refine ⟨ev,g5,R5,a_ld1 a4.obj rfl,a5,⟨?_,fun q e=>.inl e,rfl⟩,?_⟩
   ·have k1:Keep (fpG ρ γ) h g4:=(K13.mono (fp':=fpG ρ γ) fun _ _ e=>e.elim).trans_new K4 fun q hq e=>by have:=K1.1;have:=K2.1;omega
    exact k1.trans_new K5 fun q hq e=>e.elim id fun e=>by have:=K1.1;have:=K2.1;omega
   ·rcases sv5 with h | ⟨h1,h2,o,h3,h4,h5⟩
    ·exact .inl h
    ·exact .inr ⟨h1,h2,o,h3,h4,by omega⟩
  have st:∀ w,v2=w→(Asm.st (.push (.is g2) (.cells [.int .i64 0,.bool false,.bool false,.int .i64 0,.string { data:=#[] },.slice none 0 0] true)) g2.length 0 [.int .i64 sc,.bool en,.bool lv,.int .i64 fk,.string ft,w] [.int .i64 sc,.bool en,.bool lv,.int .i64 fk,.string ft,w]).holds Try.prog:=fun w _=>a_st (get_new _ _) (by simp) rfl
  have M0:(Asm.ld1 (.is g1) γ.g 0 (ptr r)).holds Try.prog:=a_ld1 a1.obj (by rw [hp];rfl)
  rcases sv with ⟨h1,h2,rfl⟩ | ⟨h1,h2,oo,rfl,h4,h5⟩
  ·have o0:op=[]:=List.length_eq_zero_iff.1 h1
   subst o0
   obtain ⟨ev,g5,R5,L5,a5,S5,sv5⟩:=fin (E1:=[]) (g4:=g3) (f:=g2.length+1) [] (.is g3) rfl (Keep.refl _ _) (.inl rfl) ho
   obtain ⟨E2,p1,p2⟩:=pvC 0 (EnvLe.refl [(39,.int .i64 0),(38,.int .i64 0),(10,.slice (some ⟨g2.length+1,0,none⟩) 1 1),(0,ptr γ.g),(1,.int .i64 n)]) (c8p.rl_out γ.g 0 0 n (.slice (some ⟨g2.length+1,0,none⟩) 1 1) g3) ⟨ltF (Int.le_refl _),trivial⟩
   subst hg3
   exact ⟨ev,g5,pvF 0 Try.func31 (c8p.st_nil γ.g r g2.length (g2.length+1) 0 γ.m 0 n sc fk er en lv ft v1 (.slice (some ⟨g2.length+1,0,none⟩) 1 1) ev [] h g1 g2 _ g5)
    ⟨T,q1,neF rfl,M0,q2,rfl,st _ rfl,by simp [Asm.holds,SH.den],a_ld1 hbx rfl,a_loop plain31 (.add (.add (.add (.add (.add (.nil _) rfl) rfl) rfl) rfl) rfl) (.trans (.add (.add (.add (.nil _) rfl) rfl) rfl) p1) (.last p2 (by simp)),L5,R5,trivial⟩,a5,S5,sv5⟩
  ·obtain ⟨E4,g4,f,K4,f1,f2,e4,l4⟩:=reach_loop ok hc W J (op:=op) (oo:=oo) (o:=g2.length+1) (nn:=n) (Nat.le_trans hlen (by omega)) hof (by have:=get_lt h4;omega) op 0
    [(39,.int .i64 ((0:Nat):Int)),(38,.int .i64 (Int.ofNat op.length)),(37,.slice (some ⟨oo,0,none⟩) op.length 2),(10,.slice (some ⟨g2.length+1,0,none⟩) 1 1),(0,ptr γ.g),(1,.int .i64 n)] g3 rfl a3 (K3.get h4) ho (EnvLe.refl _)
   obtain ⟨ev,g5,R5,L5,a5,S5,sv5⟩:=fin (E1:=E4) [] (.is g3) rfl K4 f1 f2
   subst hg3
   exact ⟨ev,g5,pvF 0 Try.func31 (c8p.st_go γ.g r g2.length (g2.length+1) op.length γ.m oo n sc fk er en lv ft v1 (.slice (some ⟨f,0,none⟩) (reachO x.t n op).length 1) ev [] h g1 g2 g4 g5)
    ⟨T,q1,neF rfl,M0,q2,rfl,st _ rfl,by simp [Asm.holds,SH.den],a_ld1 hbx rfl,a_loop plain31 (.add (.add (.add (.add (.add (.add (.nil _) rfl) rfl) rfl) rfl) rfl) rfl) e4 l4,L5,R5,trivial⟩,a5,S5,sv5⟩
 ·have es:x.strikeT n=(x,[],(x.t.chain n).2):=by rw [GS.strikeT,if_pos e0]
  rw [es]
  exact ⟨_,g1,pvF 0 Try.func31 (c8p.st_err γ.g r n _ v1 h g1) ⟨T,q1,neT e0,trivial⟩,a.grow K1,.grow K1,.inl ⟨rfl,rfl,rfl⟩⟩
end
end Go.Proofs.Ytlonjogfeidgfaa.gr
namespace Go.Proofs.Ytlonjogfeidgfaa.gr
open Go Go.Ev Go.Proofs.Ytlonjogfeidgfaa.tr
set_option maxRecDepth 100000
set_option linter.unusedVariables false
set_option linter.constructorNameAsVariable false
def GS.strikes (x:GS) (n:Int):GS×List Ef:=x.strike false n ((x.t.sco n).1.ow::nmI (x.t.below n).1)
def GS.turned:GS→List Ef→GS×List Ef
 | x,[]=>(x,[])
 | x,e::l=>if e.kind=1 then (((x.strikes e.n).1.turned l).1,(x.strikes e.n).2++((x.strikes e.n).1.turned l).2) else ((x.turned l).1,e::(x.turned l).2)
theorem strike_t (x:GS) (b:Bool) (n:Int) (l:List Int):(x.strike b n l).1.t=x.t:=by
 unfold GS.strike;split
 ·rfl
 ·exact mark_t x n b
theorem turned_t:∀ (l:List Ef) (x:GS),(x.turned l).1.t=x.t
 | [],x=>rfl
 | e::l,x=>by
  rw [GS.turned];split
  ·rw [turned_t l];exact strike_t _ _ _ _
  ·exact turned_t l x
theorem strike_len (x:GS) (b:Bool) (n:Int) (l:List Int):(x.strike b n l).2.length≤l.length:=by
 unfold GS.strike;split
 ·simp
 ·simp only [List.length_map]
  exact Nat.le_trans (List.length_filter_le _ _) (List.length_filter_le _ _)
theorem stat55:(Asm.stat (drawN Try.f55 0)).holds Try.prog:=show statOk (drawN Try.f55 0)=true by kernel_rfl
theorem agg84:aggSize Try.prog 84=some none:=by kernel_rfl
section
variable {h h' g:Hp} {ρ ρ' ρ1:Lay} {γ γ' γ1:GL} {x:GS} {t':TS} {c:Nat}
theorem below_lim (ok:TOk c t') (W:WI none t') (J:WJ t') (n:Int):(t'.below n).1.length≤64:=by
 rcases hq:t'.scope n with ⟨s' | s',e⟩
 ·simp only [TS.below,hq,List.length_nil];omega
 ·obtain ⟨_,_,hs⟩:=scope_some hq
  have:=below_len ok W J hs
  simp only [TS.below,hq];omega
theorem strikes_len (ok:TOk c x.t) (W:WI none x.t) (J:WJ x.t) (n:Int):(x.strikes n).2.length≤65:=by
 have h1:=strike_len x false n ((x.t.sco n).1.ow::nmI (x.t.below n).1)
 have h2:=below_lim ok W J n
 simp only [List.length_cons,nmI,List.length_map] at h1
 exact Nat.le_trans h1 (by omega)
theorem strikes_run (a:GAt h ρ γ x) (ok:TOk c x.t) (hc:c≤1000) (W:WI none x.t) (J:WJ x.t) (n:Int) :
  ∃ v g,Run Try.prog 55 [ptr γ.g,.int .i64 n] h v g∧GAt g ρ γ (x.strikes n).1∧GStep ρ γ h ρ γ g∧SlV g h.length v (x.strikes n).2.length 5 (efC (x.strikes n).2):=by
 obtain ⟨r,hr,hp⟩:=root_ptr a
 obtain ⟨v1,g1,q1,K1,sv1⟩:=sco_run a.tat ok (by omega) hr n
 have a1:=a.grow K1
 obtain ⟨oa,ln,za,rfl⟩:∃ oa ln za,v1=.slice oa ln za:=by
  rcases sv1 with ⟨_,_,h⟩ | ⟨_,_,e,h,_⟩<;>exact ⟨_,_,_,h⟩
 obtain ⟨w,hw⟩:∃ w,w=x.t.sco n:=⟨_,rfl⟩
 have es:x.strikes n=x.strike false n (w.1.ow::nmI (x.t.below n).1):=by rw [hw];rfl
 rw [← hw] at q1
 obtain ⟨⟨ow,su,ov,tk,fk,ft⟩,er⟩:=w
 simp only [ScV.C] at q1
 simp only at es
 obtain ⟨g2,hg2⟩:∃ g2,g2=(g1++[AObj.cells [.int .i64 0,.bool false,.bool false,.slice none 0 0,.int .i64 0,.string { data:=#[] }] true]).set g1.length (.cells [.int .i64 ow,.bool su,.bool ov,.slice oa ln za,.int .i64 fk,.string ft] true):=⟨_,rfl⟩
 have K2:Grow g1 g2:=by rw [hg2];exact ((Grow.refl g1).push _).set (Nat.le_refl _) _
 have bx:g2[g1.length]?=some (.cells [.int .i64 ow,.bool su,.bool ov,.slice oa ln za,.int .i64 fk,.string ft] true):=by rw [hg2];exact get_set_eq (get_new _ _)
 have a2:=a1.grow K2
 obtain ⟨bv,g3,q3,K3,sv3⟩:=below_run a2.tat ok hc W J hr n
 have a3:=a2.grow K3
 have M0:(Asm.ld1 (.is h) γ.g 0 (ptr r)).holds Try.prog:=a_ld1 a.obj (by rw [hp];rfl)
 have st:(Asm.st (.push (.is g1) (.cells [.int .i64 0,.bool false,.bool false,.slice none 0 0,.int .i64 0,.string { data:=#[] }] true)) g1.length 0 [.int .i64 ow,.bool su,.bool ov,.slice oa ln za,.int .i64 fk,.string ft] [.int .i64 ow,.bool su,.bool ov,.slice oa ln za,.int .i64 fk,.string ft]).holds Try.prog:=a_st (get_new _ _) (by simp) rfl
 have M1:∀ s:SH,s.den=g2→(Asm.ld1 s γ.g 0 (ptr r)).holds Try.prog:=fun s e=>a_ld1 (by rw [e];exact a2.obj) (by rw [hp];rfl)
 have bx3:g3[g1.length]?=some (.cells [.int .i64 ow,.bool su,.bool ov,.slice oa ln za,.int .i64 fk,.string ft] true):=K3.2 _ _ bx id
 have X:(Asm.ld1 (.is g3) g1.length 0 (.int .i64 ow)).holds Try.prog:=a_ld1 bx3 rfl
 have M3:(Asm.ld1 (.is g3) γ.g 2 (.map (some γ.n))).holds Try.prog:=a_ld1 a3.obj rfl
 have G3:∀ s:SH,Grow g3 s.den→(Asm.again s 84 (.pointer (some ⟨γ.g,2,none⟩)) (.map (some γ.n))).holds Try.prog:=fun s K=>a_again1 agg84 (K.get a3.obj) rfl rfl
 have lh:h.length≤g3.length:=Nat.le_trans K1.1 (Nat.le_trans K2.1 K3.1)
 have K13:Grow h g3:=(K1.trans K2).trans K3
 have bl:=below_lim ok W J n
 have fin:∀ {g4:Hp} {f:Nat},Grow g3 g4→g3.length≤f→g4[f]?=some (.cells (inL (ow::nmI (x.t.below n).1)) true) →
   ∃ ev g5,Run Try.prog 56 [ptr γ.g,.map (some γ.n),.int .i64 n,.slice (some ⟨f,0,none⟩) (ow::nmI (x.t.below n).1).length 1] g4 ev g5∧GAt g5 ρ γ (x.strikes n).1∧GStep ρ γ h ρ γ g5∧SlV g5 h.length ev (x.strikes n).2.length 5 (efC (x.strikes n).2):=by
  intro g4 f K4 f1 f2
  have a4:=a3.grow K4
  have hff:¬ fpG ρ γ f:=fun e=>by have:=a.lt e;omega
  obtain ⟨ev,g5,R5,a5,K5,sv5⟩:=strike_run a4 ok hc W false n (l:=ow::nmI (x.t.below n).1) (junk:=[]) (by simp only [nmI,List.length_cons,List.length_map];omega) hff (by rw [List.append_nil];exact f2)
  rw [es]
  refine ⟨ev,g5,R5,a5,⟨?_,fun q e=>.inl e,rfl⟩,?_⟩
  ·exact ((K13.trans K4).mono (fp':=fpG ρ γ) fun _ _ e=>e.elim).trans_new K5 fun q hq e=>e.elim id fun e=>by omega
  ·have:=K4.1
   rcases sv5 with h | ⟨h1,h2,o,h3,h4,h5⟩
   ·exact .inl h
   ·exact .inr ⟨h1,h2,o,h3,h4,by omega⟩
 have K4:∀ l,Grow g3 (g3++[AObj.cells l true]):=fun l=>Keep.push _ _ _
 rcases sv3 with ⟨h1,h2,rfl⟩ | ⟨h1,h2,d,rfl,h4,h5⟩
 ·have e0:(x.t.below n).1=[]:=List.length_eq_zero_iff.1 h1
  obtain ⟨ev,g5,R5,a5,S5,sv5⟩:=fin (g4:=g3++[AObj.cells [.int .i64 ow] true]) (f:=g3.length) (K4 _) (Nat.le_refl _) (by rw [e0];exact get_new _ _)
  rw [e0] at R5
  refine ⟨ev,g5,pvF 0 Try.func55 (c9p.ss_0 γ.g r g1.length g3.length γ.n 0 0 0 0 n ow fk er (x.t.below n).2 su ov ft oa ln za ev [] [] h g1 g3 g5)
   ⟨M0,q1,rfl,st,M1 _ hg2.symm,by rw [hg2] at q3;exact q3,stat55,G3 _ (Grow.refl _),G3 _ (K4 _),G3 _ (K4 _),M3,X,rfl,R5,trivial⟩,a5,S5,sv5⟩
 ·obtain ⟨k',hk'⟩:∃ k',(x.t.below n).1.length=k'+1:=⟨(x.t.below n).1.length-1,by omega⟩
  have hgd:=get_lt h4
  have er2:inL (ow::nmI (x.t.below n).1)=inL [ow]++nmL (x.t.below n).1:=by rw [nmL_inL];rfl
  have el:(ow::nmI (x.t.below n).1).length=1+(k'+1):=by simp only [nmI,List.length_cons,List.length_map,hk'];omega
  have KS:Grow g3 (((g3++[AObj.cells [.int .i64 ow] true]).set g3.length .dead)++[AObj.cells (inL [ow]++nmL (x.t.below n).1) true]):=((K4 _).set (Nat.le_refl _) _).push _
  obtain ⟨ev,g5,R5,a5,S5,sv5⟩:=fin (g4:=((g3++[AObj.cells [.int .i64 ow] true]).set g3.length .dead)++[AObj.cells (inL [ow]++nmL (x.t.below n).1) true]) (f:=g3.length+1) KS (by omega) (by rw [er2];exact get_new' _ ((set_len _ _ _).trans (push_len _ _)))
  rw [el] at R5
  rw [hk'] at q3
  refine ⟨ev,g5,pvF 0 Try.func55 (c9p.ss_1 γ.g r g1.length g3.length γ.n d (k'+1) k' (g3.length+1) n ow fk er (x.t.below n).2 su ov ft oa ln za ev (inL [ow]++nmL (x.t.below n).1) (nmL (x.t.below n).1) h g1 g3 g5)
   ⟨M0,q1,rfl,st,M1 _ hg2.symm,by rw [hg2] at q3;exact q3,stat55,G3 _ (Grow.refl _),G3 _ (K4 _),G3 _ KS,M3,X,rfl,
    a_appSJ (junk:=[]) (junk2:=[]) (get_new _ _) rfl (by rw [List.append_nil];exact get_push h4) (by rw [nmL_len,hk'];omega) (by rw [nmL_inL];simp [inL,Value.oneCell']) (by omega) (by omega) (by omega) (push_len _ _),R5,trivial⟩,a5,S5,sv5⟩
end
end Go.Proofs.Ytlonjogfeidgfaa.gr
namespace Go.Proofs.Ytlonjogfeidgfaa.tr
open Go Go.Ev
set_option maxRecDepth 100000
set_option linter.unusedVariables false
set_option linter.constructorNameAsVariable false
section
variable {t:TS} {c k:Nat}
theorem WJ.open (J:WJ t) (ok:TOk c t) (n:Int) (y:Bool):WJ (t.open n y).1:=by
 unfold TS.open
 split
 ·exact J
 ·rename_i k e hq
  split
  ·exact J
  ·obtain ⟨_,_,x,hx,_⟩:=acts_some hq
   refine WJ.upT (t:=t.newS k y) ⟨J.inc,J.own⟩ (fun _=>rfl) (fun z hz=>?_) fun z s s' hz hi hs=>?_
   ·simp only [List.filterMap_append]
    rw [List.pairwise_append]
    refine ⟨J.inc k z hz,by simp,fun a ha b hb=>?_⟩
    simp at hb
    subst hb
    obtain ⟨v,hv,hv2⟩:=List.mem_filterMap.1 ha
    simp only [id] at hv2
    subst hv2
    exact ok.opn k z a hz hv
   ·rcases List.mem_append.1 hs with hs | hs
    ·exact J.own k z s s' hz hi hs
    ·simp at hs
     subst hs
     exact ok.inn k z s hz hi
theorem WJ.spawn (J:WJ t) (ok:TOk c t) (n:Int):WJ (t.spawn n).1:=by
 unfold TS.spawn
 split
 ·exact J
 ·split
  ·exact J
  ·split
   ·exact J
   ·split
    ·exact J
    ·rename_i s' _ _;exact J.add (some s')
theorem WJ.end (J:WJ t) (ok:TOk c t) (n fk:Int) (ft:ByteArray):WJ (t.end n fk ft).1:=by
 unfold TS.end
 split
 ·exact J
 ·rename_i k e hq
  have J1:WJ (t.end1 k fk ft):=(J.irrT (f:=fun x=>{ x with en:=true }) (fun _=>rfl) fun _=>rfl).irrT (f:=fun x=>{ x with fk:=fk,ft:=ft }) (fun _=>rfl) fun _=>rfl
  split
  ·exact J
  ·split
   ·exact J
   ·split
    ·exact J
    ·split
     ·exact J1
     ·split
      ·exact J
      ·refine WJ.fin ?_ _
       unfold TS.end3
       split
       ·exact J1.irrS
       ·exact WJ.blame J1.irrS _ _ _
theorem WJ.leave (J:WJ t) (ok:TOk c t) (n fk:Int) (ft:ByteArray):WJ (t.leave n fk ft).1:=by
 unfold TS.leave
 split
 ·exact J
 ·split
  ·exact J
  ·split
   ·exact J
   ·split
    ·split
     ·refine WJ.fin ?_ _
      exact ((J.blame _ _ _).irrT (f:=fun x=>{ x with lv:=true }) (fun _=>rfl) fun _=>rfl).irrT (f:=fun x=>{ x with fk:=fk,ft:=ft }) (fun _=>rfl) fun _=>rfl
     ·exact J
    ·exact J
theorem WJ.shield (J:WJ t) (ok:TOk c t) (n:Int):WJ (t.shield n).1:=by
 unfold TS.shield
 split
 ·exact J
 ·rename_i k e hq
  split
  ·split
   ·exact J
   ·refine J.upT (fun _=>rfl) (fun z hz=>?_) fun z s s' hz hi hs=>?_
    ·simp only [List.filterMap_append,List.filterMap_cons,List.filterMap_nil,id,List.append_nil]
     exact J.inc k z hz
    ·simp at hs;exact J.own k z s s' hz hi hs
  ·exact J
theorem WJ.unveil (J:WJ t) (ok:TOk c t) (n:Int):WJ (t.unveil n).1:=by
 unfold TS.unveil
 split
 ·exact J
 ·split
  ·split
   ·exact J.dropT (fun _=>rfl) fun _=>rfl
   ·exact J
  ·exact J
theorem WJ.fail (J:WJ t) (ok:TOk c t) (n fk:Int) (ft:ByteArray):WJ (t.fail n fk ft).1:=by
 unfold TS.fail
 split
 ·exact J
 ·split
  ·exact J
  ·split
   ·exact J
   ·split
    ·exact J.blame _ _ _
    ·exact J
theorem WJ.root (J:WJ t) (ok:TOk c t) :WJ t.root.1:=by
 unfold TS.root
 split
 ·exact J
 ·exact J.add none
end
end Go.Proofs.Ytlonjogfeidgfaa.tr
namespace Go.Proofs.Ytlonjogfeidgfaa.gr
open Go Go.Ev Go.Proofs.Ytlonjogfeidgfaa.tr
set_option maxRecDepth 100000
set_option linter.unusedVariables false
set_option linter.constructorNameAsVariable false
theorem ef_one (e:Ef):e.cells.all Value.oneCell'=true:=rfl
theorem efC_one:∀ l:List Ef,(efC l).all Value.oneCell'=true
 | []=>rfl
 | e::l=>by simp only [efC,List.all_append,ef_one,efC_one l,Bool.and_self]
section
variable {h h' g:Hp} {ρ ρ' ρ1:Lay} {γ γ' γ1:GL} {x:GS} {t':TS} {c:Nat}
theorem turn_loop (hc:c≤1000) {l:List Ef} {oe lo:Nat} {er:Int} (hl:l.length≤1000) (hoe:¬ fpG ρ γ oe) (hol:oe<lo) (hf:∀ q,fpG ρ γ q→q<lo):∀ (m:List Ef) (j:Nat) (x:GS) (A:List Ef) (v:Value) (E:Env) (g:Hp),l.drop j=m→TOk c x.t→WI none x.t→WJ x.t→GAt g ρ γ x →
  g[oe]?=some (.cells (efC l) true)→lo≤g.length→A.length≤65*j→SlV g lo v A.length 5 (efC A) →
  EnvLe [(13,.int .i64 (j:Int)),(12,.int .i64 (Int.ofNat l.length)),(11,.slice (some ⟨oe,0,none⟩) l.length 5),(8,v),(0,ptr γ.g),(2,.int .i64 er)] E →
  ∃ E1 g1 v1,Keep (fun q=>fpG ρ γ q∨lo≤q) g g1∧GAt g1 ρ γ (x.turned m).1∧SlV g1 lo v1 (A++(x.turned m).2).length 5 (efC (A++(x.turned m).2))∧EnvLe [(8,v1),(2,.int .i64 er)] E1∧LRun Try.prog 33 false (loopN Try.f64 0) E g (.exit 0) E1 g1
 | [],j,x,A,v,E,g,hm,ok,W,J,a,hoo,hlo,hA,sv,hE=>by
  have hj:l.length≤j:=List.drop_eq_nil_iff.1 hm
  obtain ⟨E1,q1,q2⟩:=pvC 0 (.trans (.add (.add (.add (.add (.add (.nil _) rfl) rfl) rfl) rfl) rfl) hE) (c9p.tl_out γ.g (j:Int) (Int.ofNat l.length) er v g) ⟨ltF (by simp only [Int.ofNat_eq_natCast];omega),trivial⟩
  exact ⟨E1,g,v,Keep.refl _ _,a,by simpa [GS.turned] using sv,.trans (.add (.add (.nil _) rfl) rfl) q1,.last q2 (by simp)⟩
 | y::m,j,x,A,v,E,g,hm,ok,W,J,a,hoo,hlo,hA,sv,hE=>by
  have hj:l[j]?=some y:=by rw [← List.head?_drop,hm];rfl
  have hlt:=get_lt' hj
  have hm':l.drop (j+1)=m:=by rw [← List.drop_drop,hm];rfl
  have L:=efC_at hj
  obtain ⟨k,n,mm,fk,ft⟩:=y
  simp only [Ef.cells] at L
  have A1:(Asm.cmp .lss (j:Int) (Int.ofNat l.length) true).holds Try.prog:=ltT (by simp only [Int.ofNat_eq_natCast];omega)
  have A2:(Asm.off (j*5) 0 (j:Int) l.length 5).holds Try.prog:=offI rfl hlt (by omega)
  have A3:(Asm.ldn (.is g) oe (j*5) 5 [.int .i64 k,.int .i64 n,.int .i64 mm,.int .i64 fk,.string ft]).holds Try.prog:=a_ldn hoo (by rw [efC_len];omega) L
  obtain ⟨g2,hg2⟩:∃ g2,g2=(g++[AObj.cells [.int .i64 0,.int .i64 0,.int .i64 0,.int .i64 0,.string { data:=#[] }] true]).set g.length (.cells [.int .i64 k,.int .i64 n,.int .i64 mm,.int .i64 fk,.string ft] true):=⟨_,rfl⟩
  have K2:Grow g g2:=by rw [hg2];exact ((Grow.refl g).push _).set (Nat.le_refl _) _
  have l2:g2.length=g.length+1:=by rw [hg2];simp
  have bx:g2[g.length]?=some (.cells [.int .i64 k,.int .i64 n,.int .i64 mm,.int .i64 fk,.string ft] true):=by rw [hg2];exact get_set_eq (get_new _ _)
  have A4:(Asm.st (.push (.is g) (.cells [.int .i64 0,.int .i64 0,.int .i64 0,.int .i64 0,.string { data:=#[] }] true)) g.length 0 [.int .i64 k,.int .i64 n,.int .i64 mm,.int .i64 fk,.string ft] [.int .i64 k,.int .i64 n,.int .i64 mm,.int .i64 fk,.string ft]).holds Try.prog:=a_st (get_new _ _) (by simp) rfl
  have X:∀ s:SH,s.den=g2→(Asm.ld1 s g.length 0 (.int .i64 k)).holds Try.prog:=fun s e=>a_ld1 (by rw [e];exact bx) rfl
  have Y:∀ s:SH,s.den=g2→(Asm.ld1 s g.length 1 (.int .i64 n)).holds Try.prog:=fun s e=>a_ld1 (by rw [e];exact bx) rfl
  have Z:∀ s:SH,s.den=g2→(Asm.ldn s g.length 0 5 [.int .i64 k,.int .i64 n,.int .i64 mm,.int .i64 fk,.string ft]).holds Try.prog:=fun s e=>a_ldn (by rw [e];exact bx) (by simp) rfl
  have N1:(Asm.arith .add .i64 (j:Int) 1 ((j+1:Nat):Int)).holds Try.prog:=addI (by omega) (by omega) (by omega)
  have ag:=a.grow K2
  have KF:∀ {g':Hp},Grow g g'→Keep (fun q=>fpG ρ γ q∨lo≤q) g g':=fun K=>K.mono fun _ _ e=>e.elim
  have sv2:=sv.keep K2 fun q e=>e.elim
  have up:∀ {E1:Env} {g3:Hp} {x':GS} {A':List Ef} {v':Value},(x.turned (⟨k,n,mm,fk,ft⟩::m)).1=(x'.turned m).1→A++(x.turned (⟨k,n,mm,fk,ft⟩::m)).2=A'++(x'.turned m).2→x'.t=x.t→A'.length≤65*(j+1)→GAt g3 ρ γ x'→Keep (fun q=>fpG ρ γ q∨lo≤q) g g3→SlV g3 lo v' A'.length 5 (efC A') →
    EnvLe [(13,.int .i64 ((j+1:Nat):Int)),(12,.int .i64 (Int.ofNat l.length)),(11,.slice (some ⟨oe,0,none⟩) l.length 5),(8,v'),(0,ptr γ.g),(2,.int .i64 er)] E1→CRun Try.prog 33 false (loopN Try.f64 0) E g .normal E1 g3 →
    ∃ E1 g1 v1,Keep (fun q=>fpG ρ γ q∨lo≤q) g g1∧GAt g1 ρ γ (x.turned (⟨k,n,mm,fk,ft⟩::m)).1∧SlV g1 lo v1 (A++(x.turned (⟨k,n,mm,fk,ft⟩::m)).2).length 5 (efC (A++(x.turned (⟨k,n,mm,fk,ft⟩::m)).2))∧EnvLe [(8,v1),(2,.int .i64 er)] E1∧LRun Try.prog 33 false (loopN Try.f64 0) E g (.exit 0) E1 g1:=by
   intro E1 g3 x' A' v' e1 e2 ht hA' a' K sv' hE1 hc1
   obtain ⟨E2,g4,v4,K4,a4,s4,e4,l4⟩:=turn_loop hc hl hoe hol hf m (j+1) x' A' v' E1 g3 hm' (ht▸ok) (ht▸W) (ht▸J) a' (K.2 _ _ hoo fun e=>e.elim hoe fun e=>by omega) (Nat.le_trans hlo K.1) hA' sv' hE1
   exact ⟨E2,g4,v4,K.trans K4,by rw [e1];exact a4,by rw [e2];exact s4,e4,.step hc1 l4⟩
  by_cases k1:k=1
  ·have t1:(x.turned (⟨k,n,mm,fk,ft⟩::m)).1=((x.strikes n).1.turned m).1:=by simp only [GS.turned,if_pos k1]
   have t2:A++(x.turned (⟨k,n,mm,fk,ft⟩::m)).2=(A++(x.strikes n).2)++((x.strikes n).1.turned m).2:=by simp only [GS.turned,if_pos k1,List.append_assoc]
   obtain ⟨ev,g3,R,a3,S3,sv3⟩:=strikes_run ag ok hc W J n
   have hsl:=strikes_len ok W J n
   have K3:Keep (fun q=>fpG ρ γ q∨lo≤q) g g3:=(KF K2).trans (S3.keep.mono fun _ _ e=>.inl e)
   have svA:=sv2.keep S3.keep hf
   have hA3:(A++(x.strikes n).2).length≤65*(j+1):=by rw [List.length_append];omega
   have ht:(x.strikes n).1.t=x.t:=strike_t _ _ _ _
   have g3l:=S3.keep.1
   rw [hg2] at R
   rcases sv3 with ⟨h1,h2,rfl⟩ | ⟨h1,h2,ee,rfl,h4,h5⟩
   ·have e0:(x.strikes n).2=[]:=List.length_eq_zero_iff.1 h1
    rw [e0,List.append_nil] at t2 hA3
    rcases svA with ⟨b1,b2,rfl⟩ | ⟨b1,b2,oo,rfl,b4,b5⟩
    ·obtain ⟨E1,q1,q2⟩:=pvC 0 hE (c9p.tl_s00 γ.g oe l.length (j*5) g.length 0 0 0 0 0 0 0 (j:Int) ((j+1:Nat):Int) er k n mm fk ft [] [] g g3)
      ⟨A1,A2,A3,rfl,A4,X _ hg2.symm,eqT k1,Y _ hg2.symm,R,N1,trivial⟩
     exact up t1 t2 ht hA3 a3 K3 (.inl ⟨b1,b2,rfl⟩) (.trans (.add (.add (.add (.add (.add (.add (.nil _) rfl) rfl) rfl) rfl) rfl) rfl) q1) q2
    ·obtain ⟨E1,q1,q2⟩:=pvC 0 hE (c9p.tl_s10 γ.g oe l.length (j*5) g.length 0 0 A.length oo 0 0 0 (j:Int) ((j+1:Nat):Int) er k n mm fk ft [] [] g g3)
      ⟨A1,A2,A3,rfl,A4,X _ hg2.symm,eqT k1,Y _ hg2.symm,R,N1,trivial⟩
     exact up t1 t2 ht hA3 a3 K3 (.inr ⟨b1,b2,oo,rfl,b4,b5⟩) (.trans (.add (.add (.add (.add (.add (.add (.nil _) rfl) rfl) rfl) rfl) rfl) rfl) q1) q2
   ·obtain ⟨k',hk'⟩:∃ k',(x.strikes n).2.length=k'+1:=⟨(x.strikes n).2.length-1,by omega⟩
    have h4':g3[ee]?=some (.cells (efC (x.strikes n).2++[]) true):=by rw [List.append_nil];exact h4
    rw [hk'] at R
    rcases svA with ⟨b1,b2,rfl⟩ | ⟨b1,b2,oo,rfl,b4,b5⟩
    ·have A0:A=[]:=List.length_eq_zero_iff.1 b1
     obtain ⟨E1,q1,q2⟩:=pvC 0 hE (c9p.tl_s01 γ.g oe l.length (j*5) g.length 0 g3.length 0 0 ee k' (k'+1) (j:Int) ((j+1:Nat):Int) er k n mm fk ft [] (efC (x.strikes n).2) g g3)
      ⟨A1,A2,A3,rfl,A4,X _ hg2.symm,eqT k1,Y _ hg2.symm,R,a_appNJ h4' (by rw [efC_len,hk']) (efC_one _) (by omega) (by omega) rfl,N1,trivial⟩
     refine up t1 t2 ht hA3 (a3.grow (Keep.push _ _ _)) (K3.trans (Keep.push _ _ _)) (.inr ⟨?_,by rw [efC_len],g3.length,?_,?_,by omega⟩) (.trans (.add (.add (.add (.add (.add (.add (.nil _) rfl) rfl) rfl) rfl) rfl) rfl) q1) q2
     ·rw [A0,List.nil_append,hk'];omega
     ·rw [A0,List.nil_append,hk']
     ·rw [A0,List.nil_append];exact get_new _ _
    ·obtain ⟨E1,q1,q2⟩:=pvC 0 hE (c9p.tl_s11 γ.g oe l.length (j*5) g.length 0 g3.length A.length oo ee k' (k'+1) (j:Int) ((j+1:Nat):Int) er k n mm fk ft (efC A++efC (x.strikes n).2) (efC (x.strikes n).2) g g3)
      ⟨A1,A2,A3,rfl,A4,X _ hg2.symm,eqT k1,Y _ hg2.symm,R,a_appSJ (junk:=[]) (by rw [List.append_nil];exact b4) b2 h4' (by rw [efC_len,hk']) (efC_one _) (by omega) (by omega) (by omega) rfl,N1,trivial⟩
     have hoo3:=get_lt b4
     refine up t1 t2 ht hA3 (a3.keep ((Keep.set (fp:=fun q=>q=oo) rfl _).trans (Keep.push _ _ _)) fun q e f=>by have:=hf q f;omega) (K3.trans ((Keep.set (.inr b5) _).trans (Keep.push _ _ _))) (.inr ⟨by rw [List.length_append];omega,by rw [efC_len],g3.length,?_,?_,by omega⟩) (.trans (.add (.add (.add (.add (.add (.add (.nil _) rfl) rfl) rfl) rfl) rfl) rfl) q1) q2
     ·rw [List.length_append,hk']
     ·rw [efC_app];exact get_new' _ (by simp [SH.den])
  ·have t1:(x.turned (⟨k,n,mm,fk,ft⟩::m)).1=(x.turned m).1:=by simp only [GS.turned,if_neg k1]
   have t2:A++(x.turned (⟨k,n,mm,fk,ft⟩::m)).2=(A++[⟨k,n,mm,fk,ft⟩])++(x.turned m).2:=by simp only [GS.turned,if_neg k1,List.append_assoc,List.singleton_append]
   have hA3:(A++[(⟨k,n,mm,fk,ft⟩:Ef)]).length≤65*(j+1):=by rw [List.length_append,List.length_singleton];omega
   have ec:efC (A++[(⟨k,n,mm,fk,ft⟩:Ef)])=efC A++Ef.cells ⟨k,n,mm,fk,ft⟩:=by rw [efC_app];simp [efC]
   subst hg2
   rcases sv2 with ⟨b1,b2,rfl⟩ | ⟨b1,b2,oo,rfl,b4,b5⟩
   ·have A0:A=[]:=List.length_eq_zero_iff.1 b1
    obtain ⟨E1,q1,q2⟩:=pvC 0 hE (c9p.tl_o0 γ.g oe l.length (j*5) g.length (g.length+1) (g.length+2) 0 0 0 0 0 (j:Int) ((j+1:Nat):Int) er k n mm fk ft [] [] g g)
     ⟨A1,A2,A3,rfl,A4,X _ rfl,eqF k1,Z _ rfl,l2,a_appGN rfl rfl (by omega) (get_new' _ l2) (by simp [SH.den]),N1,trivial⟩
    refine up t1 t2 rfl hA3 (ag.grow ((Keep.push _ _ _).trans (Keep.push _ _ _))) (KF (K2.trans ((Keep.push _ _ _).trans (Keep.push _ _ _)))) (.inr ⟨by simp,by rw [efC_len],g.length+2,?_,?_,by omega⟩) (.trans (.add (.add (.add (.add (.add (.add (.nil _) rfl) rfl) rfl) rfl) rfl) rfl) q1) q2
    ·rw [A0];rfl
    ·rw [ec,A0];exact get_new' _ (by simp [SH.den])
   ·have hoo3:=get_lt b4
    obtain ⟨E1,q1,q2⟩:=pvC 0 hE (c9p.tl_o1 γ.g oe l.length (j*5) g.length (g.length+1) (g.length+2) A.length oo 0 0 0 (j:Int) ((j+1:Nat):Int) er k n mm fk ft (efC A++Ef.cells ⟨k,n,mm,fk,ft⟩) [] g g)
     ⟨A1,A2,A3,rfl,A4,X _ rfl,eqF k1,Z _ rfl,l2,a_appGS rfl rfl (by omega) (by omega) b2 (get_push b4) (get_new' _ l2) ((push_len _ _).trans (congrArg (·+1) l2)),N1,trivial⟩
    refine up t1 t2 rfl hA3 ((ag.grow (Keep.push _ _ _)).keep ((Keep.set (fp:=fun q=>q=oo) rfl _).trans (Keep.push _ _ _)) fun q e f=>by have:=hf q f;omega) ((KF (K2.trans (Keep.push _ _ _))).trans ((Keep.set (.inr b5) _).trans (Keep.push _ _ _))) (.inr ⟨by simp,by rw [efC_len],g.length+2,?_,?_,by omega⟩) (.trans (.add (.add (.add (.add (.add (.add (.nil _) rfl) rfl) rfl) rfl) rfl) rfl) q1) q2
    ·rw [List.length_append];rfl
    ·rw [ec];exact get_new' _ (by simp [SH.den])
theorem plain64:plainC (loopN Try.f64 0)=true:=by kernel_rfl
theorem turned_run (a:GAt h ρ γ x) (ok:TOk c x.t) (hc:c≤1000) (W:WI none x.t) (J:WJ x.t) {l:List Ef} {v:Value} (hl:l.length≤1000) (hv:(l=[]∧v=.slice none 0 0)∨(∃ oe,v=.slice (some ⟨oe,0,none⟩) l.length 5∧h[oe]?=some (.cells (efC l) true)∧¬ fpG ρ γ oe)) (er:Int) :
  ∃ w g,Run Try.prog 64 [ptr γ.g,v,.int .i64 er] h (.tuple #[w,.int .i64 er]) g∧GAt g ρ γ (x.turned l).1∧GStep ρ γ h ρ γ g∧SlV g h.length w (x.turned l).2.length 5 (efC (x.turned l).2):=by
 rcases hv with ⟨rfl,rfl⟩ | ⟨oe,rfl,ho,hoe⟩
 ·obtain ⟨E1,q1,q2⟩:=pvC 0 (EnvLe.refl [(13,.int .i64 0),(12,.int .i64 0),(8,.slice none 0 0),(0,ptr γ.g),(2,.int .i64 er)]) (c9p.tl_out γ.g 0 0 er (.slice none 0 0) h) ⟨ltF (Int.le_refl _),trivial⟩
  exact ⟨_,h,pvF 0 Try.func64 (c9p.tu_nil γ.g er [] h) ⟨a_loop plain64 (.add (.add (.add (.add (.add (.nil _) rfl) rfl) rfl) rfl) rfl) (.trans (.add (.add (.nil _) rfl) rfl) q1) (.last q2 (by simp)),trivial⟩,a,.refl _ _ _,.inl ⟨rfl,rfl,rfl⟩⟩
 ·obtain ⟨E1,g1,w,K,b,sv,e1,l1⟩:=turn_loop (er:=er) hc hl hoe (get_lt ho) (fun q e=>a.lt e) l 0 x [] (.slice none 0 0)
   [(13,.int .i64 ((0:Nat):Int)),(12,.int .i64 (Int.ofNat l.length)),(11,.slice (some ⟨oe,0,none⟩) l.length 5),(8,.slice none 0 0),(0,ptr γ.g),(2,.int .i64 er)] h rfl ok W J a ho (Nat.le_refl _) (Nat.zero_le _) (.inl ⟨rfl,rfl,rfl⟩) (EnvLe.refl _)
  rw [List.nil_append] at sv
  exact ⟨w,g1,pvF 0 Try.func64 (c9p.tu_go γ.g oe l.length er w h g1) ⟨a_loop plain64 (.add (.add (.add (.add (.add (.add (.nil _) rfl) rfl) rfl) rfl) rfl) rfl) e1 l1,trivial⟩,b,⟨K.mono fun q hq e=>e.elim id fun e=>by omega,fun q e=>.inl e,rfl⟩,sv⟩
end
end Go.Proofs.Ytlonjogfeidgfaa.gr
namespace Go.Proofs.Ytlonjogfeidgfaa.gr
open Go Go.Ev Go.Proofs.Ytlonjogfeidgfaa.tr
set_option maxRecDepth 100000
set_option linter.unusedVariables false
set_option linter.constructorNameAsVariable false
def GS.after (x:GS) (r:TS×List Ef×Int):GS×List Ef×Int:=((({ x with t:=r.1 }:GS).turned r.2.1).1,(({ x with t:=r.1 }:GS).turned r.2.1).2,r.2.2)
def GS.leave (x:GS) (n fk:Int) (ft:ByteArray):=x.after (x.t.leave n fk ft)
def GS.end (x:GS) (n fk:Int) (ft:ByteArray):=x.after (x.t.end n fk ft)
def GS.fail (x:GS) (n fk:Int) (ft:ByteArray):=x.after (x.t.fail n fk ft)
theorem fin_ef (t:TS) (s:Nat):(t.fin s).2.length≤1:=by
 unfold TS.fin;repeat' split
 all_goals simp
theorem leave_ef (t:TS) (n fk:Int) (ft:ByteArray):(t.leave n fk ft).2.1.length≤2:=by
 unfold TS.leave;repeat' split
 all_goals first | (simp;done) | skip
 have h:∀ s y,(liveE s fk y).length≤1:=fun s y=>by unfold liveE;split<;>simp
 simp only [List.length_append];exact Nat.add_le_add (h _ _) (fin_ef _ _)
theorem end_ef (t:TS) (n fk:Int) (ft:ByteArray):(t.end n fk ft).2.1.length≤2:=by
 unfold TS.end;repeat' split
 all_goals first | (simp;done) | skip
 have h:∀ s b,(saidE s b).length≤1:=fun s b=>by unfold saidE;split<;>simp
 simp only [List.length_append];exact Nat.add_le_add (h _ _) (fin_ef _ _)
theorem fail_ef (t:TS) (n fk:Int) (ft:ByteArray):(t.fail n fk ft).2.1.length≤2:=by
 unfold TS.fail;repeat' split
 all_goals first | (simp;done) | skip
 all_goals (split<;>simp)
theorem stat39:(Asm.stat (drawN Try.f39 0)).holds Try.prog:=show statOk (drawN Try.f39 0)=true by kernel_rfl
theorem stat38:(Asm.stat (drawN Try.f38 0)).holds Try.prog:=show statOk (drawN Try.f38 0)=true by kernel_rfl
theorem stat40:(Asm.stat (drawN Try.f40 0)).holds Try.prog:=show statOk (drawN Try.f40 0)=true by kernel_rfl
section
variable {h h' g:Hp} {ρ ρ' ρ1:Lay} {γ γ' γ1:GL} {x:GS} {t':TS} {c:Nat}
theorem after_run {g2:Hp} {v:Value} {r:TS×List Ef×Int} (a:GAt h ρ γ x) (hc:c≤1000) (b:TAt g2 ρ r.1) (S:Step ρ h ρ g2) (F:EfV g2 h.length ρ v r.2.1) (ok:TOk c r.1) (W:WI none r.1) (J:WJ r.1) (hl:r.2.1.length≤2) :
  ∃ w g3,Run Try.prog 64 [ptr γ.g,v,.int .i64 r.2.2] g2 (.tuple #[w,.int .i64 r.2.2]) g3∧GAt g3 ρ γ (x.after r).1∧GStep ρ γ h ρ γ g3∧SlV g3 h.length w (x.after r).2.1.length 5 (efC (x.after r).2.1):=by
 have a2:=a.tree S b
 have hne:∀ o,h.length≤o→¬ fpG ρ γ o:=fun o h1 e=>by have:=a.lt e;omega
 obtain ⟨w,g3,R,a3,S3,sv⟩:=turned_run a2 (c:=c) ok hc W J (l:=r.2.1) (v:=v) (by omega) (F.elim .inl fun ⟨_,o,h1,h2,h3,h4⟩=>.inr ⟨o,h1,h2,hne o h3⟩) r.2.2
 refine ⟨w,g3,R,a3,(GStep.tree S).trans S3,?_⟩
 rcases sv with h | ⟨h1,h2,o,h3,h4,h5⟩
 ·exact .inl h
 ·exact .inr ⟨h1,h2,o,h3,h4,Nat.le_trans S.keep.1 h5⟩
theorem leaveG_run (a:GAt h ρ γ x) (ok:TOk c x.t) (hc:c≤999) (W:WI none x.t) (J:WJ x.t) (n fk:Int) (ft:ByteArray) :
  ∃ w g,Run Try.prog 39 [ptr γ.g,.int .i64 n,.agg #[.int .i64 fk,.string ft]] h (.tuple #[w,.int .i64 (x.leave n fk ft).2.2]) g∧GAt g ρ γ (x.leave n fk ft).1∧GStep ρ γ h ρ γ g∧SlV g h.length w (x.leave n fk ft).2.1.length 5 (efC (x.leave n fk ft).2.1):=by
 obtain ⟨r,hr⟩:=a.root
 have K1:Grow h (h++[AObj.cells [.int .i64 fk,.string ft] true]):=Keep.push _ _ _
 have a1:=a.grow K1
 obtain ⟨v,g2,q,b,S,F⟩:=leave_run a1.tat ok (by omega) hr n fk ft
 obtain ⟨w,g3,R,a3,S3,sv⟩:=after_run a1 (c:=c+1) (by omega) b S F ok.leave (W.leave ok n fk ft) (J.leave ok n fk ft) (leave_ef _ _ _ _)
 have B:∀ s:SH,s.den=h++[AObj.cells [.int .i64 fk,.string ft] true]→(Asm.again s 29 (ptr h.length) (.agg #[.int .i64 fk,.string ft])).holds Try.prog:=fun s e=>a_againN agg30 (by rw [e];exact get_new _ _) rfl rfl
 refine ⟨w,g3,pvF 0 Try.func39 (c9p.lv γ.g r h.length n fk _ _ ft v w h _ g2 g3) ⟨rfl,stat39,B (.is (h++[AObj.cells [.int .i64 fk,.string ft] true])) rfl,B _ rfl,B _ rfl,tree_run a1 hr,a_ldn (get_new _ _) (by simp) rfl,q,R,trivial⟩,a3,(GStep.grow K1).trans S3,?_⟩
 rcases sv with h | ⟨h1,h2,o,h3,h4,h5⟩
 ·exact .inl h
 ·exact .inr ⟨h1,h2,o,h3,h4,Nat.le_trans K1.1 h5⟩
theorem endG_run (a:GAt h ρ γ x) (ok:TOk c x.t) (hc:c≤999) (W:WI none x.t) (J:WJ x.t) (n fk:Int) (ft:ByteArray) :
  ∃ w g,Run Try.prog 38 [ptr γ.g,.int .i64 n,.agg #[.int .i64 fk,.string ft]] h (.tuple #[w,.int .i64 (x.end n fk ft).2.2]) g∧GAt g ρ γ (x.end n fk ft).1∧GStep ρ γ h ρ γ g∧SlV g h.length w (x.end n fk ft).2.1.length 5 (efC (x.end n fk ft).2.1):=by
 obtain ⟨r,hr⟩:=a.root
 have K1:Grow h (h++[AObj.cells [.int .i64 fk,.string ft] true]):=Keep.push _ _ _
 have a1:=a.grow K1
 obtain ⟨v,g2,q,b,S,F⟩:=end_run a1.tat ok (by omega) hr n fk ft
 obtain ⟨w,g3,R,a3,S3,sv⟩:=after_run a1 (c:=c+1) (by omega) b S F ok.end (W.end ok n fk ft) (J.end ok n fk ft) (end_ef _ _ _ _)
 have B:∀ s:SH,s.den=h++[AObj.cells [.int .i64 fk,.string ft] true]→(Asm.again s 29 (ptr h.length) (.agg #[.int .i64 fk,.string ft])).holds Try.prog:=fun s e=>a_againN agg30 (by rw [e];exact get_new _ _) rfl rfl
 refine ⟨w,g3,pvF 0 Try.func38 (c9p.en γ.g r h.length n fk _ _ ft v w h _ g2 g3) ⟨rfl,stat38,B (.is (h++[AObj.cells [.int .i64 fk,.string ft] true])) rfl,B _ rfl,B _ rfl,tree_run a1 hr,a_ldn (get_new _ _) (by simp) rfl,q,R,trivial⟩,a3,(GStep.grow K1).trans S3,?_⟩
 rcases sv with h | ⟨h1,h2,o,h3,h4,h5⟩
 ·exact .inl h
 ·exact .inr ⟨h1,h2,o,h3,h4,Nat.le_trans K1.1 h5⟩
theorem failG_run (a:GAt h ρ γ x) (ok:TOk c x.t) (hc:c≤999) (W:WI none x.t) (J:WJ x.t) (n fk:Int) (ft:ByteArray) :
  ∃ w g,Run Try.prog 40 [ptr γ.g,.int .i64 n,.agg #[.int .i64 fk,.string ft]] h (.tuple #[w,.int .i64 (x.fail n fk ft).2.2]) g∧GAt g ρ γ (x.fail n fk ft).1∧GStep ρ γ h ρ γ g∧SlV g h.length w (x.fail n fk ft).2.1.length 5 (efC (x.fail n fk ft).2.1):=by
 obtain ⟨r,hr⟩:=a.root
 have K1:Grow h (h++[AObj.cells [.int .i64 fk,.string ft] true]):=Keep.push _ _ _
 have a1:=a.grow K1
 obtain ⟨v,g2,q,b,S,F⟩:=fail_run a1.tat ok (by omega) hr n fk ft
 obtain ⟨w,g3,R,a3,S3,sv⟩:=after_run a1 (c:=c+1) (by omega) b S F ok.fail (W.fail n fk ft) (J.fail ok n fk ft) (fail_ef _ _ _ _)
 have B:∀ s:SH,s.den=h++[AObj.cells [.int .i64 fk,.string ft] true]→(Asm.again s 29 (ptr h.length) (.agg #[.int .i64 fk,.string ft])).holds Try.prog:=fun s e=>a_againN agg30 (by rw [e];exact get_new _ _) rfl rfl
 refine ⟨w,g3,pvF 0 Try.func40 (c9p.fa γ.g r h.length n fk _ _ ft v w h _ g2 g3) ⟨rfl,stat40,B (.is (h++[AObj.cells [.int .i64 fk,.string ft] true])) rfl,B _ rfl,B _ rfl,tree_run a1 hr,a_ldn (get_new _ _) (by simp) rfl,q,R,trivial⟩,a3,(GStep.grow K1).trans S3,?_⟩
 rcases sv with h | ⟨h1,h2,o,h3,h4,h5⟩
 ·exact .inl h
 ·exact .inr ⟨h1,h2,o,h3,h4,Nat.le_trans K1.1 h5⟩
end
end Go.Proofs.Ytlonjogfeidgfaa.gr
namespace Go.Proofs.Ytlonjogfeidgfaa.gr
open Go Go.Ev Go.Proofs.Ytlonjogfeidgfaa.tr
set_option maxRecDepth 100000
set_option linter.unusedVariables false
set_option linter.constructorNameAsVariable false
def dnC (l:List Pr) (n j:Nat):Nat:=if j+1<n then match l[j+1]?,l[j]? with
 | some p,some q=>if lessP p q then j+1 else j
 | _,_=>j
 else j
def downF:Nat→Nat→Nat→List Pr→List Pr
 | 0,_,_,l=>l
 | f+1,k,n,l=>if n≤2*k+1 then l else match l[dnC l n (2*k+1)]?,l[k]? with
  | some p,some q=>if lessP p q then downF f (dnC l n (2*k+1)) n (swp l k (dnC l n (2*k+1))) else l
  | _,_=>l
theorem dnC_or (l:List Pr) (n j:Nat):dnC l n j=j∨(dnC l n j=j+1∧j+1<n):=by
 unfold dnC;split
 ·split
  ·split
   ·exact .inr ⟨rfl,by assumption⟩
   ·exact .inl rfl
  ·exact .inl rfl
 ·exact .inl rfl
theorem downF_len:∀ (f k n:Nat) (l:List Pr),(downF f k n l).length=l.length
 | 0,_,_,_=>rfl
 | f+1,k,n,l=>by
  simp only [downF]
  split
  ·rfl
  ·split
   ·split
    ·rw [downF_len f,swp_len]
    ·rfl
   ·rfl
section
variable {h h' g:Hp} {i d:Nat} {l:List Pr} {cs junk:List Value}
theorem DAt.mth (D : DAt h i d l cs junk) (s : SH) (e : s.den = h) : (Asm.mth s "Less" (hv i) 110 (.slice (some ⟨d, 0, none⟩) l.length 2)).holds Try.prog ∧ (Asm.mth s "Swap" (hv i) 111 (.slice (some ⟨d, 0, none⟩) l.length 2)).holds Try.prog ∧ (Asm.mth s "Len" (hv i) 109 (.slice (some ⟨d, 0, none⟩) l.length 2)).holds Try.prog := by
 refine ⟨?_,?_,?_⟩
 ·simp only [Asm.holds,e,mthLess,ld86 D.hf D.hs]
 ·simp only [Asm.holds,e,mthSwap,ld86 D.hf D.hs]
 ·simp only [Asm.holds,e,mthLen,ld86 D.hf D.hs]
theorem down_loop {n:Nat} {k0:Int}:∀ (f k:Nat) (l:List Pr) (h:Hp) (E:Env),DAt h i d l cs junk→n≤l.length→k<l.length→n-k≤f→EnvLe [(7,.int .i64 (k:Int)),(2,.int .i64 (n:Int)),(0,hv i),(1,.int .i64 k0)] E →
  ∃ E1 q,EnvLe [(7,.int .i64 q),(1,.int .i64 k0)] E1∧LRun Try.prog 48 false (loopN Try.f80 0) E h (.exit 0) E1 (h.set d (.cells (prL (downF f k n l)++junk) true))
 | f,k,l,h,E,D,hn,hk,hf,hE=>by
  have len:=D.len
  have A1:(Asm.arith .mul .i64 2 (k:Int) ((2*k:Nat):Int)).holds Try.prog:=by
   simp only [Asm.holds,arithI];rw [show (2:Int)*(k:Int)=((2*k:Nat):Int) by omega];exact congrArg some (i64_id (by omega) (by omega))
  have A2:(Asm.arith .add .i64 ((2*k:Nat):Int) 1 ((2*k+1:Nat):Int)).holds Try.prog:=addI (by omega) (by omega) (by omega)
  by_cases hend:n≤2*k+1
  ·have e:downF f k n l=l:=by cases f<;>simp [downF,hend]
   obtain ⟨E1,q1,q2⟩:=pvC 0 hE (c13p.dn_end i 0 0 none (k:Int) (n:Int) k0 ((2*k:Nat):Int) ((2*k+1:Nat):Int) 0 h h h h) ⟨A1,A2,geT (by omega),trivial⟩
   rw [e,set_same D.hd]
   exact ⟨E1,_,.trans (.add (.add (.nil _) rfl) rfl) q1,.last q2 (by simp)⟩
  ·obtain ⟨f,rfl⟩:∃ f',f=f'+1:=⟨f-1,by omega⟩
   have A3:(Asm.cmp .geq ((2*k+1:Nat):Int) (n:Int) false).holds Try.prog:=geF (by omega)
   have A4:(Asm.cmp .lss ((2*k+1:Nat):Int) 0 false).holds Try.prog:=ltF (by omega)
   have A5:(Asm.arith .add .i64 ((2*k+1:Nat):Int) 1 ((2*k+2:Nat):Int)).holds Try.prog:=addI (by omega) (by omega) (by omega)
   obtain ⟨M1,M2,_⟩:=D.mth (.is h) rfl
   obtain ⟨j,hj⟩:∃ j,j=dnC l n (2*k+1):=⟨_,rfl⟩
   have hjn:j<n∧k<j:=by rcases dnC_or l n (2*k+1) with e | e<;>omega
   obtain ⟨p,hp⟩:∃ p,l[j]?=some p:=⟨_,List.getElem?_eq_getElem (by omega)⟩
   obtain ⟨q,hq⟩:∃ q,l[k]?=some q:=⟨_,List.getElem?_eq_getElem hk⟩
   have R:=less_run D hp hq
   have S:=swap_run D hk (show j<l.length by omega)
   have ed:downF (f+1) k n l=if lessP p q then downF f j n (swp l k j) else l:=by simp only [downF,if_neg hend,← hj,hp,hq]
   have stop:∀ {E1:Env},lessP p q=false→EnvLe [(7,.int .i64 (k:Int)),(1,.int .i64 k0)] E1→CRun Try.prog 48 false (loopN Try.f80 0) E h (.exit 0) E1 h →
     ∃ E1 q,EnvLe [(7,.int .i64 q),(1,.int .i64 k0)] E1∧LRun Try.prog 48 false (loopN Try.f80 0) E h (.exit 0) E1 (h.set d (.cells (prL (downF (f+1) k n l)++junk) true)):=by
    intro E1 e e1 c1
    rw [ed,e,if_neg (by simp),set_same D.hd]
    exact ⟨E1,_,e1,.last c1 (by simp)⟩
   have go:∀ {E1:Env},lessP p q=true→EnvLe [(7,.int .i64 (j:Int)),(2,.int .i64 (n:Int)),(0,hv i),(1,.int .i64 k0)] E1→CRun Try.prog 48 false (loopN Try.f80 0) E h .normal E1 (h.set d (.cells (prL (swp l k j)++junk) true)) →
     ∃ E1 q,EnvLe [(7,.int .i64 q),(1,.int .i64 k0)] E1∧LRun Try.prog 48 false (loopN Try.f80 0) E h (.exit 0) E1 (h.set d (.cells (prL (downF (f+1) k n l)++junk) true)):=by
    intro E1 e e1 c1
    rw [ed,e,if_pos rfl]
    obtain ⟨E2,q2,e2,l2⟩:=down_loop f j (swp l k j) _ E1 (D.set (swp_len _ _ _)) (by rw [swp_len];exact hn) (by rw [swp_len];omega) (by omega) e1
    rw [List.set_set] at l2
    exact ⟨E2,q2,e2,.step c1 l2⟩
   by_cases h2:2*k+2<n
   ·have A6:(Asm.cmp .lss ((2*k+2:Nat):Int) (n:Int) true).holds Try.prog:=ltT (by omega)
    obtain ⟨p1,hp1⟩:∃ p,l[2*k+1]?=some p:=⟨_,List.getElem?_eq_getElem (by omega)⟩
    obtain ⟨p2,hp2⟩:∃ p,l[2*k+2]?=some p:=⟨_,List.getElem?_eq_getElem (by omega)⟩
    have R2:=less_run D hp2 hp1
    have ej:j=if lessP p2 p1 then 2*k+2 else 2*k+1:=by rw [hj,dnC,if_pos h2];simp only [hp1,hp2]
    cases e2:lessP p2 p1 with
    | false =>
     rw [e2] at R2 ej
     have ej:j=2*k+1:=by simpa using ej
     subst ej
     cases e:lessP p q with
     | false =>
      rw [e] at R
      obtain ⟨E1,q1,q2⟩:=pvC 0 hE (c13p.dn_0_s i l.length 2 (some ⟨d,0,none⟩) (k:Int) (n:Int) k0 ((2*k:Nat):Int) ((2*k+1:Nat):Int) ((2*k+2:Nat):Int) h h h h) ⟨A1,A2,A3,A4,A5,A6,R2,M1,R,M1,trivial⟩
      exact stop e (.trans (.add (.add (.nil _) rfl) rfl) q1) q2
     | true =>
      rw [e] at R
      obtain ⟨E1,q1,q2⟩:=pvC 0 hE (c13p.dn_0_g i l.length 2 (some ⟨d,0,none⟩) (k:Int) (n:Int) k0 ((2*k:Nat):Int) ((2*k+1:Nat):Int) ((2*k+2:Nat):Int) h h h _) ⟨A1,A2,A3,A4,A5,A6,R2,M1,R,M1,S,M2,trivial⟩
      exact go e (.trans (.add (.add (.add (.add (.nil _) rfl) rfl) rfl) rfl) q1) q2
    | true =>
     rw [e2] at R2 ej
     have ej:j=2*k+2:=by simpa using ej
     subst ej
     cases e:lessP p q with
     | false =>
      rw [e] at R
      obtain ⟨E1,q1,q2⟩:=pvC 0 hE (c13p.dn_1_s i l.length 2 (some ⟨d,0,none⟩) (k:Int) (n:Int) k0 ((2*k:Nat):Int) ((2*k+1:Nat):Int) ((2*k+2:Nat):Int) h h h h) ⟨A1,A2,A3,A4,A5,A6,R2,M1,R,M1,trivial⟩
      exact stop e (.trans (.add (.add (.nil _) rfl) rfl) q1) q2
     | true =>
      rw [e] at R
      obtain ⟨E1,q1,q2⟩:=pvC 0 hE (c13p.dn_1_g i l.length 2 (some ⟨d,0,none⟩) (k:Int) (n:Int) k0 ((2*k:Nat):Int) ((2*k+1:Nat):Int) ((2*k+2:Nat):Int) h h h _) ⟨A1,A2,A3,A4,A5,A6,R2,M1,R,M1,S,M2,trivial⟩
      exact go e (.trans (.add (.add (.add (.add (.nil _) rfl) rfl) rfl) rfl) q1) q2
   ·have A6:(Asm.cmp .lss ((2*k+2:Nat):Int) (n:Int) false).holds Try.prog:=ltF (by omega)
    have ej:j=2*k+1:=by rw [hj,dnC,if_neg h2]
    subst ej
    cases e:lessP p q with
    | false =>
     rw [e] at R
     obtain ⟨E1,q1,q2⟩:=pvC 0 hE (c13p.dn_n_s i l.length 2 (some ⟨d,0,none⟩) (k:Int) (n:Int) k0 ((2*k:Nat):Int) ((2*k+1:Nat):Int) ((2*k+2:Nat):Int) h h h h) ⟨A1,A2,A3,A4,A5,A6,R,M1,trivial⟩
     exact stop e (.trans (.add (.add (.nil _) rfl) rfl) q1) q2
    | true =>
     rw [e] at R
     obtain ⟨E1,q1,q2⟩:=pvC 0 hE (c13p.dn_n_g i l.length 2 (some ⟨d,0,none⟩) (k:Int) (n:Int) k0 ((2*k:Nat):Int) ((2*k+1:Nat):Int) ((2*k+2:Nat):Int) h h h _) ⟨A1,A2,A3,A4,A5,A6,R,M1,S,M2,trivial⟩
     exact go e (.trans (.add (.add (.add (.add (.nil _) rfl) rfl) rfl) rfl) q1) q2
termination_by f=>f
theorem plain80:plainC (loopN Try.f80 0)=true:=by kernel_rfl
theorem down_run (D:DAt h i d l cs junk) {n:Nat} (hn:n≤l.length) (hl:0<l.length):∃ z,Run Try.prog 80 [hv i,.int .i64 0,.int .i64 (n:Int)] h (.bool z) (h.set d (.cells (prL (downF n 0 n l)++junk) true)):=by
 obtain ⟨E1,q,e1,l1⟩:=down_loop (n:=n) (k0:=0) n 0 l h [(7,.int .i64 ((0:Nat):Int)),(2,.int .i64 (n:Int)),(0,hv i),(1,.int .i64 0)] D hn hl (by omega) (EnvLe.refl _)
 exact ⟨_,pvF 0 Try.func80 (c13p.dn i (n:Int) q (decide (0<q)) h _) ⟨a_loop plain80 (.add (.add (.add (.add (.nil _) rfl) rfl) rfl) rfl) e1 l1,gtD,trivial⟩⟩
end
def popL (l:List Pr):List Pr:=downF (l.length-1) 0 (l.length-1) (swp l 0 (l.length-1))
theorem popL_len (l:List Pr):(popL l).length=l.length:=by rw [popL,downF_len,swp_len]
def popped (l:List Pr):List Pr:=(popL l).take (l.length-1)
def popP (l:List Pr):Pr:=(popL l)[l.length-1]?.getD (0,0)
section
variable {h h' g:Hp} {ρ ρ' ρ1:Lay} {γ γ' γ1:GL} {x:GS} {t':TS} {c:Nat}
theorem stat112 (k:Nat) (hk:k=0∨k=1):(Asm.stat (drawN Try.f112 k)).holds Try.prog:=by
 rcases hk with rfl | rfl
 ·exact show statOk (drawN Try.f112 0)=true by kernel_rfl
 ·exact show statOk (drawN Try.f112 1)=true by kernel_rfl
theorem prL_take (l:List Pr) (k:Nat):∃ j,prL l=prL (l.take k)++j:=⟨prL (l.drop k),by rw [← prL_app,List.take_append_drop]⟩
theorem dpop_run (a:GAt h ρ γ x) {n:Nat} (hn:x.du.length=n+1) (hl:x.du.length≤100000) {p:Pr} (hp:x.du[n]?=some p) :
  ∃ g,Run Try.prog 112 [p3 γ.g] h (.iface 93 (.agg #[.int .i64 p.1,.int .i64 p.2])) g∧GAt g ρ γ { x with du:=x.du.take n }∧GStep ρ γ h ρ γ g:=by
 obtain ⟨d,e⟩:∃ d,γ.d=some d:=by
  cases e:γ.d with
  | none=>rw [a.dun e] at hn;simp at hn
  | some d=>exact ⟨d,rfl⟩
 obtain ⟨junk,hj⟩:=a.duo d e
 have O:=a.obj
 rw [e] at O
 have D:DAt h γ.g d x.du _ junk:=⟨O,rfl,hj,fun f=>a.gd (by rw [e,f]),by omega⟩
 obtain ⟨_,_,L⟩:=D.ld hp (s:=.is h) rfl
 have hg:=get_lt a.obj
 obtain ⟨g2,hg2⟩:∃ g2,g2=(h++[AObj.cells [.int .i64 0,.int .i64 0] true]).set h.length (.cells [.int .i64 p.1,.int .i64 p.2] true):=⟨_,rfl⟩
 have K2:Grow h g2:=by rw [hg2];exact ((Grow.refl h).push _).set (Nat.le_refl _) _
 have bx:g2[h.length]?=some (.cells [.int .i64 p.1,.int .i64 p.2] true):=by rw [hg2];exact get_set_eq (get_new _ _)
 have S3:(Asm.ld1 (.is h) γ.g 3 (.slice (some ⟨d,0,none⟩) x.du.length 2)).holds Try.prog:=a_ld1 O rfl
 have O2:=K2.get O
 have S4:∀ s:SH,s.den=g2→(Asm.ld1 s γ.g 3 (.slice (some ⟨d,0,none⟩) x.du.length 2)).holds Try.prog:=fun s e=>a_ld1 (by rw [e];exact O2) rfl
 have A1:(Asm.arith .sub .i64 (Int.ofNat x.du.length) 1 (Int.ofNat n)).holds Try.prog:=subI (by simp only [Int.ofNat_eq_natCast];omega) (by simp only [Int.ofNat_eq_natCast];omega) (by simp only [Int.ofNat_eq_natCast];omega)
 have tl:(x.du.take n).length=n:=by rw [List.length_take];omega
 subst hg2
 refine ⟨_,pvF 0 Try.func112 (c13p.po γ.g d x.du.length (n*2) h.length n (Int.ofNat n) p.1 p.2 [pvv (ρ .root),.map (some γ.m),.map (some γ.n),.slice (some ⟨d,0,none⟩) n 2] h)
  ⟨stat112 0 (by simp),S3,S3,A1,offI rfl (by omega) (by omega),L,rfl,a_st (get_new _ _) (by simp) rfl,stat112 1 (by simp),S4 _ rfl,S4 _ rfl,A1,a_cut (by omega),a_st O2 (by simp) rfl,a_ldn (get_set_ne bx (by omega)) (by simp) rfl,trivial⟩,?_⟩
 obtain ⟨j2,hj2⟩:=prL_take x.du n
 have K3:Keep (fun q=>q=γ.g∨γ.d=some q) h (((h++[AObj.cells [.int .i64 0,.int .i64 0] true]).set h.length (.cells [.int .i64 p.1,.int .i64 p.2] true)).set γ.g (.cells [pvv (ρ .root),.map (some γ.m),.map (some γ.n),.slice (some ⟨d,0,none⟩) n 2] true)) :=
  (K2.mono fun _ _ e=>e.elim).trans (Keep.set (.inl rfl) _)
 have R:=a.dues (l:=x.du.take n) (d:=d) (junk:=j2++junk) K3 (.inl e) (by rw [tl];exact get_set_eq O2) (by rw [← List.append_assoc,← hj2];exact get_set_ne (K2.get hj) D.ne.symm)
 have eγ:({ γ with d:=some d }:GL)=γ:=by rw [← e]
 rw [eγ] at R
 exact R
theorem hpop_run (a:GAt h ρ γ x) (hn:0<x.du.length) (hl:x.du.length≤100000) :
  ∃ g,Run Try.prog 53 [hv γ.g] h (.iface 93 (.agg #[.int .i64 (popP x.du).1,.int .i64 (popP x.du).2])) g∧GAt g ρ γ { x with du:=popped x.du }∧GStep ρ γ h ρ γ g:=by
 obtain ⟨n,hn'⟩:∃ n,x.du.length=n+1:=⟨x.du.length-1,by omega⟩
 obtain ⟨d,e⟩:∃ d,γ.d=some d:=by
  cases e:γ.d with
  | none=>rw [a.dun e] at hn;simp at hn
  | some d=>exact ⟨d,rfl⟩
 obtain ⟨junk,hj⟩:=a.duo d e
 have O:=a.obj
 rw [e] at O
 have D:DAt h γ.g d x.du _ junk:=⟨O,rfl,hj,fun f=>a.gd (by rw [e,f]),by omega⟩
 obtain ⟨_,MS,ML⟩:=D.mth (.is h) rfl
 have N:=pvF 0 Try.func109 (c3p.ln (some ⟨d,0,none⟩) x.du.length 2 h) trivial
 have A1:(Asm.arith .sub .i64 (Int.ofNat x.du.length) 1 (n:Int)).holds Try.prog:=subI (by simp only [Int.ofNat_eq_natCast];omega) (by omega) (by omega)
 have S:=swap_run D (a:=0) (b:=n) hn (by omega)
 have D1:=D.set (swp_len x.du 0 n)
 obtain ⟨z,R1⟩:=down_run D1 (n:=n) (by rw [swp_len];omega) (by rw [swp_len];omega)
 have ep:popL x.du=downF n 0 n (swp x.du 0 n):=by simp only [popL,hn',Nat.add_sub_cancel]
 rw [List.set_set,← ep] at R1
 have K:Keep (fun q=>q=γ.g∨γ.d=some q) h (h.set d (.cells (prL (popL x.du)++junk) true)):=Keep.set (.inr e) _
 have R2:=a.dues (l:=popL x.du) (d:=d) (junk:=junk) K (.inl e) (by rw [popL_len];exact get_set_ne O D.ne) (get_set_eq hj)
 have eγ:({ γ with d:=some d }:GL)=γ:=by rw [← e]
 rw [eγ] at R2
 obtain ⟨p,hp⟩:∃ p,(popL x.du)[n]?=some p:=⟨_,List.getElem?_eq_getElem (by rw [popL_len];omega)⟩
 obtain ⟨g,R3,b,S3⟩:=dpop_run R2.1 (n:=n) (by rw [popL_len];exact hn') (by rw [popL_len];exact hl) hp
 have epp:popP x.du=p:=by simp only [popP,hn',Nat.add_sub_cancel,hp,Option.getD_some]
 have epd:popped x.du=(popL x.du).take n:=by simp only [popped,hn',Nat.add_sub_cancel]
 rw [epp,epd]
 exact ⟨g,pvF 0 Try.func53 (c13p.hp γ.g x.du.length 2 (some ⟨d,0,none⟩) _ (Int.ofNat x.du.length) (n:Int) z h _ _ g) ⟨N,ML,A1,S,MS,R1,R3,mthPop _ γ.g,trivial⟩,b,R2.2.trans S3⟩
end
end Go.Proofs.Ytlonjogfeidgfaa.gr
namespace Go.Proofs.Ytlonjogfeidgfaa.gr
open Go Go.Ev Go.Proofs.Ytlonjogfeidgfaa.tr
set_option maxRecDepth 100000
set_option linter.unusedVariables false
set_option linter.constructorNameAsVariable false
def overF:Nat→TS→List Pr→List Pr
 | 0,_,l=>l
 | f+1,t,l=>match l with
  | []=>[]
  | p::_=>if (t.sco p.2).1.ov=true then overF f t (popped l) else l
def GS.over (x:GS):GS:={ x with du:=overF x.du.length x.t x.du }
theorem popped_len (l:List Pr):(popped l).length=l.length-1:=by rw [popped,List.length_take,popL_len];omega
theorem overF_len:∀ (f:Nat) (t:TS) (l:List Pr),(overF f t l).length≤l.length
 | 0,_,_=>Nat.le_refl _
 | f+1,t,[]=>Nat.le_refl _
 | f+1,t,p::l=>by
  simp only [overF];split
  ·exact Nat.le_trans (overF_len f t _) (by rw [popped_len];simp)
  ·exact Nat.le_refl _
theorem stat52:(Asm.stat (drawOps (drawN Try.f52 0))).holds Try.prog:=show statOk (drawOps (drawN Try.f52 0))=true by kernel_rfl
theorem a_kept {P:Program} {s s1 s2:SH} {cs:List Value} (h1:s1.den[s.den.length]?=some (.cells cs true)) (h2:s2.den[s.den.length]?=some (.cells cs true)) (hr:veqL cs cs=true):(Asm.kept s s1 s2 cs).holds P:=⟨own_of h1,own_of h2,hr⟩
section
variable {h h' g:Hp} {ρ ρ' ρ1:Lay} {γ γ' γ1:GL} {x:GS} {t':TS} {c:Nat}
theorem over_loop (hc:c≤1000):∀ (f:Nat) (x:GS) (h:Hp) (E:Env),GAt h ρ γ x→TOk c x.t→x.du.length≤100000→x.du.length≤f→EnvLe [(0,ptr γ.g)] E →
  ∃ E1 g1 ex,(ex=Ex.ret∨ex=Ex.exit 0)∧GAt g1 ρ γ { x with du:=overF f x.t x.du }∧GStep ρ γ h ρ γ g1∧LRun Try.prog 33 false (loopN Try.f52 0) E h ex E1 g1
 | f,x,h,E,a,ok,hl,hf,hE=>by
  have O:=a.obj
  cases hd:γ.d with
  | none =>
   have e0:=a.dun hd
   rw [hd] at O
   obtain ⟨E1,q1,q2⟩:=pvC 0 hE (c13p.ol_nil γ.g 0 0 0 0 0 0 0 0 0 false false ⟨#[]⟩ none 0 0 undef h h h) ⟨a_ld1 O rfl,gtF (Int.le_refl _),trivial⟩
   have e:overF f x.t x.du=x.du:=by rw [e0];cases f<;>rfl
   rw [e]
   exact ⟨E1,h,_,.inr rfl,a,.refl _ _ _,.last q2 (by simp)⟩
  | some d =>
   rw [hd] at O
   obtain ⟨junk,hj⟩:=a.duo d hd
   have S3:∀ s:SH,s.den=h→(Asm.ld1 s γ.g 3 (.slice (some ⟨d,0,none⟩) x.du.length 2)).holds Try.prog:=fun s e=>a_ld1 (by rw [e];exact O) rfl
   cases hx:x.du with
   | nil =>
    obtain ⟨E1,q1,q2⟩:=pvC 0 hE (c13p.ol_zero γ.g 0 d x.du.length 0 0 0 0 0 0 false false ⟨#[]⟩ none 0 0 undef h h h) ⟨S3 (.is h) rfl,gtF (by rw [hx];simp),trivial⟩
    have e:overF f x.t []=x.du:=by rw [hx];cases f<;>rfl
    rw [e]
    exact ⟨E1,h,_,.inr rfl,a,.refl _ _ _,.last q2 (by simp)⟩
   | cons p r =>
    have hpos:0<x.du.length:=by rw [hx];simp
    obtain ⟨f,rfl⟩:∃ f',f=f'+1:=⟨f-1,by omega⟩
    have h0:x.du[0]?=some p:=by rw [hx];rfl
    have D:DAt h γ.g d x.du _ junk:=⟨O,rfl,hj,fun f=>a.gd (by rw [hd,f]),by omega⟩
    obtain ⟨_,L2,_⟩:=D.ld h0 (s:=.is h) rfl
    obtain ⟨r,hr,hp⟩:=root_ptr a
    obtain ⟨ga,hga⟩:∃ ga,ga=h++[AObj.cells [.int .i64 0,.bool false,.bool false,.slice none 0 0,.int .i64 0,.string { data:=#[] }] true]:=⟨_,rfl⟩
    have Ka:Grow h ga:=by rw [hga];exact Keep.push _ _ _
    obtain ⟨v1,g1,q1,K1,sv1⟩:=sco_run (a.tat.grow Ka) ok (by omega) hr p.2
    obtain ⟨oa,ln,za,rfl⟩:∃ oa ln za,v1=.slice oa ln za:=by
     rcases sv1 with ⟨_,_,h⟩ | ⟨_,_,e,h,_⟩<;>exact ⟨_,_,_,h⟩
    obtain ⟨w,hw⟩:∃ w,w=x.t.sco p.2:=⟨_,rfl⟩
    rw [← hw] at q1
    obtain ⟨⟨ow,su,ov,tk,fk,ft⟩,er⟩:=w
    simp only [ScV.C] at q1
    have eov:(x.t.sco p.2).1.ov=ov:=by rw [← hw]
    have K1':Grow ga g1:=K1
    have K:Grow h g1:=Ka.trans K1'
    have bx:g1[h.length]?=some (.cells [.int .i64 0,.bool false,.bool false,.slice none 0 0,.int .i64 0,.string { data:=#[] }] true):=K1'.get (by rw [hga];exact get_new _ _)
    have M0:(Asm.ld1 (.is h) γ.g 0 (ptr r)).holds Try.prog:=a_ld1 a.obj (by rw [hp];rfl)
    have kp:(Asm.kept (.is h) (.push (.is h) (.cells [.int .i64 0,.bool false,.bool false,.slice none 0 0,.int .i64 0,.string { data:=#[] }] true)) (.is g1) [.int .i64 0,.bool false,.bool false,.slice none 0 0,.int .i64 0,.string { data:=#[] }]).holds Try.prog:=a_kept (get_new _ _) bx (veqL_refl rfl)
    have off0:(Asm.off 0 0 0 x.du.length 2).holds Try.prog:=offI (q:=0) rfl hpos (by omega)
    have G:(Asm.cmp .gtr (Int.ofNat x.du.length) 0 true).holds Try.prog:=gtT (by simp only [Int.ofNat_eq_natCast];omega)
    obtain ⟨g2,hg2⟩:∃ g2,g2=g1.set h.length (.cells [.int .i64 ow,.bool su,.bool ov,.slice oa ln za,.int .i64 fk,.string ft] true):=⟨_,rfl⟩
    have K2:Grow h g2:=by rw [hg2];exact K.set (Nat.le_refl _) _
    rw [hga] at q1
    rw [← hx]
    cases ov with
    | false =>
     have e:overF (f+1) x.t x.du=x.du:=by rw [hx];simp only [overF,eov];rfl
     obtain ⟨E1,p1,p2⟩:=pvC 0 hE (c13p.ol_ret γ.g r d x.du.length h.length 0 p.2 ow fk er su false ft oa ln za undef h g1 g1)
      ⟨S3 (.is h) rfl,G,stat52,kp,M0,S3 (.is h) rfl,off0,L2,rfl,q1,a_st bx (by simp) rfl,a_ld1 (get_set_eq bx) rfl,trivial⟩
     rw [e]
     exact ⟨E1,g2,_,.inl rfl,a.grow K2,.grow K2,.last (by rw [hg2];exact p2) (by simp)⟩
    | true =>
     have e:overF (f+1) x.t x.du=overF f x.t (popped x.du):=by rw [hx];simp only [overF,eov];rfl
     have a2:=a.grow K2
     obtain ⟨g3,R3,b3,S3'⟩:=hpop_run a2 hpos hl
     rw [hg2] at R3
     obtain ⟨E1,p1,p2⟩:=pvC 0 hE (c13p.ol_go γ.g r d x.du.length h.length 0 p.2 ow fk er su true ft oa ln za _ h g1 g3)
      ⟨S3 (.is h) rfl,G,stat52,kp,M0,S3 (.is h) rfl,off0,L2,rfl,q1,a_st bx (by simp) rfl,a_ld1 (get_set_eq bx) rfl,R3,trivial⟩
     obtain ⟨E2,g4,ex,e1,e2,e3,e4⟩:=over_loop hc f { x with du:=popped x.du } g3 E1 b3 ok (by simp only [popped_len];omega) (by simp only [popped_len];omega) (.trans (.add (.nil _) rfl) p1)
     rw [e]
     exact ⟨E2,g4,ex,e1,e2,((GStep.grow K2).trans S3').trans e3,.step p2 e4⟩
termination_by f=>f
theorem plain52:plainC (loopN Try.f52 0)=true:=by kernel_rfl
theorem over_run (a:GAt h ρ γ x) (ok:TOk c x.t) (hc:c≤1000) (hl:x.du.length≤100000):∃ g,Run Try.prog 52 [ptr γ.g] h (.tuple #[]) g∧GAt g ρ γ x.over∧GStep ρ γ h ρ γ g:=by
 obtain ⟨E1,g1,ex,e1,e2,e3,e4⟩:=over_loop hc x.du.length x h [(0,ptr γ.g)] a ok hl (Nat.le_refl _) (EnvLe.refl _)
 rcases e1 with rfl | rfl
 ·exact ⟨g1,pvF 0 Try.func52 (c13p.ov_r γ.g [] h g1) ⟨a_loop plain52 (.add (.nil _) rfl) (.nil _) e4,trivial⟩,e2,e3⟩
 ·exact ⟨g1,pvF 0 Try.func52 (c13p.ov_e γ.g [] h g1) ⟨a_loop plain52 (.add (.nil _) rfl) (.nil _) e4,trivial⟩,e2,e3⟩
theorem throw_run (g:Hp) (ft:ByteArray):∃ g',Run Try.prog 54 [.string ft] g (.agg #[.int .i64 1,.string ft]) g'∧Grow g g' :=
 ⟨_,pvF 0 Try.func54 (c13p.th g.length 0 ft [] g) ⟨rfl,a_st (get_new _ _) (by simp) rfl,a_ldn (get_set_eq (get_new _ _)) (by simp) rfl,trivial⟩,((Grow.refl g).push _).set (Nat.le_refl _) _⟩
end
end Go.Proofs.Ytlonjogfeidgfaa.gr
namespace Go.Proofs.Ytlonjogfeidgfaa.gr
open Go Go.Ev Go.Proofs.Ytlonjogfeidgfaa.tr Go.Proofs.Ytlonjogfeidgfaa.c13p
set_option maxRecDepth 100000
set_option linter.unusedVariables false
set_option linter.constructorNameAsVariable false
def GS.pop (x:GS):GS:={ x with du:=popped x.du }
def GS.lateF (x:GS):GS×List Ef×Int:=x.pop.fail (popP x.du).2 1 late
def GS.come (x:GS):GS×List Ef:=x.lateF.1.strikes (popP x.du).2
def expF:Nat→GS→Int→GS×List Ef
 | 0,x,_=>(x,[])
 | f+1,x,now=>match x.du with
  | []=>(x,[])
  | p::_=>if p.1≤now then ((expF f x.come.1.over now).1,(x.lateF.2.1++x.come.2)++(expF f x.come.1.over now).2) else (x,[])
def GS.expire (x:GS) (now:Int):GS×List Ef:=expF x.over.du.length x.over now
theorem after_t (x:GS) (r:TS×List Ef×Int):(x.after r).1.t=r.1:=turned_t _ _
theorem strike_du (x:GS) (b:Bool) (n:Int) (l:List Int):(x.strike b n l).1.du=x.du:=by
 unfold GS.strike;split
 ·rfl
 ·cases b<;>rfl
theorem turned_du:∀ (l:List Ef) (x:GS),(x.turned l).1.du=x.du
 | [],x=>rfl
 | e::l,x=>by
  rw [GS.turned];split
  ·rw [turned_du l];exact strike_du _ _ _ _
  ·exact turned_du l x
theorem come_du (x:GS):x.come.1.du=popped x.du:=by
 rw [GS.come,GS.strikes,strike_du,GS.lateF,GS.fail,GS.after,turned_du];rfl
theorem come_t (x:GS):x.come.1.t=(x.t.fail (popP x.du).2 1 late).1:=by
 rw [GS.come,GS.strikes,strike_t,GS.lateF,GS.fail,after_t];rfl
theorem late_t (x:GS):x.lateF.1.t=(x.t.fail (popP x.du).2 1 late).1:=by rw [GS.lateF,GS.fail,after_t];rfl
theorem over_du_len (x:GS):x.over.du.length≤x.du.length:=overF_len _ _ _
theorem stat29:(Asm.stat (drawN Try.f29 0)).holds Try.prog:=show statOk (drawN Try.f29 0)=true by kernel_rfl
theorem agg3:aggSize Try.prog 3=some none:=by kernel_rfl
section
variable {h h' g:Hp} {ρ ρ' ρ1:Lay} {γ γ' γ1:GL} {x:GS} {t':TS} {c:Nat}
theorem turned_len:∀ (l:List Ef) {x:GS},TOk c x.t→WI none x.t→WJ x.t→(x.turned l).2.length≤65*l.length
 | [],x,ok,W,J=>by simp [GS.turned]
 | e::l,x,ok,W,J=>by
  have ht:(x.strikes e.n).1.t=x.t:=strike_t _ _ _ _
  rw [GS.turned];split
  ·have h1:=strikes_len ok W J e.n
   have h2:=turned_len l (x:=(x.strikes e.n).1) (ht▸ok) (ht▸W) (ht▸J)
   simp only [List.length_append,List.length_cons];omega
  ·have h2:=turned_len l ok W J
   simp only [List.length_cons];omega
theorem exp_loop {now:Int} {lo:Nat}:∀ (f c:Nat) (x:GS) (A:List Ef) (v:Value) (h:Hp) (E:Env),GAt h ρ γ x→TOk c x.t→WI none x.t→WJ x.t→x.du.length≤f→c+x.du.length≤998→A.length+195*x.du.length≤500000→(∀ q,fpG ρ γ q→q<lo)→lo≤h.length→SlV h lo v A.length 5 (efC A) →
  EnvLe [(6,v),(0,ptr γ.g),(1,.int .i64 now)] E →
  ∃ E1 g1 w,Keep (fun q=>fpG ρ γ q∨lo≤q) h g1∧GAt g1 ρ γ (expF f x now).1∧SlV g1 lo w (A++(expF f x now).2).length 5 (efC (A++(expF f x now).2))∧EnvLe [(6,w)] E1∧LRun Try.prog 57 false (loopN Try.f29 0) E h (.exit 0) E1 g1
 | f,c,x,A,v,h,E,a,ok,W,J,hf,hc,hA,hfp,hlo,sv,hE=>by
  have O:=a.obj
  cases hd:γ.d with
  | none =>
   have e0:=a.dun hd
   rw [hd] at O
   obtain ⟨E1,q1,q2⟩:=pvC 0 hE (c13p.xl_nil γ.g 0 0 0 0 0 0 0 0 0 0 0 0 0 0 now 0 0 0 v [] [] [] [] h h h h h h) ⟨a_ld1 O rfl,gtF (Int.le_refl _),trivial⟩
   have e:expF f x now=(x,[]):=by cases f<;>simp [expF,e0]
   rw [e,List.append_nil]
   exact ⟨E1,h,v,Keep.refl _ _,a,sv,.trans (.add (.nil _) rfl) q1,.last q2 (by simp)⟩
  | some d =>
   rw [hd] at O
   obtain ⟨junk,hj⟩:=a.duo d hd
   have S3:(Asm.ld1 (.is h) γ.g 3 (.slice (some ⟨d,0,none⟩) x.du.length 2)).holds Try.prog:=a_ld1 O rfl
   cases hx:x.du with
   | nil =>
    obtain ⟨E1,q1,q2⟩:=pvC 0 hE (c13p.xl_zero γ.g d x.du.length 0 0 0 0 0 0 0 0 0 0 0 0 now 0 0 0 v [] [] [] [] h h h h h h) ⟨S3,gtF (by rw [hx];simp),trivial⟩
    have e:expF f x now=(x,[]):=by cases f<;>simp [expF,hx]
    rw [e,List.append_nil]
    exact ⟨E1,h,v,Keep.refl _ _,a,sv,.trans (.add (.nil _) rfl) q1,.last q2 (by simp)⟩
   | cons p rr =>
    have hpos:0<x.du.length:=by rw [hx];simp
    obtain ⟨f,rfl⟩:∃ f',f=f'+1:=⟨f-1,by omega⟩
    have h0:x.du[0]?=some p:=by rw [hx];rfl
    have D:DAt h γ.g d x.du _ junk:=⟨O,rfl,hj,fun f=>a.gd (by rw [hd,f]),by omega⟩
    obtain ⟨L1,_,_⟩:=D.ld h0 (s:=.is h) rfl
    have off0:(Asm.off 0 0 0 x.du.length 2).holds Try.prog:=offI (q:=0) rfl hpos (by omega)
    have G:(Asm.cmp .gtr (Int.ofNat x.du.length) 0 true).holds Try.prog:=gtT (by simp only [Int.ofNat_eq_natCast];omega)
    by_cases hle:p.1≤now
    ·have e1:(expF (f+1) x now).1=(expF f x.come.1.over now).1:=by simp only [expF,hx,if_pos hle]
     have e2:A++(expF (f+1) x now).2=((A++x.lateF.2.1)++x.come.2)++(expF f x.come.1.over now).2:=by simp only [expF,hx,if_pos hle,List.append_assoc]
     obtain ⟨s,hs⟩:∃ s,s=(popP x.du).2:=⟨_,rfl⟩
     obtain ⟨aa,haa⟩:∃ a,a=(popP x.du).1:=⟨_,rfl⟩
     obtain ⟨g1,R1,a1,S1⟩:=hpop_run a hpos (by omega)
     rw [← hs,← haa] at R1
     have a1:GAt g1 ρ γ x.pop:=a1
     obtain ⟨g1b,hg1b⟩:∃ g1b,g1b=(g1++[AObj.cells [.int .i64 0,.int .i64 0] true]).set g1.length (.cells [.int .i64 aa,.int .i64 s] true):=⟨_,rfl⟩
     have K1b:Grow g1 g1b:=by rw [hg1b];exact ((Grow.refl g1).push _).set (Nat.le_refl _) _
     have bx:g1b[g1.length]?=some (.cells [.int .i64 aa,.int .i64 s] true):=by rw [hg1b];exact get_set_eq (get_new _ _)
     have st1:(Asm.st (.push (.is g1) (.cells [.int .i64 0,.int .i64 0] true)) g1.length 0 [.int .i64 aa,.int .i64 s] [.int .i64 aa,.int .i64 s]).holds Try.prog:=a_st (get_new _ _) (by simp) rfl
     obtain ⟨g2,R2,K2⟩:=throw_run g1b late
     have bx2:=K2.get bx
     have a2:=(a1.grow K1b).grow K2
     have AG:∀ (sh:SH),sh.den[g1.length]?=some (.cells [.int .i64 aa,.int .i64 s] true)→(Asm.again sh 3 (.pointer (some ⟨g1.length,1,none⟩)) (.int .i64 s)).holds Try.prog:=fun sh e=>a_again1 agg3 e rfl rfl
     have LB:∀ (sh:SH),sh.den[g1.length]?=some (.cells [.int .i64 aa,.int .i64 s] true)→(Asm.ld1 sh g1.length 1 (.int .i64 s)).holds Try.prog:=fun sh e=>a_ld1 e rfl
     obtain ⟨mv,g3,R3,a3,S3',sm⟩:=failG_run a2 (c:=c) ok (by omega) W J s 1 late
     rw [hs] at sm a3
     have a3:GAt g3 ρ γ x.lateF.1:=a3
     have okL:TOk (c+1) x.lateF.1.t:=by rw [late_t];exact ok.fail
     have WL:WI none x.lateF.1.t:=by rw [late_t];exact W.fail _ _ _
     have JL:WJ x.lateF.1.t:=by rw [late_t];exact J.fail ok _ _ _
     have sm:SlV g3 g2.length mv x.lateF.2.1.length 5 (efC x.lateF.2.1):=sm
     have eml:x.lateF.2.2=(x.pop.fail s 1 late).2.2:=by rw [hs];rfl
     have lm:x.lateF.2.1.length≤130:=by
      have h1:=fail_ef x.t (popP x.du).2 1 late
      have h2:=turned_len (c:=c+1) (x.t.fail (popP x.du).2 1 late).2.1 (x:={ x.pop with t:=(x.t.fail (popP x.du).2 1 late).1 }) ok.fail (W.fail _ _ _) (J.fail ok _ _ _)
      have:x.lateF.2.1.length≤65*(x.t.fail (popP x.du).2 1 late).2.1.length:=h2
      omega
     have lc:x.come.2.length≤65:=strikes_len okL WL JL _
     have K13:Keep (fun q=>fpG ρ γ q∨lo≤q) h g3:=(S1.keep.mono fun _ _ e=>.inl e).trans (((K1b.trans K2).mono fun _ _ e=>e.elim).trans (S3'.keep.mono fun _ _ e=>.inl e))
     have Kx:Keep (fpG ρ γ) h g3:=S1.keep.trans (((K1b.trans K2).mono fun _ _ e=>e.elim).trans S3'.keep)
     have lh1:=S1.keep.1
     have lh2:g1.length≤g2.length:=Nat.le_trans K1b.1 K2.1
     have lh3:=S3'.keep.1
     have l12:g1.length<g2.length:=get_lt bx2
     have bx3:g3[g1.length]?=some (.cells [.int .i64 aa,.int .i64 s] true):=S3'.keep.2 _ _ bx2 fun e=>by have:=hfp _ e;omega
     have sv3:SlV g3 lo v A.length 5 (efC A):=sv.keep Kx hfp
     have sm3:SlV g3 lo mv x.lateF.2.1.length 5 (efC x.lateF.2.1):=sm.mono (by omega)
     have up:∀ {E1:Env} {g4:Hp} {v4:Value} {g5:Hp},GAt g5 ρ γ x.come.1.over→Keep (fun q=>fpG ρ γ q∨lo≤q) h g5→SlV g5 lo v4 ((A++x.lateF.2.1)++x.come.2).length 5 (efC ((A++x.lateF.2.1)++x.come.2))→EnvLe [(6,v4),(0,ptr γ.g),(1,.int .i64 now)] E1→CRun Try.prog 57 false (loopN Try.f29 0) E h .normal E1 g5 →
       ∃ E1 g1 w,Keep (fun q=>fpG ρ γ q∨lo≤q) h g1∧GAt g1 ρ γ (expF (f+1) x now).1∧SlV g1 lo w (A++(expF (f+1) x now).2).length 5 (efC (A++(expF (f+1) x now).2))∧EnvLe [(6,w)] E1∧LRun Try.prog 57 false (loopN Try.f29 0) E h (.exit 0) E1 g1:=by
      intro E1 g4 v4 g5 a5 K5 s5 hE5 c5
      have hdl:=over_du_len x.come.1
      rw [come_du,popped_len] at hdl
      obtain ⟨E6,g6,w,K6,a6,s6,e6,l6⟩:=exp_loop f (c+1) x.come.1.over ((A++x.lateF.2.1)++x.come.2) v4 g5 E1 a5 (by show TOk (c+1) x.come.1.t;rw [come_t];exact ok.fail) (by show WI none x.come.1.t;rw [come_t];exact W.fail _ _ _) (by show WJ x.come.1.t;rw [come_t];exact J.fail ok _ _ _)
       (by omega) (by omega) (by simp only [List.length_append];omega) hfp (Nat.le_trans hlo K5.1) s5 hE5
      rw [e1,e2]
      exact ⟨E6,g6,w,K5.trans K6,a6,s6,e6,.step c5 l6⟩
     have fin:∀ {g3':Hp},Keep (fun q=>lo≤q) g3 g3'→g3'[g1.length]?=some (.cells [.int .i64 aa,.int .i64 s] true)→∃ ev g4,Run Try.prog 55 [ptr γ.g,.int .i64 s] g3' ev g4∧GAt g4 ρ γ x.come.1∧Keep (fpG ρ γ) g3' g4∧SlV g4 lo ev x.come.2.length 5 (efC x.come.2):=by
      intro g3' K3' _
      obtain ⟨ev,g4,R4,a4,S4,s4⟩:=strikes_run (a3.keep K3' fun q e f=>by have:=hfp q f;omega) okL (by omega) WL JL s
      rw [hs] at a4 s4
      exact ⟨ev,g4,R4,a4,S4.keep,s4.mono (by have:=K3'.1;omega)⟩
     have ov:∀ {g4':Hp},GAt g4' ρ γ x.come.1→∃ g5,Run Try.prog 52 [ptr γ.g] g4' (.tuple #[]) g5∧GAt g5 ρ γ x.come.1.over∧Keep (fpG ρ γ) g4' g5:=by
      intro g4' a4'
      obtain ⟨g5,R5,a5,S5⟩:=over_run a4' (c:=c+1) (by rw [come_t];exact ok.fail) (by omega) (by rw [come_du,popped_len];omega)
      exact ⟨g5,R5,a5,S5.keep⟩
     rw [hg1b] at R2
     rcases sv3 with ⟨o1,o2,rfl⟩ | ⟨o1,o2,oo,rfl,o4,o5⟩<;>rcases sm3 with ⟨m1,m2,rfl⟩ | ⟨m1,m2,mm,rfl,m4,m5⟩
     ·have K3':Keep (fun q=>lo≤q) g3 g3:=Keep.refl _ _
      have bx3':=bx3
      have e0:x.lateF.2.1=[]:=List.length_eq_zero_iff.1 m1
      obtain ⟨ev,g4,R4,a4,K4,s4⟩:=fin K3' bx3'
      rw [← eml] at R3
      have K34:Keep (fun q=>fpG ρ γ q∨lo≤q) h g4:=K13.trans ((K3'.mono fun _ _ e=>.inr e).trans (K4.mono fun _ _ e=>.inl e))
      have A0:A=[]:=List.length_eq_zero_iff.1 o1
      have eA:A++x.lateF.2.1=[]:=by rw [e0,A0];rfl
      rcases s4 with ⟨v1,v2,rfl⟩ | ⟨v1,v2,vv,rfl,v4,v5⟩
      ·have c0:x.come.2=[]:=List.length_eq_zero_iff.1 v1
       obtain ⟨g5,R5,a5,K5⟩:=ov a4
       obtain ⟨E1,q1,q2⟩:=pvC 0 hE (c13p.xl_000 γ.g d x.du.length g1.length 0 0 0 0 0 0 0 0 0 0 p.1 now aa s x.lateF.2.2 undef [] [] [] [] h g1 g2 g3 g4 g5) ⟨S3,G,S3,off0,L1,leT hle,R1,rfl,st1,stat29,AG _ (get_set_eq (get_new _ _)),AG _ (get_set_eq (get_new _ _)),AG _ bx2,LB _ (get_set_eq (get_new _ _)),R2,R3,LB _ bx3',R4,R5,trivial⟩
       have Kf:=K34.trans (K5.mono fun _ _ e=>.inl e)
       exact up (g4:=g4) a5 Kf (.inl ⟨by rw [c0,eA];rfl,by rw [c0,eA];rfl,rfl⟩) (.trans (.add (.add (.add (.nil _) rfl) rfl) rfl) q1) q2
      ·obtain ⟨k2,hk2⟩:∃ k,x.come.2.length=k+1:=⟨x.come.2.length-1,by omega⟩
       rw [hk2] at R4
       have Kp:Keep (fun q=>lo≤q) g4 (g4++[AObj.cells (efC x.come.2) true]):=Keep.push _ _ _
       have a4':=a4.keep Kp fun q e f=>by have:=hfp q f;omega
       obtain ⟨g5,R5,a5,K5⟩:=ov a4'
       have ap2:(Asm.appNil (.is g4) vv 0 (k2+1) k2 5 48 (efC x.come.2) g4.length).holds Try.prog:=a_appNJ (junk:=[]) (by rw [List.append_nil];exact v4) (by rw [efC_len,hk2]) (efC_one _) (by omega) (by omega) rfl
       obtain ⟨E1,q1,q2⟩:=pvC 0 hE (c13p.xl_001 γ.g d x.du.length g1.length 0 0 0 0 vv (k2+1) 0 k2 0 g4.length p.1 now aa s x.lateF.2.2 undef [] [] [] (efC x.come.2) h g1 g2 g3 g4 g5) ⟨S3,G,S3,off0,L1,leT hle,R1,rfl,st1,stat29,AG _ (get_set_eq (get_new _ _)),AG _ (get_set_eq (get_new _ _)),AG _ bx2,LB _ (get_set_eq (get_new _ _)),R2,R3,LB _ bx3',R4,ap2,R5,trivial⟩
       have dn:(g4++[AObj.cells (efC x.come.2) true])[g4.length]?=some (.cells (efC ((A++x.lateF.2.1)++x.come.2)) true):=by rw [eA,List.nil_append];exact get_new _ _
       have el2:((A++x.lateF.2.1)++x.come.2).length=k2+1:=by rw [List.length_append,hk2,eA];simp
       have g4l:lo≤g4.length:=Nat.le_trans hlo K34.1
       refine up (g4:=g4) a5 (K34.trans ((Kp.mono fun _ _ e=>.inr e).trans (K5.mono fun _ _ e=>.inl e))) (v4:=.slice (some ⟨g4.length,0,none⟩) ((A++x.lateF.2.1)++x.come.2).length 5) (.inr ⟨by rw [el2];omega,by rw [efC_len],g4.length,rfl,K5.2 _ _ dn fun e=>by have:=hfp _ e;omega,g4l⟩) ?_ q2
       rw [el2];exact .trans (.add (.add (.add (.nil _) rfl) rfl) rfl) q1
     ·obtain ⟨k1,hk1⟩:∃ k,x.lateF.2.1.length=k+1:=⟨x.lateF.2.1.length-1,by omega⟩
      have A0:A=[]:=List.length_eq_zero_iff.1 o1
      have K3':Keep (fun q=>lo≤q) g3 (g3++[AObj.cells (efC x.lateF.2.1) true]):=Keep.push _ _ _
      have bx3':=get_push (x:=AObj.cells (efC x.lateF.2.1) true) bx3
      have d1:(g3++[AObj.cells (efC x.lateF.2.1) true])[g3.length]?=some (.cells (efC (A++x.lateF.2.1)) true):=by rw [A0];exact get_new _ _
      have ap1:(Asm.appNil (.is g3) mm 0 (k1+1) k1 5 48 (efC x.lateF.2.1) g3.length).holds Try.prog:=a_appNJ (junk:=[]) (by rw [List.append_nil];exact m4) (by rw [efC_len,hk1]) (efC_one _) (by omega) (by omega) rfl
      obtain ⟨ev,g4,R4,a4,K4,s4⟩:=fin K3' bx3'
      rw [← eml,hk1] at R3
      have K34:Keep (fun q=>fpG ρ γ q∨lo≤q) h g4:=K13.trans ((K3'.mono fun _ _ e=>.inr e).trans (K4.mono fun _ _ e=>.inl e))
      have d4:=K4.2 _ _ d1 fun e=>by have:=hfp _ e;omega
      have dlo:lo≤g3.length:=by omega
      have el1:(A++x.lateF.2.1).length=k1+1:=by rw [List.length_append,hk1];omega
      rcases s4 with ⟨v1,v2,rfl⟩ | ⟨v1,v2,vv,rfl,v4,v5⟩
      ·have c0:x.come.2=[]:=List.length_eq_zero_iff.1 v1
       obtain ⟨g5,R5,a5,K5⟩:=ov a4
       obtain ⟨E1,q1,q2⟩:=pvC 0 hE (c13p.xl_010 γ.g d x.du.length g1.length 0 0 mm (k1+1) 0 0 k1 0 g3.length 0 p.1 now aa s x.lateF.2.2 undef [] [] (efC x.lateF.2.1) [] h g1 g2 g3 g4 g5) ⟨S3,G,S3,off0,L1,leT hle,R1,rfl,st1,stat29,AG _ (get_set_eq (get_new _ _)),AG _ (get_set_eq (get_new _ _)),AG _ bx2,LB _ (get_set_eq (get_new _ _)),R2,R3,ap1,LB _ bx3',R4,R5,trivial⟩
       have Kf:=K34.trans (K5.mono fun _ _ e=>.inl e)
       refine up (g4:=g4) a5 Kf (v4:=.slice (some ⟨g3.length,0,none⟩) ((A++x.lateF.2.1)++x.come.2).length 5) (.inr ⟨?_,by rw [efC_len],g3.length,rfl,?_,dlo⟩) ?_ q2
       ·rw [c0,List.append_nil,el1];omega
       ·rw [c0,List.append_nil];exact K5.2 _ _ d4 fun e=>by have:=hfp _ e;omega
       ·rw [c0,List.append_nil,el1];exact .trans (.add (.add (.add (.nil _) rfl) rfl) rfl) q1
      ·obtain ⟨k2,hk2⟩:∃ k,x.come.2.length=k+1:=⟨x.come.2.length-1,by omega⟩
       rw [hk2] at R4
       have hvv:=get_lt v4
       have Kp:Keep (fun q=>lo≤q) g4 ((g4.set g3.length .dead)++[AObj.cells (efC (A++x.lateF.2.1)++efC x.come.2) true]):=(Keep.set (fp:=fun q=>lo≤q) dlo _).trans (Keep.push _ _ _)
       have a4':=a4.keep Kp fun q e f=>by have:=hfp q f;omega
       obtain ⟨g5,R5,a5,K5⟩:=ov a4'
       have ap2:(Asm.app (.is g4) g3.length 0 (k1+1) vv 0 (k2+1) k2 5 48 (efC (A++x.lateF.2.1)++efC x.come.2) (efC x.come.2) g4.length).holds Try.prog:=a_appSJ (junk:=[]) (junk2:=[]) (by rw [List.append_nil];exact d4) (by rw [efC_len,el1]) (by rw [List.append_nil];exact v4) (by rw [efC_len,hk2]) (efC_one _) (by omega) (by omega) (by omega) rfl
       obtain ⟨E1,q1,q2⟩:=pvC 0 hE (c13p.xl_011 γ.g d x.du.length g1.length 0 0 mm (k1+1) vv (k2+1) k1 k2 g3.length g4.length p.1 now aa s x.lateF.2.2 undef [] (efC (A++x.lateF.2.1)++efC x.come.2) (efC x.lateF.2.1) (efC x.come.2) h g1 g2 g3 g4 g5) ⟨S3,G,S3,off0,L1,leT hle,R1,rfl,st1,stat29,AG _ (get_set_eq (get_new _ _)),AG _ (get_set_eq (get_new _ _)),AG _ bx2,LB _ (get_set_eq (get_new _ _)),R2,R3,ap1,LB _ bx3',R4,ap2,R5,trivial⟩
       have dn:((g4.set g3.length .dead)++[AObj.cells (efC (A++x.lateF.2.1)++efC x.come.2) true])[g4.length]?=some (.cells (efC ((A++x.lateF.2.1)++x.come.2)) true):=by rw [efC_app (A++x.lateF.2.1)];exact get_new' _ (by simp)
       have el2:((A++x.lateF.2.1)++x.come.2).length=k1+1+(k2+1):=by rw [List.length_append,hk2,el1]
       have g4l:lo≤g4.length:=Nat.le_trans hlo K34.1
       refine up (g4:=g4) a5 (K34.trans ((Kp.mono fun _ _ e=>.inr e).trans (K5.mono fun _ _ e=>.inl e))) (v4:=.slice (some ⟨g4.length,0,none⟩) ((A++x.lateF.2.1)++x.come.2).length 5) (.inr ⟨by rw [el2];omega,by rw [efC_len],g4.length,rfl,K5.2 _ _ dn fun e=>by have:=hfp _ e;omega,g4l⟩) ?_ q2
       rw [el2];exact .trans (.add (.add (.add (.nil _) rfl) rfl) rfl) q1
     ·have K3':Keep (fun q=>lo≤q) g3 g3:=Keep.refl _ _
      have bx3':=bx3
      have e0:x.lateF.2.1=[]:=List.length_eq_zero_iff.1 m1
      obtain ⟨ev,g4,R4,a4,K4,s4⟩:=fin K3' bx3'
      rw [← eml] at R3
      have K34:Keep (fun q=>fpG ρ γ q∨lo≤q) h g4:=K13.trans ((K3'.mono fun _ _ e=>.inr e).trans (K4.mono fun _ _ e=>.inl e))
      have eA:A++x.lateF.2.1=A:=by rw [e0,List.append_nil]
      have d4:g4[oo]?=some (.cells (efC (A++x.lateF.2.1)) true):=by rw [eA];exact K4.2 _ _ o4 fun e=>by have:=hfp _ e;omega
      have dlo:=o5
      have el1:(A++x.lateF.2.1).length=A.length:=by rw [List.length_append,e0];rfl
      rcases s4 with ⟨v1,v2,rfl⟩ | ⟨v1,v2,vv,rfl,v4,v5⟩
      ·have c0:x.come.2=[]:=List.length_eq_zero_iff.1 v1
       obtain ⟨g5,R5,a5,K5⟩:=ov a4
       obtain ⟨E1,q1,q2⟩:=pvC 0 hE (c13p.xl_100 γ.g d x.du.length g1.length oo A.length 0 0 0 0 0 0 0 0 p.1 now aa s x.lateF.2.2 undef [] [] [] [] h g1 g2 g3 g4 g5) ⟨S3,G,S3,off0,L1,leT hle,R1,rfl,st1,stat29,AG _ (get_set_eq (get_new _ _)),AG _ (get_set_eq (get_new _ _)),AG _ bx2,LB _ (get_set_eq (get_new _ _)),R2,R3,LB _ bx3',R4,R5,trivial⟩
       have Kf:=K34.trans (K5.mono fun _ _ e=>.inl e)
       refine up (g4:=g4) a5 Kf (v4:=.slice (some ⟨oo,0,none⟩) ((A++x.lateF.2.1)++x.come.2).length 5) (.inr ⟨?_,by rw [efC_len],oo,rfl,?_,dlo⟩) ?_ q2
       ·rw [c0,List.append_nil,el1];omega
       ·rw [c0,List.append_nil];exact K5.2 _ _ d4 fun e=>by have:=hfp _ e;omega
       ·rw [c0,List.append_nil,el1];exact .trans (.add (.add (.add (.nil _) rfl) rfl) rfl) q1
      ·obtain ⟨k2,hk2⟩:∃ k,x.come.2.length=k+1:=⟨x.come.2.length-1,by omega⟩
       rw [hk2] at R4
       have hvv:=get_lt v4
       have Kp:Keep (fun q=>lo≤q) g4 ((g4.set oo .dead)++[AObj.cells (efC (A++x.lateF.2.1)++efC x.come.2) true]):=(Keep.set (fp:=fun q=>lo≤q) dlo _).trans (Keep.push _ _ _)
       have a4':=a4.keep Kp fun q e f=>by have:=hfp q f;omega
       obtain ⟨g5,R5,a5,K5⟩:=ov a4'
       have ap2:(Asm.app (.is g4) oo 0 (A.length) vv 0 (k2+1) k2 5 48 (efC (A++x.lateF.2.1)++efC x.come.2) (efC x.come.2) g4.length).holds Try.prog:=a_appSJ (junk:=[]) (junk2:=[]) (by rw [List.append_nil];exact d4) (by rw [efC_len,el1]) (by rw [List.append_nil];exact v4) (by rw [efC_len,hk2]) (efC_one _) (by omega) (by omega) (by omega) rfl
       obtain ⟨E1,q1,q2⟩:=pvC 0 hE (c13p.xl_101 γ.g d x.du.length g1.length oo A.length 0 0 vv (k2+1) 0 k2 0 g4.length p.1 now aa s x.lateF.2.2 undef [] (efC (A++x.lateF.2.1)++efC x.come.2) [] (efC x.come.2) h g1 g2 g3 g4 g5) ⟨S3,G,S3,off0,L1,leT hle,R1,rfl,st1,stat29,AG _ (get_set_eq (get_new _ _)),AG _ (get_set_eq (get_new _ _)),AG _ bx2,LB _ (get_set_eq (get_new _ _)),R2,R3,LB _ bx3',R4,ap2,R5,trivial⟩
       have dn:((g4.set oo .dead)++[AObj.cells (efC (A++x.lateF.2.1)++efC x.come.2) true])[g4.length]?=some (.cells (efC ((A++x.lateF.2.1)++x.come.2)) true):=by rw [efC_app (A++x.lateF.2.1)];exact get_new' _ (by simp)
       have el2:((A++x.lateF.2.1)++x.come.2).length=A.length+(k2+1):=by rw [List.length_append,hk2,el1]
       have g4l:lo≤g4.length:=Nat.le_trans hlo K34.1
       refine up (g4:=g4) a5 (K34.trans ((Kp.mono fun _ _ e=>.inr e).trans (K5.mono fun _ _ e=>.inl e))) (v4:=.slice (some ⟨g4.length,0,none⟩) ((A++x.lateF.2.1)++x.come.2).length 5) (.inr ⟨by rw [el2];omega,by rw [efC_len],g4.length,rfl,K5.2 _ _ dn fun e=>by have:=hfp _ e;omega,g4l⟩) ?_ q2
       rw [el2];exact .trans (.add (.add (.add (.nil _) rfl) rfl) rfl) q1
     ·obtain ⟨k1,hk1⟩:∃ k,x.lateF.2.1.length=k+1:=⟨x.lateF.2.1.length-1,by omega⟩
      have K3':Keep (fun q=>lo≤q) g3 ((g3.set oo .dead)++[AObj.cells (efC A++efC x.lateF.2.1) true]):=(Keep.set (fp:=fun q=>lo≤q) o5 _).trans (Keep.push _ _ _)
      have hne:oo≠g1.length:=fun f=>by rw [f,bx3] at o4;exact absurd (congrArg (fun q=>(Option.map (fun o=>match o with | AObj.cells l _=>l.length | _=>0) q)) o4) (by simp [efC_len];omega)
      have bx3':((g3.set oo .dead)++[AObj.cells (efC A++efC x.lateF.2.1) true])[g1.length]?=_:=get_push (get_set_ne bx3 hne)
      have d1:((g3.set oo .dead)++[AObj.cells (efC A++efC x.lateF.2.1) true])[g3.length]?=some (.cells (efC (A++x.lateF.2.1)) true):=by rw [efC_app];exact get_new' _ (by simp)
      have ap1:(Asm.app (.is g3) oo 0 A.length mm 0 (k1+1) k1 5 48 (efC A++efC x.lateF.2.1) (efC x.lateF.2.1) g3.length).holds Try.prog:=a_appSJ (junk:=[]) (junk2:=[]) (by rw [List.append_nil];exact o4) (by rw [efC_len]) (by rw [List.append_nil];exact m4) (by rw [efC_len,hk1]) (efC_one _) (by omega) (by omega) (by omega) rfl
      obtain ⟨ev,g4,R4,a4,K4,s4⟩:=fin K3' bx3'
      rw [← eml,hk1] at R3
      have K34:Keep (fun q=>fpG ρ γ q∨lo≤q) h g4:=K13.trans ((K3'.mono fun _ _ e=>.inr e).trans (K4.mono fun _ _ e=>.inl e))
      have d4:=K4.2 _ _ d1 fun e=>by have:=hfp _ e;omega
      have dlo:lo≤g3.length:=by omega
      have el1:(A++x.lateF.2.1).length=A.length+(k1+1):=by rw [List.length_append,hk1]
      rcases s4 with ⟨v1,v2,rfl⟩ | ⟨v1,v2,vv,rfl,v4,v5⟩
      ·have c0:x.come.2=[]:=List.length_eq_zero_iff.1 v1
       obtain ⟨g5,R5,a5,K5⟩:=ov a4
       obtain ⟨E1,q1,q2⟩:=pvC 0 hE (c13p.xl_110 γ.g d x.du.length g1.length oo A.length mm (k1+1) 0 0 k1 0 g3.length 0 p.1 now aa s x.lateF.2.2 undef (efC A++efC x.lateF.2.1) [] (efC x.lateF.2.1) [] h g1 g2 g3 g4 g5) ⟨S3,G,S3,off0,L1,leT hle,R1,rfl,st1,stat29,AG _ (get_set_eq (get_new _ _)),AG _ (get_set_eq (get_new _ _)),AG _ bx2,LB _ (get_set_eq (get_new _ _)),R2,R3,ap1,LB _ bx3',R4,R5,trivial⟩
       have Kf:=K34.trans (K5.mono fun _ _ e=>.inl e)
       refine up (g4:=g4) a5 Kf (v4:=.slice (some ⟨g3.length,0,none⟩) ((A++x.lateF.2.1)++x.come.2).length 5) (.inr ⟨?_,by rw [efC_len],g3.length,rfl,?_,dlo⟩) ?_ q2
       ·rw [c0,List.append_nil,el1];omega
       ·rw [c0,List.append_nil];exact K5.2 _ _ d4 fun e=>by have:=hfp _ e;omega
       ·rw [c0,List.append_nil,el1];exact .trans (.add (.add (.add (.nil _) rfl) rfl) rfl) q1
      ·obtain ⟨k2,hk2⟩:∃ k,x.come.2.length=k+1:=⟨x.come.2.length-1,by omega⟩
       rw [hk2] at R4
       have hvv:=get_lt v4
       have Kp:Keep (fun q=>lo≤q) g4 ((g4.set g3.length .dead)++[AObj.cells (efC (A++x.lateF.2.1)++efC x.come.2) true]):=(Keep.set (fp:=fun q=>lo≤q) dlo _).trans (Keep.push _ _ _)
       have a4':=a4.keep Kp fun q e f=>by have:=hfp q f;omega
       obtain ⟨g5,R5,a5,K5⟩:=ov a4'
       have ap2:(Asm.app (.is g4) g3.length 0 (A.length+(k1+1)) vv 0 (k2+1) k2 5 48 (efC (A++x.lateF.2.1)++efC x.come.2) (efC x.come.2) g4.length).holds Try.prog:=a_appSJ (junk:=[]) (junk2:=[]) (by rw [List.append_nil];exact d4) (by rw [efC_len,el1]) (by rw [List.append_nil];exact v4) (by rw [efC_len,hk2]) (efC_one _) (by omega) (by omega) (by omega) rfl
       obtain ⟨E1,q1,q2⟩:=pvC 0 hE (c13p.xl_111 γ.g d x.du.length g1.length oo A.length mm (k1+1) vv (k2+1) k1 k2 g3.length g4.length p.1 now aa s x.lateF.2.2 undef (efC A++efC x.lateF.2.1) (efC (A++x.lateF.2.1)++efC x.come.2) (efC x.lateF.2.1) (efC x.come.2) h g1 g2 g3 g4 g5) ⟨S3,G,S3,off0,L1,leT hle,R1,rfl,st1,stat29,AG _ (get_set_eq (get_new _ _)),AG _ (get_set_eq (get_new _ _)),AG _ bx2,LB _ (get_set_eq (get_new _ _)),R2,R3,ap1,LB _ bx3',R4,ap2,R5,trivial⟩
       have dn:((g4.set g3.length .dead)++[AObj.cells (efC (A++x.lateF.2.1)++efC x.come.2) true])[g4.length]?=some (.cells (efC ((A++x.lateF.2.1)++x.come.2)) true):=by rw [efC_app (A++x.lateF.2.1)];exact get_new' _ (by simp)
       have el2:((A++x.lateF.2.1)++x.come.2).length=A.length+(k1+1)+(k2+1):=by rw [List.length_append,hk2,el1]
       have g4l:lo≤g4.length:=Nat.le_trans hlo K34.1
       refine up (g4:=g4) a5 (K34.trans ((Kp.mono fun _ _ e=>.inr e).trans (K5.mono fun _ _ e=>.inl e))) (v4:=.slice (some ⟨g4.length,0,none⟩) ((A++x.lateF.2.1)++x.come.2).length 5) (.inr ⟨by rw [el2];omega,by rw [efC_len],g4.length,rfl,K5.2 _ _ dn fun e=>by have:=hfp _ e;omega,g4l⟩) ?_ q2
       rw [el2];exact .trans (.add (.add (.add (.nil _) rfl) rfl) rfl) q1
    ·have e:expF (f+1) x now=(x,[]):=by simp only [expF,hx,if_neg hle]
     obtain ⟨E1,q1,q2⟩:=pvC 0 hE (c13p.xl_late γ.g d x.du.length 0 0 0 0 0 0 0 0 0 0 0 p.1 now 0 0 0 v [] [] [] [] h h h h h h) ⟨S3,G,S3,off0,L1,leF (by omega),trivial⟩
     rw [e,List.append_nil]
     exact ⟨E1,h,v,Keep.refl _ _,a,sv,.trans (.add (.nil _) rfl) q1,.last q2 (by simp)⟩
termination_by f=>f
theorem plain29:plainC (loopN Try.f29 0)=true:=by kernel_rfl
theorem expire_run (a:GAt h ρ γ x) (ok:TOk c x.t) (W:WI none x.t) (J:WJ x.t) (hc:c+x.du.length≤998) (now:Int) :
  ∃ v g,Run Try.prog 29 [ptr γ.g,.int .i64 now] h (.tuple #[v,.int .i64 0]) g∧GAt g ρ γ (x.expire now).1∧GStep ρ γ h ρ γ g∧SlV g h.length v (x.expire now).2.length 5 (efC (x.expire now).2):=by
 obtain ⟨g1,R1,a1,S1⟩:=over_run a ok (by omega) (by omega)
 have hdl:=over_du_len x
 obtain ⟨E1,g2,w,K,a2,sv,e1,l1⟩:=exp_loop (ρ:=ρ) (γ:=γ) (now:=now) (lo:=g1.length) x.over.du.length c x.over [] (.slice none 0 0) g1 [(6,.slice none 0 0),(0,ptr γ.g),(1,.int .i64 now)] a1 ok W J (Nat.le_refl _) (by omega) (by simp;omega) (fun q e=>a1.lt e) (Nat.le_refl _) (.inl ⟨rfl,rfl,rfl⟩) (EnvLe.refl _)
 rw [List.nil_append] at sv
 exact ⟨w,g2,pvF 0 Try.func29 (c13p.ex γ.g now w h g1 g2) ⟨R1,a_loop plain29 (.add (.add (.add (.nil _) rfl) rfl) rfl) e1 l1,trivial⟩,a2,S1.trans ⟨K.mono fun q hq e=>e.elim id fun e=>by omega,fun q e=>.inl e,rfl⟩,sv.mono S1.keep.1⟩
end
end Go.Proofs.Ytlonjogfeidgfaa.gr
namespace Go.Proofs.Ytlonjogfeidgfaa.gr
open Go Go.Ev Go.Proofs.Ytlonjogfeidgfaa.tr
set_option maxRecDepth 100000
set_option linter.unusedVariables false
set_option linter.constructorNameAsVariable false
theorem awake_run (h:Hp):Run Try.prog 11 [] h (.bool true) h:=Run.of_ev (k:=60) (by kernel_rfl)
def GOk (k:Nat) (x:GS):Prop:=∃ c,TOk c x.t∧WI none x.t∧WJ x.t∧c+x.du.length≤k
section
variable {x:GS} {k:Nat}
theorem GOk.mono {k':Nat} (o:GOk k x) (h:k≤k'):GOk k' x:=let ⟨c,a,b,d,e⟩:=o;⟨c,a,b,d,Nat.le_trans e h⟩
theorem GOk.open (o:GOk k x) (n:Int) (su:Bool) (u:Int):GOk (k+2) (x.open n su u):=by
 obtain ⟨c,a,b,d,e⟩:=o
 unfold GS.open;split
 ·exact ⟨c+1,a.open,b.open a n su,d.open a n su,by simp only [upF_len,List.length_append,List.length_cons,List.length_nil];omega⟩
 ·exact ⟨c+1,a.open,b.open a n su,d.open a n su,by show c+1+x.du.length≤k+2;omega⟩
theorem GOk.spawn (o:GOk k x) (n:Int):GOk (k+2) { x with t:=(x.t.spawn n).1 }:=by
 obtain ⟨c,a,b,d,e⟩:=o
 exact ⟨c+1,a.spawn,b.spawn a n,d.spawn a n,by show c+1+x.du.length≤k+2;omega⟩
theorem GOk.shield (o:GOk k x) (n:Int):GOk (k+2) { x with t:=(x.t.shield n).1 }:=by
 obtain ⟨c,a,b,d,e⟩:=o
 exact ⟨c+1,a.shield,b.shield n,d.shield a n,by show c+1+x.du.length≤k+2;omega⟩
theorem GOk.unveil (o:GOk k x) (n:Int):GOk (k+2) { x with t:=(x.t.unveil n).1 }:=by
 obtain ⟨c,a,b,d,e⟩:=o
 exact ⟨c+1,a.unveil,b.unveil n,d.unveil a n,by show c+1+x.du.length≤k+2;omega⟩
theorem GOk.root (o:GOk k x):GOk (k+2) { x with t:=x.t.root.1 }:=by
 obtain ⟨c,a,b,d,e⟩:=o
 exact ⟨c+1,a.root,b.root a,d.root a,by show c+1+x.du.length≤k+2;omega⟩
theorem GOk.end (o:GOk k x) (n fk:Int) (ft:ByteArray):GOk (k+2) (x.end n fk ft).1:=by
 obtain ⟨c,a,b,d,e⟩:=o
 have ht:(x.end n fk ft).1.t=(x.t.end n fk ft).1:=after_t _ _
 have hd:(x.end n fk ft).1.du=x.du:=turned_du _ _
 exact ⟨c+1,ht▸a.end,ht▸b.end a n fk ft,ht▸d.end a n fk ft,by rw [hd];omega⟩
theorem GOk.leave (o:GOk k x) (n fk:Int) (ft:ByteArray):GOk (k+2) (x.leave n fk ft).1:=by
 obtain ⟨c,a,b,d,e⟩:=o
 have ht:(x.leave n fk ft).1.t=(x.t.leave n fk ft).1:=after_t _ _
 have hd:(x.leave n fk ft).1.du=x.du:=turned_du _ _
 exact ⟨c+1,ht▸a.leave,ht▸b.leave a n fk ft,ht▸d.leave a n fk ft,by rw [hd];omega⟩
theorem GOk.fail1 (o:GOk k x) (n fk:Int) (ft:ByteArray):GOk (k+1) (x.fail n fk ft).1:=by
 obtain ⟨c,a,b,d,e⟩:=o
 have ht:(x.fail n fk ft).1.t=(x.t.fail n fk ft).1:=after_t _ _
 have hd:(x.fail n fk ft).1.du=x.du:=turned_du _ _
 exact ⟨c+1,ht▸a.fail,ht▸b.fail n fk ft,ht▸d.fail a n fk ft,by rw [hd];omega⟩
theorem GOk.fail (o:GOk k x) (n fk:Int) (ft:ByteArray):GOk (k+2) (x.fail n fk ft).1:=(o.fail1 n fk ft).mono (by omega)
theorem GOk.strike (o:GOk k x) (b:Bool) (n:Int) (l:List Int):GOk k (x.strike b n l).1:=by
 obtain ⟨c,a,w,d,e⟩:=o
 exact ⟨c,(strike_t x b n l)▸a,(strike_t x b n l)▸w,(strike_t x b n l)▸d,by rw [strike_du];exact e⟩
theorem GOk.strikeT (o:GOk k x) (n:Int):GOk (k+2) (x.strikeT n).1:=by
 unfold GS.strikeT;split
 ·exact o.mono (by omega)
 ·exact (o.strike _ _ _).mono (by omega)
theorem GOk.over (o:GOk k x):GOk k x.over:=by
 obtain ⟨c,a,w,d,e⟩:=o
 exact ⟨c,a,w,d,Nat.le_trans (Nat.add_le_add_left (over_du_len x) c) e⟩
theorem GOk.come (o:GOk k x) (h:x.du≠[]):GOk k x.come.1:=by
 obtain ⟨c,a,b,d,e⟩:=o
 have hl:x.du.length≠0:=fun f=>h (List.length_eq_zero_iff.1 f)
 exact ⟨c+1,(come_t x)▸a.fail,(come_t x)▸b.fail _ _ _,(come_t x)▸d.fail a _ _ _,by rw [come_du,popped_len];omega⟩
theorem GOk.expF:∀ (f:Nat) {x:GS} (now:Int),GOk k x→GOk k (expF f x now).1
 | 0,x,now,o=>o
 | f+1,x,now,o=>by
  unfold gr.expF;split
  ·exact o
  ·rename_i p r e
   split
   ·exact GOk.expF f now (o.come (by rw [e];simp)).over
   ·exact o
theorem GOk.expire (o:GOk k x) (now:Int):GOk k (x.expire now).1:=o.over.expF _ now
theorem GOk.roots {n:Nat} (h:n≤64):GOk n (GS.roots n):=⟨n,roots_ok n h,WI.roots n,WJ.roots n,Nat.le_refl _⟩
end
structure OpV where
 k:Int
 n:Int
 m:Int
 y:Bool
 fk:Int
 ft:ByteArray
def OpV.cells (o:OpV):List Value:=[.int .i64 o.k,.int .i64 o.n,.int .i64 o.m,.bool o.y,.int .i64 o.fk,.string o.ft]
def opC:List OpV→List Value
 | []=>[]
 | o::l=>o.cells++opC l
theorem opC_len:∀ l:List OpV,(opC l).length=l.length*6
 | []=>rfl
 | o::l=>by simp [opC,OpV.cells,opC_len l];omega
theorem opC_at:∀ {l:List OpV} {k:Nat} {o:OpV},l[k]?=some o→((opC l).drop (k*6)).take 6=o.cells
 | [],k,o,h=>by simp at h
 | x::l,0,o,h=>by
  simp at h;subst h
  simp [opC,OpV.cells]
 | x::l,k+1,o,h=>by
  have:=opC_at (l:=l) (k:=k) (o:=o) (by simpa using h)
  rw [opC,List.drop_append,List.drop_of_length_le (by simp [OpV.cells];omega),show (k+1)*6-x.cells.length=k*6 by simp [OpV.cells];omega,List.nil_append]
  exact this
def GS.run (x:GS) (o:OpV):GS×List Ef×Bool :=
 if o.k=0 then (x.open o.n o.y o.m,[],decide ((x.t.open o.n o.y).2.2=0)) else
 if o.k=1 then ({ x with t:=(x.t.spawn o.n).1 },[],decide ((x.t.spawn o.n).2.2=0)) else
 if o.k=2 then ((x.end o.n o.fk o.ft).1,(x.end o.n o.fk o.ft).2.1,decide ((x.end o.n o.fk o.ft).2.2=0)) else
 if o.k=3 then ((x.leave o.n o.fk o.ft).1,(x.leave o.n o.fk o.ft).2.1,decide ((x.leave o.n o.fk o.ft).2.2=0)) else
 if o.k=4 then ({ x with t:=(x.t.shield o.n).1 },[],decide ((x.t.shield o.n).2=0)) else
 if o.k=5 then ({ x with t:=(x.t.unveil o.n).1 },[],decide ((x.t.unveil o.n).2=0)) else
 if o.k=6 then ((x.fail o.n o.fk o.ft).1,(x.fail o.n o.fk o.ft).2.1,decide ((x.fail o.n o.fk o.ft).2.2=0)) else
 if o.k=7 then ({ x with t:=x.t.root.1 },[],decide (x.t.root.2.2=0)) else
 if o.k=8 then ((x.strikeT o.n).1,(x.strikeT o.n).2.1,decide ((x.strikeT o.n).2.2=0)) else
 if o.k=9 then ((x.expire o.n).1,(x.expire o.n).2,true) else (x,[],true)
theorem GOk.run {k:Nat} {x:GS} (ok:GOk k x) (o:OpV):GOk (k+2) (x.run o).1:=by
 unfold GS.run
 repeat' split
 ·exact ok.open _ _ _
 ·exact ok.spawn _
 ·exact ok.end _ _ _
 ·exact ok.leave _ _ _
 ·exact ok.shield _
 ·exact ok.unveil _
 ·exact ok.fail _ _ _
 ·exact ok.root
 ·exact ok.strikeT _
 ·exact (ok.expire _).mono (by omega)
 ·exact ok.mono (by omega)
section
variable {h:Hp} {ρ:Lay} {γ:GL} {x:GS} {k:Nat}
theorem run_run (a:GAt h ρ γ x) (ok:GOk k x) (hc:k≤900) (o:OpV) :
  ∃ v ρ' γ' h',Run Try.prog 13 [ptr γ.g,.agg o.cells.toArray] h (.tuple #[v,.bool (x.run o).2.2]) h'∧GAt h' ρ' γ' (x.run o).1∧GStep ρ γ h ρ' γ' h'∧SlV h' h.length v (x.run o).2.1.length 5 (efC (x.run o).2.1):=by
 obtain ⟨c,ok,W,J,hk⟩:=ok
 obtain ⟨k,n,m,y,fk,ft⟩:=o
 have K1:Grow h (h++[AObj.cells (OpV.cells ⟨k,n,m,y,fk,ft⟩) true]):=Keep.push _ _ _
 have a1:=a.grow K1
 have s1:GStep ρ γ h ρ γ (h++[AObj.cells (OpV.cells ⟨k,n,m,y,fk,ft⟩) true]):=.grow K1
 have gb:(h++[AObj.cells (OpV.cells ⟨k,n,m,y,fk,ft⟩) true])[h.length]?=some (.cells (OpV.cells ⟨k,n,m,y,fk,ft⟩) true):=get_new _ _
 have L0:(Asm.ld1 (.push (.is h) (.cells (OpV.cells ⟨k,n,m,y,fk,ft⟩) true)) h.length 0 (.int .i64 k)).holds Try.prog:=a_ld1 gb rfl
 have L1:(Asm.ld1 (.push (.is h) (.cells (OpV.cells ⟨k,n,m,y,fk,ft⟩) true)) h.length 1 (.int .i64 n)).holds Try.prog:=a_ld1 gb rfl
 have L2:(Asm.ld1 (.push (.is h) (.cells (OpV.cells ⟨k,n,m,y,fk,ft⟩) true)) h.length 2 (.int .i64 m)).holds Try.prog:=a_ld1 gb rfl
 have L3:(Asm.ld1 (.push (.is h) (.cells (OpV.cells ⟨k,n,m,y,fk,ft⟩) true)) h.length 3 (.bool y)).holds Try.prog:=a_ld1 gb rfl
 have L4:(Asm.ldn (.push (.is h) (.cells (OpV.cells ⟨k,n,m,y,fk,ft⟩) true)) h.length 4 2 [.int .i64 fk,.string ft]).holds Try.prog:=a_ldn gb (by simp [OpV.cells]) rfl
 have nil:∀ h',SlV h' h.length (.slice none 0 0) ([]:List Ef).length 5 (efC []):=fun _=>.inl ⟨rfl,rfl,rfl⟩
 by_cases c0:k=0
 ·obtain ⟨ρ',γ',h',r1,r2,r3⟩:=openG_run a1 ok (by omega) (by omega) n y m
  rw [show x.run ⟨k,n,m,y,fk,ft⟩=(x.open n y m,[],decide ((x.t.open n y).2.2=0)) by simp [GS.run,c0]]
  exact ⟨_,ρ',γ',h',by subst c0;exact pvF 0 Try.func13 (c16p.rn_0 γ.g h.length 0 n m fk _ _ y _ ft undef h h') ⟨rfl,L0,eqT rfl,L1,L3,L2,r1,eqD,trivial⟩,r2,s1.trans r3,nil _⟩
 by_cases c1:k=1
 ·obtain ⟨ρ',h',r1,r2,r3⟩:=spawnG_run a1 ok (by omega) n
  rw [show x.run ⟨k,n,m,y,fk,ft⟩=({ x with t:=(x.t.spawn n).1 },[],decide ((x.t.spawn n).2.2=0)) by simp [GS.run,c1]]
  exact ⟨_,ρ',γ,h',pvF 0 Try.func13 (c16p.rn_1 γ.g h.length k n m fk _ _ y _ ft undef h h') ⟨rfl,L0,eqF c0,eqT c1,L1,r1,eqD,trivial⟩,r2,s1.trans r3,nil _⟩
 by_cases c2:k=2
 ·obtain ⟨v,h',r1,r2,r3,r4⟩:=endG_run a1 ok (by omega) W J n fk ft
  rw [show x.run ⟨k,n,m,y,fk,ft⟩=((x.end n fk ft).1,(x.end n fk ft).2.1,decide ((x.end n fk ft).2.2=0)) by simp [GS.run,c2]]
  exact ⟨_,ρ,γ,h',pvF 0 Try.func13 (c16p.rn_2 γ.g h.length k n m fk 0 _ y _ ft v h h') ⟨rfl,L0,eqF c0,eqF c1,eqT c2,L1,L4,r1,eqD,trivial⟩,r2,s1.trans r3,r4.mono K1.1⟩
 by_cases c3:k=3
 ·obtain ⟨v,h',r1,r2,r3,r4⟩:=leaveG_run a1 ok (by omega) W J n fk ft
  rw [show x.run ⟨k,n,m,y,fk,ft⟩=((x.leave n fk ft).1,(x.leave n fk ft).2.1,decide ((x.leave n fk ft).2.2=0)) by simp [GS.run,c3]]
  exact ⟨_,ρ,γ,h',pvF 0 Try.func13 (c16p.rn_3 γ.g h.length k n m fk 0 _ y _ ft v h h') ⟨rfl,L0,eqF c0,eqF c1,eqF c2,eqT c3,L1,L4,r1,eqD,trivial⟩,r2,s1.trans r3,r4.mono K1.1⟩
 by_cases c4:k=4
 ·obtain ⟨ρ',h',r1,r2,r3⟩:=shieldG_run a1 ok (by omega) n
  rw [show x.run ⟨k,n,m,y,fk,ft⟩=({ x with t:=(x.t.shield n).1 },[],decide ((x.t.shield n).2=0)) by simp [GS.run,c4]]
  exact ⟨_,ρ',γ,h',pvF 0 Try.func13 (c16p.rn_4 γ.g h.length k n m fk 0 _ y _ ft undef h h') ⟨rfl,L0,eqF c0,eqF c1,eqF c2,eqF c3,eqT c4,L1,r1,eqD,trivial⟩,r2,s1.trans r3,nil _⟩
 by_cases c5:k=5
 ·obtain ⟨ρ',h',r1,r2,r3⟩:=unveilG_run a1 ok (by omega) n
  rw [show x.run ⟨k,n,m,y,fk,ft⟩=({ x with t:=(x.t.unveil n).1 },[],decide ((x.t.unveil n).2=0)) by simp [GS.run,c5]]
  exact ⟨_,ρ',γ,h',pvF 0 Try.func13 (c16p.rn_5 γ.g h.length k n m fk 0 _ y _ ft undef h h') ⟨rfl,L0,eqF c0,eqF c1,eqF c2,eqF c3,eqF c4,eqT c5,L1,r1,eqD,trivial⟩,r2,s1.trans r3,nil _⟩
 by_cases c6:k=6
 ·obtain ⟨v,h',r1,r2,r3,r4⟩:=failG_run a1 ok (by omega) W J n fk ft
  rw [show x.run ⟨k,n,m,y,fk,ft⟩=((x.fail n fk ft).1,(x.fail n fk ft).2.1,decide ((x.fail n fk ft).2.2=0)) by simp [GS.run,c6]]
  exact ⟨_,ρ,γ,h',pvF 0 Try.func13 (c16p.rn_6 γ.g h.length k n m fk 0 _ y _ ft v h h') ⟨rfl,L0,eqF c0,eqF c1,eqF c2,eqF c3,eqF c4,eqF c5,eqT c6,L1,L4,r1,eqD,trivial⟩,r2,s1.trans r3,r4.mono K1.1⟩
 by_cases c7:k=7
 ·obtain ⟨ρ',h',r1,r2,r3⟩:=rootG_run a1 ok (by omega)
  rw [show x.run ⟨k,n,m,y,fk,ft⟩=({ x with t:=x.t.root.1 },[],decide (x.t.root.2.2=0)) by simp [GS.run,c7]]
  exact ⟨_,ρ',γ,h',pvF 0 Try.func13 (c16p.rn_7 γ.g h.length k n m fk _ _ y _ ft undef h h') ⟨rfl,L0,eqF c0,eqF c1,eqF c2,eqF c3,eqF c4,eqF c5,eqF c6,eqT c7,r1,eqD,trivial⟩,r2,s1.trans r3,nil _⟩
 by_cases c8:k=8
 ·obtain ⟨v,h',r1,r2,r3,r4⟩:=strikeT_run a1 ok (by omega) W J n
  rw [show x.run ⟨k,n,m,y,fk,ft⟩=((x.strikeT n).1,(x.strikeT n).2.1,decide ((x.strikeT n).2.2=0)) by simp [GS.run,c8]]
  exact ⟨_,ρ,γ,h',pvF 0 Try.func13 (c16p.rn_8 γ.g h.length k n m fk 0 _ y _ ft v h h') ⟨rfl,L0,eqF c0,eqF c1,eqF c2,eqF c3,eqF c4,eqF c5,eqF c6,eqF c7,eqT c8,L1,r1,eqD,trivial⟩,r2,s1.trans r3,r4.mono K1.1⟩
 by_cases c9:k=9
 ·obtain ⟨v,h',r1,r2,r3,r4⟩:=expire_run a1 ok W J (by omega) n
  rw [show x.run ⟨k,n,m,y,fk,ft⟩=((x.expire n).1,(x.expire n).2,true) by simp [GS.run,c9]]
  exact ⟨_,ρ,γ,h',pvF 0 Try.func13 (c16p.rn_9 γ.g h.length k n m fk 0 0 y true ft v h h') ⟨rfl,L0,eqF c0,eqF c1,eqF c2,eqF c3,eqF c4,eqF c5,eqF c6,eqF c7,eqF c8,eqT c9,L1,r1,eqT rfl,trivial⟩,r2,s1.trans r3,r4.mono K1.1⟩
 ·rw [show x.run ⟨k,n,m,y,fk,ft⟩=(x,[],true) by simp [GS.run,c0,c1,c2,c3,c4,c5,c6,c7,c8,c9]]
  exact ⟨_,ρ,γ,_,pvF 0 Try.func13 (c16p.rn_d γ.g h.length k n m fk 0 0 y true ft undef h h) ⟨rfl,L0,eqF c0,eqF c1,eqF c2,eqF c3,eqF c4,eqF c5,eqF c6,eqF c7,eqF c8,eqF c9,eqT rfl,trivial⟩,a1,s1,nil _⟩
end
def GS.runL (x:GS) (l:List OpV):GS:=l.foldl (fun x o=>(x.run o).1) x
theorem runL_app (x:GS) (l m:List OpV):x.runL (l++m)=(x.runL l).runL m:=List.foldl_append
theorem GOk.runL {k:Nat}:∀ {l:List OpV} {x:GS},GOk k x→GOk (k+2*l.length) (x.runL l):=by
 intro l
 induction l generalizing k with
 | nil=>intro x ok;exact ok
 | cons o l ih =>
  intro x ok
  have:=ih (ok.run o)
  rw [List.length_cons,show k+2*(l.length+1)=k+2+2*l.length by omega]
  exact this
def OpsAt (h:Hp) (v:Value) (l:List OpV):Prop:=(l=[]∧v=.slice none 0 0)∨∃ o rw,v=.slice (some ⟨o,0,none⟩) l.length 6∧h[o]?=some (.cells (opC l) rw)
structure GMade (h g:Hp) (ρ:Lay) (γ:GL) (b:Nat):Prop where
 keep:Grow h g
 g:γ.g=b
 new:∀ q,fpG ρ γ q→h.length≤q
section
variable {h0 h g g':Hp} {ρ ρ':Lay} {γ γ':GL} {b:Nat}
theorem GMade.step (m:GMade h g ρ γ b) (s:GStep ρ γ g ρ' γ' g'):GMade h g' ρ' γ' b :=
 ⟨m.keep.trans_new s.keep fun q hq e=>by have:=m.new q e;omega,s.g.trans m.g,fun q e=>(s.new q e).elim (m.new q) fun e=>Nat.le_trans m.keep.1 e⟩
theorem GMade.grow (m:GMade h g ρ γ b) (K:Grow g g'):GMade h g' ρ γ b:=m.step (GStep.grow K)
theorem GMade.get (m:GMade h g ρ γ b) {q:Nat} {o:AObj} (hq:h[q]?=some o):g[q]?=some o:=m.keep.2 q o hq id
end
theorem made_loop {h:Hp} {b o n p:Nat} {rw:Bool} {l:List OpV} (hn:n≤64) (hp:p≤l.length) (hp2:p≤100) (ho:h[o]?=some (.cells (opC l) rw)) :
  ∀ (j i:Nat) (E:Env) (g:Hp) (ρ:Lay) (γ:GL),i+j=p→EnvLe [(22,.int .i64 (i:Int)),(21,.int .i64 (Int.ofNat p)),(20,.slice (some ⟨o,0,none⟩) p 6),(5,ptr b)] E→GAt g ρ γ ((GS.roots n).runL (l.take i))→GMade h g ρ γ b →
  ∃ E1 g' ρ' γ',EnvLe [(5,ptr b)] E1∧LRun Try.prog 31 false (loopN Try.f15 0) E g (.exit 0) E1 g'∧GAt g' ρ' γ' ((GS.roots n).runL (l.take p))∧GMade h g' ρ' γ' b:=by
 intro j
 induction j with
 | zero =>
  intro i E g ρ γ hi hE a m
  have e:i=p:=by omega
  subst e
  obtain ⟨E2,q1,q2⟩:=pvC 0 hE (c16p.ml_out b o i 0 0 i 0 0 0 0 0 false ⟨#[]⟩ (.bool true) g g) ⟨ltF (by simp),trivial⟩
  exact ⟨E2,g,ρ,γ,.trans (.add (.nil _) rfl) q1,.last q2 (by simp),a,m⟩
 | succ j ih =>
  intro i E g ρ γ hi hE a m
  obtain ⟨x,hx⟩:∃ x,l[i]?=some x:=⟨_,List.getElem?_eq_getElem (by omega)⟩
  have hog:=m.get ho
  have hat:=opC_at hx
  have hlen:=opC_len l
  have hnew:((g++[AObj.cells [.int .i64 0,.int .i64 0,.int .i64 0,.bool false,.int .i64 0,.string ⟨#[]⟩] true]).set g.length (.cells x.cells true))[g.length]?=some (.cells x.cells true):=get_set_eq (get_new _ _)
  have K:Grow g ((g++[AObj.cells [.int .i64 0,.int .i64 0,.int .i64 0,.bool false,.int .i64 0,.string ⟨#[]⟩] true]).set g.length (.cells x.cells true)):=((Keep.refl (fun _=>False) g).pushN _).setN (Nat.le_refl _) _
  have ok:GOk (n+2*(l.take i).length) ((GS.roots n).runL (l.take i)):=(GOk.roots hn).runL
  have hti:(l.take i).length≤i:=by simp;omega
  obtain ⟨v,ρ',γ',g2,r1,r2,r3,_⟩:=run_run (a.grow K) ok (by omega) x
  rw [m.g] at r1
  obtain ⟨E2,q1,q2⟩:=pvC 0 hE (c16p.ml_go b o p (i*6) g.length i ((i+1:Nat):Int) x.k x.n x.m x.fk x.y x.ft (.tuple #[v,.bool (((GS.roots n).runL (l.take i)).run x).2.2]) g g2)
   ⟨ltT (by simp;omega),offI (q:=i) rfl (by omega) (by omega),a_ldn hog (by omega) hat,rfl,a_st (get_new _ _) (by simp) rfl,a_ldn hnew (by simp [OpV.cells]) rfl,r1,addI rfl (by omega) (by omega),trivial⟩
  obtain ⟨E3,g3,ρ3,γ3,s1,s2,s3,s4⟩:=ih (i+1) E2 g2 ρ' γ' (by omega) (.trans (.add (.add (.add (.add (.nil _) rfl) rfl) rfl) rfl) q1) (by rw [take_one hx,runL_app];exact r2) ((m.grow K).step r3)
  exact ⟨E3,g3,ρ3,γ3,s1,.step q2 s2,s3,s4⟩
theorem made_run {h:Hp} {l:List OpV} {vl:Value} (n:Int) (hv:OpsAt h vl l) :
  ((n<1∨64<n)∧Run Try.prog 15 [.int .i64 n,vl] h (.pointer none) h) ∨
  (1≤n∧n≤64∧∃ b ρ γ h',Run Try.prog 15 [.int .i64 n,vl] h (ptr b) h'∧GAt h' ρ γ ((GS.roots n.toNat).runL (l.take 60))∧GMade h h' ρ γ b):=by
 by_cases hn:n<1∨64<n
 ·left
  refine ⟨hn,?_⟩
  have r1:=newG_low h hn
  rcases hv with ⟨_,rfl⟩ | ⟨o,rw,rfl,ho⟩
  ·exact pvF 0 Try.func15 (c16p.ma_err 0 0 0 0 n 2 h h h) ⟨r1,neT (by omega),trivial⟩
  ·exact pvF 0 Try.func15 (c16p.ma_errs 0 o l.length 0 n 2 h h h) ⟨r1,neT (by omega),trivial⟩
 ·right
  obtain ⟨m,hm⟩:∃ m:Nat,n=m:=⟨n.toNat,by omega⟩
  subst hm
  obtain ⟨ρ,γ,h1,r1,r2,r3,r4⟩:=newG_run h (n:=m) (by omega) (by omega)
  rw [Int.toNat_natCast]
  refine ⟨by omega,by omega,γ.g,?_⟩
  have M:GMade h h1 ρ γ γ.g:=⟨r3,rfl,r4⟩
  rcases hv with ⟨rfl,rfl⟩ | ⟨o,rw,rfl,ho⟩
  ·exact ⟨ρ,γ,h1,pvF 0 Try.func15 (c16p.ma_nil γ.g 0 0 0 m 0 h h1 h) ⟨r1,neF rfl,by simp [Asm.holds],ltF (by omega),trivial⟩,r2,M⟩
  ·obtain ⟨E1,g',ρ',γ',q1,q2,q3,q4⟩:=made_loop (b:=γ.g) (n:=m) (p:=min l.length 60) (by omega) (by omega) (by omega) ho (min l.length 60) 0 [(22,.int .i64 0),(21,.int .i64 (Int.ofNat (min l.length 60))),(20,.slice (some ⟨o,0,none⟩) (min l.length 60) 6),(5,ptr γ.g)] h1 ρ γ (by omega) (EnvLe.refl _) r2 M
   have e:l.take (min l.length 60)=l.take 60:=by
    by_cases c:l.length≤60
    ·rw [Nat.min_eq_left c,List.take_length,List.take_of_length_le c]
    ·rw [Nat.min_eq_right (by omega)]
   rw [e] at q3
   exact ⟨ρ',γ',g',pvF 0 Try.func15 (c16p.ma_some γ.g o l.length (min l.length 60) m 0 h h1 g') ⟨r1,neF rfl,.inr ⟨rfl,by simp only [Int.ofNat_eq_natCast];split<;>omega⟩,a_cut (by omega),a_loop (by kernel_rfl) (.add (.add (.add (.add (.nil _) rfl) rfl) rfl) rfl) q1 q2,trivial⟩,q3,q4⟩
end Go.Proofs.Ytlonjogfeidgfaa.gr
namespace Go.Proofs.Ytlonjogfeidgfaa.gr
open Go Go.Ev Go.Proofs.Ytlonjogfeidgfaa.tr
set_option maxRecDepth 100000
set_option linter.unusedVariables false
set_option linter.constructorNameAsVariable false
def nums (k:Nat):List Int:=(List.range k).map fun i=>((i+1:Nat):Int)
theorem nums_succ (k:Nat):nums (k+1)=nums k++[((k+1:Nat):Int)]:=by simp [nums,List.range_succ]
theorem nums_len (k:Nat):(nums k).length=k:=by simp [nums]
theorem mem_nums {k:Nat} {n:Int}:n∈nums k↔1≤n∧n≤k:=by
 rw [nums,List.mem_map]
 constructor
 ·rintro ⟨i,hi,rfl⟩;rw [List.mem_range] at hi;omega
 ·intro h;exact ⟨n.toNat-1,List.mem_range.2 (by omega),by omega⟩
def GS.pends (x:GS):List Int:=(nums 64).filter x.pend
theorem pends_le (x:GS):x.pends.length≤64:=Nat.le_trans (List.length_filter_le _ _) (by rw [nums_len];omega)
theorem filter_len {l:List Int} (f:Int→Bool):(l.filter f).length≤l.length:=List.length_filter_le _ _
section
variable {h h' g:Hp} {ρ ρ' ρ1:Lay} {γ γ' γ1:GL} {x:GS} {t':TS} {c:Nat}
theorem inL_len' (l:List Int):(inL l).length=l.length*1:=by simp [inL]
theorem pd_loop (ok:TOk c x.t) (hc:c≤1000) (W:WI none x.t) {lo:Nat} (hf:∀ q,fpG ρ γ q→q<lo):∀ (f j:Nat) (v:Value) (E:Env) (g:Hp),j+f=64→GAt g ρ γ x→lo≤g.length→SlV g lo v ((nums j).filter x.pend).length 1 (inL ((nums j).filter x.pend)) →
  EnvLe [(4,.int .i64 ((j+1:Nat):Int)),(3,v),(0,ptr γ.g)] E →
  ∃ E1 g1 w,Keep (fun q=>lo≤q) g g1∧SlV g1 lo w x.pends.length 1 (inL x.pends)∧EnvLe [(3,w)] E1∧LRun Try.prog 17 false (loopN Try.f12 0) E g (.exit 0) E1 g1
 | 0,j,v,E,g,hj,a,hlo,sv,hE=>by
  have e:j=64:=by omega
  subst e
  obtain ⟨E2,q1,q2⟩:=pvC 0 hE (c17p.pd_out γ.g 0 0 0 0 ((64+1:Nat):Int) 0 v [] g g) ⟨leF (by omega),trivial⟩
  exact ⟨E2,g,v,Keep.refl _ _,sv,.trans (.add (.nil _) rfl) q1,.last q2 (by simp)⟩
 | f+1,j,v,E,g,hj,a,hlo,sv,hE=>by
  obtain ⟨g1,R,K⟩:=pend_run a ok hc W ((j+1:Nat):Int)
  have A1:(Asm.cmp .leq ((j+1:Nat):Int) 64 true).holds Try.prog:=leT (by omega)
  have N1:(Asm.arith .add .i64 ((j+1:Nat):Int) 1 ((j+1+1:Nat):Int)).holds Try.prog:=addI (by omega) (by omega) (by omega)
  have hlo1:lo≤g1.length:=Nat.le_trans hlo K.1
  obtain ⟨A,hA⟩:∃ A,A=(nums j).filter x.pend:=⟨_,rfl⟩
  have hAl:A.length≤64:=by rw [hA];exact Nat.le_trans (filter_len _) (by rw [nums_len];omega)
  have nx:(nums (j+1)).filter x.pend=A++(if x.pend ((j+1:Nat):Int) then [((j+1:Nat):Int)] else []):=by
   rw [nums_succ,List.filter_append,hA,List.filter_cons,List.filter_nil]
  rw [← hA] at sv
  have sv1:SlV g1 lo v A.length 1 (inL A):=sv.keep K fun q e=>e.elim
  have up:∀ {E1:Env} {g2:Hp} {v':Value},Keep (fun q=>lo≤q) g g2→SlV g2 lo v' ((nums (j+1)).filter x.pend).length 1 (inL ((nums (j+1)).filter x.pend)) →
    EnvLe [(4,.int .i64 ((j+1+1:Nat):Int)),(3,v'),(0,ptr γ.g)] E1→CRun Try.prog 17 false (loopN Try.f12 0) E g .normal E1 g2 →
    ∃ E1 g1 w,Keep (fun q=>lo≤q) g g1∧SlV g1 lo w x.pends.length 1 (inL x.pends)∧EnvLe [(3,w)] E1∧LRun Try.prog 17 false (loopN Try.f12 0) E g (.exit 0) E1 g1:=by
   intro E1 g2 v' K2 s2 hE1 hc1
   obtain ⟨E2,g3,w,K3,s3,e3,l3⟩:=pd_loop ok hc W hf f (j+1) v' E1 g2 (by omega) (a.keep K2 fun q h1 h2=>by have:=hf q h2;omega) (Nat.le_trans hlo K2.1) s2 hE1
   exact ⟨E2,g3,w,K2.trans K3,s3,e3,.step hc1 l3⟩
  have Kg:Keep (fun q=>lo≤q) g g1:=K.mono fun _ _ e=>e.elim
  cases e:x.pend ((j+1:Nat):Int) with
  | false =>
   rw [e] at R
   obtain ⟨E1,q1,q2⟩:=pvC 0 hE (c17p.pd_no γ.g 0 0 0 0 ((j+1:Nat):Int) ((j+1+1:Nat):Int) v [] g g1) ⟨A1,R,N1,trivial⟩
   rw [e] at nx
   exact up Kg (by rw [nx];simpa using sv1) (.trans (.add (.add (.add (.nil _) rfl) rfl) rfl) q1) q2
  | true =>
   rw [e] at R nx
   have el:inL (A++[((j+1:Nat):Int)])=inL A++[.int .i64 ((j+1:Nat):Int)]:=by rw [inL_app];rfl
   rcases sv1 with ⟨h1,h2,rfl⟩ | ⟨h1,h2,d,rfl,h4,h5⟩
   ·have A0:A=[]:=List.length_eq_zero_iff.1 h1
    obtain ⟨E1,q1,q2⟩:=pvC 0 hE (c17p.pd_n γ.g g1.length (g1.length+1) 0 0 ((j+1:Nat):Int) ((j+1+1:Nat):Int) undef [] g g1)
     ⟨A1,R,rfl,a_appGN rfl rfl (by omega) (get_new _ _) (push_len _ _),N1,trivial⟩
    refine up (Kg.trans ((Keep.push _ _ _).trans (Keep.push _ _ _))) (v':=.slice (some ⟨g1.length+1,0,none⟩) 1 1) ?_ (.trans (.add (.add (.add (.nil _) rfl) rfl) rfl) q1) q2
    rw [nx,A0]
    exact .inr ⟨by simp,by simp [inL],g1.length+1,rfl,get_new' _ (push_len _ _),by omega⟩
   ·have hd:=get_lt h4
    obtain ⟨E1,q1,q2⟩:=pvC 0 hE (c17p.pd_s γ.g g1.length (g1.length+1) d A.length ((j+1:Nat):Int) ((j+1+1:Nat):Int) undef (inL A++[.int .i64 ((j+1:Nat):Int)]) g g1)
     ⟨A1,R,rfl,a_appGS (n:=A.length) (z:=1) (b:=8) (cs:=inL A) (item:=[.int .i64 ((j+1:Nat):Int)]) rfl rfl (by omega) (by omega) h2 (get_push h4) (get_new _ _) (push_len _ _),N1,trivial⟩
    refine up (Kg.trans (((Keep.push _ _ _).trans (Keep.set (fp:=fun q=>lo≤q) h5 _)).trans (Keep.push _ _ _))) (v':=.slice (some ⟨g1.length+1,0,none⟩) (A.length+1) 1) ?_ (.trans (.add (.add (.add (.nil _) rfl) rfl) rfl) q1) q2
    rw [nx,if_pos rfl,el]
    exact .inr ⟨by simp,by simp [inL],g1.length+1,by rw [List.length_append];rfl,get_new' _ (by simp [SH.den]),by omega⟩
theorem pending_run (a:GAt h ρ γ x) (ok:TOk c x.t) (hc:c≤1000) (W:WI none x.t) :
  ∃ v g,Run Try.prog 12 [ptr γ.g] h v g∧Grow h g∧SlV g h.length v x.pends.length 1 (inL x.pends):=by
 obtain ⟨E1,g,w,K,s,e1,l1⟩:=pd_loop ok hc W (lo:=h.length) (fun q e=>a.lt e) 64 0 (.slice none 0 0) [(4,.int .i64 1),(3,.slice none 0 0),(0,ptr γ.g)] h rfl a (Nat.le_refl _) (.inl ⟨rfl,rfl,rfl⟩) (EnvLe.refl _)
 exact ⟨w,g,pvF 0 Try.func12 (c17p.pd γ.g w h g) ⟨a_loop (by kernel_rfl) (.add (.add (.add (.nil _) rfl) rfl) rfl) e1 l1,trivial⟩,K.mono fun q hq e=>by omega,s⟩
theorem ixI_loop {l:List Int} {oa:Option Addr} {za:Nat} {n:Int} (hb:l.length≤1000000) (A:l.length≠0→∃ o junk rw,oa=some ⟨o,0,none⟩∧za=1∧h[o]?=some (.cells (inL l++junk) rw)) :
  ∀ (f i:Nat) (E:Env),i+f=l.length→EnvLe [(8,.int .i64 (i:Int)),(7,.int .i64 (Int.ofNat l.length)),(0,.slice oa l.length za),(1,.int .i64 n)] E→(∀ j,j<i→l[j]?≠some n) →
   (∃ E1 k,EnvLe [(4,.int .i64 ((k:Nat):Int))] E1∧LRun Try.prog 19 false (loopN Try.f44 0) E h .ret E1 h∧l[k]?=some n∧∀ j,j<k→l[j]?≠some n) ∨
   (∃ E1,LRun Try.prog 19 false (loopN Try.f44 0) E h (.exit 0) E1 h∧n∉l):=by
 intro f
 induction f with
 | zero =>
  intro i E hi hE hn
  have e:i=l.length:=by omega
  subst e
  obtain ⟨E2,q1,q2⟩:=pvC 0 hE (c17p.ix_out oa 0 l.length za 0 l.length 0 n 0 h) ⟨ltF (by simp),trivial⟩
  refine .inr ⟨E2,.last q2 (by simp),fun hm=>?_⟩
  obtain ⟨k,hk⟩:=List.mem_iff_getElem?.1 hm
  exact hn k (get_lt' hk) hk
 | succ f ih =>
  intro i E hi hE hn
  obtain ⟨w,hw⟩:∃ w,l[i]?=some w:=⟨_,List.getElem?_eq_getElem (by omega)⟩
  obtain ⟨o,junk,rw1,rfl,rfl,ho⟩:=A (by omega)
  have a1:(inL l++junk)[i]?=some (.int .i64 w):=by
   rw [List.getElem?_append_left (by rw [inL_len'];omega)];exact inL_at hw
  by_cases hp:n=w
  ·obtain ⟨E2,q1,q2⟩:=pvC 0 hE (c17p.ix_eq none o l.length 0 i i 0 n w h)
    ⟨ltT (by simp;omega),offI (q:=i) (by omega) (by omega) (by omega),a_ld1 ho a1,eqT hp,trivial⟩
   exact .inl ⟨E2,i,.trans (.add (.nil _) rfl) q1,.last q2 (by simp),by rw [hp];exact hw,hn⟩
  ·obtain ⟨E2,q1,q2⟩:=pvC 0 hE (c17p.ix_ne none o l.length 0 i i ((i+1:Nat):Int) n w h)
    ⟨ltT (by simp;omega),offI (q:=i) (by omega) (by omega) (by omega),a_ld1 ho a1,eqF hp,addI rfl (by omega) (by omega),trivial⟩
   have hn':∀ j,j<i+1→l[j]?≠some n:=fun k hk e=>by
    by_cases e1:k=i
    ·subst e1;rw [hw] at e;cases e;exact hp rfl
    ·exact hn k (by omega) e
   rcases ih (i+1) E2 (by omega) (.trans (.add (.add (.add (.add (.nil _) rfl) rfl) rfl) rfl) q1) hn' with ⟨E3,k,s1,s2,s3⟩ | ⟨E3,s2,s3⟩
   ·exact .inl ⟨E3,k,s1,.step q2 s2,s3⟩
   ·exact .inr ⟨E3,.step q2 s2,s3⟩
theorem ixI_run {l:List Int} {v:Value} (hb:l.length≤1000000) (A:SlG h v l.length 1 (inL l)) (n:Int):∃ r,Run Try.prog 44 [v,.int .i64 n] h (.int .i64 r) h∧IxR l n r:=by
 obtain ⟨_,oa,za,rfl,A'⟩:=A
 rcases ixI_loop (n:=n) hb A' l.length 0 [(8,.int .i64 (0:Nat)),(7,.int .i64 (Int.ofNat l.length)),(0,.slice oa l.length za),(1,.int .i64 n)] (by omega) (EnvLe.refl _) (fun j hj=>absurd hj (Nat.not_lt_zero _)) with ⟨E1,k,q1,q2,q3,q4⟩ | ⟨E1,q2,q3⟩
 ·exact ⟨k,pvF 0 Try.func44 (c17p.ix_f oa l.length za n k false h) ⟨a_loop (by kernel_rfl) (.add (.add (.add (.add (.nil _) rfl) rfl) rfl) rfl) q1 q2,trivial⟩,.inl ⟨k,rfl,q3,q4⟩⟩
 ·exact ⟨Int.negSucc 0,pvF 0 Try.func44 (c17p.ix_n oa l.length za n 0 false h) ⟨a_loop (by kernel_rfl) (.add (.add (.add (.add (.nil _) rfl) rfl) rfl) rfl) (.nil _) q2,trivial⟩,.inr ⟨rfl,q3⟩⟩
theorem contI_run {l:List Int} {v:Value} (hb:l.length≤1000000) (A:SlG h v l.length 1 (inL l)) (n:Int):Run Try.prog 14 [v,.int .i64 n] h (.bool (decide (n∈l))) h:=by
 obtain ⟨r,r1,ix⟩:=ixI_run hb A n
 obtain ⟨_,oa,za,rfl,_⟩:=A
 have e:=ix.geq
 exact pvF 0 Try.func14 (c17p.ct oa l.length za n r _ h) ⟨r1,by
  rw [← e]
  by_cases c:0≤r
  ·rw [decide_eq_true c];exact geT c
  ·rw [decide_eq_false c];exact geF (by omega),trivial⟩
end
end Go.Proofs.Ytlonjogfeidgfaa.gr
namespace Go.Proofs.Ytlonjogfeidgfaa.gr
open Go Go.Ev Go.Proofs.Ytlonjogfeidgfaa.tr
set_option maxRecDepth 100000
set_option linter.unusedVariables false
set_option linter.constructorNameAsVariable false
def toldL:List Ef→List Int
 | []=>[]
 | e::l=>if e.kind=2 then e.n::toldL l else toldL l
section
variable {b o p d:Nat} {i:Int} {w nv:Value} {z:Bool}
variable {h:Hp} {W N T:List Int} {t:Value} {lf:Bool}
end
end Go.Proofs.Ytlonjogfeidgfaa.gr
namespace Go.Proofs.Ytlonjogfeidgfaa.gr
open Go Go.Ev Go.Proofs.Ytlonjogfeidgfaa.tr
set_option maxRecDepth 100000
set_option linter.unusedVariables false
set_option linter.constructorNameAsVariable false
section
variable {x:GS} {k:Nat}
theorem lateF_ok (o:GOk k x):GOk (k+1) x.lateF.1∧x.lateF.2.1.length≤130:=by
 obtain ⟨c,a,b,d,e⟩:=o
 have hd:x.lateF.1.du.length=x.du.length-1:=by
  have:x.lateF.1.du=popped x.du:=by rw [GS.lateF,GS.fail,GS.after,turned_du];rfl
  rw [this,popped_len]
 have ht:=late_t x
 refine ⟨⟨c+1,ht▸a.fail,ht▸b.fail _ _ _,ht▸d.fail a _ _ _,by rw [hd];omega⟩,?_⟩
 have h1:=turned_len (x.t.fail (popP x.du).2 1 c13p.late).2.1 (x:={ x.pop with t:=(x.t.fail (popP x.du).2 1 c13p.late).1 }) (c:=c+1) a.fail (b.fail _ _ _) (d.fail a _ _ _)
 have h2:=fail_ef x.t (popP x.du).2 1 c13p.late
 have h3:x.lateF.2.1=(({ x.pop with t:=(x.t.fail (popP x.du).2 1 c13p.late).1 }:GS).turned (x.t.fail (popP x.du).2 1 c13p.late).2.1).2:=rfl
 rw [h3];omega
theorem come_len (o:GOk k x):x.come.2.length≤65:=by
 obtain ⟨⟨c,a,b,d,_⟩,_⟩:=lateF_ok o
 exact strikes_len a b d _
theorem expF_efs:∀ (f:Nat) {x:GS} (now:Int),GOk k x→(expF f x now).2.length≤195*x.du.length
 | 0,x,now,o=>by simp [expF]
 | f+1,x,now,o=>by
  unfold gr.expF;split
  ·simp
  ·rename_i p r e
   have hl:x.du.length=r.length+1:=by rw [e];rfl
   split
   ·have hne:x.du≠[]:=by rw [e];simp
    have h1:=expF_efs f now (o.come hne).over
    have h2:=over_du_len x.come.1
    have h3:=(lateF_ok o).2
    have h4:=come_len o
    rw [come_du,popped_len] at h2
    simp only [List.length_append]
    omega
   ·simp
end
end Go.Proofs.Ytlonjogfeidgfaa.gr
namespace Go.Proofs.Ytlonjogfeidgfaa.gr
open Go Go.Ev Go.Proofs.Ytlonjogfeidgfaa.tr
set_option maxRecDepth 100000
set_option linter.unusedVariables false
set_option linter.constructorNameAsVariable false
def GS.nx (x:GS):Int×Bool:=match x.du with
 | []=>(0,false)
 | p::_=>(p.1,true)
section
variable {h h' g:Hp} {ρ ρ':Lay} {γ γ':GL} {x:GS} {c:Nat}
theorem next_run (a:GAt h ρ γ x) (ok:TOk c x.t) (hc:c≤1000) (hl:x.du.length≤100000) :
  ∃ g,Run Try.prog 28 [ptr γ.g] h (.tuple #[.int .i64 x.over.nx.1,.bool x.over.nx.2]) g∧GAt g ρ γ x.over∧GStep ρ γ h ρ γ g:=by
 obtain ⟨g,R,b,S⟩:=over_run a ok hc hl
 have hlo:=over_du_len x
 refine ⟨g,?_,b,S⟩
 generalize x.over=y at b hlo ⊢
 have O:=b.obj
 cases hd:γ.d with
 | none =>
  have e0:=b.dun hd
  rw [hd] at O
  have e:y.nx=(0,false):=by unfold GS.nx;rw [e0]
  rw [e]
  exact pvF 0 Try.func28 (c32p.nx_nil γ.g 0 0 0 h g) ⟨R,a_ld1 O rfl,eqT rfl,trivial⟩
 | some d =>
  rw [hd] at O
  obtain ⟨junk,hj⟩:=b.duo d hd
  have S3:(Asm.ld1 (.is g) γ.g 3 (.slice (some ⟨d,0,none⟩) y.du.length 2)).holds Try.prog:=a_ld1 O rfl
  cases hx:y.du with
  | nil =>
   have e:y.nx=(0,false):=by unfold GS.nx;rw [hx]
   rw [e]
   exact pvF 0 Try.func28 (c32p.nx_zero γ.g d y.du.length 0 h g) ⟨R,S3,eqT (by rw [hx];rfl),trivial⟩
  | cons p r =>
   have hpos:0<y.du.length:=by rw [hx];simp
   have e:y.nx=(p.1,true):=by unfold GS.nx;rw [hx]
   rw [e]
   have D:DAt g γ.g d y.du _ junk:=⟨O,rfl,hj,fun f=>b.gd (by rw [hd,f]),by omega⟩
   obtain ⟨L1,_,_⟩:=D.ld (k:=0) (p:=p) (by rw [hx];rfl) (s:=.is g) rfl
   have off0:(Asm.off 0 0 0 y.du.length 2).holds Try.prog:=offI (q:=0) rfl hpos (by omega)
   exact pvF 0 Try.func28 (c32p.nx_go γ.g d y.du.length p.1 h g) ⟨R,S3,eqF (by simp only [Int.ofNat_eq_natCast];omega),S3,off0,L1,trivial⟩
theorem GAt.dsl (a:GAt h ρ γ x):∃ od zd,h[γ.g]?=some (.cells [pvv (ρ .root),.map (some γ.m),.map (some γ.n),.slice od x.du.length zd] true)∧SlG h (.slice od x.du.length zd) x.du.length 2 (prL x.du):=by
 have O:=a.obj
 cases hd:γ.d with
 | none =>
  have e0:=a.dun hd
  rw [hd] at O
  exact ⟨none,0,by rw [e0];exact O,prL_len _,none,0,rfl,fun e=>absurd (by rw [e0];rfl) e⟩
 | some d =>
  rw [hd] at O
  obtain ⟨junk,hj⟩:=a.duo d hd
  exact ⟨_,_,O,prL_len _,_,_,rfl,fun _=>⟨d,junk,true,rfl,rfl,hj⟩⟩
def DdOk (du:List Pr) (d:Int) (z:Bool):Prop:=z=true→∃ p,p∈du∧p.1=d
abbrev DKe (i o ln j:Nat):Env:=[(23,.int .i64 (j:Int)),(22,.int .i64 (Int.ofNat ln)),(21,.slice (some ⟨o,0,none⟩) ln 2),(0,ptr i)]
theorem de_loop {du:List Pr} {od:Option Addr} {zd b i o ln j0:Nat} {w:Pr} (hb:du.length≤100000) (A:SlG h (.slice od du.length zd) du.length 2 (prL du)) (hbx:h[b]?=some (.cells (prC w) true)) :
  ∀ (f j:Nat) (E:Env) (g:Hp) (d:Int) (z:Bool),j+f=du.length→Grow h g→DdOk du d z→EnvLe ([(35,.int .i64 (j:Int)),(34,.int .i64 (Int.ofNat du.length)),(33,.slice od du.length zd),(11,ptr b),(8,.int .i64 d),(9,.bool z)]++DKe i o ln j0) E →
   ∃ E1 g1 d1 z1,DdOk du d1 z1∧EnvLe ([(8,.int .i64 d1),(9,.bool z1)]++DKe i o ln j0) E1∧LRun Try.prog 65 false (loopN Try.f30 1) E g (.exit 2) E1 g1∧Grow h g1:=by
 obtain ⟨_,oa,za,e0,A'⟩:=A
 cases e0
 intro f
 induction f with
 | zero =>
  intro j E g d z hj K hD hE
  obtain ⟨E2,q1,q2⟩:=pvC 0 hE (c32p.de_out ((33,.slice od du.length zd)::(11,ptr b)::(8,.int .i64 d)::(9,.bool z)::DKe i o ln j0) j (Int.ofNat du.length) g) ⟨ltF (by simp only [Int.ofNat_eq_natCast];omega),trivial⟩
  exact ⟨E2,g,d,z,hD,.trans (.add (.add (.add (.add (.add (.add (.nil _) rfl) rfl) rfl) rfl) rfl) rfl) q1,.last q2 (by simp),K⟩
 | succ f ih =>
  intro j E g d z hj K hD hE
  obtain ⟨p,hp⟩:∃ p,du[j]?=some p:=⟨_,List.getElem?_eq_getElem (by omega)⟩
  obtain ⟨o1,junk,rw1,rfl,rfl,ho⟩:=A' (by omega)
  have ll:=prL_len du
  have a1:=prL_at junk hp
  obtain ⟨ga,hga⟩:∃ ga,ga=(g++[AObj.cells [.int .i64 0,.int .i64 0] true]).set g.length (.cells (prC p) true):=⟨_,rfl⟩
  have hnew:ga[g.length]?=some (.cells (prC p) true):=by rw [hga];exact get_set_eq (get_new _ _)
  have Ka:Grow g ga:=by rw [hga];exact ((Keep.refl (fun _=>False) g).pushN _).setN (Nat.le_refl _) _
  have Kh:Grow h ga:=K.trans Ka
  have hbg:ga[b]?=some (.cells (prC w) true):=Kh.get hbx
  have X1:(Asm.cmp .lss (j:Int) (Int.ofNat du.length) true).holds Try.prog:=ltT (by simp only [Int.ofNat_eq_natCast];omega)
  have X2:(Asm.off (j*2) 0 (j:Int) du.length 2).holds Try.prog:=offI (q:=j) rfl (by omega) (by omega)
  have X3:(Asm.ldn (.is g) o1 (j*2) 2 (prC p)).holds Try.prog:=a_ldn (K.get ho) (by simp;omega) a1
  have X4:(Asm.st (.push (.is g) (.cells [.int .i64 0,.int .i64 0] true)) g.length 0 (prC p) (prC p)).holds Try.prog:=a_st (get_new _ _) (by simp [prC]) rfl
  have B0:∀ s:SH,s.den=ga→(Asm.ld1 s b 0 (.int .i64 w.1)).holds Try.prog:=fun s e=>a_ld1 (by rw [e];exact hbg) rfl
  have B1:∀ s:SH,s.den=ga→(Asm.ld1 s b 1 (.int .i64 w.2)).holds Try.prog:=fun s e=>a_ld1 (by rw [e];exact hbg) rfl
  have P0:∀ s:SH,s.den=ga→(Asm.ld1 s g.length 0 (.int .i64 p.1)).holds Try.prog:=fun s e=>a_ld1 (by rw [e];exact hnew) rfl
  have P1:∀ s:SH,s.den=ga→(Asm.ld1 s g.length 1 (.int .i64 p.2)).holds Try.prog:=fun s e=>a_ld1 (by rw [e];exact hnew) rfl
  have X9:(Asm.arith .add .i64 (j:Int) 1 ((j+1:Nat):Int)).holds Try.prog:=addI rfl (by omega) (by omega)
  have fin:∀ {E2:Env} {g3:Hp} {d2:Int} {z2:Bool},g3=ga→DdOk du d2 z2→EnvLe ([(35,.int .i64 ((j+1:Nat):Int)),(34,.int .i64 (Int.ofNat du.length)),(33,.slice (some ⟨o1,0,none⟩) du.length 2),(11,ptr b),(8,.int .i64 d2),(9,.bool z2)]++DKe i o ln j0) E2→CRun Try.prog 65 false (loopN Try.f30 1) E g .normal E2 g3 →
    ∃ E1 g1 d1 z1,DdOk du d1 z1∧EnvLe ([(8,.int .i64 d1),(9,.bool z1)]++DKe i o ln j0) E1∧LRun Try.prog 65 false (loopN Try.f30 1) E g (.exit 2) E1 g1∧Grow h g1:=by
   intro E2 g3 d2 z2 e0 D2 e2 c2
   subst e0
   obtain ⟨E3,g4,d3,z3,s0,s1,s2,s3⟩:=ih (j+1) E2 g3 d2 z2 (by omega) Kh D2 e2
   exact ⟨E3,g4,d3,z3,s0,s1,.step c2 s2,s3⟩
  have hit:DdOk du p.1 true:=fun _=>⟨p,List.mem_of_getElem? hp,rfl⟩
  by_cases h2:w.1=2
  ·by_cases hs:p.2=w.2
   ·cases z with
    | false =>
     obtain ⟨E2,q1,q2⟩:=pvC 0 hE (c32p.de_new (DKe i o ln j0) o1 du.length (j*2) b g.length j ((j+1:Nat):Int) w.1 w.2 d p.1 p.2 false g) ⟨X1,X2,X3,rfl,X4,B0 _ hga.symm,eqT h2,P1 _ hga.symm,B1 _ hga.symm,eqT hs,P0 _ hga.symm,X9,trivial⟩
     exact fin hga.symm hit (.trans (.add (.add (.add (.add (.add (.add (.add (.add (.add (.add (.nil _) rfl) rfl) rfl) rfl) rfl) rfl) rfl) rfl) rfl) rfl) q1) q2
    | true =>
     by_cases hlt:p.1<d
     ·obtain ⟨E2,q1,q2⟩:=pvC 0 hE (c32p.de_less (DKe i o ln j0) o1 du.length (j*2) b g.length j ((j+1:Nat):Int) w.1 w.2 d p.1 p.2 false g) ⟨X1,X2,X3,rfl,X4,B0 _ hga.symm,eqT h2,P1 _ hga.symm,B1 _ hga.symm,eqT hs,P0 _ hga.symm,ltT hlt,P0 _ hga.symm,X9,trivial⟩
      exact fin hga.symm hit (.trans (.add (.add (.add (.add (.add (.add (.add (.add (.add (.add (.nil _) rfl) rfl) rfl) rfl) rfl) rfl) rfl) rfl) rfl) rfl) q1) q2
     ·obtain ⟨E2,q1,q2⟩:=pvC 0 hE (c32p.de_more (DKe i o ln j0) o1 du.length (j*2) b g.length j ((j+1:Nat):Int) w.1 w.2 d p.1 p.2 false g) ⟨X1,X2,X3,rfl,X4,B0 _ hga.symm,eqT h2,P1 _ hga.symm,B1 _ hga.symm,eqT hs,P0 _ hga.symm,ltF (by omega),X9,trivial⟩
      exact fin hga.symm hD (.trans (.add (.add (.add (.add (.add (.add (.add (.add (.add (.add (.nil _) rfl) rfl) rfl) rfl) rfl) rfl) rfl) rfl) rfl) rfl) q1) q2
   ·obtain ⟨E2,q1,q2⟩:=pvC 0 hE (c32p.de_n (DKe i o ln j0) o1 du.length (j*2) b g.length j ((j+1:Nat):Int) w.1 w.2 d p.1 p.2 z g) ⟨X1,X2,X3,rfl,X4,B0 _ hga.symm,eqT h2,P1 _ hga.symm,B1 _ hga.symm,eqF hs,X9,trivial⟩
    exact fin hga.symm hD (.trans (.add (.add (.add (.add (.add (.add (.add (.add (.add (.add (.nil _) rfl) rfl) rfl) rfl) rfl) rfl) rfl) rfl) rfl) rfl) q1) q2
  ·obtain ⟨E2,q1,q2⟩:=pvC 0 hE (c32p.de_k (DKe i o ln j0) o1 du.length (j*2) b g.length j ((j+1:Nat):Int) w.1 w.2 d p.1 p.2 z g) ⟨X1,X2,X3,rfl,X4,B0 _ hga.symm,eqF h2,X9,trivial⟩
   exact fin hga.symm hD (.trans (.add (.add (.add (.add (.add (.add (.add (.add (.add (.add (.nil _) rfl) rfl) rfl) rfl) rfl) rfl) rfl) rfl) rfl) rfl) q1) q2
theorem dd_loop (a:GAt h ρ γ x) (hb:x.du.length≤100000) {l:List Pr} {v:Value} (hl:l.length≤1000000) (A:SlG h v l.length 2 (prL l)) :
  ∀ (f j:Nat) (E:Env) (g:Hp) (d:Int) (z:Bool),j+f=l.length→Grow h g→DdOk x.du d z→EnvLe [(23,.int .i64 (j:Int)),(22,.int .i64 (Int.ofNat l.length)),(21,v),(0,ptr γ.g),(8,.int .i64 d),(9,.bool z)] E →
   ∃ E1 g1 d1 z1,DdOk x.du d1 z1∧EnvLe [(8,.int .i64 d1),(9,.bool z1)] E1∧LRun Try.prog 65 false (loopN Try.f30 0) E g (.exit 0) E1 g1∧Grow h g1:=by
 obtain ⟨_,oa,za,rfl,A'⟩:=A
 intro f
 induction f with
 | zero =>
  intro j E g d z hj K hD hE
  obtain ⟨E2,q1,q2⟩:=pvC 0 hE (c32p.dl_out [(21,.slice oa l.length za),(0,ptr γ.g),(8,.int .i64 d),(9,.bool z)] j (Int.ofNat l.length) g) ⟨ltF (by simp only [Int.ofNat_eq_natCast];omega),trivial⟩
  exact ⟨E2,g,d,z,hD,.trans (.add (.add (.nil _) rfl) rfl) q1,.last q2 (by simp),K⟩
 | succ f ih =>
  intro j E g d z hj K hD hE
  obtain ⟨w,hw⟩:∃ w,l[j]?=some w:=⟨_,List.getElem?_eq_getElem (by omega)⟩
  obtain ⟨o,junk,rw1,rfl,rfl,ho⟩:=A' (by omega)
  have ll:=prL_len l
  have a1:=prL_at junk hw
  obtain ⟨ga,hga⟩:∃ ga,ga=(g++[AObj.cells [.int .i64 0,.int .i64 0] true]).set g.length (.cells (prC w) true):=⟨_,rfl⟩
  have hnew:ga[g.length]?=some (.cells (prC w) true):=by rw [hga];exact get_set_eq (get_new _ _)
  have Ka:Grow g ga:=by rw [hga];exact ((Keep.refl (fun _=>False) g).pushN _).setN (Nat.le_refl _) _
  have Kh:Grow h ga:=K.trans Ka
  have X1:(Asm.cmp .lss (j:Int) (Int.ofNat l.length) true).holds Try.prog:=ltT (by simp only [Int.ofNat_eq_natCast];omega)
  have X2:(Asm.off (j*2) 0 (j:Int) l.length 2).holds Try.prog:=offI (q:=j) rfl (by omega) (by omega)
  have X3:(Asm.ldn (.is g) o (j*2) 2 (prC w)).holds Try.prog:=a_ldn (K.get ho) (by simp;omega) a1
  have X4:(Asm.st (.push (.is g) (.cells [.int .i64 0,.int .i64 0] true)) g.length 0 (prC w) (prC w)).holds Try.prog:=a_st (get_new _ _) (by simp [prC]) rfl
  have B0:∀ s:SH,s.den=ga→(Asm.ld1 s g.length 0 (.int .i64 w.1)).holds Try.prog:=fun s e=>a_ld1 (by rw [e];exact hnew) rfl
  have X9:(Asm.arith .add .i64 (j:Int) 1 ((j+1:Nat):Int)).holds Try.prog:=addI rfl (by omega) (by omega)
  by_cases h3:w.1=3
  ·obtain ⟨E2,q1,q2⟩:=pvC 0 hE (c32p.dl_sh γ.g o l.length (j*2) g.length 0 0 none j 0 w.1 w.2 d 0 z false g g) ⟨X1,X2,X3,rfl,X4,B0 _ hga.symm,eqT h3,trivial⟩
   exact ⟨E2,ga,d,z,hD,.trans (.add (.add (.nil _) rfl) rfl) q1,.last (by rw [hga];exact q2) (by simp),Kh⟩
  ·obtain ⟨od,zd,O,SD⟩:=(a.grow Kh).dsl
   obtain ⟨E1,g1,d1,z1,D1,e1,l1,K1⟩:=de_loop (i:=γ.g) (o:=o) (ln:=l.length) (j0:=j) (w:=w) hb SD hnew x.du.length 0 _ ga d z (by omega) (.refl _) hD (EnvLe.refl _)
   have X7:∀ s:SH,s.den=ga→(Asm.ld1 s γ.g 3 (.slice od x.du.length zd)).holds Try.prog:=fun s e=>a_ld1 (by rw [e];exact O) rfl
   obtain ⟨E2,q1,q2⟩:=pvC 0 hE (c32p.dl_go γ.g o l.length (j*2) g.length x.du.length zd od j ((j+1:Nat):Int) w.1 w.2 d d1 z z1 g g1)
    ⟨X1,X2,X3,rfl,X4,B0 _ hga.symm,eqF h3,X7 _ hga.symm,a_loop (by kernel_rfl) (.add (.add (.add (.add (.add (.add (.add (.add (.add (.add (.nil _) rfl) rfl) rfl) rfl) rfl) rfl) rfl) rfl) rfl) rfl) e1 (by subst hga;exact l1),X9,trivial⟩
   obtain ⟨E3,g4,d3,z3,s0,s1,s2,s3⟩:=ih (j+1) E2 g1 d1 z1 (by omega) (Kh.trans K1) D1 (.trans (.add (.add (.add (.add (.add (.add (.nil _) rfl) rfl) rfl) rfl) rfl) rfl) q1)
   exact ⟨E3,g4,d3,z3,s0,s1,.step q2 s2,s3⟩
theorem deadline_run (a:GAt h ρ γ x) (ok:TOk c x.t) (hc:c≤1000) (W:WI none x.t) (hb:x.du.length≤100000) (n:Int) :
  ∃ d z g,Run Try.prog 30 [ptr γ.g,.int .i64 n] h (.tuple #[.int .i64 d,.bool z]) g∧Grow h g∧DdOk x.du d z:=by
 obtain ⟨r,hr⟩:=a.root
 obtain ⟨v,g1,R1,K1,s1⟩:=chain_run a.tat ok hc W hr n
 have K1:Grow h g1:=K1
 have lim:=chain_lim ok hc n
 obtain ⟨oa,ln,za,rfl⟩:∃ a b c,v=.slice a b c:=by rcases s1 with ⟨_,_,h⟩ | ⟨_,_,_,h,_⟩<;>exact ⟨_,_,_,h⟩
 have lnl:ln=(x.t.chain n).1.length:=by obtain ⟨_,_,_,h,_⟩:=s1.g;cases h;rfl
 obtain ⟨E1,g2,d,z,D,e1,l1,K2⟩:=dd_loop (a.grow K1) hb (by omega) s1.g (x.t.chain n).1.length 0 [(23,.int .i64 ((0:Nat):Int)),(22,.int .i64 (Int.ofNat (x.t.chain n).1.length)),(21,.slice oa ln za),(0,ptr γ.g),(8,.int .i64 0),(9,.bool false)] g1 0 false (by omega) (.refl _) (fun e=>by cases e) (EnvLe.refl _)
 rw [← lnl] at l1
 exact ⟨d,z,g2,pvF 0 Try.func30 (c32p.dd γ.g r ln za oa n (x.t.chain n).2 d z h g1 g2) ⟨tree_run a hr,R1,a_loop (by kernel_rfl) (.add (.add (.add (.add (.add (.add (.nil _) rfl) rfl) rfl) rfl) rfl) rfl) e1 l1,trivial⟩,K1.trans K2,D⟩
end
end Go.Proofs.Ytlonjogfeidgfaa.gr
namespace Go.Proofs.Ytlonjogfeidgfaa.gr
open Go Go.Ev Go.Proofs.Ytlonjogfeidgfaa.tr
set_option maxRecDepth 100000
set_option linter.unusedVariables false
set_option linter.constructorNameAsVariable false
structure comeOk (x:GS) (now:Int):Prop where
 again:((x.over.expire now).1.over.expire now).2=[]
 later:(x.over.expire now).1.over.nx.2=true→now<(x.over.expire now).1.over.nx.1
 early:x.over.nx.2=true→now<x.over.nx.1→(x.over.expire now).1.over.nx=x.over.nx∧(x.over.expire now).2=[]
 none:x.over.nx.2=false→(x.over.expire now).1.over.nx.2=false∧(x.over.expire now).2=[]
 told:∀ e,e∈(x.over.expire now).2→e.kind=2∧e.n∉x.over.pends∧((x.over.expire now).1.over.expire now).1.pend e.n=true
 due:∀ p,p∈((x.over.expire now).1.over.expire now).1.du→now<p.1
section
variable {h g:Hp} {ρ:Lay} {γ:GL} {x:GS} {c:Nat} {now:Int}
theorem ce_loop (a:GAt h ρ γ x) (ok:TOk c x.t) (hc:c≤1000) (W:WI none x.t) {w:List Int} {wv:Value} (hw:w.length≤1000000) (sw:SlG h wv w.length 1 (inL w)) {l:List Ef} {ev:Value} (hl:l.length≤100000) (sl:SlG h ev l.length 5 (efC l))
  (H:∀ e,e∈l→e.kind=2∧e.n∉w∧x.pend e.n=true) :
  ∀ (f j:Nat) (E:Env) (g:Hp),j+f=l.length→Grow h g→EnvLe [(105,.int .i64 (j:Int)),(104,.int .i64 (Int.ofNat l.length)),(103,ev),(10,wv),(7,ptr γ.g),(2,.int .i64 now)] E →
   ∃ E1 g1,EnvLe [(7,ptr γ.g),(2,.int .i64 now)] E1∧LRun Try.prog 143 false (loopN Try.f6 0) E g (.exit 0) E1 g1∧Grow h g1:=by
 obtain ⟨_,oa,za,rfl,A'⟩:=sl
 intro f
 induction f with
 | zero =>
  intro j E g hj K hE
  obtain ⟨E2,q1,q2⟩:=pvC 0 hE (c32p.ce_out [(103,.slice oa l.length za),(10,wv),(7,ptr γ.g),(2,.int .i64 now)] j (Int.ofNat l.length) g) ⟨ltF (by simp only [Int.ofNat_eq_natCast];omega),trivial⟩
  exact ⟨E2,g,.trans (.add (.add (.nil _) rfl) rfl) q1,.last q2 (by simp),K⟩
 | succ f ih =>
  intro j E g hj K hE
  obtain ⟨e,he⟩:∃ e,l[j]?=some e:=⟨_,List.getElem?_eq_getElem (by omega)⟩
  obtain ⟨H1,H2,H3⟩:=H e (List.mem_of_getElem? he)
  obtain ⟨o,junk,rw1,rfl,rfl,ho⟩:=A' (by omega)
  have hlen:=efC_len l
  have hat:=efC_at he
  have a1:((efC l++junk).drop (j*5)).take 5=e.cells:=by
   rw [List.drop_append_of_le_length (by omega),List.take_append_of_le_length (by simp;omega)];exact hat
  obtain ⟨ga,hga⟩:∃ ga,ga=(g++[AObj.cells [.int .i64 0,.int .i64 0,.int .i64 0,.int .i64 0,.string ⟨#[]⟩] true]).set g.length (.cells e.cells true):=⟨_,rfl⟩
  have hnew:ga[g.length]?=some (.cells e.cells true):=by rw [hga];exact get_set_eq (get_new _ _)
  have Ka:Grow g ga:=by rw [hga];exact ((Keep.refl (fun _=>False) g).pushN _).setN (Nat.le_refl _) _
  have Kh:Grow h ga:=K.trans Ka
  have R1:=contI_run hw (sw.keep Kh) e.n
  rw [show decide (e.n∈w)=false by simp [H2]] at R1
  obtain ⟨g2,R2,K2⟩:=pend_run (a.grow Kh) ok hc W e.n
  rw [H3] at R2
  obtain ⟨ow,lw,zw,rfl⟩:∃ a b c,wv=.slice a b c:=by obtain ⟨_,a,b,e,_⟩:=sw;exact ⟨a,_,b,e⟩
  have X1:(Asm.cmp .lss (j:Int) (Int.ofNat l.length) true).holds Try.prog:=ltT (by simp only [Int.ofNat_eq_natCast];omega)
  have X2:(Asm.off (j*5) 0 (j:Int) l.length 5).holds Try.prog:=offI (q:=j) rfl (by omega) (by omega)
  have X3:(Asm.ldn (.is g) o (j*5) 5 e.cells).holds Try.prog:=a_ldn (K.get ho) (by simp;omega) a1
  have X4:(Asm.st (.push (.is g) (.cells [.int .i64 0,.int .i64 0,.int .i64 0,.int .i64 0,.string ⟨#[]⟩] true)) g.length 0 e.cells e.cells).holds Try.prog:=a_st (get_new _ _) (by simp [Ef.cells]) rfl
  have L0:∀ s:SH,s.den=ga→(Asm.ld1 s g.length 0 (.int .i64 e.kind)).holds Try.prog:=fun s e=>a_ld1 (by rw [e];exact hnew) rfl
  have L1:∀ s:SH,s.den=ga→(Asm.ld1 s g.length 1 (.int .i64 e.n)).holds Try.prog:=fun s e=>a_ld1 (by rw [e];exact hnew) rfl
  have X9:(Asm.arith .add .i64 (j:Int) 1 ((j+1:Nat):Int)).holds Try.prog:=addI rfl (by omega) (by omega)
  obtain ⟨E2,q1,q2⟩:=pvC 0 hE (c32p.ce_go γ.g o l.length (j*5) g.length lw zw ow j ((j+1:Nat):Int) e.kind e.n e.m e.fk now e.ft g ga g2)
   ⟨X1,X2,X3,rfl,X4,L0 _ hga.symm,neF H1,L1 _ hga.symm,by subst hga;exact R1,L1 _ rfl,R2,X9,trivial⟩
  obtain ⟨E3,g4,s1,s2,s3⟩:=ih (j+1) E2 g2 (by omega) (Kh.trans K2) (.trans (.add (.add (.add (.add (.add (.add (.nil _) rfl) rfl) rfl) rfl) rfl) rfl) q1)
  exact ⟨E3,g4,s1,.step q2 s2,s3⟩
theorem cd_loop (a:GAt h ρ γ x) (ok:TOk c x.t) (hc:c≤1000) (W:WI none x.t) (hb:x.du.length≤100000) (H:∀ p,p∈x.du→now<p.1) :
  ∀ (f j:Nat) (E:Env) (g:Hp),j+f=65→Grow h g→EnvLe [(19,.int .i64 (j:Int)),(7,ptr γ.g),(2,.int .i64 now)] E →
   ∃ E1 g1,LRun Try.prog 143 false (loopN Try.f6 1) E g (.exit 2) E1 g1∧Grow h g1:=by
 intro f
 induction f with
 | zero =>
  intro j E g hj K hE
  obtain ⟨E2,q1,q2⟩:=pvC 0 hE (c32p.cd_out γ.g j 0 0 now g g) ⟨leF (by omega),trivial⟩
  exact ⟨E2,g,.last q2 (by simp),K⟩
 | succ f ih =>
  intro j E g hj K hE
  obtain ⟨d,z,g1,R1,K1,D⟩:=deadline_run (a.grow K) ok hc W hb j
  have X1:(Asm.cmp .leq (j:Int) 64 true).holds Try.prog:=leT (by omega)
  have X9:(Asm.arith .add .i64 (j:Int) 1 ((j+1:Nat):Int)).holds Try.prog:=addI rfl (by omega) (by omega)
  cases z with
  | false =>
   obtain ⟨E2,q1,q2⟩:=pvC 0 hE (c32p.cd_no γ.g j ((j+1:Nat):Int) d now g g1) ⟨X1,R1,X9,trivial⟩
   obtain ⟨E3,g4,s2,s3⟩:=ih (j+1) E2 g1 (by omega) (K.trans K1) (.trans (.add (.add (.add (.nil _) rfl) rfl) rfl) q1)
   exact ⟨E3,g4,.step q2 s2,s3⟩
  | true =>
   obtain ⟨p,hp,rfl⟩:=D rfl
   have:=H p hp
   obtain ⟨E2,q1,q2⟩:=pvC 0 hE (c32p.cd_yes γ.g j ((j+1:Nat):Int) p.1 now g g1) ⟨X1,R1,leF (by omega),X9,trivial⟩
   obtain ⟨E3,g4,s2,s3⟩:=ih (j+1) E2 g1 (by omega) (K.trans K1) (.trans (.add (.add (.add (.nil _) rfl) rfl) rfl) q1)
   exact ⟨E3,g4,.step q2 s2,s3⟩
end
theorem comelaw_run {h:Hp} {l:List OpV} {vl:Value} (n now:Int) (hv:OpsAt h vl l) (H:1≤n→n≤64→comeOk ((GS.roots n.toNat).runL (l.take 60)) now):∃ h',Run Try.prog 6 [.int .i64 n,vl,.int .i64 now] h (.bool true) h':=by
 rcases made_run n hv with ⟨_,r⟩ | ⟨h1,h2,b,ρ,γ,g,r,a,m⟩
 ·exact ⟨h,pvF 0 Try.func6 (c32p.cm_err 0 0 0 0 0 none none n now 0 0 vl h h h h h h h h h h) ⟨r,awake_run h,trivial⟩⟩
 ·have H:=H h1 h2
  have til:(l.take 60).length≤60:=by simp;omega
  have G0:GOk (n.toNat+2*(l.take 60).length) ((GS.roots n.toNat).runL (l.take 60)):=(GOk.roots (by omega)).runL
  revert H a G0
  generalize (GS.roots n.toNat).runL (l.take 60)=x
  intro a H G0
  have G1:=G0.over
  have G2:=G1.expire now
  have G3:=G2.over
  have G4:=G3.expire now
  have He:(x.over.expire now).2.length≤100000:=by
   have o1:=G1.over
   have h1:=expF_efs x.over.over.du.length now o1
   have h2:=over_du_len x.over
   obtain ⟨c,_,_,_,hc⟩:=G1
   show (expF x.over.over.du.length x.over.over now).2.length≤100000
   omega
  obtain ⟨c0,ok0,W0,J0,hc0⟩:=id G0
  obtain ⟨c1,ok1,W1,J1,hc1⟩:=id G1
  obtain ⟨c2,ok2,W2,J2,hc2⟩:=id G2
  obtain ⟨c3,ok3,W3,J3,hc3⟩:=id G3
  obtain ⟨c4,ok4,W4,J4,hc4⟩:=id G4
  obtain ⟨g2,R2,a2,S2⟩:=next_run a ok0 (by omega) (by omega)
  obtain ⟨w,g3,R3,K3,s3⟩:=pending_run a2 ok1 (by omega) W1
  have a3:=a2.grow K3
  obtain ⟨ev,g4,R4,a4,S4,s4⟩:=expire_run a3 ok1 W1 J1 (by omega) now
  obtain ⟨g5,R5,a5,S5⟩:=next_run a4 ok2 (by omega) (by omega)
  obtain ⟨v6,g6,R6,a6,S6,s6⟩:=expire_run a5 ok3 W3 J3 (by omega) now
  rw [H.again] at s6
  have e6:v6=.slice none 0 0:=by
   rcases s6 with ⟨_,_,e⟩ | ⟨e,_⟩
   ·exact e
   ·exact absurd rfl e
  subst e6
  have lt1:∀ q,fpG ρ γ q→q<g2.length:=fun q e=>a2.lt e
  have lt2:∀ q,fpG ρ γ q→q<g3.length:=fun q e=>a3.lt e
  have sw:SlV g6 g2.length w x.over.pends.length 1 (inL x.over.pends):=((s3.keep S4.keep lt1).keep S5.keep lt1).keep S6.keep lt1
  have se:SlV g6 g3.length ev (x.over.expire now).2.length 5 (efC (x.over.expire now).2):=(s4.keep S5.keep lt2).keep S6.keep lt2
  obtain ⟨ow,lw,zw,rfl⟩:∃ a b c,w=.slice a b c:=by rcases sw with ⟨_,_,h⟩ | ⟨_,_,_,h,_⟩<;>exact ⟨_,_,_,h⟩
  obtain ⟨oe,le,ze,rfl⟩:∃ a b c,ev=.slice a b c:=by rcases se with ⟨_,_,h⟩ | ⟨_,_,_,h,_⟩<;>exact ⟨_,_,_,h⟩
  have lel:le=(x.over.expire now).2.length:=by obtain ⟨_,_,_,h,_⟩:=se.g;cases h;rfl
  have hpl:=pends_le x.over
  obtain ⟨E7,g7,e7,l7,K7⟩:=ce_loop (now:=now) a6 ok4 (by omega) W4 (by omega) sw.g He se.g H.told (x.over.expire now).2.length 0 [(105,.int .i64 ((0:Nat):Int)),(104,.int .i64 (Int.ofNat (x.over.expire now).2.length)),(103,.slice oe le ze),(10,.slice ow lw zw),(7,ptr γ.g),(2,.int .i64 now)] g6 (by omega) (.refl _) (EnvLe.refl _)
  obtain ⟨E8,g8,l8,K8⟩:=cd_loop (now:=now) (a6.grow K7) ok4 (by omega) W4 (by omega) H.due 64 1 [(19,.int .i64 ((1:Nat):Int)),(7,ptr γ.g),(2,.int .i64 now)] g7 (by omega) (.refl _) (EnvLe.refl _)
  have eg:=m.g
  rw [eg] at R2 R3 R4 R5 R6 e7 l7 l8
  rw [← lel] at l7
  have R9:=awake_run g8
  have hn1:x.over.nx=(x.over.nx.1,x.over.nx.2):=rfl
  have hn2:(x.over.expire now).1.over.nx=((x.over.expire now).1.over.nx.1,(x.over.expire now).1.over.nx.2):=rfl
  cases hok:x.over.nx.2 with
  | false =>
   obtain ⟨z1,z2⟩:=H.none hok
   rw [hok] at R2
   rw [z1] at R5
   exact ⟨g8,pvF 0 Try.func6 (c32p.cm_A b lw zw le ze ow oe n now _ _ vl h g g2 g3 g4 g5 g6 g7 g8 g8) ⟨r,R2,R3,R4,R5,R6,neF rfl,neF rfl,gtF (by rw [lel,z2];exact Int.le_refl _),
    a_loop (by kernel_rfl) (.add (.add (.add (.add (.add (.add (.nil _) rfl) rfl) rfl) rfl) rfl) rfl) e7 l7,a_loop (by kernel_rfl) (.refl _) (.nil _) l8,R9,trivial⟩⟩
  | true =>
   rw [hok] at R2
   by_cases hlt:now<x.over.nx.1
   ·obtain ⟨z1,z2⟩:=H.early hok hlt
    have z3:=H.later (by rw [z1];exact hok)
    rw [show (x.over.expire now).1.over.nx.2=true by rw [z1];exact hok] at R5
    exact ⟨g8,pvF 0 Try.func6 (c32p.cm_B b lw zw le ze ow oe n now _ _ vl h g g2 g3 g4 g5 g6 g7 g8 g8) ⟨r,R2,R3,R4,R5,R6,neF rfl,neF rfl,leF z3,gtT hlt,neF (by rw [z1]),gtF (by rw [lel,z2];exact Int.le_refl _),
     a_loop (by kernel_rfl) (.add (.add (.add (.add (.add (.add (.nil _) rfl) rfl) rfl) rfl) rfl) rfl) e7 l7,a_loop (by kernel_rfl) (.refl _) (.nil _) l8,R9,trivial⟩⟩
   ·cases hto:(x.over.expire now).1.over.nx.2 with
    | false =>
     rw [hto] at R5
     exact ⟨g8,pvF 0 Try.func6 (c32p.cm_C b lw zw le ze ow oe n now _ _ vl h g g2 g3 g4 g5 g6 g7 g8 g8) ⟨r,R2,R3,R4,R5,R6,neF rfl,neF rfl,gtF (by omega),
      a_loop (by kernel_rfl) (.add (.add (.add (.add (.add (.add (.nil _) rfl) rfl) rfl) rfl) rfl) rfl) e7 l7,a_loop (by kernel_rfl) (.refl _) (.nil _) l8,R9,trivial⟩⟩
    | true =>
     have z3:=H.later hto
     rw [hto] at R5
     exact ⟨g8,pvF 0 Try.func6 (c32p.cm_D b lw zw le ze ow oe n now _ _ vl h g g2 g3 g4 g5 g6 g7 g8 g8) ⟨r,R2,R3,R4,R5,R6,neF rfl,neF rfl,leF z3,gtF (by omega),
      a_loop (by kernel_rfl) (.add (.add (.add (.add (.add (.add (.nil _) rfl) rfl) rfl) rfl) rfl) rfl) e7 l7,a_loop (by kernel_rfl) (.refl _) (.nil _) l8,R9,trivial⟩⟩
end Go.Proofs.Ytlonjogfeidgfaa.gr
namespace Go.Proofs.Ytlonjogfeidgfaa.gr
open Go Go.Ev Go.Proofs.Ytlonjogfeidgfaa.tr
set_option linter.unusedVariables false
set_option linter.constructorNameAsVariable false
def Ext (s:Nat) (l l':List (Option Nat)):Prop:=some s∈l→some s∈l'∧ixO (some s) l'=ixO (some s) l∧l'.take (ixO (some s) l)=l.take (ixO (some s) l)
theorem Ext.refl (s:Nat) (l:List (Option Nat)):Ext s l l:=fun h=>⟨h,rfl,rfl⟩
def Live (n:Nat) (t:TS) (s:Nat):Prop:=∃ j z,j<n∧t.tks[j]?=some z∧z.en=false∧z.inn=some s
structure Cs (t t':TS):Prop where
 le:t.tks.length≤t'.tks.length
 tk:∀ (k:Nat) x',k<t.tks.length→t'.tks[k]?=some x'→x'.en=false→∃ x,t.tks[k]?=some x∧x.en=false∧x'.inn=x.inn∧∀ s,Live t.tks.length t' s→Ext s x.opn x'.opn
 sc:∀ (s:Nat) y,t.scs[s]?=some y→∃ y',t'.scs[s]?=some y'∧y'.ow=y.ow
section
variable {t t' t1 t2:TS} {c c' k:Nat}
theorem Cs.refl (t:TS):Cs t t:=⟨Nat.le_refl _,fun k x _ hx he=>⟨x,hx,he,rfl,fun s _=>.refl _ _⟩,fun s y hy=>⟨y,hy,rfl⟩⟩
theorem cs_upS {f:Sc→Sc} (h:∀ y,(f y).ow=y.ow):Cs t (t.upS k f) :=
 ⟨Nat.le_refl _,fun j x _ hx he=>⟨x,hx,he,rfl,fun s _=>.refl _ _⟩,fun s y hy=>by
  refine ⟨if k=s then f y else y,by rw [upS_get,hy];rfl,?_⟩
  split
  ·exact h y
  ·rfl⟩
theorem chainG_cs (C:Cs t t') (ok:TOk c t) (W:WI none t) (ok':TOk c' t') (W':WI none t'):∀ (f k:Nat) (x x':Tk) (top top':Nat),k<f→t.tks[k]?=some x→t'.tks[k]?=some x'→x'.en=false→x'.opn.take top'=x.opn.take top→t'.chainG f k top'=t.chainG f k top
 | 0,k,_,_,_,_,h,_,_,_,_=>by omega
 | f+1,k,x,x',top,top',hk,hx,hx',he',ht=>by
  obtain ⟨x0,hx0,he,hi,_⟩:=C.tk k x' (get_lt' hx) hx' he'
  rw [hx] at hx0;cases hx0
  rw [TS.chainG,TS.chainG]
  simp only [hx,hx',ht]
  cases hs:x.inn with
  | none=>rw [hi,hs]
  | some s =>
   rw [hs] at hi
   obtain ⟨y',z',hy',hz',_,hin',hen',hlt'⟩:=W'.above ok' hx' he' hi
   obtain ⟨y,z,hy,hz,_,hin,hen,hlt⟩:=W.above ok hx he hs
   obtain ⟨y2,hy2,how⟩:=C.sc s y hy
   rw [hy'] at hy2;cases hy2
   rw [how] at hz'
   obtain ⟨z0,hz0,_,_,ez⟩:=C.tk y.ow z' (get_lt' hz) hz' hen'
   rw [hz] at hz0;cases hz0
   obtain ⟨_,e2,e3⟩:=ez s ⟨k,x',get_lt' hx,hx',he',hi⟩ hin
   have:=chainG_cs C ok W ok' W' f y.ow z z' (ixO (some s) z.opn) (ixO (some s) z'.opn) (by omega) hz hz' hen' (by rw [e2,e3])
   simp only [hi,hy,hy',how,hz,hz',this]
theorem chain_run' {x:Tk} (hx:t.tks[k]?=some x) (he:x.en=false):t.chain ((k+1:Nat):Int)=(t.chainG (k+1) k x.opn.length,0):=by
 have hk:=get_lt' hx
 have hr:t.runs ((k+1:Nat):Int)=(some k,0):=by
  unfold TS.runs
  rw [if_neg (by omega),show (((k+1:Nat):Int)-1).toNat=k by omega,hx]
  simp [he]
 unfold TS.chain
 rw [hr]
 simp only [hx]
theorem chain_no {n:Int} (h:∀ (k:Nat) x,n=((k+1:Nat):Int)→t.tks[k]?=some x→x.en=true):(t.chain n).1=[]:=by
 unfold TS.chain
 split
 ·rfl
 ·rename_i k e hq
  obtain ⟨_,rfl,x,hx,he⟩:=runs_some hq
  have:=h k x (by omega) hx
  rw [he] at this;cases this
theorem chainG_push {x:Tk} {l:List (Option Nat)} {e:Option Nat} {f:Nat} (hx:t.tks[k]?=some x) (ho:x.opn=l++[e]):t.chainG (f+1) k x.opn.length=lkP e::t.chainG (f+1) k l.length:=by
 rw [TS.chainG,TS.chainG]
 simp only [hx,ho,List.take_length,List.take_left,List.reverse_append,List.reverse_singleton,List.map_append,List.map_cons,List.map_nil,List.append_assoc,List.singleton_append,List.cons_append,List.nil_append]
end
section
variable {x:GS} {t':TS} {c c':Nat}
theorem pend_iff {n:Int} (h:x.pend n=true):∃ (k:Nat) (y:Tk),n=((k+1:Nat):Int)∧x.t.tks[k]?=some y∧y.en=false:=by
 refine Classical.byContradiction fun hn=>?_
 have:(x.t.chain n).1=[]:=chain_no fun k y hk hy=>by
  cases e:y.en with
  | true=>rfl
  | false=>exact absurd ⟨k,y,hk,hy,e⟩ hn
 rw [GS.pend,this] at h
 cases h
theorem mem_pends {n:Int} (ok:TOk c x.t):n∈x.pends↔x.pend n=true:=by
 rw [GS.pends,List.mem_filter,mem_nums]
 constructor
 ·exact fun h=>h.2
 ·intro h
  obtain ⟨k,y,rfl,hy,_⟩:=pend_iff h
  have:=get_lt' hy
  have:=ok.n64
  exact ⟨by omega,h⟩
theorem pend_same (C:Cs x.t t') (ok:TOk c x.t) (W:WI none x.t) (ok':TOk c' t') (W':WI none t') {k:Nat} {y y':Tk} (hy:x.t.tks[k]?=some y) (hy':t'.tks[k]?=some y') (he':y'.en=false) (ho:y'.opn=y.opn) :
  ({ x with t:=t' }:GS).pend ((k+1:Nat):Int)=x.pend ((k+1:Nat):Int):=by
 obtain ⟨y0,hy0,he,_⟩:=C.tk k y' (get_lt' hy) hy' he'
 rw [hy] at hy0;cases hy0
 simp only [GS.pend,chain_run' hy he,chain_run' hy' he']
 rw [chainG_cs C ok W ok' W' (k+1) k y y' y.opn.length y'.opn.length (by omega) hy hy' he' (by rw [ho])]
theorem pend_push (C:Cs x.t t') (ok:TOk c x.t) (W:WI none x.t) (ok':TOk c' t') (W':WI none t') {k:Nat} {y y':Tk} {e:Option Nat} (hy:x.t.tks[k]?=some y) (hy':t'.tks[k]?=some y') (he':y'.en=false) (ho:y'.opn=y.opn++[e]) :
  ({ x with t:=t' }:GS).pend ((k+1:Nat):Int)=match pendD x.tm x.sm (lkP e) with | some b=>b | none=>x.pend ((k+1:Nat):Int):=by
 obtain ⟨y0,hy0,he,_⟩:=C.tk k y' (get_lt' hy) hy' he'
 rw [hy] at hy0;cases hy0
 simp only [GS.pend,chain_run' hy he,chain_run' hy' he']
 rw [chainG_push hy' ho,chainG_cs C ok W ok' W' (k+1) k y y' y.opn.length y.opn.length (by omega) hy hy' he' (by rw [ho,List.take_left,List.take_length]),pendL]
 try (cases pendD x.tm x.sm (lkP e)<;>rfl)
theorem pend_pop (C:Cs x.t t') (ok:TOk c x.t) (W:WI none x.t) (ok':TOk c' t') (W':WI none t') {k:Nat} {y y':Tk} {e:Option Nat} (hy:x.t.tks[k]?=some y) (hy':t'.tks[k]?=some y') (he':y'.en=false) (ho:y.opn=y'.opn++[e]) :
  x.pend ((k+1:Nat):Int)=match pendD x.tm x.sm (lkP e) with | some b=>b | none=>({ x with t:=t' }:GS).pend ((k+1:Nat):Int):=by
 obtain ⟨y0,hy0,he,_⟩:=C.tk k y' (get_lt' hy) hy' he'
 rw [hy] at hy0;cases hy0
 simp only [GS.pend,chain_run' hy he,chain_run' hy' he']
 rw [chainG_push hy ho,chainG_cs C ok W ok' W' (k+1) k y y' y'.opn.length y'.opn.length (by omega) hy hy' he' (by rw [ho,List.take_left,List.take_length]),pendL]
 try (cases pendD x.tm x.sm (lkP e)<;>rfl)
end
end Go.Proofs.Ytlonjogfeidgfaa.gr
namespace Go.Proofs.Ytlonjogfeidgfaa.gr
open Go Go.Ev Go.Proofs.Ytlonjogfeidgfaa.tr
set_option linter.unusedVariables false
set_option linter.constructorNameAsVariable false
section
variable {t t':TS} {c k:Nat}
theorem chain_two (ok:TOk c t) (W:WI none t) (J:WJ t) {k:Nat} {x:Tk} {n:Int} (hx:t.tks[k]?=some x) (he:x.en=false) (h:((2:Int),n)∈t.chainG (k+1) k x.opn.length) :
  ∃ (s:Nat) (y:Sc),n=((s+1:Nat):Int)∧t.scs[s]?=some y∧((some s∈x.opn∧y.ow=k)∨∃ s0,x.inn=some s0∧Abv t s s0):=by
 rw [TS.chainG] at h
 simp only [hx,List.take_length] at h
 rw [List.mem_append,List.mem_append,List.mem_singleton] at h
 rcases h with (h | h) | h
 ·obtain ⟨v,hv,e⟩:=List.mem_map.1 h
  rw [List.mem_reverse] at hv
  cases v with
  | none=>simp [lkP,lkK] at e
  | some s =>
   obtain ⟨y,hy⟩:∃ y,t.scs[s]?=some y:=⟨_,List.getElem?_eq_getElem (ok.opn k x s hx hv)⟩
   exact ⟨s,y,(congrArg Prod.snd e).symm,hy,.inl ⟨hv,W.ow1 k x s y hx hv hy⟩⟩
 ·simp at h
 ·cases hi:x.inn with
  | none=>rw [hi] at h;cases h
  | some s0 =>
   obtain ⟨y0,z0,hy0,hz0,_,hin,hen,hlt⟩:=W.above ok hx he hi
   simp only [hi,hy0,hz0] at h
   have form:∀ (f k top:Nat),((2:Int),n)∈t.chainG f k top→∃ s:Nat,n=((s+1:Nat):Int):=by
    intro f
    induction f with
    | zero=>intro k top h;cases h
    | succ f ih =>
     intro k top h
     rw [TS.chainG] at h
     split at h
     ·cases h
     ·rw [List.mem_append,List.mem_append,List.mem_singleton] at h
      rcases h with (h | h) | h
      ·obtain ⟨v,hv,e⟩:=List.mem_map.1 h
       cases v with
       | none=>simp [lkP,lkK] at e
       | some s=>exact ⟨s,(congrArg Prod.snd e).symm⟩
      ·simp at h
      ·split at h
       ·cases h
       ·split at h
        ·cases h
        ·split at h
         ·cases h
         ·rcases List.mem_cons.1 h with e | h
          ·rename_i s _ _ _ _ _ _ _
           exact ⟨_,congrArg Prod.snd e⟩
          ·exact ih _ _ h
   obtain ⟨s,rfl⟩:∃ s:Nat,n=((s+1:Nat):Int):=by
    rcases List.mem_cons.1 h with e | h
    ·exact ⟨s0,congrArg Prod.snd e⟩
    ·exact form _ _ _ h
   have ha:=(chain_abv ok W J s0 y0 z0 k hy0 hz0 hin (by omega) hen s).1 h
   have hle:=ha.le J W
   obtain ⟨y,hy⟩:∃ y,t.scs[s]?=some y:=⟨_,List.getElem?_eq_getElem (by have:=get_lt' hy0;omega)⟩
   exact ⟨s,y,rfl,hy,.inr ⟨s0,rfl,ha⟩⟩
theorem below_some {s:Nat} (h:s<t.scs.length):(t.below ((s+1:Nat):Int)).1=t.belowG t.scs.length s:=by
 unfold TS.below TS.scope
 rw [if_neg (by omega),show (((s+1:Nat):Int)-1).toNat=s by omega]
theorem sco_some {s:Nat} {y:Sc} (h:t.scs[s]?=some y):(t.sco ((s+1:Nat):Int)).1=scV y:=by
 have:=get_lt' h
 unfold TS.sco TS.scope
 rw [if_neg (by omega),show (((s+1:Nat):Int)-1).toNat=s by omega]
 simp only [h]
theorem mem_nmI {k:Nat} {l:List Nat}:((k+1:Nat):Int)∈nmI l↔k∈l:=by
 rw [nmI,List.mem_map]
 exact ⟨fun ⟨j,hj,e⟩=>(show j=k by omega)▸hj,fun h=>⟨k,h,rfl⟩⟩
theorem reach_scope (ok:TOk c t) (W:WI none t) (J:WJ t) {k:Nat} {x:Tk} {n:Int} (hx:t.tks[k]?=some x) (he:x.en=false) (h:((2:Int),n)∈t.chainG (k+1) k x.opn.length) :
  ((k+1:Nat):Int)∈(t.sco n).1.ow::nmI (t.below n).1:=by
 obtain ⟨s,y,rfl,hy,⟨h1,h2⟩ | ⟨s0,h1,h2⟩⟩:=chain_two ok W J hx he h
 ·rw [sco_some hy]
  exact List.mem_cons.2 (.inl (by simp [scV,h2]))
 ·rw [below_some (get_lt' hy)]
  exact List.mem_cons_of_mem _ (mem_nmI.2 ((mem_below ok W J _ s (by omega) (get_lt' hy) k).2 ⟨x,s0,hx,he,h1,h2⟩))
end
theorem pendL_mono {tm sm tm' sm':List Int} (h1:∀ n,n∈tm→n∈tm') (h2:∀ n,n∈sm→n∈sm'):∀ {l:List Pr},pendL tm sm l=true→pendL tm' sm' l=true
 | [],h=>by cases h
 | p::l,h=>by
  have ih:=pendL_mono h1 h2 (l:=l)
  simp only [pendL,pendD] at h ⊢
  by_cases c3:p.1=3
  ·simp [c3] at h
  ·by_cases c1:p.1=1∧p.2∈tm
   ·simp [c1.1,h1 _ c1.2]
   ·by_cases c2:p.1=2∧p.2∈sm
    ·simp [c2.1,h2 _ c2.2]
    ·simp only [c3,if_false,c1,c2] at h
     simp only [c3,if_false]
     split
     ·rename_i b e
      split at e
      ·cases e;rfl
      ·split at e
       ·cases e;rfl
       ·cases e
     ·exact ih h
theorem pendL_newS {tm sm:List Int} {n:Int}:∀ {l:List Pr},pendL tm (sm++[n]) l=true→pendL tm sm l=false→((2:Int),n)∈l
 | [],h,_=>by cases h
 | p::l,h,h'=>by
  have ih:=pendL_newS (tm:=tm) (sm:=sm) (n:=n) (l:=l)
  simp only [pendL,pendD] at h h'
  by_cases c3:p.1=3
  ·simp [c3] at h
  ·by_cases c1:p.1=1∧p.2∈tm
   ·simp [c1] at h'
   ·by_cases c2:p.1=2∧p.2∈sm
    ·simp [c2] at h'
    ·by_cases c4:p.1=2∧p.2=n
     ·exact List.mem_cons.2 (.inl (Prod.ext c4.1.symm c4.2.symm))
     ·have c5:¬ (p.1=2∧p.2∈sm++[n]):=fun h=>(List.mem_append.1 h.2).elim (fun h2=>c2 ⟨h.1,h2⟩) fun h2=>c4 ⟨h.1,List.mem_singleton.1 h2⟩
      simp only [c3,if_false,c1,c2,c5] at h h'
      exact List.mem_cons_of_mem _ (ih h h')
theorem toldL_app:∀ l m:List Ef,toldL (l++m)=toldL l++toldL m
 | [],m=>rfl
 | e::l,m=>by simp only [List.cons_append,toldL,toldL_app l m];split<;>rfl
theorem toldL_efP:∀ l:List Int,toldL (l.map efP)=l
 | []=>rfl
 | n::l=>by simp only [List.map_cons,toldL,toldL_efP l];rfl
structure Tl (x:GS) (l:List Ef) (y:GS):Prop where
 up:∀ m,x.pend m=true→y.pend m=true
 told:∀ m,m∈toldL l→x.pend m=false∧y.pend m=true
 all:∀ m,y.pend m=true→x.pend m=false→m∈toldL l
theorem Tl.refl (x:GS):Tl x [] x:=⟨fun _ h=>h,fun m h=>(by cases h),fun m h h'=>by rw [h] at h';cases h'⟩
theorem Tl.same {x y:GS} (h:∀ m,y.pend m=x.pend m):Tl x [] y:=⟨fun m e=>(h m).trans e,fun m h=>(by cases h),fun m e e'=>by rw [h m,e'] at e;cases e⟩
theorem Tl.app {x y z:GS} {l m:List Ef} (a:Tl x l y) (b:Tl y m z):Tl x (l++m) z:=by
 refine ⟨fun n h=>b.up n (a.up n h),fun n h=>?_,fun n h h'=>?_⟩
 ·rw [toldL_app,List.mem_append] at h
  rcases h with h | h
  ·exact ⟨(a.told n h).1,b.up n (a.told n h).2⟩
  ·obtain ⟨h1,h2⟩:=b.told n h
   refine ⟨?_,h2⟩
   cases e:x.pend n with
   | false=>rfl
   | true=>rw [a.up n e] at h1;cases h1
 ·rw [toldL_app,List.mem_append]
  cases e:y.pend n with
  | true=>exact .inl (a.all n e h')
  | false=>exact .inr (b.all n h e)
theorem mark_up {x:GS} {b:Bool} {n:Int} (m:Int) (h:x.pend m=true):(x.mark n b).pend m=true:=by
 cases b
 ·exact pendL_mono (fun _ h=>h) (fun _ h=>List.mem_append_left _ h) h
 ·exact pendL_mono (fun _ h=>List.mem_append_left _ h) (fun _ h=>h) h
theorem strike_tl {x:GS} {b:Bool} {n:Int} {l:List Int} (hr:∀ m,(x.mark n b).pend m=true→x.pend m=false→m∈l):Tl x (x.strike b n l).2 (x.strike b n l).1:=by
 unfold GS.strike
 split
 ·exact .refl x
 ·refine ⟨fun m h=>mark_up m h,fun m h=>?_,fun m h h'=>?_⟩
  ·rw [toldL_efP,List.mem_filter] at h
   have h2:=List.mem_filter.1 h.1
   exact ⟨by simpa using h2.2,h.2⟩
  ·rw [toldL_efP,List.mem_filter]
   exact ⟨List.mem_filter.2 ⟨hr m h h',by simp [h']⟩,h⟩
section
variable {x:GS} {c k:Nat}
theorem strikes_tl (ok:TOk c x.t) (W:WI none x.t) (J:WJ x.t) (n:Int):Tl x (x.strikes n).2 (x.strikes n).1:=by
 refine strike_tl fun m h h'=>?_
 obtain ⟨k,y,rfl,hy,he⟩:=pend_iff h
 have hy:x.t.tks[k]?=some y:=hy
 have e1:=chain_run' hy he
 have h2:pendL x.tm (x.sm++[n]) (x.t.chain ((k+1:Nat):Int)).1=true:=h
 have h3:pendL x.tm x.sm (x.t.chain ((k+1:Nat):Int)).1=false:=h'
 rw [e1] at h2 h3
 exact reach_scope ok W J hy he (pendL_newS h2 h3)
theorem turned_tl:∀ (l:List Ef) {x:GS},TOk c x.t→WI none x.t→WJ x.t→(∀ e,e∈l→e.kind≠2)→Tl x (x.turned l).2 (x.turned l).1
 | [],x,ok,W,J,h=>.refl x
 | e::l,x,ok,W,J,h=>by
  have ht:(x.strikes e.n).1.t=x.t:=strike_t _ _ _ _
  rw [GS.turned];split
  ·exact (strikes_tl ok W J e.n).app (turned_tl l (x:=(x.strikes e.n).1) (ht▸ok) (ht▸W) (ht▸J) fun e' h'=>h e' (List.mem_cons_of_mem _ h'))
  ·have h2:=turned_tl l ok W J fun e' h'=>h e' (List.mem_cons_of_mem _ h')
   have hk:=h e (List.mem_cons_self ..)
   exact ⟨h2.up,fun m hm=>h2.told m (by rwa [toldL,if_neg hk] at hm),fun m a b=>by rw [toldL,if_neg hk];exact h2.all m a b⟩
end
end Go.Proofs.Ytlonjogfeidgfaa.gr
namespace Go.Proofs.Ytlonjogfeidgfaa.gr
open Go Go.Ev Go.Proofs.Ytlonjogfeidgfaa.tr
set_option linter.unusedVariables false
set_option linter.constructorNameAsVariable false
section
variable {t t':TS} {c c' k:Nat}
theorem cs_blame (s:Nat) (fk:Int) (ft:ByteArray):Cs t (t.blame s fk ft).1:=by
 unfold TS.blame
 split
 ·split
  ·exact cs_upS fun _=>rfl
  ·exact .refl t
 ·exact .refl t
theorem cs_fail (n fk:Int) (ft:ByteArray):Cs t (t.fail n fk ft).1:=by
 unfold TS.fail
 split
 ·exact .refl t
 ·split
  ·exact .refl t
  ·split
   ·exact .refl t
   ·split
    ·exact cs_blame _ _ _
    ·exact .refl t
def Fn (t t':TS):Prop:=∀ (j:Nat) x',t'.tks[j]?=some x'→x'.en=false→∃ x,t.tks[j]?=some x∧(x'.opn=x.opn∨∃ s,x.opn=x'.opn++[some s])
def Fs (n:Option Nat) (t t':TS):Prop:=∀ (j:Nat) x,t.tks[j]?=some x→x.en=false→(n=some j∧∀ x',t'.tks[j]?=some x'→x'.en=true)∨∃ x',t'.tks[j]?=some x'∧x'.en=false∧x'.opn=x.opn
theorem fn_tks (h:t'.tks=t.tks):Fn t t':=fun j x' hx' _=>⟨x',by rw [← h];exact hx',.inl rfl⟩
theorem fs_tks (h:t'.tks=t.tks):Fs none t t':=fun j x hx he=>.inr ⟨x,by rw [h];exact hx,he,rfl⟩
theorem fail_tks (t:TS) (n fk:Int) (ft:ByteArray):(t.fail n fk ft).1.tks=t.tks:=by
 unfold TS.fail
 split
 ·rfl
 ·split
  ·rfl
  ·split
   ·rfl
   ·split
    ·exact blame_tks
    ·rfl
end
section
variable {x:GS} {t':TS} {c c':Nat}
theorem pend_fn (C:Cs x.t t') (ok:TOk c x.t) (W:WI none x.t) (ok':TOk c' t') (W':WI none t') (F:Fn x.t t') {n:Int} (h:({ x with t:=t' }:GS).pend n=true) (hn:n≤x.t.tks.length):x.pend n=true:=by
 obtain ⟨k,y',rfl,hy',he'⟩:=pend_iff h
 obtain ⟨y,hy,ho | ⟨s,ho⟩⟩:=F k y' hy' he'
 ·rw [← pend_same C ok W ok' W' hy hy' he' ho];exact h
 ·rw [pend_pop C ok W ok' W' hy hy' he' ho,h]
  have:pendD x.tm x.sm (lkP (some s))=some true∨pendD x.tm x.sm (lkP (some s))=none:=by
   simp only [pendD,lkP,lkK]
   by_cases c2:lkN (some s)∈x.sm
   ·left;simp [c2]
   ·right;simp [c2]
  rcases this with e | e<;>rw [e]
theorem pend_fn' (C:Cs x.t t') (ok:TOk c x.t) (W:WI none x.t) (ok':TOk c' t') (W':WI none t') (F:Fn x.t t') {n:Int} (h:({ x with t:=t' }:GS).pend n=true):x.pend n=true:=by
 obtain ⟨k,y',rfl,hy',he'⟩:=pend_iff h
 obtain ⟨y,hy,_⟩:=F k y' hy' he'
 have:=get_lt' hy
 exact pend_fn C ok W ok' W' F h (by omega)
theorem pend_fs (C:Cs x.t t') (ok:TOk c x.t) (W:WI none x.t) (ok':TOk c' t') (W':WI none t') {e:Option Nat} (F:Fs e x.t t') {n:Int} (h:x.pend n=true):(∃ j:Nat,e=some j∧n=((j+1:Nat):Int)∧∀ x',t'.tks[j]?=some x'→x'.en=true)∨({ x with t:=t' }:GS).pend n=true:=by
 obtain ⟨k,y,rfl,hy,he⟩:=pend_iff h
 rcases F k y hy he with ⟨h1,h2⟩ | ⟨y',hy',he',ho⟩
 ·exact .inl ⟨k,h1,rfl,h2⟩
 ·right
  rw [pend_same C ok W ok' W' hy hy' he' ho];exact h
theorem pend_eq (C:Cs x.t t') (ok:TOk c x.t) (W:WI none x.t) (ok':TOk c' t') (W':WI none t') (F:Fn x.t t') (F2:Fs none x.t t') (n:Int):({ x with t:=t' }:GS).pend n=x.pend n:=by
 cases e:x.pend n with
 | true =>
  rcases pend_fs C ok W ok' W' F2 e with ⟨j,h,_⟩ | h
  ·cases h
  ·exact h
 | false =>
  cases e':({ x with t:=t' }:GS).pend n with
  | false=>rfl
  | true=>rw [pend_fn' C ok W ok' W' F e'] at e;cases e
end
end Go.Proofs.Ytlonjogfeidgfaa.gr
namespace Go.Proofs.Ytlonjogfeidgfaa.gr
open Go Go.Ev Go.Proofs.Ytlonjogfeidgfaa.tr
set_option linter.unusedVariables false
set_option linter.constructorNameAsVariable false
section
variable {t:TS} {c k:Nat}
theorem fail_kinds (n fk:Int) (ft:ByteArray):∀ e,e∈(t.fail n fk ft).2.1→e.kind=1∧e.n≤t.scs.length:=by
 intro e he
 unfold TS.fail at he
 split at he
 ·cases he
 ·rename_i s _ hq
  obtain ⟨_,h1,h2⟩:=scope_some hq
  split at he
  ·cases he
  ·split at he
   ·cases he
   ·split at he
    ·simp only at he
     split at he
     ·rw [List.mem_singleton] at he;subst he
      refine ⟨rfl,?_⟩
      show n≤_
      omega
     ·cases he
    ·cases he
end
end Go.Proofs.Ytlonjogfeidgfaa.gr
namespace Go.Proofs.Ytlonjogfeidgfaa.gr
open Go Go.Ev Go.Proofs.Ytlonjogfeidgfaa.tr
set_option linter.unusedVariables false
set_option linter.constructorNameAsVariable false
section
variable {x:GS} {t':TS} {c k:Nat}
theorem late_tl {k:Nat} (o:GOk k x):Tl x x.lateF.2.1 x.lateF.1:=by
 obtain ⟨c,a,b,d,e⟩:=o
 have C:=cs_fail (t:=x.t) (popP x.du).2 1 c13p.late
 have T1:Tl x [] ({ x.pop with t:=(x.t.fail (popP x.du).2 1 c13p.late).1 }:GS) :=
  Tl.same fun m=>pend_eq C a b a.fail (b.fail _ _ _) (fn_tks (fail_tks _ _ _ _)) (fs_tks (fail_tks _ _ _ _)) m
 have T2:=turned_tl (x.t.fail (popP x.du).2 1 c13p.late).2.1 (x:=({ x.pop with t:=(x.t.fail (popP x.du).2 1 c13p.late).1 }:GS)) (c:=c+1) a.fail (b.fail _ _ _) (d.fail a _ _ _) fun e he=>by
  have:=(fail_kinds (popP x.du).2 1 c13p.late e he).1
  omega
 exact T1.app T2
theorem come_tl {k:Nat} (o:GOk k x):Tl x (x.lateF.2.1++x.come.2) x.come.1:=by
 obtain ⟨⟨c,a,b,d,_⟩,_⟩:=lateF_ok o
 exact (late_tl o).app (strikes_tl a b d _)
theorem expF_tl:∀ (f:Nat) {x:GS} {k:Nat} (now:Int),GOk k x→Tl x (expF f x now).2 (expF f x now).1
 | 0,x,k,now,o=>.refl x
 | f+1,x,k,now,o=>by
  unfold gr.expF;split
  ·exact .refl x
  ·rename_i p r e
   split
   ·have T1:=come_tl o
    have T2:Tl x.come.1 [] x.come.1.over:=Tl.same fun m=>rfl
    have T3:=expF_tl f now (o.come (by rw [e];simp)).over
    exact T1.app (T2.app T3)
   ·exact .refl x
theorem expire_tl {k:Nat} (o:GOk k x) (now:Int):Tl x (x.expire now).2 (x.expire now).1:=by
 have T2:Tl x [] x.over:=Tl.same fun m=>rfl
 exact T2.app (expF_tl _ now o.over)
end
end Go.Proofs.Ytlonjogfeidgfaa.gr
namespace Go.Proofs.Ytlonjogfeidgfaa.gr
open Go Go.Ev Go.Proofs.Ytlonjogfeidgfaa.tr
set_option maxRecDepth 100000
set_option linter.unusedVariables false
set_option linter.constructorNameAsVariable false
theorem chunks {α:Type} (f:α→List Value) {z:Nat} (hz:∀ x,(f x).length=z):∀ (n:Nat) (c:List Value),c.length=n*z→(∀ k,k<n→∃ x,(c.drop (k*z)).take z=f x) →
  ∃ l:List α,l.length=n∧c=l.flatMap f∧∀ k x,l[k]?=some x→(c.drop (k*z)).take z=f x
 | 0,c,hl,_=>⟨[],rfl,List.length_eq_zero_iff.1 (by simpa using hl),fun k x h=>by simp at h⟩
 | n+1,c,hl,hc=>by
  have hs:(n+1)*z=n*z+z:=by rw [Nat.add_mul,Nat.one_mul]
  obtain ⟨x,hx⟩:=hc 0 (by omega)
  obtain ⟨l,h1,h2,h3⟩:=chunks f hz n (c.drop z) (by rw [List.length_drop,hl,hs];omega) (fun k hk=>by
   obtain ⟨y,hy⟩:=hc (k+1) (by omega)
   refine ⟨y,?_⟩
   rw [List.drop_drop,← hy,Nat.add_mul,Nat.one_mul,Nat.add_comm])
  refine ⟨x::l,by simp [h1],?_,fun k y hy=>?_⟩
  ·rw [List.flatMap_cons,← h2,← hx,Nat.zero_mul,List.drop_zero,List.take_append_drop]
  ·cases k with
   | zero=>simp at hy;subst hy;exact hx
   | succ k =>
    have:=h3 k y (by simpa using hy)
    rw [List.drop_drop,Nat.add_comm z] at this
    rw [Nat.add_mul,Nat.one_mul];exact this
theorem opC_flat:∀ l:List OpV,l.flatMap OpV.cells=opC l
 | []=>rfl
 | x::l=>by rw [List.flatMap_cons,opC_flat l];rfl
section
variable {h:Hp} {F:Nat}
theorem c3:Try.prog.cellsOf 3=1:=by kernel_rfl
theorem c4:Try.prog.cellsOf 4=1:=by kernel_rfl
theorem c9:Try.prog.cellsOf 9=1:=by kernel_rfl
theorem c29:Try.prog.cellsOf 29=2:=by kernel_rfl
theorem c31:Try.prog.cellsOf 31=6:=by kernel_rfl
theorem u3:Try.prog.underlying 3=some (.int .i64):=by kernel_rfl
theorem u4:Try.prog.underlying 4=some .bool:=by kernel_rfl
theorem u9:Try.prog.underlying 9=some .string:=by kernel_rfl
theorem u22:Try.prog.underlying 22=some (.slice 31):=by kernel_rfl
theorem op_cells {cs:List Value} (hc:ATyped Try.prog h F 31 cs):∃ x:OpV,cs=x.cells:=by
 obtain ⟨G,rfl,hl,hf⟩:=hc.asStruct Try.underlying31
 rw [c31] at hl
 match cs,hl with
 | [a,b,m,c,d,e],_ =>
  simp only [List.forall_mem_cons,c3,c4,c29] at hf
  obtain ⟨k,h1,_⟩:=hf.1.asInt u3
  obtain ⟨n,h2,_⟩:=hf.2.1.asInt u3
  obtain ⟨m,h6,_⟩:=hf.2.2.1.asInt u3
  obtain ⟨t,h3⟩:=hf.2.2.2.1.asBool u4
  obtain ⟨G,rfl,hl,hg⟩:=hf.2.2.2.2.1.asStruct Try.underlying29
  simp only [List.forall_mem_cons,c3,c9] at hg
  obtain ⟨f,h4,_⟩:=hg.1.asInt u3
  obtain ⟨s,h5,_⟩:=hg.2.1.asString u9
  simp at h1 h2 h3 h4 h5 h6
  subst h1;subst h2;subst h3;subst h4;subst h5;subst h6
  exact ⟨⟨k,n,m,t,f,s⟩,rfl⟩
theorem ops_arg {a:Value} (ht:ArgTyped Try.prog h F 22 a):∃ l:List OpV,OpsAt h a l:=by
 obtain ⟨G,rfl,rfl | ⟨i,len,c,rfl,hi,hl,_,hk⟩⟩:=ht.asSlice u22
 ·exact ⟨[],.inl ⟨rfl,rfl⟩⟩
 ·rw [c31] at hl hk
  obtain ⟨l,h1,h2,_⟩:=chunks OpV.cells (z:=6) (fun _=>rfl) len c hl (fun k hlt=>op_cells (hk k hlt))
  rw [opC_flat] at h2
  exact ⟨l,.inr ⟨i,false,by rw [c31,h1],by rw [← h2];exact hi⟩⟩
end
end Go.Proofs.Ytlonjogfeidgfaa.gr
namespace Go.Proofs.Ytlonjogfeidgfaa.gr
open Go Go.Ev Go.Proofs.Ytlonjogfeidgfaa.tr
set_option linter.unusedVariables false
set_option linter.constructorNameAsVariable false
def Ch (i j:Nat):Prop:=j=2*i+1∨j=2*i+2
def HPn (n:Nat) (l:List Pr):Prop:=∀ i j p q,Ch i j→j<n→l[i]?=some p→l[j]?=some q→p.1≤q.1
def HP (l:List Pr):Prop:=HPn l.length l
theorem less_le {p q:Pr} (h:lessP p q=true):p.1≤q.1:=by
 unfold lessP at h;split at h
 ·omega
 ·have:=of_decide_eq_true h;omega
theorem less_ge {p q:Pr} (h:lessP p q=false):q.1≤p.1:=by
 unfold lessP at h;split at h
 ·omega
 ·have:=of_decide_eq_false h;omega
theorem hp_root {l:List Pr} (H:HP l) {p:Pr} (h0:l[0]?=some p):∀ (j:Nat) (q:Pr),l[j]?=some q→p.1≤q.1:=by
 intro j
 induction j using Nat.strongRecOn with
 | ind j ih =>
  intro q hq
  by_cases hj:j=0
  ·subst hj;rw [h0] at hq;cases hq;exact Int.le_refl _
  ·have hl:=get_lt' hq
   obtain ⟨r,hr⟩:∃ r,l[(j-1) / 2]?=some r:=⟨_,List.getElem?_eq_getElem (by omega)⟩
   have h1:=ih ((j-1) / 2) (by omega) r hr
   have h2:=H ((j-1) / 2) j r q (by unfold Ch;omega) hl hr hq
   omega
theorem hp_min {l r:List Pr} {p:Pr} (H:HP l) (e:l=p::r):∀ q,q∈l→p.1≤q.1:=fun q hq=>by
 obtain ⟨j,hj⟩:=List.getElem?_of_mem hq
 exact hp_root H (by rw [e];rfl) j q hj
theorem swp_at {l:List Pr} {a b:Nat} {p q:Pr} (ha:l[a]?=some p) (hb:l[b]?=some q) (k:Nat):(swp l a b)[k]?=if k=b then some p else if k=a then some q else l[k]?:=by
 have la:=get_lt' ha
 have lb:=get_lt' hb
 simp only [swp,ha,hb]
 by_cases h1:k=b
 ·subst h1
  rw [if_pos rfl,List.getElem?_set_self (by simpa using lb)]
 ·rw [if_neg h1,List.getElem?_set_ne (Ne.symm h1)]
  by_cases h2:k=a
  ·subst h2
   rw [if_pos rfl,List.getElem?_set_self la]
  ·rw [if_neg h2,List.getElem?_set_ne (Ne.symm h2)]
def UpI (j:Nat) (l:List Pr):Prop :=
 (∀ i k p q,Ch i k→k≠j→l[i]?=some p→l[k]?=some q→p.1≤q.1)∧(∀ i k p q,Ch i j→Ch j k→l[i]?=some p→l[k]?=some q→p.1≤q.1)
theorem upF_hp:∀ (f j:Nat) (l:List Pr),j<f→UpI j l→HP (upF f j l)
 | 0,j,l,h,_=>by omega
 | f+1,0,l,h,U=>fun i k p q c hk hp hq=>U.1 i k p q c (by unfold Ch at c;omega) hp hq
 | f+1,j+1,l,h,U=>by
  obtain ⟨U1,U2⟩:=U
  simp only [upF]
  have stop:(∀ p q,l[j / 2]?=some p→l[j+1]?=some q→p.1≤q.1)→HP l:=fun hs i k p q c hk hp hq=>by
   by_cases e:k=j+1
   ·subst e
    have:i=j / 2:=by unfold Ch at c;omega
    subst this
    exact hs p q hp hq
   ·exact U1 i k p q c e hp hq
  split
  ·rename_i p q hp hq
   split
   ·rename_i hl
    have hle:=less_le hl
    refine upF_hp f (j / 2) _ (by omega) ⟨fun i k a b c hne ha hb=>?_,fun i k a b c1 c2 ha hb=>?_⟩
    ·rw [swp_at hq hp] at ha hb
     by_cases k1:k=j+1
     ·rw [if_pos k1] at hb;cases hb
      have:i=j / 2:=by unfold Ch at c;omega
      rw [if_neg (by omega),if_pos this] at ha;cases ha
      exact hle
     ·rw [if_neg k1,if_neg hne] at hb
      by_cases i1:i=j+1
      ·rw [if_pos i1] at ha;cases ha
       exact U2 (j / 2) k _ _ (by unfold Ch;omega) (by rw [← i1];exact c) hq hb
      ·rw [if_neg i1] at ha
       by_cases i2:i=j / 2
       ·rw [if_pos i2] at ha;cases ha
        have:=U1 (j / 2) k q b (by rw [← i2];exact c) k1 hq hb
        omega
       ·rw [if_neg i2] at ha
        exact U1 i k a b c k1 ha hb
    ·rw [swp_at hq hp] at ha hb
     have hi:i<j / 2:=by unfold Ch at c1;omega
     rw [if_neg (by omega),if_neg (by omega)] at ha
     have h1:=U1 i (j / 2) a q c1 (by omega) ha hq
     by_cases k1:k=j+1
     ·rw [if_pos k1] at hb;cases hb
      exact h1
     ·rw [if_neg k1,if_neg (by unfold Ch at c2;omega)] at hb
      have:=U1 (j / 2) k q b c2 k1 hq hb
      omega
   ·rename_i hl
    have hge:=less_ge hl
    exact stop fun a b ha hb=>by rw [hq] at ha;rw [hp] at hb;cases ha;cases hb;exact hge
  ·rename_i hno
   exact stop fun a b ha hb=>(hno b a hb ha).elim
theorem hp_push {l:List Pr} (H:HP l) (p:Pr):HP (upF (l.length+1) l.length (l++[p])):=by
 refine upF_hp _ _ _ (by omega) ⟨fun i k a b c hne ha hb=>?_,fun i k a b c1 c2 ha hb=>?_⟩
 ·have hk:=get_lt' hb
  rw [List.length_append,List.length_singleton] at hk
  have hi:i<k:=by unfold Ch at c;omega
  rw [List.getElem?_append_left (by omega)] at ha hb
  exact H i k a b c (by omega) ha hb
 ·have hk:=get_lt' hb
  rw [List.length_append,List.length_singleton] at hk
  unfold Ch at c2;omega
def DnI (n k:Nat) (l:List Pr):Prop :=
 (∀ i j p q,Ch i j→j<n→i≠k→l[i]?=some p→l[j]?=some q→p.1≤q.1)∧(∀ i j p q,Ch i k→Ch k j→j<n→l[i]?=some p→l[j]?=some q→p.1≤q.1)
theorem dnC_min {l:List Pr} {n k:Nat} (hn:n≤l.length) (hk:2*k+1<n) :
  Ch k (dnC l n (2*k+1))∧dnC l n (2*k+1)<n∧∀ j p q,Ch k j→j<n→l[dnC l n (2*k+1)]?=some p→l[j]?=some q→p.1≤q.1:=by
 obtain ⟨a,ha⟩:∃ a,l[2*k+1]?=some a:=⟨_,List.getElem?_eq_getElem (by omega)⟩
 unfold dnC
 by_cases h1:2*k+1+1<n
 ·obtain ⟨b,hb⟩:∃ b,l[2*k+1+1]?=some b:=⟨_,List.getElem?_eq_getElem (by omega)⟩
  rw [if_pos h1]
  simp only [hb,ha]
  cases hl:lessP b a with
  | true =>
   have hle:=less_le hl
   simp only [if_true]
   refine ⟨.inr rfl,h1,fun j p q c hj hp hq=>?_⟩
   rw [hb] at hp;cases hp
   rcases c with rfl | rfl
   ·rw [ha] at hq;cases hq;exact hle
   ·rw [hb] at hq;cases hq;exact Int.le_refl _
  | false =>
   have hge:=less_ge hl
   simp only [Bool.false_eq_true,if_false]
   refine ⟨.inl rfl,by omega,fun j p q c hj hp hq=>?_⟩
   rw [ha] at hp;cases hp
   rcases c with rfl | rfl
   ·rw [ha] at hq;cases hq;exact Int.le_refl _
   ·rw [hb] at hq;cases hq;exact hge
 ·rw [if_neg h1]
  refine ⟨.inl rfl,hk,fun j p q c hj hp hq=>?_⟩
  rcases c with rfl | rfl
  ·rw [hp] at hq;cases hq;exact Int.le_refl _
  ·omega
theorem downF_hp:∀ (f k n:Nat) (l:List Pr),n≤l.length→n-k≤f→DnI n k l→HPn n (downF f k n l)
 | 0,k,n,l,hn,h,D=>fun i j p q c hj hp hq=>by
  by_cases e:i=k
  ·subst e;unfold Ch at c;omega
  ·exact D.1 i j p q c hj e hp hq
 | f+1,k,n,l,hn,h,D=>by
  obtain ⟨D1,D2⟩:=D
  simp only [downF]
  split
  ·rename_i hend
   exact fun i j p q c hj hp hq=>by
    by_cases e:i=k
    ·subst e;unfold Ch at c;omega
    ·exact D1 i j p q c hj e hp hq
  ·rename_i hend
   obtain ⟨C1,C2,C3⟩:=dnC_min hn (k:=k) (by omega)
   generalize dnC l n (2*k+1)=d at C1 C2 C3 ⊢
   have stop:(∀ p q,l[k]?=some p→l[d]?=some q→p.1≤q.1)→HPn n l:=fun hs i j p q c hj hp hq=>by
    by_cases e:i=k
    ·subst e
     obtain ⟨a,ha⟩:∃ a,l[d]?=some a:=⟨_,List.getElem?_eq_getElem (by omega)⟩
     have h1:=hs p a hp ha
     have h2:=C3 j a q c hj ha hq
     omega
    ·exact D1 i j p q c hj e hp hq
   split
   ·rename_i p q hp hq
    split
    ·rename_i hl
     have hle:=less_le hl
     have hkd:k<d:=by unfold Ch at C1;omega
     refine downF_hp f d n _ (by rw [swp_len];exact hn) (by omega) ⟨fun i j a b c hj hne ha hb=>?_,fun i j a b c1 c2 hj ha hb=>?_⟩
     ·rw [swp_at hq hp] at ha hb
      rw [if_neg hne] at ha
      by_cases i1:i=k
      ·rw [if_pos i1] at ha;cases ha
       by_cases j1:j=d
       ·rw [if_pos j1] at hb;cases hb
        exact hle
       ·rw [if_neg j1,if_neg (by unfold Ch at c;omega)] at hb
        exact C3 j _ b (by rw [← i1];exact c) hj hp hb
      ·rw [if_neg i1] at ha
       by_cases j1:j=d
       ·exact absurd c (by unfold Ch at C1 ⊢;omega)
       ·rw [if_neg j1] at hb
        by_cases j2:j=k
        ·rw [if_pos j2] at hb;cases hb
         exact D2 i d a _ (by rw [← j2];exact c) C1 C2 ha hp
        ·rw [if_neg j2] at hb
         exact D1 i j a b c hj i1 ha hb
     ·rw [swp_at hq hp] at ha hb
      have hi:i=k:=by unfold Ch at c1 C1;omega
      have hjd:d<j:=by unfold Ch at c2;omega
      rw [if_neg (by omega),if_pos hi] at ha;cases ha
      rw [if_neg (by omega),if_neg (by omega)] at hb
      exact D1 d j _ b c2 hj (by omega) hp hb
    ·rename_i hl
     have hge:=less_ge (Bool.eq_false_iff.2 hl)
     exact stop fun a b ha hb=>by rw [hq] at ha;rw [hp] at hb;cases ha;cases hb;exact hge
   ·rename_i hno
    exact stop fun a b ha hb=>(hno b a hb ha).elim
theorem hp_popped {l:List Pr} (H:HP l):HP (popped l):=by
 have hl:(popped l).length=l.length-1:=popped_len l
 have key:HPn (l.length-1) (popL l):=by
  unfold popL
  refine downF_hp _ _ _ _ (by rw [swp_len];omega) (by omega) ⟨fun i j p q c hj hne hp hq=>?_,fun i j p q c1 _ _ _ _=>by unfold Ch at c1;omega⟩
  obtain ⟨a,ha⟩:∃ a,l[0]?=some a:=⟨_,List.getElem?_eq_getElem (by omega)⟩
  obtain ⟨b,hb⟩:∃ b,l[l.length-1]?=some b:=⟨_,List.getElem?_eq_getElem (by omega)⟩
  have hij:i<j:=by unfold Ch at c;omega
  rw [swp_at ha hb,if_neg (by omega),if_neg (by omega)] at hp hq
  exact H i j p q c (by omega) hp hq
 intro i j p q c hj hp hq
 rw [hl] at hj
 have hij:i<j:=by unfold Ch at c;omega
 unfold popped at hp hq
 rw [List.getElem?_take_of_lt (by omega)] at hp hq
 exact key i j p q c hj hp hq
section
variable {x:GS} {k:Nat}
theorem overF_hp:∀ (f:Nat) (t:TS) {l:List Pr},HP l→HP (overF f t l)
 | 0,_,_,H=>H
 | f+1,t,[],H=>H
 | f+1,t,p::l,H=>by
  simp only [overF]
  split
  ·exact overF_hp f t (hp_popped H)
  ·exact H
theorem hp_over (H:HP x.du):HP x.over.du:=overF_hp _ _ H
theorem hp_come (H:HP x.du):HP x.come.1.du:=by rw [come_du];exact hp_popped H
theorem hp_expF:∀ (f:Nat) {x:GS} (now:Int),HP x.du→HP (expF f x now).1.du
 | 0,x,now,H=>H
 | f+1,x,now,H=>by
  unfold gr.expF;split
  ·exact H
  ·split
   ·exact hp_expF f now (hp_over (hp_come H))
   ·exact H
theorem hp_expire (H:HP x.du) (now:Int):HP (x.expire now).1.du:=hp_expF _ now (hp_over H)
theorem after_du (x:GS) (r:TS×List Ef×Int):(x.after r).1.du=x.du:=turned_du _ _
theorem hp_run (H:HP x.du) (o:OpV):HP (x.run o).1.du:=by
 unfold GS.run
 repeat' split
 ·unfold GS.open;split
  ·exact hp_push H _
  ·exact H
 ·exact H
 ·show HP (x.after _).1.du;rw [after_du];exact H
 ·show HP (x.after _).1.du;rw [after_du];exact H
 ·exact H
 ·exact H
 ·show HP (x.after _).1.du;rw [after_du];exact H
 ·exact H
 ·show HP (x.strikeT o.n).1.du
  unfold GS.strikeT;split
  ·exact H
  ·show HP (x.strike _ _ _).1.du;rw [strike_du];exact H
 ·exact hp_expire H _
 ·exact H
theorem hp_runL:∀ (l:List OpV) {x:GS},HP x.du→HP (x.runL l).du
 | [],_,H=>H
 | o::l,_,H=>hp_runL l (hp_run H o)
theorem hp_roots (n:Nat):HP (GS.roots n).du:=fun i j p q c hj hp hq=>by cases hp
theorem overF_end:∀ (f:Nat) (t:TS) (l:List Pr),l.length≤f→overF f t l=[]∨∃ p r,overF f t l=p::r∧(t.sco p.2).1.ov=false
 | 0,t,l,h=>.inl (by have:l=[]:=List.length_eq_zero_iff.1 (by omega);rw [this];rfl)
 | f+1,t,[],h=>.inl rfl
 | f+1,t,p::l,h=>by
  simp only [overF]
  split
  ·exact overF_end f t _ (by rw [popped_len];simp at h ⊢;omega)
  ·rename_i hn
   exact .inr ⟨p,l,rfl,Bool.eq_false_iff.2 hn⟩
theorem over_over (x:GS):x.over.over=x.over:=by
 have e:overF x.over.du.length x.t x.over.du=x.over.du:=by
  rcases overF_end x.du.length x.t x.du (Nat.le_refl _) with h | ⟨p,r,h,hv⟩
  ·have h:x.over.du=[]:=h
   rw [h];rfl
  ·have h:x.over.du=p::r:=h
   rw [h,List.length_cons,overF,hv];rfl
 show { x.over with du:=overF x.over.du.length x.t x.over.du }=x.over
 rw [e]
theorem expF_end:∀ (f:Nat) {x:GS} (now:Int),x.du.length≤f→x.over=x→(∀ p r,(expF f x now).1.du=p::r→now<p.1)∧(expF f x now).1.over=(expF f x now).1
 | 0,x,now,h,e=>⟨fun p r hp=>(by
   have:x.du=p::r:=hp
   rw [this] at h;simp at h),e⟩
 | f+1,x,now,h,e=>by
  unfold gr.expF
  split
  ·rename_i h0
   exact ⟨fun p r hp=>(by rw [h0] at hp;cases hp),e⟩
  ·rename_i p r hd
   split
   ·refine expF_end f now ?_ (over_over _)
    have h2:=over_du_len x.come.1
    rw [come_du,popped_len] at h2
    omega
   ·rename_i hn
    exact ⟨fun q s hq=>(by rw [hd] at hq;cases hq;omega),e⟩
theorem expF_stop {f:Nat} {x:GS} {now:Int} (h:∀ p r,x.du=p::r→now<p.1):expF f x now=(x,[]):=by
 cases f with
 | zero=>rfl
 | succ f =>
  unfold gr.expF;split
  ·rfl
  ·rename_i p r hd
   rw [if_neg (by have:=h p r hd;omega)]
theorem strike_kind (x:GS) (b:Bool) (n:Int) (l:List Int):∀ e,e∈(x.strike b n l).2→e.kind=2:=by
 intro e he
 unfold GS.strike at he
 split at he
 ·cases he
 ·obtain ⟨m,_,rfl⟩:=List.mem_map.1 he
  rfl
theorem turned_kind:∀ (l:List Ef) (x:GS),(∀ e,e∈l→e.kind=1)→∀ e,e∈(x.turned l).2→e.kind=2
 | [],x,h,e,he=>by cases he
 | a::l,x,h,e,he=>by
  rw [GS.turned,if_pos (h a (List.mem_cons_self ..))] at he
  rcases List.mem_append.1 he with he | he
  ·exact strike_kind _ _ _ _ e he
  ·exact turned_kind l _ (fun e h'=>h e (List.mem_cons_of_mem _ h')) e he
theorem late_kind (x:GS):∀ e,e∈x.lateF.2.1→e.kind=2 :=
 turned_kind _ _ fun e he=>(fail_kinds _ _ _ e he).1
theorem expF_kind:∀ (f:Nat) (x:GS) (now:Int),∀ e,e∈(expF f x now).2→e.kind=2
 | 0,x,now,e,he=>by cases he
 | f+1,x,now,e,he=>by
  unfold gr.expF at he
  split at he
  ·cases he
  ·split at he
   ·rcases List.mem_append.1 he with he | he
    ·rcases List.mem_append.1 he with he | he
     ·exact late_kind x e he
     ·exact strike_kind _ _ _ _ e he
    ·exact expF_kind f _ now e he
   ·cases he
theorem mem_told:∀ {l:List Ef} {e:Ef},e∈l→e.kind=2→e.n∈toldL l
 | a::l,e,h,hk=>by
  rw [toldL]
  rcases List.mem_cons.1 h with rfl | h
  ·rw [if_pos hk];exact List.mem_cons_self ..
  ·have:=mem_told h hk
   split
   ·exact List.mem_cons_of_mem _ this
   ·exact this
theorem come_ok (o:GOk k x) (H:HP x.du) (now:Int):comeOk x now:=by
 have o1:=o.over
 have H1:HP x.over.du:=hp_over H
 have e1:x.over.expire now=expF x.over.du.length x.over now:=by
  show expF x.over.over.du.length x.over.over now=_
  rw [over_over]
 have T:=expire_tl o1 now
 have K:=expF_kind x.over.du.length x.over now
 have E:=expF_end x.over.du.length now (Nat.le_refl _) (over_over x)
 have HE:HP (x.over.expire now).1.du:=hp_expire H1 now
 rw [← e1] at K E
 obtain ⟨E1,E2⟩:=E
 have S:(x.over.expire now).1.over.expire now=((x.over.expire now).1,[]):=by
  show expF (x.over.expire now).1.over.over.du.length (x.over.expire now).1.over.over now=_
  rw [over_over,E2]
  exact expF_stop E1
 refine ⟨by rw [S],?_,?_,?_,?_,?_⟩
 ·rw [E2]
  intro h
  unfold GS.nx at h ⊢
  split at h
  ·cases h
  ·rename_i p r hd
   simp only [hd]
   exact E1 p r hd
 ·intro h hlt
  have:x.over.expire now=(x.over,[]):=by
   rw [e1]
   refine expF_stop fun p r hd=>?_
   unfold GS.nx at hlt
   simp only [hd] at hlt
   exact hlt
  rw [this]
  exact ⟨by rw [over_over],rfl⟩
 ·intro h
  have:x.over.expire now=(x.over,[]):=by
   rw [e1]
   refine expF_stop fun p r hd=>?_
   unfold GS.nx at h
   simp only [hd] at h
   cases h
  rw [this]
  exact ⟨by rw [over_over];exact h,rfl⟩
 ·intro e he
  obtain ⟨c,ok,_⟩:=id o1
  obtain ⟨t1,t2⟩:=T.told e.n (mem_told he (K e he))
  refine ⟨K e he,fun hm=>?_,by rw [S];exact t2⟩
  rw [mem_pends ok] at hm
  rw [hm] at t1;cases t1
 ·rw [S]
  intro p hp
  have hp:p∈(x.over.expire now).1.du:=hp
  cases hd:(x.over.expire now).1.du with
  | nil=>rw [hd] at hp;cases hp
  | cons q r =>
   have h1:=E1 q r hd
   have h2:=hp_min HE hd p hp
   omega
end
theorem comes_law {h:Hp} {l:List OpV} {vl:Value} (n now:Int) (hv:OpsAt h vl l):∃ h',Run Try.prog 6 [.int .i64 n,vl,.int .i64 now] h (.bool true) h' :=
 comelaw_run n now hv fun h1 h2=>come_ok (GOk.roots (n:=n.toNat) (by omega)).runL (hp_runL _ (hp_roots _)) now
end Go.Proofs.Ytlonjogfeidgfaa.gr
