import Derived.Test.YtlonjogfeidgfaaTwiceF
set_option linter.unusedVariables false
namespace Go.Proofs.Ytlonjogfeidgfaa.gr
open Go Go.Ev Go.Proofs.Ytlonjogfeidgfaa.tr
set_option maxRecDepth 100000
set_option linter.unusedVariables false
set_option linter.constructorNameAsVariable false
section
variable {x:GS} {k:Nat}
theorem lateF_ok (o:GOk k x):GOk (k+1) x.lateF.1∧x.lateF.2.1.length≤130:=by
 obtain ⟨c,a,b,d,e⟩:=o
 have hd:x.lateF.1.du.length=x.du.length-1:=by
  have:x.lateF.1.du=popped x.du:=by rw [GS.lateF,GS.fail,GS.after,turned_du];rfl
  rw [this,popped_len]
 have ht:=late_t x
 refine ⟨⟨c+1,ht▸a.fail,ht▸b.fail _ _ _,ht▸d.fail a _ _ _,by rw [hd];omega⟩,?_⟩
 have h1:=turned_len (x.t.fail (popP x.du).2 1 c13p.late).2.1 (x:={ x.pop with t:=(x.t.fail (popP x.du).2 1 c13p.late).1 }) (c:=c+1) a.fail (b.fail _ _ _) (d.fail a _ _ _)
 have h2:=fail_ef x.t (popP x.du).2 1 c13p.late
 have h3:x.lateF.2.1=(({ x.pop with t:=(x.t.fail (popP x.du).2 1 c13p.late).1 }:GS).turned (x.t.fail (popP x.du).2 1 c13p.late).2.1).2:=rfl
 rw [h3];omega
theorem come_len (o:GOk k x):x.come.2.length≤65:=by
 obtain ⟨⟨c,a,b,d,_⟩,_⟩:=lateF_ok o
 exact strikes_len a b d _
theorem expF_efs:∀ (f:Nat) {x:GS} (now:Int),GOk k x→(expF f x now).2.length≤195*x.du.length
 | 0,x,now,o=>by simp [expF]
 | f+1,x,now,o=>by
  unfold gr.expF;split
  ·simp
  ·rename_i p r e
   have hl:x.du.length=r.length+1:=by rw [e];rfl
   split
   ·have hne:x.du≠[]:=by rw [e];simp
    have h1:=expF_efs f now (o.come hne).over
    have h2:=over_du_len x.come.1
    have h3:=(lateF_ok o).2
    have h4:=come_len o
    rw [come_du,popped_len] at h2
    simp only [List.length_append]
    omega
   ·simp
theorem run_efs (o:GOk k x) (hk:k≤400) (op:OpV):(x.run op).2.1.length≤100000:=by
 obtain ⟨c,a,b,d,e⟩:=o
 have tl:∀ {r:TS×List Ef×Int} {c:Nat},TOk c r.1→WI none r.1→WJ r.1→r.2.1.length≤2→(x.after r).2.1.length≤100000:=fun {r c} h1 h2 h3 h4=>by
  have:=turned_len r.2.1 (x:={ x with t:=r.1 }) (c:=c) h1 h2 h3
  have e:(x.after r).2.1=(({ x with t:=r.1 }:GS).turned r.2.1).2:=rfl
  rw [e];omega
 unfold GS.run
 repeat' split
 ·simp
 ·simp
 ·exact tl a.end (b.end a _ _ _) (d.end a _ _ _) (end_ef _ _ _ _)
 ·exact tl a.leave (b.leave a _ _ _) (d.leave a _ _ _) (leave_ef _ _ _ _)
 ·simp
 ·simp
 ·exact tl a.fail (b.fail _ _ _) (d.fail a _ _ _) (fail_ef _ _ _ _)
 ·simp
 ·show (x.strikeT op.n).2.1.length≤100000
  unfold GS.strikeT;split
  ·simp
  ·exact Nat.le_trans (strike_len x true op.n _) (reach_len a b d _ _)
 ·have h1:=expF_efs x.over.du.length op.n (show GOk k x.over from GOk.over ⟨c,a,b,d,e⟩)
  have h2:=over_du_len x
  show (expF x.over.du.length x.over op.n).2.length≤100000
  omega
 ·simp
end
end Go.Proofs.Ytlonjogfeidgfaa.gr
namespace Go.Proofs.Ytlonjogfeidgfaa.gr
open Go Go.Ev Go.Proofs.Ytlonjogfeidgfaa.tr
set_option linter.unusedVariables false
set_option linter.constructorNameAsVariable false
section
variable {t t' t1 t2:TS} {c c' k:Nat}
theorem chain_run' {x:Tk} (hx:t.tks[k]?=some x) (he:x.en=false):t.chain ((k+1:Nat):Int)=(t.chainG (k+1) k x.opn.length,0):=by
 have hk:=get_lt' hx
 have hr:t.runs ((k+1:Nat):Int)=(some k,0):=by
  unfold TS.runs
  rw [if_neg (by omega),show (((k+1:Nat):Int)-1).toNat=k by omega,hx]
  simp [he]
 unfold TS.chain
 rw [hr]
 simp only [hx]
end
section
variable {x:GS} {t':TS} {c c':Nat}
end
end Go.Proofs.Ytlonjogfeidgfaa.gr
namespace Go.Proofs.Ytlonjogfeidgfaa.gr
open Go Go.Ev Go.Proofs.Ytlonjogfeidgfaa.tr
set_option linter.unusedVariables false
set_option linter.constructorNameAsVariable false
section
variable {t t':TS} {c k:Nat}
end
section
variable {x:GS} {c k:Nat}
end
end Go.Proofs.Ytlonjogfeidgfaa.gr
namespace Go.Proofs.Ytlonjogfeidgfaa.gr
open Go Go.Ev Go.Proofs.Ytlonjogfeidgfaa.tr
set_option linter.unusedVariables false
set_option linter.constructorNameAsVariable false
section
variable {t t':TS} {c c' k:Nat}
def Fn (t t':TS):Prop:=∀ (j:Nat) x',t'.tks[j]?=some x'→x'.en=false→∃ x,t.tks[j]?=some x∧(x'.opn=x.opn∨∃ s,x.opn=x'.opn++[some s])
end
section
variable {x:GS} {t':TS} {c c':Nat}
end
end Go.Proofs.Ytlonjogfeidgfaa.gr
namespace Go.Proofs.Ytlonjogfeidgfaa.gr
open Go Go.Ev Go.Proofs.Ytlonjogfeidgfaa.tr
set_option linter.unusedVariables false
set_option linter.constructorNameAsVariable false
section
variable {t:TS} {c k:Nat}
end
end Go.Proofs.Ytlonjogfeidgfaa.gr
namespace Go.Proofs.Ytlonjogfeidgfaa.gr
open Go Go.Ev Go.Proofs.Ytlonjogfeidgfaa.tr
set_option linter.unusedVariables false
set_option linter.constructorNameAsVariable false
section
variable {x:GS} {t':TS} {c k:Nat}
theorem chain_ok_run {t:TS} {n:Int} (h:(t.chain n).2=0):∃ (k:Nat) (y:Tk),n=((k+1:Nat):Int)∧t.tks[k]?=some y∧y.en=false:=by
 unfold TS.chain at h
 split at h
 ·rename_i e hq
  have:=runs_none hq
  simp only at h
  omega
 ·rename_i k e hq
  obtain ⟨_,h1,y,hy,he⟩:=runs_some hq
  exact ⟨k,y,by omega,hy,he⟩
end
end Go.Proofs.Ytlonjogfeidgfaa.gr
namespace Go.Proofs.Ytlonjogfeidgfaa.gr
open Go Go.Ev Go.Proofs.Ytlonjogfeidgfaa.tr
set_option maxRecDepth 100000
set_option linter.unusedVariables false
set_option linter.constructorNameAsVariable false
theorem chunks {α:Type} (f:α→List Value) {z:Nat} (hz:∀ x,(f x).length=z):∀ (n:Nat) (c:List Value),c.length=n*z→(∀ k,k<n→∃ x,(c.drop (k*z)).take z=f x) →
  ∃ l:List α,l.length=n∧c=l.flatMap f∧∀ k x,l[k]?=some x→(c.drop (k*z)).take z=f x
 | 0,c,hl,_=>⟨[],rfl,List.length_eq_zero_iff.1 (by simpa using hl),fun k x h=>by simp at h⟩
 | n+1,c,hl,hc=>by
  have hs:(n+1)*z=n*z+z:=by rw [Nat.add_mul,Nat.one_mul]
  obtain ⟨x,hx⟩:=hc 0 (by omega)
  obtain ⟨l,h1,h2,h3⟩:=chunks f hz n (c.drop z) (by rw [List.length_drop,hl,hs];omega) (fun k hk=>by
   obtain ⟨y,hy⟩:=hc (k+1) (by omega)
   refine ⟨y,?_⟩
   rw [List.drop_drop,← hy,Nat.add_mul,Nat.one_mul,Nat.add_comm])
  refine ⟨x::l,by simp [h1],?_,fun k y hy=>?_⟩
  ·rw [List.flatMap_cons,← h2,← hx,Nat.zero_mul,List.drop_zero,List.take_append_drop]
  ·cases k with
   | zero=>simp at hy;subst hy;exact hx
   | succ k =>
    have:=h3 k y (by simpa using hy)
    rw [List.drop_drop,Nat.add_comm z] at this
    rw [Nat.add_mul,Nat.one_mul];exact this
theorem opC_flat:∀ l:List OpV,l.flatMap OpV.cells=opC l
 | []=>rfl
 | x::l=>by rw [List.flatMap_cons,opC_flat l];rfl
section
variable {h:Hp} {F:Nat}
theorem c3:Try.prog.cellsOf 3=1:=by kernel_rfl
theorem c4:Try.prog.cellsOf 4=1:=by kernel_rfl
theorem c9:Try.prog.cellsOf 9=1:=by kernel_rfl
theorem c29:Try.prog.cellsOf 29=2:=by kernel_rfl
theorem c31:Try.prog.cellsOf 31=6:=by kernel_rfl
theorem u3:Try.prog.underlying 3=some (.int .i64):=by kernel_rfl
theorem u4:Try.prog.underlying 4=some .bool:=by kernel_rfl
theorem u9:Try.prog.underlying 9=some .string:=by kernel_rfl
theorem u22:Try.prog.underlying 22=some (.slice 31):=by kernel_rfl
theorem op_cells {cs:List Value} (hc:ATyped Try.prog h F 31 cs):∃ x:OpV,cs=x.cells:=by
 obtain ⟨G,rfl,hl,hf⟩:=hc.asStruct Try.underlying31
 rw [c31] at hl
 match cs,hl with
 | [a,b,m,c,d,e],_ =>
  simp only [List.forall_mem_cons,c3,c4,c29] at hf
  obtain ⟨k,h1,_⟩:=hf.1.asInt u3
  obtain ⟨n,h2,_⟩:=hf.2.1.asInt u3
  obtain ⟨m,h6,_⟩:=hf.2.2.1.asInt u3
  obtain ⟨t,h3⟩:=hf.2.2.2.1.asBool u4
  obtain ⟨G,rfl,hl,hg⟩:=hf.2.2.2.2.1.asStruct Try.underlying29
  simp only [List.forall_mem_cons,c3,c9] at hg
  obtain ⟨f,h4,_⟩:=hg.1.asInt u3
  obtain ⟨s,h5,_⟩:=hg.2.1.asString u9
  simp at h1 h2 h3 h4 h5 h6
  subst h1;subst h2;subst h3;subst h4;subst h5;subst h6
  exact ⟨⟨k,n,m,t,f,s⟩,rfl⟩
theorem ops_arg {a:Value} (ht:ArgTyped Try.prog h F 22 a):∃ l:List OpV,OpsAt h a l:=by
 obtain ⟨G,rfl,rfl | ⟨i,len,c,rfl,hi,hl,_,hk⟩⟩:=ht.asSlice u22
 ·exact ⟨[],.inl ⟨rfl,rfl⟩⟩
 ·rw [c31] at hl hk
  obtain ⟨l,h1,h2,_⟩:=chunks OpV.cells (z:=6) (fun _=>rfl) len c hl (fun k hlt=>op_cells (hk k hlt))
  rw [opC_flat] at h2
  exact ⟨l,.inr ⟨i,false,by rw [c31,h1],by rw [← h2];exact hi⟩⟩
end
end Go.Proofs.Ytlonjogfeidgfaa.gr
namespace Go.Proofs.Ytlonjogfeidgfaa.gr
open Go Go.Ev Go.Proofs.Ytlonjogfeidgfaa.tr
set_option maxRecDepth 100000
set_option linter.unusedVariables false
set_option linter.constructorNameAsVariable false
section
variable {h:Hp}
end
section
variable {h:Hp} {ρ:Lay} {γ:GL} {x:GS} {c:Nat}
theorem taskG_run (a:GAt h ρ γ x) (ok:TOk c x.t) (hc:c≤100000) (n:Int) :
  ∃ v h',Run Try.prog 16 [ptr γ.g,.int .i64 n] h (.tuple #[.agg ((x.t.task n).1.C v).toArray,.int .i64 (x.t.task n).2]) h'∧Grow h h'∧SlV h' h.length v (x.t.task n).1.op.length 2 (lkL (x.t.task n).1.op):=by
 obtain ⟨r,hr⟩:=a.root
 have K0:Grow h (h++[AObj.cells (TkV.zero.C (.slice none 0 0)) true]):=Keep.push _ _ _
 have a1:=a.grow K0
 obtain ⟨v,g1,R,K1,s⟩:=task_run a1.tat ok hc hr n
 have T:=tree_run a1 hr
 have hb:=K1.2 _ _ (get_new h (AObj.cells (TkV.zero.C (.slice none 0 0)) true)) id
 have K2:Grow h (g1.set h.length (.cells ((x.t.task n).1.C v) true)):=(K0.trans K1).set (Nat.le_refl _) _
 refine ⟨v,g1.set h.length (.cells ((x.t.task n).1.C v) true),?_,K2,?_⟩
 ·obtain ⟨oa,ln,za,rfl⟩:∃ a b c,v=.slice a b c:=by rcases s with ⟨_,_,h⟩ | ⟨_,_,_,h,_⟩<;>exact ⟨_,_,_,h⟩
  exact pvF 0 Try.func16 (c1p.ta γ.g r h.length n (x.t.task n).1.sc (x.t.task n).1.fk (x.t.task n).2 (x.t.task n).1.en (x.t.task n).1.lv (x.t.task n).1.ft oa ln za h g1 (h++[AObj.cells (TkV.zero.C (.slice none 0 0)) true])) ⟨rfl,T,R,a_st hb (by simp [TkV.C]) rfl,a_ldn (get_set_eq hb) (by simp) rfl,trivial⟩
 ·rcases s with s | ⟨s1,s2,o,s3,s4,s5⟩
  ·exact .inl s
  ·exact .inr ⟨s1,s2,o,s3,get_set_ne s4 (by simp at s5;omega),by simp at s5;omega⟩
end
end Go.Proofs.Ytlonjogfeidgfaa.gr
namespace Go.Proofs.Ytlonjogfeidgfaa.gr
open Go Go.Ev Go.Proofs.Ytlonjogfeidgfaa.tr
set_option maxRecDepth 100000
set_option linter.unusedVariables false
set_option linter.constructorNameAsVariable false
theorem stat32:(Asm.stat (drawN Try.f32 0)).holds Try.prog:=show statOk (drawN Try.f32 0)=true by kernel_rfl
theorem mclone_run {h:Hp} {m:Nat} {es:List (Value×Value)} (hm:h[m]?=some (.mp es)):Run Try.prog 58 [.map (some m)] h (.map (some h.length)) (h++[AObj.mp es]) :=
 pvF 0 Try.func58 (c36p.mc m h.length h (h++[AObj.mp es])) ⟨Run.clone Try.func83 (by kernel_rfl) (by kernel_rfl) hm,trivial⟩
theorem dclone_run {h:Hp} {o:Nat} {l:List Pr} {junk:List Value} (ho:h[o]?=some (.cells (prL l++junk) true)) (hb:l.length≤1000000) :
  ∃ d h',Run Try.prog 59 [.slice (some ⟨o,0,none⟩) l.length 2] h (.slice (some ⟨d,0,none⟩) l.length 2) h'∧Grow h h'∧h'[d]?=some (.cells (prL l) true)∧h.length≤d∧d<h'.length:=by
 have hlen:=prL_len l
 have h1:(prL l).all Value.oneCell'=true:=by
  clear ho hlen hb
  induction l with
  | nil=>rfl
  | cons p l ih=>simp [prL,prC,Value.oneCell',ih]
 cases hn:l.length with
 | zero =>
  have e:l=[]:=List.length_eq_zero_iff.1 hn
  subst e
  exact ⟨h.length,_,pvF 0 Try.func59 (c36p.dc_0 o 0 h.length 0 [] h) ⟨rfl,⟨rfl,_,cells_of (get_push ho),Nat.zero_le _⟩,trivial⟩,(Keep.refl (fun _=>False) _).pushN _,get_new _ _,Nat.le_refl _,by simp [SH.den]⟩
 | succ n =>
  rw [hn] at hlen hb
  have r:=pvF 0 Try.func59 (c36p.dc_1 o n h.length (h.length+1) (prL l) h) ⟨rfl,⟨rfl,⟨_,cells_of (get_push ho),by rw [List.length_append,hlen];omega,by rw [List.drop_zero,show Nat.succ n*2=(prL l).length from hlen.symm];simp⟩,h1,by (first | omega | (simp;omega)),by (first | omega | (simp;omega)),⟨_,own_of (get_new _ _),by simp,by simp⟩,by simp [SH.den]⟩,trivial⟩
  rw [Nat.zero_add] at r
  exact ⟨h.length+1,_,r,(((Keep.refl (fun _=>False) h).pushN _).setN (Nat.le_refl _) _).pushN _,get_new' _ (by simp [SH.den]),by omega,by simp [SH.den]⟩
section
variable {h:Hp} {ρ:Lay} {γ:GL} {x:GS} {c:Nat}
theorem copyG_run (a:GAt h ρ γ x) (ok:TOk c x.t) (hc:c≤100000) (hl:x.du.length≤100000) :
  ∃ σ δ h',Run Try.prog 32 [ptr γ.g] h (ptr δ.g) h'∧GAt h' σ δ x∧Grow h h'∧∀ q,fpG σ δ q→h.length≤q:=by
 obtain ⟨r,hr,hp⟩:=root_ptr a
 obtain ⟨b,σ,g1,R1,T1,M1⟩:=copy_run a.tat ok hc hr
 have K1:Grow h g1:=M1.keep
 have lt1:∀ q,fpT σ q→q<g1.length:=fun q ⟨r,e⟩=>T1.lt e
 have m1:g1[γ.m]?=some (.mp (mks x.tm)):=K1.2 _ _ a.tmo id
 have R2:=mclone_run m1
 obtain ⟨g2,hg2⟩:∃ g2,g2=g1++[AObj.mp (mks x.tm)]:=⟨_,rfl⟩
 have K2:Grow g1 g2:=by rw [hg2];exact Keep.push _ _ _
 have n2:g2[γ.n]?=some (.mp (mks x.sm)):=(K1.trans K2).2 _ _ a.smo id
 have R3:=mclone_run n2
 obtain ⟨g3,hg3⟩:∃ g3,g3=g2++[AObj.mp (mks x.sm)]:=⟨_,rfl⟩
 have K3:Grow g2 g3:=by rw [hg3];exact Keep.push _ _ _
 rw [← hg2] at R2
 rw [← hg3] at R3
 have l2:g2.length=g1.length+1:=by rw [hg2];simp
 have l3:g3.length=g2.length+1:=by rw [hg3];simp
 have O:=a.obj
 have O1:=K1.2 _ _ O id
 have O2:=K2.2 _ _ O1 id
 have O3:=K3.2 _ _ O2 id
 have hD:∃ δd g4,Run Try.prog 59 [slw γ.d x.du.length] g3 (slw δd x.du.length) g4∧Grow g3 g4∧(∀ d,δd=some d→g4[d]?=some (.cells (prL x.du) true)∧g3.length≤d∧d<g4.length)∧(δd=none→x.du=[]):=by
  cases hd:γ.d with
  | none=>exact ⟨none,g3,pvF 0 Try.func59 (c36p.dc_nil 0 0 0 0 [] g3) trivial,.refl _,fun d e=>(by cases e),fun _=>a.dun hd⟩
  | some d =>
   obtain ⟨junk,hj⟩:=a.duo d hd
   obtain ⟨d',g4,R4,K4,hd',h1,h2⟩:=dclone_run ((K1.trans (K2.trans K3)).2 _ _ hj id) (by omega)
   exact ⟨some d',g4,R4,K4,fun e he=>(by cases he;exact ⟨hd',h1,h2⟩),fun e=>(by cases e)⟩
 obtain ⟨δd,g4,R4,K4,D1,D2⟩:=hD
 have hv:∀ (o:Option Nat) n,veqR (slw o n)=true:=fun o n=>by cases o<;>rfl
 have A1:∀ {g':Hp},g'[γ.g]?=some (.cells [pvv (ρ .root),.map (some γ.m),.map (some γ.n),slw γ.d x.du.length] true)→(Asm.again (.is g') 84 (.pointer (some ⟨γ.g,1,none⟩)) (.map (some γ.m))).holds Try.prog:=fun e=>a_again1 agg84 e rfl rfl
 have A2:∀ {g':Hp},g'[γ.g]?=some (.cells [pvv (ρ .root),.map (some γ.m),.map (some γ.n),slw γ.d x.du.length] true)→(Asm.again (.is g') 84 (.pointer (some ⟨γ.g,2,none⟩)) (.map (some γ.n))).holds Try.prog:=fun e=>a_again1 agg84 e rfl rfl
 have A3:∀ {g':Hp},g'[γ.g]?=some (.cells [pvv (ρ .root),.map (some γ.m),.map (some γ.n),slw γ.d x.du.length] true)→(Asm.again (.is g') 86 (.pointer (some ⟨γ.g,3,none⟩)) (slw γ.d x.du.length)).holds Try.prog:=fun e=>a_again1 agg86 e rfl (hv _ _)
 have L0:(Asm.ld1 (.is h) γ.g 0 (ptr r)).holds Try.prog:=a_ld1 O (by rw [hp];rfl)
 have L1:(Asm.ld1 (.is g1) γ.g 1 (.map (some γ.m))).holds Try.prog:=a_ld1 O1 rfl
 have L2:(Asm.ld1 (.is g2) γ.g 2 (.map (some γ.n))).holds Try.prog:=a_ld1 O2 rfl
 have L3:(Asm.ld1 (.is g3) γ.g 3 (slw γ.d x.du.length)).holds Try.prog:=a_ld1 O3 rfl
 obtain ⟨od,ld,zd,eD⟩:∃ od ld zd,slw γ.d x.du.length=.slice od ld zd:=by cases γ.d<;>exact ⟨_,_,_,rfl⟩
 obtain ⟨oe,le,ze,eE⟩:∃ od ld zd,slw δd x.du.length=.slice od ld zd:=by cases δd<;>exact ⟨_,_,_,rfl⟩
 rw [eD] at A3 L3 R4
 rw [eE] at R4
 have B1:=A1 O
 have B2:=A1 O1
 have C0:=A2 O
 have C1:=A2 O1
 have C2:=A2 O2
 have E0:=A3 (by rw [← eD];exact O)
 have E1:=A3 (by rw [← eD];exact O1)
 have E2:=A3 (by rw [← eD];exact O2)
 have E3:=A3 (by rw [← eD];exact O3)
 have R:=pvF 0 Try.func32 (c36p.cg γ.g r b γ.m g1.length γ.n g2.length g4.length od oe ld zd le ze h g1 g2 g3 g4)
  ⟨stat32,B2,B1,B2,C2,C0,C1,C2,C1,C2,E3,E0,E1,E3,E1,E2,E3,E2,E3,L0,R1,L1,R2,L2,R3,L3,R4,rfl,trivial⟩
 have l4:=K4.1
 have K14:Grow g1 g4:=K2.trans (K3.trans K4)
 obtain ⟨g5,hg5⟩:∃ g5,g5=g4++[AObj.cells [ptr b,.map (some g1.length),.map (some g2.length),.slice oe le ze] true]:=⟨_,rfl⟩
 have K5:Grow g4 g5:=by rw [hg5];exact Keep.push _ _ _
 refine ⟨σ,⟨g4.length,g1.length,g2.length,δd⟩,g5,by rw [hg5];exact R,?_,(K1.trans K14).trans K5,?_⟩
 ·refine ⟨T1.grow (K14.trans K5),?_,?_,?_,fun d e=>?_,D2,fun e=>?_,fun e=>?_,fun e=>?_,fun d e f=>?_,by show g1.length≠g2.length;omega,fun e=>?_⟩
  ·show g5[g4.length]?=_
   rw [hg5,get_new,M1.root,eE];rfl
  ·exact (K3.trans (K4.trans K5)).2 _ _ (by rw [hg2];exact get_new _ _) id
  ·exact (K4.trans K5).2 _ _ (by rw [hg3];exact get_new _ _) id
  ·exact ⟨[],by rw [List.append_nil];exact K5.2 _ _ (D1 d e).1 id⟩
  ·have:=lt1 _ e;simp only at this;omega
  ·have:=lt1 _ e;simp only at this;omega
  ·have:=lt1 _ e;simp only at this;omega
  ·have:=lt1 _ f;have:=(D1 d e).2.1;omega
  ·have:=(D1 _ e).2.2;simp only at this;omega
 ·intro q e
  have k1:=K1.1
  rcases e with e | e | e | e | e
  ·exact M1.new q e
  ·simp only at e;omega
  ·simp only at e;omega
  ·simp only at e;omega
  ·have:=(D1 q e).2.1;omega
theorem p60_run (p:Pr) (g:Hp):∃ g',Run Try.prog 60 [.agg (prC p).toArray] g (.bool (decide (p.1=3))) g'∧Grow g g' :=
 ⟨_,pvF 0 Try.func60 (c36p.p60 g.length p.1 p.2 _ g) ⟨rfl,a_ld1 (get_new _ _) rfl,eqD,trivial⟩,Keep.push _ _ _⟩
end
section
variable {h:Hp}
theorem xf60_loop {l:List Pr} {oa:Option Addr} {za:Nat} {Q:Pr→Bool} (hb:l.length≤1000000) (A:l.length≠0→∃ o junk rw,oa=some ⟨o,0,none⟩∧za=2∧h[o]?=some (.cells (prL l++junk) rw))
  (hq:∀ p g,Grow h g→∃ g',Run Try.prog 60 [.agg (prC p).toArray] g (.bool (Q p)) g'∧Grow g g') :
  ∀ (f i:Nat) (E:Env) (g:Hp),i+f=l.length→Grow h g→EnvLe [(8,.int .i64 (i:Int)),(7,.int .i64 (Int.ofNat l.length)),(0,.slice oa l.length za),(1,.func (.func 60) #[] #[])] E→(l.take i).any Q=false →
   (∃ E1 g1 k,EnvLe [(4,.int .i64 ((k:Nat):Int))] E1∧LRun Try.prog 19 false (loopN Try.f49 0) E g .ret E1 g1∧Grow h g1∧l.any Q=true) ∨
   (∃ E1 g1,LRun Try.prog 19 false (loopN Try.f49 0) E g (.exit 0) E1 g1∧Grow h g1∧l.any Q=false):=by
 intro f
 induction f with
 | zero =>
  intro i E g hi K hE hn
  have e:i=l.length:=by omega
  subst e
  obtain ⟨E2,q1,q2⟩:=pvC 0 hE (c36p.xl_out [(0,.slice oa l.length za),(1,.func (.func 60) #[] #[])] l.length (Int.ofNat l.length) g) ⟨ltF (by simp),trivial⟩
  rw [List.take_length] at hn
  exact .inr ⟨E2,g,.last q2 (by simp),K,hn⟩
 | succ f ih =>
  intro i E g hi K hE hn
  obtain ⟨w,hw⟩:∃ w,l[i]?=some w:=⟨_,List.getElem?_eq_getElem (by omega)⟩
  obtain ⟨o,junk,rw1,rfl,rfl,ho⟩:=A (by omega)
  have ll:=prL_len l
  have a1:=prL_at junk hw
  obtain ⟨g1,R,K1⟩:=hq w g K
  have X3:(Asm.ldn (.is g) o (i*2) 2 (prC w)).holds Try.prog:=a_ldn (K.get ho) (by simp;omega) a1
  cases e:Q w with
  | true =>
   rw [e] at R
   obtain ⟨E2,q1,q2⟩:=pvC 0 hE (c36p.xl_hit60 o l.length (i*2) 0 i 0 w.1 w.2 g g1) ⟨ltT (by simp;omega),offI (q:=i) rfl (by omega) (by omega),X3,R,trivial⟩
   exact .inl ⟨E2,g1,i,.trans (.add (.nil _) rfl) q1,.last q2 (by simp),K.trans K1,List.any_eq_true.2 ⟨w,List.mem_of_getElem? hw,e⟩⟩
  | false =>
   rw [e] at R
   obtain ⟨E2,q1,q2⟩:=pvC 0 hE (c36p.xl_go60 o l.length (i*2) 0 i ((i+1:Nat):Int) w.1 w.2 g g1) ⟨ltT (by simp;omega),offI (q:=i) rfl (by omega) (by omega),X3,R,addI rfl (by omega) (by omega),trivial⟩
   have hn':(l.take (i+1)).any Q=false:=by rw [take_one hw,List.any_append,hn];simp [e]
   rcases ih (i+1) E2 g1 (by omega) (K.trans K1) (.trans (.add (.add (.add (.add (.nil _) rfl) rfl) rfl) rfl) q1) hn' with ⟨E3,g3,k,s1,s2,s3,s4⟩ | ⟨E3,g3,s2,s3,s4⟩
   ·exact .inl ⟨E3,g3,k,s1,.step q2 s2,s3,s4⟩
   ·exact .inr ⟨E3,g3,.step q2 s2,s3,s4⟩
theorem cf60_run {l:List Pr} {v:Value} {Q:Pr→Bool} (hb:l.length≤1000000) (A:SlG h v l.length 2 (prL l)) (hq:∀ p g,Grow h g→∃ g',Run Try.prog 60 [.agg (prC p).toArray] g (.bool (Q p)) g'∧Grow g g'):∃ h',Run Try.prog 20 [v,.func (.func 60) #[] #[]] h (.bool (l.any Q)) h'∧Grow h h':=by
 obtain ⟨_,oa,za,rfl,A'⟩:=A
 rcases xf60_loop hb A' hq l.length 0 [(8,.int .i64 (0:Nat)),(7,.int .i64 (Int.ofNat l.length)),(0,.slice oa l.length za),(1,.func (.func 60) #[] #[])] h (by omega) (Grow.refl h) (EnvLe.refl _) (by simp) with ⟨E1,g1,k,q1,q2,q3,q4⟩ | ⟨E1,g1,q2,q3,q4⟩
 ·have R:=pvF 0 Try.func49 (c36p.xf60 oa l.length za 0 k false h g1) ⟨a_loop (by kernel_rfl) (.add (.add (.add (.add (.nil _) rfl) rfl) rfl) rfl) q1 q2,trivial⟩
  rw [q4]
  exact ⟨g1,pvF 0 Try.func20 (c36p.cf60 oa l.length za 0 k true h g1) ⟨R,geT (by omega),trivial⟩,q3⟩
 ·have R:=pvF 0 Try.func49 (c36p.xn60 oa l.length za 0 0 false h g1) ⟨a_loop (by kernel_rfl) (.add (.add (.add (.add (.nil _) rfl) rfl) rfl) rfl) (.nil _) q2,trivial⟩
  rw [q4]
  exact ⟨g1,pvF 0 Try.func20 (c36p.cf60 oa l.length za 0 (Int.negSucc 0) false h g1) ⟨R,geF (by omega),trivial⟩,q3⟩
variable {ρ:Lay} {γ:GL} {x:GS} {c:Nat}
theorem shielded_run (a:GAt h ρ γ x) (ok:TOk c x.t) (hc:c≤1000) (n:Int) :
  ∃ h',Run Try.prog 33 [ptr γ.g,.int .i64 n] h (.bool (((x.t.task n).1.op.map lkP).any fun p=>decide (p.1=3))) h'∧Grow h h':=by
 obtain ⟨v,g1,R1,K1,s1⟩:=taskG_run a ok (by omega) n
 have olen:=task_op_len (t':=x.t) ok hc n
 obtain ⟨oa,ln,za,rfl⟩:∃ a b c,v=.slice a b c:=by rcases s1 with ⟨_,_,h⟩ | ⟨_,_,_,h,_⟩<;>exact ⟨_,_,_,h⟩
 obtain ⟨gd,hgd⟩:∃ gd,gd=(g1++[AObj.cells [.int .i64 0,.bool false,.bool false,.int .i64 0,.string { data:=#[] },.slice none 0 0] true]).set g1.length (.cells ((x.t.task n).1.C (.slice oa ln za)) true):=⟨_,rfl⟩
 have Kd:Grow g1 gd:=by rw [hgd];exact ((Keep.refl (fun _=>False) g1).pushN _).setN (Nat.le_refl _) _
 have hd:gd[g1.length]?=some (.cells ((x.t.task n).1.C (.slice oa ln za)) true):=by rw [hgd];exact get_set_eq (get_new _ _)
 have X4:(Asm.st (.push (.is g1) (.cells [.int .i64 0,.bool false,.bool false,.int .i64 0,.string { data:=#[] },.slice none 0 0] true)) g1.length 0 ((x.t.task n).1.C (.slice oa ln za)) ((x.t.task n).1.C (.slice oa ln za))).holds Try.prog:=a_st (get_new _ _) (by simp [TkV.C]) rfl
 have X5:∀ s:SH,s.den=gd→(Asm.ld1 s g1.length 5 (.slice oa ln za)).holds Try.prog:=fun s e=>a_ld1 (by rw [e];exact hd) rfl
 have sl:SlG gd (.slice oa ln za) ((x.t.task n).1.op.map lkP).length 2 (prL ((x.t.task n).1.op.map lkP)):=by
  have:=s1.g.keep Kd
  rw [lkL_pr] at this
  rw [List.length_map];exact this
 obtain ⟨g2,R2,K2⟩:=cf60_run (Q:=fun p=>decide (p.1=3)) (by rw [List.length_map];omega) sl fun p g _=>p60_run p g
 exact ⟨g2,pvF 0 Try.func33 (c36p.sd γ.g g1.length n (x.t.task n).1.sc (x.t.task n).1.fk (x.t.task n).2 (x.t.task n).1.en (x.t.task n).1.lv _ (x.t.task n).1.ft oa ln za h g1 g2) ⟨R1,rfl,X4,X5 _ hgd.symm,by rw [hgd] at R2;exact R2,trivial⟩,(K1.trans Kd).trans K2⟩
theorem stat35:(Asm.stat (drawN Try.f35 0)).holds Try.prog:=show statOk (drawN Try.f35 0)=true by kernel_rfl
theorem equalI_loop {l:List Int} {oa ob:Option Addr} {za zb:Nat} (hb:l.length≤1000000) (A:l.length≠0→∃ o junk rw,oa=some ⟨o,0,none⟩∧za=1∧h[o]?=some (.cells (inL l++junk) rw)) (B:l.length≠0→∃ o junk rw,ob=some ⟨o,0,none⟩∧zb=1∧h[o]?=some (.cells (inL l++junk) rw)) :
  ∀ (j i:Nat) (E:Env),i+j=l.length→EnvLe [(13,.int .i64 (i:Int)),(12,.int .i64 (Int.ofNat l.length)),(1,.slice ob l.length zb),(0,.slice oa l.length za)] E →
   ∃ E1,LRun Try.prog 26 false (loopN Try.f35 0) E h (.exit 0) E1 h:=by
 intro j
 induction j with
 | zero =>
  intro i E hi hE
  have e:i=l.length:=by omega
  subst e
  obtain ⟨E2,q1,q2⟩:=pvC 0 hE (c36p.eq_out oa ob l.length za zb l.length h) ⟨ltF (by simp),trivial⟩
  exact ⟨E2,.last q2 (by simp)⟩
 | succ j ih =>
  intro i E hi hE
  obtain ⟨w,hw⟩:∃ w,l[i]?=some w:=⟨_,List.getElem?_eq_getElem (by omega)⟩
  obtain ⟨o,junk,rw1,rfl,rfl,ho⟩:=A (by omega)
  obtain ⟨o',junk',rw2,rfl,rfl,ho'⟩:=B (by omega)
  have a1:∀ junk:List Value,(inL l++junk)[i]?=some (.int .i64 w):=fun junk=>by
   rw [List.getElem?_append_left (by rw [inL_len'];omega)];exact inL_at hw
  obtain ⟨E2,q1,q2⟩:=pvC 0 hE (c36p.eq_go o o' l.length i i ((i+1:Nat):Int) w h)
   ⟨ltT (by simp;omega),stat35,offI (q:=i) rfl (by omega) (by omega),a_ld1 ho (a1 _),offI (q:=i) rfl (by omega) (by omega),a_ld1 ho' (a1 _),neF rfl,addI rfl (by omega) (by omega),trivial⟩
  obtain ⟨E3,s1⟩:=ih (i+1) E2 (by omega) (.trans (.add (.add (.add (.add (.nil _) rfl) rfl) rfl) rfl) q1)
  exact ⟨E3,.step q2 s1⟩
theorem equalI_run {l:List Int} {v v':Value} (hb:l.length≤1000000) (A:SlG h v l.length 1 (inL l)) (B:SlG h v' l.length 1 (inL l)):Run Try.prog 35 [v,v'] h (.bool true) h:=by
 obtain ⟨_,oa,za,rfl,A⟩:=A
 obtain ⟨_,ob,zb,rfl,B⟩:=B
 obtain ⟨E1,q1⟩:=equalI_loop hb A B l.length 0 [(13,.int .i64 (0:Nat)),(12,.int .i64 (Int.ofNat l.length)),(1,.slice ob l.length zb),(0,.slice oa l.length za)] (by omega) (EnvLe.refl _)
 exact pvF 0 Try.func35 (c36p.eq oa ob l.length za zb h h) ⟨neF rfl,a_loop (by kernel_rfl) (.add (.add (.add (.add (.nil _) rfl) rfl) rfl) rfl) (.nil _) q1,trivial⟩
end
structure Two (h g:Hp) (ρ1:Lay) (γ1:GL) (b1:Nat) (ρ2:Lay) (γ2:GL) (b2:Nat) (x y:GS):Prop where
 a1:GAt g ρ1 γ1 x
 a2:GAt g ρ2 γ2 y
 m1:GMade h g ρ1 γ1 b1
 m2:GMade h g ρ2 γ2 b2
 dis:∀ q,fpG ρ1 γ1 q→¬ fpG ρ2 γ2 q
section
variable {h g g':Hp} {ρ1 ρ2 ρ':Lay} {γ1 γ2 γ':GL} {b1 b2:Nat} {x y x':GS}
theorem Two.swap (T:Two h g ρ1 γ1 b1 ρ2 γ2 b2 x y):Two h g ρ2 γ2 b2 ρ1 γ1 b1 y x:=⟨T.a2,T.a1,T.m2,T.m1,fun q e f=>T.dis q f e⟩
theorem Two.step (T:Two h g ρ1 γ1 b1 ρ2 γ2 b2 x y) (a:GAt g' ρ' γ' x') (S:GStep ρ1 γ1 g ρ' γ' g'):Two h g' ρ' γ' b1 ρ2 γ2 b2 x' y :=
 ⟨a,T.a2.keep S.keep T.dis,T.m1.step S,⟨(T.m1.step S).keep,T.m2.g,T.m2.new⟩,fun q e f=>(S.new q e).elim (fun e=>T.dis q e f) fun e=>by have:=T.a2.lt f;omega⟩
theorem Two.step2 (T:Two h g ρ1 γ1 b1 ρ2 γ2 b2 x y) (a:GAt g' ρ' γ' x') (S:GStep ρ2 γ2 g ρ' γ' g'):Two h g' ρ1 γ1 b1 ρ' γ' b2 x x':=(T.swap.step a S).swap
theorem Two.grow (T:Two h g ρ1 γ1 b1 ρ2 γ2 b2 x y) (K:Grow g g'):Two h g' ρ1 γ1 b1 ρ2 γ2 b2 x y:=T.step (T.a1.grow K) (.grow K)
theorem Two.of_copy {c:Nat} {h0 h:Hp} {ρ:Lay} {γ:GL} {b:Nat} (a:GAt h ρ γ x) (m:GMade h0 h ρ γ b) (ok:TOk c x.t) (hc:c≤100000) (hl:x.du.length≤100000) :
  ∃ σ δ h',Run Try.prog 32 [ptr γ.g] h (ptr δ.g) h'∧Two h0 h' ρ γ b σ δ δ.g x x:=by
 obtain ⟨σ,δ,h',R,a',K,hn⟩:=copyG_run a ok hc hl
 exact ⟨σ,δ,h',R,a.grow K,a',m.grow K,⟨m.keep.trans K,rfl,fun q e=>Nat.le_trans m.keep.1 (hn q e)⟩,fun q e f=>by have:=a.lt e;have:=hn q f;omega⟩
end
end Go.Proofs.Ytlonjogfeidgfaa.gr
namespace Go.Proofs.Ytlonjogfeidgfaa.gr
open Go Go.Ev Go.Proofs.Ytlonjogfeidgfaa.tr
set_option maxRecDepth 100000
set_option linter.unusedVariables false
set_option linter.constructorNameAsVariable false
section
variable {h:Hp} {ρ:Lay} {γ:GL} {x:GS} {c:Nat}
end
end Go.Proofs.Ytlonjogfeidgfaa.gr
namespace Go.Proofs.Ytlonjogfeidgfaa.gr
open Go Go.Ev Go.Proofs.Ytlonjogfeidgfaa.tr
set_option linter.unusedVariables false
set_option linter.constructorNameAsVariable false
section
variable {t:TS} {c:Nat}
theorem pendL_app {tm sm:List Int}:∀ {P Q:List Pr},(∀ p,p∈P→p.1≠3)→pendL tm sm Q=true→pendL tm sm (P++Q)=true
 | [],Q,_,h=>h
 | p::P,Q,hp,h=>by
  have ih:=pendL_app (P:=P) (fun q hq=>hp q (List.mem_cons_of_mem _ hq)) h
  have h3:=hp p (List.mem_cons_self ..)
  simp only [List.cons_append,pendL,pendD,if_neg h3]
  split
  ·rename_i b e
   split at e
   ·cases e;rfl
   ·split at e
    ·cases e;rfl
    ·cases e
  ·exact ih
end
end Go.Proofs.Ytlonjogfeidgfaa.gr
namespace Go.Proofs.Ytlonjogfeidgfaa.gr
open Go Go.Ev Go.Proofs.Ytlonjogfeidgfaa.tr
set_option maxRecDepth 100000
set_option linter.unusedVariables false
set_option linter.constructorNameAsVariable false
theorem made_part {h:Hp} {l:List OpV} {o k:Nat} {rw:Bool} (n:Int) (ho:h[o]?=some (.cells (opC l) rw)) (hk:k≤l.length) (hk2:k≤60) :
  ((n<1∨64<n)∧Run Try.prog 15 [.int .i64 n,.slice (some ⟨o,0,none⟩) k 6] h (.pointer none) h) ∨
  (1≤n∧n≤64∧∃ b ρ γ h',Run Try.prog 15 [.int .i64 n,.slice (some ⟨o,0,none⟩) k 6] h (ptr b) h'∧GAt h' ρ γ ((GS.roots n.toNat).runL (l.take k))∧GMade h h' ρ γ b):=by
 by_cases hn:n<1∨64<n
 ·exact .inl ⟨hn,pvF 0 Try.func15 (c16p.ma_errs 0 o k 0 n 2 h h h) ⟨newG_low h hn,neT (by omega),trivial⟩⟩
 ·right
  obtain ⟨m,hm⟩:∃ m:Nat,n=m:=⟨n.toNat,by omega⟩
  subst hm
  obtain ⟨ρ,γ,h1,r1,r2,r3,r4⟩:=newG_run h (n:=m) (by omega) (by omega)
  rw [Int.toNat_natCast]
  refine ⟨by omega,by omega,γ.g,?_⟩
  have M:GMade h h1 ρ γ γ.g:=⟨r3,rfl,r4⟩
  obtain ⟨E1,g',ρ',γ',q1,q2,q3,q4⟩:=made_loop (b:=γ.g) (n:=m) (p:=k) (by omega) (by omega) (by omega) ho k 0 [(22,.int .i64 0),(21,.int .i64 (Int.ofNat k)),(20,.slice (some ⟨o,0,none⟩) k 6),(5,ptr γ.g)] h1 ρ γ (by omega) (EnvLe.refl _) r2 M
  exact ⟨ρ',γ',g',pvF 0 Try.func15 (c16p.ma_some γ.g o k k m 0 h h1 g') ⟨r1,neF rfl,.inr ⟨rfl,by simp only [Int.ofNat_eq_natCast];split<;>omega⟩,a_cut (by omega),a_loop (by kernel_rfl) (.add (.add (.add (.add (.nil _) rfl) rfl) rfl) rfl) q1 q2,trivial⟩,q3,q4⟩
abbrev KWe (b b2 o k m i:Nat):Env:=[(78,.int .i64 (i:Int)),(77,.int .i64 (Int.ofNat m)),(76,.slice (some ⟨o,0+k*6,none⟩) m 6),(8,ptr b),(11,ptr b2)]
theorem tl_loop {h:Hp} {b b2 o k m kk:Nat} {rw:Bool} {l:List OpV} {x:GS} (hp:k+m≤l.length) (hm:m≤60) (ho:h[o]?=some (.cells (opC l) rw)) (gok:GOk kk x) (hkk:kk≤200) :
  ∀ (j i:Nat) (E:Env) (g:Hp) (ρ1 ρ2:Lay) (γ1 γ2:GL),i+j=m→EnvLe (KWe b b2 o k m i) E→Two h g ρ1 γ1 b ρ2 γ2 b2 (x.runL ((l.drop k).take i)) (x.runL ((l.drop k).take i)) →
  ∃ E1 g',LRun Try.prog 113 false (loopN Try.f7 0) E g (.exit 0) E1 g':=by
 intro j
 induction j with
 | zero =>
  intro i E g ρ1 ρ2 γ1 γ2 hi hE T
  obtain ⟨E2,q1,q2⟩:=pvC 0 hE (c36p.tl_out [(76,.slice (some ⟨o,0+k*6,none⟩) m 6),(8,ptr b),(11,ptr b2)] i (Int.ofNat m) g) ⟨ltF (by simp only [Int.ofNat_eq_natCast];omega),trivial⟩
  exact ⟨E2,g,.last q2 (by simp)⟩
 | succ j ih =>
  intro i E g ρ1 ρ2 γ1 γ2 hi hE T
  obtain ⟨w,hw⟩:∃ w,(l.drop k)[i]?=some w:=⟨_,List.getElem?_eq_getElem (by simp;omega)⟩
  have hw':l[k+i]?=some w:=by rw [← hw,List.getElem?_drop]
  have hog:=T.m1.get ho
  have hat:=opC_at hw'
  have hlen:=opC_len l
  have hti:((l.drop k).take i).length≤i:=by simp;omega
  have hnext:x.runL ((l.drop k).take (i+1))=((x.runL ((l.drop k).take i)).run w).1:=by rw [take_one hw,runL_app];rfl
  have ok:GOk (kk+2*((l.drop k).take i).length) (x.runL ((l.drop k).take i)):=gok.runL
  obtain ⟨X,hX⟩:∃ X,X=x.runL ((l.drop k).take i):=⟨_,rfl⟩
  rw [← hX] at T ok hnext
  obtain ⟨ga,hga⟩:∃ ga,ga=(g++[AObj.cells [.int .i64 0,.int .i64 0,.int .i64 0,.bool false,.int .i64 0,.string ⟨#[]⟩] true]).set g.length (.cells w.cells true):=⟨_,rfl⟩
  have hd:ga[g.length]?=some (.cells w.cells true):=by rw [hga];exact get_set_eq (get_new _ _)
  have Ka:Grow g ga:=by rw [hga];exact ((Keep.refl (fun _=>False) g).pushN _).setN (Nat.le_refl _) _
  have Ta:=T.grow Ka
  obtain ⟨ev,ρ1',γ1',g1,R1,a1',S1,s1⟩:=run_run Ta.a1 ok (by omega) w
  rw [Ta.m1.g] at R1
  have T1:=Ta.step a1' S1
  have hd1:=S1.keep.2 _ _ hd fun e=>by have:=T.a1.lt e;omega
  obtain ⟨ev2,ρ2',γ2',g2,R2,a2',S2,s2⟩:=run_run T1.a2 ok (by omega) w
  rw [T1.m2.g] at R2
  have T2:=T1.step2 a2' S2
  have s1':=s1.keep S2.keep fun q e=>Ta.a2.lt e
  have hefs:=run_efs ok (by omega) w
  have Q1:=equalEf_run (by omega) s1'.g s2.g
  have ok2:=ok.run w
  obtain ⟨c2,tok2,W2,J2,hc2⟩:=id ok2
  obtain ⟨w1,g3,R3,K3,s3⟩:=pending_run T2.a1 tok2 (by omega) W2
  rw [T2.m1.g] at R3
  have T3:=T2.grow K3
  obtain ⟨w2,g4,R4,K4,s4⟩:=pending_run T3.a2 tok2 (by omega) W2
  rw [T3.m2.g] at R4
  have T4:=T3.grow K4
  have hpl:=pends_le (X.run w).1
  have Q2:=equalI_run (by omega) (s3.keep K4 fun q e=>e.elim).g s4.g
  obtain ⟨oa,la,za,rfl⟩:∃ a b c,ev=.slice a b c:=by rcases s1 with ⟨_,_,h⟩ | ⟨_,_,_,h,_⟩<;>exact ⟨_,_,_,h⟩
  obtain ⟨ob,lb,zb,rfl⟩:∃ a b c,ev2=.slice a b c:=by rcases s2 with ⟨_,_,h⟩ | ⟨_,_,_,h,_⟩<;>exact ⟨_,_,_,h⟩
  obtain ⟨oc,lc,zc,rfl⟩:∃ a b c,w1=.slice a b c:=by rcases s3 with ⟨_,_,h⟩ | ⟨_,_,_,h,_⟩<;>exact ⟨_,_,_,h⟩
  obtain ⟨od,ld,zd,rfl⟩:∃ a b c,w2=.slice a b c:=by rcases s4 with ⟨_,_,h⟩ | ⟨_,_,_,h,_⟩<;>exact ⟨_,_,_,h⟩
  have X1:(Asm.cmp .lss (i:Int) (Int.ofNat m) true).holds Try.prog:=ltT (by simp only [Int.ofNat_eq_natCast];omega)
  have X2:(Asm.off ((k+i)*6) (0+k*6) (i:Int) m 6).holds Try.prog:=offI (q:=i) rfl (by omega) (by omega)
  have X3:(Asm.ldn (.is g) o ((k+i)*6) 6 w.cells).holds Try.prog:=a_ldn hog (by omega) hat
  have X4:(Asm.st (.push (.is g) (.cells [.int .i64 0,.int .i64 0,.int .i64 0,.bool false,.int .i64 0,.string ⟨#[]⟩] true)) g.length 0 w.cells w.cells).holds Try.prog:=a_st (get_new _ _) (by simp [OpV.cells]) rfl
  have X6:∀ s:SH,s.den=ga→(Asm.ldn s g.length 0 6 w.cells).holds Try.prog:=fun s e=>a_ldn (by rw [e];exact hd) (by simp [OpV.cells]) rfl
  have X7:(Asm.ldn (.is g1) g.length 0 6 w.cells).holds Try.prog:=a_ldn hd1 (by simp [OpV.cells]) rfl
  have X9:(Asm.arith .add .i64 (i:Int) 1 ((i+1:Nat):Int)).holds Try.prog:=addI rfl (by omega) (by omega)
  have fin:∀ {E2:Env},EnvLe (KWe b b2 o k m (i+1)) E2→CRun Try.prog 113 false (loopN Try.f7 0) E g .normal E2 g4→∃ E1 g',LRun Try.prog 113 false (loopN Try.f7 0) E g (.exit 0) E1 g':=by
   intro E2 e2 c2
   obtain ⟨E3,g5,s5⟩:=ih (i+1) E2 g4 _ _ _ _ (by omega) e2 (by rw [hnext];exact T4)
   exact ⟨E3,g5,.step c2 s5⟩
  cases hz:(X.run w).2.2 with
  | true =>
   rw [hz] at R1 R2
   obtain ⟨E2,q1,q2⟩:=pvC 0 hE (c36p.tl_true b b2 o (0+k*6) m ((k+i)*6) g.length i ((i+1:Nat):Int) w.k w.n w.m w.fk w.y w.ft oa ob oc od la za lb zb lc zc ld zd g g1 g2 g3 g4)
    ⟨X1,X2,X3,rfl,X4,X6 _ hga.symm,by rw [hga] at R1;exact R1,X7,R2,Q1,R3,R4,Q2,X9,trivial⟩
   exact fin (.trans (.add (.add (.add (.add (.add (.nil _) rfl) rfl) rfl) rfl) rfl) q1) q2
  | false =>
   rw [hz] at R1 R2
   obtain ⟨E2,q1,q2⟩:=pvC 0 hE (c36p.tl_false b b2 o (0+k*6) m ((k+i)*6) g.length i ((i+1:Nat):Int) w.k w.n w.m w.fk w.y w.ft oa ob oc od la za lb zb lc zc ld zd g g1 g2 g3 g4)
    ⟨X1,X2,X3,rfl,X4,X6 _ hga.symm,by rw [hga] at R1;exact R1,X7,R2,Q1,R3,R4,Q2,X9,trivial⟩
   exact fin (.trans (.add (.add (.add (.add (.add (.nil _) rfl) rfl) rfl) rfl) rfl) q1) q2
def twOk (x:GS) (q:Int):Prop:=((x.strikeT q).2.2≠0→(x.strikeT q).2.2=6) ∧
 ((x.strikeT q).2.2=0→(x.strikeT q).1.strikeT q=((x.strikeT q).1,[],0)∧((x.strikeT q).1.pend q=true∨(((x.strikeT q).1.t.task q).1.op.map lkP).any (fun p=>decide (p.1=3))=true))
theorem tw_mid {h0 h:Hp} {ρ:Lay} {γ:GL} {b kk:Nat} {x:GS} {q:Int} (a:GAt h ρ γ x) (m:GMade h0 h ρ γ b) (gok:GOk kk x) (hk:kk≤198) (H:twOk x q) :
  ∃ (ev:Value) (g2:Hp),Run Try.prog 31 [ptr b,.int .i64 q] h (.tuple #[ev,.int .i64 (x.strikeT q).2.2]) g2∧((x.strikeT q).2.2=0 →
   ∃ (b2:Nat) (g3 g4 g5 g6:Hp) (σ:Lay) (δ:GL),Run Try.prog 32 [ptr b] g2 (ptr b2) g3∧Run Try.prog 31 [ptr b2,.int .i64 q] g3 (.tuple #[.slice none 0 0,.int .i64 0]) g4∧Two h0 g6 ρ γ b σ δ b2 (x.strikeT q).1 (x.strikeT q).1 ∧
    ((Run Try.prog 22 [ptr b,.int .i64 q] g4 (.bool true) g5∧g6=g5)∨(Run Try.prog 22 [ptr b,.int .i64 q] g4 (.bool false) g5∧Run Try.prog 33 [ptr b,.int .i64 q] g5 (.bool true) g6))):=by
 obtain ⟨c,ok,W,J,hc⟩:=id gok
 obtain ⟨ev,g2,R2,a2,S2,s2⟩:=strikeT_run a ok (by omega) W J q
 rw [m.g] at R2
 refine ⟨ev,g2,R2,fun e=>?_⟩
 obtain ⟨H1,H2⟩:=H.2 e
 have gok1:=gok.strikeT q
 have m2:=m.step S2
 obtain ⟨X,hX⟩:∃ X,X=(x.strikeT q).1:=⟨_,rfl⟩
 rw [← hX] at H1 H2 gok1 a2 ⊢
 obtain ⟨c1,ok1,W1,J1,hc1⟩:=id gok1
 obtain ⟨σ,δ,g3,R3,T⟩:=Two.of_copy a2 m2 ok1 (by omega) (by omega)
 rw [m2.g] at R3
 obtain ⟨ev',g4,R4,a4,S4,s4⟩:=strikeT_run T.a2 ok1 (by omega) W1 J1 q
 rw [H1] at R4 a4 s4
 have ee:ev'=.slice none 0 0:=by
  rcases s4 with ⟨_,_,e⟩ | ⟨e,_⟩
  ·exact e
  ·exact absurd rfl e
 subst ee
 have T4:=T.step2 a4 S4
 obtain ⟨g5,R5,K5⟩:=pend_run T4.a1 ok1 (by omega) W1 q
 rw [m2.g] at R5
 have T5:=T4.grow K5
 cases hp:X.pend q with
 | true =>
  rw [hp] at R5
  exact ⟨δ.g,g3,g4,g5,g5,σ,δ,R3,R4,T5,.inl ⟨R5,rfl⟩⟩
 | false =>
  rw [hp] at R5 H2
  have H2:=H2.resolve_left (by simp)
  obtain ⟨g6,R6,K6⟩:=shielded_run T5.a1 ok1 (by omega) q
  rw [H2,m2.g] at R6
  exact ⟨δ.g,g3,g4,g5,g6,σ,δ,R3,R4,T5.grow K6,.inr ⟨R5,R6⟩⟩
theorem twicelaw_run {h:Hp} {l:List OpV} {vl:Value} (n q:Int) (hv:OpsAt h vl l) (H:∀ k,1≤n→n≤64→twOk ((GS.roots n.toNat).runL (l.take k)) q):∃ h',Run Try.prog 7 [.int .i64 n,vl,.int .i64 q] h (.bool true) h':=by
 have gokk:∀ k:Nat,1≤n→n≤64→k≤60→∃ kk,kk≤184∧GOk kk ((GS.roots n.toNat).runL (l.take k)):=fun k h1 h2 hk=>by
  have til:(l.take k).length≤k:=by simp;omega
  exact ⟨_,by omega,(GOk.roots (n:=n.toNat) (by omega)).runL⟩
 rcases hv with ⟨rfl,rfl⟩ | ⟨o,rw,rfl,ho⟩
 ·have M0:(Asm.mm false 0 40 0).holds Try.prog:=by simp [Asm.holds]
  have M1:(Asm.mm false 0 60 0).holds Try.prog:=by simp [Asm.holds]
  rcases made_run n (h:=h) (l:=[]) (.inl ⟨rfl,rfl⟩) with ⟨_,r⟩ | ⟨h1,h2,b,ρ,γ,g,r,a,m⟩
  ·exact ⟨h,pvF 0 Try.func7 (c36p.tw_nm 0 0 0 0 0 0 0 n q 0 undef h h h h h h h h h) ⟨M0,r,awake_run h,trivial⟩⟩
  ·obtain ⟨kk,hk,gok⟩:=gokk 60 h1 h2 (by omega)
   have H:=H 60 h1 h2
   obtain ⟨ev,g2,R2,rest⟩:=tw_mid a m gok (by omega) H
   by_cases e:(((GS.roots n.toNat).runL (([]:List OpV).take 60)).strikeT q).2.2=0
   ·obtain ⟨b2,g3,g4,g5,g6,σ,δ,R3,R4,T,R5 | R5⟩:=rest e
    ·rw [e] at R2
     exact ⟨g5,pvF 0 Try.func7 (c36p.tw_np b b2 0 0 0 0 0 n q 0 ev h g g2 g3 g4 g5 g6 g5 g5) ⟨M0,r,R2,R3,R4,neF rfl,neF rfl,R5.1,M1,ltF (by omega),awake_run g5,trivial⟩⟩
    ·rw [e] at R2
     exact ⟨g6,pvF 0 Try.func7 (c36p.tw_ns b b2 0 0 0 0 0 n q 0 ev h g g2 g3 g4 g5 g6 g6 g6) ⟨M0,r,R2,R3,R4,neF rfl,neF rfl,R5.1,R5.2,M1,ltF (by omega),awake_run g6,trivial⟩⟩
   ·exact ⟨g2,pvF 0 Try.func7 (c36p.tw_ne b 0 0 0 0 0 0 n q _ ev h g g2 g2 g2 g2 g2 g2 g2) ⟨M0,r,R2,neT e,eqT (H.1 e),awake_run g2,trivial⟩⟩
 ·obtain ⟨k,hk⟩:∃ k,k=min l.length 40:=⟨_,rfl⟩
  obtain ⟨p,hp⟩:∃ p,p=min l.length 60:=⟨_,rfl⟩
  have M0:(Asm.mm false (Int.ofNat l.length) 40 (Int.ofNat k)).holds Try.prog:=.inr ⟨rfl,by simp only [Int.ofNat_eq_natCast];split<;>omega⟩
  have M1:(Asm.mm false (Int.ofNat l.length) 60 (Int.ofNat p)).holds Try.prog:=.inr ⟨rfl,by simp only [Int.ofNat_eq_natCast];split<;>omega⟩
  have C0:(Asm.cut none (some (.int .i64 (Int.ofNat k))) l.length 0 k).holds Try.prog:=a_cut (by omega)
  rcases made_part n ho (k:=k) (by omega) (by omega) with ⟨_,r⟩ | ⟨h1,h2,b,ρ,γ,g,r,a,m⟩
  ·exact ⟨h,pvF 0 Try.func7 (c36p.tw_sm 0 0 o l.length k 0 0 n q 0 undef h h h h h h h h h) ⟨M0,C0,r,awake_run h,trivial⟩⟩
  ·obtain ⟨kk,hkk,gok⟩:=gokk k h1 h2 (by omega)
   have H:=H k h1 h2
   obtain ⟨ev,g2,R2,rest⟩:=tw_mid a m gok (by omega) H
   by_cases e:(((GS.roots n.toNat).runL (l.take k)).strikeT q).2.2=0
   ·obtain ⟨b2,g3,g4,g5,g6,σ,δ,R3,R4,T,R5⟩:=rest e
    obtain ⟨E7,g7,l7⟩:=tl_loop (k:=k) (m:=p-k) (by omega) (by omega) ho (gok.strikeT q) (by omega) (p-k) 0 (KWe b b2 o k (p-k) 0) g6 ρ σ γ δ (by omega) (EnvLe.refl _) T
    rw [e] at R2
    have C1:(Asm.cut (some (.int .i64 (Int.ofNat k))) (some (.int .i64 (Int.ofNat p))) l.length k p).holds Try.prog:=a_cut2 (by omega) (by omega)
    rcases R5 with ⟨R5,rfl⟩ | ⟨R5,R6⟩
    ·exact ⟨g7,pvF 0 Try.func7 (c36p.tw_sp b b2 o l.length k p p n q 0 ev h g g2 g3 g4 g6 g6 g7 g7) ⟨M0,C0,r,R2,R3,R4,neF rfl,neF rfl,R5,M1,C1,a_loop (by kernel_rfl) (.add (.add (.add (.add (.add (.nil _) rfl) rfl) rfl) rfl) rfl) (.nil _) l7,awake_run g7,trivial⟩⟩
    ·exact ⟨g7,pvF 0 Try.func7 (c36p.tw_ss b b2 o l.length k p p n q 0 ev h g g2 g3 g4 g5 g6 g7 g7) ⟨M0,C0,r,R2,R3,R4,neF rfl,neF rfl,R5,R6,M1,C1,a_loop (by kernel_rfl) (.add (.add (.add (.add (.add (.nil _) rfl) rfl) rfl) rfl) rfl) (.nil _) l7,awake_run g7,trivial⟩⟩
   ·exact ⟨g2,pvF 0 Try.func7 (c36p.tw_se b 0 o l.length k 0 0 n q _ ev h g g2 g2 g2 g2 g2 g2 g2) ⟨M0,C0,r,R2,neT e,eqT (H.1 e),awake_run g2,trivial⟩⟩
theorem chain_code (t:TS) (n:Int):(t.chain n).2=0∨(t.chain n).2=6:=by
 unfold TS.chain
 split
 ·rename_i e hq
  unfold TS.runs at hq
  split at hq
  ·cases hq;exact .inr rfl
  ·split at hq
   ·split at hq
    ·cases hq;exact .inr rfl
    ·cases hq
   ·cases hq;exact .inr rfl
 ·split
  ·exact .inl rfl
  ·exact .inr rfl
theorem tw_ok (x:GS) (q:Int):twOk x q:=by
 by_cases h:(x.t.chain q).2=0
 ·have e:x.strikeT q=((x.strike true q (reachO x.t q (x.t.task q).1.op)).1,(x.strike true q (reachO x.t q (x.t.task q).1.op)).2,0):=by unfold GS.strikeT;rw [if_neg (by simp [h])]
  refine ⟨fun hn=>absurd (by rw [e]) hn,fun _=>?_⟩
  have et:(x.strikeT q).1.t=x.t:=by rw [e];exact strike_t _ _ _ _
  have em:q∈(x.strikeT q).1.tm:=by
   rw [e]
   show q∈(x.strike true q _).1.tm
   unfold GS.strike
   by_cases hm:q∈x.mks true
   ·rw [if_pos hm];exact hm
   ·rw [if_neg hm];show q∈x.tm++[q];simp
  generalize (x.strikeT q).1=X at et em
  refine ⟨?_,?_⟩
  ·unfold GS.strikeT
   rw [et,if_neg (by simp [h])]
   unfold GS.strike
   rw [if_pos (show q∈X.mks true from em)]
  ·obtain ⟨k,y,rfl,hy,he⟩:=chain_ok_run h
   rw [et,task_at hy]
   cases hs:((y.opn.map lkP).any fun p=>decide (p.1=3)) with
   | true=>exact .inr hs
   | false =>
    left
    unfold GS.pend
    rw [et,chain_run' hy he]
    show pendL X.tm X.sm (x.t.chainG (k+1) k y.opn.length)=true
    rw [TS.chainG]
    simp only [hy,List.take_length]
    rw [List.append_assoc]
    refine pendL_app (fun p hp h3=>?_) ?_
    ·obtain ⟨v,hv,rfl⟩:=List.mem_map.1 hp
     have:=List.any_eq_false.1 hs (lkP v) (List.mem_map_of_mem (List.mem_reverse.1 hv))
     simp [h3] at this
    ·show pendL X.tm X.sm ((1,((k+1:Nat):Int))::_)=true
     rw [pendL,pendD,if_neg (show ¬ ((1:Int)=3) by decide),if_pos ⟨rfl,em⟩]
 ·have e:x.strikeT q=(x,[],(x.t.chain q).2):=by unfold GS.strikeT;rw [if_pos h]
  rw [twOk,e]
  exact ⟨fun _=>(chain_code x.t q).resolve_left h,fun h'=>absurd h' h⟩
theorem twice_law {h:Hp} {l:List OpV} {vl:Value} (n q:Int) (hv:OpsAt h vl l):∃ h',Run Try.prog 7 [.int .i64 n,vl,.int .i64 q] h (.bool true) h' :=
 twicelaw_run n q hv fun _ _ _=>tw_ok _ _
end Go.Proofs.Ytlonjogfeidgfaa.gr
