import Derived.Test.YtlonjogfeidgfaaOnceF
set_option linter.unusedVariables false
namespace Go.Proofs.Ytlonjogfeidgfaa.gr
open Go Go.Ev Go.Proofs.Ytlonjogfeidgfaa.tr
set_option linter.unusedVariables false
set_option linter.constructorNameAsVariable false
section
variable {t:TS} {c k:Nat}
theorem fail_kinds (n fk:Int) (ft:ByteArray):∀ e,e∈(t.fail n fk ft).2.1→e.kind=1∧e.n≤t.scs.length:=by
 intro e he
 unfold TS.fail at he
 split at he
 ·cases he
 ·rename_i s _ hq
  obtain ⟨_,h1,h2⟩:=scope_some hq
  split at he
  ·cases he
  ·split at he
   ·cases he
   ·split at he
    ·simp only at he
     split at he
     ·rw [List.mem_singleton] at he;subst he
      refine ⟨rfl,?_⟩
      show n≤_
      omega
     ·cases he
    ·cases he
theorem no_left {l:List Ef} (h:∀ e,e∈l→e.kind≠3):leftL l=false:=by
 induction l with
 | nil=>rfl
 | cons e l ih=>rw [leftL,decide_eq_false (h e (List.mem_cons_self ..)),ih fun e' h'=>h e' (List.mem_cons_of_mem _ h')];rfl
theorem turned_no {x:GS}:∀ (l:List Ef),(∀ e,e∈l→e.kind≠1)→x.turned l=(x,l)
 | [],_=>rfl
 | e::l,h=>by
  rw [GS.turned,if_neg (h e (List.mem_cons_self ..)),turned_no l fun e' h'=>h e' (List.mem_cons_of_mem _ h')]
theorem toldL_no:∀ {l:List Ef},(∀ e,e∈l→e.kind≠2)→toldL l=[]
 | [],_=>rfl
 | e::l,h=>by rw [toldL,if_neg (h e (List.mem_cons_self ..)),toldL_no fun e' h'=>h e' (List.mem_cons_of_mem _ h')]
structure EfOk (x:GS) (r:TS×List Ef×Int) (e:Option Nat):Prop where
 cs:Cs x.t r.1
 kinds:∀ e,e∈r.2.1→e.kind≠2∧(e.kind=1→e.n≤x.t.scs.length)
 fn:Fn x.t r.1
 fs:leftL r.2.1=false→Fs e x.t r.1
 left:WI none r.1→WJ r.1→(∃ c,TOk c r.1)→leftL r.2.1=true→∀ m,m∉toldL (({ x with t:=r.1 }:GS).turned r.2.1).2
 err:∀ j,e=some j→r.2.2=0
theorem EfOk.none' {x:GS} {i:Int} {e:Option Nat} (he:∀ j,e=some j→i=0):EfOk x (x.t,[],i) e :=
 ⟨.refl _,fun e h=>(by cases h),fun j y hy _=>⟨y,hy,.inl rfl⟩,fun _ j y hy hen=>.inr ⟨y,hy,hen,rfl⟩,fun _ _ _ h=>(by cases h),he⟩
theorem fail_ok (x:GS) (n fk:Int) (ft:ByteArray):EfOk x (x.t.fail n fk ft) none :=
 ⟨cs_fail n fk ft,fun e h=>(let ⟨h1,h2⟩:=fail_kinds n fk ft e h;⟨by omega,fun _=>h2⟩),fn_tks (fail_tks _ _ _ _),fun _=>fs_tks (fail_tks _ _ _ _),fun _ _ _ h=>(by
  rw [no_left fun e h=>(by
   have:=(fail_kinds n fk ft e h).1
   omega)] at h
  cases h),fun j h=>(by cases h)⟩
theorem leave1_tks {s:Nat} {fk:Int} {ft:ByteArray}:∀ (j:Nat) x',(t.leave1 k s fk ft).tks[j]?=some x'→∃ x,t.tks[j]?=some x∧x'.en=x.en∧x'.opn=x.opn:=by
 intro j x' hx'
 unfold TS.leave1 at hx'
 obtain ⟨x2,hx2,e2⟩:=upT_inv hx'
 obtain ⟨x1,hx1,e1⟩:=upT_inv hx2
 rw [blame_tks] at hx1
 refine ⟨x1,hx1,?_⟩
 rcases e1 with ⟨_,rfl⟩ | ⟨_,rfl⟩<;>rcases e2 with ⟨_,rfl⟩ | ⟨_,rfl⟩<;>exact ⟨rfl,rfl⟩
theorem leave1_len {s:Nat} {fk:Int} {ft:ByteArray}:(t.leave1 k s fk ft).tks.length=t.tks.length:=by
 unfold TS.leave1;rw [upT_len,upT_len,blame_tks]
theorem liveE_kinds (s:Nat) (fk:Int) (y:Sc):∀ e,e∈liveE s fk y→e.kind=1∧e.n=((s+1:Nat):Int):=fun e h=>by
 unfold liveE at h
 split at h
 ·rw [List.mem_singleton] at h;subst h;exact ⟨rfl,rfl⟩
 ·cases h
theorem leave_ok (x:GS) (ok:TOk c x.t) (W:WI none x.t) (n fk:Int) (ft:ByteArray):EfOk x (x.t.leave n fk ft) none:=by
 unfold TS.leave
 split
 ·exact .none' fun j h=>by cases h
 ·rename_i k e' hq
  obtain ⟨_,_,w,hx,he⟩:=runs_some hq
  split
  ·exact .none' fun j h=>by cases h
  ·rw [hx]
   simp only
   split
   ·rename_i s hl hg
    split
    ·rename_i y hy
     have W1:=W.leave1 hx he hg hy fk ft
     have hs:=get_lt' hy
     have C:Cs x.t ((x.t.leave1 k s fk ft).fin s).1:=(cs_leave1 s fk ft).trans (cs_fin W1 s)
     have F:Fn x.t ((x.t.leave1 k s fk ft).fin s).1:=fun j x' hx' hen=>by
      obtain ⟨x1,h1,h2,_,h3⟩:=fin_tks j x' hx'
      obtain ⟨x0,h4,h5,h6⟩:=leave1_tks j x1 h1
      rw [h6] at h3
      exact ⟨x0,h4,h3.elim .inl fun h=>.inr ⟨s,h⟩⟩
     rcases fin_cases (s:=s) (x.t.leave1 k s fk ft) with ⟨g1,g2⟩ | ⟨e,g1,g2,⟨y1,g3,g4⟩,y2,g5,g6⟩
     ·rw [g2] at C F
      rw [g1,g2,List.append_nil]
      refine ⟨C,fun e h=>?_,F,fun _ j z hz hen=>?_,fun _ _ _ h=>?_,fun j h=>by cases h⟩
      ·obtain ⟨h1,h2⟩:=liveE_kinds s fk y e h
       exact ⟨by omega,fun _=>by omega⟩
      ·obtain ⟨z',hz'⟩:∃ z',(x.t.leave1 k s fk ft).tks[j]?=some z':=⟨_,List.getElem?_eq_getElem (by rw [leave1_len];exact get_lt' hz)⟩
       obtain ⟨z0,h4,h5,h6⟩:=leave1_tks j z' hz'
       rw [hz] at h4;cases h4
       exact .inr ⟨z',hz',by rw [h5];exact hen,h6⟩
      ·rw [no_left fun e h=>by
        have:=(liveE_kinds s fk y e h).1
        omega] at h
       cases h
     ·
      obtain ⟨yb,hyb,hlive,_⟩:=blame_get (s:=s) (fk:=fk) (ft:=ft) hy
      have hlv:¬ (fk≠0∧0<y.live):=fun h=>by
       have h9:(x.t.leave1 k s fk ft).scs[s]?=some yb:=hyb
       rw [g3] at h9;cases h9
       omega
      have hE:liveE s fk y=[]:=by unfold liveE;rw [if_neg hlv]
      rw [hE,List.nil_append,g1]
      refine ⟨C,fun e' h=>?_,F,fun h=>?_,fun _ _ _ _=>?_,fun j h=>by cases h⟩
      ·rw [List.mem_singleton] at h;subst h;exact ⟨by omega,fun h=>by omega⟩
      ·simp [leftL,g2] at h
      ·intro m
       rw [turned_no _ fun e' h=>by rw [List.mem_singleton] at h;subst h;omega]
       rw [toldL_no fun e' h=>by rw [List.mem_singleton] at h;subst h;omega]
       intro h;cases h
    ·exact .none' fun j h=>by cases h
   ·exact .none' fun j h=>by cases h
theorem end1_tks {fk:Int} {ft:ByteArray}:∀ (j:Nat) x',(t.end1 k fk ft).tks[j]?=some x'→∃ x,t.tks[j]?=some x∧x'.opn=x.opn∧((k=j∧x'.en=true)∨(k≠j∧x'.en=x.en)):=by
 intro j x' hx'
 unfold TS.end1 at hx'
 obtain ⟨x2,hx2,e2⟩:=upT_inv hx'
 obtain ⟨x1,hx1,e1⟩:=upT_inv hx2
 refine ⟨x1,hx1,?_⟩
 rcases e1 with ⟨r1,rfl⟩ | ⟨r1,rfl⟩<;>rcases e2 with ⟨r2,rfl⟩ | ⟨r2,rfl⟩
 ·exact ⟨rfl,.inl ⟨r1,rfl⟩⟩
 ·exact absurd r1 r2
 ·exact absurd r2 r1
 ·exact ⟨rfl,.inr ⟨r1,rfl⟩⟩
theorem end3_tk {s:Nat} {y:Sc} {fk:Int} {ft:ByteArray}:(t.end3 k s y fk ft).1.tks=(t.end1 k fk ft).tks:=by
 unfold TS.end3;split
 ·rfl
 ·rw [blame_tks];rfl
theorem end1_len {fk:Int} {ft:ByteArray}:(t.end1 k fk ft).tks.length=t.tks.length:=by
 unfold TS.end1;rw [upT_len,upT_len]
theorem saidE_kinds (s:Nat) (b:Bool):∀ e,e∈saidE s b→e.kind=1∧e.n=((s+1:Nat):Int):=fun e h=>by
 unfold saidE at h
 split at h
 ·rw [List.mem_singleton] at h;subst h;exact ⟨rfl,rfl⟩
 ·cases h
theorem end_ok (x:GS) (ok:TOk c x.t) (W:WI none x.t) (n fk:Int) (ft:ByteArray):∃ e,EfOk x (x.t.end n fk ft) e∧∀ j:Nat,e=some j→n=((j+1:Nat):Int):=by
 unfold TS.end
 split
 ·exact ⟨none,.none' (fun j h=>by cases h),fun j h=>by cases h⟩
 ·rename_i k e' hq
  obtain ⟨_,hn,w,hx,he⟩:=runs_some hq
  split
  ·exact ⟨none,.none' (fun j h=>by cases h),fun j h=>by cases h⟩
  ·rw [hx]
   simp only
   split
   ·exact ⟨none,.none' (fun j h=>by cases h),fun j h=>by cases h⟩
   ·rename_i ho
    have ho':w.opn=[]:=Classical.byContradiction ho
    have FS:∀ {t':TS},t'.tks=(x.t.end1 k fk ft).tks→Fs (some k) x.t t':=fun {t'} h j z hz hen=>by
     obtain ⟨z',hz'⟩:∃ z',(x.t.end1 k fk ft).tks[j]?=some z':=⟨_,List.getElem?_eq_getElem (by rw [end1_len];exact get_lt' hz)⟩
     obtain ⟨z0,h4,h5,⟨r,h6⟩ | ⟨r,h6⟩⟩:=end1_tks j z' hz'
     ·left
      refine ⟨by rw [r],fun x' hx'=>?_⟩
      rw [h,hz'] at hx';cases hx';exact h6
     ·right
      rw [hz] at h4;cases h4
      exact ⟨z',by rw [h];exact hz',by rw [h6];exact hen,h5⟩
    refine ⟨some k,?_,fun j h=>by cases h;omega⟩
    split
    ·rename_i hi
     refine ⟨cs_end1 fk ft,fun e h=>(by cases h),fun j x' hx' _=>?_,fun _=>FS rfl,fun _ _ _ h=>(by cases h),fun _ _=>rfl⟩
     obtain ⟨x0,h4,h5,_⟩:=end1_tks j x' hx'
     exact ⟨x0,h4,.inl h5⟩
    ·rename_i s hi
     split
     ·rename_i hno
      have:=ok.inn k w s hx hi
      rw [List.getElem?_eq_none_iff] at hno
      omega
     ·rename_i y hy
      have hs:=get_lt' hy
      have W2:=W.end2 ok hx he ho' hi fk ft
      have W3:WI (some s) (x.t.end3 k s y fk ft).1:=by
       unfold TS.end3
       split
       ·exact W2
       ·exact W2.blame _ _ _
      have C:Cs x.t ((x.t.end3 k s y fk ft).1.fin s).1:=(cs_end3 s y fk ft).trans (cs_fin W3 s)
      have F:Fn x.t ((x.t.end3 k s y fk ft).1.fin s).1:=fun j x' hx' hen=>by
       obtain ⟨x1,h1,h2,_,h3⟩:=fin_tks j x' hx'
       rw [end3_tk] at h1
       obtain ⟨x0,h4,h5,_⟩:=end1_tks j x1 h1
       rw [h5] at h3
       exact ⟨x0,h4,h3.elim .inl fun h=>.inr ⟨s,h⟩⟩
      rcases fin_cases (s:=s) (x.t.end3 k s y fk ft).1 with ⟨g1,g2⟩ | ⟨e,g1,g2,_,y2,g5,g6⟩
      ·rw [g2] at C F
       rw [g1,g2,List.append_nil]
       refine ⟨C,fun e h=>?_,F,fun _=>FS end3_tk,fun _ _ _ h=>?_,fun _ _=>rfl⟩
       ·obtain ⟨h1,h2⟩:=saidE_kinds s _ e h
        exact ⟨by omega,fun _=>by omega⟩
       ·rw [no_left fun e h=>by
         have:=(saidE_kinds s _ e h).1
         omega] at h
        cases h
      ·refine ⟨C,fun e' h=>?_,F,fun h=>?_,fun W' J' ⟨c',ok'⟩ _ m=>?_,fun _ _=>rfl⟩
       ·rw [g1] at h
        rcases List.mem_append.1 h with h | h
        ·obtain ⟨h1,h2⟩:=saidE_kinds s _ e' h
         exact ⟨by omega,fun _=>by omega⟩
        ·rw [List.mem_singleton] at h;subst h;exact ⟨by omega,fun h=>by omega⟩
       ·rw [g1,leftL_app] at h
        simp [leftL,g2] at h
       ·rw [g1]
        unfold saidE
        split
        ·show m∉toldL (GS.turned _ (_::[e])).2
         rw [GS.turned,if_pos rfl,turned_no _ fun e' h=>by rw [List.mem_singleton] at h;subst h;omega]
         rw [toldL_app,toldL_no (l:=[e]) fun e' h=>by rw [List.mem_singleton] at h;subst h;omega,List.append_nil]
         exact strikes_over (x:={ x with t:=((x.t.end3 k s y fk ft).1.fin s).1 }) ok' W' J' g5 g6 m
        ·rw [List.nil_append,turned_no _ fun e' h=>by rw [List.mem_singleton] at h;subst h;omega]
         rw [toldL_no fun e' h=>by rw [List.mem_singleton] at h;subst h;omega]
         intro h;cases h
end
end Go.Proofs.Ytlonjogfeidgfaa.gr
namespace Go.Proofs.Ytlonjogfeidgfaa.gr
open Go Go.Ev Go.Proofs.Ytlonjogfeidgfaa.tr
set_option linter.unusedVariables false
set_option linter.constructorNameAsVariable false
theorem swp_mem {l:List Pr} {a b:Nat} {p:Pr} (h:p∈swp l a b):p∈l:=by
 unfold swp at h
 split at h
 ·rename_i q r hq hr
  rcases List.mem_or_eq_of_mem_set h with h | h
  ·rcases List.mem_or_eq_of_mem_set h with h | h
   ·exact h
   ·rw [h];exact List.mem_of_getElem? hr
  ·rw [h];exact List.mem_of_getElem? hq
 ·exact h
theorem upF_mem:∀ (f j:Nat) {l:List Pr} {p:Pr},p∈upF f j l→p∈l
 | 0,_,_,_,h=>h
 | f+1,0,_,_,h=>h
 | f+1,j+1,l,p,h=>by
  simp only [upF] at h
  split at h
  ·split at h
   ·exact swp_mem (upF_mem f _ h)
   ·exact h
  ·exact h
theorem downF_mem:∀ (f k n:Nat) {l:List Pr} {p:Pr},p∈downF f k n l→p∈l
 | 0,_,_,_,_,h=>h
 | f+1,k,n,l,p,h=>by
  simp only [downF] at h
  split at h
  ·exact h
  ·split at h
   ·split at h
    ·exact swp_mem (downF_mem f _ _ h)
    ·exact h
   ·exact h
theorem popL_mem {l:List Pr} {p:Pr} (h:p∈popL l):p∈l:=swp_mem (downF_mem _ _ _ h)
theorem popped_mem {l:List Pr} {p:Pr} (h:p∈popped l):p∈l:=popL_mem (List.mem_of_mem_take h)
theorem popP_mem {l:List Pr} (h:l≠[]):popP l∈l:=by
 have hl:l.length≠0:=fun e=>h (List.length_eq_zero_iff.1 e)
 obtain ⟨p,hp⟩:∃ p,(popL l)[l.length-1]?=some p:=⟨_,List.getElem?_eq_getElem (by rw [popL_len];omega)⟩
 rw [popP,hp]
 exact popL_mem (List.mem_of_getElem? hp)
theorem overF_mem:∀ (f:Nat) (t:TS) {l:List Pr} {p:Pr},p∈overF f t l→p∈l
 | 0,_,_,_,h=>h
 | f+1,t,[],p,h=>h
 | f+1,t,q::l,p,h=>by
  simp only [overF] at h
  split at h
  ·exact popped_mem (overF_mem f t h)
  ·exact h
structure MB (x:GS):Prop where
 tm:∀ n,n∈x.tm→n≤x.t.tks.length
 sm:∀ n,n∈x.sm→n≤x.t.scs.length
 du:∀ p,p∈x.du→p.2≤x.t.scs.length
section
variable {x:GS} {t':TS} {c k:Nat}
theorem MB.tree (M:MB x) (C:Cs x.t t'):MB { x with t:=t' }:=by
 have h1:=C.le
 have h2:=C.scl
 exact ⟨fun n h=>by have:=M.tm n h;show n≤(t'.tks.length:Int);omega,fun n h=>by have:=M.sm n h;show n≤(t'.scs.length:Int);omega,fun p h=>by have:=M.du p h;show p.2≤(t'.scs.length:Int);omega⟩
theorem MB.strike (M:MB x) {b:Bool} {n:Int} {l:List Int} (h:b=true→n≤x.t.tks.length) (h':b=false→n≤x.t.scs.length):MB (x.strike b n l).1:=by
 unfold GS.strike
 split
 ·exact M
 ·cases b with
  | true =>
   exact ⟨fun m hm=>(List.mem_append.1 hm).elim (M.tm m) fun e=>by rw [List.mem_singleton.1 e];exact h rfl,M.sm,M.du⟩
  | false =>
   exact ⟨M.tm,fun m hm=>(List.mem_append.1 hm).elim (M.sm m) fun e=>by rw [List.mem_singleton.1 e];exact h' rfl,M.du⟩
theorem MB.strikes (M:MB x) {n:Int} (h:n≤x.t.scs.length):MB (x.strikes n).1:=M.strike (by simp) fun _=>h
theorem MB.turned:∀ (l:List Ef) {x:GS},MB x→(∀ e,e∈l→e.kind=1→e.n≤x.t.scs.length)→MB (x.turned l).1
 | [],x,M,h=>M
 | e::l,x,M,h=>by
  rw [GS.turned];split
  ·rename_i hk
   have ht:(x.strikes e.n).1.t=x.t:=strike_t _ _ _ _
   exact MB.turned l (M.strikes (h e (List.mem_cons_self ..) hk)) fun e' h1 h2=>by rw [ht];exact h e' (List.mem_cons_of_mem _ h1) h2
  ·exact MB.turned l M fun e' h1 h2=>h e' (List.mem_cons_of_mem _ h1) h2
theorem MB.after (M:MB x) {r:TS×List Ef×Int} {e:Option Nat} (o:EfOk x r e):MB (x.after r).1 :=
 MB.turned r.2.1 (M.tree o.cs) fun e h1 h2=>by
  have h3:=(o.kinds e h1).2 h2
  have h4:=o.cs.scl
  show e.n≤(r.1.scs.length:Int)
  omega
theorem MB.over (M:MB x):MB x.over:=⟨M.tm,M.sm,fun p h=>M.du p (overF_mem _ _ h)⟩
theorem MB.late (M:MB x) (h:x.du≠[]):MB x.lateF.1:=by
 have M1:MB x.pop:=⟨M.tm,M.sm,fun p h=>M.du p (popped_mem h)⟩
 exact M1.after (fail_ok x.pop (popP x.du).2 1 c13p.late)
theorem MB.come (M:MB x) (h:x.du≠[]):MB x.come.1:=by
 refine (M.late h).strikes ?_
 rw [late_t]
 have h1:=M.du _ (popP_mem h)
 have h2:=(cs_fail (t:=x.t) (popP x.du).2 1 c13p.late).scl
 omega
theorem MB.expF:∀ (f:Nat) {x:GS} (now:Int),MB x→MB (expF f x now).1
 | 0,x,now,M=>M
 | f+1,x,now,M=>by
  unfold gr.expF;split
  ·exact M
  ·rename_i p r e
   split
   ·exact MB.expF f now (M.come (by rw [e];simp)).over
   ·exact M
theorem open_num {t:TS} (n:Int) (su:Bool):(t.open n su).2.2=0→(t.open n su).2.1≤(t.open n su).1.scs.length:=by
 unfold TS.open
 split
 ·rename_i e hq
  intro h
  simp only at h
  subst h
  exact absurd hq (by
   unfold TS.acts TS.runs
   intro h
   split at h
   ·rename_i q
    split at h
    ·split at h<;>simp at h
    ·simp at h
   ·rename_i q
    simp only [Prod.mk.injEq,true_and] at h
    subst h
    split at q
    ·simp at q
    ·split at q
     ·split at q<;>simp at q
     ·simp at q)
 ·split
  ·intro h;simp at h
  ·intro _
   show ((t.scs.length+1:Nat):Int)≤((t.openF _ su).scs.length:Int)
   simp [TS.openF,TS.newS,TS.upT]
theorem MB.open (M:MB x) (n:Int) (su:Bool) (u:Int):MB (x.open n su u):=by
 have M1:=M.tree (cs_open n su)
 unfold GS.open;split
 ·rename_i h
  refine ⟨M1.tm,M1.sm,fun p hp=>?_⟩
  rcases List.mem_append.1 (upF_mem _ _ hp) with h1 | h1
  ·exact M1.du p h1
  ·rw [List.mem_singleton.1 h1];exact open_num n su h.1
 ·exact M1
theorem chain_ok_run {t:TS} {n:Int} (h:(t.chain n).2=0):∃ (k:Nat) (y:Tk),n=((k+1:Nat):Int)∧t.tks[k]?=some y∧y.en=false:=by
 unfold TS.chain at h
 split at h
 ·rename_i e hq
  have:=runs_none hq
  simp only at h
  omega
 ·rename_i k e hq
  obtain ⟨_,h1,y,hy,he⟩:=runs_some hq
  exact ⟨k,y,by omega,hy,he⟩
theorem MB.strikeT (M:MB x) (n:Int):MB (x.strikeT n).1:=by
 unfold GS.strikeT
 split
 ·exact M
 ·rename_i h
  have h0:(x.t.chain n).2=0:=Classical.byContradiction h
  obtain ⟨k,y,rfl,hy,_⟩:=chain_ok_run h0
  have:=get_lt' hy
  exact M.strike (fun _=>by omega) (by simp)
theorem MB.run (M:MB x) (ok:TOk c x.t) (W:WI none x.t) (o:OpV):MB (x.run o).1:=by
 unfold GS.run
 repeat' split
 ·exact M.open _ _ _
 ·exact M.tree (cs_spawn _)
 ·obtain ⟨e,h,_⟩:=end_ok x ok W o.n o.fk o.ft
  exact M.after h
 ·exact M.after (leave_ok x ok W o.n o.fk o.ft)
 ·exact M.tree (cs_shield _)
 ·exact M.tree (cs_unveil _)
 ·exact M.after (fail_ok x o.n o.fk o.ft)
 ·exact M.tree cs_root
 ·exact M.strikeT _
 ·exact MB.expF _ _ M.over
 ·exact M
theorem MB.roots (n:Nat):MB (GS.roots n):=⟨fun _ h=>(by cases h),fun _ h=>(by cases h),fun _ h=>(by cases h)⟩
theorem MB.runL {n:Nat} (hn:n≤64):∀ (l:List OpV),MB ((GS.roots n).runL l):=by
 intro l
 suffices H:∀ (l:List OpV) (x:GS) (k:Nat),GOk k x→MB x→MB (x.runL l) from H l _ n (GOk.roots hn) (MB.roots n)
 intro l
 induction l with
 | nil=>intro x k _ M;exact M
 | cons o l ih =>
  intro x k ok M
  obtain ⟨c,a,b,d,e⟩:=id ok
  exact ih _ _ (ok.run o) (M.run a b o)
theorem late_tl {k:Nat} (o:GOk k x):Tl x x.lateF.2.1 x.lateF.1:=by
 obtain ⟨c,a,b,d,e⟩:=o
 have C:=cs_fail (t:=x.t) (popP x.du).2 1 c13p.late
 have T1:Tl x [] ({ x.pop with t:=(x.t.fail (popP x.du).2 1 c13p.late).1 }:GS) :=
  Tl.same fun m=>pend_eq C a b a.fail (b.fail _ _ _) (fn_tks (fail_tks _ _ _ _)) (fs_tks (fail_tks _ _ _ _)) m
 have T2:=turned_tl (x.t.fail (popP x.du).2 1 c13p.late).2.1 (x:=({ x.pop with t:=(x.t.fail (popP x.du).2 1 c13p.late).1 }:GS)) (c:=c+1) a.fail (b.fail _ _ _) (d.fail a _ _ _) fun e he=>by
  have:=(fail_kinds (popP x.du).2 1 c13p.late e he).1
  omega
 exact T1.app T2
theorem come_tl {k:Nat} (o:GOk k x):Tl x (x.lateF.2.1++x.come.2) x.come.1:=by
 obtain ⟨⟨c,a,b,d,_⟩,_⟩:=lateF_ok o
 exact (late_tl o).app (strikes_tl a b d _)
theorem expF_tl:∀ (f:Nat) {x:GS} {k:Nat} (now:Int),GOk k x→Tl x (expF f x now).2 (expF f x now).1
 | 0,x,k,now,o=>.refl x
 | f+1,x,k,now,o=>by
  unfold gr.expF;split
  ·exact .refl x
  ·rename_i p r e
   split
   ·have T1:=come_tl o
    have T2:Tl x.come.1 [] x.come.1.over:=Tl.same fun m=>rfl
    have T3:=expF_tl f now (o.come (by rw [e];simp)).over
    exact T1.app (T2.app T3)
   ·exact .refl x
theorem expire_tl {k:Nat} (o:GOk k x) (now:Int):Tl x (x.expire now).2 (x.expire now).1:=by
 have T2:Tl x [] x.over:=Tl.same fun m=>rfl
 exact T2.app (expF_tl _ now o.over)
theorem pend_open (ok:TOk c x.t) (W:WI none x.t) (M:MB x) (n:Int) (su:Bool) (m:Int):({ x with t:=(x.t.open n su).1 }:GS).pend m=x.pend m:=by
 have C:=cs_open (t:=x.t) n su
 have ok':=ok.open (n:=n) (su:=su)
 have W':=W.open ok n su
 have cases:(x.t.open n su).1=x.t∨∃ k y,x.t.tks[k]?=some y∧y.en=false∧(x.t.open n su).1=x.t.openF k su:=by
  unfold TS.open
  split
  ·exact .inl rfl
  ·rename_i k e hq
   obtain ⟨_,_,y,hy,he,_⟩:=acts_some hq
   split
   ·exact .inl rfl
   ·exact .inr ⟨k,y,hy,he,rfl⟩
 rcases cases with h | ⟨k,y,hy,he,h⟩
 ·rw [h]
 ·rw [h] at C ok' W' ⊢
  have at':∀ (j:Nat) z',(x.t.openF k su).tks[j]?=some z'→∃ z,x.t.tks[j]?=some z∧z'.en=z.en∧((k=j∧z'.opn=z.opn++[some x.t.scs.length])∨(k≠j∧z'=z)):=fun j z' hz'=>by
   obtain ⟨z,hz,⟨rfl,rfl⟩ | ⟨hne,rfl⟩⟩:=upT_inv hz'
   ·exact ⟨z,hz,rfl,.inl ⟨rfl,rfl⟩⟩
   ·exact ⟨z',hz,rfl,.inr ⟨hne,rfl⟩⟩
  have same:∀ (j:Nat) z',(x.t.openF k su).tks[j]?=some z'→z'.en=false→({ x with t:=x.t.openF k su }:GS).pend ((j+1:Nat):Int)=x.pend ((j+1:Nat):Int):=fun j z' hz' he'=>by
   obtain ⟨z,hz,_,⟨rfl,ho⟩ | ⟨_,rfl⟩⟩:=at' j z' hz'
   ·rw [pend_push C ok W ok' W' hz hz' he' ho]
    have:((x.t.scs.length+1:Nat):Int)∉x.sm:=fun hm=>by have:=M.sm _ hm;omega
    have e:pendD x.tm x.sm (lkP (some x.t.scs.length))=none:=by
     simp only [pendD,lkP,lkK,lkN];rw [if_neg (by decide),if_neg (fun h=>absurd h.1 (by decide)),if_neg (fun h=>this h.2)]
    rw [e]
   ·exact pend_same C ok W ok' W' hz hz' he' rfl
  cases e:({ x with t:=x.t.openF k su }:GS).pend m with
  | true =>
   obtain ⟨j,z',rfl,hz',he'⟩:=pend_iff e
   rw [← same j z' hz' he',e]
  | false =>
   cases e2:x.pend m with
   | false=>rfl
   | true =>
    obtain ⟨j,z,rfl,hz,hze⟩:=pend_iff e2
    have hl:(x.t.openF k su).tks.length=x.t.tks.length:=by simp [TS.openF,TS.newS,TS.upT]
    obtain ⟨z',hz'⟩:∃ z',(x.t.openF k su).tks[j]?=some z':=⟨_,List.getElem?_eq_getElem (by rw [hl];exact get_lt' hz)⟩
    obtain ⟨z0,hz0,hen,_⟩:=at' j z' hz'
    rw [hz] at hz0;cases hz0
    rw [same j z' hz' (hen.trans hze),e2] at e;cases e
theorem add_get {t:TS} {inn:Option Nat}:∀ {j:Nat} {z:Tk},(t.add inn).tks[j]?=some z→t.tks[j]?=some z∨(j=t.tks.length∧z=Tk0 inn):=fun {j z} h=>by
 cases inn with
 | none=>exact newT_get h
 | some s=>exact newT_get h
theorem add_old {t:TS} {inn:Option Nat} {j:Nat} {z:Tk} (h:t.tks[j]?=some z):(t.add inn).tks[j]?=some z:=by
 have e:(t.add inn).tks=t.tks++[Tk0 inn]:=by cases inn<;>rfl
 rw [e,List.getElem?_append_left (get_lt' h)];exact h
theorem pend_add {inn:Option Nat} (C:Cs x.t (x.t.add inn)) (ok:TOk c x.t) (W:WI none x.t) {c':Nat} (ok':TOk c' (x.t.add inn)) (W':WI none (x.t.add inn)) {m:Int} (hm:m≤x.t.tks.length):({ x with t:=x.t.add inn }:GS).pend m=x.pend m:=by
 cases e:({ x with t:=x.t.add inn }:GS).pend m with
 | true =>
  obtain ⟨j,z',rfl,hz',he'⟩:=pend_iff e
  rcases add_get hz' with hz | ⟨h1,_⟩
  ·rw [← pend_same C ok W ok' W' hz hz' he' rfl,e]
  ·omega
 | false =>
  cases e2:x.pend m with
  | false=>rfl
  | true =>
   obtain ⟨j,z,rfl,hz,hze⟩:=pend_iff e2
   rw [pend_same C ok W ok' W' hz (add_old hz) hze rfl,e2] at e;cases e
theorem pend_root (ok:TOk c x.t) (W:WI none x.t) (M:MB x) (m:Int):({ x with t:=x.t.root.1 }:GS).pend m=x.pend m:=by
 have C:=cs_root (t:=x.t)
 have ok':=ok.root
 have W':=W.root ok
 unfold TS.root at C ok' W' ⊢
 split
 ·rfl
 ·rename_i h
  rw [if_neg h] at C ok' W'
  by_cases hm:m≤x.t.tks.length
  ·exact pend_add C ok W ok' W' hm
  ·have e2:x.pend m=false:=by
    cases e:x.pend m with
    | false=>rfl
    | true =>
     obtain ⟨j,z,rfl,hz,_⟩:=pend_iff e
     have:=get_lt' hz
     omega
   rw [e2]
   cases e:({ x with t:=x.t.add none }:GS).pend m with
   | false=>rfl
   | true =>
    obtain ⟨j,z',rfl,hz',he'⟩:=pend_iff e
    rcases add_get hz' with hz | ⟨h1,rfl⟩
    ·have:=get_lt' hz
     omega
    ·have hnt:((j+1:Nat):Int)∉x.tm:=fun h=>by have:=M.tm _ h;omega
     rw [GS.pend,chain_run' hz' rfl] at e
     have hc:(x.t.add none).chainG (j+1) j (Tk0 none).opn.length=[(1,((j+1:Nat):Int))]:=by
      have hz2:(x.t.add none).tks[j]?=some (Tk0 none):=hz'
      rw [TS.chainG];simp only [hz2,Tk0];rfl
     have e:pendL x.tm x.sm ((x.t.add none).chainG (j+1) j (Tk0 none).opn.length)=true:=e
     rw [hc] at e
     simp only [pendL,pendD] at e
     rw [if_neg (by decide),if_neg (fun h=>hnt h.2),if_neg (fun h=>absurd h.1 (by decide))] at e
     cases e
theorem pend_shield (ok:TOk c x.t) (W:WI none x.t) (n:Int) {m:Int} (h:({ x with t:=(x.t.shield n).1 }:GS).pend m=true):x.pend m=true:=by
 have C:=cs_shield (t:=x.t) n
 have ok':=ok.shield (n:=n)
 have W':=W.shield n
 have cases:(x.t.shield n).1=x.t∨∃ k y,x.t.tks[k]?=some y∧(x.t.shield n).1=x.t.upT k fun x=>{ x with opn:=x.opn++[none] }:=by
  unfold TS.shield
  split
  ·exact .inl rfl
  ·rename_i k e hq
   split
   ·rename_i y hy
    split
    ·exact .inl rfl
    ·exact .inr ⟨k,y,hy,rfl⟩
   ·exact .inl rfl
 rcases cases with e | ⟨k,y,hy,e⟩
 ·rw [e] at h;exact h
 ·rw [e] at h C ok' W'
  obtain ⟨j,z',rfl,hz',he'⟩:=pend_iff h
  obtain ⟨z,hz,⟨rfl,rfl⟩ | ⟨_,rfl⟩⟩:=upT_inv hz'
  ·rw [pend_push C ok W ok' W' hz hz' he' rfl] at h
   cases h
  ·rw [pend_same C ok W ok' W' hz hz' he' rfl] at h;exact h
theorem shield_err {t:TS} (n:Int):(t.shield n).1=t∨(t.shield n).2=0:=by
 unfold TS.shield
 split
 ·exact .inl rfl
 ·split
  ·split
   ·exact .inl rfl
   ·exact .inr rfl
  ·exact .inl rfl
theorem unveil_err {t:TS} (n:Int):(t.unveil n).1=t∨(t.unveil n).2=0:=by
 unfold TS.unveil
 split
 ·exact .inl rfl
 ·split
  ·split
   ·exact .inr rfl
   ·exact .inl rfl
  ·exact .inl rfl
theorem pend_unveil (ok:TOk c x.t) (W:WI none x.t) (n:Int) {m:Int} (h:x.pend m=true):({ x with t:=(x.t.unveil n).1 }:GS).pend m=true:=by
 have C:=cs_unveil (t:=x.t) n
 have ok':=ok.unveil (n:=n)
 have W':=W.unveil n
 have cases:(x.t.unveil n).1=x.t∨∃ k y,x.t.tks[k]?=some y∧y.opn.getLast?=some none∧(x.t.unveil n).1=x.t.upT k fun x=>{ x with opn:=x.opn.dropLast }:=by
  unfold TS.unveil
  split
  ·exact .inl rfl
  ·rename_i k e hq
   split
   ·rename_i y hy
    split
    ·rename_i hg
     exact .inr ⟨k,y,hy,hg,rfl⟩
    ·exact .inl rfl
   ·exact .inl rfl
 rcases cases with e | ⟨k,y,hy,hg,e⟩
 ·rw [e];exact h
 ·rw [e] at C ok' W' ⊢
  obtain ⟨j,z,rfl,hz,he⟩:=pend_iff h
  have hl:(x.t.upT k fun x=>{ x with opn:=x.opn.dropLast }).tks.length=x.t.tks.length:=upT_len
  obtain ⟨z',hz'⟩:∃ z',(x.t.upT k fun x=>{ x with opn:=x.opn.dropLast }).tks[j]?=some z':=⟨_,List.getElem?_eq_getElem (by rw [hl];exact get_lt' hz)⟩
  obtain ⟨z0,hz0,⟨rfl,rfl⟩ | ⟨_,rfl⟩⟩:=upT_inv hz'
  ·rw [hz] at hz0;cases hz0
   rw [hz] at hy;cases hy
   have ho:∀ w:Tk,w.opn.getLast?=some none→w.opn=w.opn.dropLast++[none]:=fun w hg=>by
    obtain ⟨l,hl⟩:=List.getLast?_eq_some_iff.1 hg
    rw [hl];simp
   rw [pend_pop C ok W ok' W' hz hz' he (ho _ hg)] at h
   cases h
  ·rw [hz] at hz0;cases hz0
   rw [pend_same C ok W ok' W' hz hz' he rfl];exact h
theorem pend_spawn (ok:TOk c x.t) (W:WI none x.t) (n:Int) {m:Int} (h:x.pend m=true):({ x with t:=(x.t.spawn n).1 }:GS).pend m=true:=by
 have C:=cs_spawn (t:=x.t) n
 have ok':=ok.spawn (n:=n)
 have W':=W.spawn ok n
 have cases:(x.t.spawn n).1=x.t∨∃ s,(x.t.spawn n).1=x.t.add (some s):=by
  unfold TS.spawn
  split
  ·exact .inl rfl
  ·split
   ·exact .inl rfl
   ·split
    ·exact .inl rfl
    ·rename_i s _
     split
     ·exact .inl rfl
     ·exact .inr ⟨s,rfl⟩
 rcases cases with e | ⟨s,e⟩
 ·rw [e];exact h
 ·rw [e] at C ok' W' ⊢
  obtain ⟨j,z,rfl,hz,he⟩:=pend_iff h
  have:=get_lt' hz
  rw [pend_add C ok W ok' W' (by omega)];exact h
theorem spawn_err {t:TS} (n:Int):(t.spawn n).1=t∨(t.spawn n).2.2=0:=by
 unfold TS.spawn
 split
 ·exact .inl rfl
 ·split
  ·exact .inl rfl
  ·split
   ·exact .inl rfl
   ·split
    ·exact .inl rfl
    ·exact .inr rfl
theorem once_of {x y:GS} {l:List Ef} {z:Bool} {o:OpV} {k k':Nat} (ok:GOk k x) (ok':GOk k' y) (h:x.run o=(y,l,z))
  (h1:∀ n,n∈toldL l→x.pend n=false∧y.pend n=true)
  (h2:∀ n,y.pend n=true→x.pend n=false→n∉toldL l→z=true∧(o.k=1∨o.k=5))
  (h3:∀ n,x.pend n=true→y.pend n=false→leftL l=false→z=true∧(o.k=4∨(o.k=2∧o.n=n))):onceOk x o:=by
 obtain ⟨c,a,_⟩:=ok
 obtain ⟨c',a',_⟩:=ok'
 unfold onceOk
 rw [h]
 refine ⟨fun n hn=>?_,fun n hn hm ht=>?_,fun n hn hm hl=>?_⟩
 ·rw [mem_pends a,mem_pends a']
  obtain ⟨e1,e2⟩:=h1 n hn
  exact ⟨by rw [e1];simp,e2⟩
 ·rw [mem_pends a] at hm
  rw [mem_pends a'] at hn
  exact h2 n hn (by simpa using hm) ht
 ·rw [mem_pends a'] at hm
  rw [mem_pends a] at hn
  exact h3 n hn (by simpa using hm) hl
theorem once_tl {x y:GS} {l:List Ef} {z:Bool} {o:OpV} {k k':Nat} (ok:GOk k x) (ok':GOk k' y) (h:x.run o=(y,l,z)) (T:Tl x l y):onceOk x o :=
 once_of ok ok' h T.told (fun n a b c=>absurd (T.all n a b) c) fun n a b _=>by rw [T.up n a] at b;cases b
theorem once_ok {k:Nat} (ok:GOk k x) (M:MB x) (o:OpV):onceOk x o:=by
 obtain ⟨c,a,W,J,hc⟩:=id ok
 have okr:=ok.run o
 obtain ⟨kk,n,m,yy,fk,ft⟩:=o
 by_cases c0:kk=0
 ·have e:x.run ⟨kk,n,m,yy,fk,ft⟩=(x.open n yy m,[],decide ((x.t.open n yy).2.2=0)):=by simp [GS.run,c0]
  rw [e] at okr
  refine once_tl ok okr e (Tl.same fun j=>?_)
  rw [← pend_open a W M n yy j]
  unfold GS.open;split<;>rfl
 by_cases c1:kk=1
 ·have e:x.run ⟨kk,n,m,yy,fk,ft⟩=({ x with t:=(x.t.spawn n).1 },[],decide ((x.t.spawn n).2.2=0)):=by simp [GS.run,c1]
  rw [e] at okr
  refine once_of ok okr e (fun _ h=>by cases h) (fun j h h' _=>?_) (fun j h h' _=>?_)
  ·rcases spawn_err (t:=x.t) n with e2 | e2
   ·simp only at h
    rw [e2] at h
    have h:x.pend j=true:=h
    rw [h] at h';cases h'
   ·exact ⟨by simp [e2],.inl c1⟩
  ·rw [pend_spawn a W n h] at h';cases h'
 by_cases c2:kk=2
 ·have e:x.run ⟨kk,n,m,yy,fk,ft⟩=((x.end n fk ft).1,(x.end n fk ft).2.1,decide ((x.end n fk ft).2.2=0)):=by simp [GS.run,c2]
  rw [e] at okr
  obtain ⟨en,E,hen⟩:=end_ok x a W n fk ft
  have W':=W.end a n fk ft
  have J':=J.end a n fk ft
  obtain ⟨h1,h2,h3⟩:=after_once E.cs a W a.end W' J' (fun e h=>(E.kinds e h).1) E.fn E.fs (E.left W' J' ⟨_,a.end⟩)
  refine once_of ok okr e h1 (fun j b b' b3=>absurd (h2 j b b') b3) (fun j b b' b3=>?_)
  obtain ⟨i,hi,rfl⟩:=h3 j b b' b3
  exact ⟨by
   have:(x.end n fk ft).2.2=0:=E.err i hi
   simp [this],.inr ⟨c2,hen i hi⟩⟩
 by_cases c3:kk=3
 ·have e:x.run ⟨kk,n,m,yy,fk,ft⟩=((x.leave n fk ft).1,(x.leave n fk ft).2.1,decide ((x.leave n fk ft).2.2=0)):=by simp [GS.run,c3]
  rw [e] at okr
  have E:=leave_ok x a W n fk ft
  have W':=W.leave a n fk ft
  have J':=J.leave a n fk ft
  obtain ⟨h1,h2,h3⟩:=after_once E.cs a W a.leave W' J' (fun e h=>(E.kinds e h).1) E.fn E.fs (E.left W' J' ⟨_,a.leave⟩)
  refine once_of ok okr e h1 (fun j b b' b3=>absurd (h2 j b b') b3) (fun j b b' b3=>?_)
  obtain ⟨i,hi,_⟩:=h3 j b b' b3
  cases hi
 by_cases c4:kk=4
 ·have e:x.run ⟨kk,n,m,yy,fk,ft⟩=({ x with t:=(x.t.shield n).1 },[],decide ((x.t.shield n).2=0)):=by simp [GS.run,c4]
  rw [e] at okr
  refine once_of ok okr e (fun _ h=>by cases h) (fun j h h' _=>?_) (fun j h h' _=>?_)
  ·rw [pend_shield a W n h] at h';cases h'
  ·rcases shield_err (t:=x.t) n with e2 | e2
   ·simp only at h'
    rw [e2] at h'
    have h':x.pend j=false:=h'
    rw [h] at h';cases h'
   ·exact ⟨by simp [e2],.inl c4⟩
 by_cases c5:kk=5
 ·have e:x.run ⟨kk,n,m,yy,fk,ft⟩=({ x with t:=(x.t.unveil n).1 },[],decide ((x.t.unveil n).2=0)):=by simp [GS.run,c5]
  rw [e] at okr
  refine once_of ok okr e (fun _ h=>by cases h) (fun j h h' _=>?_) (fun j h h' _=>?_)
  ·rcases unveil_err (t:=x.t) n with e2 | e2
   ·simp only at h
    rw [e2] at h
    have h:x.pend j=true:=h
    rw [h] at h';cases h'
   ·exact ⟨by simp [e2],.inr c5⟩
  ·rw [pend_unveil a W n h] at h';cases h'
 by_cases c6:kk=6
 ·have e:x.run ⟨kk,n,m,yy,fk,ft⟩=((x.fail n fk ft).1,(x.fail n fk ft).2.1,decide ((x.fail n fk ft).2.2=0)):=by simp [GS.run,c6]
  rw [e] at okr
  have E:=fail_ok x n fk ft
  have W':=W.fail n fk ft
  have J':=J.fail a n fk ft
  obtain ⟨h1,h2,h3⟩:=after_once E.cs a W a.fail W' J' (fun e h=>(E.kinds e h).1) E.fn E.fs (E.left W' J' ⟨_,a.fail⟩)
  refine once_of ok okr e h1 (fun j b b' b3=>absurd (h2 j b b') b3) (fun j b b' b3=>?_)
  obtain ⟨i,hi,_⟩:=h3 j b b' b3
  cases hi
 by_cases c7:kk=7
 ·have e:x.run ⟨kk,n,m,yy,fk,ft⟩=({ x with t:=x.t.root.1 },[],decide (x.t.root.2.2=0)):=by simp [GS.run,c7]
  rw [e] at okr
  exact once_tl ok okr e (Tl.same fun j=>pend_root a W M j)
 by_cases c8:kk=8
 ·have e:x.run ⟨kk,n,m,yy,fk,ft⟩=((x.strikeT n).1,(x.strikeT n).2.1,decide ((x.strikeT n).2.2=0)):=by simp [GS.run,c8]
  rw [e] at okr
  exact once_tl ok okr e (strikeT_tl a W J n)
 by_cases c9:kk=9
 ·have e:x.run ⟨kk,n,m,yy,fk,ft⟩=((x.expire n).1,(x.expire n).2,true):=by simp [GS.run,c9]
  rw [e] at okr
  exact once_tl ok okr e (expire_tl ok n)
 ·have e:x.run ⟨kk,n,m,yy,fk,ft⟩=(x,[],true):=by simp [GS.run,c0,c1,c2,c3,c4,c5,c6,c7,c8,c9]
  rw [e] at okr
  exact once_tl ok okr e (.refl x)
end
theorem once_law {h:Hp} {l:List OpV} {vl:Value} (n:Int) (hv:OpsAt h vl l):∃ h',Run Try.prog 3 [.int .i64 n,vl] h (.bool true) h' :=
 once_run n hv fun i o h1 h2 _ _=>once_ok (x:=(GS.roots n.toNat).runL (l.take i)) (GOk.roots (by omega)).runL (MB.runL (by omega) _) o
end Go.Proofs.Ytlonjogfeidgfaa.gr
namespace Go.Proofs.Ytlonjogfeidgfaa.gr
open Go Go.Ev Go.Proofs.Ytlonjogfeidgfaa.tr
set_option maxRecDepth 100000
set_option linter.unusedVariables false
set_option linter.constructorNameAsVariable false
theorem chunks {α:Type} (f:α→List Value) {z:Nat} (hz:∀ x,(f x).length=z):∀ (n:Nat) (c:List Value),c.length=n*z→(∀ k,k<n→∃ x,(c.drop (k*z)).take z=f x) →
  ∃ l:List α,l.length=n∧c=l.flatMap f∧∀ k x,l[k]?=some x→(c.drop (k*z)).take z=f x
 | 0,c,hl,_=>⟨[],rfl,List.length_eq_zero_iff.1 (by simpa using hl),fun k x h=>by simp at h⟩
 | n+1,c,hl,hc=>by
  have hs:(n+1)*z=n*z+z:=by rw [Nat.add_mul,Nat.one_mul]
  obtain ⟨x,hx⟩:=hc 0 (by omega)
  obtain ⟨l,h1,h2,h3⟩:=chunks f hz n (c.drop z) (by rw [List.length_drop,hl,hs];omega) (fun k hk=>by
   obtain ⟨y,hy⟩:=hc (k+1) (by omega)
   refine ⟨y,?_⟩
   rw [List.drop_drop,← hy,Nat.add_mul,Nat.one_mul,Nat.add_comm])
  refine ⟨x::l,by simp [h1],?_,fun k y hy=>?_⟩
  ·rw [List.flatMap_cons,← h2,← hx,Nat.zero_mul,List.drop_zero,List.take_append_drop]
  ·cases k with
   | zero=>simp at hy;subst hy;exact hx
   | succ k =>
    have:=h3 k y (by simpa using hy)
    rw [List.drop_drop,Nat.add_comm z] at this
    rw [Nat.add_mul,Nat.one_mul];exact this
theorem opC_flat:∀ l:List OpV,l.flatMap OpV.cells=opC l
 | []=>rfl
 | x::l=>by rw [List.flatMap_cons,opC_flat l];rfl
section
variable {h:Hp} {F:Nat}
theorem c3:Try.prog.cellsOf 3=1:=by kernel_rfl
theorem c4:Try.prog.cellsOf 4=1:=by kernel_rfl
theorem c9:Try.prog.cellsOf 9=1:=by kernel_rfl
theorem c29:Try.prog.cellsOf 29=2:=by kernel_rfl
theorem c31:Try.prog.cellsOf 31=6:=by kernel_rfl
theorem u3:Try.prog.underlying 3=some (.int .i64):=by kernel_rfl
theorem u4:Try.prog.underlying 4=some .bool:=by kernel_rfl
theorem u9:Try.prog.underlying 9=some .string:=by kernel_rfl
theorem u22:Try.prog.underlying 22=some (.slice 31):=by kernel_rfl
theorem op_cells {cs:List Value} (hc:ATyped Try.prog h F 31 cs):∃ x:OpV,cs=x.cells:=by
 obtain ⟨G,rfl,hl,hf⟩:=hc.asStruct Try.underlying31
 rw [c31] at hl
 match cs,hl with
 | [a,b,m,c,d,e],_ =>
  simp only [List.forall_mem_cons,c3,c4,c29] at hf
  obtain ⟨k,h1,_⟩:=hf.1.asInt u3
  obtain ⟨n,h2,_⟩:=hf.2.1.asInt u3
  obtain ⟨m,h6,_⟩:=hf.2.2.1.asInt u3
  obtain ⟨t,h3⟩:=hf.2.2.2.1.asBool u4
  obtain ⟨G,rfl,hl,hg⟩:=hf.2.2.2.2.1.asStruct Try.underlying29
  simp only [List.forall_mem_cons,c3,c9] at hg
  obtain ⟨f,h4,_⟩:=hg.1.asInt u3
  obtain ⟨s,h5,_⟩:=hg.2.1.asString u9
  simp at h1 h2 h3 h4 h5 h6
  subst h1;subst h2;subst h3;subst h4;subst h5;subst h6
  exact ⟨⟨k,n,m,t,f,s⟩,rfl⟩
theorem ops_arg {a:Value} (ht:ArgTyped Try.prog h F 22 a):∃ l:List OpV,OpsAt h a l:=by
 obtain ⟨G,rfl,rfl | ⟨i,len,c,rfl,hi,hl,_,hk⟩⟩:=ht.asSlice u22
 ·exact ⟨[],.inl ⟨rfl,rfl⟩⟩
 ·rw [c31] at hl hk
  obtain ⟨l,h1,h2,_⟩:=chunks OpV.cells (z:=6) (fun _=>rfl) len c hl (fun k hlt=>op_cells (hk k hlt))
  rw [opC_flat] at h2
  exact ⟨l,.inr ⟨i,false,by rw [c31,h1],by rw [← h2];exact hi⟩⟩
end
end Go.Proofs.Ytlonjogfeidgfaa.gr
