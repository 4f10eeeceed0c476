import Derived.Test.YtlonjogfeidgfaaCopiesE
set_option linter.unusedVariables false
namespace Go.Proofs.Ytlonjogfeidgfaa.tr
open Go Go.Ev
set_option maxRecDepth 100000
set_option linter.unusedVariables false
set_option linter.constructorNameAsVariable false
section
variable {h:Hp} {ρ:Lay} {t:TS} {c r:Nat}
theorem WI.above(W:WI none t)(ok:TOk c t){k s:Nat}{x:Tk}(hx:t.tks[k]?=some x)(he:x.en=false)(hi:x.inn=some s) :
  ∃ y z,t.scs[s]?=some y/\t.tks[y.ow]?=some z/\y.ov=false/\some s∈z.opn/\z.en=false/\y.ow<k:=by
 obtain⟨y,hy⟩:∃ y,t.scs[s]?=some y:=⟨_,List.getElem?_eq_getElem (ok.inn k x s hx hi)⟩
 obtain⟨z,hz⟩:∃ z,t.tks[y.ow]?=some z:=⟨_,List.getElem?_eq_getElem (ok.ow s y hy)⟩
 have hk:k∈y.tks:=(W.mem s y k hy).2 ⟨x,hx,hi⟩
 have hov:y.ov=false:=by
  cases ho:y.ov with
  | false=>rfl
  | true =>
   have h0:=W.ov2 s y hy ho
   rw[W.live s y hy] at h0
   have h1:y.tks.countP t.rn=0:=by omega
   rw[List.countP_eq_zero] at h1
   exact absurd (by rw[rn_of hx,he];rfl) (h1 k hk)
 have hin:=(W.ov s y z hy hz).1 hov
 refine⟨y,z,hy,hz,hov,hin,?_,W.up k x s y hx hi hy⟩
 cases hen:z.en with
 | false=>rfl
 | true=>rw[W.en _ z hz hen] at hin;cases hin
theorem chain_loop(a:TAt h ρ t)(ok:TOk c t)(hc:c<=1000)(W:WI none t){b8:Nat} :
  ∀ (f k:Nat) (x:Tk) (ki top:Nat) (E:Env) (g:Hp) (v:Value) (acc:List Pr),k<f->t.tks[k]?=some x->x.en=false->ρ (.tk k)=some ki->top<=x.opn.length->acc.length+f*1002<=70000->Acc h b8 g v acc ->
   EnvLe [(6,ptr ki),(9,.int .i64 (Int.ofNat top)),(8,ptr b8)] E ->
   ∃ E1 g' v',EnvLe [(4,v'),(5,.int .i64 0)] E1/\LRun Try.prog 84 false (loopN Try.f48 0) E g .ret E1 g'/\Acc h b8 g' v' (acc++t.chainG f k top):=by
 intro f
 induction f with
 | zero=>intro k x ki top E g v acc hk;omega
 | succ f ih =>
  intro k x ki top E g v acc hk hx he hki htop hacc A hE
  have n64:=ok.n64
  have hlen:=ok.len k x hx
  obtain⟨E1,g1,v1,e1,c1,A1⟩:=ch_links a ok hc hx hki htop A (by omega) hE
  have tl:((x.opn.take top).reverse.map lkP).length<=1000:=by simp;omega
  obtain⟨acc1,hacc1⟩:∃ acc1,acc1=acc++(x.opn.take top).reverse.map lkP:=⟨_,rfl⟩
  rw[<- hacc1] at A1
  have l1:acc1.length<=acc.length+1000:=by rw[hacc1,List.length_append];omega
  have ag:=a.grow A1.keep
  have S1:(Asm.ld1 (.is g1) b8 0 v1).holds Try.prog:=aL A1.box rfl
  have S2:(Asm.ld1 (.is g1) ki 0 (.int .i64 ((k+1:Nat):Int))).holds Try.prog:=ag.ld1 rfl hki (by rw[cT hx];rfl)
  have main:∀ (g2:Hp) (z m:Nat),Acc h b8 g2 (.slice (some ⟨z,0,none⟩) (m+1) 2) (acc1++[(1,((k+1:Nat):Int))]) ->
    (x.inn=none->∃ E2,EnvLe [(4,.slice (some ⟨z,0,none⟩) (m+1) 2),(5,.int .i64 0)] E2/\CRun Try.prog 84 false (partC Try.f48 [1,1,1,1,1,0,0,0,1]) E1 g1 .ret E2 g2) ->
    (∀ s y zz,x.inn=some s->t.scs[s]?=some y->t.tks[y.ow]?=some zz->y.ov=false->some s∈zz.opn->zz.en=false->y.ow<k->∃ E2 g4 v4 oi,ρ (.tk y.ow)=some oi/\EnvLe [(6,ptr oi),(9,.int .i64 (Int.ofNat (ixO (some s) zz.opn))),(8,ptr b8)] E2/\CRun Try.prog 84 false (partC Try.f48 [1,1,1,1,1,0,0,0,1]) E1 g1 .normal E2 g4/\Acc h b8 g4 v4 (acc1++[(1,((k+1:Nat):Int))]++[lkP (some s)])) ->
    ∃ E1' g' v',EnvLe [(4,v'),(5,.int .i64 0)] E1'/\LRun Try.prog 84 false (loopN Try.f48 0) E g .ret E1' g'/\Acc h b8 g' v' (acc++t.chainG (f+1) k top):=by
   intro g2 z m A2 hroot hinn
   cases hi:x.inn with
   | none =>
    obtain⟨E2,w1,w2⟩:=hroot hi
    refine⟨E2,g2,_,w1,.last (by rw[bodyL19];exact CRun.blockR 1 (CRun.seq c1 w2)) (by simp),?_⟩
    have:acc++t.chainG (f+1) k top=acc1++[(1,((k+1:Nat):Int))]:=by simp only[TS.chainG,hx,hi,List.append_nil,hacc1,List.append_assoc]
    rw[this];exact A2
   | some s =>
    obtain⟨y,zz,hy,hz,hov,hin,hen,hlt⟩:=W.above ok hx he hi
    obtain⟨E2,g4,v4,oi,w0,w1,w2,w3⟩:=hinn s y zz hi hy hz hov hin hen hlt
    have ixl:=ixO_lt hin
    obtain⟨E5,g5,v5,u1,u2,u3⟩:=ih y.ow zz oi (ixO (some s) zz.opn) E2 g4 v4 _ (by omega) hz hen w0 (by omega) (by simp only[List.length_append,List.length_singleton];omega) w3 w1
    refine⟨E5,g5,v5,u1,.step (by rw[bodyL19];exact CRun.blockN 1 (CRun.seq c1 w2)) u2,?_⟩
    have:acc++t.chainG (f+1) k top=acc1++[(1,((k+1:Nat):Int))]++[lkP (some s)]++t.chainG f y.ow (ixO (some s) zz.opn):=by
     rw[TS.chainG]
     simp only[hx,hi,hy,hz,hacc1,List.append_assoc,List.singleton_append,List.cons_append,List.nil_append]
    rw[this];exact u3
  have inn:∀ {s si oi:Nat} {y:Sc} {zz:Tk} {g2:Hp} {z m:Nat},t.scs[s]?=some y->t.tks[y.ow]?=some zz->some s∈zz.opn->x.inn=some s->ρ (.sc s)=some si->ρ (.tk y.ow)=some oi->m<=72000->(acc1++[((1:Int),((k+1:Nat):Int))]).length=m+1 ->
    Acc h b8 g2 (.slice (some ⟨z,0,none⟩) (m+1) 2) (acc1++[(1,((k+1:Nat):Int))]) ->
    ∃ g3 g4 oa za,Run Try.prog 71 [ptr si] g2 (.agg #[.int .i64 (lkK (some s)),.int .i64 (lkN (some s))]) g3/\g3[z]?=some (.cells (prL (acc1++[(1,((k+1:Nat):Int))])) true)/\b8+1<=z/\g3[b8]?=some (.cells [.slice (some ⟨z,0,none⟩) (m+1) 2] true) /\
     g4=((((g3++[AObj.cells (prC (lkP (some s))) true]).set z .dead)++[AObj.cells (prL (acc1++[(1,((k+1:Nat):Int))])++prC (lkP (some s))) true]).set b8 (.cells [.slice (some ⟨g3.length+1,0,none⟩) (m+1+1) 2] true)) /\
     Acc h b8 g4 (.slice (some ⟨g3.length+1,0,none⟩) (m+1+1) 2) (acc1++[(1,((k+1:Nat):Int))]++[lkP (some s)])/\slv (ρ (.op y.ow)) zz.opn.length=.slice oa zz.opn.length za /\
     Run Try.prog 75 [.slice oa zz.opn.length za,ptr si] g4 (.int .i64 (ixO (some s) zz.opn:Nat)) g4:=by
   intro s si oi y zz g2 z m hy hz hin hi hsi hoi hm hl A2
   have hsl:=ok.inn k x s hx hi
   obtain⟨g3,r1,K3⟩:=link_run (a.grow A2.keep) (some s) (fun s' e=>by cases e;exact hsl)
   simp only[inP,hsi,pvv] at r1
   have A3:=A2.grow K3
   rcases A3.cases with⟨e,_⟩ | ⟨_,o',eo,ho,hlo⟩
   ·rw[e] at hl;simp at hl
   rw[hl] at eo
   cases eo
   rw[<- hl] at A3
   obtain⟨A4,_⟩:=A3.appS ho hlo (lkP (some s))
   rw[hl] at A3 A4
   have lzz:=ok.len _ zz hz
   obtain⟨oa,za,ev,_⟩:=slv_ex (ρ (.op y.ow)) zz.opn.length (fun e=>by rw[a.sh.op _ zz hz e];rfl)
   exact⟨g3,_,oa,za,r1,ho,hlo,A3.box,rfl,A4,ev,indexS_run (a.grow A4.keep) hz hsi (fun s' hs'=>ok.opn _ zz s' hz hs') (by omega) hin ev⟩
  rcases A1.cases with⟨e0,rfl⟩ | ⟨hne,w,rfl,hw,hlo⟩
  ·rw[e0] at A1 main inn
   have hS:=A1.appN (1,((k+1:Nat):Int))
   obtain⟨A2,_⟩:=hS
   have D1:(Asm.appNil (.push (.is g1) (.cells [.int .i64 1,.int .i64 ((k+1:Nat):Int)] true)) g1.length 0 1 0 2 16 (prC (1,((k+1:Nat):Int))) (g1.length+1)).holds Try.prog:=a_appGN rfl rfl (by omega) (gW _ _) (pL _ _)
   have D2:(Asm.st (.push (.push (.is g1) (.cells [.int .i64 1,.int .i64 ((k+1:Nat):Int)] true)) (.cells (prC (1,((k+1:Nat):Int))) true)) b8 0 [.slice (some ⟨g1.length+1,0,none⟩) 1 2] [.slice (some ⟨g1.length+1,0,none⟩) 1 2]).holds Try.prog:=a_st (gP (gP A1.box)) (by simp) rfl
   obtain⟨g2,hg2⟩:∃ g2,g2=((g1++[AObj.cells (prC (1,((k+1:Nat):Int))) true])++[AObj.cells (prC (1,((k+1:Nat):Int))) true]).set b8 (.cells [.slice (some ⟨g1.length+1,0,none⟩) 1 2] true):=⟨_,rfl⟩
   rw[<- hg2] at A2
   have ag2:=a.grow A2.keep
   refine main g2 (g1.length+1) 0 A2 (fun hi=>?_) (fun s y zz hi hy hz hov hin hen hlt=>?_)
   ·obtain⟨E2,q1,q2⟩:=pvC 0 e1 (r38p.ch_pon_root ki b8 g1.length (g1.length+1) 0 0 0 0 0 0 0 0 none ((k+1:Nat):Int) 0 0 (Int.ofNat top) 0 [] (prC (1,((k+1:Nat):Int))) [.slice (some ⟨g1.length+1,0,none⟩) 1 2] [] [] [] g1 g1 g1)
     ⟨stat19 1 (by simp),S1,S2,rfl,D1,D2,ag2.ld1 (by rw[hg2];rfl) hki (by rw[cT hx,tkC,hi];rfl),aL (by rw[<- show g2[b8]?=_ from A2.box,hg2];rfl) rfl,trivial⟩
    exact⟨E2,.trans (.add (.add (.nil _) rfl) rfl) q1,by rw[hg2];exact q2⟩
   ·have hsl:=ok.inn k x s hx hi
    obtain⟨si,hsi⟩:=a.sh.sc s hsl
    obtain⟨oi,hoi⟩:=a.sh.tk _ (ok.ow s y hy)
    obtain⟨g3,g4,oa,za,r1,i1,i2,i3,i4,A4,i5,r2⟩:=inn (m:=0) hy hz hin hi hsi hoi (by omega) rfl A2
    have ag4:=a.grow A4.keep
    have vr:veqR (.slice (some ⟨g1.length+1,0,none⟩) (0+1) 2)=true:=rfl
    have T1:∀ (s':SH),s'.den=g2->(Asm.ld1 s' ki 1 (ptr si)).holds Try.prog:=fun s' e=>by
     have:=ag2.ld1 (P:=Try.prog) (s:=s') e hki (d:=1) (v:=inP ρ x.inn) (by rw[cT hx];rfl)
     rw[hi] at this;simp only[inP,hsi,pvv] at this;exact this
    have T4:∀ (s':SH),s'.den=g4->(Asm.ld1 s' ki 1 (ptr si)).holds Try.prog:=fun s' e=>by
     have:=ag4.ld1 (P:=Try.prog) (s:=s') e hki (d:=1) (v:=inP ρ x.inn) (by rw[cT hx];rfl)
     rw[hi] at this;simp only[inP,hsi,pvv] at this;exact this
    have T5:∀ (s':SH),s'.den=g4->(Asm.ld1 s' si 1 (ptr oi)).holds Try.prog:=fun s' e=>by
     have:=ag4.ld1 (P:=Try.prog) (s:=s') e hsi (d:=1) (v:=pvv (ρ (.tk y.ow))) (by rw[cSq hy];rfl)
     rwa [hoi] at this
    have T6:∀ (s':SH),s'.den=g4->(Asm.ld1 s' oi 2 (.slice oa zz.opn.length za)).holds Try.prog:=fun s' e=>by
     rw[<- i5];exact ag4.ld1 e hoi (by rw[cT hz];rfl)
    have T0:∀ (s':SH),s'.den=g2->(Asm.again s' 42 (.pointer (some ⟨b8,0,none⟩)) (.slice (some ⟨g1.length+1,0,none⟩) (0+1) 2)).holds Try.prog:=fun s' e=>a_again1 agg33 (by rw[e];exact A2.box) rfl vr
    have lo:=A2.lo
    obtain⟨E2,q1,q2⟩:=pvC 0 e1 (r38p.ch_pon_in ki b8 g1.length (g1.length+1) 0 0 g3.length (g3.length+1) si oi zz.opn.length za oa ((k+1:Nat):Int) (lkK (some s)) (lkN (some s)) (Int.ofNat top) (ixO (some s) zz.opn:Nat) [] (prC (1,((k+1:Nat):Int))) [.slice (some ⟨g1.length+1,0,none⟩) 1 2] (prL ([]++[(1,((k+1:Nat):Int))])++prC (lkP (some s))) (prC (lkP (some s))) [.slice (some ⟨g3.length+1,0,none⟩) (0+1+1) 2] g1 g3 g4)
     ⟨stat19 1 (by simp),S1,S2,rfl,D1,D2,T1 _ (by rw[hg2];rfl),stat19 2 (by simp),T0 _ (by rw[hg2];rfl),T0 _ (by rw[hg2];rfl),a_again1 agg33 i3 rfl vr,aL (by rw[<- show g2[b8]?=_ from A2.box,hg2];rfl) rfl,T1 _ (by rw[hg2];rfl),by rw[hg2] at r1;exact r1,rfl,
      a_appGS rfl rfl (by omega) (by omega) (prL_len _) (gP i1) (gW _ _) (pL _ _),a_st (gP (gNq (gP i3) (by omega))) (by simp) rfl,stat19 3 (by simp),T4 _ (by rw[i4];rfl),T5 _ (by rw[i4];rfl),T6 _ (by rw[i4];rfl),T4 _ (by rw[i4];rfl),by rw[i4] at r2 ⊢;exact r2,T4 _ rfl,T5 _ rfl,trivial⟩
    exact⟨E2,g4,_,oi,hoi,.trans (.add (.add (.add (.nil _) rfl) rfl) rfl) q1,q2,A4⟩
  ·have hS:=A1.appS hw hlo (1,((k+1:Nat):Int))
   obtain⟨A2,_⟩:=hS
   have lo:=A1.lo
   have D1:(Asm.app (.push (.is g1) (.cells [.int .i64 1,.int .i64 ((k+1:Nat):Int)] true)) w 0 acc1.length g1.length 0 1 0 2 16 (prL acc1++prC (1,((k+1:Nat):Int))) (prC (1,((k+1:Nat):Int))) (g1.length+1)).holds Try.prog:=a_appGS rfl rfl (by omega) (by omega) (prL_len _) (gP hw) (gW _ _) (pL _ _)
   have D2:(Asm.st (.push (.set (.push (.is g1) (.cells [.int .i64 1,.int .i64 ((k+1:Nat):Int)] true)) w .dead) (.cells (prL acc1++prC (1,((k+1:Nat):Int))) true)) b8 0 [.slice (some ⟨g1.length+1,0,none⟩) (acc1.length+1) 2] [.slice (some ⟨g1.length+1,0,none⟩) (acc1.length+1) 2]).holds Try.prog:=a_st (gP (gNq (gP A1.box) (by omega))) (by simp) rfl
   obtain⟨g2,hg2⟩:∃ g2,g2=((((g1++[AObj.cells (prC (1,((k+1:Nat):Int))) true]).set w .dead)++[AObj.cells (prL acc1++prC (1,((k+1:Nat):Int))) true]).set b8 (.cells [.slice (some ⟨g1.length+1,0,none⟩) (acc1.length+1) 2] true)):=⟨_,rfl⟩
   rw[<- hg2] at A2
   have ag2:=a.grow A2.keep
   refine main g2 (g1.length+1) acc1.length A2 (fun hi=>?_) (fun s y zz hi hy hz hov hin hen hlt=>?_)
   ·obtain⟨E2,q1,q2⟩:=pvC 0 e1 (r38p.ch_pos_root ki b8 g1.length (g1.length+1) w acc1.length 0 0 0 0 0 0 none ((k+1:Nat):Int) 0 0 (Int.ofNat top) 0 (prL acc1++prC (1,((k+1:Nat):Int))) (prC (1,((k+1:Nat):Int))) [.slice (some ⟨g1.length+1,0,none⟩) (acc1.length+1) 2] [] [] [] g1 g1 g1)
     ⟨stat19 1 (by simp),S1,S2,rfl,D1,D2,ag2.ld1 (by rw[hg2];rfl) hki (by rw[cT hx,tkC,hi];rfl),aL (by rw[<- show g2[b8]?=_ from A2.box,hg2];rfl) rfl,trivial⟩
    exact⟨E2,.trans (.add (.add (.nil _) rfl) rfl) q1,by rw[hg2];exact q2⟩
   ·have hsl:=ok.inn k x s hx hi
    obtain⟨si,hsi⟩:=a.sh.sc s hsl
    obtain⟨oi,hoi⟩:=a.sh.tk _ (ok.ow s y hy)
    obtain⟨g3,g4,oa,za,r1,i1,i2,i3,i4,A4,i5,r2⟩:=inn (m:=acc1.length) hy hz hin hi hsi hoi (by omega) (by simp) A2
    have ag4:=a.grow A4.keep
    have vr:veqR (.slice (some ⟨g1.length+1,0,none⟩) (acc1.length+1) 2)=true:=rfl
    have T1:∀ (s':SH),s'.den=g2->(Asm.ld1 s' ki 1 (ptr si)).holds Try.prog:=fun s' e=>by
     have:=ag2.ld1 (P:=Try.prog) (s:=s') e hki (d:=1) (v:=inP ρ x.inn) (by rw[cT hx];rfl)
     rw[hi] at this;simp only[inP,hsi,pvv] at this;exact this
    have T4:∀ (s':SH),s'.den=g4->(Asm.ld1 s' ki 1 (ptr si)).holds Try.prog:=fun s' e=>by
     have:=ag4.ld1 (P:=Try.prog) (s:=s') e hki (d:=1) (v:=inP ρ x.inn) (by rw[cT hx];rfl)
     rw[hi] at this;simp only[inP,hsi,pvv] at this;exact this
    have T5:∀ (s':SH),s'.den=g4->(Asm.ld1 s' si 1 (ptr oi)).holds Try.prog:=fun s' e=>by
     have:=ag4.ld1 (P:=Try.prog) (s:=s') e hsi (d:=1) (v:=pvv (ρ (.tk y.ow))) (by rw[cSq hy];rfl)
     rwa [hoi] at this
    have T6:∀ (s':SH),s'.den=g4->(Asm.ld1 s' oi 2 (.slice oa zz.opn.length za)).holds Try.prog:=fun s' e=>by
     rw[<- i5];exact ag4.ld1 e hoi (by rw[cT hz];rfl)
    have T0:∀ (s':SH),s'.den=g2->(Asm.again s' 42 (.pointer (some ⟨b8,0,none⟩)) (.slice (some ⟨g1.length+1,0,none⟩) (acc1.length+1) 2)).holds Try.prog:=fun s' e=>a_again1 agg33 (by rw[e];exact A2.box) rfl vr
    obtain⟨E2,q1,q2⟩:=pvC 0 e1 (r38p.ch_pos_in ki b8 g1.length (g1.length+1) w acc1.length g3.length (g3.length+1) si oi zz.opn.length za oa ((k+1:Nat):Int) (lkK (some s)) (lkN (some s)) (Int.ofNat top) (ixO (some s) zz.opn:Nat) (prL acc1++prC (1,((k+1:Nat):Int))) (prC (1,((k+1:Nat):Int))) [.slice (some ⟨g1.length+1,0,none⟩) (acc1.length+1) 2] (prL (acc1++[(1,((k+1:Nat):Int))])++prC (lkP (some s))) (prC (lkP (some s))) [.slice (some ⟨g3.length+1,0,none⟩) (acc1.length+1+1) 2] g1 g3 g4)
     ⟨stat19 1 (by simp),S1,S2,rfl,D1,D2,T1 _ (by rw[hg2];rfl),stat19 2 (by simp),T0 _ (by rw[hg2];rfl),T0 _ (by rw[hg2];rfl),a_again1 agg33 i3 rfl vr,aL (by rw[<- show g2[b8]?=_ from A2.box,hg2];rfl) rfl,T1 _ (by rw[hg2];rfl),by rw[hg2] at r1;exact r1,rfl,
      a_appGS rfl rfl (by omega) (by omega) (by rw[prL_len];simp) (gP i1) (gW _ _) (pL _ _),a_st (gP (gNq (gP i3) (by omega))) (by simp) rfl,stat19 3 (by simp),T4 _ (by rw[i4];rfl),T5 _ (by rw[i4];rfl),T6 _ (by rw[i4];rfl),T4 _ (by rw[i4];rfl),by rw[i4] at r2 ⊢;exact r2,T4 _ rfl,T5 _ rfl,trivial⟩
    exact⟨E2,g4,_,oi,hoi,.trans (.add (.add (.add (.nil _) rfl) rfl) rfl) q1,q2,A4⟩
theorem chain_run(a:TAt h ρ t)(ok:TOk c t)(hc:c<=1000)(W:WI none t)(hr:ρ .root=some r)(n:Int) :
  ∃ v h',Run Try.prog 48 [ptr r,.int .i64 n] h (.tuple #[v,.int .i64 (t.chain n).2]) h'/\Keep (fun _=>False) h h'/\SlV h' h.length v (t.chain n).1.length 2 (prL (t.chain n).1):=by
 have R:=runs_run a ok hr n
 rcases hq:t.runs n with⟨k | k,e⟩
 ·have e6:=runs_none hq
  subst e6
  rw[hq] at R
  have e':t.chain n=([],6):=by simp only[TS.chain,hq]
  rw[e']
  obtain⟨E2,q1,q2⟩:=pvC 0 (EnvLe.refl _) (r38p.ch_err r 0 0 0 0 none n 6 h h) ⟨R,neT (by omega),trivial⟩
  exact⟨_,h,Run.code Try.func48 body19 (.inr rfl) (CRunStop q2 (by simp)) (evResults_two rfl (q1 4 _ rfl) (q1 5 _ rfl)),Keep.refl _ _,.inl ⟨rfl,rfl,rfl⟩⟩
 ·obtain⟨rfl,hn,x,hx,he⟩:=runs_some hq
  have n64:=ok.n64
  have hk:=gT hx
  obtain⟨ki,hki⟩:=a.sh.tk k hk
  rw[hq] at R
  simp only[tkP,hki,pvv] at R
  obtain⟨oa,za,ev,_⟩:=slv_ex (ρ (.op k)) x.opn.length (fun e=>by rw[a.sh.op k x hx e];rfl)
  have Lo:(Asm.ld1 (.push (.is h) (.cells [.slice none 0 0] true)) ki 2 (.slice oa x.opn.length za)).holds Try.prog:=by
   rw[<- ev];exact (a.push _).ld1 rfl hki (by rw[cT hx];rfl)
  obtain⟨E2,q1,q2⟩:=pvC 0 (EnvLe.refl _) (r38p.ch_ok r ki h.length x.opn.length za oa n 0 h h) ⟨R,neF rfl,rfl,Lo,trivial⟩
  have A0:Acc h h.length (h++[AObj.cells [.slice none 0 0] true]) (.slice none 0 0) []:=⟨(Keep.refl _ _).pushN _,Nat.le_refl _,gW _ _,.inl ⟨rfl,rfl,rfl⟩⟩
  obtain⟨E3,g3,v3,w1,w2,w3⟩:=chain_loop a ok hc W (k+1) k x ki x.opn.length E2 _ _ [] (by omega) hx he hki (Nat.le_refl _) (by simp;omega) A0 (.trans (.add (.add (.add (.nil _) rfl) rfl) rfl) q1)
  have e':t.chain n=(t.chainG (k+1) k x.opn.length,0):=by simp only[TS.chain,hq,hx]
  rw[e']
  rw[List.nil_append] at w3
  exact⟨v3,g3,Run.code Try.func48 body19 (.inr rfl) (CRunChain q2 (CRun.blockR 0 (.of_loop w2))) (evResults_two rfl (w1 4 _ rfl) (w1 5 _ rfl)),w3.keep,w3.sl.mono (by omega)⟩
end
end Go.Proofs.Ytlonjogfeidgfaa.tr
namespace Go.Proofs.Ytlonjogfeidgfaa.tr
open Go Go.Ev
set_option linter.unusedVariables false
set_option linter.constructorNameAsVariable false
structure WJ(t:TS):Prop where
 inc:∀ (k:Nat) x,t.tks[k]?=some x->(x.opn.filterMap id).Pairwise (· < ·)
 own:∀ (k:Nat) x s s',t.tks[k]?=some x->x.inn=some s->some s'∈x.opn->s<s'
section
variable {t:TS} {c k:Nat}
theorem WJ.upT(J:WJ t){f:Tk->Tk}(h1:∀ x,(f x).inn=x.inn)(h2:∀ x,t.tks[k]?=some x->((f x).opn.filterMap id).Pairwise (· < ·))(h3:∀ x s s',t.tks[k]?=some x->x.inn=some s->some s'∈(f x).opn->s<s'):WJ (t.upT k f):=by
 refine⟨fun j z hz=>?_,fun j z s s' hz hi hs=>?_⟩
 ·obtain⟨w,hw,⟨rfl,rfl⟩ | ⟨_,rfl⟩⟩:=upT_inv hz
  ·exact h2 w hw
  ·exact J.inc j z hw
 ·obtain⟨w,hw,⟨rfl,rfl⟩ | ⟨_,rfl⟩⟩:=upT_inv hz
  ·exact h3 w s s' hw (by rw[<- h1];exact hi) hs
  ·exact J.own j z s s' hw hi hs
theorem WJ.irrT(J:WJ t){f:Tk->Tk}(h1:∀ x,(f x).inn=x.inn)(h2:∀ x,(f x).opn=x.opn):WJ (t.upT k f) :=
 J.upT h1 (fun x hx=>by rw[h2];exact J.inc k x hx) fun x s s' hx hi hs=>J.own k x s s' hx hi (by rw[<- h2];exact hs)
theorem WJ.irrS(J:WJ t){f:Sc->Sc}:WJ (t.upS k f):=⟨J.inc,J.own⟩
theorem WJ.newT(J:WJ t)(inn:Option Nat):WJ (t.newT inn):=by
 refine⟨fun j z hz=>?_,fun j z s s' hz hi hs=>?_⟩
 ·rcases newT_get hz with hz | ⟨_,rfl⟩
  ·exact J.inc j z hz
  ·exact .nil
 ·rcases newT_get hz with hz | ⟨_,rfl⟩
  ·exact J.own j z s s' hz hi hs
  ·cases hs
theorem WJ.add(J:WJ t)(inn:Option Nat):WJ (t.add inn):=by
 cases inn with
 | none=>exact J.newT none
 | some s=>exact ((J.newT (some s)).irrS).irrS
theorem WJ.dropT(J:WJ t){f:Tk->Tk}(h1:∀ x,(f x).inn=x.inn)(h2:∀ x,(f x).opn=x.opn.dropLast):WJ (t.upT k f) :=
 J.upT h1 (fun x hx=>by rw[h2];exact (J.inc k x hx).sublist ((List.dropLast_sublist _).filterMap _)) fun x s s' hx hi hs=>J.own k x s s' hx hi (List.dropLast_subset _ (by rw[<- h2];exact hs))
theorem WJ.blame(J:WJ t)(s:Nat)(fk:Int)(ft:ByteArray):WJ (t.blame s fk ft).1:=by
 unfold TS.blame
 split
 ·split
  ·exact J.irrS
  ·exact J
 ·exact J
theorem WJ.fin(J:WJ t)(s:Nat):WJ (t.fin s).1:=by
 unfold TS.fin
 split
 ·exact J
 ·split
  ·exact J
  ·split
   ·exact (((J.irrS (k:=s) (f:=fun y=>{ y with ov:=true })).dropT (f:=fun x=>{ x with opn:=x.opn.dropLast }) (fun _=>rfl) fun _=>rfl).irrT (f:=fun x=>{ x with lv:=false }) (fun _=>rfl) fun _=>rfl).irrT (f:=fun x=>{ x with fk:=0,ft:=⟨#[]⟩ }) (fun _=>rfl) fun _=>rfl
   ·exact J
theorem WJ.roots(n:Nat):WJ (TS.roots n):=by
 have g:∀ (k:Nat) x,(TS.roots n).tks[k]?=some x->x=Tk0 none:=fun k x hx=>List.eq_of_mem_replicate (List.mem_of_getElem? hx)
 refine⟨fun k x hx=>by rw[g k x hx];exact .nil,fun k x s s' hx hi=>by rw[g k x hx] at hi;cases hi⟩
theorem mem_lkP{v:Option Nat}{l:List (Option Nat)}:(lkP v∈l.map lkP)↔v∈l:=by
 rw[List.mem_map]
 exact⟨fun⟨w,h1,h2⟩=>by rw[<- lkP_inj h2];exact h1,fun h=>⟨v,h,rfl⟩⟩
def outerO:List (Option Nat)->Option Nat
 | []=>none
 | some s::_=>some s
 | none::l=>outerO l
def lastS(l:List (Option Nat)):Option Nat:=(l.filterMap id).getLast?
def Par(t:TS)(s p:Nat):Prop:=∃ y z,t.scs[s]?=some y/\t.tks[y.ow]?=some z/\some s∈z.opn/\(lastS (z.opn.take (ixO (some s) z.opn))=some p\/(lastS (z.opn.take (ixO (some s) z.opn))=none/\z.inn=some p))
inductive Abv (t:TS):Nat->Nat->Prop
 | refl (s:Nat):Abv t s s
 | step {s s0 p:Nat}:Par t s0 p->Abv t s p->Abv t s s0
theorem ixO_split{v:Option Nat}:∀ {l:List (Option Nat)},v∈l->l=l.take (ixO v l)++v::l.drop (ixO v l+1)
 | x::l,h=>by
  simp only[ixO]
  split
  ·rename_i e;subst e;simp
  ·rename_i c
   rcases List.mem_cons.1 h with h | h
   ·exact absurd h.symm c
   ·have:=ixO_split h
    simp only[List.take_succ_cons,List.drop_succ_cons,List.cons_append]
    rw[<- this]
theorem ixO_app{v:Option Nat}:∀ {l m:List (Option Nat)},v∉l->ixO v (l++v::m)=l.length
 | [],m,_=>by simp[ixO]
 | x::l,m,h=>by
  simp only[List.mem_cons,not_or] at h
  simp only[List.cons_append,ixO,if_neg (Ne.symm h.1),ixO_app h.2,List.length_cons]
theorem lastS_mem{l:List (Option Nat)}{p:Nat}(h:lastS l=some p):some p∈l:=by
 have:=List.mem_of_getLast? h
 obtain⟨v,hv,e⟩:=List.mem_filterMap.1 this
 simp only[id] at e
 subst e;exact hv
theorem lastS_none{l:List (Option Nat)}(h:lastS l=none):∀ s:Nat,some s∉l:=fun s hs=>by
 rw[lastS,List.getLast?_eq_none_iff] at h
 have:s∈l.filterMap id:=List.mem_filterMap.2 ⟨some s,hs,rfl⟩
 rw[h] at this;cases this
theorem outerO_some:∀ {l:List (Option Nat)} {s:Nat},outerO l=some s->∃ a b,l=a++some s::b/\∀ s':Nat,some s'∉a
 | some s'::l,s,h=>by simp[outerO] at h;subst h;exact⟨[],l,rfl,fun s' h=>by cases h⟩
 | none::l,s,h=>by
  obtain⟨a,b,h1,h2⟩:=outerO_some (l:=l) h
  exact⟨none::a,b,by rw[h1];rfl,fun s' hs=>by rcases List.mem_cons.1 hs with h | h;cases h;exact h2 s' h⟩
theorem outerO_of{a b:List (Option Nat)}{s:Nat}(h:∀ s':Nat,some s'∉a):outerO (a++some s::b)=some s:=by
 induction a with
 | nil=>rfl
 | cons x a ih =>
  cases x with
  | none=>exact ih fun s' hs=>h s' (List.mem_cons_of_mem _ hs)
  | some s'=>exact absurd (List.mem_cons_self ..) (h s')
theorem nd_parts{l a b:List (Option Nat)}{s:Nat}(h:l=a++some s::b)(hn:(l.filterMap id).Nodup):some s∉a/\some s∉b:=by
 subst h
 simp only[List.filterMap_append,List.filterMap_cons,id] at hn
 rw[List.nodup_append,List.nodup_cons] at hn
 refine⟨fun hs=>hn.2.2 s (List.mem_filterMap.2 ⟨some s,hs,rfl⟩) s (List.mem_cons_self ..) rfl,fun hs=>hn.2.1.1 (List.mem_filterMap.2 ⟨some s,hs,rfl⟩)⟩
variable {s p:Nat}
theorem Par.lt(J:WJ t)(W:WI none t)(h:Par t s p):p<s:=by
 obtain⟨y,z,hy,hz,hs,h | ⟨h,hi⟩⟩:=h
 ·have hm:=lastS_mem h
  have spl:=ixO_split hs
  have inc:=J.inc _ z hz
  rw[spl,List.filterMap_append,List.pairwise_append] at inc
  exact inc.2.2 p (List.mem_filterMap.2 ⟨some p,hm,rfl⟩) s (List.mem_filterMap.2 ⟨some s,List.mem_cons_self ..,rfl⟩)
 ·exact J.own _ z p s hz hi hs
theorem Par.fun{p':Nat}(h:Par t s p)(h':Par t s p'):p=p':=by
 obtain⟨y,z,hy,hz,hs,h⟩:=h
 obtain⟨y',z',hy',hz',hs',h'⟩:=h'
 rw[hy] at hy';cases hy'
 rw[hz] at hz';cases hz'
 rcases h with h | ⟨h,hi⟩<;>rcases h' with h' | ⟨h',hi'⟩
 ·rw[h] at h';exact Option.some.inj h'
 ·rw[h] at h';cases h'
 ·rw[h] at h';cases h'
 ·rw[hi] at hi';exact Option.some.inj hi'
theorem Abv.le(J:WJ t)(W:WI none t){s0:Nat}(h:Abv t s s0):s<=s0:=by
 induction h with
 | refl=>exact Nat.le_refl _
 | step h1 _ ih=>have:=h1.lt J W;omega
theorem Abv.inv{s0:Nat}(h:Abv t s s0):s=s0\/∃ p,Par t s0 p/\Abv t s p:=by
 cases h with
 | refl=>exact .inl rfl
 | step h1 h2=>exact .inr ⟨_,h1,h2⟩
theorem Abv.last{s0:Nat}(h:Abv t s s0):s=s0\/∃ s',Par t s' s/\Abv t s' s0:=by
 induction h with
 | refl=>exact .inl rfl
 | @step s0 p h1 h2 ih =>
  rcases ih with rfl | ⟨s',h3,h4⟩
  ·exact .inr ⟨s0,h1,.refl _⟩
  ·exact .inr ⟨s',h3,.step h1 h4⟩
theorem Abv.push{s0 s':Nat}(h:Abv t s' s0)(hp:Par t s' s):Abv t s s0:=by
 induction h with
 | refl=>exact .step hp (.refl _)
 | step h1 _ ih=>exact .step h1 ih
theorem Abv.uniq(J:WJ t)(W:WI none t){s0 s1 s2:Nat}(p1:Par t s1 s)(p2:Par t s2 s)(h1:Abv t s1 s0)(h2:Abv t s2 s0):s1=s2:=by
 induction h1 with
 | refl =>
  rcases h2.inv with e | ⟨p,hp,h3⟩
  ·exact e.symm
  ·have:=hp.fun p1
   subst this
   have:=h3.le J W
   have:=p2.lt J W
   omega
 | @step s0 p hp h3 ih =>
  rcases h2.inv with e | ⟨p',hp',h4⟩
  ·subst e
   have:=hp.fun p2
   subst this
   have:=h3.le J W
   have:=p1.lt J W
   omega
  ·have:=hp.fun hp'
   subst this
   exact ih h4
theorem chain_abv(ok:TOk c t)(W:WI none t)(J:WJ t):∀ (s0:Nat) (y:Sc) (z:Tk) (f:Nat),t.scs[s0]?=some y->t.tks[y.ow]?=some z->some s0∈z.opn->y.ow<f->z.en=false ->
  ∀ s:Nat,(lkP (some s)∈lkP (some s0)::t.chainG f y.ow (ixO (some s0) z.opn))↔Abv t s s0:=by
 intro s0
 induction s0 using Nat.strongRecOn with
 | _ s0 ih =>
  intro y z f hy hz hs hf hen s
  obtain⟨f,rfl⟩:∃ f',f=f'+1:=⟨f-1,by omega⟩
  have n1:lkP (some s)≠(1,((y.ow+1:Nat):Int)):=fun e=>by simp[lkP,lkK] at e
  rw[TS.chainG]
  simp only[hz]
  have spl:=ixO_split hs
  have memL:lkP (some s)∈(z.opn.take (ixO (some s0) z.opn)).reverse.map lkP↔some s∈z.opn.take (ixO (some s0) z.opn):=by
   rw[mem_lkP,List.mem_reverse]
  rw[List.mem_cons,List.mem_append,List.mem_append,List.mem_singleton,memL]
  have e0:lkP (some s)=lkP (some s0)↔s=s0:=⟨fun e=>by have:=lkP_inj e;simpa using this,fun e=>by rw[e]⟩
  rw[e0]
  cases hl:lastS (z.opn.take (ixO (some s0) z.opn)) with
  | none =>
   have hno:=lastS_none hl s
   have par:∀ p,Par t s0 p↔z.inn=some p:=fun p=>by
    constructor
    ·rintro⟨y',z',hy',hz',_,h | ⟨_,h⟩⟩
     ·rw[hy] at hy';cases hy';rw[hz] at hz';cases hz';rw[hl] at h;cases h
     ·rw[hy] at hy';cases hy';rw[hz] at hz';cases hz';exact h
    ·intro h;exact⟨y,z,hy,hz,hs,.inr ⟨hl,h⟩⟩
   constructor
   ·rintro (rfl | (h | h) | h)
    ·exact .refl _
    ·exact absurd h hno
    ·exact absurd h n1
    ·cases hi:z.inn with
     | none=>rw[hi] at h;cases h
     | some s1 =>
      obtain⟨y1,z1,hy1,hz1,_,hin1,hen1,hlt1⟩:=W.above ok hz hen hi
      have hp:Par t s0 s1:=(par s1).2 hi
      simp only[hi,hy1,hz1] at h
      exact .step hp ((ih s1 (hp.lt J W) y1 z1 f hy1 hz1 hin1 (by omega) hen1 s).1 h)
   ·intro h
    rcases h.inv with e | ⟨p,hp,h3⟩
    ·exact .inl e
    ·have hi:=(par p).1 hp
     obtain⟨y1,z1,hy1,hz1,_,hin1,hen1,hlt1⟩:=W.above ok hz hen hi
     simp only[hi,hy1,hz1]
     exact .inr (.inr ((ih p (hp.lt J W) y1 z1 f hy1 hz1 hin1 (by omega) hen1 s).2 h3))
  | some p =>
   have hm:=lastS_mem hl
   have hp:Par t s0 p:=⟨y,z,hy,hz,hs,.inl hl⟩
   have hpl:=hp.lt J W
   have hpz:some p∈z.opn:=List.mem_of_mem_take hm
   obtain⟨yp,hyp⟩:∃ yp,t.scs[p]?=some yp:=⟨_,List.getElem?_eq_getElem (ok.opn _ z p hz hpz)⟩
   have how:yp.ow=y.ow:=W.ow1 _ z p yp hz hpz hyp
   have ihp:=ih p hpl yp z (f+1) hyp (by rw[how];exact hz) hpz (by omega) hen s
   rw[TS.chainG] at ihp
   simp only[how,hz] at ihp
   have memL':lkP (some s)∈(z.opn.take (ixO (some p) z.opn)).reverse.map lkP↔some s∈z.opn.take (ixO (some p) z.opn):=by
    rw[mem_lkP,List.mem_reverse]
   have ep:lkP (some s)=lkP (some p)↔s=p:=⟨fun e=>by have:=lkP_inj e;simpa using this,fun e=>by rw[e]⟩
   rw[List.mem_cons,List.mem_append,List.mem_append,List.mem_singleton,memL',ep] at ihp
   have key:some s∈z.opn.take (ixO (some s0) z.opn)↔(s=p\/some s∈z.opn.take (ixO (some p) z.opn)):=by
    obtain⟨A,hA⟩:∃ A,A=z.opn.take (ixO (some s0) z.opn):=⟨_,rfl⟩
    rw[<- hA] at hm hl spl ⊢
    have splA:=ixO_split hm
    have ndz:=W.nd _ z hz
    have e1:z.opn=A.take (ixO (some p) A)++some p::(A.drop (ixO (some p) A+1)++some s0::z.opn.drop (ixO (some s0) z.opn+1)):=by
     conv=>lhs;rw[spl,splA]
     simp
    have nd1:=nd_parts e1 ndz
    have e2:ixO (some p) z.opn=(A.take (ixO (some p) A)).length:=by
     conv=>lhs;rw[e1]
     exact ixO_app nd1.1
    have e3:z.opn.take (ixO (some p) z.opn)=A.take (ixO (some p) A):=by
     rw[e2];conv=>lhs;rw[e1]
     simp
    rw[e3]
    have tail:∀ s':Nat,some s'∉A.drop (ixO (some p) A+1):=fun s' hs'=>by
     rw[splA,lastS,List.filterMap_append,List.filterMap_cons] at hl
     simp only[id] at hl
     have hne:(A.drop (ixO (some p) A+1)).filterMap id≠[]:=fun e=>by
      have:s'∈(A.drop (ixO (some p) A+1)).filterMap id:=List.mem_filterMap.2 ⟨some s',hs',rfl⟩
      rw[e] at this;cases this
     have e9:∀ (X B:List Nat),X++p::B=(X++[p])++B:=fun X B=>by simp
     rw[e9,List.getLast?_append,List.getLast?_eq_some_getLast hne] at hl
     simp only[Option.some_or,Option.some.injEq] at hl
     have hmem:some p∈A.drop (ixO (some p) A+1):=by
      have:=List.getLast_mem hne
      rw[hl] at this
      obtain⟨v,hv,e⟩:=List.mem_filterMap.1 this
      simp only[id] at e;subst e;exact hv
     exact nd1.2 (List.mem_append_left _ hmem)
    constructor
    ·intro h
     rw[splA] at h
     rcases List.mem_append.1 h with h | h
     ·exact .inr h
     ·rcases List.mem_cons.1 h with h | h
      ·left;simpa using h
      ·exact absurd h (tail s)
    ·rintro (rfl | h)
     ·exact hm
     ·exact List.mem_of_mem_take h
   constructor
   ·rintro (rfl | (h | h) | h)
    ·exact .refl _
    ·refine .step hp (ihp.1 ?_)
     rcases key.1 h with h | h
     ·exact .inl h
     ·exact .inr (.inl (.inl h))
    ·exact absurd h n1
    ·exact .step hp (ihp.1 (.inr (.inr h)))
   ·intro h
    rcases h.inv with e | ⟨p',hp',h3⟩
    ·exact .inl e
    ·have:=hp'.fun hp
     subst this
     rcases ihp.2 h3 with h | (h | h) | h
     ·exact .inr (.inl (.inl (key.2 (.inl h))))
     ·exact .inr (.inl (.inl (key.2 (.inr h))))
     ·exact absurd h n1
     ·exact .inr (.inr h)
end
end Go.Proofs.Ytlonjogfeidgfaa.tr
namespace Go.Proofs.Ytlonjogfeidgfaa.tr
open Go Go.Ev
set_option linter.unusedVariables false
set_option linter.constructorNameAsVariable false
def TS.below1(t:TS)(rec:Nat->List Nat)(j:Nat):List Nat:=match t.tks[j]? with
 | none=>[]
 | some x=>if x.en then [] else j::match outerO x.opn with
  | none=>[]
  | some s'=>rec s'
def TS.next(t:TS)(s:Nat):Option Nat:=match t.scs[s]? with
 | none=>none
 | some y=>match t.tks[y.ow]? with
  | none=>none
  | some z=>if some s∈z.opn then outerO (z.opn.drop (ixO (some s) z.opn+1)) else none
def TS.belowG(t:TS):Nat->Nat->List Nat
 | 0,_=>[]
 | f+1,s=>match t.scs[s]? with
  | none=>[]
  | some y=>y.tks.flatMap (t.below1 (t.belowG f))++match t.next s with
   | none=>[]
   | some s'=>t.belowG f s'
section
variable {t:TS} {c s:Nat}
theorem first_par(W:WI none t){s0 s':Nat}{x:Tk}{k:Nat}(hx:t.tks[k]?=some x)(hi:x.inn=some s0)(ho:outerO x.opn=some s')(ok:TOk c t):Par t s' s0:=by
 obtain⟨a,b,h1,h2⟩:=outerO_some ho
 have hm:some s'∈x.opn:=by rw[h1];simp
 obtain⟨y,hy⟩:∃ y,t.scs[s']?=some y:=⟨_,List.getElem?_eq_getElem (ok.opn k x s' hx hm)⟩
 have how:=W.ow1 k x s' y hx hm hy
 refine⟨y,x,hy,by rw[how];exact hx,hm,.inr ⟨?_,hi⟩⟩
 have e:ixO (some s') x.opn=a.length:=by rw[h1];exact ixO_app (h2 s')
 rw[e,h1,List.take_left,lastS,List.getLast?_eq_none_iff]
 rw[List.filterMap_eq_nil_iff]
 intro v hv
 cases v with
 | none=>rfl
 | some w=>exact absurd hv (h2 w)
theorem next_par(W:WI none t){s':Nat}(h:t.next s=some s')(ok:TOk c t):Par t s' s:=by
 unfold TS.next at h
 cases hy:t.scs[s]? with
 | none=>rw[hy] at h;cases h
 | some y =>
  rw[hy] at h
  simp only at h
  cases hz:t.tks[y.ow]? with
  | none=>rw[hz] at h;cases h
  | some z =>
   rw[hz] at h
   simp only at h
   split at h
   ·rename_i hm
    obtain⟨a,b,h1,h2⟩:=outerO_some h
    have spl:=ixO_split hm
    rw[h1] at spl
    have hm':some s'∈z.opn:=by rw[spl];simp
    obtain⟨y',hy'⟩:∃ y',t.scs[s']?=some y':=⟨_,List.getElem?_eq_getElem (ok.opn _ z s' hz hm')⟩
    have how:=W.ow1 _ z s' y' hz hm' hy'
    obtain⟨A,hA⟩:∃ A,A=z.opn.take (ixO (some s) z.opn):=⟨_,rfl⟩
    rw[<- hA] at spl
    have e1:z.opn=(A++some s::a)++some s'::b:=by rw[List.append_assoc];exact spl
    have nd1:=nd_parts e1 (W.nd _ z hz)
    have e:ixO (some s') z.opn=(A++some s::a).length:=by
     conv=>lhs;rw[e1]
     exact ixO_app nd1.1
    refine⟨y',z,hy',by rw[how];exact hz,hm',.inl ?_⟩
    have e3:z.opn.take (ixO (some s') z.opn)=A++some s::a:=by
     rw[e];conv=>lhs;rw[e1]
     exact List.take_left
    have na:a.filterMap id=[]:=by
     rw[List.filterMap_eq_nil_iff]
     intro v hv
     cases v with
     | none=>rfl
     | some w=>exact absurd hv (h2 w)
    rw[e3,lastS,List.filterMap_append,List.filterMap_cons]
    simp only[id,na]
    simp
   ·cases h
theorem par_inv(ok:TOk c t)(W:WI none t){s':Nat}(h:Par t s' s):t.next s=some s'\/∃ (k:Nat) (x:Tk),t.tks[k]?=some x/\x.en=false/\x.inn=some s/\outerO x.opn=some s':=by
 obtain⟨y,z,hy,hz,hs,h | ⟨h,hi⟩⟩:=h
 ·left
  have hm:=lastS_mem h
  have hms:=List.mem_of_mem_take hm
  obtain⟨A,hA⟩:∃ A,A=z.opn.take (ixO (some s') z.opn):=⟨_,rfl⟩
  have spl:=ixO_split hs
  rw[<- hA] at h hm spl
  have splA:=ixO_split hm
  have ndz:=W.nd _ z hz
  have e1:z.opn=A.take (ixO (some s) A)++some s::(A.drop (ixO (some s) A+1)++some s'::z.opn.drop (ixO (some s') z.opn+1)):=by
   conv=>lhs;rw[spl,splA]
   simp
  have nd1:=nd_parts e1 ndz
  have e2:ixO (some s) z.opn=(A.take (ixO (some s) A)).length:=by
   conv=>lhs;rw[e1]
   exact ixO_app nd1.1
  have e3:z.opn.drop (ixO (some s) z.opn+1)=A.drop (ixO (some s) A+1)++some s'::z.opn.drop (ixO (some s') z.opn+1):=by
   rw[e2];conv=>lhs;rw[e1]
   rw[show (A.take (ixO (some s) A)).length+1=(A.take (ixO (some s) A)).length+1 from rfl,List.drop_append,List.drop_of_length_le (by omega),List.nil_append,Nat.add_sub_cancel_left,List.drop_succ_cons,List.drop_zero]
  have tail:∀ w:Nat,some w∉A.drop (ixO (some s) A+1):=fun w hw=>by
   rw[splA,lastS,List.filterMap_append,List.filterMap_cons] at h
   simp only[id] at h
   have hne:(A.drop (ixO (some s) A+1)).filterMap id≠[]:=fun e=>by
    have:w∈(A.drop (ixO (some s) A+1)).filterMap id:=List.mem_filterMap.2 ⟨some w,hw,rfl⟩
    rw[e] at this;cases this
   have e9:∀ (X B:List Nat),X++s::B=(X++[s])++B:=fun X B=>by simp
   rw[e9,List.getLast?_append,List.getLast?_eq_some_getLast hne] at h
   simp only[Option.some_or,Option.some.injEq] at h
   have hmem:some s∈A.drop (ixO (some s) A+1):=by
    have:=List.getLast_mem hne
    rw[h] at this
    obtain⟨v,hv,e⟩:=List.mem_filterMap.1 this
    simp only[id] at e;subst e;exact hv
   exact nd1.2 (List.mem_append_left _ hmem)
  obtain⟨ys,hys⟩:∃ ys,t.scs[s]?=some ys:=⟨_,List.getElem?_eq_getElem (ok.opn _ z s hz hms)⟩
  have how:=W.ow1 _ z s ys hz hms hys
  unfold TS.next
  rw[hys]
  simp only
  rw[how,hz]
  simp only[hms,if_true]
  rw[e3]
  exact outerO_of tail
 ·right
  refine⟨y.ow,z,hz,?_,hi,?_⟩
  ·cases he:z.en with
   | false=>rfl
   | true=>rw[W.en _ z hz he] at hs;cases hs
  ·have spl:=ixO_split hs
   rw[spl]
   exact outerO_of (lastS_none h)
theorem mem_below(ok:TOk c t)(W:WI none t)(J:WJ t):∀ (f s:Nat),t.scs.length-s<=f->s<t.scs.length->∀ j:Nat,j∈t.belowG f s↔∃ x s0,t.tks[j]?=some x/\x.en=false/\x.inn=some s0/\Abv t s s0
 | 0,s,h1,h2,j=>by omega
 | f+1,s,h1,h2,j=>by
  obtain⟨y,hy⟩:∃ y,t.scs[s]?=some y:=⟨_,List.getElem?_eq_getElem h2⟩
  have plen:∀ {s'},Par t s' s->s<s'/\s'<t.scs.length:=fun hp=>by
   have:=hp.lt J W
   obtain⟨y',_,hy',_⟩:=hp
   exact⟨this,gT hy'⟩
  have rcs:=fun {s'} (hp:Par t s' s)=>mem_below ok W J f s' (by have:=(plen hp).1;omega) (plen hp).2 j
  rw[TS.belowG]
  simp only[hy,List.mem_append]
  constructor
  ·rintro (h | h)
   ·obtain⟨m,hm,hj⟩:=List.mem_flatMap.1 h
    obtain⟨x,hx,hi⟩:=(W.mem s y m hy).1 hm
    simp only[TS.below1,hx] at hj
    split at hj
    ·cases hj
    ·rename_i hen
     have hen':x.en=false:=by simpa using hen
     rcases List.mem_cons.1 hj with rfl | hj
     ·exact⟨x,s,hx,hen',hi,.refl _⟩
     ·cases ho:outerO x.opn with
      | none=>rw[ho] at hj;cases hj
      | some s' =>
       rw[ho] at hj
       have hp:=first_par W hx hi ho ok
       obtain⟨x',s0,a1,a2,a3,a4⟩:=(rcs hp).1 hj
       exact⟨x',s0,a1,a2,a3,a4.push hp⟩
   ·cases hn:t.next s with
    | none=>rw[hn] at h;cases h
    | some s' =>
     rw[hn] at h
     have hp:=next_par W hn ok
     obtain⟨x',s0,a1,a2,a3,a4⟩:=(rcs hp).1 h
     exact⟨x',s0,a1,a2,a3,a4.push hp⟩
  ·rintro⟨x,s0,hx,hen,hi,ha⟩
   rcases ha.last with rfl | ⟨s',hp,ha'⟩
   ·left
    refine List.mem_flatMap.2 ⟨j,(W.mem s y j hy).2 ⟨x,hx,hi⟩,?_⟩
    simp[TS.below1,hx,hen]
   ·have hj:=(rcs hp).2 ⟨x,s0,hx,hen,hi,ha'⟩
    rcases par_inv ok W hp with hn | ⟨k,xk,hk,hke,hki,hko⟩
    ·right;rw[hn];exact hj
    ·left
     refine List.mem_flatMap.2 ⟨k,(W.mem s y k hy).2 ⟨xk,hk,hki⟩,?_⟩
     simp only[TS.below1,hk,hke,hko,Bool.false_eq_true,if_false]
     exact List.mem_cons_of_mem _ hj
theorem nodup_below(ok:TOk c t)(W:WI none t)(J:WJ t):∀ (f s:Nat),t.scs.length-s<=f->s<t.scs.length->(t.belowG f s).Nodup
 | 0,s,h1,h2=>.nil
 | f+1,s,h1,h2=>by
  obtain⟨y,hy⟩:∃ y,t.scs[s]?=some y:=⟨_,List.getElem?_eq_getElem h2⟩
  have plen:∀ {s'},Par t s' s->s<s'/\s'<t.scs.length:=fun hp=>by
   have:=hp.lt J W
   obtain⟨y',_,hy',_⟩:=hp
   exact⟨this,gT hy'⟩
  have mem:=fun {s'} (hp:Par t s' s) j=>mem_below ok W J f s' (by have:=(plen hp).1;omega) (plen hp).2 j
  have rcs:=fun {s'} (hp:Par t s' s)=>nodup_below ok W J f s' (by have:=(plen hp).1;omega) (plen hp).2
  have self:∀ {s' m:Nat},Par t s' s->m∈y.tks->m∉t.belowG f s':=fun {s' m} hp hm hj=>by
   obtain⟨x,hx,hi⟩:=(W.mem s y m hy).1 hm
   obtain⟨x',s0,a1,a2,a3,a4⟩:=(mem hp m).1 hj
   rw[hx] at a1;cases a1
   rw[hi] at a3;cases a3
   have:=a4.le J W
   have:=(plen hp).1
   omega
  have both:∀ {s1 s2 j:Nat},Par t s1 s->Par t s2 s->j∈t.belowG f s1->j∈t.belowG f s2->s1=s2:=fun p1 p2 h1 h2=>by
   obtain⟨x,s0,a1,a2,a3,a4⟩:=(mem p1 _).1 h1
   obtain⟨x',s0',b1,b2,b3,b4⟩:=(mem p2 _).1 h2
   rw[a1] at b1;cases b1
   rw[a3] at b3;cases b3
   exact Abv.uniq J W p1 p2 a4 b4
  have inv1:∀ {m j:Nat},m∈y.tks->j∈t.below1 (t.belowG f) m->j=m\/∃ x s',t.tks[m]?=some x/\some s'∈x.opn/\Par t s' s/\j∈t.belowG f s':=fun {m j} hm hj=>by
   obtain⟨x,hx,hi⟩:=(W.mem s y m hy).1 hm
   simp only[TS.below1,hx] at hj
   split at hj
   ·cases hj
   ·rcases List.mem_cons.1 hj with rfl | hj
    ·exact .inl rfl
    ·cases ho:outerO x.opn with
     | none=>rw[ho] at hj;cases hj
     | some s' =>
      rw[ho] at hj
      obtain⟨a,b,e1,_⟩:=outerO_some ho
      exact .inr ⟨x,s',hx,by rw[e1];simp,first_par W hx hi ho ok,hj⟩
  have owner:∀ {m s':Nat} {x:Tk} {y':Sc},t.tks[m]?=some x->some s'∈x.opn->t.scs[s']?=some y'->y'.ow=m:=fun hx hs hy'=>W.ow1 _ _ _ _ hx hs hy'
  rw[TS.belowG]
  simp only[hy]
  rw[List.nodup_append]
  refine⟨?_,?_,fun a ha b hb e=>?_⟩
  ·rw[List.Nodup,List.pairwise_flatMap]
   refine⟨fun m hm=>?_,(W.mnd s y hy).imp_of_mem fun {m1 m2} hm1 hm2 hne a ha b hb e=>?_⟩
   ·obtain⟨x,hx,hi⟩:=(W.mem s y m hy).1 hm
    simp only[TS.below1,hx]
    split
    ·exact .nil
    ·cases ho:outerO x.opn with
     | none=>simp
     | some s' =>
      have hp:=first_par W hx hi ho ok
      exact List.nodup_cons.2 ⟨self hp hm,rcs hp⟩
   ·subst e
    rcases inv1 hm1 ha with e1 | ⟨x1,s1,a1,a2,a3,a4⟩<;>rcases inv1 hm2 hb with e2 | ⟨x2,s2,b1,b2,b3,b4⟩
    ·exact hne (by rw[<- e1,<- e2])
    ·subst e1;exact self b3 hm1 b4
    ·subst e2;exact self a3 hm2 a4
    ·have:=both a3 b3 a4 b4
     subst this
     obtain⟨y',hy'⟩:∃ y',t.scs[s1]?=some y':=⟨_,List.getElem?_eq_getElem (plen a3).2⟩
     exact hne ((owner a1 a2 hy').symm.trans (owner b1 b2 hy'))
  ·cases hn:t.next s with
   | none=>exact .nil
   | some s'=>exact rcs (next_par W hn ok)
  ·subst e
   cases hn:t.next s with
   | none=>rw[hn] at hb;cases hb
   | some s' =>
    rw[hn] at hb
    have hp:=next_par W hn ok
    obtain⟨m,hm,hj⟩:=List.mem_flatMap.1 ha
    rcases inv1 hm hj with e1 | ⟨x1,s1,a1,a2,a3,a4⟩
    ·subst e1;exact self hp hm hb
    ·have:=both a3 hp a4 hb
     subst this
     obtain⟨y',hy'⟩:∃ y',t.scs[s1]?=some y':=⟨_,List.getElem?_eq_getElem (plen a3).2⟩
     have o1:=owner a1 a2 hy'
     obtain⟨x,hx,hi⟩:=(W.mem s y m hy).1 hm
     have hup:=W.up m x s y hx hi hy
     unfold TS.next at hn
     rw[hy] at hn
     simp only at hn
     cases hz:t.tks[y.ow]? with
     | none=>rw[hz] at hn;cases hn
     | some z =>
      rw[hz] at hn
      simp only at hn
      split at hn
      ·obtain⟨a',b',e1,_⟩:=outerO_some hn
       have hm':some s1∈z.opn:=List.mem_of_mem_drop (by rw[e1];simp)
       have o2:=owner hz hm' hy'
       omega
      ·cases hn
theorem nodup_len:∀ (n:Nat) (l:List Nat),l.Nodup->(∀ x,x∈l->x<n)->l.length<=n
 | 0,l,_,h=>by
  cases l with
  | nil=>exact Nat.le_refl _
  | cons a l=>exact absurd (h a (List.mem_cons_self ..)) (by omega)
 | n+1,l,hn,h=>by
  have h2:(l.filter (· != n)).length<=n:=nodup_len n _ (hn.filter _) fun x hx=>by
   obtain⟨a,b⟩:=List.mem_filter.1 hx
   have:=h x a
   have:x≠n:=by simpa using b
   omega
  have h3:l.length<=(l.filter (· != n)).length+1:=by
   clear h2 h
   induction l with
   | nil=>simp
   | cons a l ih =>
    rw[List.nodup_cons] at hn
    rw[List.filter_cons]
    by_cases e:a=n
    ·subst e
     have:l.filter (· != a)=l:=List.filter_eq_self.2 fun x hx=>by
      have:x≠a:=fun e=>hn.1 (by rw[<- e];exact hx)
      simpa using this
     simp[this]
    ·have:=ih hn.2
     simp[e];exact this
  omega
theorem below_len(ok:TOk c t)(W:WI none t)(J:WJ t)(hs:s<t.scs.length):(t.belowG t.scs.length s).length<=64:=by
 have n64:=ok.n64
 have:=nodup_len t.tks.length _ (nodup_below ok W J t.scs.length s (by omega) hs) fun j hj=>by
  obtain⟨x,_,hx,_⟩:=(mem_below ok W J t.scs.length s (by omega) hs j).1 hj
  exact gT hx
 omega
end
end Go.Proofs.Ytlonjogfeidgfaa.tr
namespace Go.Proofs.Ytlonjogfeidgfaa.tr
open Go Go.Ev
set_option maxRecDepth 100000
set_option linter.unusedVariables false
set_option linter.constructorNameAsVariable false
section
variable {h:Hp} {ρ:Lay} {t:TS} {c r:Nat}
theorem outer_run{l:List (Option Nat)}{oa:Option Addr}{za:Nat}(hb:l.length<=1000000)(hp:∀ s,some s∈l->∃ i,ρ (.sc s)=some i)
  (A:l.length≠0->∃ o f c rw,oa=some ⟨o,f,none⟩/\za=1/\h[o]?=some (.cells c rw)/\∀ i v,l[i]?=some v->c[f+i]?=some (inP ρ v)) :
  Run Try.prog 74 [.slice oa l.length za] h (inP ρ (outerO l)) h:=by
 have loop:∀ (j i:Nat) (E:Env),i+j=l.length->EnvLe [(8,.int .i64 (i:Int)),(7,.int .i64 (Int.ofNat l.length)),(0,.slice oa l.length za),(1,.func (.func 89) #[] #[])] E->(∀ j v,j<i->l[j]?=some v->v=none) ->
   (∃ E1 k s,EnvLe [(4,.int .i64 ((k:Nat):Int))] E1/\LRun Try.prog 19 false (loopN Try.f88 0) E h .ret E1 h/\l[k]?=some (some s)/\outerO l=some s) \/
   (∃ E1,LRun Try.prog 19 false (loopN Try.f88 0) E h (.exit 0) E1 h/\outerO l=none):=by
  intro j
  induction j with
  | zero =>
   intro i E hi hE hn
   have e:i=l.length:=by omega
   subst e
   obtain⟨E2,q1,q2⟩:=pvC 1 hE (r43p.if_out 0 0 l.length za 0 0 oa l.length 0 h h) ⟨ltF (by simp),trivial⟩
   refine .inr ⟨E2,.last q2 (by simp),?_⟩
   cases ho:outerO l with
   | none=>rfl
   | some s =>
    obtain⟨a,b,e1,_⟩:=outerO_some ho
    have:=hn a.length (some s) (by rw[e1];simp) (by rw[e1];simp)
    cases this
  | succ j ih =>
   intro i E hi hE hn
   obtain⟨w,hw⟩:∃ w,l[i]?=some w:=⟨_,List.getElem?_eq_getElem (by omega)⟩
   obtain⟨o,f,c,rw,rfl,rfl,ho,hc⟩:=A (by omega)
   have B1:(Asm.cmp .lss (i:Int) (Int.ofNat l.length) true).holds Try.prog:=ltT (by simp;omega)
   have B2:(Asm.off (f+i) f (i:Int) l.length 1).holds Try.prog:=offI (q:=i) rfl (by omega) (by omega)
   have B3:(Asm.ld1 (.is h) o (f+i) (inP ρ w)).holds Try.prog:=aL ho (hc i w hw)
   cases w with
   | none =>
    obtain⟨E2,q1,q2⟩:=pvC 1 hE (r43p.if_nil o f l.length 0 (f+i) 0 none i ((i+1:Nat):Int) h h) ⟨B1,B2,B3,addI rfl (by omega) (by omega),trivial⟩
    have hn':∀ j v,j<i+1->l[j]?=some v->v=none:=fun k v hk e=>by
     by_cases e1:k=i
     ·subst e1;rw[hw] at e;cases e;rfl
     ·exact hn k v (by omega) e
    rcases ih (i+1) E2 (by omega) (.trans (.add (.add (.add (.add (.nil _) rfl) rfl) rfl) rfl) q1) hn' with⟨E3,k,s,s1,s2,s3⟩ | ⟨E3,s2,s3⟩
    ·exact .inl ⟨E3,k,s,s1,.step q2 s2,s3⟩
    ·exact .inr ⟨E3,.step q2 s2,s3⟩
   | some s =>
    obtain⟨y,hy⟩:=hp s (List.mem_of_getElem? hw)
    simp only[inP,hy,pvv] at B3
    obtain⟨E2,q1,q2⟩:=pvC 1 hE (r43p.if_hit o f l.length 0 (f+i) y none i 0 h h) ⟨B1,B2,B3,trivial⟩
    refine .inl ⟨E2,i,s,.trans (.add (.nil _) rfl) q1,.last q2 (by simp),hw,?_⟩
    have hil:=gT hw
    have spl:l=l.take i++some s::l.drop (i+1):=by
     conv=>lhs;rw[<- List.take_append_drop i l,List.drop_eq_getElem_cons hil]
     rw[List.getElem?_eq_getElem hil] at hw
     rw[Option.some.inj hw]
    rw[spl]
    refine outerO_of fun s' hs'=>?_
    obtain⟨k,hk⟩:=List.mem_iff_getElem?.1 hs'
    have hkl:=gT hk
    rw[List.length_take] at hkl
    rw[List.getElem?_take_of_lt (by omega)] at hk
    have:=hn k (some s') (by omega) hk
    cases this
 rcases loop l.length 0 [(8,.int .i64 (0:Nat)),(7,.int .i64 (Int.ofNat l.length)),(0,.slice oa l.length za),(1,.func (.func 89) #[] #[])] (by omega) (EnvLe.refl _) (fun j v hj=>absurd hj (Nat.not_lt_zero _)) with⟨E1,k,s,q1,q2,q3,q4⟩ | ⟨E1,q2,q3⟩
 ·have R:Run Try.prog 88 [.slice oa l.length za,.func (.func 89) #[] #[]] h (.int .i64 (k:Int)) h:=pvF 0 Try.func88 (r43p.if_f 0 0 l.length za 0 0 oa k 0 h h) ⟨a_loop (by kernel_rfl) (.add (.add (.add (.add (.nil _) rfl) rfl) rfl) rfl) q1 q2,trivial⟩
  have hkl:=gT q3
  obtain⟨o,f,c,rw,rfl,rfl,ho,hc⟩:=A (by omega)
  obtain⟨y,hy⟩:=hp s (List.mem_of_getElem? q3)
  have B3:(Asm.ld1 (.is h) o (f+k) (inP ρ (some s))).holds Try.prog:=aL ho (hc k _ q3)
  rw[q4]
  simp only[inP,hy,pvv] at B3 ⊢
  exact pvF 0 Try.func74 (r43p.ou_some o f l.length 0 (f+k) y none k 0 h h) ⟨R,ltF (by omega),offI (q:=k) rfl (by omega) (by omega),B3,trivial⟩
 ·have R:Run Try.prog 88 [.slice oa l.length za,.func (.func 89) #[] #[]] h (.int .i64 (Int.negSucc 0)) h:=pvF 0 Try.func88 (r43p.if_n 0 0 l.length za 0 0 oa 0 0 h h) ⟨a_loop (by kernel_rfl) (.add (.add (.add (.add (.nil _) rfl) rfl) rfl) rfl) (.nil _) q2,trivial⟩
  rw[q3]
  exact pvF 0 Try.func74 (r43p.ou_none 0 0 l.length za 0 0 oa (Int.negSucc 0) 0 h h) ⟨R,ltT (by decide),trivial⟩
theorem indexS_none(a:TAt h ρ t){k s si:Nat}{x:Tk}{oa:Option Addr}{za:Nat}(hx:t.tks[k]?=some x)(hsi:ρ (.sc s)=some si)(hin:∀ s,some s∈x.opn->s<t.scs.length)(hb:x.opn.length<=1000000)(hs:some s∉x.opn)(hv:slv (ρ (.op k)) x.opn.length=.slice oa x.opn.length za) :
  Run Try.prog 75 [.slice oa x.opn.length za,ptr si] h (.int .i64 (Int.negSucc 0)) h:=by
 have loop:∀ (j i:Nat) (E:Env),i+j=x.opn.length->EnvLe [(8,.int .i64 (i:Int)),(7,.int .i64 (Int.ofNat x.opn.length)),(0,.slice oa x.opn.length za),(1,ptr si)] E ->
   ∃ E1,LRun Try.prog 19 false (loopN Try.f75 0) E h (.exit 0) E1 h:=by
  intro j
  induction j with
  | zero =>
   intro i E hi hE
   have e:i=x.opn.length:=by omega
   subst e
   obtain⟨E2,q1,q2⟩:=pvC 0 hE (r38p.ig_out oa 0 x.opn.length za si 0 0 x.opn.length 0 h) ⟨ltF (by simp),trivial⟩
   exact⟨E2,.last q2 (by simp)⟩
  | succ j ih =>
   intro i E hi hE
   obtain⟨w,hw⟩:∃ w,x.opn[i]?=some w:=⟨_,List.getElem?_eq_getElem (by omega)⟩
   cases ho:ρ (.op k) with
   | none=>have:=a.sh.op k x hx ho;rw[this] at hi;simp at hi
   | some o =>
   rw[ho] at hv
   cases hv
   have B1:(Asm.cmp .lss (i:Int) (Int.ofNat x.opn.length) true).holds Try.prog:=ltT (by simp;omega)
   have B2:(Asm.off i 0 (i:Int) x.opn.length 1).holds Try.prog:=offI (q:=i) rfl (by omega) (by omega)
   have B3:(Asm.ld1 (.is h) o i (inP ρ w)).holds Try.prog:=a.ld1 rfl ho (by rw[cont_op hx,List.getElem?_map,hw];rfl)
   have B9:(Asm.arith .add .i64 (i:Int) 1 ((i+1:Nat):Int)).holds Try.prog:=addI rfl (by omega) (by omega)
   cases w with
   | none =>
    obtain⟨E2,q1,q2⟩:=pvC 0 hE (r38p.ig_nil none o x.opn.length 0 si 0 i i ((i+1:Nat):Int) h) ⟨B1,B2,B3,B9,trivial⟩
    obtain⟨E3,s2⟩:=ih (i+1) E2 (by omega) (.trans (.add (.add (.add (.add (.nil _) rfl) rfl) rfl) rfl) q1)
    exact⟨E3,.step q2 s2⟩
   | some s' =>
    have hm:=List.mem_of_getElem? hw
    obtain⟨yi,hyi⟩:=a.sh.sc s' (hin s' hm)
    simp only[inP,hyi,pvv] at B3
    obtain⟨c1,ho1⟩:=a.own hsi
    obtain⟨c2,ho2⟩:=a.own hyi
    have hne:si≠yi:=fun e1=>by subst e1;have:=a.inj _ _ _ hsi hyi;cases this;exact hs hm
    obtain⟨E2,q1,q2⟩:=pvC 0 hE (r38p.ig_ne none o x.opn.length 0 si yi i i ((i+1:Nat):Int) h) ⟨B1,B2,B3,⟨114,7,c1,c2,und91,siz95,ho1,ho2,.inl ⟨rfl,by simp[hne]⟩⟩,B9,trivial⟩
    obtain⟨E3,s2⟩:=ih (i+1) E2 (by omega) (.trans (.add (.add (.add (.add (.nil _) rfl) rfl) rfl) rfl) q1)
    exact⟨E3,.step q2 s2⟩
 obtain⟨E1,q2⟩:=loop x.opn.length 0 [(8,.int .i64 (0:Nat)),(7,.int .i64 (Int.ofNat x.opn.length)),(0,.slice oa x.opn.length za),(1,ptr si)] (by omega) (EnvLe.refl _)
 exact pvF 0 Try.func75 (r38p.ig_n oa x.opn.length za si 0 h h) ⟨a_loop (by kernel_rfl) (.add (.add (.add (.add (.nil _) rfl) rfl) rfl) rfl) (.nil _) q2,trivial⟩
structure AccN(h:Hp)(b8:Nat)(g:Hp)(v:Value)(acc:List Nat):Prop where
 keep:Keep (fun _=>False) h g
 lo:h.length<=b8
 box:g[b8]?=some (.cells [v] true)
 sl:SlV g (b8+1) v acc.length 1 (nmL acc)
theorem AccN.appN{b8:Nat}{g:Hp}{v:Value}(A:AccN h b8 g v [])(p:Nat) :
  AccN h b8 (((g++[AObj.cells [.int .i64 ((p+1:Nat):Int)] true])++[AObj.cells [.int .i64 ((p+1:Nat):Int)] true]).set b8 (.cells [.slice (some ⟨g.length+1,0,none⟩) 1 1] true)) (.slice (some ⟨g.length+1,0,none⟩) 1 1) [p] /\
  Keep (fpA b8 v) g (((g++[AObj.cells [.int .i64 ((p+1:Nat):Int)] true])++[AObj.cells [.int .i64 ((p+1:Nat):Int)] true]).set b8 (.cells [.slice (some ⟨g.length+1,0,none⟩) 1 1] true)):=by
 have bl:=get_lt A.box
 have kl:=A.keep.1
 refine⟨⟨(((A.keep.pushN _).pushN _).setN A.lo _),A.lo,gE (gP (gP A.box)),.inr ⟨by simp,by simp[nmL],g.length+1,rfl,?_,by omega⟩⟩,?_⟩
 ·exact gNq (gV _ (by simp)) (by omega)
 ·exact ((Keep.push _ _ _).trans (Keep.push _ _ _)).trans (Keep.set (fp:=fpA b8 v) (.inl rfl) _)
theorem AccN.appS{b8 w:Nat}{g:Hp}{acc:List Nat}(A:AccN h b8 g (.slice (some ⟨w,0,none⟩) acc.length 1) acc)(hw:g[w]?=some (.cells (nmL acc) true))(hl:b8+1<=w)(p:Nat) :
  AccN h b8 ((((g++[AObj.cells [.int .i64 ((p+1:Nat):Int)] true]).set w .dead)++[AObj.cells (nmL acc++[.int .i64 ((p+1:Nat):Int)]) true]).set b8 (.cells [.slice (some ⟨g.length+1,0,none⟩) (acc.length+1) 1] true)) (.slice (some ⟨g.length+1,0,none⟩) (acc.length+1) 1) (acc++[p]) /\
  Keep (fpA b8 (.slice (some ⟨w,0,none⟩) acc.length 1)) g ((((g++[AObj.cells [.int .i64 ((p+1:Nat):Int)] true]).set w .dead)++[AObj.cells (nmL acc++[.int .i64 ((p+1:Nat):Int)]) true]).set b8 (.cells [.slice (some ⟨g.length+1,0,none⟩) (acc.length+1) 1] true)):=by
 have bl:=get_lt A.box
 have kl:=A.keep.1
 have lo:=A.lo
 have hb2:((g++[AObj.cells [.int .i64 ((p+1:Nat):Int)] true]).set w .dead)[b8]?=some (.cells [.slice (some ⟨w,0,none⟩) acc.length 1] true):=gNq (gP A.box) (by omega)
 have e:nmL (acc++[p])=nmL acc++[.int .i64 ((p+1:Nat):Int)]:=by simp[nmL]
 refine⟨⟨((((A.keep.pushN _).setN (by omega) _).pushN _).setN A.lo _),A.lo,gE (gP hb2),.inr ⟨by simp,by rw[nmL_len];simp,g.length+1,by simp,?_,by omega⟩⟩,?_⟩
 ·rw[e]
  exact gNq (gV _ (by simp)) (by omega)
 ·exact (((Keep.push _ _ _).trans (Keep.set (fp:=fpA b8 (.slice (some ⟨w,0,none⟩) acc.length 1)) (.inr ⟨_,_,rfl⟩) _)).trans (Keep.push _ _ _)).trans (Keep.set (.inl rfl) _)
theorem AccN.cases{b8:Nat}{g:Hp}{v:Value}{acc:List Nat}(A:AccN h b8 g v acc):(acc=[]/\v=.slice none 0 0)\/(acc≠[]/\∃ w,v=.slice (some ⟨w,0,none⟩) acc.length 1/\g[w]?=some (.cells (nmL acc) true)/\b8+1<=w):=by
 rcases A.sl with⟨a1,_,a2⟩ | ⟨a1,_,w,a3,a4,a5⟩
 ·exact .inl ⟨List.length_eq_zero_iff.1 a1,a2⟩
 ·exact .inr ⟨fun e=>a1 (by rw[e];rfl),w,a3,a4,a5⟩
abbrev FV48(b8 b9:Nat):Value:=.func (.func 73) #[] #[ptr b8,ptr b9]
theorem AccN.notF{b8 b9:Nat}{g:Hp}{v:Value}{acc:List Nat}(A:AccN h b8 g v acc)(hl:g[b9]?=some (.cells [FV48 b8 b9] true))(hn:b9≠b8):¬ fpA b8 v b9:=by
 rintro (rfl | ⟨n',z',e⟩)
 ·exact hn rfl
 ·rcases A.cases with⟨_,e'⟩ | ⟨a1,w,a3,a4,a5⟩
  ·rw[e'] at e;cases e
  ·rw[a3] at e;cases e
   rw[a4] at hl
   have:=(AObj.cells.inj (Option.some.inj hl)).1
   cases acc with
   | nil=>exact a1 rfl
   | cons p acc=>simp[nmL] at this
theorem stat48:(Asm.stat (drawN Try.f73 0)).holds Try.prog:=show statOk (drawN Try.f73 0)=true by kernel_rfl
theorem opn_cells(a:TAt h ρ t){k f:Nat}{x:Tk}(hx:t.tks[k]?=some x)(hf:f<=x.opn.length):(x.opn.drop f).length≠0->∃ o c rw,ρ (.op k)=some o/\h[o]?=some (.cells c rw)/\∀ i v,(x.opn.drop f)[i]?=some v->c[f+i]?=some (inP ρ v):=fun hne=>by
 cases ho:ρ (.op k) with
 | none=>rw[a.sh.op k x hx ho] at hne;simp at hne
 | some o =>
  obtain⟨junk,hj⟩:=a.obj _ _ ho
  rw[cont_op hx] at hj
  refine⟨o,_,true,rfl,hj,fun i v hv=>?_⟩
  rw[List.getElem?_drop] at hv
  have hl:=gT hv
  rw[List.getElem?_append_left (by simp;omega),List.getElem?_map,hv];rfl
theorem below_walk(a:TAt h ρ t)(ok:TOk c t)(hc:c<=1000)(W:WI none t)(J:WJ t){b8 b9:Nat}(h98:b9≠b8) :
  ∀ (f s si:Nat),t.scs.length-s<=f->s<t.scs.length->ρ (.sc s)=some si->∀ (g:Hp) (v:Value) (acc:List Nat),AccN h b8 g v acc->g[b9]?=some (.cells [FV48 b8 b9] true)->acc.length+(t.belowG f s).length<=100000 ->
   ∃ g' v',Run Try.prog 73 [ptr si,ptr b8,ptr b9] g (.tuple #[]) g'/\AccN h b8 g' v' (acc++t.belowG f s)/\g'[b9]?=some (.cells [FV48 b8 b9] true):=by
 intro f
 induction f with
 | zero=>intro s si h1 h2;omega
 | succ f ih =>
  intro s si h1 h2 hsi g v acc A hb9 hlen
  have n64:=ok.n64
  obtain⟨y,hy⟩:∃ y,t.scs[s]?=some y:=⟨_,List.getElem?_eq_getElem h2⟩
  have hml:=ok.mlen s y hy
  have how:=ok.ow s y hy
  obtain⟨oi,hoi⟩:=a.sh.tk _ how
  obtain⟨z,hz⟩:∃ z,t.tks[y.ow]?=some z:=⟨_,List.getElem?_eq_getElem how⟩
  have hzl:=ok.len _ z hz
  have plen:∀ {s'},Par t s' s->s<s'/\s'<t.scs.length:=fun hp=>by
   have:=hp.lt J W
   obtain⟨y',_,hy',_⟩:=hp
   exact⟨this,gT hy'⟩
  have hbel:t.belowG (f+1) s=y.tks.flatMap (t.below1 (t.belowG f))++match t.next s with
   | none=>[]
   | some s'=>t.belowG f s':=by rw[TS.belowG];simp only[hy];try (cases t.next s<;>rfl)
  rw[hbel] at hlen ⊢
  obtain⟨M,hM⟩:∃ M,M=y.tks.flatMap (t.below1 (t.belowG f)):=⟨_,rfl⟩
  rw[<- hM] at hlen ⊢
  rw[List.length_append] at hlen
  obtain⟨oa,za,ev,ev2⟩:=slv_ex (ρ (.st s)) y.tks.length (fun e=>by rw[a.sh.st s y hy e];rfl)
  have loop:∀ (r i:Nat) (E:Env) (g:Hp) (v:Value),i+r=y.tks.length->EnvLe [(14,.int .i64 (i:Int)),(13,.int .i64 (Int.ofNat y.tks.length)),(12,.slice oa y.tks.length za),(0,ptr si),(1,ptr b8),(2,ptr b9)] E ->
    AccN h b8 g v (acc++(y.tks.take i).flatMap (t.below1 (t.belowG f)))->g[b9]?=some (.cells [FV48 b8 b9] true) ->
    ∃ E1 g' v',EnvLe [(0,ptr si),(1,ptr b8),(2,ptr b9)] E1/\LRun Try.prog 67 false (loopN Try.f73 0) E g (.exit 0) E1 g'/\AccN h b8 g' v' (acc++M)/\g'[b9]?=some (.cells [FV48 b8 b9] true):=by
   intro r
   induction r with
   | zero =>
    intro i E g v hi hE A hb9
    have e:i=y.tks.length:=by omega
    subst e
    rw[List.take_length,<- hM] at A
    obtain⟨E2,q1,q2⟩:=pvC 0 hE (r43p.bm_out si b8 b9 0 y.tks.length za 0 0 0 0 0 0 0 0 0 oa none y.tks.length 0 0 [] [] [] g g g) ⟨ltF (by simp),trivial⟩
    exact⟨E2,g,v,.trans (.add (.add (.add (.nil _) rfl) rfl) rfl) q1,.last q2 (by simp),A,hb9⟩
   | succ r ihr =>
    intro i E g v hi hE A hb9
    obtain⟨w,hw⟩:∃ w,y.tks[i]?=some w:=⟨_,List.getElem?_eq_getElem (by omega)⟩
    have hwm:=List.mem_of_getElem? hw
    have hwl:=ok.mem s y w hy hwm
    obtain⟨x,hx⟩:∃ x,t.tks[w]?=some x:=⟨_,List.getElem?_eq_getElem hwl⟩
    obtain⟨x',hx',hxi⟩:=(W.mem s y w hy).1 hwm
    rw[hx] at hx';cases hx'
    obtain⟨xi,hxo⟩:=a.sh.tk w hwl
    have hxl:=ok.len w x hx
    cases hst:ρ (.st s) with
    | none=>have:=a.sh.st s y hy hst;rw[this] at hi;simp at hi
    | some so =>
    obtain⟨rfl,rfl⟩:=ev2 so hst
    have ag:=a.grow A.keep
    have tk1:(y.tks.take (i+1)).flatMap (t.below1 (t.belowG f))=(y.tks.take i).flatMap (t.below1 (t.belowG f))++t.below1 (t.belowG f) w:=by rw[take_one hw,List.flatMap_append];simp
    have sub:((y.tks.take (i+1)).flatMap (t.below1 (t.belowG f))).length<=M.length:=by
     rw[hM]
     conv=>rhs;rw[<- List.take_append_drop (i+1) y.tks,List.flatMap_append,List.length_append]
     omega
    rw[tk1,List.length_append] at sub
    have B1:(Asm.cmp .lss (i:Int) (Int.ofNat y.tks.length) true).holds Try.prog:=ltT (by simp;omega)
    have B2:(Asm.off i 0 (i:Int) y.tks.length 1).holds Try.prog:=offI (q:=i) rfl (by omega) (by omega)
    have B3:(Asm.ld1 (.is g) so i (ptr xi)).holds Try.prog:=by
     have:=ag.ld1 (P:=Try.prog) (s:=.is g) rfl hst (d:=i) (v:=pvv (ρ (.tk w))) (by rw[cont_st hy,List.getElem?_map,hw];rfl)
     rwa [hxo] at this
    have B4:(Asm.ld1 (.is g) xi 4 (.bool x.en)).holds Try.prog:=ag.ld1 rfl hxo (by rw[cT hx];rfl)
    have B9:(Asm.arith .add .i64 (i:Int) 1 ((i+1:Nat):Int)).holds Try.prog:=addI rfl (by omega) (by omega)
    have next:∀ {E2:Env} {g':Hp} {v':Value},EnvLe [(14,.int .i64 ((i+1:Nat):Int)),(13,.int .i64 (Int.ofNat y.tks.length)),(12,.slice (some ⟨so,0,none⟩) y.tks.length 1),(0,ptr si),(1,ptr b8),(2,ptr b9)] E2->CRun Try.prog 67 false (loopN Try.f73 0) E g .normal E2 g' ->
      AccN h b8 g' v' (acc++(y.tks.take i).flatMap (t.below1 (t.belowG f))++t.below1 (t.belowG f) w)->g'[b9]?=some (.cells [FV48 b8 b9] true) ->
      ∃ E1 g' v',EnvLe [(0,ptr si),(1,ptr b8),(2,ptr b9)] E1/\LRun Try.prog 67 false (loopN Try.f73 0) E g (.exit 0) E1 g'/\AccN h b8 g' v' (acc++M)/\g'[b9]?=some (.cells [FV48 b8 b9] true):=fun h1 h2 h3 h4=>by
     rw[List.append_assoc,<- tk1] at h3
     obtain⟨E3,g3,v3,s1,s2,s3,s4⟩:=ihr (i+1) _ _ _ (by omega) h1 h3 h4
     exact⟨E3,g3,v3,s1,.step h2 s2,s3,s4⟩
    cases hen:x.en with
    | true =>
     rw[hen] at B4
     have e0:t.below1 (t.belowG f) w=[]:=by simp only[TS.below1,hx,hen,if_true]
     obtain⟨E2,q1,q2⟩:=pvC 0 hE (r43p.bm_end si b8 b9 so y.tks.length 0 i xi 0 0 0 0 0 0 0 none none i ((i+1:Nat):Int) 0 [] [] [] g g g) ⟨B1,B2,B3,B4,B9,trivial⟩
     exact next (.trans (.add (.add (.add (.add (.add (.add (.nil _) rfl) rfl) rfl) rfl) rfl) rfl) q1) q2 (by rw[e0,List.append_nil];exact A) hb9
    | false =>
     rw[hen] at B4
     have e0:t.below1 (t.belowG f) w=w::match outerO x.opn with
      | none=>[]
      | some s'=>t.belowG f s':=by simp only[TS.below1,hx,hen,Bool.false_eq_true,if_false];try (cases outerO x.opn<;>rfl)
     obtain⟨acc1,hacc1⟩:∃ acc1,acc1=acc++(y.tks.take i).flatMap (t.below1 (t.belowG f)):=⟨_,rfl⟩
     rw[<- hacc1] at A next
     have lacc1:acc1.length<=100000:=by rw[hacc1,List.length_append];omega
     have B5:(Asm.ld1 (.is g) b8 0 v).holds Try.prog:=aL A.box rfl
     have B6:(Asm.ld1 (.is g) xi 0 (.int .i64 ((w+1:Nat):Int))).holds Try.prog:=ag.ld1 rfl hxo (by rw[cT hx];rfl)
     obtain⟨op,zo,eop,eop2⟩:=slv_ex (ρ (.op w)) x.opn.length (fun e=>by rw[a.sh.op w x hx e];rfl)
     have main:∀ (g2:Hp) (v2:Value),AccN h b8 g2 v2 (acc1++[w])->Keep (fpA b8 v) g g2 ->
       (∀ g3,outerO x.opn=none->Run Try.prog 74 [.slice op x.opn.length zo] g2 (.pointer none) g2->(Asm.ld1 (.is g2) xi 2 (.slice op x.opn.length zo)).holds Try.prog->g3=g2->∃ E2,EnvLe [(14,.int .i64 ((i+1:Nat):Int)),(13,.int .i64 (Int.ofNat y.tks.length)),(12,.slice (some ⟨so,0,none⟩) y.tks.length 1),(0,ptr si),(1,ptr b8),(2,ptr b9)] E2/\CRun Try.prog 67 false (loopN Try.f73 0) E g .normal E2 g3) ->
       (∀ (s' yi:Nat) (g3:Hp),outerO x.opn=some s'->Run Try.prog 74 [.slice op x.opn.length zo] g2 (ptr yi) g2->(Asm.ld1 (.is g2) xi 2 (.slice op x.opn.length zo)).holds Try.prog->(Asm.ld1 (.is g2) b9 0 (FV48 b8 b9)).holds Try.prog->Run Try.prog 73 [ptr yi,ptr b8,ptr b9] g2 (.tuple #[]) g3->∃ E2,EnvLe [(14,.int .i64 ((i+1:Nat):Int)),(13,.int .i64 (Int.ofNat y.tks.length)),(12,.slice (some ⟨so,0,none⟩) y.tks.length 1),(0,ptr si),(1,ptr b8),(2,ptr b9)] E2/\CRun Try.prog 67 false (loopN Try.f73 0) E g .normal E2 g3) ->
       ∃ E1 g' v',EnvLe [(0,ptr si),(1,ptr b8),(2,ptr b9)] E1/\LRun Try.prog 67 false (loopN Try.f73 0) E g (.exit 0) E1 g'/\AccN h b8 g' v' (acc++M)/\g'[b9]?=some (.cells [FV48 b8 b9] true):=by
      intro g2 v2 A2 K2 hnone hsome
      have ag2:=a.grow A2.keep
      have hb92:=K2.2 _ _ hb9 (A.notF hb9 h98)
      have Lo:(Asm.ld1 (.is g2) xi 2 (.slice op x.opn.length zo)).holds Try.prog:=by rw[<- eop];exact ag2.ld1 rfl hxo (by rw[cT hx];rfl)
      have R:=outer_run (ρ:=ρ) (h:=g2) (l:=x.opn) (oa:=op) (za:=zo) (by omega) (fun s' hs'=>a.sh.sc s' (ok.opn w x s' hx hs')) (fun hne=>by
       obtain⟨o,cc,rw,e1,e2,e3⟩:=opn_cells ag2 (f:=0) hx (by omega) (by simpa using hne)
       obtain⟨rfl,rfl⟩:=eop2 o e1
       exact⟨o,0,cc,rw,rfl,rfl,e2,by simpa using e3⟩)
      cases ho:outerO x.opn with
      | none =>
       rw[ho] at R e0
       obtain⟨E2,q1,q2⟩:=hnone g2 ho R Lo rfl
       exact next q1 q2 (by rw[e0];exact A2) hb92
      | some s' =>
       rw[ho] at R e0
       have hp:=first_par W hx hxi ho ok
       obtain⟨yi,hyi⟩:=a.sh.sc s' (plen hp).2
       simp only[inP,hyi,pvv] at R
       have l2:(t.below1 (t.belowG f) w).length=(t.belowG f s').length+1:=by rw[e0];simp
       obtain⟨g3,v3,r3,A3,hb93⟩:=ih s' yi (by have:=(plen hp).1;omega) (plen hp).2 hyi g2 v2 _ A2 hb92 (by
        rw[List.length_append,hacc1,List.length_append]
        simp only[List.length_singleton]
        omega)
       obtain⟨E2,q1,q2⟩:=hsome s' yi g3 ho R Lo (aL hb92 rfl) r3
       refine next (v':=v3) q1 q2 ?_ hb93
       rw[e0]
       simpa using A3
     rcases A.cases with⟨e1,rfl⟩ | ⟨hne,o,rfl,hoo,hlo⟩
     ·rw[e1] at A main next
      obtain⟨A2,K2⟩:=A.appN w
      have D1:(Asm.appNil (.push (.is g) (.cells [.int .i64 ((w+1:Nat):Int)] true)) g.length 0 1 0 1 8 [.int .i64 ((w+1:Nat):Int)] (g.length+1)).holds Try.prog:=a_appGN rfl rfl (by omega) (gW _ _) (pL _ _)
      have D2:(Asm.st (.push (.push (.is g) (.cells [.int .i64 ((w+1:Nat):Int)] true)) (.cells [.int .i64 ((w+1:Nat):Int)] true)) b8 0 [.slice (some ⟨g.length+1,0,none⟩) 1 1] [.slice (some ⟨g.length+1,0,none⟩) 1 1]).holds Try.prog:=a_st (gP (gP A.box)) (by simp) rfl
      refine main _ _ A2 K2 (fun g3 ho R Lo e=>?_) (fun s' yi g3 ho R Lo Lf r3=>?_)
      ·subst e
       obtain⟨E2,q1,q2⟩:=pvC 0 hE (r43p.bm_nn si b8 b9 so y.tks.length 0 i xi g.length (g.length+1) 0 0 0 x.opn.length zo none op i ((i+1:Nat):Int) ((w+1:Nat):Int) [] [.int .i64 ((w+1:Nat):Int)] [.slice (some ⟨g.length+1,0,none⟩) 1 1] g _ g)
        ⟨B1,B2,B3,B4,stat48,B5,B6,rfl,D1,D2,Lo,R,B9,trivial⟩
       exact⟨E2,.trans (.add (.add (.add (.add (.add (.add (.nil _) rfl) rfl) rfl) rfl) rfl) rfl) q1,q2⟩
      ·obtain⟨E2,q1,q2⟩:=pvC 0 hE (r43p.bm_ns si b8 b9 so y.tks.length 0 i xi g.length (g.length+1) 0 0 yi x.opn.length zo none op i ((i+1:Nat):Int) ((w+1:Nat):Int) [] [.int .i64 ((w+1:Nat):Int)] [.slice (some ⟨g.length+1,0,none⟩) 1 1] g _ g3)
        ⟨B1,B2,B3,B4,stat48,B5,B6,rfl,D1,D2,Lo,R,Lf,r3,B9,trivial⟩
       exact⟨E2,.trans (.add (.add (.add (.add (.add (.add (.nil _) rfl) rfl) rfl) rfl) rfl) rfl) q1,q2⟩
     ·obtain⟨A2,K2⟩:=A.appS hoo hlo w
      have lo:=A.lo
      have D1:(Asm.app (.push (.is g) (.cells [.int .i64 ((w+1:Nat):Int)] true)) o 0 acc1.length g.length 0 1 0 1 8 (nmL acc1++[.int .i64 ((w+1:Nat):Int)]) [.int .i64 ((w+1:Nat):Int)] (g.length+1)).holds Try.prog:=a_appGS rfl rfl (by omega) (by omega) (by rw[nmL_len,Nat.mul_one]) (gP hoo) (gW _ _) (pL _ _)
      have D2:(Asm.st (.push (.set (.push (.is g) (.cells [.int .i64 ((w+1:Nat):Int)] true)) o .dead) (.cells (nmL acc1++[.int .i64 ((w+1:Nat):Int)]) true)) b8 0 [.slice (some ⟨g.length+1,0,none⟩) (acc1.length+1) 1] [.slice (some ⟨g.length+1,0,none⟩) (acc1.length+1) 1]).holds Try.prog:=a_st (gP (gNq (gP A.box) (by omega))) (by simp) rfl
      refine main _ _ A2 K2 (fun g3 ho R Lo e=>?_) (fun s' yi g3 ho R Lo Lf r3=>?_)
      ·subst e
       obtain⟨E2,q1,q2⟩:=pvC 0 hE (r43p.bm_sn si b8 b9 so y.tks.length 0 i xi g.length (g.length+1) o acc1.length 0 x.opn.length zo none op i ((i+1:Nat):Int) ((w+1:Nat):Int) (nmL acc1++([.int .i64 ((w+1:Nat):Int)]:List Value)) [.int .i64 ((w+1:Nat):Int)] [.slice (some ⟨g.length+1,0,none⟩) (acc1.length+1) 1] g _ g)
        ⟨B1,B2,B3,B4,stat48,B5,B6,rfl,D1,D2,Lo,R,B9,trivial⟩
       exact⟨E2,.trans (.add (.add (.add (.add (.add (.add (.nil _) rfl) rfl) rfl) rfl) rfl) rfl) q1,q2⟩
      ·obtain⟨E2,q1,q2⟩:=pvC 0 hE (r43p.bm_ss si b8 b9 so y.tks.length 0 i xi g.length (g.length+1) o acc1.length yi x.opn.length zo none op i ((i+1:Nat):Int) ((w+1:Nat):Int) (nmL acc1++([.int .i64 ((w+1:Nat):Int)]:List Value)) [.int .i64 ((w+1:Nat):Int)] [.slice (some ⟨g.length+1,0,none⟩) (acc1.length+1) 1] g _ g3)
        ⟨B1,B2,B3,B4,stat48,B5,B6,rfl,D1,D2,Lo,R,Lf,r3,B9,trivial⟩
       exact⟨E2,.trans (.add (.add (.add (.add (.add (.add (.nil _) rfl) rfl) rfl) rfl) rfl) rfl) q1,q2⟩
  have Ls:(Asm.ld1 (.is g) si 4 (.slice oa y.tks.length za)).holds Try.prog:=by rw[<- ev];exact (a.grow A.keep).ld1 rfl hsi (by rw[cSq hy];rfl)
  obtain⟨E1,g1,v1,w1,w2,A1,hb91⟩:=loop y.tks.length 0 [(14,.int .i64 (0:Nat)),(13,.int .i64 (Int.ofNat y.tks.length)),(12,.slice oa y.tks.length za),(0,ptr si),(1,ptr b8),(2,ptr b9)] g v (by omega) (EnvLe.refl _) (by simpa using A) hb9
  have LP:=a_loop (P:=Try.prog) (n:=67) (rd:=false) (s:=.is g) (s':=.is g1) (x:=.exit 0) (E':=[(0,ptr si),(1,ptr b8),(2,ptr b9)]) (b:=loopN Try.f73 0) (by kernel_rfl) (EnvLe.refl _) w1 w2
  have ag1:=a.grow A1.keep
  obtain⟨ob,zb,eb,eb2⟩:=slv_ex (ρ (.op y.ow)) z.opn.length (fun e=>by rw[a.sh.op _ z hz e];rfl)
  have T1:(Asm.ld1 (.is g1) si 1 (ptr oi)).holds Try.prog:=by
   have:=ag1.ld1 (P:=Try.prog) (s:=.is g1) rfl hsi (d:=1) (v:=pvv (ρ (.tk y.ow))) (by rw[cSq hy];rfl)
   rwa [hoi] at this
  have T2:(Asm.ld1 (.is g1) oi 2 (.slice ob z.opn.length zb)).holds Try.prog:=by rw[<- eb];exact ag1.ld1 rfl hoi (by rw[cT hz];rfl)
  by_cases hin:some s∈z.opn
  ·have R44:=indexS_run ag1 hz hsi (fun s' hs'=>ok.opn _ z s' hz hs') (by omega) hin eb
   have ixl:=ixO_lt hin
   have hnext:t.next s=outerO (z.opn.drop (ixO (some s) z.opn+1)):=by simp only[TS.next,hy,hz,hin,if_true]
   obtain⟨oo,cc,rw',e1,e2,_⟩:=opn_cells ag1 (f:=ixO (some s) z.opn) hz (by omega) (by simp;omega)
   obtain⟨rfl,rfl⟩:=eb2 oo e1
   have R49:=outer_run (ρ:=ρ) (h:=g1) (l:=z.opn.drop (ixO (some s) z.opn+1)) (oa:=some ⟨oo,0+(ixO (some s) z.opn+1)*1,none⟩) (za:=1) (by simp;omega) (fun s' hs'=>a.sh.sc s' (ok.opn _ z s' hz (List.mem_of_mem_drop hs'))) (fun hne=>by
    obtain⟨o,cc,rw,e1',e2,e3⟩:=opn_cells ag1 (f:=ixO (some s) z.opn+1) hz (by omega) hne
    rw[e1] at e1';cases e1'
    exact⟨oo,_,cc,rw,rfl,rfl,e2,fun i v hv=>by rw[Nat.zero_add,Nat.mul_one];exact e3 i v hv⟩)
   rw[List.length_drop,<- hnext] at R49
   have N1:(Asm.arith .add .i64 ((ixO (some s) z.opn:Nat):Int) 1 (Int.ofNat (ixO (some s) z.opn+1))).holds Try.prog:=addI (by simp) (by simp only[Int.ofNat_eq_natCast];omega) (by simp only[Int.ofNat_eq_natCast];omega)
   have N2:(Asm.cut (some (.int .i64 (Int.ofNat (ixO (some s) z.opn+1)))) none z.opn.length (ixO (some s) z.opn+1) z.opn.length).holds Try.prog:=a_cut3 (by omega)
   cases hn:t.next s with
   | none =>
    rw[hn] at R49
    exact⟨g1,v1,pvF 0 Try.func73 (r43p.bw_nil si b8 b9 y.tks.length za z.opn.length 0 oo oi 0 (ixO (some s) z.opn+1) 0 oa none ((ixO (some s) z.opn:Nat):Int) 0 g g1 g1 g1 g1)
     ⟨Ls,a_loop (by kernel_rfl) (.add (.add (.add (.add (.add (.add (.nil _) rfl) rfl) rfl) rfl) rfl) rfl) w1 w2,T1,T2,R44,ltF (by omega),T1,T2,N1,N2,R49,trivial⟩,by rw[List.append_nil];exact A1,hb91⟩
   | some s' =>
    rw[hn] at R49 hlen
    have hp:=next_par W hn ok
    obtain⟨yi,hyi⟩:=a.sh.sc s' (plen hp).2
    simp only[inP,hyi,pvv] at R49
    simp only at hlen
    obtain⟨g3,v3,r3,A3,hb93⟩:=ih s' yi (by have:=(plen hp).1;omega) (plen hp).2 hyi g1 v1 _ A1 hb91 (by rw[List.length_append];omega)
    exact⟨g3,v3,pvF 0 Try.func73 (r43p.bw_go si b8 b9 y.tks.length za z.opn.length 0 oo oi yi (ixO (some s) z.opn+1) 0 oa none ((ixO (some s) z.opn:Nat):Int) 0 g g1 g1 g1 g3)
     ⟨Ls,a_loop (by kernel_rfl) (.add (.add (.add (.add (.add (.add (.nil _) rfl) rfl) rfl) rfl) rfl) rfl) w1 w2,T1,T2,R44,ltF (by omega),T1,T2,N1,N2,R49,aL hb91 rfl,r3,trivial⟩,by rw[<- List.append_assoc];exact A3,hb93⟩
  ·have R44:=indexS_none ag1 hz hsi (fun s' hs'=>ok.opn _ z s' hz hs') (by omega) hin eb
   have hn:t.next s=none:=by simp only[TS.next,hy,hz,hin,if_false]
   rw[hn]
   exact⟨g1,v1,pvF 0 Try.func73 (r43p.bw_abs si b8 b9 y.tks.length za z.opn.length zb 0 oi 0 0 0 oa ob (Int.negSucc 0) 0 g g1 g1 g1 g1)
    ⟨Ls,a_loop (by kernel_rfl) (.add (.add (.add (.add (.add (.add (.nil _) rfl) rfl) rfl) rfl) rfl) rfl) w1 w2,T1,T2,R44,ltT (by decide),trivial⟩,by rw[List.append_nil];exact A1,hb91⟩
def TS.below(t:TS)(n:Int):List Nat×Int:=match t.scope n with
 | (none,e)=>([],e)
 | (some s,_)=>(t.belowG t.scs.length s,0)
theorem below_run(a:TAt h ρ t)(ok:TOk c t)(hc:c<=1000)(W:WI none t)(J:WJ t)(hr:ρ .root=some r)(n:Int) :
  ∃ v h',Run Try.prog 47 [ptr r,.int .i64 n] h (.tuple #[v,.int .i64 (t.below n).2]) h'/\Keep (fun _=>False) h h'/\SlV h' h.length v (t.below n).1.length 1 (nmL (t.below n).1):=by
 have R:=scope_run a ok hr n
 rcases hq:t.scope n with⟨s | s,e⟩
 ·have e6:=scope_none hq
  subst e6
  rw[hq] at R
  have e':t.below n=([],6):=by simp only[TS.below,hq]
  rw[e']
  exact⟨_,h,pvF 0 Try.func47 (r43p.bl_err r 0 0 0 0 0 none n 6 h h h) ⟨R,neT (by omega),trivial⟩,Keep.refl _ _,.inl ⟨rfl,rfl,rfl⟩⟩
 ·obtain⟨rfl,hn,hs⟩:=scope_some hq
  obtain⟨si,hsi⟩:=a.sh.sc s hs
  rw[hq] at R
  simp only[inP,hsi,pvv] at R
  have e':t.below n=(t.belowG t.scs.length s,0):=by simp only[TS.below,hq]
  rw[e']
  obtain⟨g2,hg2⟩:∃ g2,g2=((h++[AObj.cells [.slice none 0 0] true])++[AObj.cells [.nilFunc] true]).set (h.length+1) (.cells [FV48 h.length (h.length+1)] true):=⟨_,rfl⟩
  have l1:=pL h (AObj.cells [.slice none 0 0] true)
  have K2:Keep (fun _=>False) h g2:=by rw[hg2];exact (((Keep.refl _ h).pushN _).pushN _).setN (by omega) _
  have hb8:g2[h.length]?=some (.cells [.slice none 0 0] true):=by rw[hg2];exact gNq (gP (gW _ _)) (by omega)
  have hb9:g2[h.length+1]?=some (.cells [FV48 h.length (h.length+1)] true):=by rw[hg2];exact gE (gV _ l1)
  have A0:AccN h h.length g2 (.slice none 0 0) []:=⟨K2,Nat.le_refl _,hb8,.inl ⟨rfl,rfl,rfl⟩⟩
  have bl:=below_len ok W J hs
  obtain⟨g3,v3,r3,A3,hb93⟩:=below_walk a ok hc W J (b8:=h.length) (b9:=h.length+1) (by omega) t.scs.length s si (by omega) hs hsi g2 _ [] A0 hb9 (by simp;omega)
  rw[List.nil_append] at A3
  obtain⟨oa,la,za,ev⟩:∃ oa la za,v3=.slice oa la za:=by rcases A3.cases with⟨_,e⟩ | ⟨_,w,e,_⟩<;>exact⟨_,_,_,e⟩
  subst ev
  rw[hg2] at r3
  exact⟨_,g3,pvF 0 Try.func47 (r43p.bl_ok r si h.length (h.length+1) la za oa n 0 h h g3) ⟨R,neF rfl,rfl,l1,a_st (gV _ l1) (by simp) rfl,aL (gE (gV _ l1)) rfl,r3,aL A3.box rfl,trivial⟩,A3.keep,A3.sl.mono (by omega)⟩
end
end Go.Proofs.Ytlonjogfeidgfaa.tr
namespace Go.Proofs.Ytlonjogfeidgfaa.gr
open Go Go.Ev Go.Proofs.Ytlonjogfeidgfaa.tr
set_option maxRecDepth 100000
set_option linter.unusedVariables false
set_option linter.constructorNameAsVariable false
structure GS where
 t:TS
 tm:List Int
 sm:List Int
 du:List Pr
structure GL where
 g:Nat
 m:Nat
 n:Nat
 d:Option Nat
def mks(l:List Int):List (Value×Value):=l.map fun n=>(.int .i64 n,.bool true)
def slw:Option Nat->Nat->Value
 | some i,n=>.slice (some ⟨i,0,none⟩) n 2
 | none,_=>.slice none 0 0
structure GAt(h:Hp)(ρ:Lay)(γ:GL)(x:GS):Prop where
 tat:TAt h ρ x.t
 obj:h[γ.g]?=some (.cells [pvv (ρ .root),.map (some γ.m),.map (some γ.n),slw γ.d x.du.length] true)
 tmo:h[γ.m]?=some (.mp (mks x.tm))
 smo:h[γ.n]?=some (.mp (mks x.sm))
 duo:∀ d,γ.d=some d->∃ junk,h[d]?=some (.cells (prL x.du++junk) true)
 dun:γ.d=none->x.du=[]
 fg:¬ fpT ρ γ.g
 fm:¬ fpT ρ γ.m
 fn:¬ fpT ρ γ.n
 fd:∀ d,γ.d=some d->¬ fpT ρ d
 mn:γ.m≠γ.n
 gd:γ.d≠some γ.g
def fpG(ρ:Lay)(γ:GL)(q:Nat):Prop:=fpT ρ q\/q=γ.g\/q=γ.m\/q=γ.n\/γ.d=some q
structure GStep(ρ:Lay)(γ:GL)(h:Hp)(ρ':Lay)(γ':GL)(h':Hp):Prop where
 keep:Keep (fpG ρ γ) h h'
 new:∀ q,fpG ρ' γ' q->fpG ρ γ q\/h.length<=q
 g:γ'.g=γ.g
section
variable {h h' g:Hp} {ρ ρ' ρ1:Lay} {γ γ' γ1:GL} {x:GS} {t':TS} {c:Nat}
theorem GStep.refl(ρ:Lay)(γ:GL)(h:Hp):GStep ρ γ h ρ γ h:=⟨Keep.refl _ _,fun _ e=>.inl e,rfl⟩
theorem GStep.trans{h1 h2:Hp}{ρ2:Lay}{γ2:GL}(a:GStep ρ γ h ρ1 γ1 h1)(b:GStep ρ1 γ1 h1 ρ2 γ2 h2):GStep ρ γ h ρ2 γ2 h2 :=
 ⟨a.keep.trans_new b.keep fun q hq e=>(a.new q e).elim id fun e=>by omega,
  fun q e=>(b.new q e).elim (a.new q) fun e=>.inr (Nat.le_trans a.keep.1 e),b.g.trans a.g⟩
theorem GStep.grow(K:Grow h h'):GStep ρ γ h ρ γ h':=⟨K.mono fun _ _ e=>e.elim,fun _ e=>.inl e,rfl⟩
theorem GAt.keep{fp:Nat->Prop}(a:GAt h ρ γ x)(K:Keep fp h h')(hf:∀ q,fp q->¬ fpG ρ γ q):GAt h' ρ γ x :=
 ⟨a.tat.keep K fun q e f=>hf q e (.inl f),K.2 _ _ a.obj fun e=>hf _ e (.inr (.inl rfl)),K.2 _ _ a.tmo fun e=>hf _ e (.inr (.inr (.inl rfl))),
  K.2 _ _ a.smo fun e=>hf _ e (.inr (.inr (.inr (.inl rfl)))),fun d e=>let ⟨j,hj⟩:=a.duo d e;⟨j,K.2 _ _ hj fun f=>hf _ f (.inr (.inr (.inr (.inr e))))⟩,a.dun,a.fg,a.fm,a.fn,a.fd,a.mn,a.gd⟩
theorem GAt.grow(a:GAt h ρ γ x)(K:Grow h h'):GAt h' ρ γ x:=a.keep K fun q e=>e.elim
theorem GAt.root(a:GAt h ρ γ x):∃ r,ρ .root=some r:=a.tat.sh.root
theorem GAt.tree(a:GAt h ρ γ x)(S:Step ρ h ρ' h')(b:TAt h' ρ' t'):GAt h' ρ' γ { x with t:=t' }:=by
 have out:∀ q,q<h.length->¬ fpT ρ q->¬ fpT ρ' q:=fun q hq hn e=>(S.new q e).elim hn fun e=>by omega
 refine⟨b,?_,S.keep.2 _ _ a.tmo a.fm,S.keep.2 _ _ a.smo a.fn,fun d e=>?_,a.dun,out _ (get_lt a.obj) a.fg,out _ (get_lt a.tmo) a.fm,out _ (get_lt a.smo) a.fn,fun d e=>?_,a.mn,a.gd⟩
 ·rw[S.root];exact S.keep.2 _ _ a.obj a.fg
 ·obtain⟨j,hj⟩:=a.duo d e
  exact⟨j,S.keep.2 _ _ hj (a.fd d e)⟩
 ·obtain⟨j,hj⟩:=a.duo d e
  exact out _ (get_lt hj) (a.fd d e)
theorem GStep.tree(S:Step ρ h ρ' h'):GStep ρ γ h ρ' γ h' :=
 ⟨S.keep.mono fun _ _ e=>.inl e,fun q e=>e.elim (fun e=>(S.new q e).elim (fun e=>.inl (.inl e)) .inr) fun e=>.inl (.inr e),rfl⟩
theorem tree_run(a:GAt h ρ γ x){r:Nat}(hr:ρ .root=some r):Run Try.prog 45 [ptr γ.g] h (ptr r) h:=by
 have:=a.obj
 rw[hr] at this
 exact pvF 0 Try.func45 (c1p.tr γ.g r h) ⟨aL this rfl,trivial⟩
theorem rootG_run(a:GAt h ρ γ x)(ok:TOk c x.t)(hc:c<=100000) :
  ∃ ρ' h',Run Try.prog 41 [ptr γ.g] h (.tuple #[.int .i64 x.t.root.2.1,.int .i64 x.t.root.2.2]) h'/\GAt h' ρ' γ { x with t:=x.t.root.1 }/\GStep ρ γ h ρ' γ h':=by
 obtain⟨r,hr⟩:=a.root
 obtain⟨ρ',h',q1,q2,q3⟩:=root_run a.tat ok hc hr
 exact⟨ρ',h',pvF 0 Try.func41 (c1p.ro γ.g r _ _ h h') ⟨tree_run a hr,q1,trivial⟩,a.tree q3 q2,.tree q3⟩
theorem shieldG_run(a:GAt h ρ γ x)(ok:TOk c x.t)(hc:c<=100000)(n:Int) :
  ∃ ρ' h',Run Try.prog 26 [ptr γ.g,.int .i64 n] h (.int .i64 (x.t.shield n).2) h'/\GAt h' ρ' γ { x with t:=(x.t.shield n).1 }/\GStep ρ γ h ρ' γ h':=by
 obtain⟨r,hr⟩:=a.root
 obtain⟨ρ',h',q1,q2,q3⟩:=shield_run a.tat ok hc hr n
 exact⟨ρ',h',pvF 0 Try.func26 (c1p.sh γ.g r n _ h h') ⟨tree_run a hr,q1,trivial⟩,a.tree q3 q2,.tree q3⟩
theorem unveilG_run(a:GAt h ρ γ x)(ok:TOk c x.t)(hc:c<=100000)(n:Int) :
  ∃ ρ' h',Run Try.prog 27 [ptr γ.g,.int .i64 n] h (.int .i64 (x.t.unveil n).2) h'/\GAt h' ρ' γ { x with t:=(x.t.unveil n).1 }/\GStep ρ γ h ρ' γ h':=by
 obtain⟨r,hr⟩:=a.root
 obtain⟨ρ',h',q1,q2,q3⟩:=unveil_run a.tat ok hc hr n
 exact⟨ρ',h',pvF 0 Try.func27 (c1p.un γ.g r n _ h h') ⟨tree_run a hr,q1,trivial⟩,a.tree q3 q2,.tree q3⟩
theorem spawnG_run(a:GAt h ρ γ x)(ok:TOk c x.t)(hc:c<=100000)(n:Int) :
  ∃ ρ' h',Run Try.prog 37 [ptr γ.g,.int .i64 n] h (.tuple #[.int .i64 (x.t.spawn n).2.1,.int .i64 (x.t.spawn n).2.2]) h'/\GAt h' ρ' γ { x with t:=(x.t.spawn n).1 }/\GStep ρ γ h ρ' γ h':=by
 obtain⟨r,hr⟩:=a.root
 obtain⟨ρ',h',q1,q2,q3⟩:=spawn_run a.tat ok hc hr n
 exact⟨ρ',h',pvF 0 Try.func37 (c1p.sp γ.g r n _ _ h h') ⟨tree_run a hr,q1,trivial⟩,a.tree q3 q2,.tree q3⟩
def GS.roots(n:Nat):GS:=⟨TS.roots n,[],[],[]⟩
theorem newG_low{n:Int}(h:Hp)(hn:n<1\/64<n):Run Try.prog 10 [.int .i64 n] h (.tuple #[.pointer none,.int .i64 2]) h :=
 pvF 0 Try.func10 (c1p.ne_low n 2 h h) ⟨new_low h hn,neT (by omega),trivial⟩
theorem newG_run{n:Nat}(h:Hp)(h1:1<=n)(hn:n<=64):∃ ρ γ h',Run Try.prog 10 [.int .i64 (n:Int)] h (.tuple #[ptr γ.g,.int .i64 0]) h'/\GAt h' ρ γ (GS.roots n)/\Grow h h'/\∀ q,fpG ρ γ q->h.length<=q:=by
 obtain⟨b,ρ,g,q1,q2,q3⟩:=new_run h h1 hn
 have K:Grow g (g++[.mp []]++[.mp []]++[.cells [ptr b,.map (some g.length),.map (some (g.length+1)),.slice none 0 0] true]):=(((Grow.refl g).push _).push _).push _
 have lt:=q3.keep.1
 have out:∀ q,g.length<=q->¬ fpT ρ q:=fun q hq ⟨r,e⟩=>by have:=q2.lt e;omega
 refine⟨ρ,⟨g.length+2,g.length,g.length+1,none⟩,_,pvF 0 Try.func10 (c1p.ne_ok (n:Int) b g.length (g.length+1) (g.length+2) h g) ⟨q1,neF rfl,rfl,by simp[Asm.holds,SH.den],by simp[Asm.holds,SH.den],trivial⟩,
  ⟨q2.grow K,?_,gP (gP (gW _ _)),gP (gV _ (pL _ _)),fun d e=>by simp at e,fun _=>rfl,out _ (by simp),out _ (by simp),out _ (by simp),fun d e=>by simp at e,by simp,by simp⟩,q3.keep.trans K,fun q e=>?_⟩
 ·rw[q3.root];exact gV _ ((pL _ _).trans (congrArg (·+1) (pL _ _)))
 ·rcases e with e | e | e | e | e
  ·exact q3.new q e
  ·subst e;simp;omega
  ·subst e;simp;omega
  ·subst e;simp;omega
  ·simp at e
end
end Go.Proofs.Ytlonjogfeidgfaa.gr
namespace Go.Proofs.Ytlonjogfeidgfaa.gr
open Go Go.Ev Go.Proofs.Ytlonjogfeidgfaa.tr
set_option maxRecDepth 100000
set_option linter.unusedVariables false
set_option linter.constructorNameAsVariable false
theorem und84:Try.prog.underlying 84=some (.map 3 4):=by kernel_rfl
theorem und3:Try.prog.underlying 3=some (.int .i64):=by kernel_rfl
theorem zer4:zeroO Try.prog 4=some (.bool false):=by kernel_rfl
theorem findMk(k:Int):∀ (l:List Int) (i:Nat),(k∈l->∃ j,Instr.findNow (.int .i64) (.int .i64 k) (mpE (mks l)) i=some (some (j,.bool true)))/\(k∉l->Instr.findNow (.int .i64) (.int .i64 k) (mpE (mks l)) i=some none)
 | [],i=>⟨fun h=>(by cases h),fun _=>rfl⟩
 | x::l,i=>by
  have ih:=findMk k l (i+1)
  by_cases e:k=x
  ·subst e
   exact⟨fun _=>⟨i,by simp[mks,mpE,Instr.findNow,Instr.sameNow]⟩,fun h=>absurd (List.mem_cons_self) h⟩
  ·have step:Instr.findNow (.int .i64) (.int .i64 k) (mpE (mks (x::l))) i=Instr.findNow (.int .i64) (.int .i64 k) (mpE (mks l)) (i+1):=by
    have hb:(k==x)=false:=by simpa using e
    simp only[mks,mpE,List.map_cons,Instr.findNow,Instr.sameNow,if_true,hb]
   rw[step]
   exact⟨fun h=>ih.1 ((List.mem_cons.1 h).resolve_left e),fun h=>ih.2 fun q=>h (List.mem_cons_of_mem _ q)⟩
theorem mk_keys(l:List Int):(mks l).all (fun x=>isKeyB (.int .i64) x.1)=true:=List.all_eq_true.2 fun y hy=>by
 simp only[mks,List.mem_map] at hy
 obtain⟨a,_,rfl⟩:=hy
 rfl
theorem mpFind_mk(k:Int)(l:List Int):(k∈l->∃ j,mpFind Try.prog 3 (mks l) (.int .i64 k)=some (some (j,.bool true)))/\(k∉l->mpFind Try.prog 3 (mks l) (.int .i64 k)=some none):=by
 have e:mpFind Try.prog 3 (mks l) (.int .i64 k)=Instr.findNow (.int .i64) (.int .i64 k) (mpE (mks l)) 0:=by
  have:(isKeyB (.int .i64) (.int .i64 k)&&(mks l).all (fun x=>isKeyB (.int .i64) x.1))=true:=by rw[mk_keys];rfl
  simp only[mpFind,und3,this]
 rw[e];exact findMk k l 0
theorem a_lk{s:SH}{m:Nat}{l:List Int}{k:Int}(h:s.den[m]?=some (.mp (mks l))):(Asm.lk s 84 (.map (some m)) (.int .i64 k) false (.bool (decide (k∈l)))).holds Try.prog:=by
 have hm:mpAt s.den m=some (mks l):=by simp[mpAt,h]
 by_cases e:k∈l
 ·obtain⟨j,hj⟩:=(mpFind_mk k l).1 e
  simp[Asm.holds,evLookup,und84,hm,hj,e]
 ·have hj:=(mpFind_mk k l).2 e
  simp[Asm.holds,evLookup,und84,hm,hj,e,zer4,ground]
theorem a_lkT{s:SH}{m:Nat}{l:List Int}{k:Int}(h:s.den[m]?=some (.mp (mks l)))(e:k∈l):(Asm.lk s 84 (.map (some m)) (.int .i64 k) false (.bool true)).holds Try.prog:=by
 have:=a_lk (k:=k) h;rwa [decide_eq_true e] at this
theorem a_lkF{s:SH}{m:Nat}{l:List Int}{k:Int}(h:s.den[m]?=some (.mp (mks l)))(e:k∉l):(Asm.lk s 84 (.map (some m)) (.int .i64 k) false (.bool false)).holds Try.prog:=by
 have:=a_lk (k:=k) h;rwa [decide_eq_false e] at this
theorem a_mup{s:SH}{m:Nat}{l:List Int}{k:Int}(h:s.den[m]?=some (.mp (mks l)))(e:k∉l):(Asm.mup s 84 (.map (some m)) (.int .i64 k) (.bool true) m (mks (l++[k]))).holds Try.prog:=by
 have hm:mpAt s.den m=some (mks l):=by simp[mpAt,h]
 have hj:=(mpFind_mk k l).2 e
 have e1:mks (l++[k])=mks l++[(.int .i64 k,.bool true)]:=by simp[mks]
 simp[Asm.holds,evMapUpdate,und84,hm,hj,ground,e1]
def pendD(tm sm:List Int)(p:Pr):Option Bool:=if p.1=3 then some false else if p.1=1/\p.2∈tm then some true else if p.1=2/\p.2∈sm then some true else none
def pendL(tm sm:List Int):List Pr->Bool
 | []=>false
 | p::l=>match pendD tm sm p with
  | some b=>b
  | none=>pendL tm sm l
def GS.pend(x:GS)(n:Int):Bool:=pendL x.tm x.sm (x.t.chain n).1
theorem stat22(k:Nat)(hk:k=0\/k=1):(Asm.stat (drawN Try.f22 k)).holds Try.prog:=by
 rcases hk with rfl | rfl
 ·exact show statOk (drawN Try.f22 0)=true by kernel_rfl
 ·exact show statOk (drawN Try.f22 1)=true by kernel_rfl
section
variable {h h' g:Hp} {ρ ρ' ρ1:Lay} {γ γ' γ1:GL} {x:GS} {t':TS} {c:Nat}
theorem pend_loop(a:GAt h ρ γ x){l:List Pr}{o:Nat}(ho:h[o]?=some (.cells (prL l) true))(hl:l.length<=1000000):∀ (m:List Pr) (j:Nat) (E:Env) (g:Hp),l.drop j=m->Grow h g ->
  EnvLe [(18,.int .i64 (Int.ofNat j)),(17,.int .i64 (Int.ofNat l.length)),(16,.slice (some ⟨o,0,none⟩) l.length 2),(0,ptr γ.g)] E ->
  ∃ E1 g1,Grow g g1/\((EnvLe [(4,.bool (pendL x.tm x.sm m))] E1/\LRun Try.prog 52 false (loopN Try.f22 0) E g .ret E1 g1)\/(pendL x.tm x.sm m=false/\LRun Try.prog 52 false (loopN Try.f22 0) E g (.exit 0) E1 g1))
 | [],j,E,g,hm,K,hE=>by
  have hj:l.length<=j:=List.drop_eq_nil_iff.1 hm
  obtain⟨E1,q1,q2⟩:=pvC 0 (.trans (.add (.add (.nil _) rfl) rfl) hE) (c1p.pl_out (Int.ofNat j) (Int.ofNat l.length) g) ⟨ltF (by simp only[Int.ofNat_eq_natCast];omega),trivial⟩
  exact⟨E1,g,.refl g,.inr ⟨rfl,.last q2 (by simp)⟩⟩
 | p::m,j,E,g,hm,K,hE=>by
  have hj:l[j]?=some p:=by rw[<- List.head?_drop,hm];rfl
  have hlt:=gT hj
  have hm':l.drop (j+1)=m:=by rw[<- List.drop_drop,hm];rfl
  obtain⟨k,n⟩:=p
  have ag:=a.grow K
  have hc:g[o]?=some (.cells (prL l) true):=K.get ho
  have L:=prL_at [] hj
  rw[List.append_nil] at L
  have A1:(Asm.cmp .lss (Int.ofNat j) (Int.ofNat l.length) true).holds Try.prog:=ltT (by simp only[Int.ofNat_eq_natCast];omega)
  have A2:(Asm.off (j*2) 0 (Int.ofNat j) l.length 2).holds Try.prog:=offI rfl hlt (by omega)
  have A3:(Asm.ldn (.is g) o (j*2) 2 [.int .i64 k,.int .i64 n]).holds Try.prog:=aN hc (by rw[prL_len];omega) L
  obtain⟨g2,hg2⟩:∃ g2,g2=(g++[AObj.cells [.int .i64 0,.int .i64 0] true]).set g.length (.cells [.int .i64 k,.int .i64 n] true):=⟨_,rfl⟩
  have K2:Grow g g2:=by rw[hg2];exact ((Grow.refl g).push _).set (Nat.le_refl _) _
  have bx:g2[g.length]?=some (.cells [.int .i64 k,.int .i64 n] true):=by rw[hg2];exact gE (gW _ _)
  have A4:(Asm.st (.push (.is g) (.cells [.int .i64 0,.int .i64 0] true)) g.length 0 [.int .i64 k,.int .i64 n] [.int .i64 k,.int .i64 n]).holds Try.prog:=a_st (gW _ _) (by simp) rfl
  obtain⟨s2,hs2⟩:∃ s2:SH,s2=.set (.push (.is g) (.cells [.int .i64 0,.int .i64 0] true)) g.length (.cells [.int .i64 k,.int .i64 n] true):=⟨_,rfl⟩
  have den2:s2.den=g2:=by rw[hs2,hg2];rfl
  have X:(Asm.ld1 s2 g.length 0 (.int .i64 k)).holds Try.prog:=aL (by rw[den2];exact bx) rfl
  have Y:(Asm.ld1 s2 g.length 1 (.int .i64 n)).holds Try.prog:=aL (by rw[den2];exact bx) rfl
  have og:=(ag.grow K2)
  have M1:(Asm.ld1 s2 γ.g 1 (.map (some γ.m))).holds Try.prog:=aL (by rw[den2];exact og.obj) rfl
  have M2:(Asm.ld1 s2 γ.g 2 (.map (some γ.n))).holds Try.prog:=aL (by rw[den2];exact og.obj) rfl
  have T1:s2.den[γ.m]?=some (.mp (mks x.tm)):=by rw[den2];exact og.tmo
  have T2:s2.den[γ.n]?=some (.mp (mks x.sm)):=by rw[den2];exact og.smo
  have N1:(Asm.arith .add .i64 (Int.ofNat j) 1 (Int.ofNat (j+1))).holds Try.prog:=addI (by simp only[Int.ofNat_eq_natCast];omega) (by simp only[Int.ofNat_eq_natCast];omega) (by simp only[Int.ofNat_eq_natCast];omega)
  subst hs2
  have go:∀ {E1:Env} {s:SH} {h2:Hp},h2=g2->pendD x.tm x.sm (k,n)=none->EnvLe [(18,.int .i64 (Int.ofNat (j+1))),(17,.int .i64 (Int.ofNat l.length)),(16,.slice (some ⟨o,0,none⟩) l.length 2),(0,ptr γ.g)] E1 ->
    CRun Try.prog 52 false (loopN Try.f22 0) E g .normal E1 h2 ->
    ∃ E1 g1,Grow g g1/\((EnvLe [(4,.bool (pendL x.tm x.sm ((k,n)::m)))] E1/\LRun Try.prog 52 false (loopN Try.f22 0) E g .ret E1 g1)\/(pendL x.tm x.sm ((k,n)::m)=false/\LRun Try.prog 52 false (loopN Try.f22 0) E g (.exit 0) E1 g1)):=by
   intro E1 s h2 e0 hd hE1 hc1
   subst e0
   have e:pendL x.tm x.sm ((k,n)::m)=pendL x.tm x.sm m:=by simp only[pendL,hd]
   rw[e]
   obtain⟨E2,g3,K3,q⟩:=pend_loop a ho hl m (j+1) E1 h2 hm' (K.trans K2) hE1
   exact⟨E2,g3,K2.trans K3,q.elim (fun q=>.inl ⟨q.1,.step hc1 q.2⟩) fun q=>.inr ⟨q.1,.step hc1 q.2⟩⟩
  by_cases k3:k=3
  ·have e:pendL x.tm x.sm ((k,n)::m)=false:=by simp[pendL,pendD,k3]
   obtain⟨E1,q1,q2⟩:=pvC 0 hE (c1p.pl_sh γ.g o l.length j (j*2) g.length 0 0 k n 0 false false g) ⟨A1,A2,A3,rfl,A4,X,eqT k3,trivial⟩
   rw[e]
   exact⟨E1,g2,K2,.inl ⟨.trans (.add (.nil _) rfl) q1,.last (by rw[hg2];exact q2) (by simp)⟩⟩
  ·by_cases k1:k=1
   ·by_cases hn:n∈x.tm
    ·have e:pendL x.tm x.sm ((k,n)::m)=true:=by simp[pendL,pendD,k3,k1,hn]
     obtain⟨E1,q1,q2⟩:=pvC 0 hE (c1p.pl_t1 γ.g o l.length j (j*2) g.length γ.m 0 k n 0 false false g) ⟨A1,A2,A3,rfl,A4,X,eqF k3,stat22 0 (by simp),X,eqT k1,M1,Y,a_lkT T1 hn,trivial⟩
     rw[e]
     exact⟨E1,g2,K2,.inl ⟨.trans (.add (.nil _) rfl) q1,.last (by rw[hg2];exact q2) (by simp)⟩⟩
    ·obtain⟨E1,q1,q2⟩:=pvC 0 hE (c1p.pl_t0 γ.g o l.length j (j*2) g.length γ.m 0 k n (Int.ofNat (j+1)) false false g) ⟨A1,A2,A3,rfl,A4,X,eqF k3,stat22 0 (by simp),X,eqT k1,M1,Y,a_lkF T1 hn,stat22 1 (by simp),X,eqF (by omega),N1,trivial⟩
     exact go (s:=.is g) hg2.symm (by simp[pendD,k3,k1,hn]) (.trans (.add (.add (.add (.add (.nil _) rfl) rfl) rfl) rfl) q1) q2
   ·by_cases k2:k=2
    ·by_cases hn:n∈x.sm
     ·have e:pendL x.tm x.sm ((k,n)::m)=true:=by simp[pendL,pendD,k2,hn]
      obtain⟨E1,q1,q2⟩:=pvC 0 hE (c1p.pl_s1 γ.g o l.length j (j*2) g.length 0 γ.n k n 0 false false g) ⟨A1,A2,A3,rfl,A4,X,eqF k3,stat22 0 (by simp),X,eqF k1,stat22 1 (by simp),X,eqT k2,M2,Y,a_lkT T2 hn,trivial⟩
      rw[e]
      exact⟨E1,g2,K2,.inl ⟨.trans (.add (.nil _) rfl) q1,.last (by rw[hg2];exact q2) (by simp)⟩⟩
     ·obtain⟨E1,q1,q2⟩:=pvC 0 hE (c1p.pl_s0 γ.g o l.length j (j*2) g.length 0 γ.n k n (Int.ofNat (j+1)) false false g) ⟨A1,A2,A3,rfl,A4,X,eqF k3,stat22 0 (by simp),X,eqF k1,stat22 1 (by simp),X,eqT k2,M2,Y,a_lkF T2 hn,N1,trivial⟩
      exact go (s:=.is g) hg2.symm (by simp[pendD,k2,hn]) (.trans (.add (.add (.add (.add (.nil _) rfl) rfl) rfl) rfl) q1) q2
    ·obtain⟨E1,q1,q2⟩:=pvC 0 hE (c1p.pl_no γ.g o l.length j (j*2) g.length 0 0 k n (Int.ofNat (j+1)) false false g) ⟨A1,A2,A3,rfl,A4,X,eqF k3,stat22 0 (by simp),X,eqF k1,stat22 1 (by simp),X,eqF k2,N1,trivial⟩
     exact go (s:=.is g) hg2.symm (by simp[pendD,k3,k1,k2]) (.trans (.add (.add (.add (.add (.nil _) rfl) rfl) rfl) rfl) q1) q2
theorem plain22:plainC (loopN Try.f22 0)=true:=by kernel_rfl
theorem chainG_len{t:TS}(ok:TOk c t):∀ f k top,(t.chainG f k top).length<=f*(c+2)
 | 0,k,top=>by simp[TS.chainG]
 | f+1,k,top=>by
  rw[TS.chainG]
  split
  ·simp
  ·rename_i y hy
   have hl:=ok.len k y hy
   have e:(f+1)*(c+2)=f*(c+2)+(c+2):=Nat.succ_mul _ _
   have h1:((y.opn.take top).reverse.map lkP).length<=c:=by simp;omega
   rw[List.length_append,List.length_append,List.length_singleton]
   split
   ·simp only[List.length_nil];omega
   ·rename_i s hs
    split
    ·simp only[List.length_nil];omega
    ·split
     ·simp only[List.length_nil];omega
     ·rename_i y2 hy2 _ z hz
      have:=chainG_len ok f y2.ow (ixO (some s) z.opn)
      rw[List.length_cons];omega
theorem chain_lim{t:TS}(ok:TOk c t)(hc:c<=1000)(n:Int):(t.chain n).1.length<=100000:=by
 rcases hq:t.runs n with⟨k | k,e⟩
 ·simp only[TS.chain,hq,List.length_nil];omega
 ·obtain⟨_,_,y,hy,_⟩:=runs_some hq
  have n64:=ok.n64
  have hk:=gT hy
  simp only[TS.chain,hq,hy]
  have:=chainG_len ok (k+1) k y.opn.length
  have h2:(k+1)*(c+2)<=64*1002:=Nat.mul_le_mul (by omega) (by omega)
  omega
theorem pend_run(a:GAt h ρ γ x)(ok:TOk c x.t)(hc:c<=1000)(W:WI none x.t)(n:Int) :
  ∃ h',Run Try.prog 22 [ptr γ.g,.int .i64 n] h (.bool (x.pend n)) h'/\Grow h h':=by
 obtain⟨r,hr⟩:=a.root
 obtain⟨v,g,q1,K,sv⟩:=chain_run a.tat ok hc W hr n
 have lim:(x.t.chain n).1.length<=1000000:=Nat.le_trans (chain_lim ok hc n) (by omega)
 rcases sv with⟨s1,s2,rfl⟩ | ⟨s1,s2,o,rfl,ho,_⟩
 ·have e0:(x.t.chain n).1=[]:=List.length_eq_zero_iff.1 s1
  have e:x.pend n=false:=by simp only[GS.pend,e0,pendL]
  rw[e]
  obtain⟨E1,p1,p2⟩:=pvC 0 (EnvLe.refl [(18,.int .i64 0),(17,.int .i64 0)]) (c1p.pl_out 0 0 g) ⟨ltF (Int.le_refl _),trivial⟩
  exact⟨g,pvF 0 Try.func22 (c1p.pe_nil γ.g r n (x.t.chain n).2 [] h g) ⟨tree_run a hr,q1,a_loop plain22 (.add (.add (.nil _) rfl) rfl) (.nil _) (.last p2 (by simp)),trivial⟩,K⟩
 ·obtain⟨E1,g1,K1,q⟩:=pend_loop (a.grow K) ho lim _ 0 [(18,.int .i64 (Int.ofNat 0)),(17,.int .i64 (Int.ofNat (x.t.chain n).1.length)),(16,.slice (some ⟨o,0,none⟩) (x.t.chain n).1.length 2),(0,ptr γ.g)] g rfl (.refl g) (EnvLe.refl _)
  rw[List.drop_zero] at q
  rcases q with⟨e1,l1⟩ | ⟨e1,l1⟩
  ·exact⟨g1,pvF 0 Try.func22 (c1p.pe_go γ.g r o _ n (x.t.chain n).2 (x.pend n) h g g1) ⟨tree_run a hr,q1,a_loop plain22 (.add (.add (.add (.add (.nil _) rfl) rfl) rfl) rfl) e1 l1,trivial⟩,K.trans K1⟩
  ·rw[show x.pend n=false from e1]
   exact⟨g1,pvF 0 Try.func22 (c1p.pe_end γ.g r o _ n (x.t.chain n).2 [] h g g1) ⟨tree_run a hr,q1,a_loop plain22 (.add (.add (.add (.add (.nil _) rfl) rfl) rfl) rfl) (.nil _) l1,trivial⟩,K.trans K1⟩
end
end Go.Proofs.Ytlonjogfeidgfaa.gr
namespace Go.Proofs.Ytlonjogfeidgfaa.gr
open Go Go.Ev Go.Proofs.Ytlonjogfeidgfaa.tr
set_option maxRecDepth 100000
set_option linter.unusedVariables false
set_option linter.constructorNameAsVariable false
abbrev p3(i:Nat):Value:=.pointer (some ⟨i,3,none⟩)
abbrev hv(i:Nat):Value:=.iface 95 (p3 i)
theorem prC_len(p:Pr):(prC p).length=2:=rfl
theorem prL_set:∀ {l:List Pr} {k:Nat} (p:Pr) (junk:List Value),k<l.length->(prL l++junk).take (k*2)++prC p++(prL l++junk).drop (k*2+2)=prL (l.set k p)++junk
 | [],k,p,junk,h=>by simp at h
 | q::l,0,p,junk,h=>by simp[prL_cons,prC]
 | q::l,k+1,p,junk,h=>by
  have ih:=prL_set (l:=l) (k:=k) p junk (by simpa using h)
  have e1:(k+1)*2=k*2+2:=by omega
  rw[List.set_cons_succ,prL_cons,prL_cons,e1]
  have t:(prC q++prL l++junk).take (k*2+2)=prC q++(prL l++junk).take (k*2):=by
   rw[List.append_assoc,List.take_append,List.take_of_length_le (by rw[prC_len];omega),prC_len];simp
  have d:(prC q++prL l++junk).drop (k*2+2+2)=(prL l++junk).drop (k*2+2):=by
   rw[List.append_assoc,List.drop_append,List.drop_of_length_le (by rw[prC_len];omega),prC_len];simp
  rw[t,d,List.append_assoc,List.append_assoc,<- List.append_assoc (List.take _ _),ih,List.append_assoc]
structure DAt(h:Hp)(i d:Nat)(l:List Pr)(cs junk:List Value):Prop where
 hf:h[i]?=some (.cells cs true)
 hs:cs[3]?=some (.slice (some ⟨d,0,none⟩) l.length 2)
 hd:h[d]?=some (.cells (prL l++junk) true)
 ne:d≠i
 len:l.length<=1000000
theorem agg86:aggSize Try.prog 86=some none:=by kernel_rfl
theorem mthLess (h : Hp) (i : Nat) : evMethod Try.prog h "Less" (hv i) = (match evLoad Try.prog h 86 (p3 i) with | some r => some (110, r) | none => none) := by kernel_rfl
theorem mthSwap (h : Hp) (i : Nat) : evMethod Try.prog h "Swap" (hv i) = (match evLoad Try.prog h 86 (p3 i) with | some r => some (111, r) | none => none) := by kernel_rfl
theorem mthLen (h : Hp) (i : Nat) : evMethod Try.prog h "Len" (hv i) = (match evLoad Try.prog h 86 (p3 i) with | some r => some (109, r) | none => none) := by kernel_rfl
theorem mthPush (h : Hp) (i : Nat) : evMethod Try.prog h "Push" (hv i) = some (113, p3 i) := by kernel_rfl
theorem mthPop (h : Hp) (i : Nat) : evMethod Try.prog h "Pop" (hv i) = some (112, p3 i) := by kernel_rfl
theorem ld86{h:Hp}{i:Nat}{cs:List Value}{v:Value}{rw:Bool}(hi:h[i]?=some (.cells cs rw))(hc:cs[3]?=some v):evLoad Try.prog h 86 (p3 i)=some v:=by
 simp only[evLoad,cells_of hi,agg86,hc]
theorem ltD{P:Program}{a b:Int}:(Asm.cmp .lss a b (decide (a<b))).holds P:=by simp[Asm.holds,cmpB]
def lessP(p q:Pr):Bool:=if p.1=q.1 then decide (p.2<q.2) else decide (p.1<q.1)
section
variable {h h' g:Hp} {i d:Nat} {l:List Pr} {cs junk:List Value}
theorem DAt.ld(D:DAt h i d l cs junk){k:Nat}{p:Pr}(hk:l[k]?=some p){s:SH}(e:s.den=h) :
  (Asm.ld1 s d (k*2) (.int .i64 p.1)).holds Try.prog/\(Asm.ld1 s d (k*2+1) (.int .i64 p.2)).holds Try.prog/\(Asm.ldn s d (k*2) 2 [.int .i64 p.1,.int .i64 p.2]).holds Try.prog:=by
 have hlt:=gT hk
 have L:=prL_at junk hk
 have g:∀ j,j<2->(prL l++junk)[k*2+j]?=(prC p)[j]?:=fun j hj=>by
  rw[<- L,List.getElem?_take,if_pos hj,List.getElem?_drop]
 have hd:s.den[d]?=some (.cells (prL l++junk) true):=by rw[e];exact D.hd
 exact⟨aL hd (g 0 (by omega)),aL hd (g 1 (by omega)),aN hd (by rw[List.length_append,prL_len];omega) L⟩
theorem stat110(k:Nat)(hk:k=0\/k=1\/k=2):(Asm.stat (drawN Try.f110 k)).holds Try.prog:=by
 rcases hk with rfl | rfl | rfl
 ·exact show statOk (drawN Try.f110 0)=true by kernel_rfl
 ·exact show statOk (drawN Try.f110 1)=true by kernel_rfl
 ·exact show statOk (drawN Try.f110 2)=true by kernel_rfl
theorem stat111:(Asm.stat (drawN Try.f111 0)).holds Try.prog:=show statOk (drawN Try.f111 0)=true by kernel_rfl
theorem stat113:(Asm.stat (drawN Try.f113 0)).holds Try.prog:=show statOk (drawN Try.f113 0)=true by kernel_rfl
theorem less_run(D:DAt h i d l cs junk){a b:Nat}{p q:Pr}(ha:l[a]?=some p)(hb:l[b]?=some q) :
  Run Try.prog 110 [.slice (some ⟨d,0,none⟩) l.length 2,.int .i64 (a:Int),.int .i64 (b:Int)] h (.bool (lessP p q)) h:=by
 obtain⟨a1,a2,_⟩:=D.ld ha (s:=.is h) rfl
 obtain⟨b1,b2,_⟩:=D.ld hb (s:=.is h) rfl
 have oa:(Asm.off (a*2) 0 (a:Int) l.length 2).holds Try.prog:=offI rfl (gT ha) (by omega)
 have ob:(Asm.off (b*2) 0 (b:Int) l.length 2).holds Try.prog:=offI rfl (gT hb) (by omega)
 by_cases e:p.1=q.1
 ·have el:lessP p q=decide (p.2<q.2):=by simp only[lessP,if_pos e]
  rw[el]
  exact pvF 0 Try.func110 (c3p.le_eq d l.length (a*2) (b*2) a b p.1 q.1 p.2 q.2 _ h) ⟨stat110 0 (by simp),oa,a1,ob,b1,neF e,stat110 2 (by simp),oa,a2,ob,b2,ltD,trivial⟩
 ·have el:lessP p q=decide (p.1<q.1):=by simp only[lessP,if_neg e]
  rw[el]
  exact pvF 0 Try.func110 (c3p.le_ne d l.length (a*2) (b*2) a b p.1 q.1 p.2 q.2 _ h) ⟨stat110 0 (by simp),oa,a1,ob,b1,neT e,stat110 1 (by simp),oa,a1,ob,b1,ltD,trivial⟩
def swp(l:List Pr)(a b:Nat):List Pr:=match l[a]?,l[b]? with
 | some p,some q=>(l.set a q).set b p
 | _,_=>l
theorem swp_len(l:List Pr)(a b:Nat):(swp l a b).length=l.length:=by unfold swp;split<;>simp
theorem DAt.set(D:DAt h i d l cs junk){l':List Pr}(hl:l'.length=l.length):DAt (h.set d (.cells (prL l'++junk) true)) i d l' cs junk :=
 ⟨gNq D.hf D.ne,by rw[hl];exact D.hs,gE D.hd,D.ne,by rw[hl];exact D.len⟩
theorem swap_run(D:DAt h i d l cs junk){a b:Nat}(ha:a<l.length)(hb:b<l.length) :
  Run Try.prog 111 [.slice (some ⟨d,0,none⟩) l.length 2,.int .i64 (a:Int),.int .i64 (b:Int)] h (.tuple #[]) (h.set d (.cells (prL (swp l a b)++junk) true)):=by
 obtain⟨p,hp⟩:∃ p,l[a]?=some p:=⟨_,List.getElem?_eq_getElem ha⟩
 obtain⟨q,hq⟩:∃ q,l[b]?=some q:=⟨_,List.getElem?_eq_getElem hb⟩
 obtain⟨_,_,a3⟩:=D.ld hp (s:=.is h) rfl
 obtain⟨_,_,b3⟩:=D.ld hq (s:=.is h) rfl
 have oa:(Asm.off (a*2) 0 (a:Int) l.length 2).holds Try.prog:=offI rfl ha (by omega)
 have ob:(Asm.off (b*2) 0 (b:Int) l.length 2).holds Try.prog:=offI rfl hb (by omega)
 have es:swp l a b=(l.set a q).set b p:=by simp only[swp,hp,hq]
 have R:=pvF 0 Try.func111 (c3p.sw d l.length (a*2) (b*2) a b p.1 q.1 p.2 q.2 (prL (l.set a q)++junk) (prL ((l.set a q).set b p)++junk) h)
  ⟨stat111,ob,b3,oa,a3,oa,a_st D.hd (by simp[prL_len];omega) (prL_set q junk ha),ob,a_st (gE D.hd) (by simp[prL_len];omega) (prL_set p junk (by simpa using hb)),trivial⟩
 rw[es]
 have e:(h.set d (.cells (prL (l.set a q)++junk) true)).set d (.cells (prL ((l.set a q).set b p)++junk) true)=h.set d (.cells (prL ((l.set a q).set b p)++junk) true):=by simp
 rw[<- e]
 exact R
def upF:Nat->Nat->List Pr->List Pr
 | 0,_,l=>l
 | f+1,j,l=>match j with
  | 0=>l
  | j+1=>match l[j+1]?,l[j / 2]? with
   | some p,some q=>match lessP p q with
    | true=>upF f (j / 2) (swp l (j / 2) (j+1))
    | false=>l
   | _,_=>l
theorem upF_len:∀ (f j:Nat) (l:List Pr),(upF f j l).length=l.length
 | 0,_,_=>rfl
 | f+1,0,_=>rfl
 | f+1,j+1,l=>by
  simp only[upF]
  split
  ·split
   ·rw[upF_len f,swp_len]
   ·rfl
  ·rfl
theorem set_same{h:Hp}{d:Nat}{o:AObj}(e:h[d]?=some o):h.set d o=h:=by
 apply List.ext_getElem?
 intro q
 rw[List.getElem?_set]
 split
 ·rename_i hq;subst hq;rw[e];simp[get_lt e]
 ·rfl
theorem up_loop:∀ (f j:Nat) (l:List Pr) (h:Hp) (E:Env),DAt h i d l cs junk->j<f->j<l.length->EnvLe [(1,.int .i64 (j:Int)),(0,hv i)] E ->
  ∃ E1,LRun Try.prog 23 false (loopN Try.f84 0) E h (.exit 0) E1 (h.set d (.cells (prL (upF f j l)++junk) true))
 | 0,j,l,h,E,D,hj,_,_=>by omega
 | f+1,0,l,h,E,D,_,hl,hE=>by
  obtain⟨E1,q1,q2⟩:=pvC 0 hE (c3p.up_end i 0 0 0 0 (-1) undef none 0 0 h h h) ⟨subI (by omega) (by omega) (by omega),by simp[Asm.holds,arithI];exact i64_id (by omega) (by omega),eqT rfl,trivial⟩
  rw[show upF (f+1) 0 l=l from rfl,set_same D.hd]
  exact⟨E1,.last q2 (by simp)⟩
 | f+1,j+1,l,h,E,D,hj,hl,hE=>by
  have len:=D.len
  have hk:j / 2<l.length:=by omega
  obtain⟨p,hp⟩:∃ p,l[j+1]?=some p:=⟨_,List.getElem?_eq_getElem hl⟩
  obtain⟨q,hq⟩:∃ q,l[j / 2]?=some q:=⟨_,List.getElem?_eq_getElem hk⟩
  have A1:(Asm.arith .sub .i64 ((j+1:Nat):Int) 1 (j:Int)).holds Try.prog:=subI (by omega) (by omega) (by omega)
  have A2:(Asm.arith .quo .i64 (j:Int) 2 ((j / 2:Nat):Int)).holds Try.prog:=by
   have e:(j:Int).tdiv 2=((j / 2:Nat):Int):=by rw[Int.tdiv_eq_ediv_of_nonneg (by omega)];omega
   simp only[Asm.holds,arithI,e]
   exact congrArg some (i64_id (by omega) (by omega))
  have A3:(Asm.cmp .eql ((j / 2:Nat):Int) ((j+1:Nat):Int) false).holds Try.prog:=eqF (by omega)
  have M1 : (Asm.mth (.is h) "Less" (hv i) 110 (.slice (some ⟨d, 0, none⟩) l.length 2)).holds Try.prog := by simp only [Asm.holds, SH.den, mthLess, ld86 D.hf D.hs]
  have R:=less_run D hp hq
  cases e:lessP p q with
  | false =>
   rw[e] at R
   obtain⟨E1,q1,q2⟩:=pvC 0 hE (c3p.up_stop i 0 0 ((j+1:Nat):Int) ((j / 2:Nat):Int) (j:Int) undef (some ⟨d,0,none⟩) l.length 2 h h h) ⟨A1,A2,A3,R,M1,trivial⟩
   have eu:upF (f+1) (j+1) l=l:=by simp only[upF,hp,hq,e]
   rw[eu,set_same D.hd]
   exact⟨E1,.last q2 (by simp)⟩
  | true =>
   rw[e] at R
   have M2 : (Asm.mth (.is h) "Swap" (hv i) 111 (.slice (some ⟨d, 0, none⟩) l.length 2)).holds Try.prog := by simp only [Asm.holds, SH.den, mthSwap, ld86 D.hf D.hs]
   have S:=swap_run D hk hl
   obtain⟨E1,q1,q2⟩:=pvC 0 hE (c3p.up_go i 0 0 ((j+1:Nat):Int) ((j / 2:Nat):Int) (j:Int) undef (some ⟨d,0,none⟩) l.length 2 h h _) ⟨A1,A2,A3,R,M1,S,M2,trivial⟩
   have eu:upF (f+1) (j+1) l=upF f (j / 2) (swp l (j / 2) (j+1)):=by simp only[upF,hp,hq,e]
   obtain⟨E2,q3⟩:=up_loop f (j / 2) (swp l (j / 2) (j+1)) _ E1 (D.set (swp_len _ _ _)) (by omega) (by rw[swp_len];omega) (.trans (.add (.add (.nil _) rfl) rfl) q1)
   rw[eu]
   refine⟨E2,.step q2 ?_⟩
   rw[List.set_set] at q3
   exact q3
theorem plain84:plainC (loopN Try.f84 0)=true:=by kernel_rfl
theorem up_run(D:DAt h i d l cs junk){j:Nat}(hj:j<l.length):Run Try.prog 84 [hv i,.int .i64 (j:Int)] h (.tuple #[]) (h.set d (.cells (prL (upF (j+1) j l)++junk) true)):=by
 obtain⟨E1,q⟩:=up_loop (j+1) j l h [(1,.int .i64 (j:Int)),(0,hv i)] D (by omega) hj (EnvLe.refl _)
 exact pvF 0 Try.func84 (c3p.up i (j:Int) [] h _) ⟨a_loop plain84 (.add (.add (.nil _) rfl) rfl) (.nil _) q,trivial⟩
end
end Go.Proofs.Ytlonjogfeidgfaa.gr
namespace Go.Proofs.Ytlonjogfeidgfaa.gr
open Go Go.Ev Go.Proofs.Ytlonjogfeidgfaa.tr
set_option maxRecDepth 100000
set_option linter.unusedVariables false
set_option linter.constructorNameAsVariable false
section
variable {h h' g:Hp} {ρ ρ' ρ1:Lay} {γ γ' γ1:GL} {x:GS} {t':TS} {c:Nat}
theorem GAt.dues(a:GAt h ρ γ x){l:List Pr}{d:Nat}{junk:List Value}(K:Keep (fun q=>q=γ.g\/γ.d=some q) h g)(hd:γ.d=some d\/h.length<=d)
  (hg:g[γ.g]?=some (.cells [pvv (ρ .root),.map (some γ.m),.map (some γ.n),.slice (some ⟨d,0,none⟩) l.length 2] true)) (hc:g[d]?=some (.cells (prL l++junk) true)) :
  GAt g ρ { γ with d:=some d } { x with du:=l }/\GStep ρ γ h ρ { γ with d:=some d } g:=by
 have lt:∀ q,fpT ρ q->q<h.length:=fun q ⟨r,e⟩=>a.tat.lt e
 have ht:∀ q,(q=γ.g\/γ.d=some q)->¬ fpT ρ q:=fun q e=>e.elim (fun e=>e▸a.fg) fun e=>a.fd q e
 have nd:∀ q,γ.d=some q->q≠γ.m/\q≠γ.n:=fun q e=>by
  obtain⟨j,hj⟩:=a.duo q e
  exact⟨fun f=>(by have:=a.tmo;rw[<- f,hj] at this;cases this),fun f=>(by have:=a.smo;rw[<- f,hj] at this;cases this)⟩
 have ng:γ.m≠γ.g/\γ.n≠γ.g:=⟨fun f=>(by have:=a.tmo;rw[f,a.obj] at this;cases this),fun f=>(by have:=a.smo;rw[f,a.obj] at this;cases this)⟩
 refine⟨⟨a.tat.keep K ht,hg,K.2 _ _ a.tmo fun e=>e.elim ng.1 fun e=>(nd _ e).1 rfl,K.2 _ _ a.smo fun e=>e.elim ng.2 fun e=>(nd _ e).2 rfl,
  fun d' e=>by cases e;exact⟨junk,hc⟩,fun e=>by simp at e,a.fg,a.fm,a.fn,fun d' e=>?_,a.mn,fun e=>?_⟩,K.mono fun q _ e=>e.elim (fun e=>.inr (.inl e)) fun e=>.inr (.inr (.inr (.inr e))),fun q e=>?_,rfl⟩
 ·cases e
  exact hd.elim (fun e=>a.fd d e) fun e f=>by have:=lt _ f;omega
 ·simp only[Option.some.injEq] at e
  subst e
  rw[hg] at hc
  rcases hd with e | e
  ·exact a.gd e
  ·have:=get_lt a.obj;omega
 ·rcases e with e | e | e | e | e
  ·exact .inl (.inl e)
  ·exact .inl (.inr (.inl e))
  ·exact .inl (.inr (.inr (.inl e)))
  ·exact .inl (.inr (.inr (.inr (.inl e))))
  ·simp only[Option.some.injEq] at e
   subst e
   exact hd.elim (fun e=>.inl (.inr (.inr (.inr (.inr e))))) .inr
theorem root_ptr(a:GAt h ρ γ x):∃ r,ρ .root=some r/\pvv (ρ .root)=ptr r:=by
 obtain⟨r,hr⟩:=a.root
 exact⟨r,hr,by rw[hr];rfl⟩
theorem dpush_run(a:GAt h ρ γ x)(hl:x.du.length<=100000)(p:Pr) :
  ∃ g,Run Try.prog 113 [p3 γ.g,.iface 93 (.agg #[.int .i64 p.1,.int .i64 p.2])] h (.tuple #[]) g/\GAt g ρ { γ with d:=some (h.length+1) } { x with du:=x.du++[p] }/\GStep ρ γ h ρ { γ with d:=some (h.length+1) } g/\g.length=h.length+2:=by
 have hg:=get_lt a.obj
 have lapp:prL (x.du++[p])=prL x.du++prC p:=by rw[prL_app];simp[prL,prC]
 cases e:γ.d with
 | none =>
  have e0:=a.dun e
  have O:=a.obj
  rw[e] at O
  have O2:((h++[AObj.cells [.int .i64 p.1,.int .i64 p.2] true])++[AObj.cells [.int .i64 p.1,.int .i64 p.2] true])[γ.g]?=_:=gP (gP O)
  refine⟨_,pvF 0 Try.func113 (c3p.pu_nil γ.g h.length (h.length+1) p.1 p.2 [pvv (ρ .root),.map (some γ.m),.map (some γ.n),.slice (some ⟨h.length+1,0,none⟩) 1 2] h)
   ⟨stat113,aL O rfl,rfl,a_appGN rfl rfl (by omega) (gW _ _) (pL _ _),a_st O2 (by simp) rfl,trivial⟩,?_⟩
  have K:Keep (fun q=>q=γ.g\/γ.d=some q) h (((h++[AObj.cells [.int .i64 p.1,.int .i64 p.2] true])++[AObj.cells [.int .i64 p.1,.int .i64 p.2] true]).set γ.g (.cells [pvv (ρ .root),.map (some γ.m),.map (some γ.n),.slice (some ⟨h.length+1,0,none⟩) 1 2] true)) :=
   ((Keep.push _ _ _).trans (Keep.push _ _ _)).trans (Keep.set (.inl rfl) _)
  have hd:(((h++[AObj.cells [.int .i64 p.1,.int .i64 p.2] true])++[AObj.cells [.int .i64 p.1,.int .i64 p.2] true]).set γ.g (.cells [pvv (ρ .root),.map (some γ.m),.map (some γ.n),.slice (some ⟨h.length+1,0,none⟩) 1 2] true))[h.length+1]?=some (.cells (prL [p]++[]) true) :=
   gNq (gV _ (pL _ _)) (by omega)
  have R:=a.dues (l:=x.du++[p]) (d:=h.length+1) (junk:=[]) K (.inr (by omega)) (by rw[e0];exact gE O2) (by rw[e0];exact hd)
  exact⟨R.1,R.2,by simp[SH.den]⟩
 | some d =>
  obtain⟨junk,hj⟩:=a.duo d e
  have O:=a.obj
  rw[e] at O
  have hdl:=get_lt hj
  have hdg:d≠γ.g:=fun f=>a.gd (by rw[e,f])
  have O2:(((h++[AObj.cells [.int .i64 p.1,.int .i64 p.2] true]).set d .dead)++[AObj.cells (prL x.du++prC p) true])[γ.g]?=_:=gP (gNq (gP O) hdg)
  refine⟨_,pvF 0 Try.func113 (c3p.pu_go γ.g d x.du.length h.length (h.length+1) p.1 p.2 [pvv (ρ .root),.map (some γ.m),.map (some γ.n),.slice (some ⟨h.length+1,0,none⟩) (x.du.length+1) 2] (prL x.du++prC p) h)
   ⟨stat113,aL O rfl,rfl,a_appSJ (m:=0) (junk2:=[]) (gP hj) (by rw[prL_len]) (gW _ _) rfl rfl (by omega) (by omega) (by omega) (pL _ _),a_st O2 (by simp) rfl,trivial⟩,?_⟩
  have K:Keep (fun q=>q=γ.g\/γ.d=some q) h ((((h++[AObj.cells [.int .i64 p.1,.int .i64 p.2] true]).set d .dead)++[AObj.cells (prL x.du++prC p) true]).set γ.g (.cells [pvv (ρ .root),.map (some γ.m),.map (some γ.n),.slice (some ⟨h.length+1,0,none⟩) (x.du.length+1) 2] true)) :=
   (((Keep.push _ _ _).trans (Keep.set (.inr e) _)).trans (Keep.push _ _ _)).trans (Keep.set (.inl rfl) _)
  have R:=a.dues (l:=x.du++[p]) (d:=h.length+1) (junk:=[]) K (.inr (by omega)) (by rw[List.length_append];exact gE O2) (by rw[lapp,List.append_nil];exact gNq (gV _ (by simp)) (by omega))
  exact⟨R.1,R.2,by simp[SH.den]⟩
theorem hpush_run(a:GAt h ρ γ x)(hl:x.du.length<=100000)(p:Pr) :
  ∃ g,Run Try.prog 62 [hv γ.g,.iface 93 (.agg #[.int .i64 p.1,.int .i64 p.2])] h (.tuple #[]) g/\GAt g ρ { γ with d:=some (h.length+1) } { x with du:=upF (x.du.length+1) x.du.length (x.du++[p]) }/\GStep ρ γ h ρ { γ with d:=some (h.length+1) } g:=by
 obtain⟨g,R,b,S,hlen⟩:=dpush_run a hl p
 obtain⟨junk,hj⟩:=b.duo _ rfl
 have O:=b.obj
 have D:DAt g γ.g (h.length+1) (x.du++[p]) _ junk:=⟨O,rfl,hj,by have:=get_lt a.obj;omega,by simp;omega⟩
 have U:=up_run D (j:=x.du.length) (by simp)
 have L : (Asm.mth (.is g) "Len" (hv γ.g) 109 (.slice (some ⟨h.length + 1, 0, none⟩) (x.du ++ [p]).length 2)).holds Try.prog := by simp only [Asm.holds, SH.den, mthLen, ld86 D.hf D.hs]
 have N:=pvF 0 Try.func109 (c3p.ln (some ⟨h.length+1,0,none⟩) (x.du++[p]).length 2 g) trivial
 have A:(Asm.arith .sub .i64 (Int.ofNat (x.du++[p]).length) 1 (x.du.length:Int)).holds Try.prog:=subI (by simp) (by omega) (by omega)
 refine⟨_,pvF 0 Try.func62 (c3p.hp γ.g (x.du++[p]).length 2 (some ⟨h.length+1,0,none⟩) _ _ _ h g _) ⟨R,mthPush h γ.g,N,L,A,U,trivial⟩,?_⟩
 have K2:Keep (fun q=>q=γ.g\/some (h.length+1)=some q) g (g.set (h.length+1) (.cells (prL (upF (x.du.length+1) x.du.length (x.du++[p]))++junk) true)):=Keep.set (.inr rfl) _
 have R2:=b.dues (l:=upF (x.du.length+1) x.du.length (x.du++[p])) K2 (.inl rfl) (by rw[upF_len];exact gNq O D.ne) (gE hj)
 exact⟨R2.1,S.trans R2.2⟩
end
end Go.Proofs.Ytlonjogfeidgfaa.gr
namespace Go.Proofs.Ytlonjogfeidgfaa.gr
open Go Go.Ev Go.Proofs.Ytlonjogfeidgfaa.tr
set_option maxRecDepth 100000
set_option linter.unusedVariables false
set_option linter.constructorNameAsVariable false
section
variable {h h' g:Hp} {ρ ρ' ρ1:Lay} {γ γ' γ1:GL} {x:GS} {t':TS} {c:Nat}
def GS.open(x:GS)(n:Int)(su:Bool)(u:Int):GS :=
 if (x.t.open n su).2.2=0/\0<=u/\u<=1000000000000 then { x with t:=(x.t.open n su).1,du:=upF (x.du.length+1) x.du.length (x.du++[(u,(x.t.open n su).2.1)]) } else { x with t:=(x.t.open n su).1 }
theorem openG_run(a:GAt h ρ γ x)(ok:TOk c x.t)(hc:c<=100000)(hl:x.du.length<=100000)(n:Int)(su:Bool)(u:Int) :
  ∃ ρ' γ' h',Run Try.prog 36 [ptr γ.g,.int .i64 n,.bool su,.int .i64 u] h (.tuple #[.int .i64 (x.t.open n su).2.1,.int .i64 (x.t.open n su).2.2]) h'/\GAt h' ρ' γ' (x.open n su u)/\GStep ρ γ h ρ' γ' h':=by
 obtain⟨r,hr⟩:=a.root
 obtain⟨ρ',g,q1,q2,q3⟩:=open_run a.tat ok hc hr n su
 have b:=a.tree q3 q2
 have T:=tree_run a hr
 by_cases e0:(x.t.open n su).2.2=0
 ·by_cases u0:0<=u
  ·by_cases u1:u<=1000000000000
   ·obtain⟨g2,R,b2,S2⟩:=hpush_run b hl (u,(x.t.open n su).2.1)
    refine⟨ρ',_,g2,pvF 0 Try.func36 (c5p.op_go γ.g r n u _ _ su h g g2) ⟨T,q1,eqT e0,geT u0,leT u1,R,trivial⟩,?_,(GStep.tree q3).trans S2⟩
    rw[GS.open,if_pos ⟨e0,u0,u1⟩];exact b2
   ·refine⟨ρ',γ,g,pvF 0 Try.func36 (c5p.op_big γ.g r n u _ _ su h g g) ⟨T,q1,eqT e0,geT u0,leF (by omega),trivial⟩,?_,.tree q3⟩
    rw[GS.open,if_neg (fun e=>u1 e.2.2)];exact b
  ·refine⟨ρ',γ,g,pvF 0 Try.func36 (c5p.op_neg γ.g r n u _ _ su h g g) ⟨T,q1,eqT e0,geF (by omega),trivial⟩,?_,.tree q3⟩
   rw[GS.open,if_neg (fun e=>u0 e.2.1)];exact b
 ·refine⟨ρ',γ,g,pvF 0 Try.func36 (c5p.op_err γ.g r n u _ _ su h g g) ⟨T,q1,eqF e0,trivial⟩,?_,.tree q3⟩
  rw[GS.open,if_neg (fun e=>e0 e.1)];exact b
abbrev PF22(γ:GL):Value:=.func (.func 22) #[ptr γ.g] #[]
theorem inL_len(l:List Int):(inL l).length=l.length:=by simp[inL]
theorem inL_app(l m:List Int):inL (l++m)=inL l++inL m:=by simp[inL]
theorem idx_loop(ok:TOk c x.t)(hc:c<=1000)(W:WI none x.t){l:List Int}{o:Nat}{junk:List Value}(hl:l.length<=1000000):∀ (m:List Int) (j:Nat) (E:Env) (g:Hp),l.drop j=m->GAt g ρ γ x->g[o]?=some (.cells (inL l++junk) true) ->
  EnvLe [(8,.int .i64 (j:Int)),(7,.int .i64 (Int.ofNat l.length)),(0,.slice (some ⟨o,0,none⟩) l.length 1),(1,PF22 γ)] E ->
  ∃ E1 g1,Grow g g1/\((∃ k:Nat,j<=k/\k<l.length/\(∀ i y,j<=i->i<k->l[i]?=some y->x.pend y=false)/\(∀ y,l[k]?=some y->x.pend y=true)/\EnvLe [(4,.int .i64 (k:Int))] E1/\LRun Try.prog 19 false (loopN Try.f91 0) E g .ret E1 g1) \/
   ((∀ i y,j<=i->l[i]?=some y->x.pend y=false)/\LRun Try.prog 19 false (loopN Try.f91 0) E g (.exit 0) E1 g1))
 | [],j,E,g,hm,a,ho,hE=>by
  have hj:l.length<=j:=List.drop_eq_nil_iff.1 hm
  obtain⟨E1,q1,q2⟩:=pvC 0 (.trans (.add (.add (.nil _) rfl) rfl) hE) (c5p.il_out (j:Int) (Int.ofNat l.length) g) ⟨ltF (by simp only[Int.ofNat_eq_natCast];omega),trivial⟩
  exact⟨E1,g,.refl g,.inr ⟨fun i y h1 h2=>by have:=gT h2;omega,.last q2 (by simp)⟩⟩
 | y::m,j,E,g,hm,a,ho,hE=>by
  have hj:l[j]?=some y:=by rw[<- List.head?_drop,hm];rfl
  have hlt:=gT hj
  have hm':l.drop (j+1)=m:=by rw[<- List.drop_drop,hm];rfl
  obtain⟨g1,R,K⟩:=pend_run a ok hc W y
  have A1:(Asm.cmp .lss (j:Int) (Int.ofNat l.length) true).holds Try.prog:=ltT (by simp only[Int.ofNat_eq_natCast];omega)
  have A2:(Asm.off j 0 (j:Int) l.length 1).holds Try.prog:=offI rfl hlt (by omega)
  have A3:(Asm.ld1 (.is g) o j (.int .i64 y)).holds Try.prog:=aL ho (by rw[List.getElem?_append_left (by rw[inL_len];exact hlt)];exact inL_at hj)
  cases e:x.pend y with
  | true =>
   rw[e] at R
   obtain⟨E1,q1,q2⟩:=pvC 0 hE (c5p.il_hit γ.g o l.length j j 0 y g g1) ⟨A1,A2,A3,R,trivial⟩
   exact⟨E1,g1,K,.inl ⟨j,Nat.le_refl _,hlt,fun i z h1 h2=>by omega,fun z hz=>by rw[hj] at hz;cases hz;exact e,.trans (.add (.nil _) rfl) q1,.last q2 (by simp)⟩⟩
  | false =>
   rw[e] at R
   obtain⟨E1,q1,q2⟩:=pvC 0 hE (c5p.il_go γ.g o l.length j j ((j+1:Nat):Int) y g g1) ⟨A1,A2,A3,R,addI (by omega) (by omega) (by omega),trivial⟩
   obtain⟨E2,g2,K2,q⟩:=idx_loop ok hc W hl m (j+1) E1 g1 hm' (a.grow K) (K.get ho) (.trans (.add (.add (.add (.add (.nil _) rfl) rfl) rfl) rfl) q1)
   refine⟨E2,g2,K.trans K2,q.elim (fun⟨k,h1,h2,h3,h4,h5,h6⟩=>.inl ⟨k,by omega,h2,fun i z g1 g2 gz=>?_,h4,h5,.step q2 h6⟩) fun⟨h1,h2⟩=>.inr ⟨fun i z g1 gz=>?_,.step q2 h2⟩⟩
   ·rcases Nat.lt_or_ge j i with f | f
    ·exact h3 i z f g2 gz
    ·have:i=j:=by omega
     subst this;rw[hj] at gz;cases gz;exact e
   ·rcases Nat.lt_or_ge j i with f | f
    ·exact h1 i z f gz
    ·have:i=j:=by omega
     subst this;rw[hj] at gz;cases gz;exact e
theorem plain91:plainC (loopN Try.f91 0)=true:=by kernel_rfl
theorem plain81:plainC (loopN Try.f81 0)=true:=by kernel_rfl
def GS.idle(x:GS)(l:List Int):List Int:=l.filter fun y=>!x.pend y
theorem del_loop(ok:TOk c x.t)(hc:c<=1000)(W:WI none x.t){l:List Int}{o:Nat}{junk:List Value}(hl:l.length<=1000000)(hof:¬ fpG ρ γ o):∀ (m:List Int) (j:Nat) (C:List Value) (E:Env) (g:Hp),l.drop j=m->j<=l.length->GAt g ρ γ x->g[o]?=some (.cells C true) ->
  C.length=l.length+junk.length->C.take (x.idle (l.take j)).length=inL (x.idle (l.take j))->C.drop j=inL (l.drop j)++junk ->
  EnvLe [(6,.int .i64 (Int.ofNat j)),(5,.int .i64 (Int.ofNat (x.idle (l.take j)).length)),(0,.slice (some ⟨o,0,none⟩) l.length 1),(1,PF22 γ)] E ->
  ∃ E1 g1 C1,Keep (fun q=>q=o) g g1/\GAt g1 ρ γ x/\g1[o]?=some (.cells C1 true)/\C1.length=l.length+junk.length/\C1.take (x.idle l).length=inL (x.idle l)/\C1.drop l.length=junk /\
   EnvLe [(5,.int .i64 (Int.ofNat (x.idle l).length)),(0,.slice (some ⟨o,0,none⟩) l.length 1)] E1/\LRun Try.prog 42 false (loopN Try.f81 0) E g (.exit 0) E1 g1
 | [],j,C,E,g,hm,hj0,a,ho,c1,c2,c3,hE=>by
  have hj:j=l.length:=by have:=List.drop_eq_nil_iff.1 hm;omega
  subst hj
  obtain⟨E1,q1,q2⟩:=pvC 0 hE (c5p.dl_out γ.g o l.length l.length (x.idle (l.take l.length)).length 0 0 0 0 0 [] g g) ⟨ltF (Int.le_refl _),trivial⟩
  rw[List.take_length] at c2 q1
  rw[List.drop_length] at c3
  exact⟨E1,g,C,Keep.refl _ _,a,ho,c1,c2,by simpa[inL] using c3,.trans (.add (.add (.nil _) rfl) rfl) q1,.last q2 (by simp)⟩
 | y::m,j,C,E,g,hm,hj0,a,ho,c1,c2,c3,hE=>by
  have hj:l[j]?=some y:=by rw[<- List.head?_drop,hm];rfl
  have hlt:=gT hj
  have hm':l.drop (j+1)=m:=by rw[<- List.drop_drop,hm];rfl
  have tk:l.take (j+1)=l.take j++[y]:=by rw[List.take_add_one,hj];rfl
  have iw:(x.idle (l.take j)).length<=j:=by
   have:=List.length_filter_le (fun y=>!x.pend y) (l.take j)
   simp only[GS.idle];simp at this ⊢;omega
  obtain⟨g1,R,K⟩:=pend_run a ok hc W y
  have A1:(Asm.cmp .lss (Int.ofNat j) (Int.ofNat l.length) true).holds Try.prog:=ltT (by simp only[Int.ofNat_eq_natCast];omega)
  have A2:(Asm.off j 0 (Int.ofNat j) l.length 1).holds Try.prog:=offI rfl hlt (by omega)
  have cj:C[j]?=some (.int .i64 y):=by
   have:(C.drop j)[0]?=some (.int .i64 y):=by rw[c3,hm];rfl
   simpa using this
  have A3:(Asm.ld1 (.is g) o j (.int .i64 y)).holds Try.prog:=aL ho cj
  have N1:(Asm.arith .add .i64 (Int.ofNat j) 1 (Int.ofNat (j+1))).holds Try.prog:=addI (by simp only[Int.ofNat_eq_natCast];omega) (by simp only[Int.ofNat_eq_natCast];omega) (by simp only[Int.ofNat_eq_natCast];omega)
  have c3':C.drop (j+1)=inL (l.drop (j+1))++junk:=by
   rw[<- List.drop_drop,c3,hm,hm'];rfl
  have up:∀ {E1:Env} {g2:Hp},(∃ E2 g3 C1,Keep (fun q=>q=o) g2 g3/\GAt g3 ρ γ x/\g3[o]?=some (.cells C1 true)/\C1.length=l.length+junk.length/\C1.take (x.idle l).length=inL (x.idle l)/\C1.drop l.length=junk /\
    EnvLe [(5,.int .i64 (Int.ofNat (x.idle l).length)),(0,.slice (some ⟨o,0,none⟩) l.length 1)] E2/\LRun Try.prog 42 false (loopN Try.f81 0) E1 g2 (.exit 0) E2 g3)->Keep (fun q=>q=o) g g2->CRun Try.prog 42 false (loopN Try.f81 0) E g .normal E1 g2 ->
    ∃ E2 g3 C1,Keep (fun q=>q=o) g g3/\GAt g3 ρ γ x/\g3[o]?=some (.cells C1 true)/\C1.length=l.length+junk.length/\C1.take (x.idle l).length=inL (x.idle l)/\C1.drop l.length=junk /\
    EnvLe [(5,.int .i64 (Int.ofNat (x.idle l).length)),(0,.slice (some ⟨o,0,none⟩) l.length 1)] E2/\LRun Try.prog 42 false (loopN Try.f81 0) E g (.exit 0) E2 g3:=by
   intro E1 g2 ⟨E2,g3,C1,h1,h2,h3,h4,h5,h6,h7,h8⟩ K2 q2
   exact⟨E2,g3,C1,K2.trans h1,h2,h3,h4,h5,h6,h7,.step q2 h8⟩
  cases e:x.pend y with
  | true =>
   rw[e] at R
   have ii:x.idle (l.take (j+1))=x.idle (l.take j):=by rw[tk,GS.idle,List.filter_append];simp[e,GS.idle]
   obtain⟨E1,q1,q2⟩:=pvC 0 hE (c5p.dl_del γ.g o l.length j (x.idle (l.take j)).length j 0 (Int.ofNat (j+1)) 0 y [] g g1) ⟨A1,A2,A3,R,N1,trivial⟩
   exact up (del_loop ok hc W hl hof m (j+1) C E1 g1 hm' (by omega) (a.grow K) (K.get ho) c1 (by rw[ii];exact c2) c3' (.trans (.add (.add (.add (.add (.nil _) rfl) rfl) (by rw[ii];rfl)) rfl) q1)) (K.mono fun _ _ e=>e.elim) q2
  | false =>
   rw[e] at R
   have ii:x.idle (l.take (j+1))=x.idle (l.take j)++[y]:=by rw[tk,GS.idle,List.filter_append];simp[e,GS.idle]
   have hw:(x.idle (l.take j)).length<l.length:=by omega
   have st:(Asm.st (.is g1) o (x.idle (l.take j)).length [.int .i64 y] (C.set (x.idle (l.take j)).length (.int .i64 y))).holds Try.prog:=by
    refine a_st (K.get ho) (by simp;omega) ?_
    rw[List.set_eq_take_append_cons_drop,if_pos (by omega)];simp
   obtain⟨E1,q1,q2⟩:=pvC 0 hE (c5p.dl_keep γ.g o l.length j (x.idle (l.take j)).length j (x.idle (l.take j)).length (Int.ofNat (j+1)) (Int.ofNat ((x.idle (l.take j)).length+1)) y _ g g1)
    ⟨A1,A2,A3,R,offI rfl hw (by omega),st,addI (by simp only[Int.ofNat_eq_natCast];omega) (by simp only[Int.ofNat_eq_natCast];omega) (by simp only[Int.ofNat_eq_natCast];omega),N1,trivial⟩
   have K2:Keep (fun q=>q=o) g (g1.set o (.cells (C.set (x.idle (l.take j)).length (.int .i64 y)) true)):=(K.mono fun _ _ e=>e.elim).trans (Keep.set (fp:=fun q=>q=o) rfl _)
   refine up (del_loop ok hc W hl hof m (j+1) _ E1 _ hm' (by omega) (a.keep K2 fun q e f=>hof (e▸f)) (gE (K.get ho)) (by simpa using c1) ?_ ?_ (.trans (.add (.add (.add (.add (.nil _) rfl) rfl) (by rw[ii];simp;rfl)) rfl) q1)) K2 q2
   ·rw[ii,List.length_append,List.length_singleton,inL_app]
    have:(C.set (x.idle (l.take j)).length (.int .i64 y)).take ((x.idle (l.take j)).length+1)=C.take (x.idle (l.take j)).length++[.int .i64 y]:=by
     rw[List.set_eq_take_append_cons_drop,if_pos (by omega),List.take_append,List.take_of_length_le (by simp;omega)]
     simp
     rw[Nat.min_eq_left (by omega)];simp
    rw[this,c2];rfl
   ·rw[List.drop_set_of_lt (by omega)];exact c3'
end
end Go.Proofs.Ytlonjogfeidgfaa.gr
namespace Go.Proofs.Ytlonjogfeidgfaa.gr
open Go Go.Ev Go.Proofs.Ytlonjogfeidgfaa.tr
set_option maxRecDepth 100000
set_option linter.unusedVariables false
set_option linter.constructorNameAsVariable false
theorem und32:Try.prog.underlying 32=some (.slice 3):=by kernel_rfl
theorem zer3:zeroO Try.prog 3=some (.int .i64 0):=by kernel_rfl
theorem a_clr{s:SH}{o p len:Nat}{C:List Value}(h:s.den[o]?=some (.cells C true))(hp:p<len)(hl:len<=C.length) :
  (Asm.clr s 32 (.slice (some ⟨o,0+p*1,none⟩) (len-p) 1) o (C.take p++List.replicate (len-p) (.int .i64 0)++C.drop len)).holds Try.prog:=by
 obtain⟨n,hn⟩:∃ n,len-p=n+1:=⟨len-p-1,by omega⟩
 have z:((Array.range ((n+1)*1)).map (fun i=>(Value.cells (.int .i64 0))[i%(Value.cells (.int .i64 0)).size]!)).toList=List.replicate (n+1) (.int .i64 0):=by
  apply List.ext_getElem
  ·simp
  ·intro k h1 h2
   simp[Value.cells,Nat.mod_one]
 have b:Nat.ble (0+p*1+(n+1)*1) C.length=true:=Nat.ble_eq_true_of_le (by omega)
 have one:(List.replicate (n+1) (Value.int .i64 0)).all Value.oneCell'=true:=by simp[Value.oneCell']
 simp only[Asm.holds,hn,evClear,und32,zer3,own_of h]
 simp only[z,b,one,ground,Bool.and_self]
 have e:0+p*1+(n+1)*1=len:=by omega
 rw[e,show 0+p*1=p by omega]
 rfl
section
variable {h h' g:Hp} {ρ ρ' ρ1:Lay} {γ γ' γ1:GL} {x:GS} {t':TS} {c:Nat}
theorem delete_run(a:GAt h ρ γ x)(ok:TOk c x.t)(hc:c<=1000)(W:WI none x.t){l:List Int}{o:Nat}{junk:List Value}(hl:l.length<=1000000)(hof:¬ fpG ρ γ o)(ho:h[o]?=some (.cells (inL l++junk) true)) :
  ∃ g C,Run Try.prog 81 [.slice (some ⟨o,0,none⟩) l.length 1,PF22 γ] h (.slice (some ⟨o,0,none⟩) (x.idle l).length 1) g/\Keep (fun q=>q=o) h g/\g[o]?=some (.cells C true)/\C.take (x.idle l).length=inL (x.idle l)/\(x.idle l).length<=C.length:=by
 obtain⟨E1,g1,K1,q⟩:=idx_loop ok hc W (junk:=junk) hl l 0 [(8,.int .i64 ((0:Nat):Int)),(7,.int .i64 (Int.ofNat l.length)),(0,.slice (some ⟨o,0,none⟩) l.length 1),(1,PF22 γ)] h rfl a ho (EnvLe.refl _)
 have il:(x.idle l).length<=l.length:=List.length_filter_le _ _
 rcases q with⟨k,_,hk,h1,h2,h3,h4⟩ | ⟨h1,h4⟩
 ·obtain⟨y,hy⟩:∃ y,l[k]?=some y:=⟨_,List.getElem?_eq_getElem hk⟩
  have py:=h2 y hy
  have R1:=pvF 0 Try.func91 (c5p.if_hit γ.g o l.length (k:Int) h g1) ⟨a_loop plain91 (.add (.add (.add (.add (.nil _) rfl) rfl) rfl) rfl) h3 h4,trivial⟩
  have ik:x.idle (l.take k)=l.take k:=by
   rw[GS.idle,List.filter_eq_self]
   intro z hz
   obtain⟨i,hi⟩:=List.mem_iff_getElem?.1 hz
   rw[List.getElem?_take] at hi
   split at hi
   ·rename_i hik;rw[h1 i z (by omega) hik hi];rfl
   ·cases hi
  have ik1:x.idle (l.take (k+1))=l.take k:=by
   rw[List.take_add_one,hy,GS.idle,List.filter_append]
   have:=ik;simp only[GS.idle] at this
   rw[this];simp[py]
  have lk:(l.take k).length=k:=by simp;omega
  obtain⟨E2,g2,C,K2,b,o2,c1,c2,c3,e2,l2⟩:=del_loop ok hc W (junk:=junk) hl hof (l.drop (k+1)) (k+1) (inL l++junk)
   [(6,.int .i64 (Int.ofNat (k+1))),(5,.int .i64 (Int.ofNat (x.idle (l.take (k+1))).length)),(0,.slice (some ⟨o,0,none⟩) l.length 1),(1,PF22 γ)] g1 rfl (by omega) (a.grow K1) (K1.get ho) (by simp[inL_len])
   (by rw[ik1,lk,List.take_append_of_le_length (by rw[inL_len];omega)];simp[inL])
   (by rw[List.drop_append_of_le_length (by rw[inL_len];omega)];simp[inL]) (EnvLe.refl _)
  have hlt:(x.idle l).length<l.length:=by
   have h5:l=l.take k++y::l.drop (k+1):=split_at hy
   have h6:x.idle l=x.idle (l.take k)++x.idle (l.drop (k+1)):=by
    conv=>lhs;rw[h5]
    simp[GS.idle,List.filter_append,py]
   have h7:(x.idle (l.drop (k+1))).length<=(l.drop (k+1)).length:=List.length_filter_le _ _
   rw[h6,ik,List.length_append,lk]
   rw[List.length_drop] at h7;omega
  refine⟨_,_,pvF 0 Try.func81 (c5p.df γ.g o l.length (k:Int) (Int.ofNat (k+1)) (x.idle l).length (C.take (x.idle l).length++List.replicate (l.length-(x.idle l).length) (.int .i64 0)++C.drop l.length) h g1 g2)
   ⟨R1,eqF (by omega),addI (by simp only[Int.ofNat_eq_natCast];omega) (by simp only[Int.ofNat_eq_natCast];omega) (by simp only[Int.ofNat_eq_natCast];omega),
    a_loop plain81 (.add (.add (.add (.add (.nil _) rfl) rfl) (by rw[ik1,lk];rfl)) rfl |> fun q=>q) e2 l2,a_cut3 il,a_clr o2 hlt (by omega),a_cut il,trivial⟩,?_,gE o2,?_,?_⟩
  ·exact ((K1.mono fun _ _ e=>e.elim).trans K2).trans (Keep.set (fp:=fun q=>q=o) rfl _)
  ·rw[List.append_assoc,List.take_append,List.take_of_length_le (by simp;omega)]
   have:(x.idle l).length-(C.take (x.idle l).length).length=0:=by simp;omega
   rw[this,List.take_zero,List.append_nil];exact c2
  ·simp;omega
 ·have R1:=pvF 0 Try.func91 (c5p.if_no γ.g o l.length [] h g1) ⟨a_loop plain91 (.add (.add (.add (.add (.nil _) rfl) rfl) rfl) rfl) (.nil _) h4,trivial⟩
  have ik:x.idle l=l:=by
   rw[GS.idle,List.filter_eq_self]
   intro z hz
   obtain⟨i,hi⟩:=List.mem_iff_getElem?.1 hz
   rw[h1 i z (by omega) hi];rfl
  rw[ik]
  exact⟨g1,_,pvF 0 Try.func81 (c5p.df_no γ.g o l.length (Int.negSucc 0) h g1) ⟨R1,eqT rfl,trivial⟩,K1.mono fun _ _ e=>e.elim,K1.get ho,by rw[List.take_append_of_le_length (by rw[inL_len];omega),List.take_of_length_le (by rw[inL_len];omega)],by rw[List.length_append,inL_len];omega⟩
end
end Go.Proofs.Ytlonjogfeidgfaa.gr
namespace Go.Proofs.Ytlonjogfeidgfaa.gr
open Go Go.Ev Go.Proofs.Ytlonjogfeidgfaa.tr
set_option maxRecDepth 100000
set_option linter.unusedVariables false
set_option linter.constructorNameAsVariable false
def GS.mks(x:GS):Bool->List Int
 | true=>x.tm
 | false=>x.sm
def GS.mark(x:GS)(n:Int):Bool->GS
 | true=>{ x with tm:=x.tm++[n] }
 | false=>{ x with sm:=x.sm++[n] }
def GL.mp(γ:GL):Bool->Nat
 | true=>γ.m
 | false=>γ.n
def efP(n:Int):Ef:=⟨2,n,0,0,⟨#[]⟩⟩
def GS.strike(x:GS)(b:Bool)(n:Int)(l:List Int):GS×List Ef :=
 if n∈x.mks b then (x,[]) else (x.mark n b,((x.idle l).filter (x.mark n b).pend).map efP)
section
variable {h h' g:Hp} {ρ ρ' ρ1:Lay} {γ γ' γ1:GL} {x:GS} {t':TS} {c:Nat}
theorem GAt.lt(a:GAt h ρ γ x){q:Nat}(e:fpG ρ γ q):q<h.length:=by
 rcases e with⟨r,e⟩ | e | e | e | e
 ·exact a.tat.lt e
 ·subst e;exact get_lt a.obj
 ·subst e;exact get_lt a.tmo
 ·subst e;exact get_lt a.smo
 ·obtain⟨j,hj⟩:=a.duo q e;exact get_lt hj
theorem GAt.mpo(a:GAt h ρ γ x)(b:Bool):h[γ.mp b]?=some (.mp (mks (x.mks b))):=by cases b<;>first | exact a.tmo | exact a.smo
theorem fp_mp(ρ:Lay)(γ:GL)(b:Bool):fpG ρ γ (γ.mp b):=by cases b<;>simp[fpG,GL.mp]
theorem GAt.mark(a:GAt h ρ γ x)(n:Int)(b:Bool):GAt (h.set (γ.mp b) (.mp (mks (x.mks b++[n])))) ρ γ (x.mark n b):=by
 have hm:γ.mp b≠γ.g:=fun e=>by have:=a.mpo b;rw[e,a.obj] at this;cases this
 have hd:∀ d,γ.d=some d->γ.mp b≠d:=fun d e f=>by obtain⟨j,hj⟩:=a.duo d e;have:=a.mpo b;rw[f,hj] at this;cases this
 have ht:¬ fpT ρ (γ.mp b):=by cases b<;>first | exact a.fm | exact a.fn
 have T:=a.tat.keep (Keep.set (fp:=fun q=>q=γ.mp b) (h:=h) rfl (.mp (mks (x.mks b++[n])))) fun q e=>e▸ht
 cases b with
 | true=>exact⟨T,gNq a.obj hm,gE a.tmo,gNq a.smo a.mn,fun d e=>let ⟨j,hj⟩:=a.duo d e;⟨j,gNq hj (hd d e)⟩,a.dun,a.fg,a.fm,a.fn,a.fd,a.mn,a.gd⟩
 | false=>exact⟨T,gNq a.obj hm,gNq a.tmo a.mn.symm,gE a.smo,fun d e=>let ⟨j,hj⟩:=a.duo d e;⟨j,gNq hj (hd d e)⟩,a.dun,a.fg,a.fm,a.fn,a.fd,a.mn,a.gd⟩
theorem strk_loop(ok:TOk c x.t)(hc:c<=1000)(W:WI none x.t){p:List Int}{o lo:Nat}{C:List Value}(hp:p.length<=100000)(hC:C.take p.length=inL p)(hol:o<lo):∀ (m:List Int) (j:Nat) (A:List Ef) (v:Value) (E:Env) (g:Hp),p.drop j=m->A.length<=j->GAt g ρ γ x->g[o]?=some (.cells C true)->(∀ q,fpG ρ γ q->q<lo)->lo<=g.length ->
  SlV g lo v A.length 5 (efC A)->EnvLe [(23,.int .i64 (j:Int)),(22,.int .i64 (Int.ofNat p.length)),(21,.slice (some ⟨o,0,none⟩) p.length 1),(9,v),(0,ptr γ.g)] E ->
  ∃ E1 g1 v1,Keep (fun q=>lo<=q) g g1/\SlV g1 lo v1 (A++(m.filter x.pend).map efP).length 5 (efC (A++(m.filter x.pend).map efP))/\EnvLe [(9,v1)] E1/\LRun Try.prog 37 false (loopN Try.f56 0) E g (.exit 0) E1 g1
 | [],j,A,v,E,g,hm,hA,a,ho,hf,hlo,sv,hE=>by
  have hj:p.length<=j:=List.drop_eq_nil_iff.1 hm
  obtain⟨E1,q1,q2⟩:=pvC 0 (.trans (.add (.add (.add (.nil _) rfl) rfl) rfl) hE) (c5p.sl_out (j:Int) (Int.ofNat p.length) v g) ⟨ltF (by simp only[Int.ofNat_eq_natCast];omega),trivial⟩
  exact⟨E1,g,v,Keep.refl _ _,by simpa using sv,.trans (.add (.nil _) rfl) q1,.last q2 (by simp)⟩
 | y::m,j,A,v,E,g,hm,hA,a,ho,hf,hlo,sv,hE=>by
  have hj:p[j]?=some y:=by rw[<- List.head?_drop,hm];rfl
  have hlt:=gT hj
  have hm':p.drop (j+1)=m:=by rw[<- List.drop_drop,hm];rfl
  obtain⟨g1,R,K⟩:=pend_run a ok hc W y
  have A1:(Asm.cmp .lss (j:Int) (Int.ofNat p.length) true).holds Try.prog:=ltT (by simp only[Int.ofNat_eq_natCast];omega)
  have A2:(Asm.off j 0 (j:Int) p.length 1).holds Try.prog:=offI rfl hlt (by omega)
  have cj:C[j]?=some (.int .i64 y):=by
   have:(C.take p.length)[j]?=some (.int .i64 y):=by rw[hC];exact inL_at hj
   rw[List.getElem?_take,if_pos hlt] at this
   exact this
  have A3:(Asm.ld1 (.is g) o j (.int .i64 y)).holds Try.prog:=aL ho cj
  have N1:(Asm.arith .add .i64 (j:Int) 1 ((j+1:Nat):Int)).holds Try.prog:=addI (by omega) (by omega) (by omega)
  have sv1:SlV g1 lo v A.length 5 (efC A):=by
   rcases sv with h | ⟨h1,h2,e,h3,h4,h5⟩
   ·exact .inl h
   ·exact .inr ⟨h1,h2,e,h3,K.get h4,h5⟩
  have hlo1:lo<=g1.length:=Nat.le_trans hlo K.1
  have up:∀ {E1:Env} {g2:Hp} {A':List Ef} {v':Value},A'++(m.filter x.pend).map efP=A++((y::m).filter x.pend).map efP->A'.length<=j+1->Keep (fun q=>lo<=q) g g2->SlV g2 lo v' A'.length 5 (efC A') ->
    EnvLe [(23,.int .i64 ((j+1:Nat):Int)),(22,.int .i64 (Int.ofNat p.length)),(21,.slice (some ⟨o,0,none⟩) p.length 1),(9,v'),(0,ptr γ.g)] E1->CRun Try.prog 37 false (loopN Try.f56 0) E g .normal E1 g2 ->
    ∃ E1 g1 v1,Keep (fun q=>lo<=q) g g1/\SlV g1 lo v1 (A++((y::m).filter x.pend).map efP).length 5 (efC (A++((y::m).filter x.pend).map efP))/\EnvLe [(9,v1)] E1/\LRun Try.prog 37 false (loopN Try.f56 0) E g (.exit 0) E1 g1:=by
   intro E1 g2 A' v' eA hA' K2 sv2 hE1 hc1
   obtain⟨E2,g3,v3,K3,s3,e3,l3⟩:=strk_loop ok hc W hp hC hol m (j+1) A' v' E1 g2 hm' hA' (a.keep K2 fun q h1 h2=>by have:=hf q h2;omega) (K2.2 _ _ ho (by omega)) hf (Nat.le_trans hlo K2.1) sv2 hE1
   rw[eA] at s3
   exact⟨E2,g3,v3,K2.trans K3,s3,e3,.step hc1 l3⟩
  cases e:x.pend y with
  | false =>
   rw[e] at R
   have eA:A++(m.filter x.pend).map efP=A++((y::m).filter x.pend).map efP:=by simp[e]
   obtain⟨oa,cnt,za,rfl⟩:∃ oa cnt za,v=.slice oa cnt za:=by
    rcases sv with⟨_,_,h⟩ | ⟨_,_,e,h,_⟩<;>exact⟨_,_,_,h⟩
   obtain⟨E1,q1,q2⟩:=pvC 0 hE (c5p.sl_no γ.g o p.length j 0 0 cnt (j:Int) ((j+1:Nat):Int) y oa za [] [] g g1) ⟨A1,A2,A3,R,N1,trivial⟩
   exact up eA (by omega) (K.mono fun _ _ e=>e.elim) sv1 (.trans (.add (.add (.add (.add (.add (.nil _) rfl) rfl) rfl) rfl) rfl) q1) q2
  | true =>
   rw[e] at R
   have eA:(A++[efP y])++(m.filter x.pend).map efP=A++((y::m).filter x.pend).map efP:=by simp[e]
   have ec:efC (A++[efP y])=efC A++(efP y).cells:=by rw[efC_app];simp[efC]
   rcases sv1 with⟨h1,h2,rfl⟩ | ⟨h1,h2,d,rfl,h4,h5⟩
   ·have A0:A=[]:=List.length_eq_zero_iff.1 h1
    obtain⟨E1,q1,q2⟩:=pvC 0 hE (c5p.sl_n γ.g o p.length j g1.length (g1.length+1) 0 (j:Int) ((j+1:Nat):Int) y none 0 [] [] g g1)
     ⟨A1,A2,A3,R,rfl,a_appGN rfl rfl (by omega) (gW _ _) (pL _ _),N1,trivial⟩
    refine up eA (by simp;omega) ((K.mono fun _ _ e=>e.elim).trans ((Keep.push _ _ _).trans (Keep.push _ _ _))) (.inr ⟨by simp,by rw[efC_len],g1.length+1,?_,?_,by omega⟩) (.trans (.add (.add (.add (.add (.add (.nil _) rfl) rfl) rfl) rfl) rfl) q1) q2
    ·rw[A0];rfl
    ·rw[A0];exact gV _ (pL _ _)
   ·have hd:=get_lt h4
    obtain⟨E1,q1,q2⟩:=pvC 0 hE (c5p.sl_s γ.g o p.length j g1.length (g1.length+1) A.length d (j:Int) ((j+1:Nat):Int) y (efC A++(efP y).cells) g g1)
     ⟨A1,A2,A3,R,rfl,a_appGS rfl rfl (by omega) (by omega) h2 (gP h4) (gW _ _) (pL _ _),N1,trivial⟩
    refine up eA (by simp;omega) ((K.mono fun _ _ e=>e.elim).trans (((Keep.push _ _ _).trans (Keep.set (fp:=fun q=>lo<=q) h5 _)).trans (Keep.push _ _ _))) (.inr ⟨by simp,by rw[efC_len],g1.length+1,?_,?_,by omega⟩) (.trans (.add (.add (.add (.add (.add (.nil _) rfl) rfl) rfl) rfl) rfl) q1) q2
    ·rw[List.length_append];rfl
    ·rw[ec];exact gV _ (by simp[SH.den])
theorem plain56:plainC (loopN Try.f56 0)=true:=by kernel_rfl
theorem mark_t(x:GS)(n:Int)(b:Bool):(x.mark n b).t=x.t:=by cases b<;>rfl
theorem strike_run(a:GAt h ρ γ x)(ok:TOk c x.t)(hc:c<=1000)(W:WI none x.t)(b:Bool)(n:Int){l:List Int}{o:Nat}{junk:List Value}(hl:l.length<=100000)(hof:¬ fpG ρ γ o)(ho:h[o]?=some (.cells (inL l++junk) true)) :
  ∃ v g,Run Try.prog 56 [ptr γ.g,.map (some (γ.mp b)),.int .i64 n,.slice (some ⟨o,0,none⟩) l.length 1] h v g/\GAt g ρ γ (x.strike b n l).1/\Keep (fun q=>fpG ρ γ q\/q=o) h g/\SlV g h.length v (x.strike b n l).2.length 5 (efC (x.strike b n l).2):=by
 by_cases e:n∈x.mks b
 ·rw[GS.strike,if_pos e]
  exact⟨_,h,pvF 0 Try.func56 (c5p.sk_had γ.g (γ.mp b) o l.length n h) ⟨a_lkT (a.mpo b) e,trivial⟩,a,Keep.refl _ _,.inl ⟨rfl,rfl,rfl⟩⟩
 ·rw[GS.strike,if_neg e]
  obtain⟨g1,C,R,K,o1,c1,c2⟩:=delete_run a ok hc W (Nat.le_trans hl (by omega)) hof ho
  have a1:GAt g1 ρ γ x:=a.keep K fun q e f=>hof (e▸f)
  have a2:=a1.mark n b
  have hmo:γ.mp b≠o:=fun f=>hof (f▸fp_mp ρ γ b)
  have hlen:g1.length=(g1.set (γ.mp b) (.mp (mks (x.mks b++[n])))).length:=by simp
  have hlg:=K.1
  obtain⟨E1,g2,v,K2,sv,e2,l2⟩:=strk_loop (x:=x.mark n b) (γ:=γ) (ρ:=ρ) (lo:=h.length) (by rw[mark_t];exact ok) hc (by rw[mark_t];exact W) (p:=x.idle l) (Nat.le_trans (List.length_filter_le _ _) hl) c1 (get_lt ho) (x.idle l) 0 [] (.slice none 0 0)
   [(23,.int .i64 ((0:Nat):Int)),(22,.int .i64 (Int.ofNat (x.idle l).length)),(21,.slice (some ⟨o,0,none⟩) (x.idle l).length 1),(9,.slice none 0 0),(0,ptr γ.g)] _ rfl (Nat.le_refl _) a2 (gNq o1 hmo) (fun q e=>a.lt e) (by omega) (.inl ⟨rfl,rfl,rfl⟩) (EnvLe.refl _)
  rw[List.nil_append] at sv
  refine⟨v,g2,pvF 0 Try.func56 (c5p.sk γ.g (γ.mp b) o l.length (x.idle l).length n (mks (x.mks b++[n])) v [] h g1 g2)
   ⟨a_lkF (a.mpo b) e,R,a_mup (a1.mpo b) e,a_loop plain56 (.add (.add (.add (.add (.add (.nil _) rfl) rfl) rfl) rfl) rfl) e2 l2,trivial⟩,a2.keep K2 fun q h1 h2=>by have:=a.lt h2;omega,?_,sv⟩
  exact ((K.mono fun q _ e=>.inr e).trans (Keep.set (.inl (fp_mp ρ γ b)) _)).trans_new K2 fun q hq e=>by omega
end
end Go.Proofs.Ytlonjogfeidgfaa.gr
namespace Go.Proofs.Ytlonjogfeidgfaa.gr
open Go Go.Ev Go.Proofs.Ytlonjogfeidgfaa.tr
set_option maxRecDepth 100000
set_option linter.unusedVariables false
set_option linter.constructorNameAsVariable false
def nmI(l:List Nat):List Int:=l.map fun j=>((j+1:Nat):Int)
theorem nmL_inL(l:List Nat):nmL l=inL (nmI l):=by simp[nmL,inL,nmI]
def reachO(t:TS)(n:Int):List (Option Nat)->List Int
 | []=>[n]
 | none::l=>reachO t n l
 | some s::_=>n::nmI (t.below ((s+1:Nat):Int)).1
theorem stat31:(Asm.stat (drawN Try.f31 0)).holds Try.prog:=show statOk (drawN Try.f31 0)=true by kernel_rfl
section
variable {h h' g:Hp} {ρ ρ' ρ1:Lay} {γ γ' γ1:GL} {x:GS} {t':TS} {c:Nat}
theorem reach_loop(ok:TOk c x.t)(hc:c<=1000)(W:WI none x.t)(J:WJ x.t){op:List (Option Nat)}{oo o:Nat}{nn:Int}(hl:op.length<=100000)(hof:¬ fpG ρ γ o)(hne:o≠oo):∀ (m:List (Option Nat)) (j:Nat) (E:Env) (g:Hp),op.drop j=m->GAt g ρ γ x ->
  g[oo]?=some (.cells (lkL op) true)->g[o]?=some (.cells (inL [nn]) true) ->
  EnvLe [(39,.int .i64 (j:Int)),(38,.int .i64 (Int.ofNat op.length)),(37,.slice (some ⟨oo,0,none⟩) op.length 2),(10,.slice (some ⟨o,0,none⟩) 1 1),(0,ptr γ.g),(1,.int .i64 nn)] E ->
  ∃ E1 g1 f,Keep (fun q=>q=o) g g1/\(f=o\/g.length<=f)/\g1[f]?=some (.cells (inL (reachO x.t nn m)) true)/\EnvLe [(10,.slice (some ⟨f,0,none⟩) (reachO x.t nn m).length 1),(0,ptr γ.g),(1,.int .i64 nn)] E1/\LRun Try.prog 68 false (loopN Try.f31 0) E g (.exit 0) E1 g1
 | [],j,E,g,hm,a,hoo,ho,hE=>by
  have hj:op.length<=j:=List.drop_eq_nil_iff.1 hm
  obtain⟨E1,q1,q2⟩:=pvC 0 (.trans (.add (.add (.add (.add (.add (.nil _) rfl) rfl) rfl) rfl) rfl) hE) (c8p.rl_out γ.g (j:Int) (Int.ofNat op.length) nn (.slice (some ⟨o,0,none⟩) 1 1) g) ⟨ltF (by simp only[Int.ofNat_eq_natCast];omega),trivial⟩
  exact⟨E1,g,o,Keep.refl _ _,.inl rfl,ho,.trans (.add (.add (.add (.nil _) rfl) rfl) rfl) q1,.last q2 (by simp)⟩
 | v::m,j,E,g,hm,a,hoo,ho,hE=>by
  have hj:op[j]?=some v:=by rw[<- List.head?_drop,hm];rfl
  have hlt:=gT hj
  have hm':op.drop (j+1)=m:=by rw[<- List.drop_drop,hm];rfl
  have L:((prL (op.map lkP)++[]).drop (j*2)).take 2=prC (lkP v):=prL_at [] (by rw[List.getElem?_map,hj];rfl)
  rw[List.append_nil,<- lkL_pr] at L
  have A1:(Asm.cmp .lss (j:Int) (Int.ofNat op.length) true).holds Try.prog:=ltT (by simp only[Int.ofNat_eq_natCast];omega)
  have A2:(Asm.off (j*2) 0 (j:Int) op.length 2).holds Try.prog:=offI rfl hlt (by omega)
  have A3:(Asm.ldn (.is g) oo (j*2) 2 [.int .i64 (lkK v),.int .i64 (lkN v)]).holds Try.prog:=aN hoo (by rw[lkL_len];omega) L
  obtain⟨g2,hg2⟩:∃ g2,g2=(g++[AObj.cells [.int .i64 0,.int .i64 0] true]).set g.length (.cells [.int .i64 (lkK v),.int .i64 (lkN v)] true):=⟨_,rfl⟩
  have K2:Grow g g2:=by rw[hg2];exact ((Grow.refl g).push _).set (Nat.le_refl _) _
  have bx:g2[g.length]?=some (.cells [.int .i64 (lkK v),.int .i64 (lkN v)] true):=by rw[hg2];exact gE (gW _ _)
  have A4:(Asm.st (.push (.is g) (.cells [.int .i64 0,.int .i64 0] true)) g.length 0 [.int .i64 (lkK v),.int .i64 (lkN v)] [.int .i64 (lkK v),.int .i64 (lkN v)]).holds Try.prog:=a_st (gW _ _) (by simp) rfl
  obtain⟨s2,hs2⟩:∃ s2:SH,s2=.set (.push (.is g) (.cells [.int .i64 0,.int .i64 0] true)) g.length (.cells [.int .i64 (lkK v),.int .i64 (lkN v)] true):=⟨_,rfl⟩
  have den2:s2.den=g2:=by rw[hs2,hg2];rfl
  have X:(Asm.ld1 s2 g.length 0 (.int .i64 (lkK v))).holds Try.prog:=aL (by rw[den2];exact bx) rfl
  have Y:(Asm.ld1 s2 g.length 1 (.int .i64 (lkN v))).holds Try.prog:=aL (by rw[den2];exact bx) rfl
  have ag:=a.grow K2
  obtain⟨r,hr,hp⟩:=root_ptr a
  have M0:(Asm.ld1 s2 γ.g 0 (ptr r)).holds Try.prog:=aL (by rw[den2];exact ag.obj) (by rw[hp];rfl)
  cases v with
  | none =>
   have N1:(Asm.arith .add .i64 (j:Int) 1 ((j+1:Nat):Int)).holds Try.prog:=addI (by omega) (by omega) (by omega)
   subst hs2
   obtain⟨E1,q1,q2⟩:=pvC 0 hE (c8p.rl_no γ.g 0 oo op.length (j*2) g.length 0 0 0 0 0 (j:Int) ((j+1:Nat):Int) 3 0 nn 0 (.slice (some ⟨o,0,none⟩) 1 1) [] [] g g) ⟨A1,A2,A3,rfl,A4,X,eqF (by omega),N1,trivial⟩
   have q2':CRun Try.prog 68 false (loopN Try.f31 0) E g .normal E1 g2:=by rw[hg2];exact q2
   obtain⟨E2,g3,f,K3,f1,f2,e2,l2⟩:=reach_loop ok hc W J hl hof hne m (j+1) E1 g2 hm' ag (K2.get hoo) (K2.get ho) (.trans (.add (.add (.add (.add (.add (.add (.nil _) rfl) rfl) rfl) rfl) rfl) rfl) q1)
   exact⟨E2,g3,f,(K2.mono fun _ _ e=>e.elim).trans K3,f1.imp id fun e=>Nat.le_trans K2.1 e,f2,e2,.step q2' l2⟩
  | some s =>
   obtain⟨w,g3,R,K3,sv⟩:=below_run ag.tat ok hc W J hr ((s+1:Nat):Int)
   rw[<- den2] at R
   have ho3:g3[o]?=some (.cells (inL [nn]) true):=K3.2 _ _ (K2.get ho) id
   subst hs2
   rcases sv with⟨h1,h2,rfl⟩ | ⟨h1,h2,d,rfl,h4,h5⟩
   ·have e0:(x.t.below ((s+1:Nat):Int)).1=[]:=List.length_eq_zero_iff.1 h1
    obtain⟨E1,q1,q2⟩:=pvC 0 hE (c8p.rl_sc0 γ.g r oo op.length (j*2) g.length o 0 0 0 0 (j:Int) 0 2 ((s+1:Nat):Int) nn (x.t.below ((s+1:Nat):Int)).2 undef [] [] g g3) ⟨A1,A2,A3,rfl,A4,X,eqT rfl,stat31,M0,Y,R,trivial⟩
    have er:reachO x.t nn (some s::m)=[nn]:=by simp only[reachO,e0];rfl
    rw[er]
    exact⟨E1,g3,o,(K2.trans K3).mono fun _ _ e=>e.elim,.inl rfl,ho3,.trans (.add (.add (.add (.nil _) rfl) rfl) rfl) q1,.last q2 (by simp)⟩
   ·obtain⟨k',hk'⟩:∃ k',(x.t.below ((s+1:Nat):Int)).1.length=k'+1:=⟨(x.t.below ((s+1:Nat):Int)).1.length-1,by omega⟩
    have hb:k'<=1000000:=by
     rcases hq:x.t.scope ((s+1:Nat):Int) with⟨s' | s',e⟩
     ·exact absurd (by simp only[TS.below,hq];rfl) h1
     ·obtain⟨_,_,hs⟩:=scope_some hq
      have:=below_len ok W J hs
      simp only[TS.below,hq] at hk'
      omega
    rw[hk'] at R
    obtain⟨E1,q1,q2⟩:=pvC 0 hE (c8p.rl_sc γ.g r oo op.length (j*2) g.length o d (k'+1) k' g3.length (j:Int) 0 2 ((s+1:Nat):Int) nn (x.t.below ((s+1:Nat):Int)).2 undef (inL [nn]++nmL (x.t.below ((s+1:Nat):Int)).1) (nmL (x.t.below ((s+1:Nat):Int)).1) g g3)
     ⟨A1,A2,A3,rfl,A4,X,eqT rfl,stat31,M0,Y,R,a_appSJ (junk:=[]) (junk2:=[]) (by rw[List.append_nil];exact ho3) rfl (by rw[List.append_nil];exact h4) (by rw[nmL_len,hk'];omega) (by rw[nmL_inL];simp[inL,Value.oneCell']) (by omega) hb (by omega) rfl,trivial⟩
    have er:inL (reachO x.t nn (some s::m))=inL [nn]++nmL (x.t.below ((s+1:Nat):Int)).1:=by rw[nmL_inL];rfl
    have el:(reachO x.t nn (some s::m)).length=1+(k'+1):=by simp only[reachO,nmI,List.length_cons,List.length_map,hk'];omega
    have hdo:d≠o:=fun e=>by have:=get_lt (K2.get ho);omega
    refine⟨E1,_,g3.length,((K2.trans K3).mono fun _ _ e=>e.elim).trans ((Keep.set (fp:=fun q=>q=o) rfl _).trans (Keep.push _ _ _)),.inr (Nat.le_trans K2.1 K3.1),by rw[er];exact gV _ (by simp[SH.den]),?_,.last q2 (by simp)⟩
    rw[el]
    exact .trans (.add (.add (.add (.nil _) rfl) rfl) rfl) q1
theorem plain31:plainC (loopN Try.f31 0)=true:=by kernel_rfl
def GS.strikeT(x:GS)(n:Int):GS×List Ef×Int :=
 if (x.t.chain n).2≠0 then (x,[],(x.t.chain n).2) else ((x.strike true n (reachO x.t n (x.t.task n).1.op)).1,(x.strike true n (reachO x.t n (x.t.task n).1.op)).2,0)
theorem reach_len(ok:TOk c t')(W:WI none t')(J:WJ t')(n:Int):∀ l,(reachO t' n l).length<=100000
 | []=>by simp[reachO]
 | none::l=>reach_len ok W J n l
 | some s::l=>by
  simp only[reachO,nmI,List.length_cons,List.length_map]
  rcases hq:t'.scope ((s+1:Nat):Int) with⟨s' | s',e⟩
  ·simp only[TS.below,hq,List.length_nil];omega
  ·obtain⟨_,_,hs⟩:=scope_some hq
   have:=below_len ok W J hs
   simp only[TS.below,hq]
   omega
theorem task_op_len(ok:TOk c t')(hc:c<=1000)(n:Int):(t'.task n).1.op.length<=1000:=by
 unfold TS.task
 split
 ·simp[TkV.zero]
 ·split
  ·rename_i y hy
   have:=ok.len _ y hy
   simp only[tkV];omega
  ·simp[TkV.zero]
theorem strikeT_run(a:GAt h ρ γ x)(ok:TOk c x.t)(hc:c<=1000)(W:WI none x.t)(J:WJ x.t)(n:Int) :
  ∃ v g,Run Try.prog 31 [ptr γ.g,.int .i64 n] h (.tuple #[v,.int .i64 (x.strikeT n).2.2]) g/\GAt g ρ γ (x.strikeT n).1/\GStep ρ γ h ρ γ g/\SlV g h.length v (x.strikeT n).2.1.length 5 (efC (x.strikeT n).2.1):=by
 obtain⟨r,hr,hp⟩:=root_ptr a
 obtain⟨v1,g1,q1,K1,_⟩:=chain_run a.tat ok hc W hr n
 have T:=tree_run a hr
 by_cases e0:(x.t.chain n).2=0
 ·have es:x.strikeT n=((x.strike true n (reachO x.t n (x.t.task n).1.op)).1,(x.strike true n (reachO x.t n (x.t.task n).1.op)).2,0):=by rw[GS.strikeT,if_neg (fun e=>e e0)]
  rw[es]
  rw[e0] at q1
  have a1:=a.grow K1
  obtain⟨v2,g2,q2,K2,sv⟩:=task_run a1.tat ok (by omega) hr n
  have a2:=a1.grow K2
  have hlen:=task_op_len ok hc n
  obtain⟨w,hw⟩:∃ w,w=x.t.task n:=⟨_,rfl⟩
  rw[<- hw] at q2 sv hlen ⊢
  obtain⟨⟨sc,en,lv,fk,ft,op⟩,er⟩:=w
  simp only[TkV.C] at q2 sv hlen ⊢
  have lr:=reach_len ok W J n op
  obtain⟨g3,hg3⟩:∃ g3,g3=((g2++[AObj.cells [.int .i64 0,.bool false,.bool false,.int .i64 0,.string { data:=#[] },.slice none 0 0] true]).set g2.length (.cells [.int .i64 sc,.bool en,.bool lv,.int .i64 fk,.string ft,v2] true))++[AObj.cells [.int .i64 n] true]:=⟨_,rfl⟩
  have K3:Grow g2 g3:=by rw[hg3];exact (((Grow.refl g2).push _).set (Nat.le_refl _) _).push _
  have l3:g3.length=g2.length+2:=by rw[hg3];simp
  have a3:=a2.grow K3
  have K13:Grow h g3:=(K1.trans K2).trans K3
  have ho:g3[g2.length+1]?=some (.cells (inL [n]) true):=by rw[hg3];exact gV _ (by simp)
  have hbx:g3[g2.length]?=some (.cells [.int .i64 sc,.bool en,.bool lv,.int .i64 fk,.string ft,v2] true):=by rw[hg3];exact gP (gE (gW _ _))
  have hof:¬ fpG ρ γ (g2.length+1):=fun e=>by have:=a2.lt e;omega
  have fin:∀ {E1:Env} {g4:Hp} {f:Nat} (E0:Env) (s3:SH),s3.den=g3->Keep (fun q=>q=g2.length+1) g3 g4->(f=g2.length+1\/g3.length<=f)->g4[f]?=some (.cells (inL (reachO x.t n op)) true) ->
    ∃ ev g5,Run Try.prog 56 [ptr γ.g,.map (some γ.m),.int .i64 n,.slice (some ⟨f,0,none⟩) (reachO x.t n op).length 1] g4 ev g5/\(Asm.ld1 (.is g4) γ.g 1 (.map (some γ.m))).holds Try.prog /\
     GAt g5 ρ γ (x.strike true n (reachO x.t n op)).1/\GStep ρ γ h ρ γ g5/\SlV g5 h.length ev (x.strike true n (reachO x.t n op)).2.length 5 (efC (x.strike true n (reachO x.t n op)).2):=by
   intro E1 g4 f E0 s3 _ K4 f1 f2
   have a4:GAt g4 ρ γ x:=a3.keep K4 fun q e=>e▸hof
   have hff:¬ fpG ρ γ f:=fun e=>by have:=a.lt e;have:=K13.1;have:=K1.1;have:=K2.1;omega
   obtain⟨ev,g5,R5,a5,K5,sv5⟩:=strike_run a4 ok hc W true n (junk:=[]) lr hff (by simpa using f2)
   have lh:h.length<=g4.length:=Nat.le_trans K13.1 K4.1
   refine⟨ev,g5,R5,aL a4.obj rfl,a5,⟨?_,fun q e=>.inl e,rfl⟩,?_⟩
   ·have k1:Keep (fpG ρ γ) h g4:=(K13.mono (fp':=fpG ρ γ) fun _ _ e=>e.elim).trans_new K4 fun q hq e=>by have:=K1.1;have:=K2.1;omega
    exact k1.trans_new K5 fun q hq e=>e.elim id fun e=>by have:=K1.1;have:=K2.1;omega
   ·rcases sv5 with h | ⟨h1,h2,o,h3,h4,h5⟩
    ·exact .inl h
    ·exact .inr ⟨h1,h2,o,h3,h4,by omega⟩
  have st:∀ w,v2=w->(Asm.st (.push (.is g2) (.cells [.int .i64 0,.bool false,.bool false,.int .i64 0,.string { data:=#[] },.slice none 0 0] true)) g2.length 0 [.int .i64 sc,.bool en,.bool lv,.int .i64 fk,.string ft,w] [.int .i64 sc,.bool en,.bool lv,.int .i64 fk,.string ft,w]).holds Try.prog:=fun w _=>a_st (gW _ _) (by simp) rfl
  have M0:(Asm.ld1 (.is g1) γ.g 0 (ptr r)).holds Try.prog:=aL a1.obj (by rw[hp];rfl)
  rcases sv with⟨h1,h2,rfl⟩ | ⟨h1,h2,oo,rfl,h4,h5⟩
  ·have o0:op=[]:=List.length_eq_zero_iff.1 h1
   subst o0
   obtain⟨ev,g5,R5,L5,a5,S5,sv5⟩:=fin (E1:=[]) (g4:=g3) (f:=g2.length+1) [] (.is g3) rfl (Keep.refl _ _) (.inl rfl) ho
   obtain⟨E2,p1,p2⟩:=pvC 0 (EnvLe.refl [(39,.int .i64 0),(38,.int .i64 0),(10,.slice (some ⟨g2.length+1,0,none⟩) 1 1),(0,ptr γ.g),(1,.int .i64 n)]) (c8p.rl_out γ.g 0 0 n (.slice (some ⟨g2.length+1,0,none⟩) 1 1) g3) ⟨ltF (Int.le_refl _),trivial⟩
   subst hg3
   exact⟨ev,g5,pvF 0 Try.func31 (c8p.st_nil γ.g r g2.length (g2.length+1) 0 γ.m 0 n sc fk er en lv ft v1 (.slice (some ⟨g2.length+1,0,none⟩) 1 1) ev [] h g1 g2 _ g5)
    ⟨T,q1,neF rfl,M0,q2,rfl,st _ rfl,by simp[Asm.holds,SH.den],aL hbx rfl,a_loop plain31 (.add (.add (.add (.add (.add (.nil _) rfl) rfl) rfl) rfl) rfl) (.trans (.add (.add (.add (.nil _) rfl) rfl) rfl) p1) (.last p2 (by simp)),L5,R5,trivial⟩,a5,S5,sv5⟩
  ·obtain⟨E4,g4,f,K4,f1,f2,e4,l4⟩:=reach_loop ok hc W J (op:=op) (oo:=oo) (o:=g2.length+1) (nn:=n) (Nat.le_trans hlen (by omega)) hof (by have:=get_lt h4;omega) op 0
    [(39,.int .i64 ((0:Nat):Int)),(38,.int .i64 (Int.ofNat op.length)),(37,.slice (some ⟨oo,0,none⟩) op.length 2),(10,.slice (some ⟨g2.length+1,0,none⟩) 1 1),(0,ptr γ.g),(1,.int .i64 n)] g3 rfl a3 (K3.get h4) ho (EnvLe.refl _)
   obtain⟨ev,g5,R5,L5,a5,S5,sv5⟩:=fin (E1:=E4) [] (.is g3) rfl K4 f1 f2
   subst hg3
   exact⟨ev,g5,pvF 0 Try.func31 (c8p.st_go γ.g r g2.length (g2.length+1) op.length γ.m oo n sc fk er en lv ft v1 (.slice (some ⟨f,0,none⟩) (reachO x.t n op).length 1) ev [] h g1 g2 g4 g5)
    ⟨T,q1,neF rfl,M0,q2,rfl,st _ rfl,by simp[Asm.holds,SH.den],aL hbx rfl,a_loop plain31 (.add (.add (.add (.add (.add (.add (.nil _) rfl) rfl) rfl) rfl) rfl) rfl) e4 l4,L5,R5,trivial⟩,a5,S5,sv5⟩
 ·have es:x.strikeT n=(x,[],(x.t.chain n).2):=by rw[GS.strikeT,if_pos e0]
  rw[es]
  exact⟨_,g1,pvF 0 Try.func31 (c8p.st_err γ.g r n _ v1 h g1) ⟨T,q1,neT e0,trivial⟩,a.grow K1,.grow K1,.inl ⟨rfl,rfl,rfl⟩⟩
end
end Go.Proofs.Ytlonjogfeidgfaa.gr
namespace Go.Proofs.Ytlonjogfeidgfaa.gr
open Go Go.Ev Go.Proofs.Ytlonjogfeidgfaa.tr
set_option maxRecDepth 100000
set_option linter.unusedVariables false
set_option linter.constructorNameAsVariable false
def GS.strikes(x:GS)(n:Int):GS×List Ef:=x.strike false n ((x.t.sco n).1.ow::nmI (x.t.below n).1)
def GS.turned:GS->List Ef->GS×List Ef
 | x,[]=>(x,[])
 | x,e::l=>if e.kind=1 then (((x.strikes e.n).1.turned l).1,(x.strikes e.n).2++((x.strikes e.n).1.turned l).2) else ((x.turned l).1,e::(x.turned l).2)
theorem strike_t(x:GS)(b:Bool)(n:Int)(l:List Int):(x.strike b n l).1.t=x.t:=by
 unfold GS.strike;split
 ·rfl
 ·exact mark_t x n b
theorem turned_t:∀ (l:List Ef) (x:GS),(x.turned l).1.t=x.t
 | [],x=>rfl
 | e::l,x=>by
  rw[GS.turned];split
  ·rw[turned_t l];exact strike_t _ _ _ _
  ·exact turned_t l x
theorem strike_len(x:GS)(b:Bool)(n:Int)(l:List Int):(x.strike b n l).2.length<=l.length:=by
 unfold GS.strike;split
 ·simp
 ·simp only[List.length_map]
  exact Nat.le_trans (List.length_filter_le _ _) (List.length_filter_le _ _)
theorem stat55:(Asm.stat (drawN Try.f55 0)).holds Try.prog:=show statOk (drawN Try.f55 0)=true by kernel_rfl
theorem agg84:aggSize Try.prog 84=some none:=by kernel_rfl
section
variable {h h' g:Hp} {ρ ρ' ρ1:Lay} {γ γ' γ1:GL} {x:GS} {t':TS} {c:Nat}
theorem below_lim(ok:TOk c t')(W:WI none t')(J:WJ t')(n:Int):(t'.below n).1.length<=64:=by
 rcases hq:t'.scope n with⟨s' | s',e⟩
 ·simp only[TS.below,hq,List.length_nil];omega
 ·obtain⟨_,_,hs⟩:=scope_some hq
  have:=below_len ok W J hs
  simp only[TS.below,hq];omega
theorem strikes_len(ok:TOk c x.t)(W:WI none x.t)(J:WJ x.t)(n:Int):(x.strikes n).2.length<=65:=by
 have h1:=strike_len x false n ((x.t.sco n).1.ow::nmI (x.t.below n).1)
 have h2:=below_lim ok W J n
 simp only[List.length_cons,nmI,List.length_map] at h1
 exact Nat.le_trans h1 (by omega)
theorem strikes_run(a:GAt h ρ γ x)(ok:TOk c x.t)(hc:c<=1000)(W:WI none x.t)(J:WJ x.t)(n:Int) :
  ∃ v g,Run Try.prog 55 [ptr γ.g,.int .i64 n] h v g/\GAt g ρ γ (x.strikes n).1/\GStep ρ γ h ρ γ g/\SlV g h.length v (x.strikes n).2.length 5 (efC (x.strikes n).2):=by
 obtain⟨r,hr,hp⟩:=root_ptr a
 obtain⟨v1,g1,q1,K1,sv1⟩:=sco_run a.tat ok (by omega) hr n
 have a1:=a.grow K1
 obtain⟨oa,ln,za,rfl⟩:∃ oa ln za,v1=.slice oa ln za:=by
  rcases sv1 with⟨_,_,h⟩ | ⟨_,_,e,h,_⟩<;>exact⟨_,_,_,h⟩
 obtain⟨w,hw⟩:∃ w,w=x.t.sco n:=⟨_,rfl⟩
 have es:x.strikes n=x.strike false n (w.1.ow::nmI (x.t.below n).1):=by rw[hw];rfl
 rw[<- hw] at q1
 obtain⟨⟨ow,su,ov,tk,fk,ft⟩,er⟩:=w
 simp only[ScV.C] at q1
 simp only at es
 obtain⟨g2,hg2⟩:∃ g2,g2=(g1++[AObj.cells [.int .i64 0,.bool false,.bool false,.slice none 0 0,.int .i64 0,.string { data:=#[] }] true]).set g1.length (.cells [.int .i64 ow,.bool su,.bool ov,.slice oa ln za,.int .i64 fk,.string ft] true):=⟨_,rfl⟩
 have K2:Grow g1 g2:=by rw[hg2];exact ((Grow.refl g1).push _).set (Nat.le_refl _) _
 have bx:g2[g1.length]?=some (.cells [.int .i64 ow,.bool su,.bool ov,.slice oa ln za,.int .i64 fk,.string ft] true):=by rw[hg2];exact gE (gW _ _)
 have a2:=a1.grow K2
 obtain⟨bv,g3,q3,K3,sv3⟩:=below_run a2.tat ok hc W J hr n
 have a3:=a2.grow K3
 have M0:(Asm.ld1 (.is h) γ.g 0 (ptr r)).holds Try.prog:=aL a.obj (by rw[hp];rfl)
 have st:(Asm.st (.push (.is g1) (.cells [.int .i64 0,.bool false,.bool false,.slice none 0 0,.int .i64 0,.string { data:=#[] }] true)) g1.length 0 [.int .i64 ow,.bool su,.bool ov,.slice oa ln za,.int .i64 fk,.string ft] [.int .i64 ow,.bool su,.bool ov,.slice oa ln za,.int .i64 fk,.string ft]).holds Try.prog:=a_st (gW _ _) (by simp) rfl
 have M1:∀ s:SH,s.den=g2->(Asm.ld1 s γ.g 0 (ptr r)).holds Try.prog:=fun s e=>aL (by rw[e];exact a2.obj) (by rw[hp];rfl)
 have bx3:g3[g1.length]?=some (.cells [.int .i64 ow,.bool su,.bool ov,.slice oa ln za,.int .i64 fk,.string ft] true):=K3.2 _ _ bx id
 have X:(Asm.ld1 (.is g3) g1.length 0 (.int .i64 ow)).holds Try.prog:=aL bx3 rfl
 have M3:(Asm.ld1 (.is g3) γ.g 2 (.map (some γ.n))).holds Try.prog:=aL a3.obj rfl
 have G3:∀ s:SH,Grow g3 s.den->(Asm.again s 84 (.pointer (some ⟨γ.g,2,none⟩)) (.map (some γ.n))).holds Try.prog:=fun s K=>a_again1 agg84 (K.get a3.obj) rfl rfl
 have lh:h.length<=g3.length:=Nat.le_trans K1.1 (Nat.le_trans K2.1 K3.1)
 have K13:Grow h g3:=(K1.trans K2).trans K3
 have bl:=below_lim ok W J n
 have fin:∀ {g4:Hp} {f:Nat},Grow g3 g4->g3.length<=f->g4[f]?=some (.cells (inL (ow::nmI (x.t.below n).1)) true) ->
   ∃ ev g5,Run Try.prog 56 [ptr γ.g,.map (some γ.n),.int .i64 n,.slice (some ⟨f,0,none⟩) (ow::nmI (x.t.below n).1).length 1] g4 ev g5/\GAt g5 ρ γ (x.strikes n).1/\GStep ρ γ h ρ γ g5/\SlV g5 h.length ev (x.strikes n).2.length 5 (efC (x.strikes n).2):=by
  intro g4 f K4 f1 f2
  have a4:=a3.grow K4
  have hff:¬ fpG ρ γ f:=fun e=>by have:=a.lt e;omega
  obtain⟨ev,g5,R5,a5,K5,sv5⟩:=strike_run a4 ok hc W false n (l:=ow::nmI (x.t.below n).1) (junk:=[]) (by simp only[nmI,List.length_cons,List.length_map];omega) hff (by rw[List.append_nil];exact f2)
  rw[es]
  refine⟨ev,g5,R5,a5,⟨?_,fun q e=>.inl e,rfl⟩,?_⟩
  ·exact ((K13.trans K4).mono (fp':=fpG ρ γ) fun _ _ e=>e.elim).trans_new K5 fun q hq e=>e.elim id fun e=>by omega
  ·have:=K4.1
   rcases sv5 with h | ⟨h1,h2,o,h3,h4,h5⟩
   ·exact .inl h
   ·exact .inr ⟨h1,h2,o,h3,h4,by omega⟩
 have K4:∀ l,Grow g3 (g3++[AObj.cells l true]):=fun l=>Keep.push _ _ _
 rcases sv3 with⟨h1,h2,rfl⟩ | ⟨h1,h2,d,rfl,h4,h5⟩
 ·have e0:(x.t.below n).1=[]:=List.length_eq_zero_iff.1 h1
  obtain⟨ev,g5,R5,a5,S5,sv5⟩:=fin (g4:=g3++[AObj.cells [.int .i64 ow] true]) (f:=g3.length) (K4 _) (Nat.le_refl _) (by rw[e0];exact gW _ _)
  rw[e0] at R5
  refine⟨ev,g5,pvF 0 Try.func55 (c9p.ss_0 γ.g r g1.length g3.length γ.n 0 0 0 0 n ow fk er (x.t.below n).2 su ov ft oa ln za ev [] [] h g1 g3 g5)
   ⟨M0,q1,rfl,st,M1 _ hg2.symm,by rw[hg2] at q3;exact q3,stat55,G3 _ (Grow.refl _),G3 _ (K4 _),G3 _ (K4 _),M3,X,rfl,R5,trivial⟩,a5,S5,sv5⟩
 ·obtain⟨k',hk'⟩:∃ k',(x.t.below n).1.length=k'+1:=⟨(x.t.below n).1.length-1,by omega⟩
  have hgd:=get_lt h4
  have er2:inL (ow::nmI (x.t.below n).1)=inL [ow]++nmL (x.t.below n).1:=by rw[nmL_inL];rfl
  have el:(ow::nmI (x.t.below n).1).length=1+(k'+1):=by simp only[nmI,List.length_cons,List.length_map,hk'];omega
  have KS:Grow g3 (((g3++[AObj.cells [.int .i64 ow] true]).set g3.length .dead)++[AObj.cells (inL [ow]++nmL (x.t.below n).1) true]):=((K4 _).set (Nat.le_refl _) _).push _
  obtain⟨ev,g5,R5,a5,S5,sv5⟩:=fin (g4:=((g3++[AObj.cells [.int .i64 ow] true]).set g3.length .dead)++[AObj.cells (inL [ow]++nmL (x.t.below n).1) true]) (f:=g3.length+1) KS (by omega) (by rw[er2];exact gV _ ((sN _ _ _).trans (pL _ _)))
  rw[el] at R5
  rw[hk'] at q3
  refine⟨ev,g5,pvF 0 Try.func55 (c9p.ss_1 γ.g r g1.length g3.length γ.n d (k'+1) k' (g3.length+1) n ow fk er (x.t.below n).2 su ov ft oa ln za ev (inL [ow]++nmL (x.t.below n).1) (nmL (x.t.below n).1) h g1 g3 g5)
   ⟨M0,q1,rfl,st,M1 _ hg2.symm,by rw[hg2] at q3;exact q3,stat55,G3 _ (Grow.refl _),G3 _ (K4 _),G3 _ KS,M3,X,rfl,
    a_appSJ (junk:=[]) (junk2:=[]) (gW _ _) rfl (by rw[List.append_nil];exact gP h4) (by rw[nmL_len,hk'];omega) (by rw[nmL_inL];simp[inL,Value.oneCell']) (by omega) (by omega) (by omega) (pL _ _),R5,trivial⟩,a5,S5,sv5⟩
end
end Go.Proofs.Ytlonjogfeidgfaa.gr
namespace Go.Proofs.Ytlonjogfeidgfaa.tr
open Go Go.Ev
set_option maxRecDepth 100000
set_option linter.unusedVariables false
set_option linter.constructorNameAsVariable false
section
variable {t:TS} {c k:Nat}
theorem WJ.open(J:WJ t)(ok:TOk c t)(n:Int)(y:Bool):WJ (t.open n y).1:=by
 unfold TS.open
 split
 ·exact J
 ·rename_i k e hq
  split
  ·exact J
  ·obtain⟨_,_,x,hx,_⟩:=acts_some hq
   refine WJ.upT (t:=t.newS k y) ⟨J.inc,J.own⟩ (fun _=>rfl) (fun z hz=>?_) fun z s s' hz hi hs=>?_
   ·simp only[List.filterMap_append]
    rw[List.pairwise_append]
    refine⟨J.inc k z hz,by simp,fun a ha b hb=>?_⟩
    simp at hb
    subst hb
    obtain⟨v,hv,hv2⟩:=List.mem_filterMap.1 ha
    simp only[id] at hv2
    subst hv2
    exact ok.opn k z a hz hv
   ·rcases List.mem_append.1 hs with hs | hs
    ·exact J.own k z s s' hz hi hs
    ·simp at hs
     subst hs
     exact ok.inn k z s hz hi
theorem WJ.spawn(J:WJ t)(ok:TOk c t)(n:Int):WJ (t.spawn n).1:=by
 unfold TS.spawn
 split
 ·exact J
 ·split
  ·exact J
  ·split
   ·exact J
   ·split
    ·exact J
    ·rename_i s' _ _;exact J.add (some s')
theorem WJ.end(J:WJ t)(ok:TOk c t)(n fk:Int)(ft:ByteArray):WJ (t.end n fk ft).1:=by
 unfold TS.end
 split
 ·exact J
 ·rename_i k e hq
  have J1:WJ (t.end1 k fk ft):=(J.irrT (f:=fun x=>{ x with en:=true }) (fun _=>rfl) fun _=>rfl).irrT (f:=fun x=>{ x with fk:=fk,ft:=ft }) (fun _=>rfl) fun _=>rfl
  split
  ·exact J
  ·split
   ·exact J
   ·split
    ·exact J
    ·split
     ·exact J1
     ·split
      ·exact J
      ·refine WJ.fin ?_ _
       unfold TS.end3
       split
       ·exact J1.irrS
       ·exact WJ.blame J1.irrS _ _ _
theorem WJ.leave(J:WJ t)(ok:TOk c t)(n fk:Int)(ft:ByteArray):WJ (t.leave n fk ft).1:=by
 unfold TS.leave
 split
 ·exact J
 ·split
  ·exact J
  ·split
   ·exact J
   ·split
    ·split
     ·refine WJ.fin ?_ _
      exact ((J.blame _ _ _).irrT (f:=fun x=>{ x with lv:=true }) (fun _=>rfl) fun _=>rfl).irrT (f:=fun x=>{ x with fk:=fk,ft:=ft }) (fun _=>rfl) fun _=>rfl
     ·exact J
    ·exact J
theorem WJ.shield(J:WJ t)(ok:TOk c t)(n:Int):WJ (t.shield n).1:=by
 unfold TS.shield
 split
 ·exact J
 ·rename_i k e hq
  split
  ·split
   ·exact J
   ·refine J.upT (fun _=>rfl) (fun z hz=>?_) fun z s s' hz hi hs=>?_
    ·simp only[List.filterMap_append,List.filterMap_cons,List.filterMap_nil,id,List.append_nil]
     exact J.inc k z hz
    ·simp at hs;exact J.own k z s s' hz hi hs
  ·exact J
theorem WJ.unveil(J:WJ t)(ok:TOk c t)(n:Int):WJ (t.unveil n).1:=by
 unfold TS.unveil
 split
 ·exact J
 ·split
  ·split
   ·exact J.dropT (fun _=>rfl) fun _=>rfl
   ·exact J
  ·exact J
theorem WJ.fail(J:WJ t)(ok:TOk c t)(n fk:Int)(ft:ByteArray):WJ (t.fail n fk ft).1:=by
 unfold TS.fail
 split
 ·exact J
 ·split
  ·exact J
  ·split
   ·exact J
   ·split
    ·exact J.blame _ _ _
    ·exact J
theorem WJ.root(J:WJ t)(ok:TOk c t) :WJ t.root.1:=by
 unfold TS.root
 split
 ·exact J
 ·exact J.add none
end
end Go.Proofs.Ytlonjogfeidgfaa.tr
namespace Go.Proofs.Ytlonjogfeidgfaa.gr
open Go Go.Ev Go.Proofs.Ytlonjogfeidgfaa.tr
set_option maxRecDepth 100000
set_option linter.unusedVariables false
set_option linter.constructorNameAsVariable false
theorem ef_one(e:Ef):e.cells.all Value.oneCell'=true:=rfl
theorem efC_one:∀ l:List Ef,(efC l).all Value.oneCell'=true
 | []=>rfl
 | e::l=>by simp only[efC,List.all_append,ef_one,efC_one l,Bool.and_self]
section
variable {h h' g:Hp} {ρ ρ' ρ1:Lay} {γ γ' γ1:GL} {x:GS} {t':TS} {c:Nat}
theorem turn_loop(hc:c<=1000){l:List Ef}{oe lo:Nat}{er:Int}(hl:l.length<=1000)(hoe:¬ fpG ρ γ oe)(hol:oe<lo)(hf:∀ q,fpG ρ γ q->q<lo):∀ (m:List Ef) (j:Nat) (x:GS) (A:List Ef) (v:Value) (E:Env) (g:Hp),l.drop j=m->TOk c x.t->WI none x.t->WJ x.t->GAt g ρ γ x ->
  g[oe]?=some (.cells (efC l) true)->lo<=g.length->A.length<=65*j->SlV g lo v A.length 5 (efC A) ->
  EnvLe [(13,.int .i64 (j:Int)),(12,.int .i64 (Int.ofNat l.length)),(11,.slice (some ⟨oe,0,none⟩) l.length 5),(8,v),(0,ptr γ.g),(2,.int .i64 er)] E ->
  ∃ E1 g1 v1,Keep (fun q=>fpG ρ γ q\/lo<=q) g g1/\GAt g1 ρ γ (x.turned m).1/\SlV g1 lo v1 (A++(x.turned m).2).length 5 (efC (A++(x.turned m).2))/\EnvLe [(8,v1),(2,.int .i64 er)] E1/\LRun Try.prog 33 false (loopN Try.f64 0) E g (.exit 0) E1 g1
 | [],j,x,A,v,E,g,hm,ok,W,J,a,hoo,hlo,hA,sv,hE=>by
  have hj:l.length<=j:=List.drop_eq_nil_iff.1 hm
  obtain⟨E1,q1,q2⟩:=pvC 0 (.trans (.add (.add (.add (.add (.add (.nil _) rfl) rfl) rfl) rfl) rfl) hE) (c9p.tl_out γ.g (j:Int) (Int.ofNat l.length) er v g) ⟨ltF (by simp only[Int.ofNat_eq_natCast];omega),trivial⟩
  exact⟨E1,g,v,Keep.refl _ _,a,by simpa[GS.turned] using sv,.trans (.add (.add (.nil _) rfl) rfl) q1,.last q2 (by simp)⟩
 | y::m,j,x,A,v,E,g,hm,ok,W,J,a,hoo,hlo,hA,sv,hE=>by
  have hj:l[j]?=some y:=by rw[<- List.head?_drop,hm];rfl
  have hlt:=gT hj
  have hm':l.drop (j+1)=m:=by rw[<- List.drop_drop,hm];rfl
  have L:=efC_at hj
  obtain⟨k,n,mm,fk,ft⟩:=y
  simp only[Ef.cells] at L
  have A1:(Asm.cmp .lss (j:Int) (Int.ofNat l.length) true).holds Try.prog:=ltT (by simp only[Int.ofNat_eq_natCast];omega)
  have A2:(Asm.off (j*5) 0 (j:Int) l.length 5).holds Try.prog:=offI rfl hlt (by omega)
  have A3:(Asm.ldn (.is g) oe (j*5) 5 [.int .i64 k,.int .i64 n,.int .i64 mm,.int .i64 fk,.string ft]).holds Try.prog:=aN hoo (by rw[efC_len];omega) L
  obtain⟨g2,hg2⟩:∃ g2,g2=(g++[AObj.cells [.int .i64 0,.int .i64 0,.int .i64 0,.int .i64 0,.string { data:=#[] }] true]).set g.length (.cells [.int .i64 k,.int .i64 n,.int .i64 mm,.int .i64 fk,.string ft] true):=⟨_,rfl⟩
  have K2:Grow g g2:=by rw[hg2];exact ((Grow.refl g).push _).set (Nat.le_refl _) _
  have l2:g2.length=g.length+1:=by rw[hg2];simp
  have bx:g2[g.length]?=some (.cells [.int .i64 k,.int .i64 n,.int .i64 mm,.int .i64 fk,.string ft] true):=by rw[hg2];exact gE (gW _ _)
  have A4:(Asm.st (.push (.is g) (.cells [.int .i64 0,.int .i64 0,.int .i64 0,.int .i64 0,.string { data:=#[] }] true)) g.length 0 [.int .i64 k,.int .i64 n,.int .i64 mm,.int .i64 fk,.string ft] [.int .i64 k,.int .i64 n,.int .i64 mm,.int .i64 fk,.string ft]).holds Try.prog:=a_st (gW _ _) (by simp) rfl
  have X:∀ s:SH,s.den=g2->(Asm.ld1 s g.length 0 (.int .i64 k)).holds Try.prog:=fun s e=>aL (by rw[e];exact bx) rfl
  have Y:∀ s:SH,s.den=g2->(Asm.ld1 s g.length 1 (.int .i64 n)).holds Try.prog:=fun s e=>aL (by rw[e];exact bx) rfl
  have Z:∀ s:SH,s.den=g2->(Asm.ldn s g.length 0 5 [.int .i64 k,.int .i64 n,.int .i64 mm,.int .i64 fk,.string ft]).holds Try.prog:=fun s e=>aN (by rw[e];exact bx) (by simp) rfl
  have N1:(Asm.arith .add .i64 (j:Int) 1 ((j+1:Nat):Int)).holds Try.prog:=addI (by omega) (by omega) (by omega)
  have ag:=a.grow K2
  have KF:∀ {g':Hp},Grow g g'->Keep (fun q=>fpG ρ γ q\/lo<=q) g g':=fun K=>K.mono fun _ _ e=>e.elim
  have sv2:=sv.keep K2 fun q e=>e.elim
  have up:∀ {E1:Env} {g3:Hp} {x':GS} {A':List Ef} {v':Value},(x.turned (⟨k,n,mm,fk,ft⟩::m)).1=(x'.turned m).1->A++(x.turned (⟨k,n,mm,fk,ft⟩::m)).2=A'++(x'.turned m).2->x'.t=x.t->A'.length<=65*(j+1)->GAt g3 ρ γ x'->Keep (fun q=>fpG ρ γ q\/lo<=q) g g3->SlV g3 lo v' A'.length 5 (efC A') ->
    EnvLe [(13,.int .i64 ((j+1:Nat):Int)),(12,.int .i64 (Int.ofNat l.length)),(11,.slice (some ⟨oe,0,none⟩) l.length 5),(8,v'),(0,ptr γ.g),(2,.int .i64 er)] E1->CRun Try.prog 33 false (loopN Try.f64 0) E g .normal E1 g3 ->
    ∃ E1 g1 v1,Keep (fun q=>fpG ρ γ q\/lo<=q) g g1/\GAt g1 ρ γ (x.turned (⟨k,n,mm,fk,ft⟩::m)).1/\SlV g1 lo v1 (A++(x.turned (⟨k,n,mm,fk,ft⟩::m)).2).length 5 (efC (A++(x.turned (⟨k,n,mm,fk,ft⟩::m)).2))/\EnvLe [(8,v1),(2,.int .i64 er)] E1/\LRun Try.prog 33 false (loopN Try.f64 0) E g (.exit 0) E1 g1:=by
   intro E1 g3 x' A' v' e1 e2 ht hA' a' K sv' hE1 hc1
   obtain⟨E2,g4,v4,K4,a4,s4,e4,l4⟩:=turn_loop hc hl hoe hol hf m (j+1) x' A' v' E1 g3 hm' (ht▸ok) (ht▸W) (ht▸J) a' (K.2 _ _ hoo fun e=>e.elim hoe fun e=>by omega) (Nat.le_trans hlo K.1) hA' sv' hE1
   exact⟨E2,g4,v4,K.trans K4,by rw[e1];exact a4,by rw[e2];exact s4,e4,.step hc1 l4⟩
  by_cases k1:k=1
  ·have t1:(x.turned (⟨k,n,mm,fk,ft⟩::m)).1=((x.strikes n).1.turned m).1:=by simp only[GS.turned,if_pos k1]
   have t2:A++(x.turned (⟨k,n,mm,fk,ft⟩::m)).2=(A++(x.strikes n).2)++((x.strikes n).1.turned m).2:=by simp only[GS.turned,if_pos k1,List.append_assoc]
   obtain⟨ev,g3,R,a3,S3,sv3⟩:=strikes_run ag ok hc W J n
   have hsl:=strikes_len ok W J n
   have K3:Keep (fun q=>fpG ρ γ q\/lo<=q) g g3:=(KF K2).trans (S3.keep.mono fun _ _ e=>.inl e)
   have svA:=sv2.keep S3.keep hf
   have hA3:(A++(x.strikes n).2).length<=65*(j+1):=by rw[List.length_append];omega
   have ht:(x.strikes n).1.t=x.t:=strike_t _ _ _ _
   have g3l:=S3.keep.1
   rw[hg2] at R
   rcases sv3 with⟨h1,h2,rfl⟩ | ⟨h1,h2,ee,rfl,h4,h5⟩
   ·have e0:(x.strikes n).2=[]:=List.length_eq_zero_iff.1 h1
    rw[e0,List.append_nil] at t2 hA3
    rcases svA with⟨b1,b2,rfl⟩ | ⟨b1,b2,oo,rfl,b4,b5⟩
    ·obtain⟨E1,q1,q2⟩:=pvC 0 hE (c9p.tl_s00 γ.g oe l.length (j*5) g.length 0 0 0 0 0 0 0 (j:Int) ((j+1:Nat):Int) er k n mm fk ft [] [] g g3)
      ⟨A1,A2,A3,rfl,A4,X _ hg2.symm,eqT k1,Y _ hg2.symm,R,N1,trivial⟩
     exact up t1 t2 ht hA3 a3 K3 (.inl ⟨b1,b2,rfl⟩) (.trans (.add (.add (.add (.add (.add (.add (.nil _) rfl) rfl) rfl) rfl) rfl) rfl) q1) q2
    ·obtain⟨E1,q1,q2⟩:=pvC 0 hE (c9p.tl_s10 γ.g oe l.length (j*5) g.length 0 0 A.length oo 0 0 0 (j:Int) ((j+1:Nat):Int) er k n mm fk ft [] [] g g3)
      ⟨A1,A2,A3,rfl,A4,X _ hg2.symm,eqT k1,Y _ hg2.symm,R,N1,trivial⟩
     exact up t1 t2 ht hA3 a3 K3 (.inr ⟨b1,b2,oo,rfl,b4,b5⟩) (.trans (.add (.add (.add (.add (.add (.add (.nil _) rfl) rfl) rfl) rfl) rfl) rfl) q1) q2
   ·obtain⟨k',hk'⟩:∃ k',(x.strikes n).2.length=k'+1:=⟨(x.strikes n).2.length-1,by omega⟩
    have h4':g3[ee]?=some (.cells (efC (x.strikes n).2++[]) true):=by rw[List.append_nil];exact h4
    rw[hk'] at R
    rcases svA with⟨b1,b2,rfl⟩ | ⟨b1,b2,oo,rfl,b4,b5⟩
    ·have A0:A=[]:=List.length_eq_zero_iff.1 b1
     obtain⟨E1,q1,q2⟩:=pvC 0 hE (c9p.tl_s01 γ.g oe l.length (j*5) g.length 0 g3.length 0 0 ee k' (k'+1) (j:Int) ((j+1:Nat):Int) er k n mm fk ft [] (efC (x.strikes n).2) g g3)
      ⟨A1,A2,A3,rfl,A4,X _ hg2.symm,eqT k1,Y _ hg2.symm,R,a_appNJ h4' (by rw[efC_len,hk']) (efC_one _) (by omega) (by omega) rfl,N1,trivial⟩
     refine up t1 t2 ht hA3 (a3.grow (Keep.push _ _ _)) (K3.trans (Keep.push _ _ _)) (.inr ⟨?_,by rw[efC_len],g3.length,?_,?_,by omega⟩) (.trans (.add (.add (.add (.add (.add (.add (.nil _) rfl) rfl) rfl) rfl) rfl) rfl) q1) q2
     ·rw[A0,List.nil_append,hk'];omega
     ·rw[A0,List.nil_append,hk']
     ·rw[A0,List.nil_append];exact gW _ _
    ·obtain⟨E1,q1,q2⟩:=pvC 0 hE (c9p.tl_s11 γ.g oe l.length (j*5) g.length 0 g3.length A.length oo ee k' (k'+1) (j:Int) ((j+1:Nat):Int) er k n mm fk ft (efC A++efC (x.strikes n).2) (efC (x.strikes n).2) g g3)
      ⟨A1,A2,A3,rfl,A4,X _ hg2.symm,eqT k1,Y _ hg2.symm,R,a_appSJ (junk:=[]) (by rw[List.append_nil];exact b4) b2 h4' (by rw[efC_len,hk']) (efC_one _) (by omega) (by omega) (by omega) rfl,N1,trivial⟩
     have hoo3:=get_lt b4
     refine up t1 t2 ht hA3 (a3.keep ((Keep.set (fp:=fun q=>q=oo) rfl _).trans (Keep.push _ _ _)) fun q e f=>by have:=hf q f;omega) (K3.trans ((Keep.set (.inr b5) _).trans (Keep.push _ _ _))) (.inr ⟨by rw[List.length_append];omega,by rw[efC_len],g3.length,?_,?_,by omega⟩) (.trans (.add (.add (.add (.add (.add (.add (.nil _) rfl) rfl) rfl) rfl) rfl) rfl) q1) q2
     ·rw[List.length_append,hk']
     ·rw[efC_app];exact gV _ (by simp[SH.den])
  ·have t1:(x.turned (⟨k,n,mm,fk,ft⟩::m)).1=(x.turned m).1:=by simp only[GS.turned,if_neg k1]
   have t2:A++(x.turned (⟨k,n,mm,fk,ft⟩::m)).2=(A++[⟨k,n,mm,fk,ft⟩])++(x.turned m).2:=by simp only[GS.turned,if_neg k1,List.append_assoc,List.singleton_append]
   have hA3:(A++[(⟨k,n,mm,fk,ft⟩:Ef)]).length<=65*(j+1):=by rw[List.length_append,List.length_singleton];omega
   have ec:efC (A++[(⟨k,n,mm,fk,ft⟩:Ef)])=efC A++Ef.cells ⟨k,n,mm,fk,ft⟩:=by rw[efC_app];simp[efC]
   subst hg2
   rcases sv2 with⟨b1,b2,rfl⟩ | ⟨b1,b2,oo,rfl,b4,b5⟩
   ·have A0:A=[]:=List.length_eq_zero_iff.1 b1
    obtain⟨E1,q1,q2⟩:=pvC 0 hE (c9p.tl_o0 γ.g oe l.length (j*5) g.length (g.length+1) (g.length+2) 0 0 0 0 0 (j:Int) ((j+1:Nat):Int) er k n mm fk ft [] [] g g)
     ⟨A1,A2,A3,rfl,A4,X _ rfl,eqF k1,Z _ rfl,l2,a_appGN rfl rfl (by omega) (gV _ l2) (by simp[SH.den]),N1,trivial⟩
    refine up t1 t2 rfl hA3 (ag.grow ((Keep.push _ _ _).trans (Keep.push _ _ _))) (KF (K2.trans ((Keep.push _ _ _).trans (Keep.push _ _ _)))) (.inr ⟨by simp,by rw[efC_len],g.length+2,?_,?_,by omega⟩) (.trans (.add (.add (.add (.add (.add (.add (.nil _) rfl) rfl) rfl) rfl) rfl) rfl) q1) q2
    ·rw[A0];rfl
    ·rw[ec,A0];exact gV _ (by simp[SH.den])
   ·have hoo3:=get_lt b4
    obtain⟨E1,q1,q2⟩:=pvC 0 hE (c9p.tl_o1 γ.g oe l.length (j*5) g.length (g.length+1) (g.length+2) A.length oo 0 0 0 (j:Int) ((j+1:Nat):Int) er k n mm fk ft (efC A++Ef.cells ⟨k,n,mm,fk,ft⟩) [] g g)
     ⟨A1,A2,A3,rfl,A4,X _ rfl,eqF k1,Z _ rfl,l2,a_appGS rfl rfl (by omega) (by omega) b2 (gP b4) (gV _ l2) ((pL _ _).trans (congrArg (·+1) l2)),N1,trivial⟩
    refine up t1 t2 rfl hA3 ((ag.grow (Keep.push _ _ _)).keep ((Keep.set (fp:=fun q=>q=oo) rfl _).trans (Keep.push _ _ _)) fun q e f=>by have:=hf q f;omega) ((KF (K2.trans (Keep.push _ _ _))).trans ((Keep.set (.inr b5) _).trans (Keep.push _ _ _))) (.inr ⟨by simp,by rw[efC_len],g.length+2,?_,?_,by omega⟩) (.trans (.add (.add (.add (.add (.add (.add (.nil _) rfl) rfl) rfl) rfl) rfl) rfl) q1) q2
    ·rw[List.length_append];rfl
    ·rw[ec];exact gV _ (by simp[SH.den])
theorem plain64:plainC (loopN Try.f64 0)=true:=by kernel_rfl
theorem turned_run(a:GAt h ρ γ x)(ok:TOk c x.t)(hc:c<=1000)(W:WI none x.t)(J:WJ x.t){l:List Ef}{v:Value}(hl:l.length<=1000)(hv:(l=[]/\v=.slice none 0 0)\/(∃ oe,v=.slice (some ⟨oe,0,none⟩) l.length 5/\h[oe]?=some (.cells (efC l) true)/\¬ fpG ρ γ oe))(er:Int) :
  ∃ w g,Run Try.prog 64 [ptr γ.g,v,.int .i64 er] h (.tuple #[w,.int .i64 er]) g/\GAt g ρ γ (x.turned l).1/\GStep ρ γ h ρ γ g/\SlV g h.length w (x.turned l).2.length 5 (efC (x.turned l).2):=by
 rcases hv with⟨rfl,rfl⟩ | ⟨oe,rfl,ho,hoe⟩
 ·obtain⟨E1,q1,q2⟩:=pvC 0 (EnvLe.refl [(13,.int .i64 0),(12,.int .i64 0),(8,.slice none 0 0),(0,ptr γ.g),(2,.int .i64 er)]) (c9p.tl_out γ.g 0 0 er (.slice none 0 0) h) ⟨ltF (Int.le_refl _),trivial⟩
  exact⟨_,h,pvF 0 Try.func64 (c9p.tu_nil γ.g er [] h) ⟨a_loop plain64 (.add (.add (.add (.add (.add (.nil _) rfl) rfl) rfl) rfl) rfl) (.trans (.add (.add (.nil _) rfl) rfl) q1) (.last q2 (by simp)),trivial⟩,a,.refl _ _ _,.inl ⟨rfl,rfl,rfl⟩⟩
 ·obtain⟨E1,g1,w,K,b,sv,e1,l1⟩:=turn_loop (er:=er) hc hl hoe (get_lt ho) (fun q e=>a.lt e) l 0 x [] (.slice none 0 0)
   [(13,.int .i64 ((0:Nat):Int)),(12,.int .i64 (Int.ofNat l.length)),(11,.slice (some ⟨oe,0,none⟩) l.length 5),(8,.slice none 0 0),(0,ptr γ.g),(2,.int .i64 er)] h rfl ok W J a ho (Nat.le_refl _) (Nat.zero_le _) (.inl ⟨rfl,rfl,rfl⟩) (EnvLe.refl _)
  rw[List.nil_append] at sv
  exact⟨w,g1,pvF 0 Try.func64 (c9p.tu_go γ.g oe l.length er w h g1) ⟨a_loop plain64 (.add (.add (.add (.add (.add (.add (.nil _) rfl) rfl) rfl) rfl) rfl) rfl) e1 l1,trivial⟩,b,⟨K.mono fun q hq e=>e.elim id fun e=>by omega,fun q e=>.inl e,rfl⟩,sv⟩
end
end Go.Proofs.Ytlonjogfeidgfaa.gr
namespace Go.Proofs.Ytlonjogfeidgfaa.gr
open Go Go.Ev Go.Proofs.Ytlonjogfeidgfaa.tr
set_option maxRecDepth 100000
set_option linter.unusedVariables false
set_option linter.constructorNameAsVariable false
def GS.after(x:GS)(r:TS×List Ef×Int):GS×List Ef×Int:=((({ x with t:=r.1 }:GS).turned r.2.1).1,(({ x with t:=r.1 }:GS).turned r.2.1).2,r.2.2)
def GS.leave(x:GS)(n fk:Int)(ft:ByteArray):=x.after (x.t.leave n fk ft)
def GS.end(x:GS)(n fk:Int)(ft:ByteArray):=x.after (x.t.end n fk ft)
def GS.fail(x:GS)(n fk:Int)(ft:ByteArray):=x.after (x.t.fail n fk ft)
theorem fin_ef(t:TS)(s:Nat):(t.fin s).2.length<=1:=by
 unfold TS.fin;repeat' split
 all_goals simp
theorem leave_ef(t:TS)(n fk:Int)(ft:ByteArray):(t.leave n fk ft).2.1.length<=2:=by
 unfold TS.leave;repeat' split
 all_goals first | (simp;done) | skip
 have h:∀ s y,(liveE s fk y).length<=1:=fun s y=>by unfold liveE;split<;>simp
 simp only[List.length_append];exact Nat.add_le_add (h _ _) (fin_ef _ _)
theorem end_ef(t:TS)(n fk:Int)(ft:ByteArray):(t.end n fk ft).2.1.length<=2:=by
 unfold TS.end;repeat' split
 all_goals first | (simp;done) | skip
 have h:∀ s b,(saidE s b).length<=1:=fun s b=>by unfold saidE;split<;>simp
 simp only[List.length_append];exact Nat.add_le_add (h _ _) (fin_ef _ _)
theorem fail_ef(t:TS)(n fk:Int)(ft:ByteArray):(t.fail n fk ft).2.1.length<=2:=by
 unfold TS.fail;repeat' split
 all_goals first | (simp;done) | skip
 all_goals (split<;>simp)
theorem stat39:(Asm.stat (drawN Try.f39 0)).holds Try.prog:=show statOk (drawN Try.f39 0)=true by kernel_rfl
theorem stat38:(Asm.stat (drawN Try.f38 0)).holds Try.prog:=show statOk (drawN Try.f38 0)=true by kernel_rfl
theorem stat40:(Asm.stat (drawN Try.f40 0)).holds Try.prog:=show statOk (drawN Try.f40 0)=true by kernel_rfl
section
variable {h h' g:Hp} {ρ ρ' ρ1:Lay} {γ γ' γ1:GL} {x:GS} {t':TS} {c:Nat}
theorem after_run{g2:Hp}{v:Value}{r:TS×List Ef×Int}(a:GAt h ρ γ x)(hc:c<=1000)(b:TAt g2 ρ r.1)(S:Step ρ h ρ g2)(F:EfV g2 h.length ρ v r.2.1)(ok:TOk c r.1)(W:WI none r.1)(J:WJ r.1)(hl:r.2.1.length<=2) :
  ∃ w g3,Run Try.prog 64 [ptr γ.g,v,.int .i64 r.2.2] g2 (.tuple #[w,.int .i64 r.2.2]) g3/\GAt g3 ρ γ (x.after r).1/\GStep ρ γ h ρ γ g3/\SlV g3 h.length w (x.after r).2.1.length 5 (efC (x.after r).2.1):=by
 have a2:=a.tree S b
 have hne:∀ o,h.length<=o->¬ fpG ρ γ o:=fun o h1 e=>by have:=a.lt e;omega
 obtain⟨w,g3,R,a3,S3,sv⟩:=turned_run a2 (c:=c) ok hc W J (l:=r.2.1) (v:=v) (by omega) (F.elim .inl fun⟨_,o,h1,h2,h3,h4⟩=>.inr ⟨o,h1,h2,hne o h3⟩) r.2.2
 refine⟨w,g3,R,a3,(GStep.tree S).trans S3,?_⟩
 rcases sv with h | ⟨h1,h2,o,h3,h4,h5⟩
 ·exact .inl h
 ·exact .inr ⟨h1,h2,o,h3,h4,Nat.le_trans S.keep.1 h5⟩
theorem leaveG_run(a:GAt h ρ γ x)(ok:TOk c x.t)(hc:c<=999)(W:WI none x.t)(J:WJ x.t)(n fk:Int)(ft:ByteArray) :
  ∃ w g,Run Try.prog 39 [ptr γ.g,.int .i64 n,.agg #[.int .i64 fk,.string ft]] h (.tuple #[w,.int .i64 (x.leave n fk ft).2.2]) g/\GAt g ρ γ (x.leave n fk ft).1/\GStep ρ γ h ρ γ g/\SlV g h.length w (x.leave n fk ft).2.1.length 5 (efC (x.leave n fk ft).2.1):=by
 obtain⟨r,hr⟩:=a.root
 have K1:Grow h (h++[AObj.cells [.int .i64 fk,.string ft] true]):=Keep.push _ _ _
 have a1:=a.grow K1
 obtain⟨v,g2,q,b,S,F⟩:=leave_run a1.tat ok (by omega) hr n fk ft
 obtain⟨w,g3,R,a3,S3,sv⟩:=after_run a1 (c:=c+1) (by omega) b S F ok.leave (W.leave ok n fk ft) (J.leave ok n fk ft) (leave_ef _ _ _ _)
 have B:∀ s:SH,s.den=h++[AObj.cells [.int .i64 fk,.string ft] true]->(Asm.again s 29 (ptr h.length) (.agg #[.int .i64 fk,.string ft])).holds Try.prog:=fun s e=>a_againN agg30 (by rw[e];exact gW _ _) rfl rfl
 refine⟨w,g3,pvF 0 Try.func39 (c9p.lv γ.g r h.length n fk _ _ ft v w h _ g2 g3) ⟨rfl,stat39,B (.is (h++[AObj.cells [.int .i64 fk,.string ft] true])) rfl,B _ rfl,B _ rfl,tree_run a1 hr,aN (gW _ _) (by simp) rfl,q,R,trivial⟩,a3,(GStep.grow K1).trans S3,?_⟩
 rcases sv with h | ⟨h1,h2,o,h3,h4,h5⟩
 ·exact .inl h
 ·exact .inr ⟨h1,h2,o,h3,h4,Nat.le_trans K1.1 h5⟩
theorem endG_run(a:GAt h ρ γ x)(ok:TOk c x.t)(hc:c<=999)(W:WI none x.t)(J:WJ x.t)(n fk:Int)(ft:ByteArray) :
  ∃ w g,Run Try.prog 38 [ptr γ.g,.int .i64 n,.agg #[.int .i64 fk,.string ft]] h (.tuple #[w,.int .i64 (x.end n fk ft).2.2]) g/\GAt g ρ γ (x.end n fk ft).1/\GStep ρ γ h ρ γ g/\SlV g h.length w (x.end n fk ft).2.1.length 5 (efC (x.end n fk ft).2.1):=by
 obtain⟨r,hr⟩:=a.root
 have K1:Grow h (h++[AObj.cells [.int .i64 fk,.string ft] true]):=Keep.push _ _ _
 have a1:=a.grow K1
 obtain⟨v,g2,q,b,S,F⟩:=end_run a1.tat ok (by omega) hr n fk ft
 obtain⟨w,g3,R,a3,S3,sv⟩:=after_run a1 (c:=c+1) (by omega) b S F ok.end (W.end ok n fk ft) (J.end ok n fk ft) (end_ef _ _ _ _)
 have B:∀ s:SH,s.den=h++[AObj.cells [.int .i64 fk,.string ft] true]->(Asm.again s 29 (ptr h.length) (.agg #[.int .i64 fk,.string ft])).holds Try.prog:=fun s e=>a_againN agg30 (by rw[e];exact gW _ _) rfl rfl
 refine⟨w,g3,pvF 0 Try.func38 (c9p.en γ.g r h.length n fk _ _ ft v w h _ g2 g3) ⟨rfl,stat38,B (.is (h++[AObj.cells [.int .i64 fk,.string ft] true])) rfl,B _ rfl,B _ rfl,tree_run a1 hr,aN (gW _ _) (by simp) rfl,q,R,trivial⟩,a3,(GStep.grow K1).trans S3,?_⟩
 rcases sv with h | ⟨h1,h2,o,h3,h4,h5⟩
 ·exact .inl h
 ·exact .inr ⟨h1,h2,o,h3,h4,Nat.le_trans K1.1 h5⟩
theorem failG_run(a:GAt h ρ γ x)(ok:TOk c x.t)(hc:c<=999)(W:WI none x.t)(J:WJ x.t)(n fk:Int)(ft:ByteArray) :
  ∃ w g,Run Try.prog 40 [ptr γ.g,.int .i64 n,.agg #[.int .i64 fk,.string ft]] h (.tuple #[w,.int .i64 (x.fail n fk ft).2.2]) g/\GAt g ρ γ (x.fail n fk ft).1/\GStep ρ γ h ρ γ g/\SlV g h.length w (x.fail n fk ft).2.1.length 5 (efC (x.fail n fk ft).2.1):=by
 obtain⟨r,hr⟩:=a.root
 have K1:Grow h (h++[AObj.cells [.int .i64 fk,.string ft] true]):=Keep.push _ _ _
 have a1:=a.grow K1
 obtain⟨v,g2,q,b,S,F⟩:=fail_run a1.tat ok (by omega) hr n fk ft
 obtain⟨w,g3,R,a3,S3,sv⟩:=after_run a1 (c:=c+1) (by omega) b S F ok.fail (W.fail n fk ft) (J.fail ok n fk ft) (fail_ef _ _ _ _)
 have B:∀ s:SH,s.den=h++[AObj.cells [.int .i64 fk,.string ft] true]->(Asm.again s 29 (ptr h.length) (.agg #[.int .i64 fk,.string ft])).holds Try.prog:=fun s e=>a_againN agg30 (by rw[e];exact gW _ _) rfl rfl
 refine⟨w,g3,pvF 0 Try.func40 (c9p.fa γ.g r h.length n fk _ _ ft v w h _ g2 g3) ⟨rfl,stat40,B (.is (h++[AObj.cells [.int .i64 fk,.string ft] true])) rfl,B _ rfl,B _ rfl,tree_run a1 hr,aN (gW _ _) (by simp) rfl,q,R,trivial⟩,a3,(GStep.grow K1).trans S3,?_⟩
 rcases sv with h | ⟨h1,h2,o,h3,h4,h5⟩
 ·exact .inl h
 ·exact .inr ⟨h1,h2,o,h3,h4,Nat.le_trans K1.1 h5⟩
end
end Go.Proofs.Ytlonjogfeidgfaa.gr
namespace Go.Proofs.Ytlonjogfeidgfaa.gr
open Go Go.Ev Go.Proofs.Ytlonjogfeidgfaa.tr
set_option maxRecDepth 100000
set_option linter.unusedVariables false
set_option linter.constructorNameAsVariable false
def dnC(l:List Pr)(n j:Nat):Nat:=if j+1<n then match l[j+1]?,l[j]? with
 | some p,some q=>if lessP p q then j+1 else j
 | _,_=>j
 else j
def downF:Nat->Nat->Nat->List Pr->List Pr
 | 0,_,_,l=>l
 | f+1,k,n,l=>if n<=2*k+1 then l else match l[dnC l n (2*k+1)]?,l[k]? with
  | some p,some q=>if lessP p q then downF f (dnC l n (2*k+1)) n (swp l k (dnC l n (2*k+1))) else l
  | _,_=>l
theorem dnC_or(l:List Pr)(n j:Nat):dnC l n j=j\/(dnC l n j=j+1/\j+1<n):=by
 unfold dnC;split
 ·split
  ·split
   ·exact .inr ⟨rfl,by assumption⟩
   ·exact .inl rfl
  ·exact .inl rfl
 ·exact .inl rfl
theorem downF_len:∀ (f k n:Nat) (l:List Pr),(downF f k n l).length=l.length
 | 0,_,_,_=>rfl
 | f+1,k,n,l=>by
  simp only[downF]
  split
  ·rfl
  ·split
   ·split
    ·rw[downF_len f,swp_len]
    ·rfl
   ·rfl
section
variable {h h' g:Hp} {i d:Nat} {l:List Pr} {cs junk:List Value}
theorem DAt.mth (D : DAt h i d l cs junk) (s : SH) (e : s.den = h) : (Asm.mth s "Less" (hv i) 110 (.slice (some ⟨d, 0, none⟩) l.length 2)).holds Try.prog ∧ (Asm.mth s "Swap" (hv i) 111 (.slice (some ⟨d, 0, none⟩) l.length 2)).holds Try.prog ∧ (Asm.mth s "Len" (hv i) 109 (.slice (some ⟨d, 0, none⟩) l.length 2)).holds Try.prog := by
 refine⟨?_,?_,?_⟩
 ·simp only[Asm.holds,e,mthLess,ld86 D.hf D.hs]
 ·simp only[Asm.holds,e,mthSwap,ld86 D.hf D.hs]
 ·simp only[Asm.holds,e,mthLen,ld86 D.hf D.hs]
theorem down_loop{n:Nat}{k0:Int}:∀ (f k:Nat) (l:List Pr) (h:Hp) (E:Env),DAt h i d l cs junk->n<=l.length->k<l.length->n-k<=f->EnvLe [(7,.int .i64 (k:Int)),(2,.int .i64 (n:Int)),(0,hv i),(1,.int .i64 k0)] E ->
  ∃ E1 q,EnvLe [(7,.int .i64 q),(1,.int .i64 k0)] E1/\LRun Try.prog 48 false (loopN Try.f80 0) E h (.exit 0) E1 (h.set d (.cells (prL (downF f k n l)++junk) true))
 | f,k,l,h,E,D,hn,hk,hf,hE=>by
  have len:=D.len
  have A1:(Asm.arith .mul .i64 2 (k:Int) ((2*k:Nat):Int)).holds Try.prog:=by
   simp only[Asm.holds,arithI];rw[show (2:Int)*(k:Int)=((2*k:Nat):Int) by omega];exact congrArg some (i64_id (by omega) (by omega))
  have A2:(Asm.arith .add .i64 ((2*k:Nat):Int) 1 ((2*k+1:Nat):Int)).holds Try.prog:=addI (by omega) (by omega) (by omega)
  by_cases hend:n<=2*k+1
  ·have e:downF f k n l=l:=by cases f<;>simp[downF,hend]
   obtain⟨E1,q1,q2⟩:=pvC 0 hE (c13p.dn_end i 0 0 none (k:Int) (n:Int) k0 ((2*k:Nat):Int) ((2*k+1:Nat):Int) 0 h h h h) ⟨A1,A2,geT (by omega),trivial⟩
   rw[e,set_same D.hd]
   exact⟨E1,_,.trans (.add (.add (.nil _) rfl) rfl) q1,.last q2 (by simp)⟩
  ·obtain⟨f,rfl⟩:∃ f',f=f'+1:=⟨f-1,by omega⟩
   have A3:(Asm.cmp .geq ((2*k+1:Nat):Int) (n:Int) false).holds Try.prog:=geF (by omega)
   have A4:(Asm.cmp .lss ((2*k+1:Nat):Int) 0 false).holds Try.prog:=ltF (by omega)
   have A5:(Asm.arith .add .i64 ((2*k+1:Nat):Int) 1 ((2*k+2:Nat):Int)).holds Try.prog:=addI (by omega) (by omega) (by omega)
   obtain⟨M1,M2,_⟩:=D.mth (.is h) rfl
   obtain⟨j,hj⟩:∃ j,j=dnC l n (2*k+1):=⟨_,rfl⟩
   have hjn:j<n/\k<j:=by rcases dnC_or l n (2*k+1) with e | e<;>omega
   obtain⟨p,hp⟩:∃ p,l[j]?=some p:=⟨_,List.getElem?_eq_getElem (by omega)⟩
   obtain⟨q,hq⟩:∃ q,l[k]?=some q:=⟨_,List.getElem?_eq_getElem hk⟩
   have R:=less_run D hp hq
   have S:=swap_run D hk (show j<l.length by omega)
   have ed:downF (f+1) k n l=if lessP p q then downF f j n (swp l k j) else l:=by simp only[downF,if_neg hend,<- hj,hp,hq]
   have stop:∀ {E1:Env},lessP p q=false->EnvLe [(7,.int .i64 (k:Int)),(1,.int .i64 k0)] E1->CRun Try.prog 48 false (loopN Try.f80 0) E h (.exit 0) E1 h ->
     ∃ E1 q,EnvLe [(7,.int .i64 q),(1,.int .i64 k0)] E1/\LRun Try.prog 48 false (loopN Try.f80 0) E h (.exit 0) E1 (h.set d (.cells (prL (downF (f+1) k n l)++junk) true)):=by
    intro E1 e e1 c1
    rw[ed,e,if_neg (by simp),set_same D.hd]
    exact⟨E1,_,e1,.last c1 (by simp)⟩
   have go:∀ {E1:Env},lessP p q=true->EnvLe [(7,.int .i64 (j:Int)),(2,.int .i64 (n:Int)),(0,hv i),(1,.int .i64 k0)] E1->CRun Try.prog 48 false (loopN Try.f80 0) E h .normal E1 (h.set d (.cells (prL (swp l k j)++junk) true)) ->
     ∃ E1 q,EnvLe [(7,.int .i64 q),(1,.int .i64 k0)] E1/\LRun Try.prog 48 false (loopN Try.f80 0) E h (.exit 0) E1 (h.set d (.cells (prL (downF (f+1) k n l)++junk) true)):=by
    intro E1 e e1 c1
    rw[ed,e,if_pos rfl]
    obtain⟨E2,q2,e2,l2⟩:=down_loop f j (swp l k j) _ E1 (D.set (swp_len _ _ _)) (by rw[swp_len];exact hn) (by rw[swp_len];omega) (by omega) e1
    rw[List.set_set] at l2
    exact⟨E2,q2,e2,.step c1 l2⟩
   by_cases h2:2*k+2<n
   ·have A6:(Asm.cmp .lss ((2*k+2:Nat):Int) (n:Int) true).holds Try.prog:=ltT (by omega)
    obtain⟨p1,hp1⟩:∃ p,l[2*k+1]?=some p:=⟨_,List.getElem?_eq_getElem (by omega)⟩
    obtain⟨p2,hp2⟩:∃ p,l[2*k+2]?=some p:=⟨_,List.getElem?_eq_getElem (by omega)⟩
    have R2:=less_run D hp2 hp1
    have ej:j=if lessP p2 p1 then 2*k+2 else 2*k+1:=by rw[hj,dnC,if_pos h2];simp only[hp1,hp2]
    cases e2:lessP p2 p1 with
    | false =>
     rw[e2] at R2 ej
     have ej:j=2*k+1:=by simpa using ej
     subst ej
     cases e:lessP p q with
     | false =>
      rw[e] at R
      obtain⟨E1,q1,q2⟩:=pvC 0 hE (c13p.dn_0_s i l.length 2 (some ⟨d,0,none⟩) (k:Int) (n:Int) k0 ((2*k:Nat):Int) ((2*k+1:Nat):Int) ((2*k+2:Nat):Int) h h h h) ⟨A1,A2,A3,A4,A5,A6,R2,M1,R,M1,trivial⟩
      exact stop e (.trans (.add (.add (.nil _) rfl) rfl) q1) q2
     | true =>
      rw[e] at R
      obtain⟨E1,q1,q2⟩:=pvC 0 hE (c13p.dn_0_g i l.length 2 (some ⟨d,0,none⟩) (k:Int) (n:Int) k0 ((2*k:Nat):Int) ((2*k+1:Nat):Int) ((2*k+2:Nat):Int) h h h _) ⟨A1,A2,A3,A4,A5,A6,R2,M1,R,M1,S,M2,trivial⟩
      exact go e (.trans (.add (.add (.add (.add (.nil _) rfl) rfl) rfl) rfl) q1) q2
    | true =>
     rw[e2] at R2 ej
     have ej:j=2*k+2:=by simpa using ej
     subst ej
     cases e:lessP p q with
     | false =>
      rw[e] at R
      obtain⟨E1,q1,q2⟩:=pvC 0 hE (c13p.dn_1_s i l.length 2 (some ⟨d,0,none⟩) (k:Int) (n:Int) k0 ((2*k:Nat):Int) ((2*k+1:Nat):Int) ((2*k+2:Nat):Int) h h h h) ⟨A1,A2,A3,A4,A5,A6,R2,M1,R,M1,trivial⟩
      exact stop e (.trans (.add (.add (.nil _) rfl) rfl) q1) q2
     | true =>
      rw[e] at R
      obtain⟨E1,q1,q2⟩:=pvC 0 hE (c13p.dn_1_g i l.length 2 (some ⟨d,0,none⟩) (k:Int) (n:Int) k0 ((2*k:Nat):Int) ((2*k+1:Nat):Int) ((2*k+2:Nat):Int) h h h _) ⟨A1,A2,A3,A4,A5,A6,R2,M1,R,M1,S,M2,trivial⟩
      exact go e (.trans (.add (.add (.add (.add (.nil _) rfl) rfl) rfl) rfl) q1) q2
   ·have A6:(Asm.cmp .lss ((2*k+2:Nat):Int) (n:Int) false).holds Try.prog:=ltF (by omega)
    have ej:j=2*k+1:=by rw[hj,dnC,if_neg h2]
    subst ej
    cases e:lessP p q with
    | false =>
     rw[e] at R
     obtain⟨E1,q1,q2⟩:=pvC 0 hE (c13p.dn_n_s i l.length 2 (some ⟨d,0,none⟩) (k:Int) (n:Int) k0 ((2*k:Nat):Int) ((2*k+1:Nat):Int) ((2*k+2:Nat):Int) h h h h) ⟨A1,A2,A3,A4,A5,A6,R,M1,trivial⟩
     exact stop e (.trans (.add (.add (.nil _) rfl) rfl) q1) q2
    | true =>
     rw[e] at R
     obtain⟨E1,q1,q2⟩:=pvC 0 hE (c13p.dn_n_g i l.length 2 (some ⟨d,0,none⟩) (k:Int) (n:Int) k0 ((2*k:Nat):Int) ((2*k+1:Nat):Int) ((2*k+2:Nat):Int) h h h _) ⟨A1,A2,A3,A4,A5,A6,R,M1,S,M2,trivial⟩
     exact go e (.trans (.add (.add (.add (.add (.nil _) rfl) rfl) rfl) rfl) q1) q2
termination_by f=>f
theorem plain80:plainC (loopN Try.f80 0)=true:=by kernel_rfl
theorem down_run(D:DAt h i d l cs junk){n:Nat}(hn:n<=l.length)(hl:0<l.length):∃ z,Run Try.prog 80 [hv i,.int .i64 0,.int .i64 (n:Int)] h (.bool z) (h.set d (.cells (prL (downF n 0 n l)++junk) true)):=by
 obtain⟨E1,q,e1,l1⟩:=down_loop (n:=n) (k0:=0) n 0 l h [(7,.int .i64 ((0:Nat):Int)),(2,.int .i64 (n:Int)),(0,hv i),(1,.int .i64 0)] D hn hl (by omega) (EnvLe.refl _)
 exact⟨_,pvF 0 Try.func80 (c13p.dn i (n:Int) q (decide (0<q)) h _) ⟨a_loop plain80 (.add (.add (.add (.add (.nil _) rfl) rfl) rfl) rfl) e1 l1,gtD,trivial⟩⟩
end
def popL(l:List Pr):List Pr:=downF (l.length-1) 0 (l.length-1) (swp l 0 (l.length-1))
theorem popL_len(l:List Pr):(popL l).length=l.length:=by rw[popL,downF_len,swp_len]
def popped(l:List Pr):List Pr:=(popL l).take (l.length-1)
def popP(l:List Pr):Pr:=(popL l)[l.length-1]?.getD (0,0)
section
variable {h h' g:Hp} {ρ ρ' ρ1:Lay} {γ γ' γ1:GL} {x:GS} {t':TS} {c:Nat}
theorem stat112(k:Nat)(hk:k=0\/k=1):(Asm.stat (drawN Try.f112 k)).holds Try.prog:=by
 rcases hk with rfl | rfl
 ·exact show statOk (drawN Try.f112 0)=true by kernel_rfl
 ·exact show statOk (drawN Try.f112 1)=true by kernel_rfl
theorem prL_take(l:List Pr)(k:Nat):∃ j,prL l=prL (l.take k)++j:=⟨prL (l.drop k),by rw[<- prL_app,List.take_append_drop]⟩
theorem dpop_run(a:GAt h ρ γ x){n:Nat}(hn:x.du.length=n+1)(hl:x.du.length<=100000){p:Pr}(hp:x.du[n]?=some p) :
  ∃ g,Run Try.prog 112 [p3 γ.g] h (.iface 93 (.agg #[.int .i64 p.1,.int .i64 p.2])) g/\GAt g ρ γ { x with du:=x.du.take n }/\GStep ρ γ h ρ γ g:=by
 obtain⟨d,e⟩:∃ d,γ.d=some d:=by
  cases e:γ.d with
  | none=>rw[a.dun e] at hn;simp at hn
  | some d=>exact⟨d,rfl⟩
 obtain⟨junk,hj⟩:=a.duo d e
 have O:=a.obj
 rw[e] at O
 have D:DAt h γ.g d x.du _ junk:=⟨O,rfl,hj,fun f=>a.gd (by rw[e,f]),by omega⟩
 obtain⟨_,_,L⟩:=D.ld hp (s:=.is h) rfl
 have hg:=get_lt a.obj
 obtain⟨g2,hg2⟩:∃ g2,g2=(h++[AObj.cells [.int .i64 0,.int .i64 0] true]).set h.length (.cells [.int .i64 p.1,.int .i64 p.2] true):=⟨_,rfl⟩
 have K2:Grow h g2:=by rw[hg2];exact ((Grow.refl h).push _).set (Nat.le_refl _) _
 have bx:g2[h.length]?=some (.cells [.int .i64 p.1,.int .i64 p.2] true):=by rw[hg2];exact gE (gW _ _)
 have S3:(Asm.ld1 (.is h) γ.g 3 (.slice (some ⟨d,0,none⟩) x.du.length 2)).holds Try.prog:=aL O rfl
 have O2:=K2.get O
 have S4:∀ s:SH,s.den=g2->(Asm.ld1 s γ.g 3 (.slice (some ⟨d,0,none⟩) x.du.length 2)).holds Try.prog:=fun s e=>aL (by rw[e];exact O2) rfl
 have A1:(Asm.arith .sub .i64 (Int.ofNat x.du.length) 1 (Int.ofNat n)).holds Try.prog:=subI (by simp only[Int.ofNat_eq_natCast];omega) (by simp only[Int.ofNat_eq_natCast];omega) (by simp only[Int.ofNat_eq_natCast];omega)
 have tl:(x.du.take n).length=n:=by rw[List.length_take];omega
 subst hg2
 refine⟨_,pvF 0 Try.func112 (c13p.po γ.g d x.du.length (n*2) h.length n (Int.ofNat n) p.1 p.2 [pvv (ρ .root),.map (some γ.m),.map (some γ.n),.slice (some ⟨d,0,none⟩) n 2] h)
  ⟨stat112 0 (by simp),S3,S3,A1,offI rfl (by omega) (by omega),L,rfl,a_st (gW _ _) (by simp) rfl,stat112 1 (by simp),S4 _ rfl,S4 _ rfl,A1,a_cut (by omega),a_st O2 (by simp) rfl,aN (gNq bx (by omega)) (by simp) rfl,trivial⟩,?_⟩
 obtain⟨j2,hj2⟩:=prL_take x.du n
 have K3:Keep (fun q=>q=γ.g\/γ.d=some q) h (((h++[AObj.cells [.int .i64 0,.int .i64 0] true]).set h.length (.cells [.int .i64 p.1,.int .i64 p.2] true)).set γ.g (.cells [pvv (ρ .root),.map (some γ.m),.map (some γ.n),.slice (some ⟨d,0,none⟩) n 2] true)) :=
  (K2.mono fun _ _ e=>e.elim).trans (Keep.set (.inl rfl) _)
 have R:=a.dues (l:=x.du.take n) (d:=d) (junk:=j2++junk) K3 (.inl e) (by rw[tl];exact gE O2) (by rw[<- List.append_assoc,<- hj2];exact gNq (K2.get hj) D.ne.symm)
 have eγ:({ γ with d:=some d }:GL)=γ:=by rw[<- e]
 rw[eγ] at R
 exact R
theorem hpop_run(a:GAt h ρ γ x)(hn:0<x.du.length)(hl:x.du.length<=100000) :
  ∃ g,Run Try.prog 53 [hv γ.g] h (.iface 93 (.agg #[.int .i64 (popP x.du).1,.int .i64 (popP x.du).2])) g/\GAt g ρ γ { x with du:=popped x.du }/\GStep ρ γ h ρ γ g:=by
 obtain⟨n,hn'⟩:∃ n,x.du.length=n+1:=⟨x.du.length-1,by omega⟩
 obtain⟨d,e⟩:∃ d,γ.d=some d:=by
  cases e:γ.d with
  | none=>rw[a.dun e] at hn;simp at hn
  | some d=>exact⟨d,rfl⟩
 obtain⟨junk,hj⟩:=a.duo d e
 have O:=a.obj
 rw[e] at O
 have D:DAt h γ.g d x.du _ junk:=⟨O,rfl,hj,fun f=>a.gd (by rw[e,f]),by omega⟩
 obtain⟨_,MS,ML⟩:=D.mth (.is h) rfl
 have N:=pvF 0 Try.func109 (c3p.ln (some ⟨d,0,none⟩) x.du.length 2 h) trivial
 have A1:(Asm.arith .sub .i64 (Int.ofNat x.du.length) 1 (n:Int)).holds Try.prog:=subI (by simp only[Int.ofNat_eq_natCast];omega) (by omega) (by omega)
 have S:=swap_run D (a:=0) (b:=n) hn (by omega)
 have D1:=D.set (swp_len x.du 0 n)
 obtain⟨z,R1⟩:=down_run D1 (n:=n) (by rw[swp_len];omega) (by rw[swp_len];omega)
 have ep:popL x.du=downF n 0 n (swp x.du 0 n):=by simp only[popL,hn',Nat.add_sub_cancel]
 rw[List.set_set,<- ep] at R1
 have K:Keep (fun q=>q=γ.g\/γ.d=some q) h (h.set d (.cells (prL (popL x.du)++junk) true)):=Keep.set (.inr e) _
 have R2:=a.dues (l:=popL x.du) (d:=d) (junk:=junk) K (.inl e) (by rw[popL_len];exact gNq O D.ne) (gE hj)
 have eγ:({ γ with d:=some d }:GL)=γ:=by rw[<- e]
 rw[eγ] at R2
 obtain⟨p,hp⟩:∃ p,(popL x.du)[n]?=some p:=⟨_,List.getElem?_eq_getElem (by rw[popL_len];omega)⟩
 obtain⟨g,R3,b,S3⟩:=dpop_run R2.1 (n:=n) (by rw[popL_len];exact hn') (by rw[popL_len];exact hl) hp
 have epp:popP x.du=p:=by simp only[popP,hn',Nat.add_sub_cancel,hp,Option.getD_some]
 have epd:popped x.du=(popL x.du).take n:=by simp only[popped,hn',Nat.add_sub_cancel]
 rw[epp,epd]
 exact⟨g,pvF 0 Try.func53 (c13p.hp γ.g x.du.length 2 (some ⟨d,0,none⟩) _ (Int.ofNat x.du.length) (n:Int) z h _ _ g) ⟨N,ML,A1,S,MS,R1,R3,mthPop _ γ.g,trivial⟩,b,R2.2.trans S3⟩
end
end Go.Proofs.Ytlonjogfeidgfaa.gr
namespace Go.Proofs.Ytlonjogfeidgfaa.gr
open Go Go.Ev Go.Proofs.Ytlonjogfeidgfaa.tr
set_option maxRecDepth 100000
set_option linter.unusedVariables false
set_option linter.constructorNameAsVariable false
def overF:Nat->TS->List Pr->List Pr
 | 0,_,l=>l
 | f+1,t,l=>match l with
  | []=>[]
  | p::_=>if (t.sco p.2).1.ov=true then overF f t (popped l) else l
def GS.over(x:GS):GS:={ x with du:=overF x.du.length x.t x.du }
theorem popped_len(l:List Pr):(popped l).length=l.length-1:=by rw[popped,List.length_take,popL_len];omega
theorem overF_len:∀ (f:Nat) (t:TS) (l:List Pr),(overF f t l).length<=l.length
 | 0,_,_=>Nat.le_refl _
 | f+1,t,[]=>Nat.le_refl _
 | f+1,t,p::l=>by
  simp only[overF];split
  ·exact Nat.le_trans (overF_len f t _) (by rw[popped_len];simp)
  ·exact Nat.le_refl _
theorem stat52:(Asm.stat (drawOps (drawN Try.f52 0))).holds Try.prog:=show statOk (drawOps (drawN Try.f52 0))=true by kernel_rfl
theorem a_kept{P:Program}{s s1 s2:SH}{cs:List Value}(h1:s1.den[s.den.length]?=some (.cells cs true))(h2:s2.den[s.den.length]?=some (.cells cs true))(hr:veqL cs cs=true):(Asm.kept s s1 s2 cs).holds P:=⟨own_of h1,own_of h2,hr⟩
section
variable {h h' g:Hp} {ρ ρ' ρ1:Lay} {γ γ' γ1:GL} {x:GS} {t':TS} {c:Nat}
theorem over_loop(hc:c<=1000):∀ (f:Nat) (x:GS) (h:Hp) (E:Env),GAt h ρ γ x->TOk c x.t->x.du.length<=100000->x.du.length<=f->EnvLe [(0,ptr γ.g)] E ->
  ∃ E1 g1 ex,(ex=Ex.ret\/ex=Ex.exit 0)/\GAt g1 ρ γ { x with du:=overF f x.t x.du }/\GStep ρ γ h ρ γ g1/\LRun Try.prog 33 false (loopN Try.f52 0) E h ex E1 g1
 | f,x,h,E,a,ok,hl,hf,hE=>by
  have O:=a.obj
  cases hd:γ.d with
  | none =>
   have e0:=a.dun hd
   rw[hd] at O
   obtain⟨E1,q1,q2⟩:=pvC 0 hE (c13p.ol_nil γ.g 0 0 0 0 0 0 0 0 0 false false ⟨#[]⟩ none 0 0 undef h h h) ⟨aL O rfl,gtF (Int.le_refl _),trivial⟩
   have e:overF f x.t x.du=x.du:=by rw[e0];cases f<;>rfl
   rw[e]
   exact⟨E1,h,_,.inr rfl,a,.refl _ _ _,.last q2 (by simp)⟩
  | some d =>
   rw[hd] at O
   obtain⟨junk,hj⟩:=a.duo d hd
   have S3:∀ s:SH,s.den=h->(Asm.ld1 s γ.g 3 (.slice (some ⟨d,0,none⟩) x.du.length 2)).holds Try.prog:=fun s e=>aL (by rw[e];exact O) rfl
   cases hx:x.du with
   | nil =>
    obtain⟨E1,q1,q2⟩:=pvC 0 hE (c13p.ol_zero γ.g 0 d x.du.length 0 0 0 0 0 0 false false ⟨#[]⟩ none 0 0 undef h h h) ⟨S3 (.is h) rfl,gtF (by rw[hx];simp),trivial⟩
    have e:overF f x.t []=x.du:=by rw[hx];cases f<;>rfl
    rw[e]
    exact⟨E1,h,_,.inr rfl,a,.refl _ _ _,.last q2 (by simp)⟩
   | cons p r =>
    have hpos:0<x.du.length:=by rw[hx];simp
    obtain⟨f,rfl⟩:∃ f',f=f'+1:=⟨f-1,by omega⟩
    have h0:x.du[0]?=some p:=by rw[hx];rfl
    have D:DAt h γ.g d x.du _ junk:=⟨O,rfl,hj,fun f=>a.gd (by rw[hd,f]),by omega⟩
    obtain⟨_,L2,_⟩:=D.ld h0 (s:=.is h) rfl
    obtain⟨r,hr,hp⟩:=root_ptr a
    obtain⟨ga,hga⟩:∃ ga,ga=h++[AObj.cells [.int .i64 0,.bool false,.bool false,.slice none 0 0,.int .i64 0,.string { data:=#[] }] true]:=⟨_,rfl⟩
    have Ka:Grow h ga:=by rw[hga];exact Keep.push _ _ _
    obtain⟨v1,g1,q1,K1,sv1⟩:=sco_run (a.tat.grow Ka) ok (by omega) hr p.2
    obtain⟨oa,ln,za,rfl⟩:∃ oa ln za,v1=.slice oa ln za:=by
     rcases sv1 with⟨_,_,h⟩ | ⟨_,_,e,h,_⟩<;>exact⟨_,_,_,h⟩
    obtain⟨w,hw⟩:∃ w,w=x.t.sco p.2:=⟨_,rfl⟩
    rw[<- hw] at q1
    obtain⟨⟨ow,su,ov,tk,fk,ft⟩,er⟩:=w
    simp only[ScV.C] at q1
    have eov:(x.t.sco p.2).1.ov=ov:=by rw[<- hw]
    have K1':Grow ga g1:=K1
    have K:Grow h g1:=Ka.trans K1'
    have bx:g1[h.length]?=some (.cells [.int .i64 0,.bool false,.bool false,.slice none 0 0,.int .i64 0,.string { data:=#[] }] true):=K1'.get (by rw[hga];exact gW _ _)
    have M0:(Asm.ld1 (.is h) γ.g 0 (ptr r)).holds Try.prog:=aL a.obj (by rw[hp];rfl)
    have kp:(Asm.kept (.is h) (.push (.is h) (.cells [.int .i64 0,.bool false,.bool false,.slice none 0 0,.int .i64 0,.string { data:=#[] }] true)) (.is g1) [.int .i64 0,.bool false,.bool false,.slice none 0 0,.int .i64 0,.string { data:=#[] }]).holds Try.prog:=a_kept (gW _ _) bx (veqL_refl rfl)
    have off0:(Asm.off 0 0 0 x.du.length 2).holds Try.prog:=offI (q:=0) rfl hpos (by omega)
    have G:(Asm.cmp .gtr (Int.ofNat x.du.length) 0 true).holds Try.prog:=gtT (by simp only[Int.ofNat_eq_natCast];omega)
    obtain⟨g2,hg2⟩:∃ g2,g2=g1.set h.length (.cells [.int .i64 ow,.bool su,.bool ov,.slice oa ln za,.int .i64 fk,.string ft] true):=⟨_,rfl⟩
    have K2:Grow h g2:=by rw[hg2];exact K.set (Nat.le_refl _) _
    rw[hga] at q1
    rw[<- hx]
    cases ov with
    | false =>
     have e:overF (f+1) x.t x.du=x.du:=by rw[hx];simp only[overF,eov];rfl
     obtain⟨E1,p1,p2⟩:=pvC 0 hE (c13p.ol_ret γ.g r d x.du.length h.length 0 p.2 ow fk er su false ft oa ln za undef h g1 g1)
      ⟨S3 (.is h) rfl,G,stat52,kp,M0,S3 (.is h) rfl,off0,L2,rfl,q1,a_st bx (by simp) rfl,aL (gE bx) rfl,trivial⟩
     rw[e]
     exact⟨E1,g2,_,.inl rfl,a.grow K2,.grow K2,.last (by rw[hg2];exact p2) (by simp)⟩
    | true =>
     have e:overF (f+1) x.t x.du=overF f x.t (popped x.du):=by rw[hx];simp only[overF,eov];rfl
     have a2:=a.grow K2
     obtain⟨g3,R3,b3,S3'⟩:=hpop_run a2 hpos hl
     rw[hg2] at R3
     obtain⟨E1,p1,p2⟩:=pvC 0 hE (c13p.ol_go γ.g r d x.du.length h.length 0 p.2 ow fk er su true ft oa ln za _ h g1 g3)
      ⟨S3 (.is h) rfl,G,stat52,kp,M0,S3 (.is h) rfl,off0,L2,rfl,q1,a_st bx (by simp) rfl,aL (gE bx) rfl,R3,trivial⟩
     obtain⟨E2,g4,ex,e1,e2,e3,e4⟩:=over_loop hc f { x with du:=popped x.du } g3 E1 b3 ok (by simp only[popped_len];omega) (by simp only[popped_len];omega) (.trans (.add (.nil _) rfl) p1)
     rw[e]
     exact⟨E2,g4,ex,e1,e2,((GStep.grow K2).trans S3').trans e3,.step p2 e4⟩
termination_by f=>f
theorem plain52:plainC (loopN Try.f52 0)=true:=by kernel_rfl
theorem over_run(a:GAt h ρ γ x)(ok:TOk c x.t)(hc:c<=1000)(hl:x.du.length<=100000):∃ g,Run Try.prog 52 [ptr γ.g] h (.tuple #[]) g/\GAt g ρ γ x.over/\GStep ρ γ h ρ γ g:=by
 obtain⟨E1,g1,ex,e1,e2,e3,e4⟩:=over_loop hc x.du.length x h [(0,ptr γ.g)] a ok hl (Nat.le_refl _) (EnvLe.refl _)
 rcases e1 with rfl | rfl
 ·exact⟨g1,pvF 0 Try.func52 (c13p.ov_r γ.g [] h g1) ⟨a_loop plain52 (.add (.nil _) rfl) (.nil _) e4,trivial⟩,e2,e3⟩
 ·exact⟨g1,pvF 0 Try.func52 (c13p.ov_e γ.g [] h g1) ⟨a_loop plain52 (.add (.nil _) rfl) (.nil _) e4,trivial⟩,e2,e3⟩
theorem throw_run(g:Hp)(ft:ByteArray):∃ g',Run Try.prog 54 [.string ft] g (.agg #[.int .i64 1,.string ft]) g'/\Grow g g' :=
 ⟨_,pvF 0 Try.func54 (c13p.th g.length 0 ft [] g) ⟨rfl,a_st (gW _ _) (by simp) rfl,aN (gE (gW _ _)) (by simp) rfl,trivial⟩,((Grow.refl g).push _).set (Nat.le_refl _) _⟩
end
end Go.Proofs.Ytlonjogfeidgfaa.gr
namespace Go.Proofs.Ytlonjogfeidgfaa.gr
open Go Go.Ev Go.Proofs.Ytlonjogfeidgfaa.tr Go.Proofs.Ytlonjogfeidgfaa.c13p
set_option maxRecDepth 100000
set_option linter.unusedVariables false
set_option linter.constructorNameAsVariable false
def GS.pop(x:GS):GS:={ x with du:=popped x.du }
def GS.lateF(x:GS):GS×List Ef×Int:=x.pop.fail (popP x.du).2 1 late
def GS.come(x:GS):GS×List Ef:=x.lateF.1.strikes (popP x.du).2
def expF:Nat->GS->Int->GS×List Ef
 | 0,x,_=>(x,[])
 | f+1,x,now=>match x.du with
  | []=>(x,[])
  | p::_=>if p.1<=now then ((expF f x.come.1.over now).1,(x.lateF.2.1++x.come.2)++(expF f x.come.1.over now).2) else (x,[])
def GS.expire(x:GS)(now:Int):GS×List Ef:=expF x.over.du.length x.over now
theorem after_t(x:GS)(r:TS×List Ef×Int):(x.after r).1.t=r.1:=turned_t _ _
theorem strike_du(x:GS)(b:Bool)(n:Int)(l:List Int):(x.strike b n l).1.du=x.du:=by
 unfold GS.strike;split
 ·rfl
 ·cases b<;>rfl
theorem turned_du:∀ (l:List Ef) (x:GS),(x.turned l).1.du=x.du
 | [],x=>rfl
 | e::l,x=>by
  rw[GS.turned];split
  ·rw[turned_du l];exact strike_du _ _ _ _
  ·exact turned_du l x
theorem come_du(x:GS):x.come.1.du=popped x.du:=by
 rw[GS.come,GS.strikes,strike_du,GS.lateF,GS.fail,GS.after,turned_du];rfl
theorem come_t(x:GS):x.come.1.t=(x.t.fail (popP x.du).2 1 late).1:=by
 rw[GS.come,GS.strikes,strike_t,GS.lateF,GS.fail,after_t];rfl
theorem late_t(x:GS):x.lateF.1.t=(x.t.fail (popP x.du).2 1 late).1:=by rw[GS.lateF,GS.fail,after_t];rfl
theorem over_du_len(x:GS):x.over.du.length<=x.du.length:=overF_len _ _ _
theorem stat29:(Asm.stat (drawN Try.f29 0)).holds Try.prog:=show statOk (drawN Try.f29 0)=true by kernel_rfl
theorem agg3:aggSize Try.prog 3=some none:=by kernel_rfl
section
variable {h h' g:Hp} {ρ ρ' ρ1:Lay} {γ γ' γ1:GL} {x:GS} {t':TS} {c:Nat}
theorem turned_len:∀ (l:List Ef) {x:GS},TOk c x.t->WI none x.t->WJ x.t->(x.turned l).2.length<=65*l.length
 | [],x,ok,W,J=>by simp[GS.turned]
 | e::l,x,ok,W,J=>by
  have ht:(x.strikes e.n).1.t=x.t:=strike_t _ _ _ _
  rw[GS.turned];split
  ·have h1:=strikes_len ok W J e.n
   have h2:=turned_len l (x:=(x.strikes e.n).1) (ht▸ok) (ht▸W) (ht▸J)
   simp only[List.length_append,List.length_cons];omega
  ·have h2:=turned_len l ok W J
   simp only[List.length_cons];omega
theorem exp_loop{now:Int}{lo:Nat}:∀ (f c:Nat) (x:GS) (A:List Ef) (v:Value) (h:Hp) (E:Env),GAt h ρ γ x->TOk c x.t->WI none x.t->WJ x.t->x.du.length<=f->c+x.du.length<=998->A.length+195*x.du.length<=500000->(∀ q,fpG ρ γ q->q<lo)->lo<=h.length->SlV h lo v A.length 5 (efC A) ->
  EnvLe [(6,v),(0,ptr γ.g),(1,.int .i64 now)] E ->
  ∃ E1 g1 w,Keep (fun q=>fpG ρ γ q\/lo<=q) h g1/\GAt g1 ρ γ (expF f x now).1/\SlV g1 lo w (A++(expF f x now).2).length 5 (efC (A++(expF f x now).2))/\EnvLe [(6,w)] E1/\LRun Try.prog 57 false (loopN Try.f29 0) E h (.exit 0) E1 g1
 | f,c,x,A,v,h,E,a,ok,W,J,hf,hc,hA,hfp,hlo,sv,hE=>by
  have O:=a.obj
  cases hd:γ.d with
  | none =>
   have e0:=a.dun hd
   rw[hd] at O
   obtain⟨E1,q1,q2⟩:=pvC 0 hE (c13p.xl_nil γ.g 0 0 0 0 0 0 0 0 0 0 0 0 0 0 now 0 0 0 v [] [] [] [] h h h h h h) ⟨aL O rfl,gtF (Int.le_refl _),trivial⟩
   have e:expF f x now=(x,[]):=by cases f<;>simp[expF,e0]
   rw[e,List.append_nil]
   exact⟨E1,h,v,Keep.refl _ _,a,sv,.trans (.add (.nil _) rfl) q1,.last q2 (by simp)⟩
  | some d =>
   rw[hd] at O
   obtain⟨junk,hj⟩:=a.duo d hd
   have S3:(Asm.ld1 (.is h) γ.g 3 (.slice (some ⟨d,0,none⟩) x.du.length 2)).holds Try.prog:=aL O rfl
   cases hx:x.du with
   | nil =>
    obtain⟨E1,q1,q2⟩:=pvC 0 hE (c13p.xl_zero γ.g d x.du.length 0 0 0 0 0 0 0 0 0 0 0 0 now 0 0 0 v [] [] [] [] h h h h h h) ⟨S3,gtF (by rw[hx];simp),trivial⟩
    have e:expF f x now=(x,[]):=by cases f<;>simp[expF,hx]
    rw[e,List.append_nil]
    exact⟨E1,h,v,Keep.refl _ _,a,sv,.trans (.add (.nil _) rfl) q1,.last q2 (by simp)⟩
   | cons p rr =>
    have hpos:0<x.du.length:=by rw[hx];simp
    obtain⟨f,rfl⟩:∃ f',f=f'+1:=⟨f-1,by omega⟩
    have h0:x.du[0]?=some p:=by rw[hx];rfl
    have D:DAt h γ.g d x.du _ junk:=⟨O,rfl,hj,fun f=>a.gd (by rw[hd,f]),by omega⟩
    obtain⟨L1,_,_⟩:=D.ld h0 (s:=.is h) rfl
    have off0:(Asm.off 0 0 0 x.du.length 2).holds Try.prog:=offI (q:=0) rfl hpos (by omega)
    have G:(Asm.cmp .gtr (Int.ofNat x.du.length) 0 true).holds Try.prog:=gtT (by simp only[Int.ofNat_eq_natCast];omega)
    by_cases hle:p.1<=now
    ·have e1:(expF (f+1) x now).1=(expF f x.come.1.over now).1:=by simp only[expF,hx,if_pos hle]
     have e2:A++(expF (f+1) x now).2=((A++x.lateF.2.1)++x.come.2)++(expF f x.come.1.over now).2:=by simp only[expF,hx,if_pos hle,List.append_assoc]
     obtain⟨s,hs⟩:∃ s,s=(popP x.du).2:=⟨_,rfl⟩
     obtain⟨aa,haa⟩:∃ a,a=(popP x.du).1:=⟨_,rfl⟩
     obtain⟨g1,R1,a1,S1⟩:=hpop_run a hpos (by omega)
     rw[<- hs,<- haa] at R1
     have a1:GAt g1 ρ γ x.pop:=a1
     obtain⟨g1b,hg1b⟩:∃ g1b,g1b=(g1++[AObj.cells [.int .i64 0,.int .i64 0] true]).set g1.length (.cells [.int .i64 aa,.int .i64 s] true):=⟨_,rfl⟩
     have K1b:Grow g1 g1b:=by rw[hg1b];exact ((Grow.refl g1).push _).set (Nat.le_refl _) _
     have bx:g1b[g1.length]?=some (.cells [.int .i64 aa,.int .i64 s] true):=by rw[hg1b];exact gE (gW _ _)
     have st1:(Asm.st (.push (.is g1) (.cells [.int .i64 0,.int .i64 0] true)) g1.length 0 [.int .i64 aa,.int .i64 s] [.int .i64 aa,.int .i64 s]).holds Try.prog:=a_st (gW _ _) (by simp) rfl
     obtain⟨g2,R2,K2⟩:=throw_run g1b late
     have bx2:=K2.get bx
     have a2:=(a1.grow K1b).grow K2
     have AG:∀ (sh:SH),sh.den[g1.length]?=some (.cells [.int .i64 aa,.int .i64 s] true)->(Asm.again sh 3 (.pointer (some ⟨g1.length,1,none⟩)) (.int .i64 s)).holds Try.prog:=fun sh e=>a_again1 agg3 e rfl rfl
     have LB:∀ (sh:SH),sh.den[g1.length]?=some (.cells [.int .i64 aa,.int .i64 s] true)->(Asm.ld1 sh g1.length 1 (.int .i64 s)).holds Try.prog:=fun sh e=>aL e rfl
     obtain⟨mv,g3,R3,a3,S3',sm⟩:=failG_run a2 (c:=c) ok (by omega) W J s 1 late
     rw[hs] at sm a3
     have a3:GAt g3 ρ γ x.lateF.1:=a3
     have okL:TOk (c+1) x.lateF.1.t:=by rw[late_t];exact ok.fail
     have WL:WI none x.lateF.1.t:=by rw[late_t];exact W.fail _ _ _
     have JL:WJ x.lateF.1.t:=by rw[late_t];exact J.fail ok _ _ _
     have sm:SlV g3 g2.length mv x.lateF.2.1.length 5 (efC x.lateF.2.1):=sm
     have eml:x.lateF.2.2=(x.pop.fail s 1 late).2.2:=by rw[hs];rfl
     have lm:x.lateF.2.1.length<=130:=by
      have h1:=fail_ef x.t (popP x.du).2 1 late
      have h2:=turned_len (c:=c+1) (x.t.fail (popP x.du).2 1 late).2.1 (x:={ x.pop with t:=(x.t.fail (popP x.du).2 1 late).1 }) ok.fail (W.fail _ _ _) (J.fail ok _ _ _)
      have:x.lateF.2.1.length<=65*(x.t.fail (popP x.du).2 1 late).2.1.length:=h2
      omega
     have lc:x.come.2.length<=65:=strikes_len okL WL JL _
     have K13:Keep (fun q=>fpG ρ γ q\/lo<=q) h g3:=(S1.keep.mono fun _ _ e=>.inl e).trans (((K1b.trans K2).mono fun _ _ e=>e.elim).trans (S3'.keep.mono fun _ _ e=>.inl e))
     have Kx:Keep (fpG ρ γ) h g3:=S1.keep.trans (((K1b.trans K2).mono fun _ _ e=>e.elim).trans S3'.keep)
     have lh1:=S1.keep.1
     have lh2:g1.length<=g2.length:=Nat.le_trans K1b.1 K2.1
     have lh3:=S3'.keep.1
     have l12:g1.length<g2.length:=get_lt bx2
     have bx3:g3[g1.length]?=some (.cells [.int .i64 aa,.int .i64 s] true):=S3'.keep.2 _ _ bx2 fun e=>by have:=hfp _ e;omega
     have sv3:SlV g3 lo v A.length 5 (efC A):=sv.keep Kx hfp
     have sm3:SlV g3 lo mv x.lateF.2.1.length 5 (efC x.lateF.2.1):=sm.mono (by omega)
     have up:∀ {E1:Env} {g4:Hp} {v4:Value} {g5:Hp},GAt g5 ρ γ x.come.1.over->Keep (fun q=>fpG ρ γ q\/lo<=q) h g5->SlV g5 lo v4 ((A++x.lateF.2.1)++x.come.2).length 5 (efC ((A++x.lateF.2.1)++x.come.2))->EnvLe [(6,v4),(0,ptr γ.g),(1,.int .i64 now)] E1->CRun Try.prog 57 false (loopN Try.f29 0) E h .normal E1 g5 ->
       ∃ E1 g1 w,Keep (fun q=>fpG ρ γ q\/lo<=q) h g1/\GAt g1 ρ γ (expF (f+1) x now).1/\SlV g1 lo w (A++(expF (f+1) x now).2).length 5 (efC (A++(expF (f+1) x now).2))/\EnvLe [(6,w)] E1/\LRun Try.prog 57 false (loopN Try.f29 0) E h (.exit 0) E1 g1:=by
      intro E1 g4 v4 g5 a5 K5 s5 hE5 c5
      have hdl:=over_du_len x.come.1
      rw[come_du,popped_len] at hdl
      obtain⟨E6,g6,w,K6,a6,s6,e6,l6⟩:=exp_loop f (c+1) x.come.1.over ((A++x.lateF.2.1)++x.come.2) v4 g5 E1 a5 (by show TOk (c+1) x.come.1.t;rw[come_t];exact ok.fail) (by show WI none x.come.1.t;rw[come_t];exact W.fail _ _ _) (by show WJ x.come.1.t;rw[come_t];exact J.fail ok _ _ _)
       (by omega) (by omega) (by simp only[List.length_append];omega) hfp (Nat.le_trans hlo K5.1) s5 hE5
      rw[e1,e2]
      exact⟨E6,g6,w,K5.trans K6,a6,s6,e6,.step c5 l6⟩
     have fin:∀ {g3':Hp},Keep (fun q=>lo<=q) g3 g3'->g3'[g1.length]?=some (.cells [.int .i64 aa,.int .i64 s] true)->∃ ev g4,Run Try.prog 55 [ptr γ.g,.int .i64 s] g3' ev g4/\GAt g4 ρ γ x.come.1/\Keep (fpG ρ γ) g3' g4/\SlV g4 lo ev x.come.2.length 5 (efC x.come.2):=by
      intro g3' K3' _
      obtain⟨ev,g4,R4,a4,S4,s4⟩:=strikes_run (a3.keep K3' fun q e f=>by have:=hfp q f;omega) okL (by omega) WL JL s
      rw[hs] at a4 s4
      exact⟨ev,g4,R4,a4,S4.keep,s4.mono (by have:=K3'.1;omega)⟩
     have ov:∀ {g4':Hp},GAt g4' ρ γ x.come.1->∃ g5,Run Try.prog 52 [ptr γ.g] g4' (.tuple #[]) g5/\GAt g5 ρ γ x.come.1.over/\Keep (fpG ρ γ) g4' g5:=by
      intro g4' a4'
      obtain⟨g5,R5,a5,S5⟩:=over_run a4' (c:=c+1) (by rw[come_t];exact ok.fail) (by omega) (by rw[come_du,popped_len];omega)
      exact⟨g5,R5,a5,S5.keep⟩
     rw[hg1b] at R2
     rcases sv3 with⟨o1,o2,rfl⟩ | ⟨o1,o2,oo,rfl,o4,o5⟩<;>rcases sm3 with⟨m1,m2,rfl⟩ | ⟨m1,m2,mm,rfl,m4,m5⟩
     ·have K3':Keep (fun q=>lo<=q) g3 g3:=Keep.refl _ _
      have bx3':=bx3
      have e0:x.lateF.2.1=[]:=List.length_eq_zero_iff.1 m1
      obtain⟨ev,g4,R4,a4,K4,s4⟩:=fin K3' bx3'
      rw[<- eml] at R3
      have K34:Keep (fun q=>fpG ρ γ q\/lo<=q) h g4:=K13.trans ((K3'.mono fun _ _ e=>.inr e).trans (K4.mono fun _ _ e=>.inl e))
      have A0:A=[]:=List.length_eq_zero_iff.1 o1
      have eA:A++x.lateF.2.1=[]:=by rw[e0,A0];rfl
      rcases s4 with⟨v1,v2,rfl⟩ | ⟨v1,v2,vv,rfl,v4,v5⟩
      ·have c0:x.come.2=[]:=List.length_eq_zero_iff.1 v1
       obtain⟨g5,R5,a5,K5⟩:=ov a4
       obtain⟨E1,q1,q2⟩:=pvC 0 hE (c13p.xl_000 γ.g d x.du.length g1.length 0 0 0 0 0 0 0 0 0 0 p.1 now aa s x.lateF.2.2 undef [] [] [] [] h g1 g2 g3 g4 g5) ⟨S3,G,S3,off0,L1,leT hle,R1,rfl,st1,stat29,AG _ (gE (gW _ _)),AG _ (gE (gW _ _)),AG _ bx2,LB _ (gE (gW _ _)),R2,R3,LB _ bx3',R4,R5,trivial⟩
       have Kf:=K34.trans (K5.mono fun _ _ e=>.inl e)
       exact up (g4:=g4) a5 Kf (.inl ⟨by rw[c0,eA];rfl,by rw[c0,eA];rfl,rfl⟩) (.trans (.add (.add (.add (.nil _) rfl) rfl) rfl) q1) q2
      ·obtain⟨k2,hk2⟩:∃ k,x.come.2.length=k+1:=⟨x.come.2.length-1,by omega⟩
       rw[hk2] at R4
       have Kp:Keep (fun q=>lo<=q) g4 (g4++[AObj.cells (efC x.come.2) true]):=Keep.push _ _ _
       have a4':=a4.keep Kp fun q e f=>by have:=hfp q f;omega
       obtain⟨g5,R5,a5,K5⟩:=ov a4'
       have ap2:(Asm.appNil (.is g4) vv 0 (k2+1) k2 5 48 (efC x.come.2) g4.length).holds Try.prog:=a_appNJ (junk:=[]) (by rw[List.append_nil];exact v4) (by rw[efC_len,hk2]) (efC_one _) (by omega) (by omega) rfl
       obtain⟨E1,q1,q2⟩:=pvC 0 hE (c13p.xl_001 γ.g d x.du.length g1.length 0 0 0 0 vv (k2+1) 0 k2 0 g4.length p.1 now aa s x.lateF.2.2 undef [] [] [] (efC x.come.2) h g1 g2 g3 g4 g5) ⟨S3,G,S3,off0,L1,leT hle,R1,rfl,st1,stat29,AG _ (gE (gW _ _)),AG _ (gE (gW _ _)),AG _ bx2,LB _ (gE (gW _ _)),R2,R3,LB _ bx3',R4,ap2,R5,trivial⟩
       have dn:(g4++[AObj.cells (efC x.come.2) true])[g4.length]?=some (.cells (efC ((A++x.lateF.2.1)++x.come.2)) true):=by rw[eA,List.nil_append];exact gW _ _
       have el2:((A++x.lateF.2.1)++x.come.2).length=k2+1:=by rw[List.length_append,hk2,eA];simp
       have g4l:lo<=g4.length:=Nat.le_trans hlo K34.1
       refine up (g4:=g4) a5 (K34.trans ((Kp.mono fun _ _ e=>.inr e).trans (K5.mono fun _ _ e=>.inl e))) (v4:=.slice (some ⟨g4.length,0,none⟩) ((A++x.lateF.2.1)++x.come.2).length 5) (.inr ⟨by rw[el2];omega,by rw[efC_len],g4.length,rfl,K5.2 _ _ dn fun e=>by have:=hfp _ e;omega,g4l⟩) ?_ q2
       rw[el2];exact .trans (.add (.add (.add (.nil _) rfl) rfl) rfl) q1
     ·obtain⟨k1,hk1⟩:∃ k,x.lateF.2.1.length=k+1:=⟨x.lateF.2.1.length-1,by omega⟩
      have A0:A=[]:=List.length_eq_zero_iff.1 o1
      have K3':Keep (fun q=>lo<=q) g3 (g3++[AObj.cells (efC x.lateF.2.1) true]):=Keep.push _ _ _
      have bx3':=gP (x:=AObj.cells (efC x.lateF.2.1) true) bx3
      have d1:(g3++[AObj.cells (efC x.lateF.2.1) true])[g3.length]?=some (.cells (efC (A++x.lateF.2.1)) true):=by rw[A0];exact gW _ _
      have ap1:(Asm.appNil (.is g3) mm 0 (k1+1) k1 5 48 (efC x.lateF.2.1) g3.length).holds Try.prog:=a_appNJ (junk:=[]) (by rw[List.append_nil];exact m4) (by rw[efC_len,hk1]) (efC_one _) (by omega) (by omega) rfl
      obtain⟨ev,g4,R4,a4,K4,s4⟩:=fin K3' bx3'
      rw[<- eml,hk1] at R3
      have K34:Keep (fun q=>fpG ρ γ q\/lo<=q) h g4:=K13.trans ((K3'.mono fun _ _ e=>.inr e).trans (K4.mono fun _ _ e=>.inl e))
      have d4:=K4.2 _ _ d1 fun e=>by have:=hfp _ e;omega
      have dlo:lo<=g3.length:=by omega
      have el1:(A++x.lateF.2.1).length=k1+1:=by rw[List.length_append,hk1];omega
      rcases s4 with⟨v1,v2,rfl⟩ | ⟨v1,v2,vv,rfl,v4,v5⟩
      ·have c0:x.come.2=[]:=List.length_eq_zero_iff.1 v1
       obtain⟨g5,R5,a5,K5⟩:=ov a4
       obtain⟨E1,q1,q2⟩:=pvC 0 hE (c13p.xl_010 γ.g d x.du.length g1.length 0 0 mm (k1+1) 0 0 k1 0 g3.length 0 p.1 now aa s x.lateF.2.2 undef [] [] (efC x.lateF.2.1) [] h g1 g2 g3 g4 g5) ⟨S3,G,S3,off0,L1,leT hle,R1,rfl,st1,stat29,AG _ (gE (gW _ _)),AG _ (gE (gW _ _)),AG _ bx2,LB _ (gE (gW _ _)),R2,R3,ap1,LB _ bx3',R4,R5,trivial⟩
       have Kf:=K34.trans (K5.mono fun _ _ e=>.inl e)
       refine up (g4:=g4) a5 Kf (v4:=.slice (some ⟨g3.length,0,none⟩) ((A++x.lateF.2.1)++x.come.2).length 5) (.inr ⟨?_,by rw[efC_len],g3.length,rfl,?_,dlo⟩) ?_ q2
       ·rw[c0,List.append_nil,el1];omega
       ·rw[c0,List.append_nil];exact K5.2 _ _ d4 fun e=>by have:=hfp _ e;omega
       ·rw[c0,List.append_nil,el1];exact .trans (.add (.add (.add (.nil _) rfl) rfl) rfl) q1
      ·obtain⟨k2,hk2⟩:∃ k,x.come.2.length=k+1:=⟨x.come.2.length-1,by omega⟩
       rw[hk2] at R4
       have hvv:=get_lt v4
       have Kp:Keep (fun q=>lo<=q) g4 ((g4.set g3.length .dead)++[AObj.cells (efC (A++x.lateF.2.1)++efC x.come.2) true]):=(Keep.set (fp:=fun q=>lo<=q) dlo _).trans (Keep.push _ _ _)
       have a4':=a4.keep Kp fun q e f=>by have:=hfp q f;omega
       obtain⟨g5,R5,a5,K5⟩:=ov a4'
       have ap2:(Asm.app (.is g4) g3.length 0 (k1+1) vv 0 (k2+1) k2 5 48 (efC (A++x.lateF.2.1)++efC x.come.2) (efC x.come.2) g4.length).holds Try.prog:=a_appSJ (junk:=[]) (junk2:=[]) (by rw[List.append_nil];exact d4) (by rw[efC_len,el1]) (by rw[List.append_nil];exact v4) (by rw[efC_len,hk2]) (efC_one _) (by omega) (by omega) (by omega) rfl
       obtain⟨E1,q1,q2⟩:=pvC 0 hE (c13p.xl_011 γ.g d x.du.length g1.length 0 0 mm (k1+1) vv (k2+1) k1 k2 g3.length g4.length p.1 now aa s x.lateF.2.2 undef [] (efC (A++x.lateF.2.1)++efC x.come.2) (efC x.lateF.2.1) (efC x.come.2) h g1 g2 g3 g4 g5) ⟨S3,G,S3,off0,L1,leT hle,R1,rfl,st1,stat29,AG _ (gE (gW _ _)),AG _ (gE (gW _ _)),AG _ bx2,LB _ (gE (gW _ _)),R2,R3,ap1,LB _ bx3',R4,ap2,R5,trivial⟩
       have dn:((g4.set g3.length .dead)++[AObj.cells (efC (A++x.lateF.2.1)++efC x.come.2) true])[g4.length]?=some (.cells (efC ((A++x.lateF.2.1)++x.come.2)) true):=by rw[efC_app (A++x.lateF.2.1)];exact gV _ (by simp)
       have el2:((A++x.lateF.2.1)++x.come.2).length=k1+1+(k2+1):=by rw[List.length_append,hk2,el1]
       have g4l:lo<=g4.length:=Nat.le_trans hlo K34.1
       refine up (g4:=g4) a5 (K34.trans ((Kp.mono fun _ _ e=>.inr e).trans (K5.mono fun _ _ e=>.inl e))) (v4:=.slice (some ⟨g4.length,0,none⟩) ((A++x.lateF.2.1)++x.come.2).length 5) (.inr ⟨by rw[el2];omega,by rw[efC_len],g4.length,rfl,K5.2 _ _ dn fun e=>by have:=hfp _ e;omega,g4l⟩) ?_ q2
       rw[el2];exact .trans (.add (.add (.add (.nil _) rfl) rfl) rfl) q1
     ·have K3':Keep (fun q=>lo<=q) g3 g3:=Keep.refl _ _
      have bx3':=bx3
      have e0:x.lateF.2.1=[]:=List.length_eq_zero_iff.1 m1
      obtain⟨ev,g4,R4,a4,K4,s4⟩:=fin K3' bx3'
      rw[<- eml] at R3
      have K34:Keep (fun q=>fpG ρ γ q\/lo<=q) h g4:=K13.trans ((K3'.mono fun _ _ e=>.inr e).trans (K4.mono fun _ _ e=>.inl e))
      have eA:A++x.lateF.2.1=A:=by rw[e0,List.append_nil]
      have d4:g4[oo]?=some (.cells (efC (A++x.lateF.2.1)) true):=by rw[eA];exact K4.2 _ _ o4 fun e=>by have:=hfp _ e;omega
      have dlo:=o5
      have el1:(A++x.lateF.2.1).length=A.length:=by rw[List.length_append,e0];rfl
      rcases s4 with⟨v1,v2,rfl⟩ | ⟨v1,v2,vv,rfl,v4,v5⟩
      ·have c0:x.come.2=[]:=List.length_eq_zero_iff.1 v1
       obtain⟨g5,R5,a5,K5⟩:=ov a4
       obtain⟨E1,q1,q2⟩:=pvC 0 hE (c13p.xl_100 γ.g d x.du.length g1.length oo A.length 0 0 0 0 0 0 0 0 p.1 now aa s x.lateF.2.2 undef [] [] [] [] h g1 g2 g3 g4 g5) ⟨S3,G,S3,off0,L1,leT hle,R1,rfl,st1,stat29,AG _ (gE (gW _ _)),AG _ (gE (gW _ _)),AG _ bx2,LB _ (gE (gW _ _)),R2,R3,LB _ bx3',R4,R5,trivial⟩
       have Kf:=K34.trans (K5.mono fun _ _ e=>.inl e)
       refine up (g4:=g4) a5 Kf (v4:=.slice (some ⟨oo,0,none⟩) ((A++x.lateF.2.1)++x.come.2).length 5) (.inr ⟨?_,by rw[efC_len],oo,rfl,?_,dlo⟩) ?_ q2
       ·rw[c0,List.append_nil,el1];omega
       ·rw[c0,List.append_nil];exact K5.2 _ _ d4 fun e=>by have:=hfp _ e;omega
       ·rw[c0,List.append_nil,el1];exact .trans (.add (.add (.add (.nil _) rfl) rfl) rfl) q1
      ·obtain⟨k2,hk2⟩:∃ k,x.come.2.length=k+1:=⟨x.come.2.length-1,by omega⟩
       rw[hk2] at R4
       have hvv:=get_lt v4
       have Kp:Keep (fun q=>lo<=q) g4 ((g4.set oo .dead)++[AObj.cells (efC (A++x.lateF.2.1)++efC x.come.2) true]):=(Keep.set (fp:=fun q=>lo<=q) dlo _).trans (Keep.push _ _ _)
       have a4':=a4.keep Kp fun q e f=>by have:=hfp q f;omega
       obtain⟨g5,R5,a5,K5⟩:=ov a4'
       have ap2:(Asm.app (.is g4) oo 0 (A.length) vv 0 (k2+1) k2 5 48 (efC (A++x.lateF.2.1)++efC x.come.2) (efC x.come.2) g4.length).holds Try.prog:=a_appSJ (junk:=[]) (junk2:=[]) (by rw[List.append_nil];exact d4) (by rw[efC_len,el1]) (by rw[List.append_nil];exact v4) (by rw[efC_len,hk2]) (efC_one _) (by omega) (by omega) (by omega) rfl
       obtain⟨E1,q1,q2⟩:=pvC 0 hE (c13p.xl_101 γ.g d x.du.length g1.length oo A.length 0 0 vv (k2+1) 0 k2 0 g4.length p.1 now aa s x.lateF.2.2 undef [] (efC (A++x.lateF.2.1)++efC x.come.2) [] (efC x.come.2) h g1 g2 g3 g4 g5) ⟨S3,G,S3,off0,L1,leT hle,R1,rfl,st1,stat29,AG _ (gE (gW _ _)),AG _ (gE (gW _ _)),AG _ bx2,LB _ (gE (gW _ _)),R2,R3,LB _ bx3',R4,ap2,R5,trivial⟩
       have dn:((g4.set oo .dead)++[AObj.cells (efC (A++x.lateF.2.1)++efC x.come.2) true])[g4.length]?=some (.cells (efC ((A++x.lateF.2.1)++x.come.2)) true):=by rw[efC_app (A++x.lateF.2.1)];exact gV _ (by simp)
       have el2:((A++x.lateF.2.1)++x.come.2).length=A.length+(k2+1):=by rw[List.length_append,hk2,el1]
       have g4l:lo<=g4.length:=Nat.le_trans hlo K34.1
       refine up (g4:=g4) a5 (K34.trans ((Kp.mono fun _ _ e=>.inr e).trans (K5.mono fun _ _ e=>.inl e))) (v4:=.slice (some ⟨g4.length,0,none⟩) ((A++x.lateF.2.1)++x.come.2).length 5) (.inr ⟨by rw[el2];omega,by rw[efC_len],g4.length,rfl,K5.2 _ _ dn fun e=>by have:=hfp _ e;omega,g4l⟩) ?_ q2
       rw[el2];exact .trans (.add (.add (.add (.nil _) rfl) rfl) rfl) q1
     ·obtain⟨k1,hk1⟩:∃ k,x.lateF.2.1.length=k+1:=⟨x.lateF.2.1.length-1,by omega⟩
      have K3':Keep (fun q=>lo<=q) g3 ((g3.set oo .dead)++[AObj.cells (efC A++efC x.lateF.2.1) true]):=(Keep.set (fp:=fun q=>lo<=q) o5 _).trans (Keep.push _ _ _)
      have hne:oo≠g1.length:=fun f=>by rw[f,bx3] at o4;exact absurd (congrArg (fun q=>(Option.map (fun o=>match o with | AObj.cells l _=>l.length | _=>0) q)) o4) (by simp[efC_len];omega)
      have bx3':((g3.set oo .dead)++[AObj.cells (efC A++efC x.lateF.2.1) true])[g1.length]?=_:=gP (gNq bx3 hne)
      have d1:((g3.set oo .dead)++[AObj.cells (efC A++efC x.lateF.2.1) true])[g3.length]?=some (.cells (efC (A++x.lateF.2.1)) true):=by rw[efC_app];exact gV _ (by simp)
      have ap1:(Asm.app (.is g3) oo 0 A.length mm 0 (k1+1) k1 5 48 (efC A++efC x.lateF.2.1) (efC x.lateF.2.1) g3.length).holds Try.prog:=a_appSJ (junk:=[]) (junk2:=[]) (by rw[List.append_nil];exact o4) (by rw[efC_len]) (by rw[List.append_nil];exact m4) (by rw[efC_len,hk1]) (efC_one _) (by omega) (by omega) (by omega) rfl
      obtain⟨ev,g4,R4,a4,K4,s4⟩:=fin K3' bx3'
      rw[<- eml,hk1] at R3
      have K34:Keep (fun q=>fpG ρ γ q\/lo<=q) h g4:=K13.trans ((K3'.mono fun _ _ e=>.inr e).trans (K4.mono fun _ _ e=>.inl e))
      have d4:=K4.2 _ _ d1 fun e=>by have:=hfp _ e;omega
      have dlo:lo<=g3.length:=by omega
      have el1:(A++x.lateF.2.1).length=A.length+(k1+1):=by rw[List.length_append,hk1]
      rcases s4 with⟨v1,v2,rfl⟩ | ⟨v1,v2,vv,rfl,v4,v5⟩
      ·have c0:x.come.2=[]:=List.length_eq_zero_iff.1 v1
       obtain⟨g5,R5,a5,K5⟩:=ov a4
       obtain⟨E1,q1,q2⟩:=pvC 0 hE (c13p.xl_110 γ.g d x.du.length g1.length oo A.length mm (k1+1) 0 0 k1 0 g3.length 0 p.1 now aa s x.lateF.2.2 undef (efC A++efC x.lateF.2.1) [] (efC x.lateF.2.1) [] h g1 g2 g3 g4 g5) ⟨S3,G,S3,off0,L1,leT hle,R1,rfl,st1,stat29,AG _ (gE (gW _ _)),AG _ (gE (gW _ _)),AG _ bx2,LB _ (gE (gW _ _)),R2,R3,ap1,LB _ bx3',R4,R5,trivial⟩
       have Kf:=K34.trans (K5.mono fun _ _ e=>.inl e)
       refine up (g4:=g4) a5 Kf (v4:=.slice (some ⟨g3.length,0,none⟩) ((A++x.lateF.2.1)++x.come.2).length 5) (.inr ⟨?_,by rw[efC_len],g3.length,rfl,?_,dlo⟩) ?_ q2
       ·rw[c0,List.append_nil,el1];omega
       ·rw[c0,List.append_nil];exact K5.2 _ _ d4 fun e=>by have:=hfp _ e;omega
       ·rw[c0,List.append_nil,el1];exact .trans (.add (.add (.add (.nil _) rfl) rfl) rfl) q1
      ·obtain⟨k2,hk2⟩:∃ k,x.come.2.length=k+1:=⟨x.come.2.length-1,by omega⟩
       rw[hk2] at R4
       have hvv:=get_lt v4
       have Kp:Keep (fun q=>lo<=q) g4 ((g4.set g3.length .dead)++[AObj.cells (efC (A++x.lateF.2.1)++efC x.come.2) true]):=(Keep.set (fp:=fun q=>lo<=q) dlo _).trans (Keep.push _ _ _)
       have a4':=a4.keep Kp fun q e f=>by have:=hfp q f;omega
       obtain⟨g5,R5,a5,K5⟩:=ov a4'
       have ap2:(Asm.app (.is g4) g3.length 0 (A.length+(k1+1)) vv 0 (k2+1) k2 5 48 (efC (A++x.lateF.2.1)++efC x.come.2) (efC x.come.2) g4.length).holds Try.prog:=a_appSJ (junk:=[]) (junk2:=[]) (by rw[List.append_nil];exact d4) (by rw[efC_len,el1]) (by rw[List.append_nil];exact v4) (by rw[efC_len,hk2]) (efC_one _) (by omega) (by omega) (by omega) rfl
       obtain⟨E1,q1,q2⟩:=pvC 0 hE (c13p.xl_111 γ.g d x.du.length g1.length oo A.length mm (k1+1) vv (k2+1) k1 k2 g3.length g4.length p.1 now aa s x.lateF.2.2 undef (efC A++efC x.lateF.2.1) (efC (A++x.lateF.2.1)++efC x.come.2) (efC x.lateF.2.1) (efC x.come.2) h g1 g2 g3 g4 g5) ⟨S3,G,S3,off0,L1,leT hle,R1,rfl,st1,stat29,AG _ (gE (gW _ _)),AG _ (gE (gW _ _)),AG _ bx2,LB _ (gE (gW _ _)),R2,R3,ap1,LB _ bx3',R4,ap2,R5,trivial⟩
       have dn:((g4.set g3.length .dead)++[AObj.cells (efC (A++x.lateF.2.1)++efC x.come.2) true])[g4.length]?=some (.cells (efC ((A++x.lateF.2.1)++x.come.2)) true):=by rw[efC_app (A++x.lateF.2.1)];exact gV _ (by simp)
       have el2:((A++x.lateF.2.1)++x.come.2).length=A.length+(k1+1)+(k2+1):=by rw[List.length_append,hk2,el1]
       have g4l:lo<=g4.length:=Nat.le_trans hlo K34.1
       refine up (g4:=g4) a5 (K34.trans ((Kp.mono fun _ _ e=>.inr e).trans (K5.mono fun _ _ e=>.inl e))) (v4:=.slice (some ⟨g4.length,0,none⟩) ((A++x.lateF.2.1)++x.come.2).length 5) (.inr ⟨by rw[el2];omega,by rw[efC_len],g4.length,rfl,K5.2 _ _ dn fun e=>by have:=hfp _ e;omega,g4l⟩) ?_ q2
       rw[el2];exact .trans (.add (.add (.add (.nil _) rfl) rfl) rfl) q1
    ·have e:expF (f+1) x now=(x,[]):=by simp only[expF,hx,if_neg hle]
     obtain⟨E1,q1,q2⟩:=pvC 0 hE (c13p.xl_late γ.g d x.du.length 0 0 0 0 0 0 0 0 0 0 0 p.1 now 0 0 0 v [] [] [] [] h h h h h h) ⟨S3,G,S3,off0,L1,leF (by omega),trivial⟩
     rw[e,List.append_nil]
     exact⟨E1,h,v,Keep.refl _ _,a,sv,.trans (.add (.nil _) rfl) q1,.last q2 (by simp)⟩
termination_by f=>f
theorem plain29:plainC (loopN Try.f29 0)=true:=by kernel_rfl
theorem expire_run(a:GAt h ρ γ x)(ok:TOk c x.t)(W:WI none x.t)(J:WJ x.t)(hc:c+x.du.length<=998)(now:Int) :
  ∃ v g,Run Try.prog 29 [ptr γ.g,.int .i64 now] h (.tuple #[v,.int .i64 0]) g/\GAt g ρ γ (x.expire now).1/\GStep ρ γ h ρ γ g/\SlV g h.length v (x.expire now).2.length 5 (efC (x.expire now).2):=by
 obtain⟨g1,R1,a1,S1⟩:=over_run a ok (by omega) (by omega)
 have hdl:=over_du_len x
 obtain⟨E1,g2,w,K,a2,sv,e1,l1⟩:=exp_loop (ρ:=ρ) (γ:=γ) (now:=now) (lo:=g1.length) x.over.du.length c x.over [] (.slice none 0 0) g1 [(6,.slice none 0 0),(0,ptr γ.g),(1,.int .i64 now)] a1 ok W J (Nat.le_refl _) (by omega) (by simp;omega) (fun q e=>a1.lt e) (Nat.le_refl _) (.inl ⟨rfl,rfl,rfl⟩) (EnvLe.refl _)
 rw[List.nil_append] at sv
 exact⟨w,g2,pvF 0 Try.func29 (c13p.ex γ.g now w h g1 g2) ⟨R1,a_loop plain29 (.add (.add (.add (.nil _) rfl) rfl) rfl) e1 l1,trivial⟩,a2,S1.trans ⟨K.mono fun q hq e=>e.elim id fun e=>by omega,fun q e=>.inl e,rfl⟩,sv.mono S1.keep.1⟩
end
end Go.Proofs.Ytlonjogfeidgfaa.gr
namespace Go.Proofs.Ytlonjogfeidgfaa.gr
open Go Go.Ev Go.Proofs.Ytlonjogfeidgfaa.tr
set_option maxRecDepth 100000
set_option linter.unusedVariables false
set_option linter.constructorNameAsVariable false
theorem awake_run(h:Hp):Run Try.prog 11 [] h (.bool true) h:=Run.of_ev (k:=60) (by kernel_rfl)
def GOk(k:Nat)(x:GS):Prop:=∃ c,TOk c x.t/\WI none x.t/\WJ x.t/\c+x.du.length<=k
section
variable {x:GS} {k:Nat}
theorem GOk.mono{k':Nat}(o:GOk k x)(h:k<=k'):GOk k' x:=let ⟨c,a,b,d,e⟩:=o;⟨c,a,b,d,Nat.le_trans e h⟩
theorem GOk.open(o:GOk k x)(n:Int)(su:Bool)(u:Int):GOk (k+2) (x.open n su u):=by
 obtain⟨c,a,b,d,e⟩:=o
 unfold GS.open;split
 ·exact⟨c+1,a.open,b.open a n su,d.open a n su,by simp only[upF_len,List.length_append,List.length_cons,List.length_nil];omega⟩
 ·exact⟨c+1,a.open,b.open a n su,d.open a n su,by show c+1+x.du.length<=k+2;omega⟩
theorem GOk.spawn(o:GOk k x)(n:Int):GOk (k+2) { x with t:=(x.t.spawn n).1 }:=by
 obtain⟨c,a,b,d,e⟩:=o
 exact⟨c+1,a.spawn,b.spawn a n,d.spawn a n,by show c+1+x.du.length<=k+2;omega⟩
theorem GOk.shield(o:GOk k x)(n:Int):GOk (k+2) { x with t:=(x.t.shield n).1 }:=by
 obtain⟨c,a,b,d,e⟩:=o
 exact⟨c+1,a.shield,b.shield n,d.shield a n,by show c+1+x.du.length<=k+2;omega⟩
theorem GOk.unveil(o:GOk k x)(n:Int):GOk (k+2) { x with t:=(x.t.unveil n).1 }:=by
 obtain⟨c,a,b,d,e⟩:=o
 exact⟨c+1,a.unveil,b.unveil n,d.unveil a n,by show c+1+x.du.length<=k+2;omega⟩
theorem GOk.root(o:GOk k x):GOk (k+2) { x with t:=x.t.root.1 }:=by
 obtain⟨c,a,b,d,e⟩:=o
 exact⟨c+1,a.root,b.root a,d.root a,by show c+1+x.du.length<=k+2;omega⟩
theorem GOk.end(o:GOk k x)(n fk:Int)(ft:ByteArray):GOk (k+2) (x.end n fk ft).1:=by
 obtain⟨c,a,b,d,e⟩:=o
 have ht:(x.end n fk ft).1.t=(x.t.end n fk ft).1:=after_t _ _
 have hd:(x.end n fk ft).1.du=x.du:=turned_du _ _
 exact⟨c+1,ht▸a.end,ht▸b.end a n fk ft,ht▸d.end a n fk ft,by rw[hd];omega⟩
theorem GOk.leave(o:GOk k x)(n fk:Int)(ft:ByteArray):GOk (k+2) (x.leave n fk ft).1:=by
 obtain⟨c,a,b,d,e⟩:=o
 have ht:(x.leave n fk ft).1.t=(x.t.leave n fk ft).1:=after_t _ _
 have hd:(x.leave n fk ft).1.du=x.du:=turned_du _ _
 exact⟨c+1,ht▸a.leave,ht▸b.leave a n fk ft,ht▸d.leave a n fk ft,by rw[hd];omega⟩
theorem GOk.fail1(o:GOk k x)(n fk:Int)(ft:ByteArray):GOk (k+1) (x.fail n fk ft).1:=by
 obtain⟨c,a,b,d,e⟩:=o
 have ht:(x.fail n fk ft).1.t=(x.t.fail n fk ft).1:=after_t _ _
 have hd:(x.fail n fk ft).1.du=x.du:=turned_du _ _
 exact⟨c+1,ht▸a.fail,ht▸b.fail n fk ft,ht▸d.fail a n fk ft,by rw[hd];omega⟩
theorem GOk.fail(o:GOk k x)(n fk:Int)(ft:ByteArray):GOk (k+2) (x.fail n fk ft).1:=(o.fail1 n fk ft).mono (by omega)
theorem GOk.strike(o:GOk k x)(b:Bool)(n:Int)(l:List Int):GOk k (x.strike b n l).1:=by
 obtain⟨c,a,w,d,e⟩:=o
 exact⟨c,(strike_t x b n l)▸a,(strike_t x b n l)▸w,(strike_t x b n l)▸d,by rw[strike_du];exact e⟩
theorem GOk.strikeT(o:GOk k x)(n:Int):GOk (k+2) (x.strikeT n).1:=by
 unfold GS.strikeT;split
 ·exact o.mono (by omega)
 ·exact (o.strike _ _ _).mono (by omega)
theorem GOk.over(o:GOk k x):GOk k x.over:=by
 obtain⟨c,a,w,d,e⟩:=o
 exact⟨c,a,w,d,Nat.le_trans (Nat.add_le_add_left (over_du_len x) c) e⟩
theorem GOk.come(o:GOk k x)(h:x.du≠[]):GOk k x.come.1:=by
 obtain⟨c,a,b,d,e⟩:=o
 have hl:x.du.length≠0:=fun f=>h (List.length_eq_zero_iff.1 f)
 exact⟨c+1,(come_t x)▸a.fail,(come_t x)▸b.fail _ _ _,(come_t x)▸d.fail a _ _ _,by rw[come_du,popped_len];omega⟩
theorem GOk.expF:∀ (f:Nat) {x:GS} (now:Int),GOk k x->GOk k (expF f x now).1
 | 0,x,now,o=>o
 | f+1,x,now,o=>by
  unfold gr.expF;split
  ·exact o
  ·rename_i p r e
   split
   ·exact GOk.expF f now (o.come (by rw[e];simp)).over
   ·exact o
theorem GOk.expire(o:GOk k x)(now:Int):GOk k (x.expire now).1:=o.over.expF _ now
theorem GOk.roots{n:Nat}(h:n<=64):GOk n (GS.roots n):=⟨n,roots_ok n h,WI.roots n,WJ.roots n,Nat.le_refl _⟩
end
structure OpV where
 k:Int
 n:Int
 m:Int
 y:Bool
 fk:Int
 ft:ByteArray
def OpV.cells(o:OpV):List Value:=[.int .i64 o.k,.int .i64 o.n,.int .i64 o.m,.bool o.y,.int .i64 o.fk,.string o.ft]
def opC:List OpV->List Value
 | []=>[]
 | o::l=>o.cells++opC l
theorem opC_len:∀ l:List OpV,(opC l).length=l.length*6
 | []=>rfl
 | o::l=>by simp[opC,OpV.cells,opC_len l];omega
theorem opC_at:∀ {l:List OpV} {k:Nat} {o:OpV},l[k]?=some o->((opC l).drop (k*6)).take 6=o.cells
 | [],k,o,h=>by simp at h
 | x::l,0,o,h=>by
  simp at h;subst h
  simp[opC,OpV.cells]
 | x::l,k+1,o,h=>by
  have:=opC_at (l:=l) (k:=k) (o:=o) (by simpa using h)
  rw[opC,List.drop_append,List.drop_of_length_le (by simp[OpV.cells];omega),show (k+1)*6-x.cells.length=k*6 by simp[OpV.cells];omega,List.nil_append]
  exact this
def GS.run(x:GS)(o:OpV):GS×List Ef×Bool :=
 if o.k=0 then (x.open o.n o.y o.m,[],decide ((x.t.open o.n o.y).2.2=0)) else
 if o.k=1 then ({ x with t:=(x.t.spawn o.n).1 },[],decide ((x.t.spawn o.n).2.2=0)) else
 if o.k=2 then ((x.end o.n o.fk o.ft).1,(x.end o.n o.fk o.ft).2.1,decide ((x.end o.n o.fk o.ft).2.2=0)) else
 if o.k=3 then ((x.leave o.n o.fk o.ft).1,(x.leave o.n o.fk o.ft).2.1,decide ((x.leave o.n o.fk o.ft).2.2=0)) else
 if o.k=4 then ({ x with t:=(x.t.shield o.n).1 },[],decide ((x.t.shield o.n).2=0)) else
 if o.k=5 then ({ x with t:=(x.t.unveil o.n).1 },[],decide ((x.t.unveil o.n).2=0)) else
 if o.k=6 then ((x.fail o.n o.fk o.ft).1,(x.fail o.n o.fk o.ft).2.1,decide ((x.fail o.n o.fk o.ft).2.2=0)) else
 if o.k=7 then ({ x with t:=x.t.root.1 },[],decide (x.t.root.2.2=0)) else
 if o.k=8 then ((x.strikeT o.n).1,(x.strikeT o.n).2.1,decide ((x.strikeT o.n).2.2=0)) else
 if o.k=9 then ((x.expire o.n).1,(x.expire o.n).2,true) else (x,[],true)
theorem GOk.run{k:Nat}{x:GS}(ok:GOk k x)(o:OpV):GOk (k+2) (x.run o).1:=by
 unfold GS.run
 repeat' split
 ·exact ok.open _ _ _
 ·exact ok.spawn _
 ·exact ok.end _ _ _
 ·exact ok.leave _ _ _
 ·exact ok.shield _
 ·exact ok.unveil _
 ·exact ok.fail _ _ _
 ·exact ok.root
 ·exact ok.strikeT _
 ·exact (ok.expire _).mono (by omega)
 ·exact ok.mono (by omega)
section
variable {h:Hp} {ρ:Lay} {γ:GL} {x:GS} {k:Nat}
theorem run_run(a:GAt h ρ γ x)(ok:GOk k x)(hc:k<=900)(o:OpV) :
  ∃ v ρ' γ' h',Run Try.prog 13 [ptr γ.g,.agg o.cells.toArray] h (.tuple #[v,.bool (x.run o).2.2]) h'/\GAt h' ρ' γ' (x.run o).1/\GStep ρ γ h ρ' γ' h'/\SlV h' h.length v (x.run o).2.1.length 5 (efC (x.run o).2.1):=by
 obtain⟨c,ok,W,J,hk⟩:=ok
 obtain⟨k,n,m,y,fk,ft⟩:=o
 have K1:Grow h (h++[AObj.cells (OpV.cells ⟨k,n,m,y,fk,ft⟩) true]):=Keep.push _ _ _
 have a1:=a.grow K1
 have s1:GStep ρ γ h ρ γ (h++[AObj.cells (OpV.cells ⟨k,n,m,y,fk,ft⟩) true]):=.grow K1
 have gb:(h++[AObj.cells (OpV.cells ⟨k,n,m,y,fk,ft⟩) true])[h.length]?=some (.cells (OpV.cells ⟨k,n,m,y,fk,ft⟩) true):=gW _ _
 have L0:(Asm.ld1 (.push (.is h) (.cells (OpV.cells ⟨k,n,m,y,fk,ft⟩) true)) h.length 0 (.int .i64 k)).holds Try.prog:=aL gb rfl
 have L1:(Asm.ld1 (.push (.is h) (.cells (OpV.cells ⟨k,n,m,y,fk,ft⟩) true)) h.length 1 (.int .i64 n)).holds Try.prog:=aL gb rfl
 have L2:(Asm.ld1 (.push (.is h) (.cells (OpV.cells ⟨k,n,m,y,fk,ft⟩) true)) h.length 2 (.int .i64 m)).holds Try.prog:=aL gb rfl
 have L3:(Asm.ld1 (.push (.is h) (.cells (OpV.cells ⟨k,n,m,y,fk,ft⟩) true)) h.length 3 (.bool y)).holds Try.prog:=aL gb rfl
 have L4:(Asm.ldn (.push (.is h) (.cells (OpV.cells ⟨k,n,m,y,fk,ft⟩) true)) h.length 4 2 [.int .i64 fk,.string ft]).holds Try.prog:=aN gb (by simp[OpV.cells]) rfl
 have nil:∀ h',SlV h' h.length (.slice none 0 0) ([]:List Ef).length 5 (efC []):=fun _=>.inl ⟨rfl,rfl,rfl⟩
 by_cases c0:k=0
 ·obtain⟨ρ',γ',h',r1,r2,r3⟩:=openG_run a1 ok (by omega) (by omega) n y m
  rw[show x.run ⟨k,n,m,y,fk,ft⟩=(x.open n y m,[],decide ((x.t.open n y).2.2=0)) by simp[GS.run,c0]]
  exact⟨_,ρ',γ',h',by subst c0;exact pvF 0 Try.func13 (c16p.rn_0 γ.g h.length 0 n m fk _ _ y _ ft undef h h') ⟨rfl,L0,eqT rfl,L1,L3,L2,r1,eqD,trivial⟩,r2,s1.trans r3,nil _⟩
 by_cases c1:k=1
 ·obtain⟨ρ',h',r1,r2,r3⟩:=spawnG_run a1 ok (by omega) n
  rw[show x.run ⟨k,n,m,y,fk,ft⟩=({ x with t:=(x.t.spawn n).1 },[],decide ((x.t.spawn n).2.2=0)) by simp[GS.run,c1]]
  exact⟨_,ρ',γ,h',pvF 0 Try.func13 (c16p.rn_1 γ.g h.length k n m fk _ _ y _ ft undef h h') ⟨rfl,L0,eqF c0,eqT c1,L1,r1,eqD,trivial⟩,r2,s1.trans r3,nil _⟩
 by_cases c2:k=2
 ·obtain⟨v,h',r1,r2,r3,r4⟩:=endG_run a1 ok (by omega) W J n fk ft
  rw[show x.run ⟨k,n,m,y,fk,ft⟩=((x.end n fk ft).1,(x.end n fk ft).2.1,decide ((x.end n fk ft).2.2=0)) by simp[GS.run,c2]]
  exact⟨_,ρ,γ,h',pvF 0 Try.func13 (c16p.rn_2 γ.g h.length k n m fk 0 _ y _ ft v h h') ⟨rfl,L0,eqF c0,eqF c1,eqT c2,L1,L4,r1,eqD,trivial⟩,r2,s1.trans r3,r4.mono K1.1⟩
 by_cases c3:k=3
 ·obtain⟨v,h',r1,r2,r3,r4⟩:=leaveG_run a1 ok (by omega) W J n fk ft
  rw[show x.run ⟨k,n,m,y,fk,ft⟩=((x.leave n fk ft).1,(x.leave n fk ft).2.1,decide ((x.leave n fk ft).2.2=0)) by simp[GS.run,c3]]
  exact⟨_,ρ,γ,h',pvF 0 Try.func13 (c16p.rn_3 γ.g h.length k n m fk 0 _ y _ ft v h h') ⟨rfl,L0,eqF c0,eqF c1,eqF c2,eqT c3,L1,L4,r1,eqD,trivial⟩,r2,s1.trans r3,r4.mono K1.1⟩
 by_cases c4:k=4
 ·obtain⟨ρ',h',r1,r2,r3⟩:=shieldG_run a1 ok (by omega) n
  rw[show x.run ⟨k,n,m,y,fk,ft⟩=({ x with t:=(x.t.shield n).1 },[],decide ((x.t.shield n).2=0)) by simp[GS.run,c4]]
  exact⟨_,ρ',γ,h',pvF 0 Try.func13 (c16p.rn_4 γ.g h.length k n m fk 0 _ y _ ft undef h h') ⟨rfl,L0,eqF c0,eqF c1,eqF c2,eqF c3,eqT c4,L1,r1,eqD,trivial⟩,r2,s1.trans r3,nil _⟩
 by_cases c5:k=5
 ·obtain⟨ρ',h',r1,r2,r3⟩:=unveilG_run a1 ok (by omega) n
  rw[show x.run ⟨k,n,m,y,fk,ft⟩=({ x with t:=(x.t.unveil n).1 },[],decide ((x.t.unveil n).2=0)) by simp[GS.run,c5]]
  exact⟨_,ρ',γ,h',pvF 0 Try.func13 (c16p.rn_5 γ.g h.length k n m fk 0 _ y _ ft undef h h') ⟨rfl,L0,eqF c0,eqF c1,eqF c2,eqF c3,eqF c4,eqT c5,L1,r1,eqD,trivial⟩,r2,s1.trans r3,nil _⟩
 by_cases c6:k=6
 ·obtain⟨v,h',r1,r2,r3,r4⟩:=failG_run a1 ok (by omega) W J n fk ft
  rw[show x.run ⟨k,n,m,y,fk,ft⟩=((x.fail n fk ft).1,(x.fail n fk ft).2.1,decide ((x.fail n fk ft).2.2=0)) by simp[GS.run,c6]]
  exact⟨_,ρ,γ,h',pvF 0 Try.func13 (c16p.rn_6 γ.g h.length k n m fk 0 _ y _ ft v h h') ⟨rfl,L0,eqF c0,eqF c1,eqF c2,eqF c3,eqF c4,eqF c5,eqT c6,L1,L4,r1,eqD,trivial⟩,r2,s1.trans r3,r4.mono K1.1⟩
 by_cases c7:k=7
 ·obtain⟨ρ',h',r1,r2,r3⟩:=rootG_run a1 ok (by omega)
  rw[show x.run ⟨k,n,m,y,fk,ft⟩=({ x with t:=x.t.root.1 },[],decide (x.t.root.2.2=0)) by simp[GS.run,c7]]
  exact⟨_,ρ',γ,h',pvF 0 Try.func13 (c16p.rn_7 γ.g h.length k n m fk _ _ y _ ft undef h h') ⟨rfl,L0,eqF c0,eqF c1,eqF c2,eqF c3,eqF c4,eqF c5,eqF c6,eqT c7,r1,eqD,trivial⟩,r2,s1.trans r3,nil _⟩
 by_cases c8:k=8
 ·obtain⟨v,h',r1,r2,r3,r4⟩:=strikeT_run a1 ok (by omega) W J n
  rw[show x.run ⟨k,n,m,y,fk,ft⟩=((x.strikeT n).1,(x.strikeT n).2.1,decide ((x.strikeT n).2.2=0)) by simp[GS.run,c8]]
  exact⟨_,ρ,γ,h',pvF 0 Try.func13 (c16p.rn_8 γ.g h.length k n m fk 0 _ y _ ft v h h') ⟨rfl,L0,eqF c0,eqF c1,eqF c2,eqF c3,eqF c4,eqF c5,eqF c6,eqF c7,eqT c8,L1,r1,eqD,trivial⟩,r2,s1.trans r3,r4.mono K1.1⟩
 by_cases c9:k=9
 ·obtain⟨v,h',r1,r2,r3,r4⟩:=expire_run a1 ok W J (by omega) n
  rw[show x.run ⟨k,n,m,y,fk,ft⟩=((x.expire n).1,(x.expire n).2,true) by simp[GS.run,c9]]
  exact⟨_,ρ,γ,h',pvF 0 Try.func13 (c16p.rn_9 γ.g h.length k n m fk 0 0 y true ft v h h') ⟨rfl,L0,eqF c0,eqF c1,eqF c2,eqF c3,eqF c4,eqF c5,eqF c6,eqF c7,eqF c8,eqT c9,L1,r1,eqT rfl,trivial⟩,r2,s1.trans r3,r4.mono K1.1⟩
 ·rw[show x.run ⟨k,n,m,y,fk,ft⟩=(x,[],true) by simp[GS.run,c0,c1,c2,c3,c4,c5,c6,c7,c8,c9]]
  exact⟨_,ρ,γ,_,pvF 0 Try.func13 (c16p.rn_d γ.g h.length k n m fk 0 0 y true ft undef h h) ⟨rfl,L0,eqF c0,eqF c1,eqF c2,eqF c3,eqF c4,eqF c5,eqF c6,eqF c7,eqF c8,eqF c9,eqT rfl,trivial⟩,a1,s1,nil _⟩
end
def GS.runL(x:GS)(l:List OpV):GS:=l.foldl (fun x o=>(x.run o).1) x
theorem runL_app(x:GS)(l m:List OpV):x.runL (l++m)=(x.runL l).runL m:=List.foldl_append
theorem GOk.runL{k:Nat}:∀ {l:List OpV} {x:GS},GOk k x->GOk (k+2*l.length) (x.runL l):=by
 intro l
 induction l generalizing k with
 | nil=>intro x ok;exact ok
 | cons o l ih =>
  intro x ok
  have:=ih (ok.run o)
  rw[List.length_cons,show k+2*(l.length+1)=k+2+2*l.length by omega]
  exact this
def OpsAt(h:Hp)(v:Value)(l:List OpV):Prop:=(l=[]/\v=.slice none 0 0)\/∃ o rw,v=.slice (some ⟨o,0,none⟩) l.length 6/\h[o]?=some (.cells (opC l) rw)
structure GMade(h g:Hp)(ρ:Lay)(γ:GL)(b:Nat):Prop where
 keep:Grow h g
 g:γ.g=b
 new:∀ q,fpG ρ γ q->h.length<=q
section
variable {h0 h g g':Hp} {ρ ρ':Lay} {γ γ':GL} {b:Nat}
theorem GMade.step(m:GMade h g ρ γ b)(s:GStep ρ γ g ρ' γ' g'):GMade h g' ρ' γ' b :=
 ⟨m.keep.trans_new s.keep fun q hq e=>by have:=m.new q e;omega,s.g.trans m.g,fun q e=>(s.new q e).elim (m.new q) fun e=>Nat.le_trans m.keep.1 e⟩
theorem GMade.grow(m:GMade h g ρ γ b)(K:Grow g g'):GMade h g' ρ γ b:=m.step (GStep.grow K)
theorem GMade.get(m:GMade h g ρ γ b){q:Nat}{o:AObj}(hq:h[q]?=some o):g[q]?=some o:=m.keep.2 q o hq id
end
theorem made_loop{h:Hp}{b o n p:Nat}{rw:Bool}{l:List OpV}(hn:n<=64)(hp:p<=l.length)(hp2:p<=100)(ho:h[o]?=some (.cells (opC l) rw)) :
  ∀ (j i:Nat) (E:Env) (g:Hp) (ρ:Lay) (γ:GL),i+j=p->EnvLe [(22,.int .i64 (i:Int)),(21,.int .i64 (Int.ofNat p)),(20,.slice (some ⟨o,0,none⟩) p 6),(5,ptr b)] E->GAt g ρ γ ((GS.roots n).runL (l.take i))->GMade h g ρ γ b ->
  ∃ E1 g' ρ' γ',EnvLe [(5,ptr b)] E1/\LRun Try.prog 31 false (loopN Try.f15 0) E g (.exit 0) E1 g'/\GAt g' ρ' γ' ((GS.roots n).runL (l.take p))/\GMade h g' ρ' γ' b:=by
 intro j
 induction j with
 | zero =>
  intro i E g ρ γ hi hE a m
  have e:i=p:=by omega
  subst e
  obtain⟨E2,q1,q2⟩:=pvC 0 hE (c16p.ml_out b o i 0 0 i 0 0 0 0 0 false ⟨#[]⟩ (.bool true) g g) ⟨ltF (by simp),trivial⟩
  exact⟨E2,g,ρ,γ,.trans (.add (.nil _) rfl) q1,.last q2 (by simp),a,m⟩
 | succ j ih =>
  intro i E g ρ γ hi hE a m
  obtain⟨x,hx⟩:∃ x,l[i]?=some x:=⟨_,List.getElem?_eq_getElem (by omega)⟩
  have hog:=m.get ho
  have hat:=opC_at hx
  have hlen:=opC_len l
  have hnew:((g++[AObj.cells [.int .i64 0,.int .i64 0,.int .i64 0,.bool false,.int .i64 0,.string ⟨#[]⟩] true]).set g.length (.cells x.cells true))[g.length]?=some (.cells x.cells true):=gE (gW _ _)
  have K:Grow g ((g++[AObj.cells [.int .i64 0,.int .i64 0,.int .i64 0,.bool false,.int .i64 0,.string ⟨#[]⟩] true]).set g.length (.cells x.cells true)):=((Keep.refl (fun _=>False) g).pushN _).setN (Nat.le_refl _) _
  have ok:GOk (n+2*(l.take i).length) ((GS.roots n).runL (l.take i)):=(GOk.roots hn).runL
  have hti:(l.take i).length<=i:=by simp;omega
  obtain⟨v,ρ',γ',g2,r1,r2,r3,_⟩:=run_run (a.grow K) ok (by omega) x
  rw[m.g] at r1
  obtain⟨E2,q1,q2⟩:=pvC 0 hE (c16p.ml_go b o p (i*6) g.length i ((i+1:Nat):Int) x.k x.n x.m x.fk x.y x.ft (.tuple #[v,.bool (((GS.roots n).runL (l.take i)).run x).2.2]) g g2)
   ⟨ltT (by simp;omega),offI (q:=i) rfl (by omega) (by omega),aN hog (by omega) hat,rfl,a_st (gW _ _) (by simp) rfl,aN hnew (by simp[OpV.cells]) rfl,r1,addI rfl (by omega) (by omega),trivial⟩
  obtain⟨E3,g3,ρ3,γ3,s1,s2,s3,s4⟩:=ih (i+1) E2 g2 ρ' γ' (by omega) (.trans (.add (.add (.add (.add (.nil _) rfl) rfl) rfl) rfl) q1) (by rw[take_one hx,runL_app];exact r2) ((m.grow K).step r3)
  exact⟨E3,g3,ρ3,γ3,s1,.step q2 s2,s3,s4⟩
theorem made_run{h:Hp}{l:List OpV}{vl:Value}(n:Int)(hv:OpsAt h vl l) :
  ((n<1\/64<n)/\Run Try.prog 15 [.int .i64 n,vl] h (.pointer none) h) \/
  (1<=n/\n<=64/\∃ b ρ γ h',Run Try.prog 15 [.int .i64 n,vl] h (ptr b) h'/\GAt h' ρ γ ((GS.roots n.toNat).runL (l.take 60))/\GMade h h' ρ γ b):=by
 by_cases hn:n<1\/64<n
 ·left
  refine⟨hn,?_⟩
  have r1:=newG_low h hn
  rcases hv with⟨_,rfl⟩ | ⟨o,rw,rfl,ho⟩
  ·exact pvF 0 Try.func15 (c16p.ma_err 0 0 0 0 n 2 h h h) ⟨r1,neT (by omega),trivial⟩
  ·exact pvF 0 Try.func15 (c16p.ma_errs 0 o l.length 0 n 2 h h h) ⟨r1,neT (by omega),trivial⟩
 ·right
  obtain⟨m,hm⟩:∃ m:Nat,n=m:=⟨n.toNat,by omega⟩
  subst hm
  obtain⟨ρ,γ,h1,r1,r2,r3,r4⟩:=newG_run h (n:=m) (by omega) (by omega)
  rw[Int.toNat_natCast]
  refine⟨by omega,by omega,γ.g,?_⟩
  have M:GMade h h1 ρ γ γ.g:=⟨r3,rfl,r4⟩
  rcases hv with⟨rfl,rfl⟩ | ⟨o,rw,rfl,ho⟩
  ·exact⟨ρ,γ,h1,pvF 0 Try.func15 (c16p.ma_nil γ.g 0 0 0 m 0 h h1 h) ⟨r1,neF rfl,by simp[Asm.holds],ltF (by omega),trivial⟩,r2,M⟩
  ·obtain⟨E1,g',ρ',γ',q1,q2,q3,q4⟩:=made_loop (b:=γ.g) (n:=m) (p:=min l.length 60) (by omega) (by omega) (by omega) ho (min l.length 60) 0 [(22,.int .i64 0),(21,.int .i64 (Int.ofNat (min l.length 60))),(20,.slice (some ⟨o,0,none⟩) (min l.length 60) 6),(5,ptr γ.g)] h1 ρ γ (by omega) (EnvLe.refl _) r2 M
   have e:l.take (min l.length 60)=l.take 60:=by
    by_cases c:l.length<=60
    ·rw[Nat.min_eq_left c,List.take_length,List.take_of_length_le c]
    ·rw[Nat.min_eq_right (by omega)]
   rw[e] at q3
   exact⟨ρ',γ',g',pvF 0 Try.func15 (c16p.ma_some γ.g o l.length (min l.length 60) m 0 h h1 g') ⟨r1,neF rfl,.inr ⟨rfl,by simp only[Int.ofNat_eq_natCast];split<;>omega⟩,a_cut (by omega),a_loop (by kernel_rfl) (.add (.add (.add (.add (.nil _) rfl) rfl) rfl) rfl) q1 q2,trivial⟩,q3,q4⟩
end Go.Proofs.Ytlonjogfeidgfaa.gr
