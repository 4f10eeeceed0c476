import Derived.Test.YtahomnlkkafbjaaPlaysG
import Derived.Test.YtahomnlkkafbjaaProg
import Derived.KernelRfl
set_option linter.constructorNameAsVariable false
set_option linter.unusedVariables false
set_option maxRecDepth 100000
namespace Go.Proofs.Ytahomnlkkafbjaa.rf
open Go Go.Ev Go.Proofs.Ytahomnlkkafbjaa.tr
section
variable {h h' g G:Hp} {σ σ':RLay} {ρ:Lay} {t t':TS} {c k s r:Nat}
theorem sameLinksP_run{l:List Pr}{v v':Value}(hb:l.length<=1000000)(A:SlG h v l.length 2 (prL l))(B:SlG h v' l.length 2 (prL l)):∃ h',Run Try.prog 54 [v,v'] h (.bool true) h'/\Grow h h':=by
 obtain⟨_,oa,za,rfl,A⟩:=A
 obtain⟨_,ob,zb,rfl,B⟩:=B
 obtain⟨E1,g1,K1,hl⟩:=for_loop (P:=Try.prog) (n:=26) (rd:=false) (b:=loopN Try.f54 0) (xo:=.exit 0) (by simp) (len:=l.length) (Q:=fun E g=>Grow h g)
  (fun i E g=>EnvLe [(14,iV (i:Int)),(13,iV (Int.ofNat l.length)),(12,.slice oa l.length za),(1,.slice ob l.length zb),(0,.slice oa l.length za)] E/\Grow h g)
  (fun i E g hi ⟨hE,K⟩=>by
   obtain⟨w,hw⟩:∃ w,l[i]?=some w:=⟨_,List.getElem?_eq_getElem hi⟩
   obtain⟨o,junk,rw1,rfl,rfl,ho⟩:=A (by omega)
   obtain⟨o',junk',rw2,rfl,rfl,ho'⟩:=B (by omega)
   have ll:=prL_len l
   have a1:=prL_at junk hw
   have a2:=prL_at junk' hw
   have K1:Grow g ((g++[AObj.cells [iV 0,iV 0] true]).set g.length (.cells [iV w.1,iV w.2] true)):=Grow.set (Grow.push (Grow.refl _) _) (Nat.le_refl _) _
   obtain⟨E2,q1,q2⟩:=pvK 0 hE (r30p.gk_go o o' l.length (i*2) g.length i ((i+1:Nat):Int) w.1 w.2 g)
    ⟨ltT (by simp;omega),offI (q:=i) rfl (by omega) (by omega),aN (K.get ho) (by simp;omega) a1,rfl,a_st (gW _ _) (by simp) rfl,stat54,aN (gE (gW _ _)) (by simp) rfl,offI (q:=i) rfl (by omega) (by omega),aN (K1.get (K.get ho')) (by simp;omega) a2,aeqF44 _ _,addI rfl (by omega) (by omega),trivial⟩
   exact⟨E2,_,⟨tR q1,Grow.trans K K1⟩,q2⟩)
  (fun E g ⟨hE,K⟩=>by
   obtain⟨E2,q1,q2⟩:=pvC 0 hE (r30p.gk_out oa ob l.length za zb l.length g) ⟨ltF (by simp),trivial⟩
   exact⟨E2,_,K,q2⟩)
  [(14,iV ((0:Nat):Int)),(13,iV (Int.ofNat l.length)),(12,.slice oa l.length za),(1,.slice ob l.length zb),(0,.slice oa l.length za)] h ⟨.refl _,.refl _⟩
 exact⟨g1,pvF 0 Try.func54 (r30p.gk oa ob l.length za zb h g1) ⟨neF rfl,a_loop (by kernel_rfl) (.add (.add (.add (.add (.add (.nil _) rfl) rfl) rfl) rfl) rfl) (.nil _) hl,trivial⟩,K1⟩
theorem stat57:(Asm.stat (drawN Try.f57 0)).holds Try.prog:=show statOk (drawN Try.f57 0)=true by kernel_rfl
theorem equalN_run{l:List Nat}{v v':Value}(hb:l.length<=1000000)(A:SlG h v l.length 1 (nmL l))(B:SlG h v' l.length 1 (nmL l)):Run Try.prog 57 [v,v'] h (.bool true) h:=by
 obtain⟨_,oa,za,rfl,A⟩:=A
 obtain⟨_,ob,zb,rfl,B⟩:=B
 obtain⟨E1,g1,hg,hl⟩:=for_loop (P:=Try.prog) (n:=26) (rd:=false) (b:=loopN Try.f57 0) (xo:=.exit 0) (by simp) (len:=l.length) (Q:=fun E g=>g=h)
  (fun i E g=>EnvLe [(13,iV (i:Int)),(12,iV (Int.ofNat l.length)),(1,.slice ob l.length zb),(0,.slice oa l.length za)] E/\g=h)
  (fun i E g hi ⟨hE,K⟩=>by
   subst K
   obtain⟨w,hw⟩:∃ w,l[i]?=some w:=⟨_,List.getElem?_eq_getElem hi⟩
   obtain⟨o,junk,rw1,rfl,rfl,ho⟩:=A (by omega)
   obtain⟨o',junk',rw2,rfl,rfl,ho'⟩:=B (by omega)
   have nm:∀ junk:List Value,(nmL l++junk)[i]?=some (iV ((w+1:Nat):Int)):=fun junk=>by
    rw[List.getElem?_append_left (by rw[nmL_len];omega),nmL,List.getElem?_map,hw];rfl
   obtain⟨E2,q1,q2⟩:=pvK 0 hE (q18p.eq_go o o' l.length i i ((i+1:Nat):Int) ((w+1:Nat):Int) none none 0 0 g g)
    ⟨ltT (by simp;omega),stat57,offI (q:=i) rfl (by omega) (by omega),aL ho (nm _),offI (q:=i) rfl (by omega) (by omega),aL ho' (nm _),neF rfl,addI rfl (by omega) (by omega),trivial⟩
   exact⟨E2,_,⟨tR q1,rfl⟩,q2⟩)
  (fun E g ⟨hE,K⟩=>by
   subst K
   obtain⟨E2,q1,q2⟩:=pvC 0 (.add (.add (.nil _) (hE _ _ rfl)) (hE _ _ rfl)) (q18p.eq_out 0 0 l.length 0 l.length 0 0 none none 0 0 g g) ⟨ltF (by simp),trivial⟩
   exact⟨E2,_,rfl,q2⟩)
  [(13,iV ((0:Nat):Int)),(12,iV (Int.ofNat l.length)),(1,.slice ob l.length zb),(0,.slice oa l.length za)] h ⟨.refl _,rfl⟩
 subst hg
 exact pvF 0 Try.func57 (q18p.eq oa ob l.length za zb E1 g1 g1) ⟨neF rfl,a_loop (by kernel_rfl) (.add (.add (.add (.add (.nil _) rfl) rfl) rfl) rfl) (.refl _) hl,trivial⟩
theorem stat61:(Asm.stat (drawN Try.f61 0)).holds Try.prog:=show statOk (drawN Try.f61 0)=true by kernel_rfl
theorem sameEf_run{l:List Ef}{v v':Value}(hb:l.length<=1000000)(A:SlG h v l.length 5 (efC l))(B:SlG h v' l.length 5 (efC l)):∃ h',Run Try.prog 61 [v,v'] h (.bool true) h'/\Grow h h':=by
 obtain⟨_,oa,za,rfl,A⟩:=A
 obtain⟨_,ob,zb,rfl,B⟩:=B
 obtain⟨E1,g1,K1,hl⟩:=for_loop (P:=Try.prog) (n:=26) (rd:=false) (b:=loopN Try.f61 0) (xo:=.exit 0) (by simp) (len:=l.length) (Q:=fun E g=>Grow h g)
  (fun i E g=>EnvLe [(14,iV (i:Int)),(13,iV (Int.ofNat l.length)),(12,.slice oa l.length za),(1,.slice ob l.length zb)] E/\Grow h g)
  (fun i E g hi ⟨hE,K⟩=>by
   obtain⟨⟨ek,en,em,ef,et⟩,hw⟩:∃ w,l[i]?=some w:=⟨_,List.getElem?_eq_getElem hi⟩
   obtain⟨o,junk,rw1,rfl,rfl,ho⟩:=A (by omega)
   obtain⟨o',junk',rw2,rfl,rfl,ho'⟩:=B (by omega)
   have ll:=efC_len l
   have ea:∀ junk:List Value,((efC l++junk).drop (i*5)).take 5=[iV ek,iV en,iV em,iV ef,.string et]:=fun junk=>by
    rw[List.drop_append_of_le_length (by omega),List.take_append_of_le_length (by simp;omega),efC_at hw]
    rfl
   have K1:Grow g ((g++[AObj.cells [iV 0,iV 0,iV 0,iV 0,.string ⟨#[]⟩] true]).set g.length (.cells [iV ek,iV en,iV em,iV ef,.string et] true)):=Grow.set (Grow.push (Grow.refl _) _) (Nat.le_refl _) _
   obtain⟨E2,q1,q2⟩:=pvK 0 hE (q18p.se_go o o' l.length (i*5) g.length i ((i+1:Nat):Int) ek en em ef et g)
    ⟨ltT (by simp;omega),offI (q:=i) rfl (by omega) (by omega),aN (K.get ho) (by simp;omega) (ea _),rfl,a_st (gW _ _) (by simp) rfl,stat61,aN (gE (gW _ _)) (by simp) rfl,offI (q:=i) rfl (by omega) (by omega),aN (K1.get (K.get ho')) (by simp;omega) (ea _),aeqF49 _ _ _ _ _,addI rfl (by omega) (by omega),trivial⟩
   exact⟨E2,_,⟨tR q1,Grow.trans K K1⟩,q2⟩)
  (fun E g ⟨hE,K⟩=>by
   obtain⟨E2,q1,q2⟩:=pvC 0 (.add (.add (.nil _) (hE _ _ rfl)) (hE _ _ rfl)) (q18p.se_out 0 0 l.length 0 0 l.length 0 0 0 0 0 ⟨#[]⟩ g) ⟨ltF (by simp),trivial⟩
   exact⟨E2,_,K,q2⟩)
  [(14,iV ((0:Nat):Int)),(13,iV (Int.ofNat l.length)),(12,.slice oa l.length za),(1,.slice ob l.length zb)] h ⟨.refl _,.refl _⟩
 exact⟨g1,pvF 0 Try.func61 (q18p.se oa ob l.length za zb E1 h g1) ⟨neF rfl,a_loop (by kernel_rfl) (.add (.add (.add (.add (.nil _) rfl) rfl) rfl) rfl) (.refl _) hl,trivial⟩,K1⟩
theorem RAtL.opG(a:RAt h σ t){x:Tk}(hx:t.tks[k]?=some x):SlG h (slz (σ (.op k)) x.opn.length 2) x.opn.length 2 (lkL x.opn):=by
 refine⟨lkL_len _,_,_,rfl,fun hn=>?_⟩
 obtain⟨o,ho⟩:=RAtL.opO a hx (i:=0) (by omega)
 obtain⟨junk,hj⟩:=a.obj _ _ ho
 rw[rcont_op hx] at hj
 exact⟨o,junk,true,by rw[ho];rfl,by rw[ho];rfl,hj⟩
theorem RAtL.stG(a:RAt h σ t){y:Sc}(hy:t.scs[k]?=some y):SlG h (slz (σ (.st k)) y.tks.length 1) y.tks.length 1 (nmL y.tks):=by
 refine⟨by rw[nmL_len];omega,_,_,rfl,fun hn=>?_⟩
 obtain⟨o,ho⟩:=RAtL.stO a hy (i:=0) (by omega)
 obtain⟨junk,hj⟩:=a.obj _ _ ho
 rw[rcont_st hy] at hj
 exact⟨o,junk,true,by rw[ho];rfl,by rw[ho];rfl,hj⟩
theorem chain_len(ok:TOk c t)(hc:c<=1000)(n:Int):(t.chain n).1.length<=200000:=by
 have n64:=ok.n64
 unfold TS.chain
 split
 ·exact Nat.zero_le _
 ·rename_i k e hq
  obtain⟨_,_,x,hx,_⟩:=runs_some hq
  rw[hx]
  have hk:=gTq hx
  refine Nat.le_trans (chainG_len ok _ _ _) ?_
  calc (k+1)*(c+2)<=64*1002:=Nat.mul_le_mul (by omega) (by omega)
   _<=200000:=by omega
theorem below_lenN(ok:TOk c t)(W:WI none t)(J:WJ t)(n:Int):(t.below n).1.length<=64:=by
 unfold TS.below
 split
 ·exact Nat.zero_le _
 ·rename_i s e hq
  simp only
  refine below_len ok W J ?_
  unfold TS.scope at hq
  split at hq
  ·cases hq
  ·cases hq;omega
end
end Go.Proofs.Ytahomnlkkafbjaa.rf
namespace Go.Proofs.Ytahomnlkkafbjaa.rf
open Go Go.Ev Go.Proofs.Ytahomnlkkafbjaa.tr
section
variable {h h' g G:Hp} {σ σ':RLay} {ρ:Lay} {t t':TS} {c k s r:Nat}
theorem RAtL.tsN{tks lfs:List Tk}{scs:List Sc}(a:RAtL h σ tks scs lfs){o:Nat}(ho:σ .ts=some o){x:Tk}(hx:tks[k]?=some x){P:Program}{s:SH}(hs:Grow h s.den):(Asm.ldn s o (k*6) 6 (rk σ k x)).holds P:=by
 obtain⟨junk,hj⟩:=a.obj _ _ ho
 have hr:=fl_room (f:=rk σ) (i:=0) (rk_len σ) hx junk
 refine aN (hs.get hj) (by simp only[rcontL];omega) ?_
 simp only[rcontL]
 rw[fl_chunk (rk_len σ) hx,Nat.zero_add]
theorem stat37_0:(Asm.stat (drawN Try.f37 0)).holds Try.prog:=show statOk (drawN Try.f37 0)=true by kernel_rfl
theorem stat37_1:(Asm.stat (drawN Try.f37 1)).holds Try.prog:=show statOk (drawN Try.f37 1)=true by kernel_rfl
theorem task_in{x:Tk}(hx:t.tks[k]?=some x):t.task ((k+1:Nat):Int)=(tkV x,0):=by
 have:=gTq hx
 have h1:¬ (((k+1:Nat):Int)<1\/(t.tks.length:Int)<((k+1:Nat):Int)):=by omega
 have h2:(((k+1:Nat):Int)-1).toNat=k:=by omega
 simp only[TS.task,if_neg h1,h2,hx]
theorem task_out{n:Int}(h:n<1\/(t.tks.length:Int)<n):t.task n=(.zero,6):=by simp only[TS.task,if_pos h]
theorem sco_in{y:Sc}(hy:t.scs[k]?=some y):t.sco ((k+1:Nat):Int)=(scV y,0):=by simp only[TS.sco,scope_at hy,hy]
theorem sco_out{n:Int}(h:n<1\/(t.scs.length:Int)<n):t.sco n=(.zero,6):=by simp only[TS.sco,TS.scope,if_pos h]
theorem SlG_nil{z:Nat}:SlG h (.slice none 0 0) 0 z []:=⟨by simp,none,0,rfl,fun e=>absurd rfl e⟩
theorem SlG_sl{v:Value}{n z:Nat}{cs:List Value}(A:SlG h v n z cs):∃ oa za,v=.slice oa n za:=by
 obtain⟨_,oa,za,e,_⟩:=A
 exact⟨oa,za,e⟩
theorem agree_tasks{H1:Hp}{b:Nat}(at_:TAt H1 ρ t)(a:RAt H1 σ t)(ok:TOk c t)(hc:c<=1000)(W:WI none t)(J:WJ t)(hne:0<t.tks.length)(hr:ρ .root=some r)(hb:H1[b]?=some (.cells (rT σ t) true)) :
  ∃ E1 g1,EnvLe [(3,ptr b),(0,ptr r)] E1/\LRun Try.prog 151 false (loopN Try.f37 0) [(5,iV ((0:Nat):Int)),(3,ptr b),(0,ptr r)] H1 (.exit 0) E1 g1/\Grow H1 g1:=by
 have n64:=ok.n64
 obtain⟨x0,hx0⟩:∃ x,t.tks[0]?=some x:=⟨_,List.getElem?_eq_getElem hne⟩
 obtain⟨o,ho⟩:=a.tsO hx0
 have hR:rT σ t=[.slice (some ⟨o,0,none⟩) t.tks.length 6,slz (σ .ss) t.scs.length 6,slz (σ .lf) t.tks.length 2]:=by rw[rT,ho];rfl
 obtain⟨E1,g1,⟨hE1,K1⟩,hl⟩:=for_loop (P:=Try.prog) (n:=151) (rd:=false) (b:=loopN Try.f37 0) (xo:=.exit 0) (by simp) (len:=t.tks.length+2) (Q:=fun E g=>EnvLe [(3,ptr b),(0,ptr r)] E/\Grow H1 g)
  (fun i E g=>EnvLe [(5,iV (i:Int)),(3,ptr b),(0,ptr r)] E/\Grow H1 g)
  (fun i E g hi ⟨hE,K⟩=>by
   obtain⟨v1,g1,r1,K1,S1⟩:=task_run (at_.grow K) ok (by omega) hr (i:Int)
   obtain⟨w,hw⟩:∃ w,w=(t.task (i:Int)).1:=⟨_,rfl⟩
   obtain⟨e,he⟩:∃ e,e=(t.task (i:Int)).2:=⟨_,rfl⟩
   have wl:w.op.length<=1000000:=by rw[hw];exact task_len ok (by omega) _
   rw[<- hw,<- he] at r1
   rw[<- hw] at S1
   obtain⟨gd,hgd⟩:∃ gd,gd=(g1++[AObj.cells [iV 0,.bool false,.bool false,iV 0,.string ⟨#[]⟩,.slice none 0 0] true]).set g1.length (.cells (w.C v1) true):=⟨_,rfl⟩
   have Kd:Grow g1 gd:=by rw[hgd];exact Grow.set (Grow.push (Grow.refl _) _) (Nat.le_refl _) _
   have Kgd:Grow H1 gd:=Grow.trans (Grow.trans K K1) Kd
   have dd:gd[g1.length]?=some (.cells (w.C v1) true):=by rw[hgd];exact gE (gW _ _)
   obtain⟨v2,g2,r2,K2,S2⟩:=chain_run (at_.grow Kgd) ok hc W hr (i:Int)
   obtain⟨v3,g3,r3,K3,S3⟩:=chainR_run (a.grow (Grow.trans Kgd K2)) ok hc W (i:Int)
   have cl:=chain_len ok hc (i:Int)
   have KG3:Grow H1 g3:=Grow.trans (Grow.trans Kgd K2) K3
   have d3:=K3.get (K2.2 _ _ dd id)
   have b2:=K2.2 _ _ (Kgd.get hb) id
   have b3:=K3.get b2
   have gb:=K.get hb
   have G1:=(S1.g.keep Kd).keep (Grow.trans K2 K3)
   obtain⟨oa,za,rfl⟩:=SlG_sl G1
   have AD:(Asm.arith .add .i64 (Int.ofNat t.tks.length) 1 ((t.tks.length+1:Nat):Int)).holds Try.prog:=addI (by simp only[Int.ofNat_eq_natCast];omega) (by omega) (by omega)
   have LE:(Asm.cmp .leq (i:Int) ((t.tks.length+1:Nat):Int) true).holds Try.prog:=leT (by omega)
   have AI:(Asm.arith .add .i64 (i:Int) 1 ((i+1:Nat):Int)).holds Try.prog:=addI rfl (by omega) (by omega)
   have l0:(g1++[AObj.cells [iV 0,.bool false,.bool false,iV 0,.string ⟨#[]⟩,.slice none 0 0] true])[g1.length]?=some (.cells [iV 0,.bool false,.bool false,iV 0,.string ⟨#[]⟩,.slice none 0 0] true):=gW _ _
   rw[hR] at gb b2 b3 r3
   rw[hgd] at r2
   obtain⟨sc,en,lv,fk,ft,op⟩:=w
   by_cases hlo:(i:Int)<1
   ·have hz:=task_out (t:=t) (n:=(i:Int)) (.inl hlo)
    rw[hz] at hw he
    simp only[TkV.zero,TkV.mk.injEq] at hw
    obtain⟨rfl,rfl,rfl,rfl,rfl,rfl⟩:=hw
    obtain⟨g4,r4,K4⟩:=sameTask_run .zero (v':=.slice none 0 0) (by simp[TkV.zero]) G1 SlG_nil
    obtain⟨g5,r5,K5⟩:=sameLinksP_run (by omega) ((S2.g.keep K3).keep K4) (S3.g.keep K4)
    obtain⟨E2,q1,q2⟩:=pvK 0 hE (q18p.a0_lo (sA (σ .ss)) (sA (σ .lf)) t.scs.length t.tks.length (sZ (σ .ss) 6) (sZ (σ .lf) 2) oa none 0 0 za 0 0 0 false false ⟨#[]⟩ o t.tks.length b r g1.length 0 (i:Int) ((i+1:Nat):Int) ((t.tks.length+1:Nat):Int) 0 e (t.chain (i:Int)).2 (t.chain (i:Int)).2 v2 v3 g g1 g2 g3 g4 g5)
     ⟨aL gb rfl,AD,LE,r1,rfl,a_st l0 (by simp[TkV.C]) rfl,r2,aN b2 (by simp) rfl,r3,ltT hlo,neF he,aN d3 (by simp[TkV.C]) rfl,r4,neF rfl,r5,AI,trivial⟩
    exact⟨E2,_,⟨tR q1,Grow.trans (Grow.trans KG3 K4) K5⟩,q2⟩
   ·by_cases hhi:(t.tks.length:Int)<(i:Int)
    ·have hz:=task_out (t:=t) (n:=(i:Int)) (.inr hhi)
     rw[hz] at hw he
     simp only[TkV.zero,TkV.mk.injEq] at hw
     obtain⟨rfl,rfl,rfl,rfl,rfl,rfl⟩:=hw
     obtain⟨g4,r4,K4⟩:=sameTask_run .zero (v':=.slice none 0 0) (by simp[TkV.zero]) G1 SlG_nil
     obtain⟨g5,r5,K5⟩:=sameLinksP_run (by omega) ((S2.g.keep K3).keep K4) (S3.g.keep K4)
     obtain⟨E2,q1,q2⟩:=pvK 0 hE (q18p.a0_hi (sA (σ .ss)) (sA (σ .lf)) t.scs.length t.tks.length (sZ (σ .ss) 6) (sZ (σ .lf) 2) oa none 0 0 za 0 0 0 false false ⟨#[]⟩ o t.tks.length b r g1.length 0 (i:Int) ((i+1:Nat):Int) ((t.tks.length+1:Nat):Int) 0 e (t.chain (i:Int)).2 (t.chain (i:Int)).2 v2 v3 g g1 g2 g3 g4 g5)
      ⟨aL gb rfl,AD,LE,r1,rfl,a_st l0 (by simp[TkV.C]) rfl,r2,aN b2 (by simp) rfl,r3,ltF (by omega),aL b3 rfl,gtT (by simp only[Int.ofNat_eq_natCast];omega),neF he,aN d3 (by simp[TkV.C]) rfl,r4,neF rfl,r5,AI,trivial⟩
     exact⟨E2,_,⟨tR q1,Grow.trans (Grow.trans KG3 K4) K5⟩,q2⟩
    ·obtain⟨k,x,hk,hx⟩:=tk_at hlo hhi
     have hki:i=k+1:=by omega
     have hkl:=gTq hx
     have hz:=task_in (t:=t) hx
     rw[<- hki] at hz
     rw[hz] at hw he
     have G2:=RAtL.opG (a.grow KG3) hx
     have hop:op=x.opn:=congrArg TkV.op hw
     have LR:(Asm.ldn (.is g3) o (k*6) 6 (rk σ k x)).holds Try.prog:=a.tsN ho hx KG3
     have erk:rk σ k x=TkV.C ⟨sc,en,lv,fk,ft,op⟩ (slz (σ (.op k)) x.opn.length 2):=by rw[hw];rfl
     rw[erk] at LR
     subst hop
     obtain⟨g4,r4,K4⟩:=sameTask_run ⟨sc,en,lv,fk,ft,x.opn⟩ wl G1 G2
     obtain⟨g5,r5,K5⟩:=sameLinksP_run (by omega) ((S2.g.keep K3).keep K4) (S3.g.keep K4)
     have SB:(Asm.arith .sub .i64 (i:Int) 1 (k:Int)).holds Try.prog:=subI (by omega) (by omega) (by omega)
     have OF:(Asm.off (k*6) 0 (k:Int) t.tks.length 6).holds Try.prog:=offI (q:=k) rfl hkl (by omega)
     obtain⟨E2,q1,q2⟩:=pvK 0 hE (q18p.a0_in (sA (σ .ss)) (sA (σ .lf)) t.scs.length t.tks.length (sZ (σ .ss) 6) (sZ (σ .lf) 2) oa (sA (σ (.op k))) x.opn.length x.opn.length za (sZ (σ (.op k)) 2) sc fk en lv ft o t.tks.length b r g1.length (k*6) (i:Int) ((i+1:Nat):Int) ((t.tks.length+1:Nat):Int) k e (t.chain (i:Int)).2 (t.chain (i:Int)).2 v2 v3 g g1 g2 g3 g4 g5)
      ⟨aL gb rfl,AD,LE,r1,rfl,a_st l0 (by simp[TkV.C]) rfl,r2,aN b2 (by simp) rfl,r3,ltF (by omega),aL b3 rfl,gtF (by simp only[Int.ofNat_eq_natCast];omega),stat37_0,neF he,aN d3 (by simp[TkV.C]) rfl,aL b3 rfl,SB,OF,LR,r4,neF rfl,r5,AI,trivial⟩
     exact⟨E2,_,⟨tR q1,Grow.trans (Grow.trans KG3 K4) K5⟩,q2⟩)
  (fun E g ⟨hE,K⟩=>by
   have gb:=K.get hb
   rw[hR] at gb
   obtain⟨E2,q1,q2⟩:=pvK 0 hE (q18p.a0_out (sA (σ .ss)) (sA (σ .lf)) t.scs.length t.tks.length (sZ (σ .ss) 6) (sZ (σ .lf) 2) none none 0 0 0 0 0 0 false false ⟨#[]⟩ o t.tks.length b r 0 0 _ 0 ((t.tks.length+1:Nat):Int) 0 0 0 0 .nilFunc .nilFunc g g g g g g)
    ⟨aL gb rfl,addI (by simp only[Int.ofNat_eq_natCast];omega) (by omega) (by omega),leF (by omega),trivial⟩
   exact⟨E2,_,⟨tR q1,K⟩,q2⟩)
  _ H1 ⟨EnvLe.refl _,Grow.refl _⟩
 exact⟨E1,g1,hE1,hl,K1⟩
theorem agree_scopes{H1:Hp}{b:Nat}(at_:TAt H1 ρ t)(a:RAt H1 σ t)(ok:TOk c t)(hc:c<=1000)(W:WI none t)(J:WJ t)(hr:ρ .root=some r)(hb:H1[b]?=some (.cells (rT σ t) true)) :
  ∃ E1 g1,EnvLe [(3,ptr b),(0,ptr r)] E1/\LRun Try.prog 151 false (loopN Try.f37 1) [(12,iV ((0:Nat):Int)),(3,ptr b),(0,ptr r)] H1 (.exit 2) E1 g1/\Grow H1 g1:=by
 have n200:=ok.n200
 have hR:rT σ t=[slz (σ .ts) t.tks.length 6,slz (σ .ss) t.scs.length 6,slz (σ .lf) t.tks.length 2]:=rfl
 obtain⟨E1,g1,⟨hE1,K1⟩,hl⟩:=for_loop (P:=Try.prog) (n:=151) (rd:=false) (b:=loopN Try.f37 1) (xo:=.exit 2) (by simp) (len:=t.scs.length+2) (Q:=fun E g=>EnvLe [(3,ptr b),(0,ptr r)] E/\Grow H1 g)
  (fun i E g=>EnvLe [(12,iV (i:Int)),(3,ptr b),(0,ptr r)] E/\Grow H1 g)
  (fun i E g hi ⟨hE,K⟩=>by
   obtain⟨v1,g1,r1,K1,S1⟩:=sco_run (at_.grow K) ok (by omega) hr (i:Int)
   obtain⟨w,hw⟩:∃ w,w=(t.sco (i:Int)).1:=⟨_,rfl⟩
   obtain⟨e,he⟩:∃ e,e=(t.sco (i:Int)).2:=⟨_,rfl⟩
   have wl:w.tk.length<=1000000:=by rw[hw];exact sco_len ok (by omega) _
   rw[<- hw,<- he] at r1
   rw[<- hw] at S1
   obtain⟨gd,hgd⟩:∃ gd,gd=(g1++[AObj.cells [iV 0,.bool false,.bool false,.slice none 0 0,iV 0,.string ⟨#[]⟩] true]).set g1.length (.cells (w.C v1) true):=⟨_,rfl⟩
   have Kd:Grow g1 gd:=by rw[hgd];exact Grow.set (Grow.push (Grow.refl _) _) (Nat.le_refl _) _
   have Kgd:Grow H1 gd:=Grow.trans (Grow.trans K K1) Kd
   have dd:gd[g1.length]?=some (.cells (w.C v1) true):=by rw[hgd];exact gE (gW _ _)
   obtain⟨v2,g2,r2,K2,S2⟩:=below_run (at_.grow Kgd) ok hc W J hr (i:Int)
   obtain⟨v3,g3,r3,K3,S3⟩:=belowR_run (a.grow (Grow.trans Kgd K2)) ok hc W J (i:Int)
   have cl:=below_lenN ok W J (i:Int)
   have KG3:Grow H1 g3:=Grow.trans (Grow.trans Kgd K2) K3
   have d3:=K3.get (K2.2 _ _ dd id)
   have b2:=K2.2 _ _ (Kgd.get hb) id
   have b3:=K3.get b2
   have gb:=K.get hb
   have G1:=(S1.g.keep Kd).keep (Grow.trans K2 K3)
   obtain⟨oa,za,rfl⟩:=SlG_sl G1
   have AD:(Asm.arith .add .i64 (Int.ofNat t.scs.length) 1 ((t.scs.length+1:Nat):Int)).holds Try.prog:=addI (by simp only[Int.ofNat_eq_natCast];omega) (by omega) (by omega)
   have LE:(Asm.cmp .leq (i:Int) ((t.scs.length+1:Nat):Int) true).holds Try.prog:=leT (by omega)
   have AI:(Asm.arith .add .i64 (i:Int) 1 ((i+1:Nat):Int)).holds Try.prog:=addI rfl (by omega) (by omega)
   have l0:(g1++[AObj.cells [iV 0,.bool false,.bool false,.slice none 0 0,iV 0,.string ⟨#[]⟩] true])[g1.length]?=some (.cells [iV 0,.bool false,.bool false,.slice none 0 0,iV 0,.string ⟨#[]⟩] true):=gW _ _
   rw[hR] at gb b2 b3 r3
   rw[hgd] at r2
   obtain⟨ow,su,ov,tk,fk,ft⟩:=w
   by_cases hlo:(i:Int)<1
   ·have hz:=sco_out (t:=t) (n:=(i:Int)) (.inl hlo)
    rw[hz] at hw he
    simp only[ScV.zero,ScV.mk.injEq] at hw
    obtain⟨rfl,rfl,rfl,rfl,rfl,rfl⟩:=hw
    obtain⟨g4,r4,K4⟩:=sameScope_run .zero (v':=.slice none 0 0) (by simp[ScV.zero]) G1 SlG_nil
    have r5:=equalN_run (by omega) ((S2.g.keep K3).keep K4) (S3.g.keep K4)
    obtain⟨E2,q1,q2⟩:=pvK 0 hE (q18p.a1_lo (sA (σ .ts)) (sA (σ .ss)) (sA (σ .lf)) t.tks.length t.scs.length t.tks.length (sZ (σ .ts) 6) (sZ (σ .ss) 6) (sZ (σ .lf) 2) oa none 0 0 za 0 0 0 false false ⟨#[]⟩ 0 0 b r g1.length 0 (i:Int) ((i+1:Nat):Int) ((t.scs.length+1:Nat):Int) 0 e (t.below (i:Int)).2 (t.below (i:Int)).2 v2 v3 g g1 g2 g3 g4 g4)
     ⟨aL gb rfl,AD,LE,r1,rfl,a_st l0 (by simp[ScV.C]) rfl,r2,aN b2 (by simp) rfl,r3,ltT hlo,neF he,aN d3 (by simp[ScV.C]) rfl,r4,neF rfl,r5,AI,trivial⟩
    exact⟨E2,_,⟨tR q1,Grow.trans KG3 K4⟩,q2⟩
   ·by_cases hhi:(t.scs.length:Int)<(i:Int)
    ·have hz:=sco_out (t:=t) (n:=(i:Int)) (.inr hhi)
     rw[hz] at hw he
     simp only[ScV.zero,ScV.mk.injEq] at hw
     obtain⟨rfl,rfl,rfl,rfl,rfl,rfl⟩:=hw
     obtain⟨g4,r4,K4⟩:=sameScope_run .zero (v':=.slice none 0 0) (by simp[ScV.zero]) G1 SlG_nil
     have r5:=equalN_run (by omega) ((S2.g.keep K3).keep K4) (S3.g.keep K4)
     obtain⟨E2,q1,q2⟩:=pvK 0 hE (q18p.a1_hi (sA (σ .ts)) (sA (σ .ss)) (sA (σ .lf)) t.tks.length t.scs.length t.tks.length (sZ (σ .ts) 6) (sZ (σ .ss) 6) (sZ (σ .lf) 2) oa none 0 0 za 0 0 0 false false ⟨#[]⟩ 0 0 b r g1.length 0 (i:Int) ((i+1:Nat):Int) ((t.scs.length+1:Nat):Int) 0 e (t.below (i:Int)).2 (t.below (i:Int)).2 v2 v3 g g1 g2 g3 g4 g4)
      ⟨aL gb rfl,AD,LE,r1,rfl,a_st l0 (by simp[ScV.C]) rfl,r2,aN b2 (by simp) rfl,r3,ltF (by omega),aL b3 rfl,gtT (by simp only[Int.ofNat_eq_natCast];omega),neF he,aN d3 (by simp[ScV.C]) rfl,r4,neF rfl,r5,AI,trivial⟩
     exact⟨E2,_,⟨tR q1,Grow.trans KG3 K4⟩,q2⟩
    ·obtain⟨k,y,hk,hy⟩:=sc_at hlo hhi
     obtain⟨o2,ho2⟩:=a.ssO hy
     have hR2:rT σ t=[slz (σ .ts) t.tks.length 6,.slice (some ⟨o2,0,none⟩) t.scs.length 6,slz (σ .lf) t.tks.length 2]:=by rw[rT,ho2];rfl
     rw[<- hR,hR2] at gb b2 b3 r3
     have hki:i=k+1:=by omega
     have hkl:=gTq hy
     have hz:=sco_in (t:=t) hy
     rw[<- hki] at hz
     rw[hz] at hw he
     have G2:=RAtL.stG (a.grow KG3) hy
     have htk:tk=y.tks:=congrArg ScV.tk hw
     have LR:(Asm.ldn (.is g3) o2 (k*6) 6 (rs σ k y)).holds Try.prog:=a.ssN (d:=0) (n:=6) ho2 hy (by omega) rfl KG3
     have erk:rs σ k y=ScV.C ⟨ow,su,ov,tk,fk,ft⟩ (slz (σ (.st k)) y.tks.length 1):=by rw[hw];rfl
     rw[erk] at LR
     subst htk
     obtain⟨g4,r4,K4⟩:=sameScope_run ⟨ow,su,ov,y.tks,fk,ft⟩ wl G1 G2
     have r5:=equalN_run (by omega) ((S2.g.keep K3).keep K4) (S3.g.keep K4)
     have SB:(Asm.arith .sub .i64 (i:Int) 1 (k:Int)).holds Try.prog:=subI (by omega) (by omega) (by omega)
     have OF:(Asm.off (k*6) 0 (k:Int) t.scs.length 6).holds Try.prog:=offI (q:=k) rfl hkl (by omega)
     obtain⟨E2,q1,q2⟩:=pvK 0 hE (q18p.a1_in (sA (σ .ts)) (sA (σ .lf)) t.tks.length t.tks.length (sZ (σ .ts) 6) (sZ (σ .lf) 2) oa (sA (σ (.st k))) y.tks.length y.tks.length za (sZ (σ (.st k)) 1) ow fk su ov ft o2 t.scs.length b r g1.length (k*6) (i:Int) ((i+1:Nat):Int) ((t.scs.length+1:Nat):Int) k e (t.below (i:Int)).2 (t.below (i:Int)).2 v2 v3 g g1 g2 g3 g4 g4)
      ⟨aL gb rfl,AD,LE,r1,rfl,a_st l0 (by simp[ScV.C]) rfl,r2,aN b2 (by simp) rfl,r3,ltF (by omega),aL b3 rfl,gtF (by simp only[Int.ofNat_eq_natCast];omega),stat37_1,neF he,aN d3 (by simp[ScV.C]) rfl,aL b3 rfl,SB,OF,LR,r4,neF rfl,r5,AI,trivial⟩
     exact⟨E2,_,⟨tR q1,Grow.trans KG3 K4⟩,q2⟩)
  (fun E g ⟨hE,K⟩=>by
   have gb:=K.get hb
   rw[hR] at gb
   obtain⟨E2,q1,q2⟩:=pvK 0 hE (q18p.a1_out (sA (σ .ts)) (sA (σ .ss)) (sA (σ .lf)) t.tks.length t.scs.length t.tks.length (sZ (σ .ts) 6) (sZ (σ .ss) 6) (sZ (σ .lf) 2) none none 0 0 0 0 0 0 false false ⟨#[]⟩ 0 0 b r 0 0 _ 0 ((t.scs.length+1:Nat):Int) 0 0 0 0 .nilFunc .nilFunc g g g g g g)
    ⟨aL gb rfl,addI (by simp only[Int.ofNat_eq_natCast];omega) (by omega) (by omega),leF (by omega),trivial⟩
   exact⟨E2,_,⟨tR q1,K⟩,q2⟩)
  _ H1 ⟨EnvLe.refl _,Grow.refl _⟩
 exact⟨E1,g1,hE1,hl,K1⟩
theorem agree_run(at_:TAt h ρ t)(a:RAt h σ t)(ok:TOk c t)(hc:c<=1000)(W:WI none t)(J:WJ t)(hne:0<t.tks.length)(hr:ρ .root=some r):∃ h',Run Try.prog 37 [ptr r,.agg (rT σ t).toArray] h (.bool true) h'/\Grow h h':=by
 have K0:=boxT h (rT σ t)
 have b0:(h++[AObj.cells (rT σ t) true])[h.length]?=some (.cells (rT σ t) true):=gW _ _
 obtain⟨E1,g1,hE1,hl1,K1⟩:=agree_tasks (at_.grow K0) (a.grow K0) ok hc W J hne hr b0
 obtain⟨E2,g2,hE2,hl2,K2⟩:=agree_scopes (at_.grow (Grow.trans K0 K1)) (a.grow (Grow.trans K0 K1)) ok hc W J hr (K1.get b0)
 obtain⟨E3,he3,rfl⟩:∃ E3,EnvLe ((3,ptr h.length)::(0,ptr r)::E3) E1/\E3=E1:=⟨E1,.add (.add (.refl _) (hE1 _ _ rfl)) (hE1 _ _ rfl),rfl⟩
 exact⟨g2,pvF 0 Try.func37 (q18p.agree (sA (σ .ts)) (sA (σ .ss)) (sA (σ .lf)) t.tks.length t.scs.length t.tks.length (sZ (σ .ts) 6) (sZ (σ .ss) 6) (sZ (σ .lf) 2) h.length r E3 E2 h g1 g2)
  ⟨rfl,a_loop (by kernel_rfl) (.add (.add (.add (.nil _) rfl) rfl) rfl) he3 hl1,a_loop (by kernel_rfl) (.add (.add (.add (.nil _) rfl) rfl) rfl) (.refl _) hl2,trivial⟩,Grow.trans (Grow.trans K0 K1) K2⟩
end
end Go.Proofs.Ytahomnlkkafbjaa.rf
namespace Go.Proofs.Ytahomnlkkafbjaa.q20p
open Go Go.Ev
theorem pl_open(a1 a2 a3:OA)(n1 n2 n3 z1 z2 z3:Nat)(a1x a2x a3x:OA)(n1x n2x n3x z1x z2x z3x:Nat)(r r2 b b5 c d:Nat)(k n a e fk:Int)(y:Bool)(ft:ByteArray)(v v2:V)(g g1 g2 g3:Hp) :
  let Z1:=pT r 0
  let Z2:V:=.agg #[.slice a1 n1 z1,.slice a2 n2 z2,.slice a3 n3 z3]
  let Z3:V:=.tuple #[iV a,iV e]
  let Z4:LV:=[.slice a1 n1 z1,.slice a2 n2 z2,.slice a3 n3 z3]
  let Z5:V:=.agg #[.slice a1x n1x z1x,.slice a2x n2x z2x,.slice a3x n3x z3x]
  let Z6:LV:=[.slice a1x n1x z1x,.slice a2x n2x z2x,.slice a3x n3x z3x]
  let Z7:AObj:=cS [nS,nS,nS]
  let Z8:SH:=.push g2 Z7
  let Z9:AObj:=cS Z6
  let Z10:SH:=.set Z8 d Z9
  let Z11:SH:=.set Z10 b Z9
  let Z12:SH:=.set Z11 c Z9
  let Z13:SH:=.push g (cS Z4)
  let Z14:SH:=.push Z13 (cS [iV k,iV n,.bool y,iV fk,.string ft])
  let Z15:SH:=.push Z14 Z7
  PF Try.f38 [Z1,Z2,.agg #[iV k,iV n,.bool y,iV fk,.string ft]] g [.idx b,.idx b5,.idx c,.val (iV k),.bit true,.val (iV n),.val (.bool y),.ret Z3 g1,.cells Z4,.val (iV n),.val (.bool y),.ret (.tuple #[Z5,iV a,iV e]) g2,.idx d,.cells Z6,.cells Z6,.cells Z6,.bit true,.bit true,.cells Z6,.cells Z6,.cells Z6] =
  some (.tuple #[Z1,Z5,bT],Z12,[],[.len g b,.len Z13 b5,.len Z14 c,.ld1 Z15 b5 0 (iV k),.cmp .eql k 0 true,.ld1 Z15 b5 1 (iV n),.ld1 Z15 b5 2 (.bool y),.call 21 [Z1,iV n,.bool y] Z15 Z3 g1,.ldn g1 b 0 3 Z4,.ld1 g1 b5 1 (iV n),.ld1 g1 b5 2 (.bool y),.call 58 [Z2,iV n,.bool y] g1 (.tuple #[Z5,iV a,iV e]) g2,.len g2 d,.st Z8 d 0 Z6 Z6,.ldn Z10 d 0 3 Z6,.st Z10 b 0 Z6 Z6,.cmp .eql a a true,.cmp .eql e e true,.stat (drawN Try.f38 0),.refl bT,.ldn Z11 b 0 3 Z6,.st Z11 c 0 Z6 Z6,.ldn Z12 c 0 3 Z6]):=by intros;kernel_rfl
theorem pl_spawn(a1 a2 a3:OA)(n1 n2 n3 z1 z2 z3:Nat)(a1x a2x a3x:OA)(n1x n2x n3x z1x z2x z3x:Nat)(r r2 b b5 c d:Nat)(k n a e fk:Int)(y:Bool)(ft:ByteArray)(v v2:V)(g g1 g2 g3:Hp) :
  let Z1:=pT r 0
  let Z2:V:=.agg #[.slice a1 n1 z1,.slice a2 n2 z2,.slice a3 n3 z3]
  let Z3:V:=.tuple #[iV a,iV e]
  let Z4:LV:=[.slice a1 n1 z1,.slice a2 n2 z2,.slice a3 n3 z3]
  let Z5:V:=.agg #[.slice a1x n1x z1x,.slice a2x n2x z2x,.slice a3x n3x z3x]
  let Z6:LV:=[.slice a1x n1x z1x,.slice a2x n2x z2x,.slice a3x n3x z3x]
  let Z7:AObj:=cS [nS,nS,nS]
  let Z8:SH:=.push g2 Z7
  let Z9:AObj:=cS Z6
  let Z10:SH:=.set Z8 d Z9
  let Z11:SH:=.set Z10 b Z9
  let Z12:SH:=.set Z11 c Z9
  let Z13:SH:=.push g (cS Z4)
  let Z14:SH:=.push Z13 (cS [iV k,iV n,.bool y,iV fk,.string ft])
  let Z15:SH:=.push Z14 Z7
  PF Try.f38 [Z1,Z2,.agg #[iV k,iV n,.bool y,iV fk,.string ft]] g [.idx b,.idx b5,.idx c,.val (iV k),.bit false,.bit true,.val (iV n),.ret Z3 g1,.cells Z4,.val (iV n),.ret (.tuple #[Z5,iV a,iV e]) g2,.idx d,.cells Z6,.cells Z6,.cells Z6,.bit true,.bit true,.cells Z6,.cells Z6,.cells Z6] =
  some (.tuple #[Z1,Z5,bT],Z12,[],[.len g b,.len Z13 b5,.len Z14 c,.ld1 Z15 b5 0 (iV k),.cmp .eql k 0 false,.cmp .eql k 1 true,.ld1 Z15 b5 1 (iV n),.call 22 [Z1,iV n] Z15 Z3 g1,.ldn g1 b 0 3 Z4,.ld1 g1 b5 1 (iV n),.call 59 [Z2,iV n] g1 (.tuple #[Z5,iV a,iV e]) g2,.len g2 d,.st Z8 d 0 Z6 Z6,.ldn Z10 d 0 3 Z6,.st Z10 b 0 Z6 Z6,.cmp .eql a a true,.cmp .eql e e true,.stat (drawN Try.f38 0),.refl bT,.ldn Z11 b 0 3 Z6,.st Z11 c 0 Z6 Z6,.ldn Z12 c 0 3 Z6]):=by intros;kernel_rfl
theorem pl_end(a1 a2 a3:OA)(n1 n2 n3 z1 z2 z3:Nat)(a1x a2x a3x:OA)(n1x n2x n3x z1x z2x z3x:Nat)(r r2 b b5 c d:Nat)(k n a e fk:Int)(y:Bool)(ft:ByteArray)(v v2:V)(g g1 g2 g3:Hp) :
  let Z1:=pT r 0
  let Z2:V:=.agg #[.slice a1 n1 z1,.slice a2 n2 z2,.slice a3 n3 z3]
  let Z3:LV:=[iV fk,.string ft]
  let Z4:V:=.tuple #[v,iV e]
  let Z5:LV:=[.slice a1 n1 z1,.slice a2 n2 z2,.slice a3 n3 z3]
  let Z6:V:=.agg #[.slice a1x n1x z1x,.slice a2x n2x z2x,.slice a3x n3x z3x]
  let Z7:LV:=[.slice a1x n1x z1x,.slice a2x n2x z2x,.slice a3x n3x z3x]
  let Z8:AObj:=cS Z7
  let Z9:SH:=.set g3 c Z8
  let Z10:SH:=.push g (cS Z5)
  let Z11:SH:=.push Z10 (cS [iV k,iV n,.bool y,iV fk,.string ft])
  let Z12:AObj:=cS [nS,nS,nS]
  let Z13:SH:=.push Z11 Z12
  let Z14:V:=.agg #[iV fk,.string ft]
  let Z15:SH:=.push g2 Z12
  let Z16:SH:=.set Z15 d Z8
  PF Try.f38 [Z1,Z2,.agg #[iV k,iV n,.bool y,iV fk,.string ft]] g [.idx b,.idx b5,.idx c,.val (iV k),.bit false,.bit false,.bit true,.val (iV n),.cells Z3,.ret Z4 g1,.cells Z5,.val (iV n),.cells Z3,.ret (.tuple #[Z6,v2,iV e]) g2,.idx d,.cells Z7,.cells Z7,.cells Z7,.ret bT g3,.bit true,.cells Z7,.cells Z7,.cells Z7] =
  some (.tuple #[Z1,Z6,bT],Z9,[],[.len g b,.len Z10 b5,.len Z11 c,.ld1 Z13 b5 0 (iV k),.cmp .eql k 0 false,.cmp .eql k 1 false,.cmp .eql k 2 true,.ld1 Z13 b5 1 (iV n),.ldn Z13 b5 3 2 Z3,.call 30 [Z1,iV n,Z14] Z13 Z4 g1,.ldn g1 b 0 3 Z5,.ld1 g1 b5 1 (iV n),.ldn g1 b5 3 2 Z3,.call 60 [Z2,iV n,Z14] g1 (.tuple #[Z6,v2,iV e]) g2,.len g2 d,.st Z15 d 0 Z7 Z7,.ldn Z16 d 0 3 Z7,.st Z16 b 0 Z7 Z7,.call 61 [v,v2] (.set Z16 b Z8) bT g3,.cmp .eql e e true,.stat (drawN Try.f38 0),.refl bT,.ldn g3 b 0 3 Z7,.st g3 c 0 Z7 Z7,.ldn Z9 c 0 3 Z7]):=by intros;kernel_rfl
theorem pl_leave(a1 a2 a3:OA)(n1 n2 n3 z1 z2 z3:Nat)(a1x a2x a3x:OA)(n1x n2x n3x z1x z2x z3x:Nat)(r r2 b b5 c d:Nat)(k n a e fk:Int)(y:Bool)(ft:ByteArray)(v v2:V)(g g1 g2 g3:Hp) :
  let Z1:=pT r 0
  let Z2:V:=.agg #[.slice a1 n1 z1,.slice a2 n2 z2,.slice a3 n3 z3]
  let Z3:LV:=[iV fk,.string ft]
  let Z4:V:=.tuple #[v,iV e]
  let Z5:LV:=[.slice a1 n1 z1,.slice a2 n2 z2,.slice a3 n3 z3]
  let Z6:V:=.agg #[.slice a1x n1x z1x,.slice a2x n2x z2x,.slice a3x n3x z3x]
  let Z7:LV:=[.slice a1x n1x z1x,.slice a2x n2x z2x,.slice a3x n3x z3x]
  let Z8:AObj:=cS Z7
  let Z9:SH:=.set g3 c Z8
  let Z10:SH:=.push g (cS Z5)
  let Z11:SH:=.push Z10 (cS [iV k,iV n,.bool y,iV fk,.string ft])
  let Z12:AObj:=cS [nS,nS,nS]
  let Z13:SH:=.push Z11 Z12
  let Z14:V:=.agg #[iV fk,.string ft]
  let Z15:SH:=.push g2 Z12
  let Z16:SH:=.set Z15 d Z8
  PF Try.f38 [Z1,Z2,.agg #[iV k,iV n,.bool y,iV fk,.string ft]] g [.idx b,.idx b5,.idx c,.val (iV k),.bit false,.bit false,.bit false,.bit true,.val (iV n),.cells Z3,.ret Z4 g1,.cells Z5,.val (iV n),.cells Z3,.ret (.tuple #[Z6,v2,iV e]) g2,.idx d,.cells Z7,.cells Z7,.cells Z7,.ret bT g3,.bit true,.cells Z7,.cells Z7,.cells Z7] =
  some (.tuple #[Z1,Z6,bT],Z9,[],[.len g b,.len Z10 b5,.len Z11 c,.ld1 Z13 b5 0 (iV k),.cmp .eql k 0 false,.cmp .eql k 1 false,.cmp .eql k 2 false,.cmp .eql k 3 true,.ld1 Z13 b5 1 (iV n),.ldn Z13 b5 3 2 Z3,.call 31 [Z1,iV n,Z14] Z13 Z4 g1,.ldn g1 b 0 3 Z5,.ld1 g1 b5 1 (iV n),.ldn g1 b5 3 2 Z3,.call 62 [Z2,iV n,Z14] g1 (.tuple #[Z6,v2,iV e]) g2,.len g2 d,.st Z15 d 0 Z7 Z7,.ldn Z16 d 0 3 Z7,.st Z16 b 0 Z7 Z7,.call 61 [v,v2] (.set Z16 b Z8) bT g3,.cmp .eql e e true,.stat (drawN Try.f38 0),.refl bT,.ldn g3 b 0 3 Z7,.st g3 c 0 Z7 Z7,.ldn Z9 c 0 3 Z7]):=by intros;kernel_rfl
theorem pl_fail(a1 a2 a3:OA)(n1 n2 n3 z1 z2 z3:Nat)(a1x a2x a3x:OA)(n1x n2x n3x z1x z2x z3x:Nat)(r r2 b b5 c d:Nat)(k n a e fk:Int)(y:Bool)(ft:ByteArray)(v v2:V)(g g1 g2 g3:Hp) :
  let Z1:=pT r 0
  let Z2:V:=.agg #[.slice a1 n1 z1,.slice a2 n2 z2,.slice a3 n3 z3]
  let Z3:LV:=[iV fk,.string ft]
  let Z4:V:=.tuple #[v,iV e]
  let Z5:LV:=[.slice a1 n1 z1,.slice a2 n2 z2,.slice a3 n3 z3]
  let Z6:V:=.agg #[.slice a1x n1x z1x,.slice a2x n2x z2x,.slice a3x n3x z3x]
  let Z7:LV:=[.slice a1x n1x z1x,.slice a2x n2x z2x,.slice a3x n3x z3x]
  let Z8:AObj:=cS Z7
  let Z9:SH:=.set g3 c Z8
  let Z10:SH:=.push g (cS Z5)
  let Z11:SH:=.push Z10 (cS [iV k,iV n,.bool y,iV fk,.string ft])
  let Z12:AObj:=cS [nS,nS,nS]
  let Z13:SH:=.push Z11 Z12
  let Z14:V:=.agg #[iV fk,.string ft]
  let Z15:SH:=.push g2 Z12
  let Z16:SH:=.set Z15 d Z8
  PF Try.f38 [Z1,Z2,.agg #[iV k,iV n,.bool y,iV fk,.string ft]] g [.idx b,.idx b5,.idx c,.val (iV k),.bit false,.bit false,.bit false,.bit false,.bit false,.bit false,.bit true,.val (iV n),.cells Z3,.ret Z4 g1,.cells Z5,.val (iV n),.cells Z3,.ret (.tuple #[Z6,v2,iV e]) g2,.idx d,.cells Z7,.cells Z7,.cells Z7,.ret bT g3,.bit true,.cells Z7,.cells Z7,.cells Z7] =
  some (.tuple #[Z1,Z6,bT],Z9,[],[.len g b,.len Z10 b5,.len Z11 c,.ld1 Z13 b5 0 (iV k),.cmp .eql k 0 false,.cmp .eql k 1 false,.cmp .eql k 2 false,.cmp .eql k 3 false,.cmp .eql k 4 false,.cmp .eql k 5 false,.cmp .eql k 6 true,.ld1 Z13 b5 1 (iV n),.ldn Z13 b5 3 2 Z3,.call 32 [Z1,iV n,Z14] Z13 Z4 g1,.ldn g1 b 0 3 Z5,.ld1 g1 b5 1 (iV n),.ldn g1 b5 3 2 Z3,.call 65 [Z2,iV n,Z14] g1 (.tuple #[Z6,v2,iV e]) g2,.len g2 d,.st Z15 d 0 Z7 Z7,.ldn Z16 d 0 3 Z7,.st Z16 b 0 Z7 Z7,.call 61 [v,v2] (.set Z16 b Z8) bT g3,.cmp .eql e e true,.stat (drawN Try.f38 0),.refl bT,.ldn g3 b 0 3 Z7,.st g3 c 0 Z7 Z7,.ldn Z9 c 0 3 Z7]):=by intros;kernel_rfl
theorem pl_shield(a1 a2 a3:OA)(n1 n2 n3 z1 z2 z3:Nat)(a1x a2x a3x:OA)(n1x n2x n3x z1x z2x z3x:Nat)(r r2 b b5 c d:Nat)(k n a e fk:Int)(y:Bool)(ft:ByteArray)(v v2:V)(g g1 g2 g3:Hp) :
  let Z1:=pT r 0
  let Z2:V:=.agg #[.slice a1 n1 z1,.slice a2 n2 z2,.slice a3 n3 z3]
  let Z3:LV:=[.slice a1 n1 z1,.slice a2 n2 z2,.slice a3 n3 z3]
  let Z4:V:=.agg #[.slice a1x n1x z1x,.slice a2x n2x z2x,.slice a3x n3x z3x]
  let Z5:LV:=[.slice a1x n1x z1x,.slice a2x n2x z2x,.slice a3x n3x z3x]
  let Z6:AObj:=cS [nS,nS,nS]
  let Z7:SH:=.push g2 Z6
  let Z8:AObj:=cS Z5
  let Z9:SH:=.set Z7 d Z8
  let Z10:SH:=.set Z9 b Z8
  let Z11:SH:=.set Z10 c Z8
  let Z12:SH:=.push g (cS Z3)
  let Z13:SH:=.push Z12 (cS [iV k,iV n,.bool y,iV fk,.string ft])
  let Z14:SH:=.push Z13 Z6
  PF Try.f38 [Z1,Z2,.agg #[iV k,iV n,.bool y,iV fk,.string ft]] g [.idx b,.idx b5,.idx c,.val (iV k),.bit false,.bit false,.bit false,.bit false,.bit true,.val (iV n),.ret (iV e) g1,.cells Z3,.val (iV n),.ret (.tuple #[Z4,iV e]) g2,.idx d,.cells Z5,.cells Z5,.cells Z5,.bit true,.cells Z5,.cells Z5,.cells Z5] =
  some (.tuple #[Z1,Z4,bT],Z11,[],[.len g b,.len Z12 b5,.len Z13 c,.ld1 Z14 b5 0 (iV k),.cmp .eql k 0 false,.cmp .eql k 1 false,.cmp .eql k 2 false,.cmp .eql k 3 false,.cmp .eql k 4 true,.ld1 Z14 b5 1 (iV n),.call 23 [Z1,iV n] Z14 (iV e) g1,.ldn g1 b 0 3 Z3,.ld1 g1 b5 1 (iV n),.call 63 [Z2,iV n] g1 (.tuple #[Z4,iV e]) g2,.len g2 d,.st Z7 d 0 Z5 Z5,.ldn Z9 d 0 3 Z5,.st Z9 b 0 Z5 Z5,.cmp .eql e e true,.stat (drawN Try.f38 0),.refl bT,.ldn Z10 b 0 3 Z5,.st Z10 c 0 Z5 Z5,.ldn Z11 c 0 3 Z5]):=by intros;kernel_rfl
theorem pl_unveil(a1 a2 a3:OA)(n1 n2 n3 z1 z2 z3:Nat)(a1x a2x a3x:OA)(n1x n2x n3x z1x z2x z3x:Nat)(r r2 b b5 c d:Nat)(k n a e fk:Int)(y:Bool)(ft:ByteArray)(v v2:V)(g g1 g2 g3:Hp) :
  let Z1:=pT r 0
  let Z2:V:=.agg #[.slice a1 n1 z1,.slice a2 n2 z2,.slice a3 n3 z3]
  let Z3:LV:=[.slice a1 n1 z1,.slice a2 n2 z2,.slice a3 n3 z3]
  let Z4:V:=.agg #[.slice a1x n1x z1x,.slice a2x n2x z2x,.slice a3x n3x z3x]
  let Z5:LV:=[.slice a1x n1x z1x,.slice a2x n2x z2x,.slice a3x n3x z3x]
  let Z6:AObj:=cS [nS,nS,nS]
  let Z7:SH:=.push g2 Z6
  let Z8:AObj:=cS Z5
  let Z9:SH:=.set Z7 d Z8
  let Z10:SH:=.set Z9 b Z8
  let Z11:SH:=.set Z10 c Z8
  let Z12:SH:=.push g (cS Z3)
  let Z13:SH:=.push Z12 (cS [iV k,iV n,.bool y,iV fk,.string ft])
  let Z14:SH:=.push Z13 Z6
  PF Try.f38 [Z1,Z2,.agg #[iV k,iV n,.bool y,iV fk,.string ft]] g [.idx b,.idx b5,.idx c,.val (iV k),.bit false,.bit false,.bit false,.bit false,.bit false,.bit true,.val (iV n),.ret (iV e) g1,.cells Z3,.val (iV n),.ret (.tuple #[Z4,iV e]) g2,.idx d,.cells Z5,.cells Z5,.cells Z5,.bit true,.cells Z5,.cells Z5,.cells Z5] =
  some (.tuple #[Z1,Z4,bT],Z11,[],[.len g b,.len Z12 b5,.len Z13 c,.ld1 Z14 b5 0 (iV k),.cmp .eql k 0 false,.cmp .eql k 1 false,.cmp .eql k 2 false,.cmp .eql k 3 false,.cmp .eql k 4 false,.cmp .eql k 5 true,.ld1 Z14 b5 1 (iV n),.call 24 [Z1,iV n] Z14 (iV e) g1,.ldn g1 b 0 3 Z3,.ld1 g1 b5 1 (iV n),.call 64 [Z2,iV n] g1 (.tuple #[Z4,iV e]) g2,.len g2 d,.st Z7 d 0 Z5 Z5,.ldn Z9 d 0 3 Z5,.st Z9 b 0 Z5 Z5,.cmp .eql e e true,.stat (drawN Try.f38 0),.refl bT,.ldn Z10 b 0 3 Z5,.st Z10 c 0 Z5 Z5,.ldn Z11 c 0 3 Z5]):=by intros;kernel_rfl
theorem pl_root(a1 a2 a3:OA)(n1 n2 n3 z1 z2 z3:Nat)(a1x a2x a3x:OA)(n1x n2x n3x z1x z2x z3x:Nat)(r r2 b b5 c d:Nat)(k n a e fk:Int)(y:Bool)(ft:ByteArray)(v v2:V)(g g1 g2 g3:Hp) :
  let Z1:=pT r 0
  let Z2:V:=.agg #[.slice a1 n1 z1,.slice a2 n2 z2,.slice a3 n3 z3]
  let Z3:V:=.tuple #[iV a,iV e]
  let Z4:LV:=[.slice a1 n1 z1,.slice a2 n2 z2,.slice a3 n3 z3]
  let Z5:V:=.agg #[.slice a1x n1x z1x,.slice a2x n2x z2x,.slice a3x n3x z3x]
  let Z6:LV:=[.slice a1x n1x z1x,.slice a2x n2x z2x,.slice a3x n3x z3x]
  let Z7:AObj:=cS [nS,nS,nS]
  let Z8:SH:=.push g2 Z7
  let Z9:AObj:=cS Z6
  let Z10:SH:=.set Z8 d Z9
  let Z11:SH:=.set Z10 b Z9
  let Z12:SH:=.set Z11 c Z9
  let Z13:SH:=.push g (cS Z4)
  let Z14:SH:=.push Z13 (cS [iV k,iV n,.bool y,iV fk,.string ft])
  let Z15:SH:=.push Z14 Z7
  PF Try.f38 [Z1,Z2,.agg #[iV k,iV n,.bool y,iV fk,.string ft]] g [.idx b,.idx b5,.idx c,.val (iV k),.bit false,.bit false,.bit false,.bit false,.bit false,.bit false,.bit false,.bit true,.ret Z3 g1,.cells Z4,.ret (.tuple #[Z5,iV a,iV e]) g2,.idx d,.cells Z6,.cells Z6,.cells Z6,.bit true,.bit true,.cells Z6,.cells Z6,.cells Z6] =
  some (.tuple #[Z1,Z5,bT],Z12,[],[.len g b,.len Z13 b5,.len Z14 c,.ld1 Z15 b5 0 (iV k),.cmp .eql k 0 false,.cmp .eql k 1 false,.cmp .eql k 2 false,.cmp .eql k 3 false,.cmp .eql k 4 false,.cmp .eql k 5 false,.cmp .eql k 6 false,.cmp .eql k 7 true,.call 33 [Z1] Z15 Z3 g1,.ldn g1 b 0 3 Z4,.call 66 [Z2] g1 (.tuple #[Z5,iV a,iV e]) g2,.len g2 d,.st Z8 d 0 Z6 Z6,.ldn Z10 d 0 3 Z6,.st Z10 b 0 Z6 Z6,.cmp .eql a a true,.cmp .eql e e true,.stat (drawN Try.f38 0),.refl bT,.ldn Z11 b 0 3 Z6,.st Z11 c 0 Z6 Z6,.ldn Z12 c 0 3 Z6]):=by intros;kernel_rfl
theorem pl_copy(a1 a2 a3:OA)(n1 n2 n3 z1 z2 z3:Nat)(a1x a2x a3x:OA)(n1x n2x n3x z1x z2x z3x:Nat)(r r2 b b5 c d:Nat)(k n a e fk:Int)(y:Bool)(ft:ByteArray)(v v2:V)(g g1 g2 g3:Hp) :
  let Z1:=pT r 0
  let Z2:V:=.agg #[.slice a1 n1 z1,.slice a2 n2 z2,.slice a3 n3 z3]
  let Z3:=pT r2 0
  let Z4:LV:=[.slice a1 n1 z1,.slice a2 n2 z2,.slice a3 n3 z3]
  let Z5:AObj:=cS Z4
  let Z6:SH:=.set g1 c Z5
  let Z7:SH:=.push g Z5
  let Z8:SH:=.push Z7 (cS [iV k,iV n,.bool y,iV fk,.string ft])
  let Z9:SH:=.push Z8 (cS [nS,nS,nS])
  PF Try.f38 [Z1,Z2,.agg #[iV k,iV n,.bool y,iV fk,.string ft]] g [.idx b,.idx b5,.idx c,.val (iV k),.bit false,.bit false,.bit false,.bit false,.bit false,.bit false,.bit false,.bit false,.ret Z3 g1,.cells Z4,.cells Z4,.cells Z4] =
  some (.tuple #[Z3,Z2,bT],Z6,[],[.len g b,.len Z7 b5,.len Z8 c,.ld1 Z9 b5 0 (iV k),.cmp .eql k 0 false,.cmp .eql k 1 false,.cmp .eql k 2 false,.cmp .eql k 3 false,.cmp .eql k 4 false,.cmp .eql k 5 false,.cmp .eql k 6 false,.cmp .eql k 7 false,.call 20 [Z1] Z9 Z3 g1,.stat (drawN Try.f38 0),.refl bT,.ldn g1 b 0 3 Z4,.st g1 c 0 Z4 Z4,.ldn Z6 c 0 3 Z4]):=by intros;kernel_rfl
end Go.Proofs.Ytahomnlkkafbjaa.q20p
namespace Go.Proofs.Ytahomnlkkafbjaa.rf
open Go Go.Ev Go.Proofs.Ytahomnlkkafbjaa.tr
structure PS(h:Hp)(ρ:Lay)(σ:RLay)(t:TS)(r:Nat):Prop where
 at_:TAt h ρ t
 ref:RAt h σ t
 root:ρ .root=some r
 dis:∀ q,fpT ρ q->¬ fpR σ q
structure PK(h:Hp)(ρ:Lay)(σ:RLay)(G:Hp)(ρ':Lay)(σ':RLay):Prop where
 keep:Keep (fpT ρ) h G
 new:∀ q,fpT ρ' q\/fpR σ' q->(fpT ρ q\/fpR σ q)\/h.length<=q
section
variable {h h' g g1 g2 G:Hp} {σ σ':RLay} {ρ ρ':Lay} {t t':TS} {c k s r:Nat}
theorem play_fin(S:PS h ρ σ t r){H3:Hp}(K3:Grow h H3)(l3:H3.length=h.length+3)(A1:TAt g1 ρ' t')(St:Step ρ H3 ρ' g1)(N:Nxt g1 σ g2 σ' t')(KG:Keep (fun q=>q=h.length\/q=h.length+2) g2 G):PS G ρ' σ' t' r/\PK h ρ σ G ρ' σ':=by
 have ltT:∀ q,fpT ρ q->q<h.length:=fun q ⟨x,e⟩=>S.at_.lt e
 have ltR:∀ q,fpR σ q->q<h.length:=fun q e=>S.ref.fpLt e
 have lt1:∀ q,fpT ρ' q->q<g1.length:=fun q ⟨x,e⟩=>A1.lt e
 have gl1:=St.keep.1
 have gl2:=N.grow.1
 have nT:∀ q,(q=h.length\/q=h.length+2)->¬ fpT ρ' q:=fun q hq e=>by
  rcases St.new q e with e | e
  ·have:=ltT q e;omega
  ·omega
 have nR:∀ q,(q=h.length\/q=h.length+2)->¬ fpR σ' q:=fun q hq e=>by
  rcases N.nxt q e with e | e
  ·have:=ltR q e;omega
  ·omega
 refine⟨⟨(A1.keep N.grow fun q e=>e.elim).keep KG nT,N.at_.keep KG nR,by rw[St.root];exact S.root,fun q e f=>?_⟩,⟨⟨by have:=KG.1;omega,fun q ob hq hn=>?_⟩,fun q e=>?_⟩⟩
 ·rcases N.nxt q f with f | f
  ·rcases St.new q e with e | e
   ·exact S.dis q e f
   ·have:=ltR q f;omega
  ·have:=lt1 q e;omega
 ·have hql:=get_lt hq
  exact KG.2 _ _ (N.grow.get (St.keep.2 _ _ (K3.get hq) hn)) (by omega)
 ·rcases e with e | e
  ·rcases St.new q e with e | e
   ·exact .inl (.inl e)
   ·exact .inr (by omega)
  ·rcases N.nxt q e with e | e
   ·exact .inl (.inr e)
   ·exact .inr (by omega)
theorem EfV.kp{lo:Nat}{v:Value}{l:List Ef}{fp:Nat->Prop}(E:EfV g lo ρ v l)(K:Keep fp g G)(hf:∀ q,fp q->q<lo):EfV G lo ρ v l:=by
 rcases E with⟨h1,h2⟩ | ⟨h1,o,h2,h3,h4,h5⟩
 ·exact .inl ⟨h1,h2⟩
 ·exact .inr ⟨h1,o,h2,K.2 _ _ h3 fun e=>by have:=hf _ e;omega,h4,h5⟩
theorem EfR.kp{lo:Nat}{v:Value}{l:List Ef}{fp:Nat->Prop}(E:EfR g lo σ v l)(K:Keep fp g G)(hf:∀ q,fp q->q<lo):EfR G lo σ v l:=by
 rcases E with⟨h1,h2⟩ | ⟨h1,o,h2,h3,h4,h5⟩
 ·exact .inl ⟨h1,h2⟩
 ·exact .inr ⟨h1,o,h2,K.2 _ _ h3 fun e=>by have:=hf _ e;omega,h4,h5⟩
theorem EfR.sl{lo:Nat}{v:Value}{l:List Ef}(a:EfR g lo σ v l):SlG g v l.length 5 (efC l):=by
 rcases a with⟨rfl,rfl⟩ | ⟨_,o,rfl,h3,_,_⟩
 ·exact SlG_nil
 ·exact⟨efC_len l,_,_,rfl,fun _=>⟨o,[],true,rfl,rfl,by rw[List.append_nil];exact h3⟩⟩
theorem stat38:(Asm.stat (drawN Try.f38 0)).holds Try.prog:=show statOk (drawN Try.f38 0)=true by kernel_rfl
theorem reflT:(Asm.refl (.bool true)).holds Try.prog:=by simp[Asm.holds,veq]
theorem play_keep{R2:List Value}(hg:h.length+3<=g.length):Keep (fun q=>q=h.length\/q=h.length+2) g (((g++[AObj.cells zz true]).set g.length (.cells R2 true)).set h.length (.cells R2 true)) :=
 (Keep.mono (fp:=fun _=>False) (Grow.set (Grow.push (Grow.refl g) _) (Nat.le_refl _) _) fun _ _ e=>e.elim).trans (Keep.set (fp:=fun q=>q=h.length\/q=h.length+2) (.inl rfl) _)
theorem play_run(S:PS h ρ σ t r)(ok:TOk c t)(hc:c<=1000)(W:WI none t)(hne:0<t.tks.length)(o:OpV) :
  ∃ ρ' σ' r' h',Run Try.prog 38 [ptr r,.agg (rT σ t).toArray,.agg o.cells.toArray] h (.tuple #[ptr r',.agg (rT σ' (t.run o).1).toArray,.bool true]) h'/\PS h' ρ' σ' (t.run o).1 r'/\PK h ρ σ h' ρ' σ':=by
 obtain⟨k,n,y,fk,ft⟩:=o
 have K3:=box3 h (rT σ t) [iV k,iV n,.bool y,iV fk,.string ft] zz
 have l3:=box3_len h (rT σ t) [iV k,iV n,.bool y,iV fk,.string ft] zz
 have b0:=box3_0 h (rT σ t) [iV k,iV n,.bool y,iV fk,.string ft] zz
 have b1:=box3_1 h (rT σ t) [iV k,iV n,.bool y,iV fk,.string ft] zz
 have b2:=box3_2 h (rT σ t) [iV k,iV n,.bool y,iV fk,.string ft] zz
 have a0:TAt _ ρ t:=S.at_.keep K3 fun q e=>e.elim
 have ltT:∀ q,fpT ρ q->q<h.length:=fun q ⟨x,e⟩=>S.at_.lt e
 obtain⟨H3,hH3⟩:∃ H3,H3=h++[AObj.cells (rT σ t) true]++[AObj.cells [iV k,iV n,.bool y,iV fk,.string ft] true]++[AObj.cells zz true]:=⟨_,rfl⟩
 rw[<- hH3] at K3 l3 b0 b1 b2 a0
 have ref1:∀ {g1:Hp} {ρ':Lay},Step ρ H3 ρ' g1->RAt g1 σ t:=fun St=>(S.ref.grow K3).keep St.keep fun q e=>S.dis q e
 have bx1:∀ {g1:Hp} {ρ':Lay},Step ρ H3 ρ' g1->g1[h.length]?=some (.cells (rT σ t) true)/\g1[h.length+1]?=some (.cells [iV k,iV n,.bool y,iV fk,.string ft] true)/\g1[h.length+2]?=some (.cells zz true):=fun St =>
  ⟨St.keep.2 _ _ b0 fun e=>by have:=ltT _ e;omega,St.keep.2 _ _ b1 fun e=>by have:=ltT _ e;omega,St.keep.2 _ _ b2 fun e=>by have:=ltT _ e;omega⟩
 have l2:(h++[AObj.cells (rT σ t) true]++[AObj.cells [iV k,iV n,.bool y,iV fk,.string ft] true]).length=h.length+2:=by simp
 by_cases k0:k=0
 ·obtain⟨ρ',g1,r1,A1,St⟩:=open_run a0 ok (by omega) S.root n y
  obtain⟨σ',g2,r2,N⟩:=openScopeR_run (ref1 St) ok (by omega) hne n y
  have es:(t.run ⟨k,n,y,fk,ft⟩).1=(t.open n y).1:=by simp only[TS.run,if_pos k0]
  rw[es]
  obtain⟨d0,d1,d2⟩:=bx1 St
  have gl1:=St.keep.1
  have gl2:=N.grow.1
  have e0:=N.grow.get d0
  have e1:=N.grow.get d1
  have e2:=N.grow.get d2
  have hd:=gW g2 (.cells zz true)
  have hd1:=gE (x:=.cells (rT σ' (t.open n y).1) true) hd
  have hb:=gNq (x:=.cells (rT σ' (t.open n y).1) true) (gP (x:=.cells zz true) e0) (show g2.length≠h.length by omega)
  have hb2:=gE (x:=.cells (rT σ' (t.open n y).1) true) hb
  have hc2:=gNq (x:=.cells (rT σ' (t.open n y).1) true) (gNq (x:=.cells (rT σ' (t.open n y).1) true) (gP (x:=.cells zz true) e2) (show g2.length≠h.length+2 by omega)) (show h.length≠h.length+2 by omega)
  have kp:=play_keep (h:=h) (g:=g2) (R2:=rT σ' (t.open n y).1) (by omega)
  have kp2:=kp.trans (Keep.set (fp:=fun q=>q=h.length\/q=h.length+2) (i:=h.length+2) (.inr rfl) (.cells (rT σ' (t.open n y).1) true))
  obtain⟨P1,P2⟩:=play_fin S K3 l3 A1 St N kp2
  rw[hH3] at r1 b1
  exact⟨ρ',σ',r,_,pvF 0 Try.func38 (q20p.pl_open (sA (σ .ts)) (sA (σ .ss)) (sA (σ .lf)) t.tks.length t.scs.length t.tks.length (sZ (σ .ts) 6) (sZ (σ .ss) 6) (sZ (σ .lf) 2) (sA (σ' .ts)) (sA (σ' .ss)) (sA (σ' .lf)) (t.open n y).1.tks.length (t.open n y).1.scs.length (t.open n y).1.tks.length (sZ (σ' .ts) 6) (sZ (σ' .ss) 6) (sZ (σ' .lf) 2) r 0 h.length (h.length+1) (h.length+2) g2.length k n (t.open n y).2.1 (t.open n y).2.2 fk y ft .nilFunc .nilFunc h g1 g2 g2)
   ⟨rfl,pL _ _,l2,aL b1 rfl,eqT k0,aL b1 rfl,aL b1 rfl,r1,aN d0 (by simp[rT]) rfl,aL d1 rfl,aL d1 rfl,r2,rfl,a_st hd (by simp[rT]) rfl,aN hd1 (by simp[rT]) rfl,a_st hb (by simp[rT]) rfl,eqT rfl,eqT rfl,stat38,reflT,aN hb2 (by simp[rT]) rfl,a_st hc2 (by simp[rT]) rfl,aN (gE hc2) (by simp[rT]) rfl,trivial⟩,P1,P2⟩
 by_cases k1:k=1
 ·obtain⟨ρ',g1,r1,A1,St⟩:=spawn_run a0 ok (by omega) S.root n
  obtain⟨σ',g2,r2,N⟩:=spawnR_run (ref1 St) ok (by omega) hne n
  have es:(t.run ⟨k,n,y,fk,ft⟩).1=(t.spawn n).1:=by simp only[TS.run,if_neg k0,if_pos k1]
  rw[es]
  obtain⟨d0,d1,d2⟩:=bx1 St
  have gl1:=St.keep.1
  have gl2:=N.grow.1
  have e0:=N.grow.get d0
  have e1:=N.grow.get d1
  have e2:=N.grow.get d2
  have hd:=gW g2 (.cells zz true)
  have hd1:=gE (x:=.cells (rT σ' (t.spawn n).1) true) hd
  have hb:=gNq (x:=.cells (rT σ' (t.spawn n).1) true) (gP (x:=.cells zz true) e0) (show g2.length≠h.length by omega)
  have hb2:=gE (x:=.cells (rT σ' (t.spawn n).1) true) hb
  have hc2:=gNq (x:=.cells (rT σ' (t.spawn n).1) true) (gNq (x:=.cells (rT σ' (t.spawn n).1) true) (gP (x:=.cells zz true) e2) (show g2.length≠h.length+2 by omega)) (show h.length≠h.length+2 by omega)
  have kp:=play_keep (h:=h) (g:=g2) (R2:=rT σ' (t.spawn n).1) (by omega)
  have kp2:=kp.trans (Keep.set (fp:=fun q=>q=h.length\/q=h.length+2) (i:=h.length+2) (.inr rfl) (.cells (rT σ' (t.spawn n).1) true))
  obtain⟨P1,P2⟩:=play_fin S K3 l3 A1 St N kp2
  rw[hH3] at r1 b1
  exact⟨ρ',σ',r,_,pvF 0 Try.func38 (q20p.pl_spawn (sA (σ .ts)) (sA (σ .ss)) (sA (σ .lf)) t.tks.length t.scs.length t.tks.length (sZ (σ .ts) 6) (sZ (σ .ss) 6) (sZ (σ .lf) 2) (sA (σ' .ts)) (sA (σ' .ss)) (sA (σ' .lf)) (t.spawn n).1.tks.length (t.spawn n).1.scs.length (t.spawn n).1.tks.length (sZ (σ' .ts) 6) (sZ (σ' .ss) 6) (sZ (σ' .lf) 2) r 0 h.length (h.length+1) (h.length+2) g2.length k n (t.spawn n).2.1 (t.spawn n).2.2 fk y ft .nilFunc .nilFunc h g1 g2 g2)
   ⟨rfl,pL _ _,l2,aL b1 rfl,eqF k0,eqT k1,aL b1 rfl,r1,aN d0 (by simp[rT]) rfl,aL d1 rfl,r2,rfl,a_st hd (by simp[rT]) rfl,aN hd1 (by simp[rT]) rfl,a_st hb (by simp[rT]) rfl,eqT rfl,eqT rfl,stat38,reflT,aN hb2 (by simp[rT]) rfl,a_st hc2 (by simp[rT]) rfl,aN (gE hc2) (by simp[rT]) rfl,trivial⟩,P1,P2⟩
 by_cases k2:k=2
 ·obtain⟨v,g1,r1,A1,St,E1⟩:=end_run a0 ok (by omega) S.root n fk ft
  obtain⟨σ',g2,v2,r2,N,E2⟩:=endR_run (ref1 St) ok W (by omega) n fk ft
  have es:(t.run ⟨k,n,y,fk,ft⟩).1=(t.end n fk ft).1:=by simp only[TS.run,if_neg k0,if_neg k1,if_pos k2]
  rw[es]
  obtain⟨d0,d1,d2⟩:=bx1 St
  have gl1:=St.keep.1
  have gl2:=N.grow.1
  have e0:=N.grow.get d0
  have e1:=N.grow.get d1
  have e2:=N.grow.get d2
  have hd:=gW g2 (.cells zz true)
  have hd1:=gE (x:=.cells (rT σ' (t.end n fk ft).1) true) hd
  have hb:=gNq (x:=.cells (rT σ' (t.end n fk ft).1) true) (gP (x:=.cells zz true) e0) (show g2.length≠h.length by omega)
  have hb2:=gE (x:=.cells (rT σ' (t.end n fk ft).1) true) hb
  have hc2:=gNq (x:=.cells (rT σ' (t.end n fk ft).1) true) (gNq (x:=.cells (rT σ' (t.end n fk ft).1) true) (gP (x:=.cells zz true) e2) (show g2.length≠h.length+2 by omega)) (show h.length≠h.length+2 by omega)
  have kp:=play_keep (h:=h) (g:=g2) (R2:=rT σ' (t.end n fk ft).1) (by omega)
  have F1:=EfV.kp (EfV.kp E1 N.grow fun q e=>e.elim) kp (fun q e=>by omega)
  have F2:=EfR.kp E2 kp (fun q e=>by omega)
  have lf:(t.end n fk ft).2.1.length<=1000000:=by have:=run_len t ⟨k,n,y,fk,ft⟩;simp only[TS.run,if_neg k0,if_neg k1,if_pos k2] at this;omega
  obtain⟨g3,r3,K4⟩:=sameEf_run lf (EfV.sl F1) (EfR.sl F2)
  have hb3:=K4.get hb2
  have hc3:=K4.get hc2
  have kp2:=(kp.trans (Keep.mono (fp:=fun _=>False) K4 fun _ _ e=>e.elim)).trans (Keep.set (fp:=fun q=>q=h.length\/q=h.length+2) (i:=h.length+2) (.inr rfl) (.cells (rT σ' (t.end n fk ft).1) true))
  obtain⟨P1,P2⟩:=play_fin S K3 l3 A1 St N kp2
  rw[hH3] at r1 b1
  exact⟨ρ,σ',r,_,pvF 0 Try.func38 (q20p.pl_end (sA (σ .ts)) (sA (σ .ss)) (sA (σ .lf)) t.tks.length t.scs.length t.tks.length (sZ (σ .ts) 6) (sZ (σ .ss) 6) (sZ (σ .lf) 2) (sA (σ' .ts)) (sA (σ' .ss)) (sA (σ' .lf)) (t.end n fk ft).1.tks.length (t.end n fk ft).1.scs.length (t.end n fk ft).1.tks.length (sZ (σ' .ts) 6) (sZ (σ' .ss) 6) (sZ (σ' .lf) 2) r 0 h.length (h.length+1) (h.length+2) g2.length k n 0 (t.end n fk ft).2.2 fk y ft v v2 h g1 g2 g3)
   ⟨rfl,pL _ _,l2,aL b1 rfl,eqF k0,eqF k1,eqT k2,aL b1 rfl,aN b1 (by simp) rfl,r1,aN d0 (by simp[rT]) rfl,aL d1 rfl,aN d1 (by simp) rfl,r2,rfl,a_st hd (by simp[rT]) rfl,aN hd1 (by simp[rT]) rfl,a_st hb (by simp[rT]) rfl,r3,eqT rfl,stat38,reflT,aN hb3 (by simp[rT]) rfl,a_st hc3 (by simp[rT]) rfl,aN (gE hc3) (by simp[rT]) rfl,trivial⟩,P1,P2⟩
 by_cases k3:k=3
 ·obtain⟨v,g1,r1,A1,St,E1⟩:=leave_run a0 ok (by omega) S.root n fk ft
  obtain⟨σ',g2,v2,r2,N,E2⟩:=leaveR_run (ref1 St) ok W (by omega) n fk ft
  have es:(t.run ⟨k,n,y,fk,ft⟩).1=(t.leave n fk ft).1:=by simp only[TS.run,if_neg k0,if_neg k1,if_neg k2,if_pos k3]
  rw[es]
  obtain⟨d0,d1,d2⟩:=bx1 St
  have gl1:=St.keep.1
  have gl2:=N.grow.1
  have e0:=N.grow.get d0
  have e1:=N.grow.get d1
  have e2:=N.grow.get d2
  have hd:=gW g2 (.cells zz true)
  have hd1:=gE (x:=.cells (rT σ' (t.leave n fk ft).1) true) hd
  have hb:=gNq (x:=.cells (rT σ' (t.leave n fk ft).1) true) (gP (x:=.cells zz true) e0) (show g2.length≠h.length by omega)
  have hb2:=gE (x:=.cells (rT σ' (t.leave n fk ft).1) true) hb
  have hc2:=gNq (x:=.cells (rT σ' (t.leave n fk ft).1) true) (gNq (x:=.cells (rT σ' (t.leave n fk ft).1) true) (gP (x:=.cells zz true) e2) (show g2.length≠h.length+2 by omega)) (show h.length≠h.length+2 by omega)
  have kp:=play_keep (h:=h) (g:=g2) (R2:=rT σ' (t.leave n fk ft).1) (by omega)
  have F1:=EfV.kp (EfV.kp E1 N.grow fun q e=>e.elim) kp (fun q e=>by omega)
  have F2:=EfR.kp E2 kp (fun q e=>by omega)
  have lf:(t.leave n fk ft).2.1.length<=1000000:=by have:=run_len t ⟨k,n,y,fk,ft⟩;simp only[TS.run,if_neg k0,if_neg k1,if_neg k2,if_pos k3] at this;omega
  obtain⟨g3,r3,K4⟩:=sameEf_run lf (EfV.sl F1) (EfR.sl F2)
  have hb3:=K4.get hb2
  have hc3:=K4.get hc2
  have kp2:=(kp.trans (Keep.mono (fp:=fun _=>False) K4 fun _ _ e=>e.elim)).trans (Keep.set (fp:=fun q=>q=h.length\/q=h.length+2) (i:=h.length+2) (.inr rfl) (.cells (rT σ' (t.leave n fk ft).1) true))
  obtain⟨P1,P2⟩:=play_fin S K3 l3 A1 St N kp2
  rw[hH3] at r1 b1
  exact⟨ρ,σ',r,_,pvF 0 Try.func38 (q20p.pl_leave (sA (σ .ts)) (sA (σ .ss)) (sA (σ .lf)) t.tks.length t.scs.length t.tks.length (sZ (σ .ts) 6) (sZ (σ .ss) 6) (sZ (σ .lf) 2) (sA (σ' .ts)) (sA (σ' .ss)) (sA (σ' .lf)) (t.leave n fk ft).1.tks.length (t.leave n fk ft).1.scs.length (t.leave n fk ft).1.tks.length (sZ (σ' .ts) 6) (sZ (σ' .ss) 6) (sZ (σ' .lf) 2) r 0 h.length (h.length+1) (h.length+2) g2.length k n 0 (t.leave n fk ft).2.2 fk y ft v v2 h g1 g2 g3)
   ⟨rfl,pL _ _,l2,aL b1 rfl,eqF k0,eqF k1,eqF k2,eqT k3,aL b1 rfl,aN b1 (by simp) rfl,r1,aN d0 (by simp[rT]) rfl,aL d1 rfl,aN d1 (by simp) rfl,r2,rfl,a_st hd (by simp[rT]) rfl,aN hd1 (by simp[rT]) rfl,a_st hb (by simp[rT]) rfl,r3,eqT rfl,stat38,reflT,aN hb3 (by simp[rT]) rfl,a_st hc3 (by simp[rT]) rfl,aN (gE hc3) (by simp[rT]) rfl,trivial⟩,P1,P2⟩
 by_cases k4:k=4
 ·obtain⟨ρ',g1,r1,A1,St⟩:=shield_run a0 ok (by omega) S.root n
  obtain⟨σ',g2,r2,N⟩:=shieldR_run (ref1 St) ok (by omega) hne n
  have es:(t.run ⟨k,n,y,fk,ft⟩).1=(t.shield n).1:=by simp only[TS.run,if_neg k0,if_neg k1,if_neg k2,if_neg k3,if_pos k4]
  rw[es]
  obtain⟨d0,d1,d2⟩:=bx1 St
  have gl1:=St.keep.1
  have gl2:=N.grow.1
  have e0:=N.grow.get d0
  have e1:=N.grow.get d1
  have e2:=N.grow.get d2
  have hd:=gW g2 (.cells zz true)
  have hd1:=gE (x:=.cells (rT σ' (t.shield n).1) true) hd
  have hb:=gNq (x:=.cells (rT σ' (t.shield n).1) true) (gP (x:=.cells zz true) e0) (show g2.length≠h.length by omega)
  have hb2:=gE (x:=.cells (rT σ' (t.shield n).1) true) hb
  have hc2:=gNq (x:=.cells (rT σ' (t.shield n).1) true) (gNq (x:=.cells (rT σ' (t.shield n).1) true) (gP (x:=.cells zz true) e2) (show g2.length≠h.length+2 by omega)) (show h.length≠h.length+2 by omega)
  have kp:=play_keep (h:=h) (g:=g2) (R2:=rT σ' (t.shield n).1) (by omega)
  have kp2:=kp.trans (Keep.set (fp:=fun q=>q=h.length\/q=h.length+2) (i:=h.length+2) (.inr rfl) (.cells (rT σ' (t.shield n).1) true))
  obtain⟨P1,P2⟩:=play_fin S K3 l3 A1 St N kp2
  rw[hH3] at r1 b1
  exact⟨ρ',σ',r,_,pvF 0 Try.func38 (q20p.pl_shield (sA (σ .ts)) (sA (σ .ss)) (sA (σ .lf)) t.tks.length t.scs.length t.tks.length (sZ (σ .ts) 6) (sZ (σ .ss) 6) (sZ (σ .lf) 2) (sA (σ' .ts)) (sA (σ' .ss)) (sA (σ' .lf)) (t.shield n).1.tks.length (t.shield n).1.scs.length (t.shield n).1.tks.length (sZ (σ' .ts) 6) (sZ (σ' .ss) 6) (sZ (σ' .lf) 2) r 0 h.length (h.length+1) (h.length+2) g2.length k n 0 (t.shield n).2 fk y ft .nilFunc .nilFunc h g1 g2 g2)
   ⟨rfl,pL _ _,l2,aL b1 rfl,eqF k0,eqF k1,eqF k2,eqF k3,eqT k4,aL b1 rfl,r1,aN d0 (by simp[rT]) rfl,aL d1 rfl,r2,rfl,a_st hd (by simp[rT]) rfl,aN hd1 (by simp[rT]) rfl,a_st hb (by simp[rT]) rfl,eqT rfl,stat38,reflT,aN hb2 (by simp[rT]) rfl,a_st hc2 (by simp[rT]) rfl,aN (gE hc2) (by simp[rT]) rfl,trivial⟩,P1,P2⟩
 by_cases k5:k=5
 ·obtain⟨ρ',g1,r1,A1,St⟩:=unveil_run a0 ok (by omega) S.root n
  obtain⟨σ',g2,r2,N⟩:=unveilR_run (ref1 St) ok (by omega) hne n
  have es:(t.run ⟨k,n,y,fk,ft⟩).1=(t.unveil n).1:=by simp only[TS.run,if_neg k0,if_neg k1,if_neg k2,if_neg k3,if_neg k4,if_pos k5]
  rw[es]
  obtain⟨d0,d1,d2⟩:=bx1 St
  have gl1:=St.keep.1
  have gl2:=N.grow.1
  have e0:=N.grow.get d0
  have e1:=N.grow.get d1
  have e2:=N.grow.get d2
  have hd:=gW g2 (.cells zz true)
  have hd1:=gE (x:=.cells (rT σ' (t.unveil n).1) true) hd
  have hb:=gNq (x:=.cells (rT σ' (t.unveil n).1) true) (gP (x:=.cells zz true) e0) (show g2.length≠h.length by omega)
  have hb2:=gE (x:=.cells (rT σ' (t.unveil n).1) true) hb
  have hc2:=gNq (x:=.cells (rT σ' (t.unveil n).1) true) (gNq (x:=.cells (rT σ' (t.unveil n).1) true) (gP (x:=.cells zz true) e2) (show g2.length≠h.length+2 by omega)) (show h.length≠h.length+2 by omega)
  have kp:=play_keep (h:=h) (g:=g2) (R2:=rT σ' (t.unveil n).1) (by omega)
  have kp2:=kp.trans (Keep.set (fp:=fun q=>q=h.length\/q=h.length+2) (i:=h.length+2) (.inr rfl) (.cells (rT σ' (t.unveil n).1) true))
  obtain⟨P1,P2⟩:=play_fin S K3 l3 A1 St N kp2
  rw[hH3] at r1 b1
  exact⟨ρ',σ',r,_,pvF 0 Try.func38 (q20p.pl_unveil (sA (σ .ts)) (sA (σ .ss)) (sA (σ .lf)) t.tks.length t.scs.length t.tks.length (sZ (σ .ts) 6) (sZ (σ .ss) 6) (sZ (σ .lf) 2) (sA (σ' .ts)) (sA (σ' .ss)) (sA (σ' .lf)) (t.unveil n).1.tks.length (t.unveil n).1.scs.length (t.unveil n).1.tks.length (sZ (σ' .ts) 6) (sZ (σ' .ss) 6) (sZ (σ' .lf) 2) r 0 h.length (h.length+1) (h.length+2) g2.length k n 0 (t.unveil n).2 fk y ft .nilFunc .nilFunc h g1 g2 g2)
   ⟨rfl,pL _ _,l2,aL b1 rfl,eqF k0,eqF k1,eqF k2,eqF k3,eqF k4,eqT k5,aL b1 rfl,r1,aN d0 (by simp[rT]) rfl,aL d1 rfl,r2,rfl,a_st hd (by simp[rT]) rfl,aN hd1 (by simp[rT]) rfl,a_st hb (by simp[rT]) rfl,eqT rfl,stat38,reflT,aN hb2 (by simp[rT]) rfl,a_st hc2 (by simp[rT]) rfl,aN (gE hc2) (by simp[rT]) rfl,trivial⟩,P1,P2⟩
 by_cases k6:k=6
 ·obtain⟨v,g1,r1,A1,St,E1⟩:=fail_run a0 ok (by omega) S.root n fk ft
  obtain⟨σ',g2,v2,r2,N,E2⟩:=failR_run (ref1 St) ok (by omega) hne n fk ft
  have es:(t.run ⟨k,n,y,fk,ft⟩).1=(t.fail n fk ft).1:=by simp only[TS.run,if_neg k0,if_neg k1,if_neg k2,if_neg k3,if_neg k4,if_neg k5,if_pos k6]
  rw[es]
  obtain⟨d0,d1,d2⟩:=bx1 St
  have gl1:=St.keep.1
  have gl2:=N.grow.1
  have e0:=N.grow.get d0
  have e1:=N.grow.get d1
  have e2:=N.grow.get d2
  have hd:=gW g2 (.cells zz true)
  have hd1:=gE (x:=.cells (rT σ' (t.fail n fk ft).1) true) hd
  have hb:=gNq (x:=.cells (rT σ' (t.fail n fk ft).1) true) (gP (x:=.cells zz true) e0) (show g2.length≠h.length by omega)
  have hb2:=gE (x:=.cells (rT σ' (t.fail n fk ft).1) true) hb
  have hc2:=gNq (x:=.cells (rT σ' (t.fail n fk ft).1) true) (gNq (x:=.cells (rT σ' (t.fail n fk ft).1) true) (gP (x:=.cells zz true) e2) (show g2.length≠h.length+2 by omega)) (show h.length≠h.length+2 by omega)
  have kp:=play_keep (h:=h) (g:=g2) (R2:=rT σ' (t.fail n fk ft).1) (by omega)
  have F1:=EfV.kp (EfV.kp E1 N.grow fun q e=>e.elim) kp (fun q e=>by omega)
  have F2:=EfR.kp E2 kp (fun q e=>by omega)
  have lf:(t.fail n fk ft).2.1.length<=1000000:=by have:=run_len t ⟨k,n,y,fk,ft⟩;simp only[TS.run,if_neg k0,if_neg k1,if_neg k2,if_neg k3,if_neg k4,if_neg k5,if_pos k6] at this;omega
  obtain⟨g3,r3,K4⟩:=sameEf_run lf (EfV.sl F1) (EfR.sl F2)
  have hb3:=K4.get hb2
  have hc3:=K4.get hc2
  have kp2:=(kp.trans (Keep.mono (fp:=fun _=>False) K4 fun _ _ e=>e.elim)).trans (Keep.set (fp:=fun q=>q=h.length\/q=h.length+2) (i:=h.length+2) (.inr rfl) (.cells (rT σ' (t.fail n fk ft).1) true))
  obtain⟨P1,P2⟩:=play_fin S K3 l3 A1 St N kp2
  rw[hH3] at r1 b1
  exact⟨ρ,σ',r,_,pvF 0 Try.func38 (q20p.pl_fail (sA (σ .ts)) (sA (σ .ss)) (sA (σ .lf)) t.tks.length t.scs.length t.tks.length (sZ (σ .ts) 6) (sZ (σ .ss) 6) (sZ (σ .lf) 2) (sA (σ' .ts)) (sA (σ' .ss)) (sA (σ' .lf)) (t.fail n fk ft).1.tks.length (t.fail n fk ft).1.scs.length (t.fail n fk ft).1.tks.length (sZ (σ' .ts) 6) (sZ (σ' .ss) 6) (sZ (σ' .lf) 2) r 0 h.length (h.length+1) (h.length+2) g2.length k n 0 (t.fail n fk ft).2.2 fk y ft v v2 h g1 g2 g3)
   ⟨rfl,pL _ _,l2,aL b1 rfl,eqF k0,eqF k1,eqF k2,eqF k3,eqF k4,eqF k5,eqT k6,aL b1 rfl,aN b1 (by simp) rfl,r1,aN d0 (by simp[rT]) rfl,aL d1 rfl,aN d1 (by simp) rfl,r2,rfl,a_st hd (by simp[rT]) rfl,aN hd1 (by simp[rT]) rfl,a_st hb (by simp[rT]) rfl,r3,eqT rfl,stat38,reflT,aN hb3 (by simp[rT]) rfl,a_st hc3 (by simp[rT]) rfl,aN (gE hc3) (by simp[rT]) rfl,trivial⟩,P1,P2⟩
 by_cases k7:k=7
 ·obtain⟨ρ',g1,r1,A1,St⟩:=root_run a0 ok (by omega) S.root
  obtain⟨σ',g2,r2,N⟩:=rootR_run (ref1 St) ok (by omega) hne
  have es:(t.run ⟨k,n,y,fk,ft⟩).1=(t.root).1:=by simp only[TS.run,if_neg k0,if_neg k1,if_neg k2,if_neg k3,if_neg k4,if_neg k5,if_neg k6,if_pos k7]
  rw[es]
  obtain⟨d0,d1,d2⟩:=bx1 St
  have gl1:=St.keep.1
  have gl2:=N.grow.1
  have e0:=N.grow.get d0
  have e1:=N.grow.get d1
  have e2:=N.grow.get d2
  have hd:=gW g2 (.cells zz true)
  have hd1:=gE (x:=.cells (rT σ' (t.root).1) true) hd
  have hb:=gNq (x:=.cells (rT σ' (t.root).1) true) (gP (x:=.cells zz true) e0) (show g2.length≠h.length by omega)
  have hb2:=gE (x:=.cells (rT σ' (t.root).1) true) hb
  have hc2:=gNq (x:=.cells (rT σ' (t.root).1) true) (gNq (x:=.cells (rT σ' (t.root).1) true) (gP (x:=.cells zz true) e2) (show g2.length≠h.length+2 by omega)) (show h.length≠h.length+2 by omega)
  have kp:=play_keep (h:=h) (g:=g2) (R2:=rT σ' (t.root).1) (by omega)
  have kp2:=kp.trans (Keep.set (fp:=fun q=>q=h.length\/q=h.length+2) (i:=h.length+2) (.inr rfl) (.cells (rT σ' (t.root).1) true))
  obtain⟨P1,P2⟩:=play_fin S K3 l3 A1 St N kp2
  rw[hH3] at r1 b1
  exact⟨ρ',σ',r,_,pvF 0 Try.func38 (q20p.pl_root (sA (σ .ts)) (sA (σ .ss)) (sA (σ .lf)) t.tks.length t.scs.length t.tks.length (sZ (σ .ts) 6) (sZ (σ .ss) 6) (sZ (σ .lf) 2) (sA (σ' .ts)) (sA (σ' .ss)) (sA (σ' .lf)) (t.root).1.tks.length (t.root).1.scs.length (t.root).1.tks.length (sZ (σ' .ts) 6) (sZ (σ' .ss) 6) (sZ (σ' .lf) 2) r 0 h.length (h.length+1) (h.length+2) g2.length k n (t.root).2.1 (t.root).2.2 fk y ft .nilFunc .nilFunc h g1 g2 g2)
   ⟨rfl,pL _ _,l2,aL b1 rfl,eqF k0,eqF k1,eqF k2,eqF k3,eqF k4,eqF k5,eqF k6,eqT k7,r1,aN d0 (by simp[rT]) rfl,r2,rfl,a_st hd (by simp[rT]) rfl,aN hd1 (by simp[rT]) rfl,a_st hb (by simp[rT]) rfl,eqT rfl,eqT rfl,stat38,reflT,aN hb2 (by simp[rT]) rfl,a_st hc2 (by simp[rT]) rfl,aN (gE hc2) (by simp[rT]) rfl,trivial⟩,P1,P2⟩
 obtain⟨r2,ρ',g1,r1,A1,M⟩:=copy_run a0 ok (by omega) S.root
 have es:(t.run ⟨k,n,y,fk,ft⟩).1=t:=by simp only[TS.run,if_neg k0,if_neg k1,if_neg k2,if_neg k3,if_neg k4,if_neg k5,if_neg k6,if_neg k7]
 rw[es]
 have gl1:=M.keep.1
 have d0:=M.keep.2 _ _ b0 id
 have d2:=M.keep.2 _ _ b2 id
 have rg:RAt g1 σ t:=S.ref.grow (Grow.trans K3 M.keep)
 have ltR:∀ q,fpR σ q->q<h.length:=fun q e=>S.ref.fpLt e
 have n2:¬ fpT ρ' (h.length+2):=fun e=>by have:=M.new _ e;omega
 have m2:¬ fpR σ (h.length+2):=fun e=>by have:=ltR _ e;omega
 have kc:Keep (fun q=>q=h.length+2) g1 (g1.set (h.length+2) (.cells (rT σ t) true)):=Keep.set (fp:=fun q=>q=h.length+2) rfl _
 have P1:PS (g1.set (h.length+2) (.cells (rT σ t) true)) ρ' σ t r2:=⟨A1.keep kc fun q e=>by rw[e];exact n2,rg.keep kc fun q e=>by rw[e];exact m2,M.root,fun q e f=>by have:=M.new _ e;have:=ltR _ f;omega⟩
 have P2:PK h ρ σ (g1.set (h.length+2) (.cells (rT σ t) true)) ρ' σ:=⟨⟨by rw[sN];omega,fun q ob hq hn=>kc.2 _ _ (M.keep.2 _ _ (K3.get hq) id) (by have:=get_lt hq;omega)⟩,fun q e=>by
  rcases e with e | e
  ·exact .inr (by have:=M.new _ e;omega)
  ·exact .inl (.inr e)⟩
 rw[hH3] at r1 b1
 exact⟨ρ',σ,r2,_,pvF 0 Try.func38 (q20p.pl_copy (sA (σ .ts)) (sA (σ .ss)) (sA (σ .lf)) t.tks.length t.scs.length t.tks.length (sZ (σ .ts) 6) (sZ (σ .ss) 6) (sZ (σ .lf) 2) none none none 0 0 0 0 0 0 r r2 h.length (h.length+1) (h.length+2) 0 k n 0 0 fk y ft .nilFunc .nilFunc h g1 g1 g1)
  ⟨rfl,pL _ _,l2,aL b1 rfl,eqF k0,eqF k1,eqF k2,eqF k3,eqF k4,eqF k5,eqF k6,eqF k7,r1,stat38,reflT,aN d0 (by simp[rT]) rfl,a_st d2 (by simp[rT]) rfl,aN (gE d2) (by simp[rT]) rfl,trivial⟩,P1,P2⟩
end
end Go.Proofs.Ytahomnlkkafbjaa.rf
namespace Go.Proofs.Ytahomnlkkafbjaa.rf
open Go Go.Ev Go.Proofs.Ytahomnlkkafbjaa.tr
theorem mk_cells(zs:Array Value)(hz:0<zs.size)(m:Nat):((Array.range (m*zs.size)).map (zs[·%zs.size]!)).toList=(List.replicate m zs.toList).flatten:=by
 rw[Array.toList_map,Array.toList_range]
 induction m with
 | zero=>simp
 | succ m ih =>
  rw[Nat.succ_mul,List.range_add,List.map_append,ih,List.replicate_succ',List.flatten_append]
  congr 1
  simp only[List.flatten_cons,List.flatten_nil,List.append_nil,List.map_map]
  apply List.ext_getElem?
  intro i
  rw[List.getElem?_map]
  by_cases hi:i<zs.size
  ·rw[List.getElem?_range hi]
   simp[Nat.mod_eq_of_lt hi,hi]
  ·rw[List.getElem?_eq_none (by simpa using hi),List.getElem?_eq_none (by simpa using hi)]
   rfl
theorem fl_const{α:Type}{f:Nat->α->List Value}{x:α}{l:List Value}(h:∀ i,f i x=l):∀ (n i:Nat),fl f i (List.replicate n x)=(List.replicate n l).flatten
 | 0,_=>rfl
 | n+1,i=>by rw[List.replicate_succ,fl,fl_const h n,h,List.replicate_succ,List.flatten_cons]
abbrev zT:Value:=.agg #[iV 0,.bool false,.bool false,iV 0,.string ⟨#[]⟩,.slice none 0 0]
abbrev zF:Value:=.agg #[iV 0,.string ⟨#[]⟩]
theorem mks_of{t e:TypeId}{z:Value}{cs:Array Value}(hu:Try.prog.underlying t=some (.slice e))(hz:(Try.prog.info? e).bind (fun i=>i.zero)=some z)(hs:(Try.prog.info? e).map (fun i=>i.size)=some cs.size)(hb:(Try.prog.info? e).map (fun i=>Nat.ble i.bytes 1000)=some true)
  (hg:ground z=true) (hc:z.cells=cs) (hp:0<cs.size) {n:Nat} (hn:n<=64) (g:Hp):evMakeSlice Try.prog g t (n:Int) (n:Int)=some (.slice (some ⟨g.length,0,none⟩) n cs.size,g++[.cells (List.replicate n cs.toList).flatten true]):=by
 cases hi:Try.prog.info? e with
 | none=>rw[hi] at hz;cases hz
 | some inf =>
  rw[hi] at hz hs hb
  simp only[Option.bind_some,Option.map_some,Option.some.injEq] at hz hs hb
  have hb':inf.bytes<=1000:=by rw[Nat.ble_eq] at hb;exact hb
  have h1:Nat.ble 1 inf.size=true:=ble_t (by omega)
  have h2:Nat.ble n 16777216=true:=ble_t (by omega)
  have h3:Nat.ble (inf.bytes*n) 281474976710656=true:=ble_t (by have:=Nat.mul_le_mul hb' hn;omega)
  have h4:Nat.beq n n=true:=by simp
  show (match Try.prog.underlying t,Int.ofNat n,Int.ofNat n with
   | some (.slice e),.ofNat m,.ofNat m'=>_
   | _,_,_=>none)=_
  rw[hu]
  simp only[hi,h4,hz,hg,h1,h2,h3,hc,hs]
  simp only[ble_t hp]
  rw[mk_cells cs hp]
section
variable {h h' g G:Hp} {σ σ':RLay} {ρ:Lay} {t t':TS} {c k s r:Nat}
theorem stat36:(Asm.stat (drawN Try.f36 0)).holds Try.prog:=show statOk (drawN Try.f36 0)=true by kernel_rfl
theorem newR_bad{n:Int}(h:Hp)(hn:n<1\/64<n):∃ h',Run Try.prog 36 [iV n] h (.tuple #[.agg zz.toArray,iV 2]) h'/\Grow h h':=by
 have b:=gW h (.cells zz true)
 by_cases h1:n<1
 ·exact⟨_,pvF 0 Try.func36 (q18p.nw_lo h.length n .nilFunc .nilFunc [] [] h) ⟨rfl,ltT h1,a_st b (by simp) rfl,aN (gE b) (by simp) rfl,trivial⟩,Grow.set (Grow.push (Grow.refl _) _) (Nat.le_refl _) _⟩
 ·exact⟨_,pvF 0 Try.func36 (q18p.nw_hi h.length n .nilFunc .nilFunc [] [] h) ⟨rfl,ltF (by omega),gtT (by omega),a_st b (by simp) rfl,aN (gE b) (by simp) rfl,trivial⟩,Grow.set (Grow.push (Grow.refl _) _) (Nat.le_refl _) _⟩
theorem newR_run{n:Nat}(h:Hp)(h1:1<=n)(hn:n<=64):∃ σ h',Run Try.prog 36 [iV (n:Int)] h (.tuple #[.agg (rT σ (TS.roots n)).toArray,iV 0]) h'/\RAt h' σ (TS.roots n)/\Grow h h'/\New h.length σ:=by
 obtain⟨σ,hσ⟩:∃ σ:RLay,σ=fun r=>match r with | .ts=>some (h.length+1) | .lf=>some (h.length+2) | _=>none:=⟨_,rfl⟩
 have s1:σ .ts=some (h.length+1):=by rw[hσ]
 have s2:σ .lf=some (h.length+2):=by rw[hσ]
 have s3:σ .ss=none:=by rw[hσ]
 have s4:∀ k,σ (.op k)=none:=fun k=>by rw[hσ]
 have s5:∀ k,σ (.st k)=none:=fun k=>by rw[hσ]
 have ct:fl (rk σ) 0 (TS.roots n).tks=(List.replicate n [iV 0,.bool false,.bool false,iV 0,.string ⟨#[]⟩,.slice none 0 0]).flatten:=fl_const (fun i=>by simp only[rk,s4];rfl) n 0
 have cl:fl rl 0 (TS.roots n).tks=(List.replicate n [iV 0,.string ⟨#[]⟩]).flatten:=fl_const (fun i=>rfl) n 0
 have M1:=mks_of (t:=76) (e:=35) (z:=zT) (cs:=#[iV 0,.bool false,.bool false,iV 0,.string ⟨#[]⟩,.slice none 0 0]) (by kernel_rfl) (by kernel_rfl) (by kernel_rfl) (by kernel_rfl) (by kernel_rfl) (by kernel_rfl) (by simp) hn (h++[AObj.cells zz true])
 have M2:=mks_of (t:=28) (e:=30) (z:=zF) (cs:=#[iV 0,.string ⟨#[]⟩]) (by kernel_rfl) (by kernel_rfl) (by kernel_rfl) (by kernel_rfl) (by kernel_rfl) (by kernel_rfl) (by simp) hn (h++[AObj.cells zz true]++[AObj.cells (fl (rk σ) 0 (TS.roots n).tks) true])
 simp only at M1 M2
 rw[<- ct] at M1
 rw[<- cl] at M2
 have l1:(h++[AObj.cells zz true]).length=h.length+1:=pL _ _
 have l2:(h++[AObj.cells zz true]++[AObj.cells (fl (rk σ) 0 (TS.roots n).tks) true]).length=h.length+2:=by simp
 rw[l1] at M1
 rw[l2] at M2
 have hb:(h++[AObj.cells zz true]++[AObj.cells (fl (rk σ) 0 (TS.roots n).tks) true]++[AObj.cells (fl rl 0 (TS.roots n).tks) true])[h.length]?=some (.cells zz true):=gP (gP (gW _ _))
 have hR:rT σ (TS.roots n)=[.slice (some ⟨h.length+1,0,none⟩) n 6,.slice none 0 0,.slice (some ⟨h.length+2,0,none⟩) n 2]:=by
  rw[rT,s1,s2,s3,roots_len];rfl
 obtain⟨R,hRR⟩:∃ R,R=rT σ (TS.roots n):=⟨_,rfl⟩
 have val:∀ r i,σ r=some i->(r=.ts/\i=h.length+1)\/(r=.lf/\i=h.length+2):=fun r i e=>by
  cases r with
  | ts=>rw[s1] at e;cases e;exact .inl ⟨rfl,rfl⟩
  | lf=>rw[s2] at e;cases e;exact .inr ⟨rfl,rfl⟩
  | ss=>rw[s3] at e;cases e
  | op k=>rw[s4] at e;cases e
  | st k=>rw[s5] at e;cases e
 have at_:RAt (h++[AObj.cells zz true]++[AObj.cells (fl (rk σ) 0 (TS.roots n).tks) true]++[AObj.cells (fl rl 0 (TS.roots n).tks) true]) σ (TS.roots n):=by
  refine⟨⟨fun e=>(by rw[s1] at e;cases e),fun _=>rfl,fun e=>(by rw[s2] at e;cases e),fun k x hx _=>?_,fun k y hy=>(by cases hy),fun k _=>s4 k,fun k _=>s5 k⟩,fun r r' i e e'=>?_,fun r i e=>?_⟩
  ·have:=List.eq_of_mem_replicate (List.mem_of_getElem? hx)
   rw[this];rfl
  ·rcases val r i e with⟨a1,a2⟩ | ⟨a1,a2⟩<;>rcases val r' i e' with⟨b1,b2⟩ | ⟨b1,b2⟩
   ·rw[a1,b1]
   ·omega
   ·omega
   ·rw[a1,b1]
  ·cases r with
   | ts=>rw[s1] at e;cases e;exact⟨[],by rw[List.append_nil];exact gP (gV _ l1)⟩
   | lf=>rw[s2] at e;cases e;exact⟨[],by rw[List.append_nil];exact gV _ l2⟩
   | ss=>rw[s3] at e;cases e
   | op k=>rw[s4] at e;cases e
   | st k=>rw[s5] at e;cases e
 have new:New h.length σ:=fun r i e=>by
  rcases val r i e with⟨_,a2⟩ | ⟨_,a2⟩<;>omega
 refine⟨σ,(h++[AObj.cells zz true]++[AObj.cells (fl (rk σ) 0 (TS.roots n).tks) true]++[AObj.cells (fl rl 0 (TS.roots n).tks) true]).set h.length (.cells R true),?_,at_.setN (fun⟨r,e⟩=>by rcases val r _ e with⟨_,a2⟩ | ⟨_,a2⟩<;>omega) _,Grow.set (Grow.push (Grow.push (Grow.push (Grow.refl _) _) _) _) (Nat.le_refl _) _,new⟩
 rw[hR] at hRR ⊢
 subst hRR
 exact pvF 0 Try.func36 (q18p.nw_go h.length (h.length+1) (h.length+2) n (n:Int) (fl (rk σ) 0 (TS.roots n).tks) (fl rl 0 (TS.roots n).tks) h)
  ⟨rfl,ltF (by omega),gtF (by omega),stat36,M1,M2,a_st hb (by simp) rfl,aN (gE hb) (by simp) rfl,trivial⟩
end
end Go.Proofs.Ytahomnlkkafbjaa.rf
namespace Go.Proofs.Ytahomnlkkafbjaa.q22p
open Go Go.Ev
theorem law_err(a1 a2 a3:OA)(n1 n2 n3 z1 z2 z3:Nat)(r d:Nat)(nn e:Int)(vl:V)(g g1 g2 g3:Hp) :
  let Z1:V:=.tuple #[.pointer none,iV e]
  let Z2:V:=.agg #[.slice a1 n1 z1,.slice a2 n2 z2,.slice a3 n3 z3]
  let Z3:LV:=[.slice a1 n1 z1,.slice a2 n2 z2,.slice a3 n3 z3]
  let Z4:SH:=.push g2 (cS [nS,nS,nS])
  PF Try.f10 [iV nn,vl] g [.ret Z1 g1,.ret (.tuple #[Z2,iV e]) g2,.idx d,.cells Z3,.bit false,.bit true,.bit true,.ret bT g3] =
  some (bT,.is g3,[],[.call 11 [iV nn] g Z1 g1,.call 36 [iV nn] g1 (.tuple #[Z2,iV e]) g2,.len g2 d,.st Z4 d 0 Z3 Z3,.cmp .neq e e false,.cmp .neq e 0 true,.cmp .eql e e true,.call 12 [] (.set Z4 d (cS Z3)) bT g3]):=by intros;kernel_rfl
theorem law_nil(a1 a2 a3:OA)(n1 n2 n3 z1 z2 z3:Nat)(r d o len p:Nat)(nn:Int)(E1:Env)(g g1 g2 g3 g4 g5:Hp) :
  let Z1:=pT r 0
  let Z2:V:=.tuple #[Z1,iV 0]
  let Z3:V:=.agg #[.slice a1 n1 z1,.slice a2 n2 z2,.slice a3 n3 z3]
  let Z4:LV:=[.slice a1 n1 z1,.slice a2 n2 z2,.slice a3 n3 z3]
  let Z5:V:=.tuple #[Z3,iV 0]
  let Z6:SH:=.push g2 (cS [nS,nS,nS])
  let Z7:SH:=.set Z6 d (cS Z4)
  PF Try.f10 [iV nn,nS] g [.ret Z2 g1,.ret (.tuple #[Z3,iV 0]) g2,.idx d,.cells Z4,.bit false,.bit false,.cells Z4,.ret bT g3,.num 0,.loop (.exit 0) E1 g4,.ret bT g5] =
  some (bT,.is g5,[],[.call 11 [iV nn] g Z2 g1,.call 36 [iV nn] g1 Z5 g2,.len g2 d,.st Z6 d 0 Z4 Z4,.cmp .neq 0 0 false,.cmp .neq 0 0 false,.ldn Z7 d 0 3 Z4,.call 37 [Z1,Z3] Z7 bT g3,.mm false 0 80 0,.loop 75 false (loopN Try.f10 0) [(51,iV 0),(50,iV 0),(49,nS),(48,iV 0),(47,iV 0),(46,nS),(45,nS),(44,bF),(43,bT),(42,Z3),(41,Z1),(30,bF),(29,bF),(28,iV 0),(27,bF),(26,bF),(25,iV 0),(24,iV 0),(8,iV 0),(7,pT d 0),(23,iV 0),(22,Z3),(19,Z5),(21,Z5),(20,iV nn),(6,iV 0),(5,Z1),(18,iV 0),(17,Z1),(14,Z2),(16,Z2),(15,iV nn),(4,bF),(0,iV nn),(1,nS)] g3 (.exit 0) E1 g4,.call 12 [] g4 bT g5]):=by intros;kernel_rfl
theorem law_go(a1 a2 a3:OA)(n1 n2 n3 z1 z2 z3:Nat)(r d o len p:Nat)(nn:Int)(E1:Env)(g g1 g2 g3 g4 g5:Hp) :
  let Z1:=sL o len 5
  let Z2:=pT r 0
  let Z3:V:=.tuple #[Z2,iV 0]
  let Z4:V:=.agg #[.slice a1 n1 z1,.slice a2 n2 z2,.slice a3 n3 z3]
  let Z5:LV:=[.slice a1 n1 z1,.slice a2 n2 z2,.slice a3 n3 z3]
  let Z6:V:=.tuple #[Z4,iV 0]
  let Z7:SH:=.push g2 (cS [nS,nS,nS])
  let Z8:SH:=.set Z7 d (cS Z5)
  PF Try.f10 [iV nn,Z1] g [.ret Z3 g1,.ret (.tuple #[Z4,iV 0]) g2,.idx d,.cells Z5,.bit false,.bit false,.cells Z5,.ret bT g3,.num (Int.ofNat p),.cut 0 p,.loop (.exit 0) E1 g4,.ret bT g5] =
  some (bT,.is g5,[],[.call 11 [iV nn] g Z3 g1,.call 36 [iV nn] g1 Z6 g2,.len g2 d,.st Z7 d 0 Z5 Z5,.cmp .neq 0 0 false,.cmp .neq 0 0 false,.ldn Z8 d 0 3 Z5,.call 37 [Z2,Z4] Z8 bT g3,.mm false (Int.ofNat len) 80 (Int.ofNat p),.cut none (some (iN p)) len 0 p,.loop 75 false (loopN Try.f10 0) [(51,iV 0),(50,iN p),(49,sL o p 5),(48,iN p),(47,iN len),(46,Z1),(45,Z1),(44,bF),(43,bT),(42,Z4),(41,Z2),(30,bF),(29,bF),(28,iV 0),(27,bF),(26,bF),(25,iV 0),(24,iV 0),(8,iV 0),(7,pT d 0),(23,iV 0),(22,Z4),(19,Z6),(21,Z6),(20,iV nn),(6,iV 0),(5,Z2),(18,iV 0),(17,Z2),(14,Z3),(16,Z3),(15,iV nn),(4,bF),(0,iV nn),(1,Z1)] g3 (.exit 0) E1 g4,.call 12 [] g4 bT g5]):=by intros;kernel_rfl
theorem lp_out(a1 a2 a3:OA)(n1 n2 n3 z1 z2 z3:Nat)(a1x a2x a3x:OA)(n1x n2x n3x z1x z2x z3x:Nat)(r r2 d d2 d3 o p q:Nat)(i i1 k n fk:Int)(y:Bool)(ft:ByteArray)(g g1 g2 g3:Hp) :
  PC 75 false (loopN Try.f10 0) [(51,iV i),(50,iN p)] g [.bit false] =
  some (.exit 0,[(52,bF),(51,iV i),(50,iN p)],.is g,[],[.cmp .lss i (Int.ofNat p) false]):=by intros;kernel_rfl
theorem lp_go(a1 a2 a3:OA)(n1 n2 n3 z1 z2 z3:Nat)(a1x a2x a3x:OA)(n1x n2x n3x z1x z2x z3x:Nat)(r r2 d d2 d3 o p q:Nat)(i i1 k n fk:Int)(y:Bool)(ft:ByteArray)(g g1 g2 g3:Hp) :
  let Z1:=pT r 0
  let Z2:LV:=[iV k,iV n,.bool y,iV fk,.string ft]
  let Z3:LV:=[.slice a1 n1 z1,.slice a2 n2 z2,.slice a3 n3 z3]
  let Z4:=pT r2 0
  let Z5:V:=.agg #[.slice a1x n1x z1x,.slice a2x n2x z2x,.slice a3x n3x z3x]
  let Z6:LV:=[.slice a1x n1x z1x,.slice a2x n2x z2x,.slice a3x n3x z3x]
  let Z7:V:=.tuple #[Z4,Z5,bT]
  let Z8:V:=.agg #[iV k,iV n,.bool y,iV fk,.string ft]
  let Z9:V:=.agg #[.slice a1 n1 z1,.slice a2 n2 z2,.slice a3 n3 z3]
  let Z10:AObj:=cS Z6
  let Z11:SH:=.push g (cS [iV 0,iV 0,bF,iV 0,.string eS])
  let Z12:SH:=.set Z11 d2 (cS Z2)
  let Z13:SH:=.push g2 (cS [nS,nS,nS])
  let Z14:SH:=.set Z13 d3 Z10
  cutP [51,5,13,11,12,10,50,49,7] (PC 75 false (loopN Try.f10 0) [(51,iV i),(50,iN p),(49,sL o p 5),(7,pT d 0),(5,Z1)] g [.bit true,.offs q,.cells Z2,.idx d2,.cells Z2,.cells Z3,.cells Z2,.ret (.tuple #[Z4,Z5,bT]) g2,.idx d3,.cells Z6,.cells Z6,.ret bT g3,.cells Z6,.cells Z6,.num i1]) =
  some (.normal,[(51,iV i1),(5,Z4),(13,bT),(11,Z4),(12,pT d3 0),(10,pT d2 0),(50,iN p),(49,sL o p 5),(7,pT d 0)],.set g3 d Z10,[],[.cmp .lss i (Int.ofNat p) true,.off q 0 i p 5,.ldn g o q 5 Z2,.len g d2,.st Z11 d2 0 Z2 Z2,.ldn Z12 d 0 3 Z3,.ldn Z12 d2 0 5 Z2,.call 38 [Z1,Z9,Z8] Z12 Z7 g2,.len g2 d3,.st Z13 d3 0 Z6 Z6,.ldn Z14 d3 0 3 Z6,.call 37 [Z4,Z5] Z14 bT g3,.ldn g3 d3 0 3 Z6,.st g3 d 0 Z6 Z6,.arith .add .i64 i 1 i1]):=by intros;kernel_rfl
end Go.Proofs.Ytahomnlkkafbjaa.q22p
namespace Go.Proofs.Ytahomnlkkafbjaa.rf
open Go Go.Ev Go.Proofs.Ytahomnlkkafbjaa.tr
section
variable {h h' g G:Hp} {σ σ':RLay} {ρ:Lay} {t t':TS} {c k s r:Nat}
theorem fin_tks(t:TS)(s:Nat):(t.fin s).1.tks.length=t.tks.length:=by
 unfold TS.fin
 split
 ·rfl
 ·split
  ·rfl
  ·split
   ·simp[TS.fin0,TS.upT,TS.upS]
   ·rfl
theorem blame_len(t:TS)(s:Nat)(fk:Int)(ft:ByteArray):(t.blame s fk ft).1.tks.length=t.tks.length:=by rw[blame_tks]
theorem add_len(t:TS)(inn:Option Nat):t.tks.length<=(t.add inn).tks.length:=by
 unfold TS.add
 split<;>simp[TS.newT,TS.upS]
theorem run_tks(t:TS)(o:OpV):t.tks.length<=(t.run o).1.tks.length:=by
 unfold TS.run
 split
 ·unfold TS.open
  repeat' split
  all_goals simp[TS.openF,TS.upT,TS.newS]
 ·split
  ·unfold TS.spawn
   repeat' split
   all_goals first | exact Nat.le_refl _ | exact add_len _ _
  ·split
   ·unfold TS.end
    repeat' split
    all_goals first | exact Nat.le_refl _ | (simp only[fin_tks];unfold TS.end3;split<;>simp[blame_len,TS.end2,TS.end1,TS.upT,TS.upS]) | simp[TS.end1,TS.upT]
   ·split
    ·unfold TS.leave
     repeat' split
     all_goals first | exact Nat.le_refl _ | simp[fin_tks,TS.leave1,TS.upT,blame_len]
    ·split
     ·unfold TS.shield
      repeat' split
      all_goals simp[TS.upT]
     ·split
      ·unfold TS.unveil
       repeat' split
       all_goals simp[TS.upT]
      ·split
       ·unfold TS.fail
        repeat' split
        all_goals first | exact Nat.le_refl _ | simp[blame_len]
       ·split
        ·unfold TS.root
         repeat' split
         all_goals first | exact Nat.le_refl _ | exact add_len _ _
        ·exact Nat.le_refl _
theorem runL_tks:∀ (l:List OpV) (t:TS),t.tks.length<=(t.runL l).tks.length
 | [],_=>Nat.le_refl _
 | o::l,t=>Nat.le_trans (run_tks t o) (runL_tks l (t.run o).1)
theorem plays_run{h:Hp}{ops:List OpV}{vl:Value}(n:Int)(hv:OpsAt h vl ops):∃ h',Run Try.prog 10 [iV n,vl] h (.bool true) h':=by
 by_cases hn:n<1\/64<n
 ·obtain⟨g2,r2,K2⟩:=newR_bad h hn
  have hd:=gW g2 (.cells zz true)
  exact⟨_,pvF 0 Try.func10 (q22p.law_err none none none 0 0 0 0 0 0 0 g2.length n 2 vl h h g2 _) ⟨new_low h hn,r2,rfl,a_st hd (by simp) rfl,neF rfl,neT (by omega),eqT rfl,awake_run _,trivial⟩⟩
 ·obtain⟨m,hm⟩:∃ m:Nat,n=m:=⟨n.toNat,by omega⟩
  subst hm
  obtain⟨r,ρ,h1,r1,A1,M1⟩:=new_run h (n:=m) (by omega) (by omega)
  obtain⟨σ,h2,r2,A2,K2,N2⟩:=newR_run h1 (n:=m) (by omega) (by omega)
  have hne0:0<(TS.roots m).tks.length:=by rw[roots_len];omega
  have okr:TOk 0 (TS.roots m):=by
   refine⟨by rw[roots_len];omega,Nat.zero_le _,fun k x s hx hi=>?_,fun k x s hx hm=>?_,fun k x hx=>?_,fun k y hy=>(by cases hy),fun k y j hy=>(by cases hy),fun k y hy=>(by cases hy),fun k y hy=>(by cases hy)⟩
   all_goals
    have e:=List.eq_of_mem_replicate (List.mem_of_getElem? hx)
    subst e
   ·cases hi
   ·cases hm
   ·exact Nat.le_refl _
  have hd:=gW h2 (.cells zz true)
  obtain⟨g,hg⟩:∃ g,g=(h2++[AObj.cells zz true]).set h2.length (.cells (rT σ (TS.roots m)) true):=⟨_,rfl⟩
  have Kg:Grow h2 g:=by rw[hg];exact Grow.set (Grow.push (Grow.refl _) _) (Nat.le_refl _) _
  have dg:g[h2.length]?=some (.cells (rT σ (TS.roots m)) true):=by rw[hg];exact gE hd
  have AT:TAt g ρ (TS.roots m):=A1.grow (Grow.trans K2 Kg)
  have AR:RAt g σ (TS.roots m):=A2.grow Kg
  have tlt:∀ q,fpT ρ q->q<h1.length:=fun q ⟨x,e⟩=>A1.lt e
  have PS0:PS g ρ σ (TS.roots m) r:=⟨AT,AR,M1.root,fun q e ⟨x,f⟩=>by have:=tlt q e;have:=N2 x q f;omega⟩
  obtain⟨g3,r3,K3⟩:=agree_run AT AR okr (by omega) (WI.roots m) (WJ.roots m) hne0 M1.root
  have PS3:PS g3 ρ σ (TS.roots m) r:=⟨AT.grow K3,AR.grow K3,M1.root,PS0.dis⟩
  have d3:=K3.get dg
  have KA:Grow h g3:=Grow.trans (Grow.trans (Grow.trans M1.keep K2) Kg) K3
  have dT:¬ fpT ρ h2.length:=fun e=>by have:=tlt _ e;have:=K2.1;omega
  have dR:¬ fpR σ h2.length:=fun⟨x,e⟩=>by have:=A2.lt e;omega
  have loop:∀ (o p:Nat) (rw':Bool),h[o]?=some (.cells (opC ops) rw')->p<=ops.length->p<=80->∃ E1 g4,LRun Try.prog 75 false (loopN Try.f10 0) [(51,iV ((0:Nat):Int)),(50,iV (Int.ofNat p)),(49,.slice (some ⟨o,0,none⟩) p 5),(7,ptr h2.length),(5,ptr r)] g3 (.exit 0) E1 g4:=fun o p rw' ho hp hp80=>by
   have hol:=get_lt ho
   have oT:¬ fpT ρ o:=fun e=>by have:=M1.new o e;omega
   have oR:¬ fpR σ o:=fun⟨x,e⟩=>by have:=N2 x o e;have:=M1.keep.1;omega
   have oc:=opC_len ops
   obtain⟨E1,g4,_,hl⟩:=for_loop (P:=Try.prog) (n:=75) (rd:=false) (b:=loopN Try.f10 0) (xo:=.exit 0) (by simp) (len:=p) (Q:=fun _ _=>True)
    (fun i E g=>∃ ρ σ r,EnvLe [(51,iV (i:Int)),(50,iV (Int.ofNat p)),(49,.slice (some ⟨o,0,none⟩) p 5),(7,ptr h2.length),(5,ptr r)] E/\PS g ρ σ ((TS.roots m).runL (ops.take i)) r/\g[h2.length]?=some (.cells (rT σ ((TS.roots m).runL (ops.take i))) true)/\g[o]?=some (.cells (opC ops) rw')/\(¬ fpT ρ o/\¬ fpR σ o)/\(¬ fpT ρ h2.length/\¬ fpR σ h2.length))
    (fun i E g hi ⟨ρ,σ,r,hE,S,hd,hoo,⟨n1,n2⟩,⟨n3,n4⟩⟩=>by
     obtain⟨x,hx⟩:∃ x,ops[i]?=some x:=⟨_,List.getElem?_eq_getElem (by omega)⟩
     obtain⟨t,ht⟩:∃ t,t=(TS.roots m).runL (ops.take i):=⟨_,rfl⟩
     have ok:TOk 80 t:=by rw[ht];exact (okr.runL (l:=ops.take i)).mono (by simp;omega)
     have W:WI none t:=by rw[ht];exact (WI.roots m).runL okr
     have J:WJ t:=by rw[ht];exact (WJ.roots m).runL okr
     have hne:0<t.tks.length:=by rw[ht];exact Nat.lt_of_lt_of_le hne0 (runL_tks _ _)
     have et:(TS.roots m).runL (ops.take (i+1))=(t.run x).1:=by rw[take_one hx,runL_app,<- ht,runL_one]
     rw[et]
     rw[<- ht] at S hd
     have ok':TOk 81 (t.run x).1:=ok.run
     have W':=W.run ok x
     have J':=J.run ok x
     have hne':0<(t.run x).1.tks.length:=Nat.lt_of_lt_of_le hne (run_tks t x)
     obtain⟨k,n,y,fk,ft⟩:=x
     have l0:=gW g (.cells [iV 0,iV 0,.bool false,iV 0,.string ⟨#[]⟩] true)
     obtain⟨ga,hga⟩:∃ ga,ga=(g++[AObj.cells [iV 0,iV 0,.bool false,iV 0,.string ⟨#[]⟩] true]).set g.length (.cells [iV k,iV n,.bool y,iV fk,.string ft] true):=⟨_,rfl⟩
     have Ka:Grow g ga:=by rw[hga];exact Grow.set (Grow.push (Grow.refl _) _) (Nat.le_refl _) _
     have la:ga[g.length]?=some (.cells [iV k,iV n,.bool y,iV fk,.string ft] true):=by rw[hga];exact gE l0
     have Sa:PS ga ρ σ t r:=⟨S.at_.grow Ka,S.ref.grow Ka,S.root,S.dis⟩
     obtain⟨ρ',σ',r',gb,rb,Sb,Pb⟩:=play_run Sa ok (by omega) W hne ⟨k,n,y,fk,ft⟩
     obtain⟨T,hT⟩:∃ T,T=rT σ' (t.run ⟨k,n,y,fk,ft⟩).1:=⟨_,rfl⟩
     have hdl:=get_lt hd
     have hol2:=get_lt hoo
     have kal:=Ka.1
     have notn:∀ q,q<g.length->¬ fpT ρ q->¬ fpR σ q->¬ fpT ρ' q/\¬ fpR σ' q:=fun q hq h1 h2=>⟨fun e=>by rcases Pb.new q (.inl e) with (e | e) | e;exact h1 e;exact h2 e;omega,fun e=>by rcases Pb.new q (.inr e) with (e | e) | e;exact h1 e;exact h2 e;omega⟩
     have db:=Pb.keep.2 _ _ (Ka.get hd) n3
     have ob:=Pb.keep.2 _ _ (Ka.get hoo) n1
     have gbl:=Pb.keep.1
     have h3:=gW gb (.cells zz true)
     obtain⟨gc,hgc⟩:∃ gc,gc=(gb++[AObj.cells zz true]).set gb.length (.cells (rT σ' (t.run ⟨k,n,y,fk,ft⟩).1) true):=⟨_,rfl⟩
     have Kc:Grow gb gc:=by rw[hgc];exact Grow.set (Grow.push (Grow.refl _) _) (Nat.le_refl _) _
     have c3:gc[gb.length]?=some (.cells (rT σ' (t.run ⟨k,n,y,fk,ft⟩).1) true):=by rw[hgc];exact gE h3
     obtain⟨gd,rd,Kd⟩:=agree_run (Sb.at_.grow Kc) (Sb.ref.grow Kc) ok' (by omega) W' J' hne' Sb.root
     have Kbd:=Grow.trans Kc Kd
     have dd:=Kbd.get db
     have od:=Kbd.get ob
     obtain⟨m1,m2⟩:=notn o hol2 n1 n2
     obtain⟨m3,m4⟩:=notn h2.length hdl n3 n4
     have fin:PS (gd.set h2.length (.cells (rT σ' (t.run ⟨k,n,y,fk,ft⟩).1) true)) ρ' σ' (t.run ⟨k,n,y,fk,ft⟩).1 r':=⟨(Sb.at_.grow Kbd).setN m3 _,RAtL.setN (Sb.ref.grow Kbd) m4 _,Sb.root,Sb.dis⟩
     have ne:h2.length≠o:=by have:=K2.1;have:=M1.keep.1;omega
     rw[hga] at la rb
     rw[hgc] at c3 rd
     have da:=Ka.get hd
     rw[hga] at da
     obtain⟨E2,q1,q2⟩:=pvK 0 hE (q22p.lp_go (sA (σ .ts)) (sA (σ .ss)) (sA (σ .lf)) t.tks.length t.scs.length t.tks.length (sZ (σ .ts) 6) (sZ (σ .ss) 6) (sZ (σ .lf) 2) (sA (σ' .ts)) (sA (σ' .ss)) (sA (σ' .lf)) (t.run ⟨k,n,y,fk,ft⟩).1.tks.length (t.run ⟨k,n,y,fk,ft⟩).1.scs.length (t.run ⟨k,n,y,fk,ft⟩).1.tks.length (sZ (σ' .ts) 6) (sZ (σ' .ss) 6) (sZ (σ' .lf) 2) r r' h2.length g.length gb.length o p (i*5) (i:Int) ((i+1:Nat):Int) k n fk y ft g g gb gd)
      ⟨ltT (by simp only[Int.ofNat_eq_natCast];omega),offI (q:=i) rfl hi (by omega),aN hoo (by omega) (opC_at hx),rfl,a_st l0 (by simp) rfl,aN da (by simp[rT]) rfl,aN la (by simp) rfl,rb,rfl,a_st h3 (by simp[rT]) rfl,aN c3 (by simp[rT]) rfl,rd,aN (Kd.get (by rw[hgc];exact c3)) (by simp[rT]) rfl,a_st dd (by simp[rT]) rfl,addI rfl (by omega) (by omega),trivial⟩
     exact⟨E2,_,⟨ρ',σ',r',tR q1,fin,gE dd,gNq od ne,⟨m1,m2⟩,⟨m3,m4⟩⟩,q2⟩)
    (fun E g ⟨ρ,σ,r,hE,_⟩=>by
     obtain⟨E2,q1,q2⟩:=pvC 0 (.add (.add (.nil _) (hE _ _ rfl)) (hE _ _ rfl)) (q22p.lp_out none none none 0 0 0 0 0 0 none none none 0 0 0 0 0 0 0 0 0 0 0 0 p 0 (p:Int) 0 0 0 0 false ⟨#[]⟩ g g g g) ⟨ltF (by simp),trivial⟩
     exact⟨E2,_,trivial,q2⟩)
    _ g3 ⟨ρ,σ,r,EnvLe.refl _,by rw[List.take_zero];exact PS3,by rw[List.take_zero];exact d3,KA.get ho,⟨oT,oR⟩,⟨dT,dR⟩⟩
   exact⟨E1,g4,hl⟩
  rw[hg] at r3 dg
  rcases hv with⟨rfl,rfl⟩ | ⟨o,rw',rfl,ho⟩
  ·obtain⟨E2,q1,q2⟩:=pvC 0 (EnvLe.refl [(51,iV ((0:Nat):Int)),(50,iV (Int.ofNat 0))]) (q22p.lp_out none none none 0 0 0 0 0 0 none none none 0 0 0 0 0 0 0 0 0 0 0 0 0 0 ((0:Nat):Int) 0 0 0 0 false ⟨#[]⟩ g3 g3 g3 g3) ⟨ltF (by simp),trivial⟩
   exact⟨_,pvF 0 Try.func10 (q22p.law_nil (sA (σ .ts)) (sA (σ .ss)) (sA (σ .lf)) (TS.roots m).tks.length (TS.roots m).scs.length (TS.roots m).tks.length (sZ (σ .ts) 6) (sZ (σ .ss) 6) (sZ (σ .lf) 2) r h2.length 0 0 0 (m:Int) E2 h h1 h2 g3 g3 g3)
    ⟨r1,r2,rfl,a_st hd (by simp[rT]) rfl,neF rfl,neF rfl,aN dg (by simp[rT]) rfl,r3,by simp[Asm.holds],a_loop (by kernel_rfl) (.add (.add (.nil _) rfl) rfl) (.refl _) (.last q2 (by simp)),awake_run _,trivial⟩⟩
  ·obtain⟨E2,g4,hl⟩:=loop o (min ops.length 80) rw' ho (by omega) (by omega)
   exact⟨_,pvF 0 Try.func10 (q22p.law_go (sA (σ .ts)) (sA (σ .ss)) (sA (σ .lf)) (TS.roots m).tks.length (TS.roots m).scs.length (TS.roots m).tks.length (sZ (σ .ts) 6) (sZ (σ .ss) 6) (sZ (σ .lf) 2) r h2.length o ops.length (min ops.length 80) (m:Int) E2 h h1 h2 g3 g4 g4)
    ⟨r1,r2,rfl,a_st hd (by simp[rT]) rfl,neF rfl,neF rfl,aN dg (by simp[rT]) rfl,r3,.inr ⟨rfl,by simp only[Int.ofNat_eq_natCast];split<;>omega⟩,a_cut (by omega),a_loop (by kernel_rfl) (.add (.add (.add (.add (.add (.nil _) rfl) rfl) rfl) rfl) rfl) (.refl _) hl,awake_run _,trivial⟩⟩
end
end Go.Proofs.Ytahomnlkkafbjaa.rf
