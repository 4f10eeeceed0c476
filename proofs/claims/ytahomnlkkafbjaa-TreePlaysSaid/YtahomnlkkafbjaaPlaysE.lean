import Derived.Test.YtahomnlkkafbjaaPlaysD
import Derived.Test.YtahomnlkkafbjaaProg
import Derived.KernelRfl
set_option linter.constructorNameAsVariable false
set_option linter.unusedVariables false
set_option maxRecDepth 100000
namespace Go.Proofs.Ytahomnlkkafbjaa.tr
open Go Go.Ev
theorem inP_ones(ρ:Lay)(l:List (Option Nat)):(l.map (inP ρ)).all Value.oneCell'=true:=by
 rw[List.all_eq_true]
 intro v hv
 obtain⟨x,_,rfl⟩:=List.mem_map.1 hv
 obtain⟨p,hp⟩:=inP_any ρ x
 rw[hp];rfl
theorem clone_nil(h:Hp):Run Try.prog 45 [.slice none 0 0] h (.slice none 0 0) h:=pvF 0 Try.func45 (r27p.cl_nil 0 0 0 0 [] h) trivial
theorem clone_run{h:Hp}{o n:Nat}{cs junk:List Value}(ho:h[o]?=some (.cells (cs++junk) true))(hn:cs.length=n)(h1:cs.all Value.oneCell'=true)(hb:n<=1000000) :
  ∃ d h',Run Try.prog 45 [.slice (some ⟨o,0,none⟩) n 1] h (.slice (some ⟨d,0,none⟩) n 1) h'/\Keep (fun _=>False) h h'/\h'[d]?=some (.cells cs true)/\h.length<=d:=by
 cases n with
 | zero =>
  have e:cs=[]:=List.length_eq_zero_iff.1 hn
  subst e
  exact⟨h.length,_,pvF 0 Try.func45 (r27p.cl_0 o 0 h.length 0 [] h) ⟨rfl,⟨rfl,_,cells_of (gP ho),Nat.zero_le _⟩,trivial⟩,(Keep.refl _ _).pushN _,gW _ _,Nat.le_refl _⟩
 | succ n =>
  have r:=pvF 0 Try.func45 (r27p.cl_1 o n h.length (h.length+1) cs h) ⟨rfl,⟨rfl,⟨_,cells_of (gP ho),by rw[List.length_append];omega,by rw[List.drop_zero,Nat.mul_one,show Nat.succ n=cs.length from hn.symm];simp⟩,h1,by (first | omega | (simp;omega)),by (first | omega | (simp;omega)),⟨_,own_of (gW _ _),by simp,by simp⟩,by simp[SH.den]⟩,trivial⟩
  rw[Nat.zero_add] at r
  exact⟨h.length+1,_,r,(((Keep.refl (fun _=>False) h).pushN _).setN (Nat.le_refl _) _).pushN _,gV _ (by simp[SH.den]),by omega⟩
section
variable {h:Hp} {ρ:Lay} {t:TS} {c r b:Nat} {oa:Option Addr} {za:Nat}
def mixO(ρ σ:Lay)(l:List (Option Nat))(i:Nat):List Value:=(l.take i).map (inP σ)++(l.drop i).map (inP ρ)
theorem mixO_len{ρ σ:Lay}{l:List (Option Nat)}{i:Nat}:(mixO ρ σ l i).length=l.length:=by simp[mixO];omega
theorem mixO_at{ρ σ:Lay}{l:List (Option Nat)}{i:Nat}{w:Option Nat}(h:l[i]?=some w):(mixO ρ σ l i)[i]?=some (inP ρ w):=by
 have:=gTq h
 rw[mixO,List.getElem?_append_right (by simp;omega)]
 simp[h,Nat.min_eq_left (Nat.le_of_lt this)]
theorem mixO_succ{ρ σ:Lay}{l:List (Option Nat)}{i:Nat}{w:Option Nat}(h:l[i]?=some w):(mixO ρ σ l i).take i++[inP σ w]++(mixO ρ σ l i).drop (i+1)=mixO ρ σ l (i+1):=by
 have hl:=gTq h
 have e1:((l.take i).map (inP σ)).length=i:=by simp;omega
 rw[mixO,List.take_append_of_le_length (by omega),List.take_of_length_le (by omega),List.drop_append,List.drop_of_length_le (by omega),e1,List.nil_append,mixO,take_one h]
 simp[List.drop_drop,Nat.add_comm]
theorem mixO_none{ρ σ:Lay}{l:List (Option Nat)}{i:Nat}(h:l[i]?=some none):mixO ρ σ l i=mixO ρ σ l (i+1):=by
 have hl:=gTq h
 rw[mixO,mixO,take_one h,List.drop_eq_getElem_cons hl]
 have:l[i]=none:=by rw[List.getElem?_eq_getElem hl] at h;exact Option.some.inj h
 rw[this]
 simp[inP]
theorem copy4(a:TAt h ρ t)(ok:TOk c t)(hc:c<=100000){m X:Nat}{x:Tk}{od:Option Nat}{g0:Hp}{σ:Lay}{u11 u10 u09 v0 e0 e1 e3 e4 e5 e6:Value}(hx:t.tks[m]?=some x)
  (hso:∀ i,od=some i->oa=some ⟨i,0,none⟩/\za=1) (hso0:od=none->x.opn.length=0) (K0:Keep (fun _=>False) h g0)
  (hb:g0[b]?=some (.cells [v0,slv (σ .ss) t.scs.length] true)) (hss:∀ q,σ .ss=some q->g0[q]?=some (.cells ((List.range t.scs.length).map fun k=>pvv (σ (.sc k))) true)) (hs0:σ .ss=none->t.scs.length=0) (hsc:∀ k,k<t.scs.length->∃ q,σ (.sc k)=some q)
  (hX:g0[X]?=some (.cells [e0,e1,.slice oa x.opn.length za,e3,e4,e5,e6] true)) (hne:∀ o,od=some o->h.length<=o/\o≠b/\o≠X/\σ .ss≠some o) :
  ∀ (j i:Nat) (E:Env) (g:Hp),i+j=x.opn.length->EnvLe [(150,iV (i:Int)),(149,iV (Int.ofNat x.opn.length)),(148,.slice oa x.opn.length za),(13,ptr X),(111,u11),(110,u10),(109,u09),(3,ptr b),(0,ptr r)] E ->
   Keep (fun q=>od=some q) g0 g->(∀ o,od=some o->g[o]?=some (.cells (mixO ρ σ x.opn i) true)) ->
   ∃ E1 g',EnvLe [(13,ptr X),(111,u11),(110,u10),(109,u09),(3,ptr b),(0,ptr r)] E1/\LRun Try.prog 177 false (loopN Try.f20 4) E g (.exit 8) E1 g'/\Keep (fun q=>od=some q) g0 g'/\(∀ o,od=some o->g'[o]?=some (.cells (x.opn.map (inP σ)) true)):=by
 intro j
 induction j with
 | zero =>
  intro i E g hi hE K ho
  have e:i=x.opn.length:=by omega
  subst e
  obtain⟨E2,q1,q2⟩:=pvC 0 hE (r27p.c4_out r b 0 0 X 0 0 0 0 0 0 0 oa x.opn.length za x.opn.length 0 0 0 u11 u10 u09 [] g) ⟨ltF (by simp),trivial⟩
  exact⟨E2,g,tR q1,.last q2 (by simp),K,fun o e=>by rw[ho o e,mixO,List.take_length];simp⟩
 | succ j ih =>
  intro i E g hi hE K ho
  have n200:=ok.n200
  have hlen:=ok.len m x hx
  obtain⟨w,hw⟩:∃ w,x.opn[i]?=some w:=⟨_,List.getElem?_eq_getElem (by omega)⟩
  cases hd:od with
  | none=>have:=hso0 hd;omega
  | some o =>
  obtain⟨rfl,rfl⟩:=hso o hd
  obtain⟨n1,n2,n3,n4⟩:=hne o hd
  have hog:=ho o hd
  have A1:(Asm.cmp .lss (i:Int) (Int.ofNat x.opn.length) true).holds Try.prog:=ltT (by simp;omega)
  have A2:(Asm.off i 0 (i:Int) x.opn.length 1).holds Try.prog:=offI (q:=i) rfl (by omega) (by omega)
  have A11:(Asm.arith .add .i64 (i:Int) 1 ((i+1:Nat):Int)).holds Try.prog:=addI rfl (by omega) (by omega)
  have A3:(Asm.ld1 (.is g) o i (inP ρ w)).holds Try.prog:=aL hog (mixO_at hw)
  have env:=@EnvLe.trans
  cases w with
  | none =>
   obtain⟨E2,q1,q2⟩:=pvK 0 hE (r27p.c4_nil r b o i X 0 0 0 0 0 0 0 none x.opn.length 1 i ((i+1:Nat):Int) 0 0 u11 u10 u09 [] g) ⟨A1,A2,A3,A11,trivial⟩
   obtain⟨E3,g5,s1,s2,s3⟩:=ih (i+1) E2 g (by omega) (tR q1) K (fun o' e=>by rw[ho o' e,mixO_none hw])
   rw[hd] at s3
   exact⟨E3,g5,s1,.step q2 s2,s3⟩
  | some s =>
   have hsl:=ok.opn m x s hx (List.mem_of_getElem? hw)
   obtain⟨si,hsi⟩:=a.sh.sc s hsl
   obtain⟨y,hy⟩:∃ y,t.scs[s]?=some y:=⟨_,List.getElem?_eq_getElem hsl⟩
   obtain⟨ci,hci⟩:=hsc s hsl
   cases hq:σ .ss with
   | none=>have:=hs0 hq;omega
   | some q =>
   have ag:TAt g ρ t:=(a.grow K0).keep K fun q' e e2=>by
    rw[hd] at e;cases e
    obtain⟨r',e2⟩:=e2
    have:=a.lt e2
    omega
   have hqo:¬ od=some q:=fun e=>by rw[hd] at e;cases e;exact n4 hq
   have hbo:¬ od=some b:=fun e=>by rw[hd] at e;cases e;exact n2 rfl
   have hXo:¬ od=some X:=fun e=>by rw[hd] at e;cases e;exact n3 rfl
   have gb:=K.2 _ _ hb hbo
   rw[hq] at gb
   have gq:=K.2 _ _ (hss q hq) hqo
   have gX:=K.2 _ _ hX hXo
   simp only[inP,hsi,pvv] at A3
   have A4:(Asm.ld1 (.is g) X 2 (.slice (some ⟨o,0,none⟩) x.opn.length 1)).holds Try.prog:=aL gX rfl
   have A5:(Asm.ld1 (.is g) b 1 (.slice (some ⟨q,0,none⟩) t.scs.length 1)).holds Try.prog:=aL gb rfl
   have A6:(Asm.ld1 (.is g) si 0 (iV ((s+1:Nat):Int))).holds Try.prog:=ag.ld1 rfl hsi (by rw[cSq hy];rfl)
   have A7:(Asm.arith .sub .i64 ((s+1:Nat):Int) 1 (s:Int)).holds Try.prog:=subI (by omega) (by omega) (by omega)
   have A8:(Asm.off s 0 (s:Int) t.scs.length 1).holds Try.prog:=offI (q:=s) rfl hsl (by omega)
   have A9:(Asm.ld1 (.is g) q s (ptr ci)).holds Try.prog:=aL gq (by simp[hsl,hci,pvv])
   have hcv:inP σ (some s)=ptr ci:=by simp only[inP,hci,pvv]
   obtain⟨E2,q1,q2⟩:=pvK 0 hE (r27p.c4_go r b o i X si ci s q t.scs.length o i none x.opn.length 1 i ((i+1:Nat):Int) ((s+1:Nat):Int) s u11 u10 u09 (mixO ρ σ x.opn (i+1)) g)
    ⟨A1,A2,A3,stat20 3 (by simp),A4,A5,A6,A7,A8,A9,A2,a_st hog (by rw[mixO_len];simp;omega) (by have:=mixO_succ (ρ:=ρ) (σ:=σ) hw;rw[hcv] at this;exact this),A11,trivial⟩
   obtain⟨E3,g5,s1,s2,s3⟩:=ih (i+1) E2 (g.set o (.cells (mixO ρ σ x.opn (i+1)) true)) (by omega) (tR q1) (K.trans (Keep.set (fp:=fun q=>od=some q) hd _)) (fun o' e=>by rw[hd] at e;cases e;exact gE hog)
   rw[hd] at s3
   exact⟨E3,g5,s1,.step q2 s2,s3⟩
theorem copy3(a:TAt h ρ t)(ok:TOk c t)(hc:c<=100000)(hr:ρ .root=some r) :
  ∀ (j i:Nat) (E:Env) (g:Hp) (σ:Lay),i+j=t.tks.length->EnvLe [(111,iV (i:Int)),(110,iV (Int.ofNat t.tks.length)),(109,.slice oa t.tks.length za),(3,ptr b),(0,ptr r)] E->(∀ i,σ .ts=some i->oa=some ⟨i,0,none⟩/\za=1) ->
   Keep (fun _=>False) h g->Ob h.length g σ (cL ρ σ t t.tks.length t.scs.length i)->Dm σ t t.tks.length t.scs.length i->σ .root=some b ->
   ∃ E1 g' σ',EnvLe [(3,ptr b),(0,ptr r)] E1/\LRun Try.prog 177 false (loopN Try.f20 3) E g (.exit 6) E1 g'/\Keep (fun _=>False) h g'/\Ob h.length g' σ' (cL ρ σ' t t.tks.length t.scs.length t.tks.length)/\Dm σ' t t.tks.length t.scs.length t.tks.length/\σ' .root=some b:=by
 intro j
 induction j with
 | zero =>
  intro i E g σ hi hE hts K O D hb
  have e:i=t.tks.length:=by omega
  subst e
  obtain⟨E2,q1,q2⟩:=pvC 0 hE (r27p.c3_out r b 0 0 0 0 0 0 0 0 oa none none none t.tks.length za 0 0 0 0 0 0 t.tks.length 0 0 0 [] [] (.bool true) g g g) ⟨ltF (by simp),trivial⟩
  exact⟨E2,g,σ,tR q1,.last q2 (by simp),K,O,D,hb⟩
 | succ j ih =>
  intro i E g σ hi hE hts K O D hb
  have n64:=ok.n64
  have n200:=ok.n200
  have il:i<t.tks.length:=by omega
  obtain⟨x,hx⟩:∃ x,t.tks[i]?=some x:=⟨_,List.getElem?_eq_getElem il⟩
  have hlen:=ok.len i x hx
  obtain⟨X,hX⟩:=D.tk i il
  cases hto:σ .ts with
  | none=>have:=D.ts hto;omega
  | some to =>
  obtain⟨rfl,rfl⟩:=hts to hto
  have Kl:=K.1
  have Xl:=O.lt hX
  have Xlo:=O.lo _ _ hX
  have bl:=O.lt hb
  have nXb:X≠b:=fun e=>by subst e;cases O.inj _ _ _ hX hb
  have ot:=O.obj _ _ hto
  have oX:=O.obj _ _ hX
  rw[show cL ρ σ t t.tks.length t.scs.length i (.tk i)=tkC ρ i x by simp[cL,hx]] at oX
  have ob:=O.obj _ _ hb
  rw[show cL ρ σ t t.tks.length t.scs.length i .root=[slv (σ .ts) t.tks.length,slv (σ .ss) t.scs.length] from rfl] at ob
  have A1:(Asm.cmp .lss (i:Int) (Int.ofNat t.tks.length) true).holds Try.prog:=ltT (by simp;omega)
  have A2:(Asm.off i 0 (i:Int) t.tks.length 1).holds Try.prog:=offI (q:=i) rfl il (by omega)
  have A3:(Asm.ld1 (.is g) to i (ptr X)).holds Try.prog:=aL ot (by simp[cL,il,hX,pvv])
  have A9:(Asm.arith .add .i64 (i:Int) 1 ((i+1:Nat):Int)).holds Try.prog:=addI rfl (by omega) (by omega)
  obtain⟨oo,zo,hop,hop2⟩:=slv_ex (ρ (.op i)) x.opn.length (fun e=>by rw[a.sh.op i x hx e];rfl)
  have main:∀ gA:Hp,Keep (fun q=>q=X) g gA->gA[X]?=some (.cells [iV ((i+1:Nat):Int),inP σ x.inn,.slice oo x.opn.length zo,.bool x.lv,.bool x.en,iV x.fk,.string x.ft] true) ->
    ∃ oc zc g1 g2 F1 σ',Run Try.prog 45 [.slice oo x.opn.length zo] gA (.slice oc x.opn.length zc) g1/\(∃ c,g1[X]?=some (.cells c true)/\c=[iV ((i+1:Nat):Int),inP σ x.inn,.slice oo x.opn.length zo,.bool x.lv,.bool x.en,iV x.fk,.string x.ft]) /\
     EnvLe [(13,ptr X),(111,iV (i:Int)),(110,iV (Int.ofNat t.tks.length)),(109,.slice (some ⟨to,0,none⟩) t.tks.length 1),(3,ptr b),(0,ptr r)] F1 /\
     LRun Try.prog 177 false (loopN Try.f20 4) [(150,iV (0:Nat)),(149,iV (Int.ofNat x.opn.length)),(148,.slice oc x.opn.length zc),(13,ptr X),(111,iV (i:Int)),(110,iV (Int.ofNat t.tks.length)),(109,.slice (some ⟨to,0,none⟩) t.tks.length 1),(3,ptr b),(0,ptr r)]
      (g1.set X (.cells [iV ((i+1:Nat):Int),inP σ x.inn,.slice oc x.opn.length zc,.bool x.lv,.bool x.en,iV x.fk,.string x.ft] true)) (.exit 8) F1 g2 /\
     Keep (fun _=>False) h g2/\Ob h.length g2 σ' (cL ρ σ' t t.tks.length t.scs.length (i+1))/\Dm σ' t t.tks.length t.scs.length (i+1)/\σ' .root=some b/\σ' .ts=some to:=by
   intro gA KA hXA
   have hKA:Keep (fun _=>False) h gA:=K.trans_new KA fun q hq e=>by subst e;omega
   have aA:=a.grow hKA
   have KAl:=KA.1
   have cl:∃ oc zc g1,∃ od:Option Nat,Run Try.prog 45 [.slice oo x.opn.length zo] gA (.slice oc x.opn.length zc) g1/\Keep (fun _=>False) gA g1/\.slice oc x.opn.length zc=slv od x.opn.length/\(∀ i,od=some i->oc=some ⟨i,0,none⟩/\zc=1)/\(od=none->x.opn=[])/\(∀ d,od=some d->g1[d]?=some (.cells (x.opn.map (inP ρ)) true)/\gA.length<=d):=by
    cases ho:ρ (.op i) with
    | none =>
     have e0:=a.sh.op i x hx ho
     rw[ho,e0] at hop
     simp only[slv,List.length_nil] at hop
     rw[e0,List.length_nil,<- hop]
     exact⟨none,0,gA,none,clone_nil gA,Keep.refl _ _,rfl,fun i e=>(by cases e),fun _=>rfl,fun d e=>(by cases e)⟩
    | some o =>
     obtain⟨rfl,rfl⟩:=hop2 o ho
     obtain⟨junk,hj⟩:=aA.obj _ _ ho
     rw[cont_op hx] at hj
     obtain⟨d,g1,c1,c2,c3,c4⟩:=clone_run hj (n:=x.opn.length) (by simp) (inP_ones ρ _) (by omega)
     exact⟨_,1,g1,some d,c1,c2,rfl,fun i e=>(by cases e;exact⟨rfl,rfl⟩),fun e=>(by cases e),fun d' e=>(by cases e;exact⟨c3,c4⟩)⟩
   obtain⟨oc,zc,g1,od,c1,c2,c3,c4,c5,c6⟩:=cl
   have hX1:=c2.2 _ _ hXA id
   have c2l:=c2.1
   obtain⟨cX,hcX⟩:∃ cX:List Value,cX=[iV ((i+1:Nat):Int),inP σ x.inn,.slice oc x.opn.length zc,.bool x.lv,.bool x.en,iV x.fk,.string x.ft]:=⟨_,rfl⟩
   obtain⟨gB,hgB⟩:∃ gB,gB=g1.set X (.cells cX true):=⟨_,rfl⟩
   have KB:Keep (fun q=>q=X) g gB:=by rw[hgB];exact (KA.trans (c2.mono fun _ _ e=>e.elim)).trans (Keep.set (fp:=fun q=>q=X) rfl _)
   have gBl:gB.length=g1.length:=by rw[hgB];simp
   have hXB:gB[X]?=some (.cells cX true):=by rw[hgB];exact gE hX1
   have hKB:Keep (fun _=>False) h gB:=K.trans_new KB fun q hq e=>by subst e;omega
   have hbB:=KB.2 _ _ ob fun e=>nXb e.symm
   have hdg:∀ d,od=some d->g.length<=d:=fun d e=>by have:=(c6 d e).2;omega
   rw[hcX] at hXB
   obtain⟨F1,g2,m1,m2,m3,m4⟩:=copy4 (r:=r) (oa:=oc) (za:=zc) (b:=b) (m:=i) (X:=X) (od:=od) (g0:=gB) (σ:=σ) (u11:=iV (i:Int)) (u10:=iV (Int.ofNat t.tks.length)) (u09:=.slice (some ⟨to,0,none⟩) t.tks.length 1) a ok hc hx c4 (fun e=>by rw[c5 e];rfl) hKB hbB
    (fun q e=>KB.2 _ _ (O.obj _ _ e) fun e'=>by subst e';cases O.inj _ _ _ hX e) D.ss D.sc hXB
    (fun o e=>by
     have:=hdg o e
     refine⟨by omega,by omega,by omega,fun e'=>?_⟩
     have:=O.lt e'
     omega) x.opn.length 0
    [(150,iV (0:Nat)),(149,iV (Int.ofNat x.opn.length)),(148,.slice oc x.opn.length zc),(13,ptr X),(111,iV (i:Int)),(110,iV (Int.ofNat t.tks.length)),(109,.slice (some ⟨to,0,none⟩) t.tks.length 1),(3,ptr b),(0,ptr r)] gB (by omega) (EnvLe.refl _) (Keep.refl _ _)
    (fun o e=>by
     have:=hdg o e
     rw[hgB]
     refine gNq ?_ (by omega)
     rw[(c6 o e).1]
     simp[mixO])
   rw[hgB,hcX] at m2
   have Kall:Keep (fun q=>q=X) g g2:=KB.trans_new m3 fun q hq e=>by have:=hdg q e;omega
   obtain⟨σ',hσ⟩:∃ σ':Lay,σ'=fun r=>if r=.op i then od else σ r:=⟨_,rfl⟩
   have s0:σ' (.op i)=od:=by rw[hσ];simp
   have sn:∀ r,r≠.op i->σ' r=σ r:=fun r h0=>by rw[hσ];simp only[if_neg h0]
   have tks:∀ k,σ' (.tk k)=σ (.tk k):=fun k=>sn _ (by simp)
   have scs:∀ k,σ' (.sc k)=σ (.sc k):=fun k=>sn _ (by simp)
   have inPs:∀ v,inP σ' v=inP σ v:=fun v=>by cases v<;>simp only[inP,scs]
   have hX2:g2[X]?=some (.cells cX true):=m3.2 _ _ (by rw[hcX];exact hXB) fun e=>by have:=hdg X e;omega
   refine⟨oc,zc,g1,g2,F1,σ',c1,⟨_,hX1,rfl⟩,m1,m2,K.trans_new Kall (fun q hq e=>by subst e;omega),O.upd (fun r=>r=.tk i\/r=.op i) Kall (fun r q e f=>by subst f;exact .inl (O.inj _ _ _ e hX)) (fun r d=>?_) (fun r q d e=>?_),?_,by rw[sn _ (by simp)];exact hb,by rw[sn _ (by simp)];exact hto⟩
   ·have e1:r≠.tk i:=fun e=>d (.inl e)
    have e2:r≠.op i:=fun e=>d (.inr e)
    refine⟨sn r e2,fun hn=>?_⟩
    cases r with
    | root=>simp only[cL,sn .ts (by simp),sn .ss (by simp)]
    | ts=>simp only[cL,tks]
    | ss=>simp only[cL,scs]
    | tk k =>
     have n1:k≠i:=fun e=>e1 (by rw[e])
     have n2:Rl.op k≠.op i:=fun e=>n1 (by cases e;rfl)
     by_cases hk:k<i
     ·simp only[cL,hk,Nat.lt_succ_of_lt hk,if_true,tkC,inPs,sn _ n2]
     ·simp only[cL,hk,show ¬ k<i+1 by omega,if_false]
    | op k=>simp only[cL,show inP σ'=inP σ from funext inPs]
    | sc k=>simp only[cL,scC,tks,sn (.st k) (by simp)]
    | st k=>simp only[cL,tks]
   ·rcases d with rfl | rfl
    ·rw[tks] at e
     rw[hX] at e;cases e
     refine⟨?_,Xlo,fun r' e'=>?_⟩
     ·rw[show cL ρ σ' t t.tks.length t.scs.length (i+1) (.tk i)=cX by simp only[cL,hx,Nat.lt_succ_self,if_true,tkC,inPs,s0,hcX,c3]]
      exact hX2
     ·by_cases r0:r'=.op i
      ·subst r0;rw[s0] at e';have:=hdg _ e';omega
      ·rw[sn r' r0] at e';exact O.inj _ _ _ e' hX
    ·rw[s0] at e
     have hq:=hdg q e
     refine⟨?_,by omega,fun r' e'=>?_⟩
     ·rw[show cL ρ σ' t t.tks.length t.scs.length (i+1) (.op i)=x.opn.map (inP σ) by simp only[cL,hx,inPs];exact List.map_congr_left fun v _=>inPs v]
      exact m4 q e
     ·by_cases r0:r'=.op i
      ·exact r0
      ·rw[sn r' r0] at e';have:=O.lt e';omega
   ·refine⟨fun k hk=>by rw[tks];exact D.tk k hk,fun k hk=>by rw[scs];exact D.sc k hk,fun e=>?_,fun e=>?_,fun k x' hk hx' e=>?_,fun k x hk hx e=>?_,fun k hk=>by rw[tks];exact D.otk k hk,fun k hk=>?_,fun k hk=>?_⟩
    ·rw[sn _ (by simp)] at e;exact D.ts e
    ·rw[sn _ (by simp)] at e;exact D.ss e
    ·by_cases e1:k=i
     ·subst e1
      rw[hx] at hx';cases hx'
      rw[s0] at e
      exact c5 e
     ·rw[sn _ (by intro e';cases e';exact e1 rfl)] at e;exact D.op k x' (by omega) hx' e
    ·rw[sn _ (by simp)] at e;exact D.st k x hk hx e
    ·rw[sn _ (by intro e;cases e;omega)];exact D.oop k (by omega)
    ·rw[scs,sn _ (by simp)];exact D.osc k hk
  cases hin:x.inn with
  | none =>
   rw[hin] at main
   obtain⟨oc,zc,g1,g2,F1,σ',p1,⟨cX,p2,rfl⟩,p3,p4,p5,p6,p7,p8,p9⟩:=main g (Keep.refl _ _) (by rw[oX,tkC,hop,hin];rfl)
   obtain⟨E2,q1,q2⟩:=pvC 0 hE (r27p.c3_nil r b to i X 0 0 0 0 0 none oo oc oc t.tks.length 1 x.opn.length zo x.opn.length zc x.opn.length zc i ((i+1:Nat):Int) 0 0 [] [iV ((i+1:Nat):Int),.pointer none,.slice oc x.opn.length zc,.bool x.lv,.bool x.en,iV x.fk,.string x.ft] (.bool true) g g1 g2)
    ⟨A1,A2,A3,aL oX (by rw[tkC,hin];rfl),aL oX (by rw[tkC,hop];rfl),p1,a_st p2 (by simp) rfl,aL (gE p2) rfl,a_loop (by kernel_rfl) (.add (.add (.add (.add (.add (.add (.add (.add (.add (.nil _) rfl) rfl) rfl) rfl) rfl) rfl) rfl) rfl) rfl) p3 p4,A9,trivial⟩
   obtain⟨E3,g9,σ3,w1,w2,w3,w4,w5,w6⟩:=ih (i+1) E2 g2 σ' (by omega) (tR q1) (fun k e=>by rw[p9] at e;cases e;exact⟨rfl,rfl⟩) p5 p6 p7 p8
   exact⟨E3,g9,σ3,w1,.step q2 w2,w3,w4,w5,w6⟩
  | some s =>
   rw[hin] at main
   have hsl:=ok.inn i x s hx hin
   obtain⟨si,hsi⟩:=a.sh.sc s hsl
   obtain⟨y,hy⟩:∃ y,t.scs[s]?=some y:=⟨_,List.getElem?_eq_getElem hsl⟩
   obtain⟨ci,hci⟩:=D.sc s hsl
   have ag:=a.grow K
   cases hq:σ .ss with
   | none=>have:=D.ss hq;omega
   | some q =>
   rw[hq] at ob
   have gq:=O.obj _ _ hq
   have hcv:inP σ (some s)=ptr ci:=by simp only[inP,hci,pvv]
   have hpv:inP ρ (some s)=ptr si:=by simp only[inP,hsi,pvv]
   have oX':=oX
   rw[show tkC ρ i x=[iV ((i+1:Nat):Int),ptr si,.slice oo x.opn.length zo,.bool x.lv,.bool x.en,iV x.fk,.string x.ft] by rw[tkC,hop,hin,hpv]] at oX'
   rw[hcv] at main
   obtain⟨oc,zc,g1,g2,F1,σ',p1,⟨cX,p2,rfl⟩,p3,p4,p5,p6,p7,p8,p9⟩:=main (g.set X (.cells [iV ((i+1:Nat):Int),ptr ci,.slice oo x.opn.length zo,.bool x.lv,.bool x.en,iV x.fk,.string x.ft] true)) (Keep.set (fp:=fun q=>q=X) rfl _) (gE oX)
   obtain⟨E2,q1,q2⟩:=pvC 0 hE (r27p.c3_in r b to i X si ci s q t.scs.length none oo oc oc t.tks.length 1 x.opn.length zo x.opn.length zc x.opn.length zc i ((i+1:Nat):Int) ((s+1:Nat):Int) s [iV ((i+1:Nat):Int),ptr ci,.slice oo x.opn.length zo,.bool x.lv,.bool x.en,iV x.fk,.string x.ft] [iV ((i+1:Nat):Int),ptr ci,.slice oc x.opn.length zc,.bool x.lv,.bool x.en,iV x.fk,.string x.ft] (.bool true) g g1 g2)
    ⟨A1,A2,A3,aL oX' rfl,stat20 2 (by simp),aL ob rfl,aL oX' rfl,ag.ld1 rfl hsi (by rw[cSq hy];rfl),subI (by omega) (by omega) (by omega),offI (q:=s) rfl hsl (by omega),aL gq (by simp[cL,hsl,hci,pvv]),a_st oX' (by simp) rfl,aL (gE oX') rfl,p1,a_st p2 (by simp) rfl,aL (gE p2) rfl,a_loop (by kernel_rfl) (.add (.add (.add (.add (.add (.add (.add (.add (.add (.nil _) rfl) rfl) rfl) rfl) rfl) rfl) rfl) rfl) rfl) p3 p4,A9,trivial⟩
   obtain⟨E3,g9,σ3,w1,w2,w3,w4,w5,w6⟩:=ih (i+1) E2 g2 σ' (by omega) (tR q1) (fun k e=>by rw[p9] at e;cases e;exact⟨rfl,rfl⟩) p5 p6 p7 p8
   exact⟨E3,g9,σ3,w1,.step q2 w2,w3,w4,w5,w6⟩
theorem copy_run(a:TAt h ρ t)(ok:TOk c t)(hc:c<=100000)(hr:ρ .root=some r) :
  ∃ b σ h',Run Try.prog 20 [ptr r] h (ptr b) h'/\TAt h' σ t/\Made h h' σ b:=by
 obtain⟨h1,hh1⟩:∃ h1,h1=h++[AObj.cells [.slice none 0 0,.slice none 0 0] true]:=⟨_,rfl⟩
 have K1:Keep (fun _=>False) h h1:=by rw[hh1];exact (Keep.refl _ _).pushN _
 have hb1:h1[h.length]?=some (.cells [.slice none 0 0,.slice none 0 0] true):=by rw[hh1];exact gW _ _
 obtain⟨σ0,hσ⟩:∃ σ0:Lay,σ0=fun r=>if r=.root then some h.length else none:=⟨_,rfl⟩
 have s0:σ0 .root=some h.length:=by rw[hσ];simp
 have sn:∀ r,r≠.root->σ0 r=none:=fun r e=>by rw[hσ];simp[e]
 have only:∀ r i,σ0 r=some i->r=.root/\i=h.length:=fun r i e=>by
  by_cases e1:r=.root
  ·subst e1;rw[s0] at e;cases e;exact⟨rfl,rfl⟩
  ·rw[sn r e1] at e;cases e
 have O0:Ob h.length h1 σ0 (cL ρ σ0 t 0 0 0):=by
  refine⟨fun r r' i e e'=>by rw[(only r i e).1,(only r' i e').1],fun r i e=>?_,fun r i e=>by rw[(only r i e).2];exact Nat.le_refl _⟩
  obtain⟨rfl,rfl⟩:=only r i e
  rw[hb1];simp only[cL,sn .ts (by simp),sn .ss (by simp),slv]
 have D0:Dm σ0 t 0 0 0:=⟨fun k hk=>absurd hk (Nat.not_lt_zero _),fun k hk=>absurd hk (Nat.not_lt_zero _),fun _=>rfl,fun _=>rfl,fun k x hk=>absurd hk (Nat.not_lt_zero _),fun k x hk=>absurd hk (Nat.not_lt_zero _),fun k _=>sn _ (by simp),fun k _=>sn _ (by simp),fun k _=>⟨sn _ (by simp),sn _ (by simp)⟩⟩
 obtain⟨oa,za,e1,e1'⟩:=slv_ex (ρ .ts) t.tks.length (fun e=>by rw[a.sh.ts e];rfl)
 obtain⟨ob,zb,e2,e2'⟩:=slv_ex (ρ .ss) t.scs.length (fun e=>by rw[a.sh.ss e];rfl)
 obtain⟨E1,g1,σ1,w1,w2,w3,w4,w5,w6⟩:=copy0 (r:=r) (b:=h.length) a ok hr e1' t.tks.length 0 [(25,iV (0:Nat)),(24,iV (Int.ofNat t.tks.length)),(23,.slice oa t.tks.length za),(3,ptr h.length),(0,ptr r)] h1 σ0 (by omega) (EnvLe.refl _) K1 O0 D0 s0
 obtain⟨E2,g2,σ2,x1,x2,x3,x4,x5,x6⟩:=copy1 (r:=r) (b:=h.length) a ok hc hr e2' t.scs.length 0 [(47,iV (0:Nat)),(46,iV (Int.ofNat t.scs.length)),(45,.slice ob t.scs.length zb),(3,ptr h.length),(0,ptr r)] g1 σ1 (by omega) (EnvLe.refl _) w3 w4 w5 w6
 obtain⟨oc,zc,e3,e3'⟩:=slv_ex (σ2 .ts) t.tks.length x5.ts
 obtain⟨E3,g3,σ3,y1,y2,y3,y4,y5,y6⟩:=copy3 (r:=r) (b:=h.length) (oa:=oc) (za:=zc) a ok hc hr t.tks.length 0 [(111,iV (0:Nat)),(110,iV (Int.ofNat t.tks.length)),(109,.slice oc t.tks.length zc),(3,ptr h.length),(0,ptr r)] g2 σ2 (by omega) (EnvLe.refl _) e3' x3 x4 x5 x6
 have L:∀ (Em E F:Env) (g g':Hp),True:=fun _ _ _ _ _=>trivial
 rw[hh1] at w2
 refine⟨h.length,σ3,g3,pvF 0 Try.func20 (r27p.cp r h.length 0 oa ob oc t.tks.length t.scs.length t.tks.length za zb zc h g1 g2 g3)
  ⟨rfl,?_,a_loop (by kernel_rfl) (.add (.add (.add (.add (.add (.nil _) rfl) rfl) rfl) rfl) rfl) w1 w2,?_,a_loop (by kernel_rfl) (.add (.add (.add (.add (.add (.nil _) rfl) rfl) rfl) rfl) rfl) x1 x2,?_,a_loop (by kernel_rfl) (.add (.add (.add (.add (.add (.nil _) rfl) rfl) rfl) rfl) rfl) y1 y2,trivial⟩,?_,?_⟩
 ·rw[<- e1];exact (a.grow K1).hdT hr (by rw[hh1];rfl)
 ·rw[<- e2];exact (a.grow w3).hdS hr rfl
 ·rw[<- e3];exact aL (x4.obj _ _ x6) rfl
 ·have D:=y5
  have O:=y4
  refine⟨⟨⟨_,y6⟩,D.tk,D.sc,fun e=>List.length_eq_zero_iff.1 (D.ts e),fun e=>List.length_eq_zero_iff.1 (D.ss e),fun k x hx e=>D.op k x (gTq hx) hx e,fun k x hx e=>D.st k x (gTq hx) hx e,fun k hk=>⟨D.otk k hk,D.oop k hk⟩,D.osc⟩,O.inj,fun r i e=>⟨[],?_⟩⟩
  rw[List.append_nil,O.obj r i e]
  cases r with
  | tk k =>
   simp only[cL,cont]
   cases hk:t.tks[k]? with
   | none=>rfl
   | some x=>simp only[gTq hk,if_true]
  | root=>rfl
  | ts=>rfl
  | ss=>rfl
  | op k=>rfl
  | sc k=>rfl
  | st k=>rfl
 ·exact⟨y3,y6,fun q e=>by obtain⟨r',e⟩:=e;exact y4.lo _ _ e⟩
end
end Go.Proofs.Ytahomnlkkafbjaa.tr
namespace Go.Proofs.Ytahomnlkkafbjaa.tr
open Go Go.Ev
def SlG(h:Hp)(v:Value)(n z:Nat)(cs:List Value):Prop :=
 cs.length=n*z/\∃ oa za,v=.slice oa n za/\(n≠0->∃ o junk rw,oa=some ⟨o,0,none⟩/\za=z/\h[o]?=some (.cells (cs++junk) rw))
theorem SlV.g{h:Hp}{lo n z:Nat}{v:Value}{cs:List Value}(a:SlV h lo v n z cs):SlG h v n z cs:=by
 rcases a with⟨rfl,rfl,rfl⟩ | ⟨a1,a2,o,a3,a4,a5⟩
 ·exact⟨by simp,none,0,rfl,fun e=>absurd rfl e⟩
 ·exact⟨a2,_,_,a3,fun _=>⟨o,[],true,rfl,rfl,by rw[List.append_nil];exact a4⟩⟩
theorem SlG.keep{h h':Hp}{n z:Nat}{v:Value}{cs:List Value}(a:SlG h v n z cs)(K:Keep (fun _=>False) h h'):SlG h' v n z cs:=by
 obtain⟨a1,oa,za,a2,a3⟩:=a
 refine⟨a1,oa,za,a2,fun e=>?_⟩
 obtain⟨o,junk,rw,b1,b2,b3⟩:=a3 e
 exact⟨o,junk,rw,b1,b2,K.2 _ _ b3 id⟩
theorem lkL_at2:∀ {l:List (Option Nat)} {k:Nat} {v:Option Nat} (junk:List Value),l[k]?=some v->((lkL l++junk).drop (k*2)).take 2=lkC v
 | [],k,v,_,h=>by simp at h
 | y::l,0,v,_,h=>by simp at h;subst h;simp[lkL,lkC_eq]
 | y::l,k+1,v,junk,h=>by
  have:=lkL_at2 (l:=l) (k:=k) (v:=v) junk (by simpa using h)
  rw[lkL,List.append_assoc,List.drop_append,List.drop_of_length_le (by rw[lkC_len];omega),List.nil_append,lkC_len,show (k+1)*2-2=k*2 by omega]
  exact this
theorem leaves44:leaves Try.prog 8 44=some (2,[(0,.int .i64),(1,.int .i64)]):=by kernel_rfl
theorem guard44:Try.prog.eqGuardType Try.prog.depth 44=false:=by kernel_rfl
theorem leaves49:leaves Try.prog 8 49=some (5,[(0,.int .i64),(1,.int .i64),(2,.int .i64),(3,.int .i64),(4,.string)]):=by kernel_rfl
theorem guard49:Try.prog.eqGuardType Try.prog.depth 49=false:=by kernel_rfl
theorem aeqT30(k:Int)(s:ByteArray):(Asm.aeq .eql 30 #[iV k,.string s] #[iV k,.string s] true).holds Try.prog:=by
 refine⟨rfl,rfl,.inl ⟨rfl,?_⟩⟩
 simp[aggEq,leaves30,guard30,eqOffs,leafEq]
theorem aeqF44(k n:Int):(Asm.aeq .neq 44 #[iV k,iV n] #[iV k,iV n] false).holds Try.prog:=by
 refine⟨rfl,rfl,.inr ⟨rfl,?_⟩⟩
 simp[aggEq,leaves44,guard44,eqOffs,leafEq]
theorem aeqF49(k n m f:Int)(s:ByteArray):(Asm.aeq .neq 49 #[iV k,iV n,iV m,iV f,.string s] #[iV k,iV n,iV m,iV f,.string s] false).holds Try.prog:=by
 refine⟨rfl,rfl,.inr ⟨rfl,?_⟩⟩
 simp[aggEq,leaves49,guard49,eqOffs,leafEq]
theorem stat54:(Asm.stat (drawN Try.f54 0)).holds Try.prog:=show statOk (drawN Try.f54 0)=true by kernel_rfl
section
variable {h:Hp}
theorem sameLinks_loop{l:List (Option Nat)}{oa ob:Option Addr}{za zb:Nat}(hb:l.length<=1000000)(A:l.length≠0->∃ o junk rw,oa=some ⟨o,0,none⟩/\za=2/\h[o]?=some (.cells (lkL l++junk) rw))(B:l.length≠0->∃ o junk rw,ob=some ⟨o,0,none⟩/\zb=2/\h[o]?=some (.cells (lkL l++junk) rw)) :
  ∀ (j i:Nat) (E:Env) (g:Hp),i+j=l.length->EnvLe [(14,iV (i:Int)),(13,iV (Int.ofNat l.length)),(12,.slice oa l.length za),(1,.slice ob l.length zb),(0,.slice oa l.length za)] E->Keep (fun _=>False) h g ->
   ∃ E1 g',LRun Try.prog 26 false (loopN Try.f54 0) E g (.exit 0) E1 g'/\Keep (fun _=>False) h g':=by
 intro j
 induction j with
 | zero =>
  intro i E g hi hE K
  have e:i=l.length:=by omega
  subst e
  obtain⟨E2,q1,q2⟩:=pvC 0 hE (r30p.gk_out oa ob l.length za zb l.length g) ⟨ltF (by simp),trivial⟩
  exact⟨E2,g,.last q2 (by simp),K⟩
 | succ j ih =>
  intro i E g hi hE K
  obtain⟨w,hw⟩:∃ w,l[i]?=some w:=⟨_,List.getElem?_eq_getElem (by omega)⟩
  obtain⟨o,junk,rw1,rfl,rfl,ho⟩:=A (by omega)
  obtain⟨o',junk',rw2,rfl,rfl,ho'⟩:=B (by omega)
  have ll:=lkL_len l
  have ho1:=K.2 _ _ ho id
  have ho2:=K.2 _ _ ho' id
  have a1:=lkL_at2 junk hw
  have a2:=lkL_at2 junk' hw
  rw[lkC_eq] at a1 a2
  have G:∀ o,(g++[AObj.cells [iV 0,iV 0] true] |>.set g.length o)[g.length]?=some o:=fun o=>gE (gW _ _)
  have K1:Keep (fun _=>False) g ((g++[AObj.cells [iV 0,iV 0] true]).set g.length (.cells [iV (lkK w),iV (lkN w)] true)):=((Keep.refl (fun _=>False) g).pushN _).setN (Nat.le_refl _) _
  obtain⟨E2,q1,q2⟩:=pvK 0 hE (r30p.gk_go o o' l.length (i*2) g.length i ((i+1:Nat):Int) (lkK w) (lkN w) g)
   ⟨ltT (by simp;omega),offI (q:=i) rfl (by omega) (by omega),aN ho1 (by simp;omega) a1,rfl,a_st (gW _ _) (by simp) rfl,stat54,aN (G _) (by simp) rfl,offI (q:=i) rfl (by omega) (by omega),aN (K1.2 _ _ ho2 id) (by simp;omega) a2,aeqF44 _ _,addI rfl (by omega) (by omega),trivial⟩
  obtain⟨E3,g3,s1,s2⟩:=ih (i+1) E2 _ (by omega) (tR q1) (K.trans K1)
  exact⟨E3,g3,.step q2 s1,s2⟩
theorem sameLinks_run{l:List (Option Nat)}{v v':Value}(hb:l.length<=1000000)(A:SlG h v l.length 2 (lkL l))(B:SlG h v' l.length 2 (lkL l)):∃ h',Run Try.prog 54 [v,v'] h (.bool true) h'/\Keep (fun _=>False) h h':=by
 obtain⟨_,oa,za,rfl,A⟩:=A
 obtain⟨_,ob,zb,rfl,B⟩:=B
 obtain⟨E1,g',q1,q2⟩:=sameLinks_loop hb A B l.length 0 [(14,iV (0:Nat)),(13,iV (Int.ofNat l.length)),(12,.slice oa l.length za),(1,.slice ob l.length zb),(0,.slice oa l.length za)] h (by omega) (EnvLe.refl _) (Keep.refl _ _)
 exact⟨g',pvF 0 Try.func54 (r30p.gk oa ob l.length za zb h g') ⟨neF rfl,a_loop (by kernel_rfl) (.add (.add (.add (.add (.add (.nil _) rfl) rfl) rfl) rfl) rfl) (.nil _) q1,trivial⟩,q2⟩
theorem sameTask_run(w:TkV){v v':Value}(hb:w.op.length<=1000000)(A:SlG h v w.op.length 2 (lkL w.op))(B:SlG h v' w.op.length 2 (lkL w.op)) :
  ∃ h',Run Try.prog 34 [.agg (w.C v).toArray,.agg (w.C v').toArray] h (.bool true) h'/\Keep (fun _=>False) h h':=by
 have K0:Keep (fun _=>False) h (h++[AObj.cells (w.C v) true]++[AObj.cells (w.C v') true]):=((Keep.refl (fun _=>False) h).pushN _).pushN _
 obtain⟨g',r1,K1⟩:=sameLinks_run hb (A.keep K0) (B.keep K0)
 have g2:(h++[AObj.cells (w.C v) true]++[AObj.cells (w.C v') true])[h.length]?=some (.cells (w.C v) true):=gP (gW _ _)
 have g3:(h++[AObj.cells (w.C v) true]++[AObj.cells (w.C v') true])[h.length+1]?=some (.cells (w.C v') true):=gV _ (pL _ _)
 obtain⟨_,oa,za,rfl,_⟩:=A
 obtain⟨_,ob,zb,rfl,_⟩:=B
 obtain⟨sc,en,lv,fk,ft,op⟩:=w
 have e0:=pL h (AObj.cells (TkV.C ⟨sc,en,lv,fk,ft,op⟩ (.slice oa op.length za)) true)
 cases en<;>cases lv
 ·exact⟨g',pvF 0 Try.func34 (r13p.st_00 h.length (h.length+1) sc fk ft oa ob op.length op.length za zb h g') ⟨rfl,e0,aL g2 rfl,aL g3 rfl,eqT rfl,aL g2 rfl,aL g3 rfl,aL g2 rfl,aL g3 rfl,aN g2 (by simp[TkV.C]) rfl,aN g3 (by simp[TkV.C]) rfl,aeqT30 _ _,aL g2 rfl,aL g3 rfl,r1,trivial⟩,K0.trans K1⟩
 ·exact⟨g',pvF 0 Try.func34 (r13p.st_01 h.length (h.length+1) sc fk ft oa ob op.length op.length za zb h g') ⟨rfl,e0,aL g2 rfl,aL g3 rfl,eqT rfl,aL g2 rfl,aL g3 rfl,aL g2 rfl,aL g3 rfl,aN g2 (by simp[TkV.C]) rfl,aN g3 (by simp[TkV.C]) rfl,aeqT30 _ _,aL g2 rfl,aL g3 rfl,r1,trivial⟩,K0.trans K1⟩
 ·exact⟨g',pvF 0 Try.func34 (r13p.st_10 h.length (h.length+1) sc fk ft oa ob op.length op.length za zb h g') ⟨rfl,e0,aL g2 rfl,aL g3 rfl,eqT rfl,aL g2 rfl,aL g3 rfl,aL g2 rfl,aL g3 rfl,aN g2 (by simp[TkV.C]) rfl,aN g3 (by simp[TkV.C]) rfl,aeqT30 _ _,aL g2 rfl,aL g3 rfl,r1,trivial⟩,K0.trans K1⟩
 ·exact⟨g',pvF 0 Try.func34 (r13p.st_11 h.length (h.length+1) sc fk ft oa ob op.length op.length za zb h g') ⟨rfl,e0,aL g2 rfl,aL g3 rfl,eqT rfl,aL g2 rfl,aL g3 rfl,aL g2 rfl,aL g3 rfl,aN g2 (by simp[TkV.C]) rfl,aN g3 (by simp[TkV.C]) rfl,aeqT30 _ _,aL g2 rfl,aL g3 rfl,r1,trivial⟩,K0.trans K1⟩
theorem sameScope_loop{l:List Nat}{oa ob:Option Addr}{za zb b3:Nat}{e0 e1 e2 e4 e5:Value}(hb:l.length<=1000000)(A:l.length≠0->∃ o junk rw,oa=some ⟨o,0,none⟩/\za=1/\h[o]?=some (.cells (nmL l++junk) rw))(B:l.length≠0->∃ o junk rw,ob=some ⟨o,0,none⟩/\zb=1/\h[o]?=some (.cells (nmL l++junk) rw))
  (h3:h[b3]?=some (.cells [e0,e1,e2,.slice ob l.length zb,e4,e5] true)) :
  ∀ (j i:Nat) (E:Env),i+j=l.length->EnvLe [(45,iV (i:Int)),(44,iV (Int.ofNat l.length)),(43,.slice oa l.length za),(3,ptr b3)] E ->
   ∃ E1,LRun Try.prog 58 false (loopN Try.f35 0) E h (.exit 0) E1 h:=by
 intro j
 induction j with
 | zero =>
  intro i E hi hE
  have e:i=l.length:=by omega
  subst e
  obtain⟨E2,q1,q2⟩:=pvC 0 hE (r30p.gs_out b3 l.length za oa l.length h) ⟨ltF (by simp),trivial⟩
  exact⟨E2,.last q2 (by simp)⟩
 | succ j ih =>
  intro i E hi hE
  obtain⟨w,hw⟩:∃ w,l[i]?=some w:=⟨_,List.getElem?_eq_getElem (by omega)⟩
  obtain⟨o,junk,rw1,rfl,rfl,ho⟩:=A (by omega)
  obtain⟨o',junk',rw2,rfl,rfl,ho'⟩:=B (by omega)
  have nm:∀ junk:List Value,(nmL l++junk)[i]?=some (iV ((w+1:Nat):Int)):=fun junk=>by
   rw[List.getElem?_append_left (by rw[nmL_len];omega),nmL,List.getElem?_map,hw];rfl
  obtain⟨E2,q1,q2⟩:=pvK 0 hE (r13p.ss_go b3 o o' l.length i i ((i+1:Nat):Int) ((w+1:Nat):Int) h)
   ⟨ltT (by simp;omega),offI (q:=i) rfl (by omega) (by omega),aL ho (nm _),aL h3 rfl,offI (q:=i) rfl (by omega) (by omega),aL ho' (nm _),neF rfl,addI rfl (by omega) (by omega),trivial⟩
  obtain⟨E3,s1⟩:=ih (i+1) E2 (by omega) (tR q1)
  exact⟨E3,.step q2 s1⟩
theorem sameScope_run(w:ScV){v v':Value}(hb:w.tk.length<=1000000)(A:SlG h v w.tk.length 1 (nmL w.tk))(B:SlG h v' w.tk.length 1 (nmL w.tk)) :
  ∃ h',Run Try.prog 35 [.agg (w.C v).toArray,.agg (w.C v').toArray] h (.bool true) h'/\Keep (fun _=>False) h h':=by
 have K0:Keep (fun _=>False) h (h++[AObj.cells (w.C v) true]++[AObj.cells (w.C v') true]):=((Keep.refl (fun _=>False) h).pushN _).pushN _
 have A0:=A.keep K0
 have B0:=B.keep K0
 have g2:(h++[AObj.cells (w.C v) true]++[AObj.cells (w.C v') true])[h.length]?=some (.cells (w.C v) true):=gP (gW _ _)
 have g3:(h++[AObj.cells (w.C v) true]++[AObj.cells (w.C v') true])[h.length+1]?=some (.cells (w.C v') true):=gV _ (pL _ _)
 obtain⟨_,oa,za,rfl,_⟩:=A
 obtain⟨_,ob,zb,rfl,_⟩:=B
 obtain⟨ow,su,ov,tk,fk,ft⟩:=w
 obtain⟨_,oa',za',e1,A0⟩:=A0
 obtain⟨_,ob',zb',e2,B0⟩:=B0
 cases e1;cases e2
 have e0:=pL h (AObj.cells (ScV.C ⟨ow,su,ov,tk,fk,ft⟩ (.slice oa tk.length za)) true)
 obtain⟨E1,q1⟩:=sameScope_loop hb A0 B0 g3 tk.length 0 [(45,iV (0:Nat)),(44,iV (Int.ofNat tk.length)),(43,.slice oa tk.length za),(3,ptr (h.length+1))] (by simp) (EnvLe.refl _)
 cases su<;>cases ov
 ·exact⟨_,pvF 0 Try.func35 (r30p.gs_00 h.length (h.length+1) tk.length za zb ow fk ft oa ob h _) ⟨rfl,e0,aL g2 rfl,aL g3 rfl,neF rfl,aL g2 rfl,aL g3 rfl,aL g2 rfl,aL g3 rfl,aN g2 (by simp[ScV.C]) rfl,aN g3 (by simp[ScV.C]) rfl,aeqF _ _,aL g2 rfl,aL g3 rfl,neF rfl,aL g2 rfl,a_loop (by kernel_rfl) (.add (.add (.add (.add (.nil _) rfl) rfl) rfl) rfl) (.nil _) q1,trivial⟩,K0⟩
 ·exact⟨_,pvF 0 Try.func35 (r30p.gs_01 h.length (h.length+1) tk.length za zb ow fk ft oa ob h _) ⟨rfl,e0,aL g2 rfl,aL g3 rfl,neF rfl,aL g2 rfl,aL g3 rfl,aL g2 rfl,aL g3 rfl,aN g2 (by simp[ScV.C]) rfl,aN g3 (by simp[ScV.C]) rfl,aeqF _ _,aL g2 rfl,aL g3 rfl,neF rfl,aL g2 rfl,a_loop (by kernel_rfl) (.add (.add (.add (.add (.nil _) rfl) rfl) rfl) rfl) (.nil _) q1,trivial⟩,K0⟩
 ·exact⟨_,pvF 0 Try.func35 (r30p.gs_10 h.length (h.length+1) tk.length za zb ow fk ft oa ob h _) ⟨rfl,e0,aL g2 rfl,aL g3 rfl,neF rfl,aL g2 rfl,aL g3 rfl,aL g2 rfl,aL g3 rfl,aN g2 (by simp[ScV.C]) rfl,aN g3 (by simp[ScV.C]) rfl,aeqF _ _,aL g2 rfl,aL g3 rfl,neF rfl,aL g2 rfl,a_loop (by kernel_rfl) (.add (.add (.add (.add (.nil _) rfl) rfl) rfl) rfl) (.nil _) q1,trivial⟩,K0⟩
 ·exact⟨_,pvF 0 Try.func35 (r30p.gs_11 h.length (h.length+1) tk.length za zb ow fk ft oa ob h _) ⟨rfl,e0,aL g2 rfl,aL g3 rfl,neF rfl,aL g2 rfl,aL g3 rfl,aL g2 rfl,aL g3 rfl,aN g2 (by simp[ScV.C]) rfl,aN g3 (by simp[ScV.C]) rfl,aeqF _ _,aL g2 rfl,aL g3 rfl,neF rfl,aL g2 rfl,a_loop (by kernel_rfl) (.add (.add (.add (.add (.nil _) rfl) rfl) rfl) rfl) (.nil _) q1,trivial⟩,K0⟩
end
theorem task_len{t:TS}{c:Nat}(ok:TOk c t)(hc:c<=100000)(n:Int):(t.task n).1.op.length<=1000000:=by
 unfold TS.task
 split
 ·simp[TkV.zero]
 ·split
  ·rename_i x hx
   have:=ok.len _ x hx
   simp only[tkV];omega
  ·simp[TkV.zero]
theorem sco_len{t:TS}{c:Nat}(ok:TOk c t)(hc:c<=100000)(n:Int):(t.sco n).1.tk.length<=1000000:=by
 unfold TS.sco
 split
 ·split
  ·rename_i y hy
   have:=ok.mlen _ y hy
   simp only[scV];omega
  ·simp[ScV.zero]
 ·simp[ScV.zero]
section
variable {h:Hp} {ρ σ:Lay} {t:TS} {c r s:Nat}
end
end Go.Proofs.Ytahomnlkkafbjaa.tr
namespace Go.Proofs.Ytahomnlkkafbjaa.r43p
open Go Go.Ev
theorem bl_err(r si b8 b9 la za:Nat)(oa:OA)(n e:Int)(g g2 g3:Hp) :
  let Z1:LV:=[pT r 0,iV n]
  let Z2:V:=.tuple #[.pointer none,iV e]
  PF Try.f27 Z1 g [.ret Z2 g2,.bit true] =
  some (.tuple #[nS,iV e],.is g2,[],[.call 41 Z1 g Z2 g2,.cmp .neq e 0 true]):=by intros;kernel_rfl
theorem bl_ok(r si b8 b9 la za:Nat)(oa:OA)(n e:Int)(g g2 g3:Hp) :
  let Z1:LV:=[pT r 0,iV n]
  let Z2:=pT si 0
  let Z3:V:=.tuple #[Z2,iV 0]
  let Z4:=pT b8 0
  let Z5:=pT b9 0
  let Z6:V:=.func (.func 48) #[] #[Z4,Z5]
  let Z7:SH:=.push g2 (cS [nS])
  let Z8:SH:=.push Z7 (cS [.nilFunc])
  let Z9:V:=.func (Fn.func 48) #[] #[Z4,Z5]
  let Z10:LV:=[Z9]
  let Z11:SH:=.set Z8 b9 (cS Z10)
  PF Try.f27 Z1 g [.ret Z3 g2,.bit false,.idx b8,.idx b9,.cells [Z6],.val Z6,.ret (.tuple #[]) g3,.val (.slice oa la za)] =
  some (.tuple #[.slice oa la za,iV 0],.is g3,[],[.call 41 Z1 g Z3 g2,.cmp .neq 0 0 false,.len g2 b8,.len Z7 b9,.st Z8 b9 0 Z10 Z10,.ld1 Z11 b9 0 Z9,.call 48 [Z2,Z4,Z5] Z11 (.tuple #[]) g3,.ld1 g3 b8 0 (.slice oa la za)]):=by intros;kernel_rfl
theorem bw_abs(s b8 b9 la za lb zb oo ow y a q:Nat)(oa ob:OA)(at_ at1:Int)(g g1 g2 g3 g4:Hp) :
  let Z1:=pT s 0
  let Z2:=pT b8 0
  let Z3:=pT b9 0
  let Z4:Env:=[(0,Z1),(1,Z2),(2,Z3)]
  let Z5:=pT ow 0
  PF Try.f48 [Z1,Z2,Z3] g [.val (.slice oa la za),.loop (.exit 0) Z4 g1,.val Z5,.val (.slice ob lb zb),.ret (iV at_) g2,.bit true] =
  some (.tuple #[],.is g2,[],[.ld1 g s 4 (.slice oa la za),.loop 67 false (loopN Try.f48 0) [(14,iV 0),(13,iN la),(12,.slice oa la za),(11,pT s 4),(10,Z1),(9,Z1),(0,Z1),(1,Z2),(2,Z3)] g (.exit 0) Z4 g1,.ld1 g1 s 1 Z5,.ld1 g1 ow 2 (.slice ob lb zb),.call 44 [.slice ob lb zb,Z1] g1 (iV at_) g2,.cmp .lss at_ 0 true]):=by intros;kernel_rfl
theorem bw_nil(s b8 b9 la za lb zb oo ow y a q:Nat)(oa ob:OA)(at_ at1:Int)(g g1 g2 g3 g4:Hp) :
  let Z1:=pT s 0
  let Z2:=pT b8 0
  let Z3:=pT b9 0
  let Z4:Env:=[(0,Z1),(1,Z2),(2,Z3)]
  let Z5:=pT ow 0
  let Z6:=sL oo lb 1
  PF Try.f48 [Z1,Z2,Z3] g [.val (.slice oa la za),.loop (.exit 0) Z4 g1,.val Z5,.val Z6,.ret (iV at_) g2,.bit false,.val Z5,.val Z6,.num (Int.ofNat a),.cut a lb,.ret (.pointer none) g3] =
  some (.tuple #[],.is g3,[],[.ld1 g s 4 (.slice oa la za),.loop 67 false (loopN Try.f48 0) [(14,iV 0),(13,iN la),(12,.slice oa la za),(11,pT s 4),(10,Z1),(9,Z1),(0,Z1),(1,Z2),(2,Z3)] g (.exit 0) Z4 g1,.ld1 g1 s 1 Z5,.ld1 g1 ow 2 Z6,.call 44 [Z6,Z1] g1 (iV at_) g2,.cmp .lss at_ 0 false,.ld1 g2 s 1 Z5,.ld1 g2 ow 2 Z6,.arith .add .i64 at_ 1 (Int.ofNat a),.cut (some (iN a)) none lb a lb,.call 49 [.slice (some { block:=oo,off:=0+a*1 }) (lb-a) 1] g2 (.pointer none) g3]):=by intros;kernel_rfl
theorem bw_go(s b8 b9 la za lb zb oo ow y a q:Nat)(oa ob:OA)(at_ at1:Int)(g g1 g2 g3 g4:Hp) :
  let Z1:=pT s 0
  let Z2:=pT b8 0
  let Z3:=pT b9 0
  let Z4:Env:=[(0,Z1),(1,Z2),(2,Z3)]
  let Z5:=pT ow 0
  let Z6:=sL oo lb 1
  let Z7:=pT y 0
  PF Try.f48 [Z1,Z2,Z3] g [.val (.slice oa la za),.loop (.exit 0) Z4 g1,.val Z5,.val Z6,.ret (iV at_) g2,.bit false,.val Z5,.val Z6,.num (Int.ofNat a),.cut a lb,.ret Z7 g3,.val (.func (.func 48) #[] #[Z2,Z3]),.ret (.tuple #[]) g4] =
  some (.tuple #[],.is g4,[],[.ld1 g s 4 (.slice oa la za),.loop 67 false (loopN Try.f48 0) [(14,iV 0),(13,iN la),(12,.slice oa la za),(11,pT s 4),(10,Z1),(9,Z1),(0,Z1),(1,Z2),(2,Z3)] g (.exit 0) Z4 g1,.ld1 g1 s 1 Z5,.ld1 g1 ow 2 Z6,.call 44 [Z6,Z1] g1 (iV at_) g2,.cmp .lss at_ 0 false,.ld1 g2 s 1 Z5,.ld1 g2 ow 2 Z6,.arith .add .i64 at_ 1 (Int.ofNat a),.cut (some (iN a)) none lb a lb,.call 49 [.slice (some { block:=oo,off:=0+a*1 }) (lb-a) 1] g2 Z7 g3,.ld1 g3 b9 0 (.func (Fn.func 48) #[] #[Z2,Z3]),.call 48 [Z7,Z2,Z3] g3 (.tuple #[]) g4]):=by intros;kernel_rfl
theorem bm_out(s b8 b9 oo ln za q x d z w m y lo zo:Nat)(oa op:OA)(i i1 n:Int)(cs news c2:LV)(g g2 g3:Hp) :
  PC 67 false (loopN Try.f48 0) [(14,iV i),(13,iN ln),(12,.slice oa ln za),(0,pT s 0),(1,pT b8 0),(2,pT b9 0)] g [.bit false] =
  some (.exit 0,[(15,bF),(14,iV i),(13,iN ln),(12,.slice oa ln za),(0,pT s 0),(1,pT b8 0),(2,pT b9 0)],.is g,[],[.cmp .lss i (Int.ofNat ln) false]):=by intros;kernel_rfl
theorem bm_end(s b8 b9 oo ln za q x d z w m y lo zo:Nat)(oa op:OA)(i i1 n:Int)(cs news c2:LV)(g g2 g3:Hp) :
  let Z1:=pT x 0
  cutP [14,5,13,12,0,1,2] (PC 67 false (loopN Try.f48 0) [(14,iV i),(13,iN ln),(12,sL oo ln 1),(0,pT s 0),(1,pT b8 0),(2,pT b9 0)] g [.bit true,.offs q,.val Z1,.val bT,.num i1]) =
  some (.normal,[(14,iV i1),(5,Z1),(13,iN ln),(12,sL oo ln 1),(0,pT s 0),(1,pT b8 0),(2,pT b9 0)],.is g,[],[.cmp .lss i (Int.ofNat ln) true,.off q 0 i ln 1,.ld1 g oo q Z1,.ld1 g x 4 bT,.arith .add .i64 i 1 i1]):=by intros;kernel_rfl
theorem bm_nn(s b8 b9 oo ln za q x d z w m y lo zo:Nat)(oa op:OA)(i i1 n:Int)(cs news c2:LV)(g g2 g3:Hp) :
  let Z1:=pT x 0
  let Z2:=sL z 1 1
  let Z3:SH:=.push g (cS [iV n])
  let Z4:SH:=.push Z3 (cS news)
  let Z5:SH:=.set Z4 b8 (cS c2)
  cutP [14,6,5,13,12,0,1,2] (PC 67 false (loopN Try.f48 0) [(14,iV i),(13,iN ln),(12,sL oo ln 1),(0,pT s 0),(1,pT b8 0),(2,pT b9 0)] g [.bit true,.offs q,.val Z1,.val bF,.val (nS),.val (iV n),.idx d,.app [] news 0 z,.cells c2,.val (.slice op lo zo),.ret (.pointer none) g2,.num i1]) =
  some (.normal,[(14,iV i1),(6,.pointer none),(5,Z1),(13,iN ln),(12,sL oo ln 1),(0,pT s 0),(1,pT b8 0),(2,pT b9 0)],.is g2,[],[.cmp .lss i (Int.ofNat ln) true,.off q 0 i ln 1,.ld1 g oo q Z1,.ld1 g x 4 bF,.stat (drawN Try.f48 0),.ld1 g b8 0 (nS),.ld1 g x 0 (iV n),.len g d,.appNil Z3 d 0 1 0 1 8 news z,.st Z4 b8 0 [Z2] c2,.ld1 Z5 x 2 (.slice op lo zo),.call 49 [.slice op lo zo] Z5 (.pointer none) g2,.arith .add .i64 i 1 i1]):=by intros;kernel_rfl
theorem bm_ns(s b8 b9 oo ln za q x d z w m y lo zo:Nat)(oa op:OA)(i i1 n:Int)(cs news c2:LV)(g g2 g3:Hp) :
  let Z1:=pT b8 0
  let Z2:=pT b9 0
  let Z3:=pT x 0
  let Z4:=pT y 0
  let Z5:V:=.func (Fn.func 48) #[] #[Z1,Z2]
  let Z6:=sL z 1 1
  let Z7:SH:=.push g (cS [iV n])
  let Z8:SH:=.push Z7 (cS news)
  let Z9:SH:=.set Z8 b8 (cS c2)
  cutP [14,6,5,13,12,0,1,2] (PC 67 false (loopN Try.f48 0) [(14,iV i),(13,iN ln),(12,sL oo ln 1),(0,pT s 0),(1,Z1),(2,Z2)] g [.bit true,.offs q,.val Z3,.val bF,.val (nS),.val (iV n),.idx d,.app [] news 0 z,.cells c2,.val (.slice op lo zo),.ret Z4 g2,.val (.func (.func 48) #[] #[Z1,Z2]),.ret (.tuple #[]) g3,.num i1]) =
  some (.normal,[(14,iV i1),(6,Z4),(5,Z3),(13,iN ln),(12,sL oo ln 1),(0,pT s 0),(1,Z1),(2,Z2)],.is g3,[],[.cmp .lss i (Int.ofNat ln) true,.off q 0 i ln 1,.ld1 g oo q Z3,.ld1 g x 4 bF,.stat (drawN Try.f48 0),.ld1 g b8 0 (nS),.ld1 g x 0 (iV n),.len g d,.appNil Z7 d 0 1 0 1 8 news z,.st Z8 b8 0 [Z6] c2,.ld1 Z9 x 2 (.slice op lo zo),.call 49 [.slice op lo zo] Z9 Z4 g2,.ld1 g2 b9 0 Z5,.call 48 [Z4,Z1,Z2] g2 (.tuple #[]) g3,.arith .add .i64 i 1 i1]):=by intros;kernel_rfl
theorem bm_sn(s b8 b9 oo ln za q x d z w m y lo zo:Nat)(oa op:OA)(i i1 n:Int)(cs news c2:LV)(g g2 g3:Hp) :
  let Z1:=pT x 0
  let Z2:=sL w m 1
  let Z3:=sL z (Nat.succ m) 1
  let Z4:SH:=.push g (cS [iV n])
  let Z5:SH:=.push (.set Z4 w .dead) (cS cs)
  let Z6:SH:=.set Z5 b8 (cS c2)
  cutP [14,6,5,13,12,0,1,2] (PC 67 false (loopN Try.f48 0) [(14,iV i),(13,iN ln),(12,sL oo ln 1),(0,pT s 0),(1,pT b8 0),(2,pT b9 0)] g [.bit true,.offs q,.val Z1,.val bF,.val Z2,.val (iV n),.idx d,.app cs news 0 z,.cells c2,.val (.slice op lo zo),.ret (.pointer none) g2,.num i1]) =
  some (.normal,[(14,iV i1),(6,.pointer none),(5,Z1),(13,iN ln),(12,sL oo ln 1),(0,pT s 0),(1,pT b8 0),(2,pT b9 0)],.is g2,[],[.cmp .lss i (Int.ofNat ln) true,.off q 0 i ln 1,.ld1 g oo q Z1,.ld1 g x 4 bF,.stat (drawN Try.f48 0),.ld1 g b8 0 Z2,.ld1 g x 0 (iV n),.len g d,.app Z4 w 0 m d 0 1 0 1 8 cs news z,.st Z5 b8 0 [Z3] c2,.ld1 Z6 x 2 (.slice op lo zo),.call 49 [.slice op lo zo] Z6 (.pointer none) g2,.arith .add .i64 i 1 i1]):=by intros;kernel_rfl
theorem bm_ss(s b8 b9 oo ln za q x d z w m y lo zo:Nat)(oa op:OA)(i i1 n:Int)(cs news c2:LV)(g g2 g3:Hp) :
  let Z1:=pT b8 0
  let Z2:=pT b9 0
  let Z3:=pT x 0
  let Z4:=sL w m 1
  let Z5:=pT y 0
  let Z6:V:=.func (Fn.func 48) #[] #[Z1,Z2]
  let Z7:=sL z (Nat.succ m) 1
  let Z8:SH:=.push g (cS [iV n])
  let Z9:SH:=.push (.set Z8 w .dead) (cS cs)
  let Z10:SH:=.set Z9 b8 (cS c2)
  cutP [14,6,5,13,12,0,1,2] (PC 67 false (loopN Try.f48 0) [(14,iV i),(13,iN ln),(12,sL oo ln 1),(0,pT s 0),(1,Z1),(2,Z2)] g [.bit true,.offs q,.val Z3,.val bF,.val Z4,.val (iV n),.idx d,.app cs news 0 z,.cells c2,.val (.slice op lo zo),.ret Z5 g2,.val (.func (.func 48) #[] #[Z1,Z2]),.ret (.tuple #[]) g3,.num i1]) =
  some (.normal,[(14,iV i1),(6,Z5),(5,Z3),(13,iN ln),(12,sL oo ln 1),(0,pT s 0),(1,Z1),(2,Z2)],.is g3,[],[.cmp .lss i (Int.ofNat ln) true,.off q 0 i ln 1,.ld1 g oo q Z3,.ld1 g x 4 bF,.stat (drawN Try.f48 0),.ld1 g b8 0 Z4,.ld1 g x 0 (iV n),.len g d,.app Z8 w 0 m d 0 1 0 1 8 cs news z,.st Z9 b8 0 [Z7] c2,.ld1 Z10 x 2 (.slice op lo zo),.call 49 [.slice op lo zo] Z10 Z5 g2,.ld1 g2 b9 0 Z6,.call 48 [Z5,Z1,Z2] g2 (.tuple #[]) g3,.arith .add .i64 i 1 i1]):=by intros;kernel_rfl
theorem ou_none(o f ln za q y:Nat)(oa:OA)(i i1:Int)(g g2:Hp) :
  PF Try.f49 [.slice oa ln za] g [.ret (iV i) g2,.bit true] =
  some (.pointer none,.is g2,[],[.call 68 [.slice oa ln za,.func (Fn.func 69) #[] #[]] g (iV i) g2,.cmp .lss i 0 true]):=by intros;kernel_rfl
theorem ou_some(o f ln za q y:Nat)(oa:OA)(i i1:Int)(g g2:Hp) :
  let Z1:V:=.slice (some ⟨o,f,none⟩) ln 1
  let Z2:=pT y 0
  PF Try.f49 [Z1] g [.ret (iV i) g2,.bit false,.offs q,.val Z2] =
  some (Z2,.is g2,[],[.call 68 [Z1,.func (Fn.func 69) #[] #[]] g (iV i) g2,.cmp .lss i 0 false,.off q f i ln 1,.ld1 g2 o q Z2]):=by intros;kernel_rfl
theorem if_f(o f ln za q y:Nat)(oa:OA)(i i1:Int)(g g2:Hp) :
  PF Try.f68 [.slice oa ln za,.func (.func 69) #[] #[]] g [.loop .ret [(4,iV i)] g2] =
  some (iV i,.is g2,[],[.loop 19 false (loopN Try.f68 0) [(8,iV 0),(7,iN ln),(6,.slice oa ln za),(4,iV 0),(0,.slice oa ln za),(1,.func (Fn.func 69) #[] #[])] g .ret [(4,iV i)] g2]):=by intros;kernel_rfl
theorem if_n(o f ln za q y:Nat)(oa:OA)(i i1:Int)(g g2:Hp) :
  PF Try.f68 [.slice oa ln za,.func (.func 69) #[] #[]] g [.loop (.exit 0) [] g2] =
  some (iV (Int.negSucc 0),.is g2,[],[.loop 19 false (loopN Try.f68 0) [(8,iV 0),(7,iN ln),(6,.slice oa ln za),(4,iV 0),(0,.slice oa ln za),(1,.func (Fn.func 69) #[] #[])] g (.exit 0) [] g2]):=by intros;kernel_rfl
theorem if_out(o f ln za q y:Nat)(oa:Option Addr)(i i1:Int)(g g2:Hp) :
  pvCode Try.prog (pvCall Try.prog 1) 19 false (loopN Try.f68 0) [(8,iV i),(7,iV (Int.ofNat ln)),(0,.slice oa ln za),(1,.func (.func 69) #[] #[])] (.is g) [.bit false] =
  some (.exit 0,[(9,.bool false),(8,iV i),(7,iV (Int.ofNat ln)),(0,.slice oa ln za),(1,.func (Fn.func 69) #[] #[])],.is g,[],[.cmp .lss i (Int.ofNat ln) false]):=by intros;kernel_rfl
theorem if_hit(o f ln za q y:Nat)(oa:Option Addr)(i i1:Int)(g g2:Hp) :
  let Z1:Value:=.slice (some ⟨o,f,none⟩) ln 1
  let Z2:=pT y 0
  let Z3:Value:=.func (Fn.func 69) #[] #[]
  cutP [4,5,8,7,0,1] (pvCode Try.prog (pvCall Try.prog 1) 19 false (loopN Try.f68 0) [(8,iV i),(7,iV (Int.ofNat ln)),(0,Z1),(1,.func (.func 69) #[] #[])] (.is g) [.bit true,.offs q,.val Z2,.inl]) =
  some (.ret,[(4,iV i),(5,iV i),(8,iV i),(7,iV (Int.ofNat ln)),(0,Z1),(1,Z3)],.is g,[],[.cmp .lss i (Int.ofNat ln) true,.off q f i ln 1,.ld1 (.is g) o q Z2]):=by intros;kernel_rfl
theorem if_nil(o f ln za q y:Nat)(oa:Option Addr)(i i1:Int)(g g2:Hp) :
  let Z1:Value:=.slice (some ⟨o,f,none⟩) ln 1
  let Z2:Value:=.func (Fn.func 69) #[] #[]
  cutP [8,5,7,0,1] (pvCode Try.prog (pvCall Try.prog 1) 19 false (loopN Try.f68 0) [(8,iV i),(7,iV (Int.ofNat ln)),(0,Z1),(1,.func (.func 69) #[] #[])] (.is g) [.bit true,.offs q,.val (.pointer none),.inl,.num i1]) =
  some (.normal,[(8,iV i1),(5,iV i),(7,iV (Int.ofNat ln)),(0,Z1),(1,Z2)],.is g,[],[.cmp .lss i (Int.ofNat ln) true,.off q f i ln 1,.ld1 (.is g) o q (.pointer none),.arith .add .i64 i 1 i1]):=by intros;kernel_rfl
end Go.Proofs.Ytahomnlkkafbjaa.r43p
namespace Go.Proofs.Ytahomnlkkafbjaa.r38p
open Go Go.Ev
theorem ch_err(r k b8 ln zz:Nat)(oo:OA)(n e:Int)(g g2:Hp) :
  let Z1:=pT r 0
  let Z2:LV:=[Z1,iV n]
  let Z3:V:=.tuple #[.pointer none,iV e]
  cutP [5,4,7,6,0,1] (PC 84 false (chain [partC Try.f19 [0],partC Try.f19 [1,0],partC Try.f19 [1,1,0],partC Try.f19 [1,1,1,0],partC Try.f19 [1,1,1,1,0]]) (enterE 0 Z2) g [.ret Z3 g2,.bit true]) =
  some (.ret,[(5,iV e),(4,nS),(7,iV e),(6,.pointer none),(0,Z1),(1,iV n)],.is g2,[],[.call 42 Z2 g Z3 g2,.cmp .neq e 0 true]):=by intros;kernel_rfl
theorem ch_ok(r k b8 ln zz:Nat)(oo:OA)(n e:Int)(g g2:Hp) :
  let Z1:=pT r 0
  let Z2:LV:=[Z1,iV n]
  let Z3:=pT k 0
  let Z4:V:=.tuple #[Z3,iV 0]
  let Z5:SH:=.push g2 (cS [nS])
  cutP [9,8,7,6,5,4,0,1] (PC 84 false (chain [partC Try.f19 [0],partC Try.f19 [1,0],partC Try.f19 [1,1,0],partC Try.f19 [1,1,1,0],partC Try.f19 [1,1,1,1,0]]) (enterE 0 Z2) g [.ret Z4 g2,.bit false,.idx b8,.val (.slice oo ln zz)]) =
  some (.normal,[(9,iN ln),(8,pT b8 0),(7,iV 0),(6,Z3),(5,iV 0),(4,nS),(0,Z1),(1,iV n)],Z5,[],[.call 42 Z2 g Z4 g2,.cmp .neq 0 0 false,.len g2 b8,.ld1 Z5 k 2 (.slice oo ln zz)]):=by intros;kernel_rfl
theorem ch_r6(k b8 bb oo ln top:Nat)(g:Hp) :
  let Z1:=pT k 0
  let Z2:=sL oo ln 1
  let Z3:=sL oo top 1
  pvCode Try.prog (pvCall Try.prog 1) 84 false (partC Try.f19 [1,1,1,1,1,0,0,0,0,0]) [(6,Z1),(9,iV (Int.ofNat top)),(8,pT b8 0)] (.is g) [.val Z2,.cut 0 top,.inl,.idx bb] =
  some (.normal,[(32,.func (Fn.func 67) #[] #[pT bb 0]),(31,Z3),(30,iV (Int.ofNat top)),(29,Z2),(28,pT k 2),(27,Z1),(26,Z1),(6,Z1),(9,iV (Int.ofNat top)),(8,pT b8 0)],.push (.is g) (.cells [Z3] true),[],[.ld1 (.is g) k 2 Z2,.cut none (some (iV (Int.ofNat top))) ln 0 top,.len (.is g) bb]):=by intros;kernel_rfl
theorem ch_r6n(k b8 bb oo ln top:Nat)(g:Hp) :
  let Z1:=pT k 0
  pvCode Try.prog (pvCall Try.prog 1) 84 false (partC Try.f19 [1,1,1,1,1,0,0,0,0,0]) [(6,Z1),(9,iV 0),(8,pT b8 0)] (.is g) [.val (nS),.inl,.idx bb] =
  some (.normal,[(32,.func (Fn.func 67) #[] #[pT bb 0]),(31,nS),(30,iV 0),(29,nS),(28,pT k 2),(27,Z1),(26,Z1),(6,Z1),(9,iV 0),(8,pT b8 0)],.push (.is g) (.cells [nS] true),[],[.ld1 (.is g) k 2 (nS),.len (.is g) bb]):=by intros;kernel_rfl
theorem ch_as(k b8:Nat)(top j:Int)(v:V)(g:Hp) :
  PC 84 true (partC Try.f19 [1,1,1,1,1,0,0,0,0,1,0,0]) [(34,v),(33,iV j),(6,pT k 0),(9,iV top),(8,pT b8 0)] g [] =
  some (.normal,[(11,v),(34,v),(33,iV j),(6,pT k 0),(9,iV top),(8,pT b8 0)],.is g,[],[]):=by intros;kernel_rfl
theorem ch_bn(b8 d z w m:Nat)(lk ln:Int)(v:V)(cs news c2:LV)(g g2:Hp) :
  let Z1:=pT b8 0
  let Z2:V:=.agg #[iV lk,iV ln]
  let Z3:=sL z 1 2
  let Z4:SH:=.push g2 (cS [iV lk,iV ln])
  let Z5:SH:=.push Z4 (cS news)
  cutP [11,8] (PC 84 true (partC Try.f19 [1,1,1,1,1,0,0,0,0,1,0,1]) [(11,v),(8,Z1)] g [.val (nS),.ret Z2 g2,.idx d,.app [] news 0 z,.cells c2]) =
  some (.normal,[(11,v),(8,Z1)],.set Z5 b8 (cS c2),[],[.stat (drawN Try.f19 0),.again g 33 Z1 (nS),.again g 33 Z1 (nS),.again g2 33 Z1 (nS),.ld1 g b8 0 (nS),.call 40 [v] g Z2 g2,.len g2 d,.appNil Z4 d 0 1 0 2 16 news z,.st Z5 b8 0 [Z3] c2]):=by intros;kernel_rfl
theorem ch_bs(b8 d z w m:Nat)(lk ln:Int)(v:V)(cs news c2:LV)(g g2:Hp) :
  let Z1:=pT b8 0
  let Z2:=sL w m 2
  let Z3:V:=.agg #[iV lk,iV ln]
  let Z4:=sL z (Nat.succ m) 2
  let Z5:SH:=.push g2 (cS [iV lk,iV ln])
  let Z6:SH:=.push (.set Z5 w .dead) (cS cs)
  PC 84 true (partC Try.f19 [1,1,1,1,1,0,0,0,0,1,0,1]) [(11,v),(8,Z1)] g [.val Z2,.ret Z3 g2,.idx d,.app cs news 0 z,.cells c2] =
  some (.normal,[(39,Z4),(38,sL d 1 2),(37,Z3),(36,v),(35,Z2),(11,v),(8,Z1)],.set Z6 b8 (cS c2),[],[.stat (drawN Try.f19 0),.again g 33 Z1 Z2,.again g 33 Z1 Z2,.again g2 33 Z1 Z2,.ld1 g b8 0 Z2,.call 40 [v] g Z3 g2,.len g2 d,.app Z5 w 0 m d 0 1 0 2 16 cs news z,.st Z6 b8 0 [Z4] c2]):=by intros;kernel_rfl
theorem ch_pon_root(k b8 d z w m d2 z2 s ow la za:Nat)(oa:OA)(n0 lk ln top idx:Int)(cs news c2 cs2 news2 c3:LV)(g g2 g3:Hp) :
  let Z1:=pT k 0
  let Z2:=sL z 1 2
  let Z3:SH:=.push g (cS [iV 1,iV n0])
  let Z4:SH:=.push Z3 (cS news)
  let Z5:SH:=.set Z4 b8 (cS c2)
  cutP [5,4,6,9,8] (PC 84 false (partC Try.f19 [1,1,1,1,1,0,0,0,1]) [(6,Z1),(9,iV top),(8,pT b8 0)] g [.val (nS),.val (iV n0),.idx d,.app [] news 0 z,.cells c2,.val (.pointer none),.val Z2]) =
  some (.ret,[(5,iV 0),(4,Z2),(6,Z1),(9,iV top),(8,pT b8 0)],Z5,[],[.stat (drawN Try.f19 1),.ld1 g b8 0 (nS),.ld1 g k 0 (iV n0),.len g d,.appNil Z3 d 0 1 0 2 16 news z,.st Z4 b8 0 [Z2] c2,.ld1 Z5 k 1 (.pointer none),.ld1 Z5 b8 0 Z2]):=by intros;kernel_rfl
theorem ch_pon_in(k b8 d z w m d2 z2 s ow la za:Nat)(oa:OA)(n0 lk ln top idx:Int)(cs news c2 cs2 news2 c3:LV)(g g2 g3:Hp) :
  let Z1:=pT k 0
  let Z2:=pT b8 0
  let Z3:=pT s 0
  let Z4:=sL z 1 2
  let Z5:V:=.agg #[iV lk,iV ln]
  let Z6:=pT ow 0
  let Z7:=pT s 1
  let Z8:=pT k 1
  let Z9:=sL z2 2 2
  let Z10:SH:=.push g (cS [iV 1,iV n0])
  let Z11:SH:=.push Z10 (cS news)
  let Z12:SH:=.set Z11 b8 (cS c2)
  let Z13:SH:=.push g2 (cS [iV lk,iV ln])
  let Z14:SH:=.push (.set Z13 z .dead) (cS cs2)
  let Z15:SH:=.set Z14 b8 (cS c3)
  cutP [6,9,8] (PC 84 false (partC Try.f19 [1,1,1,1,1,0,0,0,1]) [(6,Z1),(9,iV top),(8,Z2)] g [.val (nS),.val (iV n0),.idx d,.app [] news 0 z,.cells c2,.val Z3,.val Z4,.val Z3,.ret Z5 g2,.idx d2,.app cs2 news2 0 z2,.cells c3,.val Z3,.val Z6,.val (.slice oa la za),.val Z3,.ret (iV idx) g3,.val Z3,.val Z6]) =
  some (.normal,[(6,Z6),(9,iV idx),(8,Z2)],.is g3,[],[.stat (drawN Try.f19 1),.ld1 g b8 0 (nS),.ld1 g k 0 (iV n0),.len g d,.appNil Z10 d 0 1 0 2 16 news z,.st Z11 b8 0 [Z4] c2,.ld1 Z12 k 1 Z3,.stat (drawN Try.f19 2),.again Z12 33 Z2 Z4,.again Z12 33 Z2 Z4,.again g2 33 Z2 Z4,.ld1 Z12 b8 0 Z4,.ld1 Z12 k 1 Z3,.call 40 [Z3] Z12 Z5 g2,.len g2 d2,.app Z13 z 0 1 d2 0 1 0 2 16 cs2 news2 z2,.st Z14 b8 0 [Z9] c3,.stat (drawN Try.f19 3),.ld1 Z15 k 1 Z3,.ld1 Z15 s 1 Z6,.ld1 Z15 ow 2 (.slice oa la za),.ld1 Z15 k 1 Z3,.call 44 [.slice oa la za,Z3] Z15 (iV idx) g3,.ld1 g3 k 1 Z3,.ld1 g3 s 1 Z6]):=by intros;kernel_rfl
theorem ch_pos_root(k b8 d z w m d2 z2 s ow la za:Nat)(oa:OA)(n0 lk ln top idx:Int)(cs news c2 cs2 news2 c3:LV)(g g2 g3:Hp) :
  let Z1:=pT k 0
  let Z2:=sL w m 2
  let Z3:=sL z (Nat.succ m) 2
  let Z4:SH:=.push g (cS [iV 1,iV n0])
  let Z5:SH:=.push (.set Z4 w .dead) (cS cs)
  let Z6:SH:=.set Z5 b8 (cS c2)
  cutP [5,4,6,9,8] (PC 84 false (partC Try.f19 [1,1,1,1,1,0,0,0,1]) [(6,Z1),(9,iV top),(8,pT b8 0)] g [.val Z2,.val (iV n0),.idx d,.app cs news 0 z,.cells c2,.val (.pointer none),.val (sL z (m+1) 2)]) =
  some (.ret,[(5,iV 0),(4,Z3),(6,Z1),(9,iV top),(8,pT b8 0)],Z6,[],[.stat (drawN Try.f19 1),.ld1 g b8 0 Z2,.ld1 g k 0 (iV n0),.len g d,.app Z4 w 0 m d 0 1 0 2 16 cs news z,.st Z5 b8 0 [Z3] c2,.ld1 Z6 k 1 (.pointer none),.ld1 Z6 b8 0 Z3]):=by intros;kernel_rfl
theorem ch_pos_in(k b8 d z w m d2 z2 s ow la za:Nat)(oa:OA)(n0 lk ln top idx:Int)(cs news c2 cs2 news2 c3:LV)(g g2 g3:Hp) :
  let Z1:=pT k 0
  let Z2:=pT b8 0
  let Z3:=sL w m 2
  let Z4:=pT s 0
  let Z5:V:=.agg #[iV lk,iV ln]
  let Z6:=pT ow 0
  let Z7:=pT s 1
  let Z8:=pT k 1
  let Z9:=sL z2 (Nat.succ (Nat.succ m)) 2
  let Z10:=sL z (Nat.succ m) 2
  let Z11:SH:=.push g (cS [iV 1,iV n0])
  let Z12:SH:=.push (.set Z11 w .dead) (cS cs)
  let Z13:SH:=.set Z12 b8 (cS c2)
  let Z14:SH:=.push g2 (cS [iV lk,iV ln])
  let Z15:SH:=.push (.set Z14 z .dead) (cS cs2)
  let Z16:SH:=.set Z15 b8 (cS c3)
  cutP [6,9,8] (PC 84 false (partC Try.f19 [1,1,1,1,1,0,0,0,1]) [(6,Z1),(9,iV top),(8,Z2)] g [.val Z3,.val (iV n0),.idx d,.app cs news 0 z,.cells c2,.val Z4,.val (sL z (m+1) 2),.val Z4,.ret Z5 g2,.idx d2,.app cs2 news2 0 z2,.cells c3,.val Z4,.val Z6,.val (.slice oa la za),.val Z4,.ret (iV idx) g3,.val Z4,.val Z6]) =
  some (.normal,[(6,Z6),(9,iV idx),(8,Z2)],.is g3,[],[.stat (drawN Try.f19 1),.ld1 g b8 0 Z3,.ld1 g k 0 (iV n0),.len g d,.app Z11 w 0 m d 0 1 0 2 16 cs news z,.st Z12 b8 0 [Z10] c2,.ld1 Z13 k 1 Z4,.stat (drawN Try.f19 2),.again Z13 33 Z2 Z10,.again Z13 33 Z2 Z10,.again g2 33 Z2 Z10,.ld1 Z13 b8 0 Z10,.ld1 Z13 k 1 Z4,.call 40 [Z4] Z13 Z5 g2,.len g2 d2,.app Z14 z 0 (Nat.succ m) d2 0 1 0 2 16 cs2 news2 z2,.st Z15 b8 0 [Z9] c3,.stat (drawN Try.f19 3),.ld1 Z16 k 1 Z4,.ld1 Z16 s 1 Z6,.ld1 Z16 ow 2 (.slice oa la za),.ld1 Z16 k 1 Z4,.call 44 [.slice oa la za,Z4] Z16 (iV idx) g3,.ld1 g3 k 1 Z4,.ld1 g3 s 1 Z6]):=by intros;kernel_rfl
theorem ig_f(oa:OA)(ln za s:Nat)(i:Int)(g g2:Hp) :
  let Z1:=pT s 0
  PF Try.f44 [.slice oa ln za,Z1] g [.loop .ret [(4,iV i)] g2] =
  some (iV i,.is g2,[],[.loop 19 false (loopN Try.f44 0) [(8,iV 0),(7,iN ln),(6,.slice oa ln za),(4,iV 0),(0,.slice oa ln za),(1,Z1)] g .ret [(4,iV i)] g2]):=by intros;kernel_rfl
theorem ig_n(oa:OA)(ln za s:Nat)(i:Int)(g g2:Hp) :
  let Z1:=pT s 0
  PF Try.f44 [.slice oa ln za,Z1] g [.loop (.exit 0) [] g2] =
  some (iV (Int.negSucc 0),.is g2,[],[.loop 19 false (loopN Try.f44 0) [(8,iV 0),(7,iN ln),(6,.slice oa ln za),(4,iV 0),(0,.slice oa ln za),(1,Z1)] g (.exit 0) [] g2]):=by intros;kernel_rfl
theorem ig_out(oa:OA)(o ln za s y q:Nat)(i i1:Int)(g:Hp) :
  PC 19 false (loopN Try.f44 0) [(8,iV i),(7,iN ln),(0,.slice oa ln za),(1,pT s 0)] g [.bit false] =
  some (.exit 0,[(9,bF),(8,iV i),(7,iN ln),(0,.slice oa ln za),(1,pT s 0)],.is g,[],[.cmp .lss i (Int.ofNat ln) false]):=by intros;kernel_rfl
theorem ig_eq(oa:OA)(o ln za s y q:Nat)(i i1:Int)(g:Hp) :
  let Z1:=sL o ln 1
  let Z2:=pT s 0
  let Z3:=pT y 0
  cutP [4,5,8,7,0,1] (PC 19 false (loopN Try.f44 0) [(8,iV i),(7,iN ln),(0,Z1),(1,Z2)] g [.bit true,.offs q,.val Z3,.bit true]) =
  some (.ret,[(4,iV i),(5,iV i),(8,iV i),(7,iN ln),(0,Z1),(1,Z2)],.is g,[],[.cmp .lss i (Int.ofNat ln) true,.off q 0 i ln 1,.ld1 g o q Z3,.peq g .eql 91 s 0 y 0 true]):=by intros;kernel_rfl
theorem ig_ne(oa:OA)(o ln za s y q:Nat)(i i1:Int)(g:Hp) :
  let Z1:=sL o ln 1
  let Z2:=pT s 0
  let Z3:=pT y 0
  cutP [8,5,7,0,1] (PC 19 false (loopN Try.f44 0) [(8,iV i),(7,iN ln),(0,Z1),(1,Z2)] g [.bit true,.offs q,.val Z3,.bit false,.num i1]) =
  some (.normal,[(8,iV i1),(5,iV i),(7,iN ln),(0,Z1),(1,Z2)],.is g,[],[.cmp .lss i (Int.ofNat ln) true,.off q 0 i ln 1,.ld1 g o q Z3,.peq g .eql 91 s 0 y 0 false,.arith .add .i64 i 1 i1]):=by intros;kernel_rfl
theorem ig_nil(oa:OA)(o ln za s y q:Nat)(i i1:Int)(g:Hp) :
  let Z1:=sL o ln 1
  let Z2:=pT s 0
  cutP [8,5,7,0,1] (PC 19 false (loopN Try.f44 0) [(8,iV i),(7,iN ln),(0,Z1),(1,Z2)] g [.bit true,.offs q,.val (.pointer none),.num i1]) =
  some (.normal,[(8,iV i1),(5,iV i),(7,iN ln),(0,Z1),(1,Z2)],.is g,[],[.cmp .lss i (Int.ofNat ln) true,.off q 0 i ln 1,.ld1 g o q (.pointer none),.arith .add .i64 i 1 i1]):=by intros;kernel_rfl
end Go.Proofs.Ytahomnlkkafbjaa.r38p
namespace Go.Proofs.Ytahomnlkkafbjaa.r35p
open Go Go.Ev
end Go.Proofs.Ytahomnlkkafbjaa.r35p
namespace Go.Proofs.Ytahomnlkkafbjaa.tr
open Go Go.Ev
def TS.rn(t:TS)(j:Nat):Bool:=match t.tks[j]? with
 | some x=>!x.en
 | none=>false
theorem rn_of{t:TS}{j:Nat}{x:Tk}(h:t.tks[j]?=some x):t.rn j=!x.en:=by simp only[TS.rn,h]
structure WI(e:Option Nat)(t:TS):Prop where
 ow1:∀ (k:Nat) x s y,t.tks[k]?=some x->some s∈x.opn->t.scs[s]?=some y->y.ow=k
 nd:∀ (k:Nat) x,t.tks[k]?=some x->(x.opn.filterMap id).Nodup
 mem:∀ (s:Nat) y j,t.scs[s]?=some y->(j∈y.tks↔∃ x,t.tks[j]?=some x/\x.inn=some s)
 mnd:∀ (s:Nat) y,t.scs[s]?=some y->y.tks.Nodup
 lv:∀ (k:Nat) x,t.tks[k]?=some x->x.lv=true->x.en=false/\∃ s y,x.opn.getLast?=some (some s)/\t.scs[s]?=some y/\(0<y.live\/e=some s)
 en:∀ (k:Nat) x,t.tks[k]?=some x->x.en=true->x.opn=[]
 live:∀ (s:Nat) y,t.scs[s]?=some y->y.live=((y.tks.countP t.rn:Nat):Int)
 ov:∀ (s:Nat) y x,t.scs[s]?=some y->t.tks[y.ow]?=some x->(y.ov=false↔some s∈x.opn)
 ov2:∀ (s:Nat) y,t.scs[s]?=some y->y.ov=true->y.live=0
 up:∀ (j:Nat) x s y,t.tks[j]?=some x->x.inn=some s->t.scs[s]?=some y->y.ow<j
section
variable {e e':Option Nat} {t:TS} {c k:Nat}
theorem WI.upT(W:WI e t){x:Tk}(hx:t.tks[k]?=some x){f:Tk->Tk}(h1:(f x).inn=x.inn)(h2:(f x).en=x.en)(ho:∀ s y,some s∈(f x).opn->t.scs[s]?=some y->y.ow=k)(hn:((f x).opn.filterMap id).Nodup)
  (hl:(f x).lv=true->(f x).en=false/\∃ s y,(f x).opn.getLast?=some (some s)/\t.scs[s]?=some y/\(0<y.live\/e'=some s)) (hen:(f x).en=true->(f x).opn=[])
  (hov:∀ s y,t.scs[s]?=some y->y.ow=k->(y.ov=false↔some s∈(f x).opn)) (he:∀ s,e=some s->e'=some s):WI e' (t.upT k f):=by
 have rn:∀ j,(t.upT k f).rn j=t.rn j:=fun j=>by
  simp only[TS.rn]
  rw[upT_get]
  cases hj:t.tks[j]? with
  | none=>rfl
  | some z =>
   simp only[Option.map_some]
   split
   ·rename_i ek;subst ek;rw[hx] at hj;cases hj;rw[h2]
   ·rfl
 have rn':(t.upT k f).rn=t.rn:=funext rn
 refine⟨fun j z s y hz hs hy=>?_,fun j z hz=>?_,fun s y j hy=>?_,W.mnd,fun j z hz hlv=>?_,fun j z hz hen'=>?_,fun s y hy=>?_,fun s y z hy hz=>?_,W.ov2,fun j z s y hz hi hy=>?_⟩
 ·obtain⟨w,hw,⟨rfl,rfl⟩ | ⟨_,rfl⟩⟩:=upT_inv hz
  ·rw[hx] at hw;cases hw;exact ho s y hs hy
  ·exact W.ow1 j z s y hw hs hy
 ·obtain⟨w,hw,⟨rfl,rfl⟩ | ⟨_,rfl⟩⟩:=upT_inv hz
  ·rw[hx] at hw;cases hw;exact hn
  ·exact W.nd j z hw
 ·rw[W.mem s y j hy,upT_get]
  constructor
  ·rintro⟨z,hz,hi⟩
   rw[hz]
   refine⟨_,rfl,?_⟩
   split
   ·rename_i ek;subst ek;rw[hx] at hz;cases hz;rw[h1];exact hi
   ·exact hi
  ·rintro⟨z,hz,hi⟩
   cases hj:t.tks[j]? with
   | none=>rw[hj] at hz;cases hz
   | some w =>
    rw[hj] at hz
    simp only[Option.map_eq_map,Option.map_some,Option.some.injEq] at hz
    refine⟨w,rfl,?_⟩
    split at hz
    ·rename_i ek;subst ek;rw[hx] at hj;cases hj;rw[<- h1,hz];exact hi
    ·rw[hz];exact hi
 ·obtain⟨w,hw,⟨rfl,rfl⟩ | ⟨_,rfl⟩⟩:=upT_inv hz
  ·rw[hx] at hw;cases hw;exact hl hlv
  ·obtain⟨a,s,y,b,c,d⟩:=W.lv j z hw hlv
   exact⟨a,s,y,b,c,d.imp id (he s)⟩
 ·obtain⟨w,hw,⟨rfl,rfl⟩ | ⟨_,rfl⟩⟩:=upT_inv hz
  ·rw[hx] at hw;cases hw;exact hen hen'
  ·exact W.en j z hw hen'
 ·rw[rn'];exact W.live s y hy
 ·obtain⟨w,hw,⟨ek,rfl⟩ | ⟨_,rfl⟩⟩:=upT_inv hz
  ·have hw':=hw
   rw[<- ek,hx] at hw';cases hw';exact hov s y hy ek.symm
  ·exact W.ov s y z hy hw
 ·obtain⟨w,hw,⟨rfl,rfl⟩ | ⟨_,rfl⟩⟩:=upT_inv hz
  ·rw[hx] at hw;cases hw;exact W.up _ _ s y hx (by rw[<- h1];exact hi) hy
  ·exact W.up j z s y hw hi hy
theorem WI.irrS(W:WI e t){f:Sc->Sc}(h1:∀ y,(f y).ow=y.ow)(h2:∀ y,(f y).ov=y.ov)(h3:∀ y,(f y).tks=y.tks)(h4:∀ y,(f y).live=y.live):WI e (t.upS k f):=by
 refine⟨fun j z s y hz hs hy=>?_,W.nd,fun s y j hy=>?_,fun s y hy=>?_,fun j z hz hlv=>?_,W.en,fun s y hy=>?_,fun s y z hy hz=>?_,fun s y hy=>?_,fun j z s y hz hi hy=>?_⟩
 ·obtain⟨w,hw,⟨rfl,rfl⟩ | ⟨_,rfl⟩⟩:=upS_inv hy
  ·rw[h1];exact W.ow1 j z _ w hz hs hw
  ·exact W.ow1 j z s y hz hs hw
 ·obtain⟨w,hw,⟨rfl,rfl⟩ | ⟨_,rfl⟩⟩:=upS_inv hy
  ·rw[h3];exact W.mem _ w j hw
  ·exact W.mem s y j hw
 ·obtain⟨w,hw,⟨rfl,rfl⟩ | ⟨_,rfl⟩⟩:=upS_inv hy
  ·rw[h3];exact W.mnd _ w hw
  ·exact W.mnd s y hw
 ·obtain⟨a,s,y,b,c,d⟩:=W.lv j z hz hlv
  refine⟨a,s,if k=s then f y else y,b,by rw[upS_get,c];rfl,?_⟩
  split
  ·rw[h4];exact d
  ·exact d
 ·obtain⟨w,hw,⟨rfl,rfl⟩ | ⟨_,rfl⟩⟩:=upS_inv hy
  ·rw[h3,h4];exact W.live _ w hw
  ·exact W.live s y hw
 ·obtain⟨w,hw,⟨rfl,rfl⟩ | ⟨_,rfl⟩⟩:=upS_inv hy
  ·rw[h1] at hz;rw[h2];exact W.ov _ w z hw hz
  ·exact W.ov s y z hw hz
 ·obtain⟨w,hw,⟨rfl,rfl⟩ | ⟨_,rfl⟩⟩:=upS_inv hy
  ·rw[h2,h4];exact W.ov2 _ w hw
  ·exact W.ov2 s y hw
 ·obtain⟨w,hw,⟨rfl,rfl⟩ | ⟨_,rfl⟩⟩:=upS_inv hy
  ·rw[h1];exact W.up j z _ w hz hi hw
  ·exact W.up j z s y hz hi hw
theorem countP_same{l:List Nat}{p q:Nat->Bool}(h:∀ j,j∈l->p j=q j):l.countP p=l.countP q:=List.countP_congr fun j hj=>by rw[h j hj]
theorem countP_drop{l:List Nat}{p q:Nat->Bool}{k:Nat}(hn:l.Nodup)(hk:k∈l)(hp:p k=true)(hq:q k=false)(h:∀ j,j≠k->p j=q j):l.countP p=l.countP q+1:=by
 induction l with
 | nil=>cases hk
 | cons a l ih =>
  rw[List.nodup_cons] at hn
  rcases List.mem_cons.1 hk with rfl | hk
  ·rw[List.countP_cons,List.countP_cons,hp,hq,countP_same (l:=l) (p:=p) (q:=q) fun j hj=>h j fun e=>hn.1 (by rw[<- e];exact hj)]
   simp
  ·have:=ih hn.2 hk
   rw[List.countP_cons,List.countP_cons,this,h a fun e=>hn.1 (by rw[e];exact hk)]
   omega
theorem newT_rn{inn:Option Nat}{j:Nat}(h:j<t.tks.length):(t.newT inn).rn j=t.rn j:=by
 simp only[TS.rn,TS.newT,List.getElem?_append_left h]
theorem WI.newT(W:WI e t)(ok:TOk c t):WI e (t.newT none):=by
 refine⟨fun j z s y hz hs hy=>?_,fun j z hz=>?_,fun s y j hy=>?_,W.mnd,fun j z hz hlv=>?_,fun j z hz hen=>?_,fun s y hy=>?_,fun s y z hy hz=>?_,W.ov2,fun j z s y hz hi hy=>?_⟩
 ·rcases newT_get hz with hz | ⟨_,rfl⟩
  ·exact W.ow1 j z s y hz hs hy
  ·cases hs
 ·rcases newT_get hz with hz | ⟨_,rfl⟩
  ·exact W.nd j z hz
  ·exact List.nodup_nil
 ·rw[W.mem s y j hy]
  constructor
  ·rintro⟨x,hx,hi⟩;exact⟨x,newT_old hx,hi⟩
  ·rintro⟨x,hx,hi⟩
   rcases newT_get hx with hx | ⟨_,rfl⟩
   ·exact⟨x,hx,hi⟩
   ·cases hi
 ·rcases newT_get hz with hz | ⟨_,rfl⟩
  ·exact W.lv j z hz hlv
  ·cases hlv
 ·rcases newT_get hz with hz | ⟨_,rfl⟩
  ·exact W.en j z hz hen
  ·cases hen
 ·rw[countP_same fun j hj=>newT_rn (ok.mem s y j hy hj)];exact W.live s y hy
 ·have:=ok.ow s y hy
  rcases newT_get hz with hz | ⟨e1,_⟩
  ·exact W.ov s y z hy hz
  ·omega
 ·rcases newT_get hz with hz | ⟨_,rfl⟩
  ·exact W.up j z s y hz hi hy
  ·cases hi
theorem WI.add(W:WI e t)(ok:TOk c t){s0:Nat}{y0:Sc}(hy0:t.scs[s0]?=some y0)(hov:y0.ov=false)(hl:y0.ow<t.tks.length):WI e (t.add (some s0)):=by
 have eq:t.add (some s0)=⟨t.tks++[Tk0 (some s0)],t.scs.modify s0 fun x=>{ x with tks:=x.tks++[t.tks.length],live:=x.live+1 }⟩:=by
  simp only[TS.add,TS.newT,TS.upS,List.modify_modify_eq]
  rfl
 have es:=congrArg TS.scs eq
 have et:=congrArg TS.tks eq
 simp only at es et
 have hinv:∀ (s:Nat) y,(t.add (some s0)).scs[s]?=some y->∃ w,t.scs[s]?=some w/\((s=s0/\y={ w with tks:=w.tks++[t.tks.length],live:=w.live+1 })\/(s≠s0/\y=w)):=fun s y hy=>by
  rw[es,List.getElem?_modify] at hy
  cases hw:t.scs[s]? with
  | none=>rw[hw] at hy;cases hy
  | some w =>
   rw[hw] at hy
   simp only[Option.map_eq_map,Option.map_some,Option.some.injEq] at hy
   refine⟨w,rfl,?_⟩
   split at hy
   ·rename_i ek;exact .inl ⟨ek.symm,hy.symm⟩
   ·rename_i ek;exact .inr ⟨fun e=>ek e.symm,hy.symm⟩
 have hget:∀ (j:Nat) z,(t.add (some s0)).tks[j]?=some z->(t.tks[j]?=some z)\/(j=t.tks.length/\z=Tk0 (some s0)):=fun j z hz=>by
  rw[eq] at hz;exact newT_get (t:=t) hz
 have hold:∀ {j:Nat} {z},t.tks[j]?=some z->(t.add (some s0)).tks[j]?=some z:=fun hz=>by rw[eq];exact newT_old (t:=t) hz
 have hnew:(t.add (some s0)).tks[t.tks.length]?=some (Tk0 (some s0)):=by rw[eq];exact newT_new (t:=t)
 have hrn:∀ j,j<t.tks.length->(t.add (some s0)).rn j=t.rn j:=fun j hj=>by rw[eq];exact newT_rn (t:=t) hj
 have hrnn:(t.add (some s0)).rn t.tks.length=true:=by rw[rn_of hnew];rfl
 have hcnt:∀ (s:Nat) w,t.scs[s]?=some w->w.tks.countP (t.add (some s0)).rn=w.tks.countP t.rn:=fun s w hw=>countP_same fun j hj=>hrn j (ok.mem s w j hw hj)
 refine⟨fun j z s y hz hs hy=>?_,fun j z hz=>?_,fun s y j hy=>?_,fun s y hy=>?_,fun j z hz hlv=>?_,fun j z hz hen=>?_,fun s y hy=>?_,fun s y z hy hz=>?_,fun s y hy ho=>?_,fun j z s y hz hi hy=>?_⟩
 ·obtain⟨w,hw,h⟩:=hinv s y hy
  have how:y.ow=w.ow:=by rcases h with⟨_,rfl⟩ | ⟨_,rfl⟩<;>rfl
  rw[how]
  rcases hget j z hz with hz | ⟨_,rfl⟩
  ·exact W.ow1 j z s w hz hs hw
  ·cases hs
 ·rcases hget j z hz with hz | ⟨_,rfl⟩
  ·exact W.nd j z hz
  ·exact List.nodup_nil
 ·obtain⟨w,hw,h⟩:=hinv s y hy
  have hm:=W.mem s w j hw
  rcases h with⟨rfl,rfl⟩ | ⟨hne,rfl⟩
  ·simp only[List.mem_append,List.mem_singleton]
   constructor
   ·rintro (h | rfl)
    ·obtain⟨x,hx,hi⟩:=hm.1 h;exact⟨x,hold hx,hi⟩
    ·exact⟨_,hnew,rfl⟩
   ·rintro⟨x,hx,hi⟩
    rcases hget j x hx with hx | ⟨e1,_⟩
    ·exact .inl (hm.2 ⟨x,hx,hi⟩)
    ·exact .inr e1
  ·rw[hm]
   constructor
   ·rintro⟨x,hx,hi⟩;exact⟨x,hold hx,hi⟩
   ·rintro⟨x,hx,hi⟩
    rcases hget j x hx with hx | ⟨e1,rfl⟩
    ·exact⟨x,hx,hi⟩
    ·simp only[Tk0,Option.some.injEq] at hi;exact absurd hi.symm hne
 ·obtain⟨w,hw,⟨rfl,rfl⟩ | ⟨hne,rfl⟩⟩:=hinv s y hy
  ·rw[List.nodup_append]
   refine⟨W.mnd _ w hw,by simp,fun a ha b hb e=>?_⟩
   simp only[List.mem_singleton] at hb
   have:=ok.mem _ w a hw ha
   omega
  ·exact W.mnd s y hw
 ·rcases hget j z hz with hz | ⟨_,rfl⟩
  ·obtain⟨a,s,y,b,c,d⟩:=W.lv j z hz hlv
   refine⟨a,s,if s0=s then { y with tks:=y.tks++[t.tks.length],live:=y.live+1 } else y,b,by rw[es,List.getElem?_modify,c];rfl,?_⟩
   rcases d with d | d
   ·left;split
    ·simp only;omega
    ·exact d
   ·exact .inr d
  ·cases hlv
 ·rcases hget j z hz with hz | ⟨_,rfl⟩
  ·exact W.en j z hz hen
  ·cases hen
 ·obtain⟨w,hw,⟨rfl,rfl⟩ | ⟨hne,rfl⟩⟩:=hinv s y hy
  ·simp only[List.countP_append,List.countP_cons,List.countP_nil,hrnn,hcnt _ w hw,if_true]
   have:=W.live _ w hw
   omega
  ·rw[hcnt s y hw];exact W.live s y hw
 ·obtain⟨w,hw,h⟩:=hinv s y hy
  have hwl:=ok.ow s w hw
  have e1:y.ow=w.ow/\y.ov=w.ov:=by rcases h with⟨_,rfl⟩ | ⟨_,rfl⟩<;>exact⟨rfl,rfl⟩
  rw[e1.1] at hz
  rw[e1.2]
  rcases hget _ z hz with hz | ⟨e2,_⟩
  ·exact W.ov s w z hw hz
  ·omega
 ·obtain⟨w,hw,⟨rfl,rfl⟩ | ⟨hne,rfl⟩⟩:=hinv s y hy
  ·rw[hy0] at hw;cases hw
   simp only at ho
   rw[hov] at ho;cases ho
  ·exact W.ov2 s y hw ho
 ·obtain⟨w,hw,h⟩:=hinv s y hy
  have e1:y.ow=w.ow:=by rcases h with⟨_,rfl⟩ | ⟨_,rfl⟩<;>rfl
  rw[e1]
  rcases hget j z hz with hz | ⟨rfl,rfl⟩
  ·exact W.up j z s w hz hi hw
  ·simp only[Tk0,Option.some.injEq] at hi
   subst hi
   rw[hy0] at hw;cases hw;exact hl
theorem WI.openF(W:WI e t)(ok:TOk c t){x:Tk}(hx:t.tks[k]?=some x)(h1:x.lv=false)(h2:x.en=false)(su:Bool):WI e (t.openF k su):=by
 have hold:∀ {s:Nat} {y},t.scs[s]?=some y->(t.newS k su).scs[s]?=some y:=fun h=>newS_old h
 have rn:(t.openF k su).rn=t.rn:=funext fun j=>by
  simp only[TS.rn,TS.openF]
  rw[upT_get]
  show (match Option.map _ (t.tks[j]?) with | some (x:Tk)=>!x.en | none=>false)=_
  cases hj:t.tks[j]? with
  | none=>rfl
  | some z=>simp only[Option.map_some];split<;>rfl
 have inv:∀ {j:Nat} {z:Tk},(t.openF k su).tks[j]?=some z->∃ w,t.tks[j]?=some w/\((j=k/\z={ w with opn:=w.opn++[some t.scs.length] })\/(j≠k/\z=w)):=fun hz=>by
  obtain⟨w,hw,⟨e1,e2⟩ | ⟨e1,e2⟩⟩:=upT_inv (t:=t.newS k su) hz
  ·exact⟨w,hw,.inl ⟨e1.symm,e2⟩⟩
  ·exact⟨w,hw,.inr ⟨fun e=>e1 e.symm,e2⟩⟩
 have get:∀ {j:Nat} {w:Tk},t.tks[j]?=some w->(t.openF k su).tks[j]?=some (if k=j then { w with opn:=w.opn++[some t.scs.length] } else w):=fun hw=>by
  show (TS.upT (t.newS k su) k _).tks[_]?=_
  rw[upT_get]
  show Option.map _ (t.tks[_]?)=_
  rw[hw];rfl
 have nin:∀ (j:Nat) w,t.tks[j]?=some w->some t.scs.length∉w.opn:=fun j w hw hm=>by have:=ok.opn j w _ hw hm;omega
 refine⟨fun j z s y hz hs hy=>?_,fun j z hz=>?_,fun s y j hy=>?_,fun s y hy=>?_,fun j z hz hlv=>?_,fun j z hz hen=>?_,fun s y hy=>?_,fun s y z hy hz=>?_,fun s y hy ho=>?_,fun j z s y hz hi hy=>?_⟩
 ·obtain⟨w,hw,⟨rfl,rfl⟩ | ⟨hne,rfl⟩⟩:=inv hz
  ·rcases List.mem_append.1 hs with hs | hs
   ·rcases newS_get hy with hy | ⟨rfl,rfl⟩
    ·exact W.ow1 j w s y hw hs hy
    ·rfl
   ·simp only[List.mem_singleton,Option.some.injEq] at hs
    subst hs
    have:y=Sc0 j su:=by
     have:=newS_new (t:=t) (k:=j) (su:=su)
     have hy':(t.newS j su).scs[t.scs.length]?=some y:=hy
     rw[this] at hy';cases hy';rfl
    rw[this];rfl
  ·rcases newS_get hy with hy | ⟨rfl,rfl⟩
   ·exact W.ow1 j z s y hw hs hy
   ·exact absurd hs (nin j z hw)
 ·obtain⟨w,hw,⟨rfl,rfl⟩ | ⟨hne,rfl⟩⟩:=inv hz
  ·simp only[List.filterMap_append]
   rw[List.nodup_append]
   refine⟨W.nd j w hw,by simp,fun a ha b hb e=>?_⟩
   simp only[List.filterMap_cons,List.filterMap_nil,id] at hb
   simp only[List.mem_singleton] at hb
   subst hb;subst e
   obtain⟨v,hv,hv2⟩:=List.mem_filterMap.1 ha
   simp only[id] at hv2
   subst hv2
   exact nin j w hw hv
  ·exact W.nd j z hw
 ·rcases newS_get hy with hy | ⟨rfl,rfl⟩
  ·rw[W.mem s y j hy]
   constructor
   ·rintro⟨z,hz,hi⟩
    refine⟨_,get hz,?_⟩
    split<;>exact hi
   ·rintro⟨z,hz,hi⟩
    obtain⟨w,hw,⟨rfl,rfl⟩ | ⟨hne,rfl⟩⟩:=inv hz
    ·exact⟨w,hw,hi⟩
    ·exact⟨z,hw,hi⟩
  ·simp only[Sc0,List.not_mem_nil,false_iff]
   rintro⟨z,hz,hi⟩
   obtain⟨w,hw,⟨rfl,rfl⟩ | ⟨hne,rfl⟩⟩:=inv hz
   ·have:=ok.inn j w _ hw hi;omega
   ·have:=ok.inn j z _ hw hi;omega
 ·rcases newS_get hy with hy | ⟨rfl,rfl⟩
  ·exact W.mnd s y hy
  ·exact List.nodup_nil
 ·obtain⟨w,hw,⟨rfl,rfl⟩ | ⟨hne,rfl⟩⟩:=inv hz
  ·rw[hx] at hw;cases hw
   simp only at hlv
   rw[h1] at hlv;cases hlv
  ·obtain⟨a,s,y,b,c,d⟩:=W.lv j z hw hlv
   exact⟨a,s,y,b,hold c,d⟩
 ·obtain⟨w,hw,⟨rfl,rfl⟩ | ⟨hne,rfl⟩⟩:=inv hz
  ·rw[hx] at hw;cases hw
   simp only at hen
   rw[h2] at hen;cases hen
  ·exact W.en j z hw hen
 ·rw[rn]
  rcases newS_get hy with hy | ⟨rfl,rfl⟩
  ·exact W.live s y hy
  ·rfl
 ·rcases newS_get hy with hy | ⟨rfl,rfl⟩
  ·have hsl:=gTq hy
   obtain⟨w,hw,⟨e1,rfl⟩ | ⟨hne,rfl⟩⟩:=inv hz
   ·rw[W.ov s y w hy hw]
    simp only[List.mem_append,List.mem_singleton,Option.some.injEq]
    constructor
    ·exact .inl
    ·rintro (h | h)
     ·exact h
     ·omega
   ·exact W.ov s y z hy hw
  ·obtain⟨w,hw,⟨e1,rfl⟩ | ⟨hne,rfl⟩⟩:=inv hz
   ·simp[Sc0]
   ·exact absurd rfl hne
 ·rcases newS_get hy with hy | ⟨rfl,rfl⟩
  ·exact W.ov2 s y hy ho
  ·cases ho
 ·obtain⟨w,hw,h⟩:=inv hz
  have hi':w.inn=some s:=by rcases h with⟨_,rfl⟩ | ⟨_,rfl⟩<;>exact hi
  rcases newS_get hy with hy | ⟨rfl,rfl⟩
  ·exact W.up j w s y hw hi' hy
  ·have:=ok.inn j w _ hw hi';omega
theorem WI.fin0{s:Nat}(W:WI (some s) t){x:Tk}{y:Sc}(hy:t.scs[s]?=some y)(hx:t.tks[y.ow]?=some x)(hg:x.opn.getLast?=some (some s))(hl:y.live<=0):WI none (t.fin0 s y.ow):=by
 have eq:t.fin0 s y.ow=⟨t.tks.modify y.ow fun x=>{ x with opn:=x.opn.dropLast,lv:=false,fk:=0,ft:=⟨#[]⟩ },t.scs.modify s fun y=>{ y with ov:=true }⟩:=by
  simp only[TS.fin0,TS.upT,TS.upS,List.modify_modify_eq]
  rfl
 have es:=congrArg TS.scs eq
 have et:=congrArg TS.tks eq
 simp only at es et
 generalize hk:y.ow=k at *
 have invT:∀ {j:Nat} {z:Tk},(t.fin0 s k).tks[j]?=some z->∃ w,t.tks[j]?=some w/\((j=k/\z={ w with opn:=w.opn.dropLast,lv:=false,fk:=0,ft:=⟨#[]⟩ })\/(j≠k/\z=w)):=fun {j z} hz=>by
  rw[et,List.getElem?_modify] at hz
  cases hw:t.tks[j]? with
  | none=>rw[hw] at hz;cases hz
  | some w =>
   rw[hw] at hz
   simp only[Option.map_eq_map,Option.map_some,Option.some.injEq] at hz
   refine⟨w,rfl,?_⟩
   split at hz
   ·rename_i ek;exact .inl ⟨ek.symm,hz.symm⟩
   ·rename_i ek;exact .inr ⟨fun e=>ek e.symm,hz.symm⟩
 have invS:∀ {j:Nat} {z:Sc},(t.fin0 s k).scs[j]?=some z->∃ w,t.scs[j]?=some w/\((j=s/\z={ w with ov:=true })\/(j≠s/\z=w)):=fun {j z} hz=>by
  rw[es,List.getElem?_modify] at hz
  cases hw:t.scs[j]? with
  | none=>rw[hw] at hz;cases hz
  | some w =>
   rw[hw] at hz
   simp only[Option.map_eq_map,Option.map_some,Option.some.injEq] at hz
   refine⟨w,rfl,?_⟩
   split at hz
   ·rename_i ek;exact .inl ⟨ek.symm,hz.symm⟩
   ·rename_i ek;exact .inr ⟨fun e=>ek e.symm,hz.symm⟩
 have getT:∀ {j:Nat} {w:Tk},t.tks[j]?=some w->∃ z,(t.fin0 s k).tks[j]?=some z/\z.inn=w.inn/\z.en=w.en:=fun {j w} hw=>by
  rw[et,List.getElem?_modify,hw]
  refine⟨_,rfl,?_⟩
  simp only
  split<;>exact⟨rfl,rfl⟩
 have same:∀ {j:Nat} {z w:Sc},((j=s/\z={ w with ov:=true })\/(j≠s/\z=w))->z.ow=w.ow/\z.tks=w.tks/\z.live=w.live:=fun h=>by rcases h with⟨_,rfl⟩ | ⟨_,rfl⟩<;>exact⟨rfl,rfl,rfl⟩
 have rn:(t.fin0 s k).rn=t.rn:=funext fun j=>by
  cases hj:t.tks[j]? with
  | none =>
   have:(t.fin0 s k).tks[j]?=none:=by rw[et,List.getElem?_modify,hj];rfl
   simp only[TS.rn,this,hj]
  | some w =>
   obtain⟨z,hz,_,h2⟩:=getT hj
   rw[rn_of hj,rn_of hz,h2]
 have spl:x.opn=x.opn.dropLast++[some s]:=by
  have hne:x.opn≠[]:=fun e=>by rw[e] at hg;cases hg
  have:=List.dropLast_concat_getLast hne
  rw[List.getLast?_eq_some_getLast hne] at hg
  simp only[Option.some.injEq] at hg
  rw[hg] at this
  exact this.symm
 have ndx:=W.nd k x hx
 rw[spl,List.filterMap_append,List.nodup_append] at ndx
 have notin:some s∉x.opn.dropLast:=fun h=>ndx.2.2 s (List.mem_filterMap.2 ⟨some s,h,rfl⟩) s (by simp) rfl
 refine⟨fun j z s' y' hz hs hy'=>?_,fun j z hz=>?_,fun s' y' j hy'=>?_,fun s' y' hy'=>?_,fun j z hz hlv=>?_,fun j z hz hen=>?_,fun s' y' hy'=>?_,fun s' y' z hy' hz=>?_,fun s' y' hy' ho=>?_,fun j z s' y' hz hi hy'=>?_⟩
 ·obtain⟨w',hw',h'⟩:=invS hy'
  rw[(same h').1]
  obtain⟨w,hw,⟨rfl,rfl⟩ | ⟨hne,rfl⟩⟩:=invT hz
  ·exact W.ow1 j w s' w' hw (List.dropLast_subset _ hs) hw'
  ·exact W.ow1 j z s' w' hw hs hw'
 ·obtain⟨w,hw,⟨rfl,rfl⟩ | ⟨hne,rfl⟩⟩:=invT hz
  ·rw[hx] at hw;cases hw;exact ndx.1
  ·exact W.nd j z hw
 ·obtain⟨w',hw',h'⟩:=invS hy'
  rw[(same h').2.1,W.mem s' w' j hw']
  constructor
  ·rintro⟨w,hw,hi⟩
   obtain⟨z,hz,h1,_⟩:=getT hw
   exact⟨z,hz,by rw[h1];exact hi⟩
  ·rintro⟨z,hz,hi⟩
   obtain⟨w,hw,h⟩:=invT hz
   exact⟨w,hw,by rcases h with⟨_,rfl⟩ | ⟨_,rfl⟩<;>exact hi⟩
 ·obtain⟨w',hw',h'⟩:=invS hy'
  rw[(same h').2.1];exact W.mnd s' w' hw'
 ·obtain⟨w,hw,⟨rfl,rfl⟩ | ⟨hne,rfl⟩⟩:=invT hz
  ·cases hlv
  ·obtain⟨a,s',y',b,c,d⟩:=W.lv j z hw hlv
   have hns:s'≠s:=fun e1=>by
    subst e1
    have:=W.ow1 j z s' y' hw (List.mem_of_getLast? b) c
    rw[hy] at c;cases c
    exact hne (by rw[<- this,hk])
   refine⟨a,s',y',b,by rw[es,List.getElem?_modify,c];simp only[if_neg (Ne.symm hns)];rfl,.inl ?_⟩
   rcases d with d | d
   ·exact d
   ·cases d;exact absurd rfl hns
 ·obtain⟨w,hw,⟨rfl,rfl⟩ | ⟨hne,rfl⟩⟩:=invT hz
  ·have:=W.en j w hw hen
   simp only[this,List.dropLast_nil]
  ·exact W.en j z hw hen
 ·obtain⟨w',hw',h'⟩:=invS hy'
  rw[(same h').2.1,(same h').2.2,rn];exact W.live s' w' hw'
 ·obtain⟨w',hw',h'⟩:=invS hy'
  rw[(same h').1] at hz
  obtain⟨w,hw,hh⟩:=invT hz
  have old:=W.ov s' w' w hw' hw
  rcases h' with⟨rfl,rfl⟩ | ⟨hns,rfl⟩
  ·rw[hy] at hw';cases hw'
   rcases hh with⟨e1,rfl⟩ | ⟨hne,rfl⟩
   ·rw[e1] at hw;rw[hx] at hw;cases hw
    simp only[Bool.true_eq_false,false_iff]
    exact notin
   ·exact absurd hk hne
  ·rcases hh with⟨e1,rfl⟩ | ⟨hne,rfl⟩
   ·rw[old]
    rw[e1,hx] at hw;cases hw
    constructor
    ·intro h
     rw[spl] at h
     rcases List.mem_append.1 h with h | h
     ·exact h
     ·simp only[List.mem_singleton,Option.some.injEq] at h;exact absurd h hns
    ·exact fun h=>List.dropLast_subset _ h
   ·exact old
 ·obtain⟨w',hw',h'⟩:=invS hy'
  rw[(same h').2.2]
  rcases h' with⟨rfl,rfl⟩ | ⟨hns,rfl⟩
  ·rw[hy] at hw';cases hw'
   have:=W.live s' y hy
   omega
  ·exact W.ov2 s' y' hw' ho
 ·obtain⟨w',hw',h'⟩:=invS hy'
  rw[(same h').1]
  obtain⟨w,hw,h⟩:=invT hz
  exact W.up j w s' w' hw (by rcases h with⟨_,rfl⟩ | ⟨_,rfl⟩<;>exact hi) hw'
theorem WI.fin{s:Nat}(W:WI (some s) t)(ok:TOk c t):WI none (t.fin s).1:=by
 unfold TS.fin
 cases hy:t.scs[s]? with
 | none =>
  refine⟨W.ow1,W.nd,W.mem,W.mnd,fun j z hz hlv=>?_,W.en,W.live,W.ov,W.ov2,W.up⟩
  obtain⟨a,s',y',b,c,d⟩:=W.lv j z hz hlv
  refine⟨a,s',y',b,c,?_⟩
  rcases d with d | d
  ·exact .inl d
  ·cases d;rw[hy] at c;cases c
 | some y =>
  obtain⟨x,hx⟩:∃ x,t.tks[y.ow]?=some x:=⟨_,List.getElem?_eq_getElem (ok.ow s y hy)⟩
  simp only[hx]
  split
  ·rename_i hB
   simp only[finB,Bool.and_eq_true,decide_eq_true_eq] at hB
   exact W.fin0 hy hx hB.1.2 hB.2
  ·rename_i hB
   refine⟨W.ow1,W.nd,W.mem,W.mnd,fun j z hz hlv=>?_,W.en,W.live,W.ov,W.ov2,W.up⟩
   obtain⟨a,s',y',b,c,d⟩:=W.lv j z hz hlv
   refine⟨a,s',y',b,c,?_⟩
   rcases d with d | d
   ·exact .inl d
   ·cases d
    rw[hy] at c;cases c
    have:=W.ow1 j z s y hz (List.mem_of_getLast? b) hy
    subst this
    rw[hx] at hz;cases hz
    simp only[finB,hlv,b,Bool.true_and,decide_true,decide_eq_true_eq] at hB
    exact .inl (by omega)
theorem WI.end2(W:WI none t)(ok:TOk c t){x:Tk}(hx:t.tks[k]?=some x)(h1:x.en=false)(h2:x.opn=[]){s:Nat}(hi:x.inn=some s)(fk:Int)(ft:ByteArray):WI (some s) (t.end2 k s fk ft):=by
 have eq:t.end2 k s fk ft=⟨t.tks.modify k fun x=>{ x with en:=true,fk:=fk,ft:=ft },t.scs.modify s fun y=>{ y with live:=y.live-1 }⟩:=by
  simp only[TS.end2,TS.end1,TS.upT,TS.upS,List.modify_modify_eq]
  rfl
 have es:=congrArg TS.scs eq
 have et:=congrArg TS.tks eq
 simp only at es et
 have hlv0:x.lv=false:=by
  cases h:x.lv with
  | false=>rfl
  | true =>
   obtain⟨_,s',y',b,_⟩:=W.lv k x hx h
   rw[h2] at b;cases b
 have invT:∀ {j:Nat} {z:Tk},(t.end2 k s fk ft).tks[j]?=some z->∃ w,t.tks[j]?=some w/\((j=k/\z={ w with en:=true,fk:=fk,ft:=ft })\/(j≠k/\z=w)):=fun {j z} hz=>by
  rw[et,List.getElem?_modify] at hz
  cases hw:t.tks[j]? with
  | none=>rw[hw] at hz;cases hz
  | some w =>
   rw[hw] at hz
   simp only[Option.map_eq_map,Option.map_some,Option.some.injEq] at hz
   refine⟨w,rfl,?_⟩
   split at hz
   ·rename_i ek;exact .inl ⟨ek.symm,hz.symm⟩
   ·rename_i ek;exact .inr ⟨fun e=>ek e.symm,hz.symm⟩
 have invS:∀ {j:Nat} {z:Sc},(t.end2 k s fk ft).scs[j]?=some z->∃ w,t.scs[j]?=some w/\((j=s/\z={ w with live:=w.live-1 })\/(j≠s/\z=w)):=fun {j z} hz=>by
  rw[es,List.getElem?_modify] at hz
  cases hw:t.scs[j]? with
  | none=>rw[hw] at hz;cases hz
  | some w =>
   rw[hw] at hz
   simp only[Option.map_eq_map,Option.map_some,Option.some.injEq] at hz
   refine⟨w,rfl,?_⟩
   split at hz
   ·rename_i ek;exact .inl ⟨ek.symm,hz.symm⟩
   ·rename_i ek;exact .inr ⟨fun e=>ek e.symm,hz.symm⟩
 have getT:∀ {j:Nat} {w:Tk},t.tks[j]?=some w->∃ z,(t.end2 k s fk ft).tks[j]?=some z/\z.inn=w.inn:=fun {j w} hw=>by
  rw[et,List.getElem?_modify,hw]
  refine⟨_,rfl,?_⟩
  simp only
  split<;>rfl
 have same:∀ {j:Nat} {z w:Sc},((j=s/\z={ w with live:=w.live-1 })\/(j≠s/\z=w))->z.ow=w.ow/\z.tks=w.tks/\z.ov=w.ov:=fun h=>by rcases h with⟨_,rfl⟩ | ⟨_,rfl⟩<;>exact⟨rfl,rfl,rfl⟩
 have sameT:∀ {j:Nat} {z w:Tk},((j=k/\z={ w with en:=true,fk:=fk,ft:=ft })\/(j≠k/\z=w))->z.opn=w.opn/\z.inn=w.inn/\z.lv=w.lv:=fun h=>by rcases h with⟨_,rfl⟩ | ⟨_,rfl⟩<;>exact⟨rfl,rfl,rfl⟩
 have rnk:(t.end2 k s fk ft).rn k=false:=by
  have:(t.end2 k s fk ft).tks[k]?=some { x with en:=true,fk:=fk,ft:=ft }:=by rw[et,List.getElem?_modify,hx];simp only[if_true];rfl
  rw[rn_of this];rfl
 have rno:∀ j,j≠k->t.rn j=(t.end2 k s fk ft).rn j:=fun j hj=>by
  simp only[TS.rn,et,List.getElem?_modify,if_neg (Ne.symm hj)]
  cases t.tks[j]?<;>rfl
 have rnt:t.rn k=true:=by rw[rn_of hx,h1];rfl
 have hsl:=ok.inn k x s hx hi
 obtain⟨y,hy⟩:∃ y,t.scs[s]?=some y:=⟨_,List.getElem?_eq_getElem hsl⟩
 have kin:k∈y.tks:=(W.mem s y k hy).2 ⟨x,hx,hi⟩
 have cnt:=countP_drop (W.mnd s y hy) kin rnt rnk rno
 refine⟨fun j z s' y' hz hs hy'=>?_,fun j z hz=>?_,fun s' y' j hy'=>?_,fun s' y' hy'=>?_,fun j z hz hlv=>?_,fun j z hz hen=>?_,fun s' y' hy'=>?_,fun s' y' z hy' hz=>?_,fun s' y' hy' ho=>?_,fun j z s' y' hz hi' hy'=>?_⟩
 ·obtain⟨w',hw',h'⟩:=invS hy'
  obtain⟨w,hw,h⟩:=invT hz
  rw[(same h').1]
  rw[(sameT h).1] at hs
  exact W.ow1 j w s' w' hw hs hw'
 ·obtain⟨w,hw,h⟩:=invT hz
  rw[(sameT h).1];exact W.nd j w hw
 ·obtain⟨w',hw',h'⟩:=invS hy'
  rw[(same h').2.1,W.mem s' w' j hw']
  constructor
  ·rintro⟨w,hw,hi⟩
   obtain⟨z,hz,h1⟩:=getT hw
   exact⟨z,hz,by rw[h1];exact hi⟩
  ·rintro⟨z,hz,hi⟩
   obtain⟨w,hw,h⟩:=invT hz
   exact⟨w,hw,by rw[<- (sameT h).2.1];exact hi⟩
 ·obtain⟨w',hw',h'⟩:=invS hy'
  rw[(same h').2.1];exact W.mnd s' w' hw'
 ·obtain⟨w,hw,h⟩:=invT hz
  rw[(sameT h).2.2] at hlv
  obtain⟨a,s',y',b,c,d⟩:=W.lv j w hw hlv
  have hjk:j≠k:=fun e1=>by subst e1;rw[hx] at hw;cases hw;rw[hlv0] at hlv;cases hlv
  have hzw:z=w:=by
   rcases h with⟨e1,_⟩ | ⟨_,e1⟩
   ·exact absurd e1 hjk
   ·exact e1
  subst hzw
  by_cases e1:s'=s
  ·subst e1
   rw[hy] at c;cases c
   exact⟨a,s',_,b,by rw[es,List.getElem?_modify,hy];simp only[if_true];rfl,.inr rfl⟩
  ·refine⟨a,s',y',b,by rw[es,List.getElem?_modify,c];simp only[if_neg (Ne.symm e1)];rfl,.inl ?_⟩
   rcases d with d | d
   ·exact d
   ·cases d
 ·obtain⟨w,hw,h⟩:=invT hz
  rw[(sameT h).1]
  rcases h with⟨rfl,rfl⟩ | ⟨hne,rfl⟩
  ·rw[hx] at hw;cases hw;exact h2
  ·exact W.en j z hw hen
 ·obtain⟨w',hw',h'⟩:=invS hy'
  have old:=W.live s' w' hw'
  rcases h' with⟨rfl,rfl⟩ | ⟨hns,rfl⟩
  ·rw[hy] at hw';cases hw'
   simp only
   omega
  ·rw[<- countP_same fun j hj=>rno j fun e1=>?_]
   ·exact old
   ·subst e1
    obtain⟨v,hv,hvi⟩:=(W.mem s' y' j hw').1 hj
    rw[hx] at hv;cases hv
    rw[hi] at hvi;cases hvi;exact hns rfl
 ·obtain⟨w',hw',h'⟩:=invS hy'
  rw[(same h').1] at hz
  obtain⟨w,hw,h⟩:=invT hz
  rw[(same h').2.2,(sameT h).1];exact W.ov s' w' w hw' hw
 ·obtain⟨w',hw',h'⟩:=invS hy'
  have ho':=ho
  rw[(same h').2.2] at ho'
  have old:=W.ov2 s' w' hw' ho'
  rcases h' with⟨rfl,rfl⟩ | ⟨hns,rfl⟩
  ·rw[hy] at hw';cases hw'
   have:=W.live s' y hy
   omega
  ·exact old
 ·obtain⟨w',hw',h'⟩:=invS hy'
  rw[(same h').1]
  obtain⟨w,hw,h⟩:=invT hz
  exact W.up j w s' w' hw (by rw[<- (sameT h).2.1];exact hi') hw'
theorem WI.end1(W:WI none t)(ok:TOk c t){x:Tk}(hx:t.tks[k]?=some x)(h1:x.en=false)(h2:x.opn=[])(hi:x.inn=none)(fk:Int)(ft:ByteArray):WI none (t.end1 k fk ft):=by
 have eq:t.end1 k fk ft=⟨t.tks.modify k fun x=>{ x with en:=true,fk:=fk,ft:=ft },t.scs⟩:=by
  simp only[TS.end1,TS.upT,List.modify_modify_eq]
  rfl
 have es:=congrArg TS.scs eq
 have et:=congrArg TS.tks eq
 simp only at es et
 have hlv0:x.lv=false:=by
  cases h:x.lv with
  | false=>rfl
  | true =>
   obtain⟨_,s',y',b,_⟩:=W.lv k x hx h
   rw[h2] at b;cases b
 have invT:∀ {j:Nat} {z:Tk},(t.end1 k fk ft).tks[j]?=some z->∃ w,t.tks[j]?=some w/\((j=k/\z={ w with en:=true,fk:=fk,ft:=ft })\/(j≠k/\z=w)):=fun {j z} hz=>by
  rw[et,List.getElem?_modify] at hz
  cases hw:t.tks[j]? with
  | none=>rw[hw] at hz;cases hz
  | some w =>
   rw[hw] at hz
   simp only[Option.map_eq_map,Option.map_some,Option.some.injEq] at hz
   refine⟨w,rfl,?_⟩
   split at hz
   ·rename_i ek;exact .inl ⟨ek.symm,hz.symm⟩
   ·rename_i ek;exact .inr ⟨fun e=>ek e.symm,hz.symm⟩
 have getT:∀ {j:Nat} {w:Tk},t.tks[j]?=some w->∃ z,(t.end1 k fk ft).tks[j]?=some z/\z.inn=w.inn:=fun {j w} hw=>by
  rw[et,List.getElem?_modify,hw]
  refine⟨_,rfl,?_⟩
  simp only
  split<;>rfl
 have scs:(t.end1 k fk ft).scs=t.scs:=by rw[eq]
 have sameT:∀ {j:Nat} {z w:Tk},((j=k/\z={ w with en:=true,fk:=fk,ft:=ft })\/(j≠k/\z=w))->z.opn=w.opn/\z.inn=w.inn/\z.lv=w.lv:=fun h=>by rcases h with⟨_,rfl⟩ | ⟨_,rfl⟩<;>exact⟨rfl,rfl,rfl⟩
 have rno:∀ j,j≠k->t.rn j=(t.end1 k fk ft).rn j:=fun j hj=>by
  simp only[TS.rn,et,List.getElem?_modify,if_neg (Ne.symm hj)]
  cases t.tks[j]?<;>rfl
 refine⟨fun j z s' y' hz hs hy'=>?_,fun j z hz=>?_,fun s' y' j hy'=>?_,fun s' y' hy'=>?_,fun j z hz hlv=>?_,fun j z hz hen=>?_,fun s' y' hy'=>?_,fun s' y' z hy' hz=>?_,fun s' y' hy' ho=>?_,fun j z s' y' hz hi' hy'=>?_⟩
 all_goals try rw[scs] at hy'
 ·obtain⟨w,hw,h⟩:=invT hz
  rw[(sameT h).1] at hs
  exact W.ow1 j w s' y' hw hs hy'
 ·obtain⟨w,hw,h⟩:=invT hz
  rw[(sameT h).1];exact W.nd j w hw
 ·rw[W.mem s' y' j hy']
  constructor
  ·rintro⟨w,hw,hi⟩
   obtain⟨z,hz,h1⟩:=getT hw
   exact⟨z,hz,by rw[h1];exact hi⟩
  ·rintro⟨z,hz,hi⟩
   obtain⟨w,hw,h⟩:=invT hz
   exact⟨w,hw,by rw[<- (sameT h).2.1];exact hi⟩
 ·exact W.mnd s' y' hy'
 ·obtain⟨w,hw,h⟩:=invT hz
  rw[(sameT h).2.2] at hlv
  obtain⟨a,s',y',b,c,d⟩:=W.lv j w hw hlv
  have hjk:j≠k:=fun e1=>by subst e1;rw[hx] at hw;cases hw;rw[hlv0] at hlv;cases hlv
  have hzw:z=w:=by
   rcases h with⟨e1,_⟩ | ⟨_,e1⟩
   ·exact absurd e1 hjk
   ·exact e1
  subst hzw
  exact⟨a,s',y',b,by rw[scs];exact c,d⟩
 ·obtain⟨w,hw,h⟩:=invT hz
  rw[(sameT h).1]
  rcases h with⟨rfl,rfl⟩ | ⟨hne,rfl⟩
  ·rw[hx] at hw;cases hw;exact h2
  ·exact W.en j z hw hen
 ·rw[<- countP_same fun j hj=>rno j fun e1=>?_]
  ·exact W.live s' y' hy'
  ·subst e1
   obtain⟨v,hv,hvi⟩:=(W.mem s' y' j hy').1 hj
   rw[hx] at hv;cases hv
   rw[hi] at hvi;cases hvi
 ·obtain⟨w,hw,h⟩:=invT hz
  rw[(sameT h).1];exact W.ov s' y' w hy' hw
 ·exact W.ov2 s' y' hy' ho
 ·obtain⟨w,hw,h⟩:=invT hz
  exact W.up j w s' y' hw (by rw[<- (sameT h).2.1];exact hi') hy'
end
end Go.Proofs.Ytahomnlkkafbjaa.tr
namespace Go.Proofs.Ytahomnlkkafbjaa.tr
open Go Go.Ev
theorem run_len(t:TS)(x:OpV):(t.run x).2.length<=1000:=by rw[<- told_run'.2];exact told_len t x
theorem EfV.sl{h:Hp}{lo:Nat}{ρ:Lay}{v:Value}{l:List Ef}(a:EfV h lo ρ v l):SlG h v l.length 5 (efC l):=by
 rcases a with⟨rfl,rfl⟩ | ⟨a1,o,a2,a3,_⟩
 ·exact⟨rfl,none,0,rfl,fun e=>absurd rfl e⟩
 ·exact⟨efC_len l,_,_,a2,fun _=>⟨o,[],true,rfl,rfl,by rw[List.append_nil];exact a3⟩⟩
end Go.Proofs.Ytahomnlkkafbjaa.tr
namespace Go.Proofs.Ytahomnlkkafbjaa.tr
open Go Go.Ev
section
variable {e:Option Nat} {t:TS} {c k:Nat}
theorem WI.irrT(W:WI e t){f:Tk->Tk}(h1:∀ x,(f x).inn=x.inn)(h2:∀ x,(f x).opn=x.opn)(h3:∀ x,(f x).lv=x.lv)(h4:∀ x,(f x).en=x.en):WI e (t.upT k f):=by
 cases hx:t.tks[k]? with
 | none =>
  have:t.upT k f=t:=by
   simp only[TS.upT]
   rw[List.modify_eq_self]
   exact List.getElem?_eq_none_iff.1 hx
  rw[this];exact W
 | some x =>
  refine W.upT hx (h1 x) (h4 x) (fun s y hs hy=>W.ow1 k x s y hx (by rw[<- h2];exact hs) hy) (by rw[h2];exact W.nd k x hx) (fun hl=>?_) (fun he=>by rw[h2];exact W.en k x hx (by rw[<- h4];exact he)) (fun s y hy ho=>by rw[h2];exact W.ov s y x hy (by rw[ho];exact hx)) fun _ h=>h
  rw[h3] at hl
  rw[h4,h2];exact W.lv k x hx hl
theorem WI.root(W:WI e t)(ok:TOk c t):WI e t.root.1:=by
 unfold TS.root
 split
 ·exact W
 ·exact W.newT ok
theorem open_ov(W:WI e t){x:Tk}{s:Nat}{y:Sc}(hx:t.tks[k]?=some x)(hs:some s∈x.opn)(hy:t.scs[s]?=some y):y.ov=false/\y.ow=k:=by
 have h:=W.ow1 k x s y hx hs hy
 exact⟨(W.ov s y x hy (by rw[h];exact hx)).2 hs,h⟩
theorem WI.spawn(W:WI e t)(ok:TOk c t)(n:Int):WI e (t.spawn n).1:=by
 unfold TS.spawn
 split
 ·exact W
 ·split
  ·exact W
  ·rename_i x hx
   split
   ·exact W
   ·rename_i s hs
    split
    ·exact W
    ·have hm:=inmost_mem hs
     obtain⟨y,hy⟩:∃ y,t.scs[s]?=some y:=⟨_,List.getElem?_eq_getElem (ok.opn _ x s hx hm)⟩
     obtain⟨h1,h2⟩:=open_ov W hx hm hy
     exact W.add ok hy h1 (by rw[h2];exact gTq hx)
theorem WI.open(W:WI e t)(ok:TOk c t)(n:Int)(su:Bool):WI e (t.open n su).1:=by
 unfold TS.open
 split
 ·exact W
 ·rename_i k e' hq
  split
  ·exact W
  ·obtain⟨_,_,x,hx,he,hl⟩:=acts_some hq
   exact W.openF ok hx hl he su
theorem WI.shield(W:WI e t)(n:Int):WI e (t.shield n).1:=by
 unfold TS.shield
 split
 ·exact W
 ·rename_i k e' hq
  obtain⟨_,_,x,hx,he,hl⟩:=acts_some hq
  rw[hx]
  simp only
  split
  ·exact W
  ·have mm:∀ s:Nat,some s∈x.opn++[none]↔some s∈x.opn:=fun s=>by simp
   refine W.upT hx rfl rfl (fun s y hs hy=>W.ow1 k x s y hx ((mm s).1 hs) hy) ?_ (fun h=>by simp only at h;rw[hl] at h;cases h) (fun h=>by simp only at h;rw[he] at h;cases h) (fun s y hy ho=>by rw[mm s];exact W.ov s y x hy (by rw[ho];exact hx)) fun _ h=>h
   simp only[List.filterMap_append,List.filterMap_cons,List.filterMap_nil,id,List.append_nil]
   exact W.nd k x hx
theorem WI.unveil(W:WI e t)(n:Int):WI e (t.unveil n).1:=by
 unfold TS.unveil
 split
 ·exact W
 ·rename_i k e' hq
  obtain⟨_,_,x,hx,he,hl⟩:=acts_some hq
  rw[hx]
  simp only
  split
  ·rename_i hg
   have spl:x.opn=x.opn.dropLast++[none]:=by
    have hne:x.opn≠[]:=fun e=>by rw[e] at hg;cases hg
    have:=List.dropLast_concat_getLast hne
    rw[List.getLast?_eq_some_getLast hne] at hg
    simp only[Option.some.injEq] at hg
    rw[hg] at this
    exact this.symm
   have mm:∀ s:Nat,some s∈x.opn.dropLast↔some s∈x.opn:=fun s=>by
    constructor
    ·exact fun h=>List.dropLast_subset _ h
    ·intro h;rw[spl] at h;simpa using h
   refine W.upT hx rfl rfl (fun s y hs hy=>W.ow1 k x s y hx ((mm s).1 hs) hy) ?_ (fun h=>by simp only at h;rw[hl] at h;cases h) (fun h=>by simp only at h;rw[he] at h;cases h) (fun s y hy ho=>by rw[mm s];exact W.ov s y x hy (by rw[ho];exact hx)) fun _ h=>h
   have:=W.nd k x hx
   rw[spl] at this
   simpa using this
  ·exact W
theorem WI.blame(W:WI e t)(s:Nat)(fk:Int)(ft:ByteArray):WI e (t.blame s fk ft).1:=by
 unfold TS.blame
 split
 ·split
  ·exact W.irrS (fun _=>rfl) (fun _=>rfl) (fun _=>rfl) fun _=>rfl
  ·exact W
 ·exact W
theorem WI.fail(W:WI e t)(n fk:Int)(ft:ByteArray):WI e (t.fail n fk ft).1:=by
 unfold TS.fail
 split
 ·exact W
 ·split
  ·exact W
  ·split
   ·exact W
   ·split
    ·exact W.blame _ _ _
    ·exact W
theorem WI.leave1(W:WI none t){x:Tk}{s:Nat}{y:Sc}(hx:t.tks[k]?=some x)(he:x.en=false)(hg:x.opn.getLast?=some (some s))(hy:t.scs[s]?=some y)(fk:Int)(ft:ByteArray):WI (some s) (t.leave1 k s fk ft):=by
 have W1:=W.blame s fk ft
 have hx1:(t.blame s fk ft).1.tks[k]?=some x:=by rw[blame_tks];exact hx
 obtain⟨y',hy',h1,h2,h3,h4,h5⟩:=blame_get (s:=s) (fk:=fk) (ft:=ft) hy
 unfold TS.leave1
 refine (WI.upT (e':=some s) W1 hx1 (f:=fun x=>{ x with lv:=true }) rfl rfl (fun s y hs hy=>W1.ow1 k x s y hx1 hs hy) (W1.nd k x hx1) (fun _=>⟨he,s,y',hg,hy',.inr rfl⟩) (fun h=>W1.en k x hx1 h) (fun s y hy ho=>W1.ov s y x hy (by rw[ho];exact hx1)) fun _ h=>by cases h).irrT (fun _=>rfl) (fun _=>rfl) (fun _=>rfl) fun _=>rfl
theorem WI.leave(W:WI none t)(ok:TOk c t)(n fk:Int)(ft:ByteArray):WI none (t.leave n fk ft).1:=by
 unfold TS.leave
 split
 ·exact W
 ·rename_i k e' hq
  obtain⟨_,_,x,hx,he⟩:=runs_some hq
  split
  ·exact W
  ·rw[hx]
   simp only
   split
   ·rename_i s hl hg
    split
    ·rename_i y hy
     exact (W.leave1 hx he hg hy fk ft).fin ok.leave1
    ·exact W
   ·exact W
theorem WI.end(W:WI none t)(ok:TOk c t)(n fk:Int)(ft:ByteArray):WI none (t.end n fk ft).1:=by
 unfold TS.end
 split
 ·exact W
 ·rename_i k e' hq
  obtain⟨_,_,x,hx,he⟩:=runs_some hq
  split
  ·exact W
  ·rw[hx]
   simp only
   split
   ·exact W
   ·rename_i ho
    have ho':x.opn=[]:=Classical.byContradiction ho
    split
    ·rename_i hi
     exact W.end1 ok hx he ho' hi fk ft
    ·rename_i s hi
     split
     ·exact W
     ·rename_i y hy
      have W2:=W.end2 ok hx he ho' hi fk ft
      have ok3:=ok.end3 (k:=k) (s:=s) (y:=y) (fk:=fk) (ft:=ft)
      refine WI.fin (c:=c+1) ?_ ok3
      unfold TS.end3
      split
      ·exact W2
      ·exact W2.blame _ _ _
theorem WI.run(W:WI none t)(ok:TOk c t)(o:OpV):WI none (t.run o).1:=by
 unfold TS.run
 repeat' split
 ·exact W.open ok _ _
 ·exact W.spawn ok _
 ·exact W.end ok _ _ _
 ·exact W.leave ok _ _ _
 ·exact W.shield _
 ·exact W.unveil _
 ·exact W.fail _ _ _
 ·exact W.root ok
 ·exact W
theorem WI.runL:∀ {l:List OpV} {t:TS} {c:Nat},WI none t->TOk c t->WI none (t.runL l)
 | [],t,c,W,ok=>W
 | o::l,t,c,W,ok=>WI.runL (l:=l) (W.run ok o) (ok.run (o:=o))
theorem WI.roots(n:Nat):WI none (TS.roots n):=by
 have g:∀ (k:Nat) x,(TS.roots n).tks[k]?=some x->x=Tk0 none:=fun k x hx=>List.eq_of_mem_replicate (List.mem_of_getElem? hx)
 have s:∀ (k:Nat) y,¬ (TS.roots n).scs[k]?=some y:=fun k y h=>by simp[TS.roots] at h
 refine⟨fun k x s' y _ _ hy=>absurd hy (s _ _),fun k x hx=>by rw[g k x hx];exact List.nodup_nil,fun s' y j hy=>absurd hy (s _ _),fun s' y hy=>absurd hy (s _ _),fun k x hx hl=>?_,fun k x hx he=>?_,fun s' y hy=>absurd hy (s _ _),fun s' y x hy=>absurd hy (s _ _),fun s' y hy=>absurd hy (s _ _),fun j x s' y _ _ hy=>absurd hy (s _ _)⟩
 ·rw[g k x hx] at hl;cases hl
 ·rw[g k x hx] at he;cases he
end
section
variable {cnt:List Int} {t t':TS} {c k:Nat}
end
end Go.Proofs.Ytahomnlkkafbjaa.tr
namespace Go.Proofs.Ytahomnlkkafbjaa.tr
open Go Go.Ev
abbrev Pr:=Int×Int
def prC(p:Pr):List Value:=[iV p.1,iV p.2]
def prL(l:List Pr):List Value:=(l.map prC).flatten
def lkP(v:Option Nat):Pr:=(lkK v,lkN v)
theorem prL_cons(p:Pr)(l:List Pr):prL (p::l)=prC p++prL l:=rfl
theorem prL_app(l m:List Pr):prL (l++m)=prL l++prL m:=by simp[prL]
theorem prL_len:∀ l:List Pr,(prL l).length=l.length*2
 | []=>rfl
 | p::l=>by rw[prL_cons,List.length_append,prL_len l];simp[prC];omega
theorem prL_at:∀ {l:List Pr} {k:Nat} {p:Pr} (junk:List Value),l[k]?=some p->((prL l++junk).drop (k*2)).take 2=prC p
 | [],k,p,_,h=>by simp at h
 | q::l,0,p,_,h=>by simp at h;subst h;simp[prL_cons,prC]
 | q::l,k+1,p,junk,h=>by
  have:=prL_at (l:=l) (k:=k) (p:=p) junk (by simpa using h)
  rw[prL_cons,List.append_assoc,List.drop_append,List.drop_of_length_le (by simp[prC];omega),List.nil_append,show (k+1)*2-(prC q).length=k*2 by simp[prC];omega]
  exact this
section
variable {h:Hp}
end
section
variable {g g':Hp} {ρ ρ':Lay} {t t':TS} {b o f:Nat} {ops:List OpV} {cnt:List Int} {c:Nat}
end
end Go.Proofs.Ytahomnlkkafbjaa.tr
namespace Go.Proofs.Ytahomnlkkafbjaa.tr
open Go Go.Ev
def ixO(v:Option Nat):List (Option Nat)->Nat
 | []=>0
 | x::l=>if x=v then 0 else ixO v l+1
theorem ixO_at{v:Option Nat}:∀ {l:List (Option Nat)} {k:Nat},l[k]?=some v->(∀ j,j<k->l[j]?≠some v)->ixO v l=k
 | [],k,h,_=>by simp at h
 | x::l,0,h,_=>by simp at h;simp[ixO,h]
 | x::l,k+1,h,hn=>by
  have h0:=hn 0 (by omega)
  simp at h0
  have:=ixO_at (l:=l) (k:=k) (by simpa using h) fun j hj=>by have:=hn (j+1) (by omega);simpa using this
  simp[ixO,h0,this]
theorem ixO_lt{v:Option Nat}:∀ {l:List (Option Nat)},v∈l->ixO v l<l.length
 | x::l,h=>by
  simp only[ixO]
  split
  ·simp
  ·rename_i c
   rcases List.mem_cons.1 h with h | h
   ·exact absurd h.symm c
   ·have:=ixO_lt h
    simp;omega
theorem stat19(k:Nat)(hk:k=0\/k=1\/k=2\/k=3):(Asm.stat (drawN Try.f19 k)).holds Try.prog:=by
 rcases hk with rfl | rfl | rfl | rfl
 ·exact show statOk (drawN Try.f19 0)=true by kernel_rfl
 ·exact show statOk (drawN Try.f19 1)=true by kernel_rfl
 ·exact show statOk (drawN Try.f19 2)=true by kernel_rfl
 ·exact show statOk (drawN Try.f19 3)=true by kernel_rfl
section
variable {h:Hp} {ρ:Lay} {t:TS} {c r:Nat}
theorem indexS_run(a:TAt h ρ t){k s si:Nat}{x:Tk}{oa:Option Addr}{za:Nat}(hx:t.tks[k]?=some x)(hsi:ρ (.sc s)=some si)(hin:∀ s,some s∈x.opn->s<t.scs.length)(hb:x.opn.length<=1000000)(hs:some s∈x.opn)(hv:slv (ρ (.op k)) x.opn.length=.slice oa x.opn.length za) :
  Run Try.prog 44 [.slice oa x.opn.length za,ptr si] h (iV (ixO (some s) x.opn:Nat)) h:=by
 have loop:∀ (j i:Nat) (E:Env),i+j=x.opn.length->EnvLe [(8,iV (i:Int)),(7,iV (Int.ofNat x.opn.length)),(0,.slice oa x.opn.length za),(1,ptr si)] E->(∀ j,j<i->x.opn[j]?≠some (some s)) ->
   ∃ E1,EnvLe [(4,iV (ixO (some s) x.opn:Nat))] E1/\LRun Try.prog 19 false (loopN Try.f44 0) E h .ret E1 h:=by
  intro j
  induction j with
  | zero =>
   intro i E hi hE hn
   obtain⟨k',hk'⟩:=List.mem_iff_getElem?.1 hs
   exact absurd hk' (hn k' (by have:=gTq hk';omega))
  | succ j ih =>
   intro i E hi hE hn
   obtain⟨w,hw⟩:∃ w,x.opn[i]?=some w:=⟨_,List.getElem?_eq_getElem (by omega)⟩
   cases ho:ρ (.op k) with
   | none=>have:=a.sh.op k x hx ho;rw[this] at hi;simp at hi
   | some o =>
   rw[ho] at hv
   cases hv
   have B1:(Asm.cmp .lss (i:Int) (Int.ofNat x.opn.length) true).holds Try.prog:=ltT (by simp;omega)
   have B2:(Asm.off i 0 (i:Int) x.opn.length 1).holds Try.prog:=offI (q:=i) rfl (by omega) (by omega)
   have B3:(Asm.ld1 (.is h) o i (inP ρ w)).holds Try.prog:=a.ld1 rfl ho (by rw[cont_op hx,List.getElem?_map,hw];rfl)
   have B9:(Asm.arith .add .i64 (i:Int) 1 ((i+1:Nat):Int)).holds Try.prog:=addI rfl (by omega) (by omega)
   have nx:∀ {E2:Env},w≠some s->EnvLe [(8,iV ((i+1:Nat):Int)),(7,iV (Int.ofNat x.opn.length)),(0,.slice (some ⟨o,0,none⟩) x.opn.length 1),(1,ptr si)] E2->CRun Try.prog 19 false (loopN Try.f44 0) E h .normal E2 h->∃ E1,EnvLe [(4,iV (ixO (some s) x.opn:Nat))] E1/\LRun Try.prog 19 false (loopN Try.f44 0) E h .ret E1 h:=fun hne h1 h2=>by
    obtain⟨E3,s1,s2⟩:=ih (i+1) _ (by omega) h1 fun m hm e=>by
     by_cases e1:m=i
     ·subst e1;rw[hw] at e;cases e;exact hne rfl
     ·exact hn m (by omega) e
    exact⟨E3,s1,.step h2 s2⟩
   cases w with
   | none =>
    obtain⟨E2,q1,q2⟩:=pvK 0 hE (r38p.ig_nil none o x.opn.length 0 si 0 i i ((i+1:Nat):Int) h) ⟨B1,B2,B3,B9,trivial⟩
    exact nx (by simp) (tR q1) q2
   | some s' =>
    have hs':=hin s' (List.mem_of_getElem? hw)
    obtain⟨yi,hyi⟩:=a.sh.sc s' hs'
    simp only[inP,hyi,pvv] at B3
    obtain⟨c1,ho1⟩:=a.own hsi
    obtain⟨c2,ho2⟩:=a.own hyi
    by_cases e:s'=s
    ·subst e
     rw[hsi] at hyi;cases hyi
     obtain⟨E2,q1,q2⟩:=pvK 0 hE (r38p.ig_eq none o x.opn.length 0 si si i i 0 h) ⟨B1,B2,B3,⟨95,7,c1,c2,und91,siz95,ho1,ho2,.inl ⟨rfl,by simp⟩⟩,trivial⟩
     refine⟨E2,?_,.last q2 (by simp)⟩
     rw[ixO_at hw hn]
     exact tR q1
    ·have hne:si≠yi:=fun e1=>by subst e1;have:=a.inj _ _ _ hsi hyi;cases this;exact e rfl
     obtain⟨E2,q1,q2⟩:=pvK 0 hE (r38p.ig_ne none o x.opn.length 0 si yi i i ((i+1:Nat):Int) h) ⟨B1,B2,B3,⟨95,7,c1,c2,und91,siz95,ho1,ho2,.inl ⟨rfl,by simp[hne]⟩⟩,B9,trivial⟩
     exact nx (by simpa using e) (tR q1) q2
 obtain⟨E1,q1,q2⟩:=loop x.opn.length 0 [(8,iV (0:Nat)),(7,iV (Int.ofNat x.opn.length)),(0,.slice oa x.opn.length za),(1,ptr si)] (by omega) (EnvLe.refl _) (fun j hj=>absurd hj (Nat.not_lt_zero _))
 exact pvF 0 Try.func44 (r38p.ig_f oa x.opn.length za si _ h h) ⟨a_loop (by kernel_rfl) (.add (.add (.add (.add (.nil _) rfl) rfl) rfl) rfl) q1 q2,trivial⟩
structure Acc(h:Hp)(b8:Nat)(g:Hp)(v:Value)(acc:List Pr):Prop where
 keep:Keep (fun _=>False) h g
 lo:h.length<=b8
 box:g[b8]?=some (.cells [v] true)
 sl:SlV g (b8+1) v acc.length 2 (prL acc)
def fpA(b8:Nat)(v:Value)(q:Nat):Prop:=q=b8\/∃ n z,v=.slice (some ⟨q,0,none⟩) n z
theorem Acc.grow{b8:Nat}{g g':Hp}{v:Value}{acc:List Pr}(A:Acc h b8 g v acc)(K:Keep (fun _=>False) g g'):Acc h b8 g' v acc:=⟨A.keep.trans K,A.lo,K.2 _ _ A.box id,A.sl.keep K fun _ e=>e.elim⟩
theorem Acc.setL{b8 L:Nat}{g:Hp}{v:Value}{acc:List Pr}(A:Acc h b8 g v acc)(hL:h.length<=L){st:LoopState}{pd:Option Code}{E:Env}{n:Nat}{ps:Array Tmp}{x y:Code}(hl:g[L]?=some (.loop st pd E n ps x y))(o:AObj):Acc h b8 (g.set L o) v acc:=by
 refine⟨A.keep.setN hL _,A.lo,gNq A.box (fun e=>by subst e;rw[A.box] at hl;cases hl),?_⟩
 rcases A.sl with s | ⟨a1,a2,w,a3,a4,a5⟩
 ·exact .inl s
 ·exact .inr ⟨a1,a2,w,a3,gNq a4 (fun e=>by subst e;rw[a4] at hl;cases hl),a5⟩
theorem Acc.notL{b8 L:Nat}{g:Hp}{v:Value}{acc:List Pr}(A:Acc h b8 g v acc){st:LoopState}{pd:Option Code}{E:Env}{n:Nat}{ps:Array Tmp}{x y:Code}(hl:g[L]?=some (.loop st pd E n ps x y)):¬ fpA b8 v L:=by
 rintro (rfl | ⟨n',z',e⟩)
 ·rw[A.box] at hl;cases hl
 ·rcases A.sl with⟨_,_,e'⟩ | ⟨a1,a2,w,a3,a4,a5⟩
  ·rw[e'] at e;cases e
  ·rw[a3] at e;cases e
   rw[a4] at hl;cases hl
theorem Acc.notB{b8 q:Nat}{g:Hp}{v sl:Value}{acc:List Pr}(A:Acc h b8 g v acc)(hl:g[q]?=some (.cells [sl] true))(hn:q≠b8):¬ fpA b8 v q:=by
 rintro (rfl | ⟨n',z',e⟩)
 ·exact hn rfl
 ·rcases A.sl with⟨_,_,e'⟩ | ⟨a1,a2,w,a3,a4,a5⟩
  ·rw[e'] at e;cases e
  ·rw[a3] at e;cases e
   rw[a4] at hl
   have:=congrArg List.length (AObj.cells.inj (Option.some.inj hl)).1
   rw[prL_len] at this
   simp at this
   omega
theorem Acc.appN{b8:Nat}{g:Hp}{v:Value}(A:Acc h b8 g v [])(p:Pr) :
  Acc h b8 (((g++[AObj.cells (prC p) true])++[AObj.cells (prC p) true]).set b8 (.cells [.slice (some ⟨g.length+1,0,none⟩) 1 2] true)) (.slice (some ⟨g.length+1,0,none⟩) 1 2) [p] /\
  Keep (fpA b8 v) g (((g++[AObj.cells (prC p) true])++[AObj.cells (prC p) true]).set b8 (.cells [.slice (some ⟨g.length+1,0,none⟩) 1 2] true)):=by
 have bl:=get_lt A.box
 have kl:=A.keep.1
 refine⟨⟨(((A.keep.pushN _).pushN _).setN A.lo _),A.lo,gE (gP (gP A.box)),.inr ⟨by simp,by simp[prL,prC],g.length+1,rfl,?_,by omega⟩⟩,?_⟩
 ·exact gNq (gV _ (by simp)) (by omega)
 ·exact ((Keep.push _ _ _).trans (Keep.push _ _ _)).trans (Keep.set (fp:=fpA b8 v) (.inl rfl) _)
theorem Acc.appS{b8 w:Nat}{g:Hp}{acc:List Pr}(A:Acc h b8 g (.slice (some ⟨w,0,none⟩) acc.length 2) acc)(hw:g[w]?=some (.cells (prL acc) true))(hl:b8+1<=w)(p:Pr) :
  Acc h b8 ((((g++[AObj.cells (prC p) true]).set w .dead)++[AObj.cells (prL acc++prC p) true]).set b8 (.cells [.slice (some ⟨g.length+1,0,none⟩) (acc.length+1) 2] true)) (.slice (some ⟨g.length+1,0,none⟩) (acc.length+1) 2) (acc++[p]) /\
  Keep (fpA b8 (.slice (some ⟨w,0,none⟩) acc.length 2)) g ((((g++[AObj.cells (prC p) true]).set w .dead)++[AObj.cells (prL acc++prC p) true]).set b8 (.cells [.slice (some ⟨g.length+1,0,none⟩) (acc.length+1) 2] true)):=by
 have bl:=get_lt A.box
 have kl:=A.keep.1
 have lo:=A.lo
 have ll:=prL_len acc
 have hb2:((g++[AObj.cells (prC p) true]).set w .dead)[b8]?=some (.cells [.slice (some ⟨w,0,none⟩) acc.length 2] true):=gNq (gP A.box) (by omega)
 refine⟨⟨((((A.keep.pushN _).setN (by omega) _).pushN _).setN A.lo _),A.lo,gE (gP hb2),.inr ⟨by simp,by rw[prL_app];simp[prL,prC] at ll ⊢;omega,g.length+1,by simp,?_,by omega⟩⟩,?_⟩
 ·rw[prL_app]
  exact gNq (gV _ (by simp)) (by omega)
 ·exact (((Keep.push _ _ _).trans (Keep.set (fp:=fpA b8 (.slice (some ⟨w,0,none⟩) acc.length 2)) (.inr ⟨_,_,rfl⟩) _)).trans (Keep.push _ _ _)).trans (Keep.set (.inl rfl) _)
theorem Acc.cases{b8:Nat}{g:Hp}{v:Value}{acc:List Pr}(A:Acc h b8 g v acc):(acc=[]/\v=.slice none 0 0)\/(acc≠[]/\∃ w,v=.slice (some ⟨w,0,none⟩) acc.length 2/\g[w]?=some (.cells (prL acc) true)/\b8+1<=w):=by
 rcases A.sl with⟨a1,_,a2⟩ | ⟨a1,_,w,a3,a4,a5⟩
 ·exact .inl ⟨List.length_eq_zero_iff.1 a1,a2⟩
 ·exact .inr ⟨fun e=>a1 (by rw[e];rfl),w,a3,a4,a5⟩
theorem Acc.vr{b8:Nat}{g:Hp}{v:Value}{acc:List Pr}(A:Acc h b8 g v acc):veqR v=true:=by
 rcases A.cases with⟨_,e⟩ | ⟨_,w,e,_⟩<;>rw[e]<;>rfl
def TS.chainG(t:TS):Nat->Nat->Nat->List Pr
 | 0,_,_=>[]
 | f+1,k,top=>match t.tks[k]? with
  | none=>[]
  | some x=>((x.opn.take top).reverse.map lkP++[(1,((k+1:Nat):Int))])++match x.inn with
   | none=>[]
   | some s=>match t.scs[s]? with
    | none=>[]
    | some y=>match t.tks[y.ow]? with
     | none=>[]
     | some z=>lkP (some s)::t.chainG f y.ow (ixO (some s) z.opn)
def TS.chain(t:TS)(n:Int):List Pr×Int:=match t.runs n with
 | (none,e)=>([],e)
 | (some k,_)=>match t.tks[k]? with
  | some x=>(t.chainG (k+1) k x.opn.length,0)
  | none=>([],6)
noncomputable def CAS:Code:=partC Try.f19 [1,1,1,1,1,0,0,0,0,1,0,0]
noncomputable def CBD:Code:=partC Try.f19 [1,1,1,1,1,0,0,0,0,1,0,1]
theorem body19:Try.f19.body=some (chainT [partC Try.f19 [0],partC Try.f19 [1,0],partC Try.f19 [1,1,0],partC Try.f19 [1,1,1,0],partC Try.f19 [1,1,1,1,0]] (.block 0 (.loop (loopN Try.f19 0)))):=by kernel_rfl
theorem bodyL19:loopN Try.f19 0=.block 1 (.seq (.seq (partC Try.f19 [1,1,1,1,1,0,0,0,0,0]) (.block 2 (.rangeFunc (.tmp 32) #[33,34] CAS CBD))) (partC Try.f19 [1,1,1,1,1,0,0,0,1])):=by kernel_rfl
theorem ch_body(a:TAt h ρ t){b8:Nat}{g:Hp}{v:Value}{acc:List Pr}(A:Acc h b8 g v acc)(hb:acc.length<=100000)(w:Option Nat)(hw:∀ s,w=some s->s<t.scs.length){E:Env}(hE:EnvLe [(11,inP ρ w),(8,ptr b8)] E) :
  ∃ E' g' v',CRun Try.prog 84 true CBD E g .normal E' g'/\Acc h b8 g' v' (acc++[lkP w])/\Keep (fpA b8 v) g g':=by
 obtain⟨g2,r1,K2⟩:=link_run (a.grow A.keep) w hw
 have A2:=A.grow K2
 have l2:=K2.1
 have ga:(Asm.again (.is g) 33 (.pointer (some ⟨b8,0,none⟩)) v).holds Try.prog:=a_again1 agg33 A.box rfl A.vr
 have gb:(Asm.again (.is g2) 33 (.pointer (some ⟨b8,0,none⟩)) v).holds Try.prog:=a_again1 agg33 A2.box rfl A.vr
 have gl:(Asm.ld1 (.is g) b8 0 v).holds Try.prog:=aL A.box rfl
 rcases A.cases with⟨rfl,rfl⟩ | ⟨hne,o,rfl,_,_⟩
 ·obtain⟨A3,L3⟩:=A2.appN (lkP w)
  obtain⟨E2,q1,q2⟩:=pvK 0 hE (r38p.ch_bn b8 g2.length (g2.length+1) 0 0 (lkK w) (lkN w) (inP ρ w) [] (prC (lkP w)) [.slice (some ⟨g2.length+1,0,none⟩) 1 2] g g2)
   ⟨stat19 0 (by simp),ga,ga,gb,gl,r1,rfl,a_appGN rfl rfl (by omega) (gW _ _) (pL _ _),a_st (gP (gP A2.box)) (by simp) rfl,trivial⟩
  exact⟨E2,_,_,q2,A3,(K2.mono fun _ _ e=>e.elim).trans L3⟩
 ·rcases A2.cases with⟨e,_⟩ | ⟨_,o',eo,ho,hlo⟩
  ·exact absurd e hne
  cases eo
  obtain⟨A3,L3⟩:=A2.appS ho hlo (lkP w)
  have lo:=A2.lo
  obtain⟨E2,q1,q2⟩:=pvC 0 hE (r38p.ch_bs b8 g2.length (g2.length+1) o acc.length (lkK w) (lkN w) (inP ρ w) (prL acc++prC (lkP w)) (prC (lkP w)) [.slice (some ⟨g2.length+1,0,none⟩) (acc.length+1) 2] g g2)
   ⟨stat19 0 (by simp),ga,ga,gb,gl,r1,rfl,a_appGS rfl rfl (by omega) (by omega) (prL_len _) (gP ho) (gW _ _) (pL _ _),a_st (gP (gNq (gP A2.box) (by omega))) (by simp) rfl,trivial⟩
  exact⟨E2,_,_,q2,A3,(K2.mono fun _ _ e=>e.elim).trans L3⟩
theorem ch_links(a:TAt h ρ t)(ok:TOk c t)(hc:c<=1000){k ki b8 top:Nat}{x:Tk}(hx:t.tks[k]?=some x)(hki:ρ (.tk k)=some ki)(htop:top<=x.opn.length){g:Hp}{v:Value}{acc:List Pr}(A:Acc h b8 g v acc)(hb:acc.length<=70000){E:Env}(hE:EnvLe [(6,ptr ki),(9,iV (Int.ofNat top)),(8,ptr b8)] E) :
  ∃ E' g' v',EnvLe [(6,ptr ki),(9,iV (Int.ofNat top)),(8,ptr b8)] E'/\CRun Try.prog 84 false (.seq (partC Try.f19 [1,1,1,1,1,0,0,0,0,0]) (.block 2 (.rangeFunc (.tmp 32) #[33,34] CAS CBD))) E g .normal E' g'/\Acc h b8 g' v' (acc++(x.opn.take top).reverse.map lkP):=by
 have ag:=a.grow A.keep
 have hlen:=ok.len k x hx
 have Lo:(Asm.ld1 (.is g) ki 2 (slv (ρ (.op k)) x.opn.length)).holds Try.prog:=ag.ld1 rfl hki (by rw[cT hx];rfl)
 have pre:∃ E3 sl,EnvLe [(32,.func (.func 67) #[] #[ptr g.length]),(6,ptr ki),(9,iV (Int.ofNat top)),(8,ptr b8)] E3/\CRun Try.prog 84 false (partC Try.f19 [1,1,1,1,1,0,0,0,0,0]) E g .normal E3 (g++[.cells [sl] true]) /\
   (((x.opn.take top).map (inP ρ)=[]/\sl=.slice none 0 0)\/∃ o,ρ (.op k)=some o/\sl=.slice (some ⟨o,0,none⟩) top 1):=by
  cases ho:ρ (.op k) with
  | none =>
   have e0:=a.sh.op k x hx ho
   rw[e0] at htop
   have t0:top=0:=by simpa using htop
   subst t0
   rw[ho,e0] at Lo
   obtain⟨E3,q1,q2⟩:=pvC 1 hE (r38p.ch_r6n ki b8 g.length 0 0 0 g) ⟨Lo,rfl,trivial⟩
   exact⟨E3,_,tR q1,q2,.inl ⟨rfl,rfl⟩⟩
  | some o =>
   rw[ho] at Lo
   obtain⟨E3,q1,q2⟩:=pvC 1 hE (r38p.ch_r6 ki b8 g.length o x.opn.length top g) ⟨Lo,a_cut htop,rfl,trivial⟩
   exact⟨E3,_,tR q1,q2,.inr ⟨o,rfl,rfl⟩⟩
 obtain⟨E3,sl,hE3,c1,hsl⟩:=pre
 obtain⟨g4,hg4⟩:∃ g4,g4=g++[AObj.cells [sl] true]:=⟨_,rfl⟩
 rw[<- hg4] at c1
 have l4:g4.length=g.length+1:=by rw[hg4];simp
 have A4:Acc h b8 g4 v acc:=by rw[hg4];exact A.grow (Keep.push _ _ _)
 have b3:g4[g.length]?=some (.cells [sl] true):=by rw[hg4];exact gW _ _
 obtain⟨lpR,hR⟩:∃ lp:AObj,lp=.loop .ready none E3 84 #[33,34] CAS CBD:=⟨_,rfl⟩
 have hgl:=A.keep.1
 have vl:((x.opn.take top).map (inP ρ)).length=top:=by simp;omega
 obtain⟨g5,r1,r2⟩:=backward_run (bb:=g.length) (L:=g4.length) (vals:=(x.opn.take top).map (inP ρ)) (sl:=sl) (by rw[vl];omega)
  (fun j g'=>∃ v',Acc h b8 g' v' (acc++((x.opn.take top).drop j).reverse.map lkP)/\g'[g4.length]?=some lpR/\g'[g.length]?=some (.cells [sl] true)/\g4.length<g'.length)
  (fun _=>False)
  (fun j g' ⟨v',h1,h2,h3,h4⟩=>h3)
  (by
   rcases hsl with h0 | ⟨o,ho,rfl⟩
   ·exact .inl h0
   ·refine .inr ⟨o,by rw[vl],fun j g' m v ⟨v',h1,h2,h3,h4⟩ hv=>?_⟩
    obtain⟨junk,hj⟩:=(a.grow h1.keep).obj _ _ ho
    rw[cont_op hx] at hj
    refine⟨_,true,hj,?_⟩
    rw[List.map_take] at hv
    have hm:=gTq hv
    rw[List.length_take] at hm
    rw[List.getElem?_take_of_lt (by omega)] at hv
    rw[List.getElem?_append_left (gTq hv)];exact hv)
  (fun j v g' hv ⟨v',h1,h2,h3,h4⟩=>by
   left
   rw[List.getElem?_map] at hv
   cases hw:(x.opn.take top)[j]? with
   | none=>rw[hw] at hv;cases hv
   | some w =>
    rw[hw] at hv
    simp only[Option.map_some,Option.some.injEq] at hv
    subst hv
    have hmem:w∈x.opn:=List.mem_of_mem_take (List.mem_of_getElem? hw)
    have hlp:g'[g4.length]?=some (.loop .ready none E3 84 #[33,34] CAS CBD):=by rw[h2,hR]
    obtain⟨E4,u1,u2⟩:=pvC 0 (((EnvLe.trans (.add (.add (.add (.nil _) rfl) rfl) rfl) hE3:EnvLe [(6,ptr ki),(9,iV (Int.ofNat top)),(8,ptr b8)] E3).cons 33 (iV j)).cons 34 (inP ρ w)) (r38p.ch_as ki b8 (Int.ofNat top) j (inP ρ w) g') trivial
    have u2':CRun Try.prog 84 true CAS ((34,inP ρ w)::(33,iV j)::E3) g' .normal E4 g':=u2
    have Ab:=h1.setL (L:=g4.length) (by have:=A4.keep.1;omega) hlp (.loop .busy none E3 84 #[33,34] CAS CBD)
    have bl:(acc++((x.opn.take top).drop (j+1)).reverse.map lkP).length<=100000:=by simp;omega
    obtain⟨E5,g6,v6,w1,w2,w3⟩:=ch_body a Ab bl w (fun s e=>ok.opn k x s hx (by rw[<- e];exact hmem)) (E:=E4) (.trans (.add (.add (.nil _) rfl) rfl) u1)
    have hb6:=w3.2 _ _ (gE hlp) (Ab.notL (gE hlp))
    refine⟨_,RunR.go hlp rfl rfl u2' hlp w1 hb6 rfl,v6,?_,?_,?_,?_⟩
    ·have hd:(x.opn.take top).drop j=w::(x.opn.take top).drop (j+1):=by
      have hjl:=gTq hw
      rw[List.drop_eq_getElem_cons hjl]
      rw[List.getElem?_eq_getElem hjl] at hw
      rw[Option.some.inj hw]
     rw[hd,List.reverse_cons,List.map_append,List.map_cons,List.map_nil,<- List.append_assoc]
     exact w2.setL (L:=g4.length) (by have:=A4.keep.1;omega) hb6 _
    ·rw[hR];exact gE hb6
    ·have e3:(g'.set g4.length (.loop .busy none E3 84 #[33,34] CAS CBD))[g.length]?=some (.cells [sl] true):=gNq h3 (by omega)
     exact gNq (w3.2 _ _ e3 (Ab.notB e3 (by have:=get_lt A.box;omega))) (by omega)
    ·have:=w3.1
     simp only[List.length_set] at this ⊢
     omega)
  (g0:=g4++[lpR]) ⟨v,by
   rw[vl,List.drop_of_length_le (by simp;omega)]
   simpa using A4.grow (Keep.push _ _ _),gW _ _,gP b3,by simp⟩
 rcases r2 with⟨v',h1,h2,h3,h4⟩ | h
 ·have hgv:evalO E3 (.tmp 32)=some (.func (.func 67) #[] #[ptr g.length]):=hE3 32 _ rfl
  have c2:CRun Try.prog 84 false (.rangeFunc (.tmp 32) #[33,34] CAS CBD) E3 g4 .normal E3 (g5.set g4.length .dead):=CRun.range (pend:=none) hgv (by rw[hR] at r1;exact r1) (by rw[h2,hR]) rfl
  refine⟨E3,_,v',.trans (.add (.add (.add (.nil _) rfl) rfl) rfl) hE3,CRun.seq c1 (CRun.blockN 2 c2),?_⟩
  rw[hR] at h2
  have:=h1.setL (L:=g4.length) (by have:=A4.keep.1;omega) h2 .dead
  simpa using this
 ·exact h.elim
end
end Go.Proofs.Ytahomnlkkafbjaa.tr
namespace Go.Proofs.Ytahomnlkkafbjaa.tr
open Go Go.Ev
section
variable {h:Hp} {ρ:Lay} {t:TS} {c r:Nat}
theorem WI.above(W:WI none t)(ok:TOk c t){k s:Nat}{x:Tk}(hx:t.tks[k]?=some x)(he:x.en=false)(hi:x.inn=some s) :
  ∃ y z,t.scs[s]?=some y/\t.tks[y.ow]?=some z/\y.ov=false/\some s∈z.opn/\z.en=false/\y.ow<k:=by
 obtain⟨y,hy⟩:∃ y,t.scs[s]?=some y:=⟨_,List.getElem?_eq_getElem (ok.inn k x s hx hi)⟩
 obtain⟨z,hz⟩:∃ z,t.tks[y.ow]?=some z:=⟨_,List.getElem?_eq_getElem (ok.ow s y hy)⟩
 have hk:k∈y.tks:=(W.mem s y k hy).2 ⟨x,hx,hi⟩
 have hov:y.ov=false:=by
  cases ho:y.ov with
  | false=>rfl
  | true =>
   have h0:=W.ov2 s y hy ho
   rw[W.live s y hy] at h0
   have h1:y.tks.countP t.rn=0:=by omega
   rw[List.countP_eq_zero] at h1
   exact absurd (by rw[rn_of hx,he];rfl) (h1 k hk)
 have hin:=(W.ov s y z hy hz).1 hov
 refine⟨y,z,hy,hz,hov,hin,?_,W.up k x s y hx hi hy⟩
 cases hen:z.en with
 | false=>rfl
 | true=>rw[W.en _ z hz hen] at hin;cases hin
theorem chain_loop(a:TAt h ρ t)(ok:TOk c t)(hc:c<=1000)(W:WI none t){b8:Nat} :
  ∀ (f k:Nat) (x:Tk) (ki top:Nat) (E:Env) (g:Hp) (v:Value) (acc:List Pr),k<f->t.tks[k]?=some x->x.en=false->ρ (.tk k)=some ki->top<=x.opn.length->acc.length+f*1002<=70000->Acc h b8 g v acc ->
   EnvLe [(6,ptr ki),(9,iV (Int.ofNat top)),(8,ptr b8)] E ->
   ∃ E1 g' v',EnvLe [(4,v'),(5,iV 0)] E1/\LRun Try.prog 84 false (loopN Try.f19 0) E g .ret E1 g'/\Acc h b8 g' v' (acc++t.chainG f k top):=by
 intro f
 induction f with
 | zero=>intro k x ki top E g v acc hk;omega
 | succ f ih =>
  intro k x ki top E g v acc hk hx he hki htop hacc A hE
  have n64:=ok.n64
  have hlen:=ok.len k x hx
  obtain⟨E1,g1,v1,e1,c1,A1⟩:=ch_links a ok hc hx hki htop A (by omega) hE
  have tl:((x.opn.take top).reverse.map lkP).length<=1000:=by simp;omega
  obtain⟨acc1,hacc1⟩:∃ acc1,acc1=acc++(x.opn.take top).reverse.map lkP:=⟨_,rfl⟩
  rw[<- hacc1] at A1
  have l1:acc1.length<=acc.length+1000:=by rw[hacc1,List.length_append];omega
  have ag:=a.grow A1.keep
  have S1:(Asm.ld1 (.is g1) b8 0 v1).holds Try.prog:=aL A1.box rfl
  have S2:(Asm.ld1 (.is g1) ki 0 (iV ((k+1:Nat):Int))).holds Try.prog:=ag.ld1 rfl hki (by rw[cT hx];rfl)
  have main:∀ (g2:Hp) (z m:Nat),Acc h b8 g2 (.slice (some ⟨z,0,none⟩) (m+1) 2) (acc1++[(1,((k+1:Nat):Int))]) ->
    (x.inn=none->∃ E2,EnvLe [(4,.slice (some ⟨z,0,none⟩) (m+1) 2),(5,iV 0)] E2/\CRun Try.prog 84 false (partC Try.f19 [1,1,1,1,1,0,0,0,1]) E1 g1 .ret E2 g2) ->
    (∀ s y zz,x.inn=some s->t.scs[s]?=some y->t.tks[y.ow]?=some zz->y.ov=false->some s∈zz.opn->zz.en=false->y.ow<k->∃ E2 g4 v4 oi,ρ (.tk y.ow)=some oi/\EnvLe [(6,ptr oi),(9,iV (Int.ofNat (ixO (some s) zz.opn))),(8,ptr b8)] E2/\CRun Try.prog 84 false (partC Try.f19 [1,1,1,1,1,0,0,0,1]) E1 g1 .normal E2 g4/\Acc h b8 g4 v4 (acc1++[(1,((k+1:Nat):Int))]++[lkP (some s)])) ->
    ∃ E1' g' v',EnvLe [(4,v'),(5,iV 0)] E1'/\LRun Try.prog 84 false (loopN Try.f19 0) E g .ret E1' g'/\Acc h b8 g' v' (acc++t.chainG (f+1) k top):=by
   intro g2 z m A2 hroot hinn
   cases hi:x.inn with
   | none =>
    obtain⟨E2,w1,w2⟩:=hroot hi
    refine⟨E2,g2,_,w1,.last (by rw[bodyL19];exact CRun.blockR 1 (CRun.seq c1 w2)) (by simp),?_⟩
    have:acc++t.chainG (f+1) k top=acc1++[(1,((k+1:Nat):Int))]:=by simp only[TS.chainG,hx,hi,List.append_nil,hacc1,List.append_assoc]
    rw[this];exact A2
   | some s =>
    obtain⟨y,zz,hy,hz,hov,hin,hen,hlt⟩:=W.above ok hx he hi
    obtain⟨E2,g4,v4,oi,w0,w1,w2,w3⟩:=hinn s y zz hi hy hz hov hin hen hlt
    have ixl:=ixO_lt hin
    obtain⟨E5,g5,v5,u1,u2,u3⟩:=ih y.ow zz oi (ixO (some s) zz.opn) E2 g4 v4 _ (by omega) hz hen w0 (by omega) (by simp only[List.length_append,List.length_singleton];omega) w3 w1
    refine⟨E5,g5,v5,u1,.step (by rw[bodyL19];exact CRun.blockN 1 (CRun.seq c1 w2)) u2,?_⟩
    have:acc++t.chainG (f+1) k top=acc1++[(1,((k+1:Nat):Int))]++[lkP (some s)]++t.chainG f y.ow (ixO (some s) zz.opn):=by
     rw[TS.chainG]
     simp only[hx,hi,hy,hz,hacc1,List.append_assoc,List.singleton_append,List.cons_append,List.nil_append]
    rw[this];exact u3
  have inn:∀ {s si oi:Nat} {y:Sc} {zz:Tk} {g2:Hp} {z m:Nat},t.scs[s]?=some y->t.tks[y.ow]?=some zz->some s∈zz.opn->x.inn=some s->ρ (.sc s)=some si->ρ (.tk y.ow)=some oi->m<=72000->(acc1++[((1:Int),((k+1:Nat):Int))]).length=m+1 ->
    Acc h b8 g2 (.slice (some ⟨z,0,none⟩) (m+1) 2) (acc1++[(1,((k+1:Nat):Int))]) ->
    ∃ g3 g4 oa za,Run Try.prog 40 [ptr si] g2 (.agg #[iV (lkK (some s)),iV (lkN (some s))]) g3/\g3[z]?=some (.cells (prL (acc1++[(1,((k+1:Nat):Int))])) true)/\b8+1<=z/\g3[b8]?=some (.cells [.slice (some ⟨z,0,none⟩) (m+1) 2] true) /\
     g4=((((g3++[AObj.cells (prC (lkP (some s))) true]).set z .dead)++[AObj.cells (prL (acc1++[(1,((k+1:Nat):Int))])++prC (lkP (some s))) true]).set b8 (.cells [.slice (some ⟨g3.length+1,0,none⟩) (m+1+1) 2] true)) /\
     Acc h b8 g4 (.slice (some ⟨g3.length+1,0,none⟩) (m+1+1) 2) (acc1++[(1,((k+1:Nat):Int))]++[lkP (some s)])/\slv (ρ (.op y.ow)) zz.opn.length=.slice oa zz.opn.length za /\
     Run Try.prog 44 [.slice oa zz.opn.length za,ptr si] g4 (iV (ixO (some s) zz.opn:Nat)) g4:=by
   intro s si oi y zz g2 z m hy hz hin hi hsi hoi hm hl A2
   have hsl:=ok.inn k x s hx hi
   obtain⟨g3,r1,K3⟩:=link_run (a.grow A2.keep) (some s) (fun s' e=>by cases e;exact hsl)
   simp only[inP,hsi,pvv] at r1
   have A3:=A2.grow K3
   rcases A3.cases with⟨e,_⟩ | ⟨_,o',eo,ho,hlo⟩
   ·rw[e] at hl;simp at hl
   rw[hl] at eo
   cases eo
   rw[<- hl] at A3
   obtain⟨A4,_⟩:=A3.appS ho hlo (lkP (some s))
   rw[hl] at A3 A4
   have lzz:=ok.len _ zz hz
   obtain⟨oa,za,ev,_⟩:=slv_ex (ρ (.op y.ow)) zz.opn.length (fun e=>by rw[a.sh.op _ zz hz e];rfl)
   exact⟨g3,_,oa,za,r1,ho,hlo,A3.box,rfl,A4,ev,indexS_run (a.grow A4.keep) hz hsi (fun s' hs'=>ok.opn _ zz s' hz hs') (by omega) hin ev⟩
  rcases A1.cases with⟨e0,rfl⟩ | ⟨hne,w,rfl,hw,hlo⟩
  ·rw[e0] at A1 main inn
   have hS:=A1.appN (1,((k+1:Nat):Int))
   obtain⟨A2,_⟩:=hS
   have D1:(Asm.appNil (.push (.is g1) (.cells [iV 1,iV ((k+1:Nat):Int)] true)) g1.length 0 1 0 2 16 (prC (1,((k+1:Nat):Int))) (g1.length+1)).holds Try.prog:=a_appGN rfl rfl (by omega) (gW _ _) (pL _ _)
   have D2:(Asm.st (.push (.push (.is g1) (.cells [iV 1,iV ((k+1:Nat):Int)] true)) (.cells (prC (1,((k+1:Nat):Int))) true)) b8 0 [.slice (some ⟨g1.length+1,0,none⟩) 1 2] [.slice (some ⟨g1.length+1,0,none⟩) 1 2]).holds Try.prog:=a_st (gP (gP A1.box)) (by simp) rfl
   obtain⟨g2,hg2⟩:∃ g2,g2=((g1++[AObj.cells (prC (1,((k+1:Nat):Int))) true])++[AObj.cells (prC (1,((k+1:Nat):Int))) true]).set b8 (.cells [.slice (some ⟨g1.length+1,0,none⟩) 1 2] true):=⟨_,rfl⟩
   rw[<- hg2] at A2
   have ag2:=a.grow A2.keep
   refine main g2 (g1.length+1) 0 A2 (fun hi=>?_) (fun s y zz hi hy hz hov hin hen hlt=>?_)
   ·obtain⟨E2,q1,q2⟩:=pvK 0 e1 (r38p.ch_pon_root ki b8 g1.length (g1.length+1) 0 0 0 0 0 0 0 0 none ((k+1:Nat):Int) 0 0 (Int.ofNat top) 0 [] (prC (1,((k+1:Nat):Int))) [.slice (some ⟨g1.length+1,0,none⟩) 1 2] [] [] [] g1 g1 g1)
     ⟨stat19 1 (by simp),S1,S2,rfl,D1,D2,ag2.ld1 (by rw[hg2];rfl) hki (by rw[cT hx,tkC,hi];rfl),aL (by rw[<- show g2[b8]?=_ from A2.box,hg2];rfl) rfl,trivial⟩
    exact⟨E2,tR q1,by rw[hg2];exact q2⟩
   ·have hsl:=ok.inn k x s hx hi
    obtain⟨si,hsi⟩:=a.sh.sc s hsl
    obtain⟨oi,hoi⟩:=a.sh.tk _ (ok.ow s y hy)
    obtain⟨g3,g4,oa,za,r1,i1,i2,i3,i4,A4,i5,r2⟩:=inn (m:=0) hy hz hin hi hsi hoi (by omega) rfl A2
    have ag4:=a.grow A4.keep
    have vr:veqR (.slice (some ⟨g1.length+1,0,none⟩) (0+1) 2)=true:=rfl
    have T1:∀ (s':SH),s'.den=g2->(Asm.ld1 s' ki 1 (ptr si)).holds Try.prog:=fun s' e=>by
     have:=ag2.ld1 (P:=Try.prog) (s:=s') e hki (d:=1) (v:=inP ρ x.inn) (by rw[cT hx];rfl)
     rw[hi] at this;simp only[inP,hsi,pvv] at this;exact this
    have T4:∀ (s':SH),s'.den=g4->(Asm.ld1 s' ki 1 (ptr si)).holds Try.prog:=fun s' e=>by
     have:=ag4.ld1 (P:=Try.prog) (s:=s') e hki (d:=1) (v:=inP ρ x.inn) (by rw[cT hx];rfl)
     rw[hi] at this;simp only[inP,hsi,pvv] at this;exact this
    have T5:∀ (s':SH),s'.den=g4->(Asm.ld1 s' si 1 (ptr oi)).holds Try.prog:=fun s' e=>by
     have:=ag4.ld1 (P:=Try.prog) (s:=s') e hsi (d:=1) (v:=pvv (ρ (.tk y.ow))) (by rw[cSq hy];rfl)
     rwa [hoi] at this
    have T6:∀ (s':SH),s'.den=g4->(Asm.ld1 s' oi 2 (.slice oa zz.opn.length za)).holds Try.prog:=fun s' e=>by
     rw[<- i5];exact ag4.ld1 e hoi (by rw[cT hz];rfl)
    have T0:∀ (s':SH),s'.den=g2->(Asm.again s' 33 (.pointer (some ⟨b8,0,none⟩)) (.slice (some ⟨g1.length+1,0,none⟩) (0+1) 2)).holds Try.prog:=fun s' e=>a_again1 agg33 (by rw[e];exact A2.box) rfl vr
    have lo:=A2.lo
    obtain⟨E2,q1,q2⟩:=pvK 0 e1 (r38p.ch_pon_in ki b8 g1.length (g1.length+1) 0 0 g3.length (g3.length+1) si oi zz.opn.length za oa ((k+1:Nat):Int) (lkK (some s)) (lkN (some s)) (Int.ofNat top) (ixO (some s) zz.opn:Nat) [] (prC (1,((k+1:Nat):Int))) [.slice (some ⟨g1.length+1,0,none⟩) 1 2] (prL ([]++[(1,((k+1:Nat):Int))])++prC (lkP (some s))) (prC (lkP (some s))) [.slice (some ⟨g3.length+1,0,none⟩) (0+1+1) 2] g1 g3 g4)
     ⟨stat19 1 (by simp),S1,S2,rfl,D1,D2,T1 _ (by rw[hg2];rfl),stat19 2 (by simp),T0 _ (by rw[hg2];rfl),T0 _ (by rw[hg2];rfl),a_again1 agg33 i3 rfl vr,aL (by rw[<- show g2[b8]?=_ from A2.box,hg2];rfl) rfl,T1 _ (by rw[hg2];rfl),by rw[hg2] at r1;exact r1,rfl,
      a_appGS rfl rfl (by omega) (by omega) (prL_len _) (gP i1) (gW _ _) (pL _ _),a_st (gP (gNq (gP i3) (by omega))) (by simp) rfl,stat19 3 (by simp),T4 _ (by rw[i4];rfl),T5 _ (by rw[i4];rfl),T6 _ (by rw[i4];rfl),T4 _ (by rw[i4];rfl),by rw[i4] at r2 ⊢;exact r2,T4 _ rfl,T5 _ rfl,trivial⟩
    exact⟨E2,g4,_,oi,hoi,tR q1,q2,A4⟩
  ·have hS:=A1.appS hw hlo (1,((k+1:Nat):Int))
   obtain⟨A2,_⟩:=hS
   have lo:=A1.lo
   have D1:(Asm.app (.push (.is g1) (.cells [iV 1,iV ((k+1:Nat):Int)] true)) w 0 acc1.length g1.length 0 1 0 2 16 (prL acc1++prC (1,((k+1:Nat):Int))) (prC (1,((k+1:Nat):Int))) (g1.length+1)).holds Try.prog:=a_appGS rfl rfl (by omega) (by omega) (prL_len _) (gP hw) (gW _ _) (pL _ _)
   have D2:(Asm.st (.push (.set (.push (.is g1) (.cells [iV 1,iV ((k+1:Nat):Int)] true)) w .dead) (.cells (prL acc1++prC (1,((k+1:Nat):Int))) true)) b8 0 [.slice (some ⟨g1.length+1,0,none⟩) (acc1.length+1) 2] [.slice (some ⟨g1.length+1,0,none⟩) (acc1.length+1) 2]).holds Try.prog:=a_st (gP (gNq (gP A1.box) (by omega))) (by simp) rfl
   obtain⟨g2,hg2⟩:∃ g2,g2=((((g1++[AObj.cells (prC (1,((k+1:Nat):Int))) true]).set w .dead)++[AObj.cells (prL acc1++prC (1,((k+1:Nat):Int))) true]).set b8 (.cells [.slice (some ⟨g1.length+1,0,none⟩) (acc1.length+1) 2] true)):=⟨_,rfl⟩
   rw[<- hg2] at A2
   have ag2:=a.grow A2.keep
   refine main g2 (g1.length+1) acc1.length A2 (fun hi=>?_) (fun s y zz hi hy hz hov hin hen hlt=>?_)
   ·obtain⟨E2,q1,q2⟩:=pvK 0 e1 (r38p.ch_pos_root ki b8 g1.length (g1.length+1) w acc1.length 0 0 0 0 0 0 none ((k+1:Nat):Int) 0 0 (Int.ofNat top) 0 (prL acc1++prC (1,((k+1:Nat):Int))) (prC (1,((k+1:Nat):Int))) [.slice (some ⟨g1.length+1,0,none⟩) (acc1.length+1) 2] [] [] [] g1 g1 g1)
     ⟨stat19 1 (by simp),S1,S2,rfl,D1,D2,ag2.ld1 (by rw[hg2];rfl) hki (by rw[cT hx,tkC,hi];rfl),aL (by rw[<- show g2[b8]?=_ from A2.box,hg2];rfl) rfl,trivial⟩
    exact⟨E2,tR q1,by rw[hg2];exact q2⟩
   ·have hsl:=ok.inn k x s hx hi
    obtain⟨si,hsi⟩:=a.sh.sc s hsl
    obtain⟨oi,hoi⟩:=a.sh.tk _ (ok.ow s y hy)
    obtain⟨g3,g4,oa,za,r1,i1,i2,i3,i4,A4,i5,r2⟩:=inn (m:=acc1.length) hy hz hin hi hsi hoi (by omega) (by simp) A2
    have ag4:=a.grow A4.keep
    have vr:veqR (.slice (some ⟨g1.length+1,0,none⟩) (acc1.length+1) 2)=true:=rfl
    have T1:∀ (s':SH),s'.den=g2->(Asm.ld1 s' ki 1 (ptr si)).holds Try.prog:=fun s' e=>by
     have:=ag2.ld1 (P:=Try.prog) (s:=s') e hki (d:=1) (v:=inP ρ x.inn) (by rw[cT hx];rfl)
     rw[hi] at this;simp only[inP,hsi,pvv] at this;exact this
    have T4:∀ (s':SH),s'.den=g4->(Asm.ld1 s' ki 1 (ptr si)).holds Try.prog:=fun s' e=>by
     have:=ag4.ld1 (P:=Try.prog) (s:=s') e hki (d:=1) (v:=inP ρ x.inn) (by rw[cT hx];rfl)
     rw[hi] at this;simp only[inP,hsi,pvv] at this;exact this
    have T5:∀ (s':SH),s'.den=g4->(Asm.ld1 s' si 1 (ptr oi)).holds Try.prog:=fun s' e=>by
     have:=ag4.ld1 (P:=Try.prog) (s:=s') e hsi (d:=1) (v:=pvv (ρ (.tk y.ow))) (by rw[cSq hy];rfl)
     rwa [hoi] at this
    have T6:∀ (s':SH),s'.den=g4->(Asm.ld1 s' oi 2 (.slice oa zz.opn.length za)).holds Try.prog:=fun s' e=>by
     rw[<- i5];exact ag4.ld1 e hoi (by rw[cT hz];rfl)
    have T0:∀ (s':SH),s'.den=g2->(Asm.again s' 33 (.pointer (some ⟨b8,0,none⟩)) (.slice (some ⟨g1.length+1,0,none⟩) (acc1.length+1) 2)).holds Try.prog:=fun s' e=>a_again1 agg33 (by rw[e];exact A2.box) rfl vr
    obtain⟨E2,q1,q2⟩:=pvK 0 e1 (r38p.ch_pos_in ki b8 g1.length (g1.length+1) w acc1.length g3.length (g3.length+1) si oi zz.opn.length za oa ((k+1:Nat):Int) (lkK (some s)) (lkN (some s)) (Int.ofNat top) (ixO (some s) zz.opn:Nat) (prL acc1++prC (1,((k+1:Nat):Int))) (prC (1,((k+1:Nat):Int))) [.slice (some ⟨g1.length+1,0,none⟩) (acc1.length+1) 2] (prL (acc1++[(1,((k+1:Nat):Int))])++prC (lkP (some s))) (prC (lkP (some s))) [.slice (some ⟨g3.length+1,0,none⟩) (acc1.length+1+1) 2] g1 g3 g4)
     ⟨stat19 1 (by simp),S1,S2,rfl,D1,D2,T1 _ (by rw[hg2];rfl),stat19 2 (by simp),T0 _ (by rw[hg2];rfl),T0 _ (by rw[hg2];rfl),a_again1 agg33 i3 rfl vr,aL (by rw[<- show g2[b8]?=_ from A2.box,hg2];rfl) rfl,T1 _ (by rw[hg2];rfl),by rw[hg2] at r1;exact r1,rfl,
      a_appGS rfl rfl (by omega) (by omega) (by rw[prL_len];simp) (gP i1) (gW _ _) (pL _ _),a_st (gP (gNq (gP i3) (by omega))) (by simp) rfl,stat19 3 (by simp),T4 _ (by rw[i4];rfl),T5 _ (by rw[i4];rfl),T6 _ (by rw[i4];rfl),T4 _ (by rw[i4];rfl),by rw[i4] at r2 ⊢;exact r2,T4 _ rfl,T5 _ rfl,trivial⟩
    exact⟨E2,g4,_,oi,hoi,tR q1,q2,A4⟩
theorem chain_run(a:TAt h ρ t)(ok:TOk c t)(hc:c<=1000)(W:WI none t)(hr:ρ .root=some r)(n:Int) :
  ∃ v h',Run Try.prog 19 [ptr r,iV n] h (.tuple #[v,iV (t.chain n).2]) h'/\Keep (fun _=>False) h h'/\SlV h' h.length v (t.chain n).1.length 2 (prL (t.chain n).1):=by
 have R:=runs_run a ok hr n
 rcases hq:t.runs n with⟨k | k,e⟩
 ·have e6:=runs_none hq
  subst e6
  rw[hq] at R
  have e':t.chain n=([],6):=by simp only[TS.chain,hq]
  rw[e']
  obtain⟨E2,q1,q2⟩:=pvK 0 (EnvLe.refl _) (r38p.ch_err r 0 0 0 0 none n 6 h h) ⟨R,neT (by omega),trivial⟩
  exact⟨_,h,Run.code Try.func19 body19 (.inr rfl) (CRunStop q2 (by simp)) (evResults_two rfl (q1 4 _ rfl) (q1 5 _ rfl)),Keep.refl _ _,.inl ⟨rfl,rfl,rfl⟩⟩
 ·obtain⟨rfl,hn,x,hx,he⟩:=runs_some hq
  have n64:=ok.n64
  have hk:=gTq hx
  obtain⟨ki,hki⟩:=a.sh.tk k hk
  rw[hq] at R
  simp only[tkP,hki,pvv] at R
  obtain⟨oa,za,ev,_⟩:=slv_ex (ρ (.op k)) x.opn.length (fun e=>by rw[a.sh.op k x hx e];rfl)
  have Lo:(Asm.ld1 (.push (.is h) (.cells [.slice none 0 0] true)) ki 2 (.slice oa x.opn.length za)).holds Try.prog:=by
   rw[<- ev];exact (a.push _).ld1 rfl hki (by rw[cT hx];rfl)
  obtain⟨E2,q1,q2⟩:=pvK 0 (EnvLe.refl _) (r38p.ch_ok r ki h.length x.opn.length za oa n 0 h h) ⟨R,neF rfl,rfl,Lo,trivial⟩
  have A0:Acc h h.length (h++[AObj.cells [.slice none 0 0] true]) (.slice none 0 0) []:=⟨(Keep.refl _ _).pushN _,Nat.le_refl _,gW _ _,.inl ⟨rfl,rfl,rfl⟩⟩
  obtain⟨E3,g3,v3,w1,w2,w3⟩:=chain_loop a ok hc W (k+1) k x ki x.opn.length E2 _ _ [] (by omega) hx he hki (Nat.le_refl _) (by simp;omega) A0 (tR q1)
  have e':t.chain n=(t.chainG (k+1) k x.opn.length,0):=by simp only[TS.chain,hq,hx]
  rw[e']
  rw[List.nil_append] at w3
  exact⟨v3,g3,Run.code Try.func19 body19 (.inr rfl) (CRunChain q2 (CRun.blockR 0 (.of_loop w2))) (evResults_two rfl (w1 4 _ rfl) (w1 5 _ rfl)),w3.keep,w3.sl.mono (by omega)⟩
end
end Go.Proofs.Ytahomnlkkafbjaa.tr
namespace Go.Proofs.Ytahomnlkkafbjaa.tr
open Go Go.Ev
structure WJ(t:TS):Prop where
 inc:∀ (k:Nat) x,t.tks[k]?=some x->(x.opn.filterMap id).Pairwise (· < ·)
 own:∀ (k:Nat) x s s',t.tks[k]?=some x->x.inn=some s->some s'∈x.opn->s<s'
section
variable {t:TS} {c k:Nat}
theorem WJ.upT(J:WJ t){f:Tk->Tk}(h1:∀ x,(f x).inn=x.inn)(h2:∀ x,t.tks[k]?=some x->((f x).opn.filterMap id).Pairwise (· < ·))(h3:∀ x s s',t.tks[k]?=some x->x.inn=some s->some s'∈(f x).opn->s<s'):WJ (t.upT k f):=by
 refine⟨fun j z hz=>?_,fun j z s s' hz hi hs=>?_⟩
 ·obtain⟨w,hw,⟨rfl,rfl⟩ | ⟨_,rfl⟩⟩:=upT_inv hz
  ·exact h2 w hw
  ·exact J.inc j z hw
 ·obtain⟨w,hw,⟨rfl,rfl⟩ | ⟨_,rfl⟩⟩:=upT_inv hz
  ·exact h3 w s s' hw (by rw[<- h1];exact hi) hs
  ·exact J.own j z s s' hw hi hs
theorem WJ.irrT(J:WJ t){f:Tk->Tk}(h1:∀ x,(f x).inn=x.inn)(h2:∀ x,(f x).opn=x.opn):WJ (t.upT k f) :=
 J.upT h1 (fun x hx=>by rw[h2];exact J.inc k x hx) fun x s s' hx hi hs=>J.own k x s s' hx hi (by rw[<- h2];exact hs)
theorem WJ.irrS(J:WJ t){f:Sc->Sc}:WJ (t.upS k f):=⟨J.inc,J.own⟩
theorem WJ.newT(J:WJ t)(inn:Option Nat):WJ (t.newT inn):=by
 refine⟨fun j z hz=>?_,fun j z s s' hz hi hs=>?_⟩
 ·rcases newT_get hz with hz | ⟨_,rfl⟩
  ·exact J.inc j z hz
  ·exact .nil
 ·rcases newT_get hz with hz | ⟨_,rfl⟩
  ·exact J.own j z s s' hz hi hs
  ·cases hs
theorem WJ.add(J:WJ t)(inn:Option Nat):WJ (t.add inn):=by
 cases inn with
 | none=>exact J.newT none
 | some s=>exact ((J.newT (some s)).irrS).irrS
theorem WJ.dropT(J:WJ t){f:Tk->Tk}(h1:∀ x,(f x).inn=x.inn)(h2:∀ x,(f x).opn=x.opn.dropLast):WJ (t.upT k f) :=
 J.upT h1 (fun x hx=>by rw[h2];exact (J.inc k x hx).sublist ((List.dropLast_sublist _).filterMap _)) fun x s s' hx hi hs=>J.own k x s s' hx hi (List.dropLast_subset _ (by rw[<- h2];exact hs))
theorem WJ.blame(J:WJ t)(s:Nat)(fk:Int)(ft:ByteArray):WJ (t.blame s fk ft).1:=by
 unfold TS.blame
 split
 ·split
  ·exact J.irrS
  ·exact J
 ·exact J
theorem WJ.fin(J:WJ t)(s:Nat):WJ (t.fin s).1:=by
 unfold TS.fin
 split
 ·exact J
 ·split
  ·exact J
  ·split
   ·exact (((J.irrS (k:=s) (f:=fun y=>{ y with ov:=true })).dropT (f:=fun x=>{ x with opn:=x.opn.dropLast }) (fun _=>rfl) fun _=>rfl).irrT (f:=fun x=>{ x with lv:=false }) (fun _=>rfl) fun _=>rfl).irrT (f:=fun x=>{ x with fk:=0,ft:=⟨#[]⟩ }) (fun _=>rfl) fun _=>rfl
   ·exact J
theorem WJ.run(J:WJ t)(ok:TOk c t)(o:OpV):WJ (t.run o).1:=by
 unfold TS.run
 split
 ·unfold TS.open
  split
  ·exact J
  ·rename_i k e hq
   split
   ·exact J
   ·obtain⟨_,_,x,hx,_⟩:=acts_some hq
    refine WJ.upT (t:=t.newS k o.y) ⟨J.inc,J.own⟩ (fun _=>rfl) (fun z hz=>?_) fun z s s' hz hi hs=>?_
    ·simp only[List.filterMap_append]
     rw[List.pairwise_append]
     refine⟨J.inc k z hz,by simp,fun a ha b hb=>?_⟩
     simp at hb
     subst hb
     obtain⟨v,hv,hv2⟩:=List.mem_filterMap.1 ha
     simp only[id] at hv2
     subst hv2
     exact ok.opn k z a hz hv
    ·rcases List.mem_append.1 hs with hs | hs
     ·exact J.own k z s s' hz hi hs
     ·simp at hs
      subst hs
      exact ok.inn k z s hz hi
 split
 ·unfold TS.spawn
  split
  ·exact J
  ·split
   ·exact J
   ·split
    ·exact J
    ·split
     ·exact J
     ·rename_i s' _ _;exact J.add (some s')
 split
 ·unfold TS.end
  split
  ·exact J
  ·rename_i k e hq
   have J1:WJ (t.end1 k o.fk o.ft):=(J.irrT (f:=fun x=>{ x with en:=true }) (fun _=>rfl) fun _=>rfl).irrT (f:=fun x=>{ x with fk:=o.fk,ft:=o.ft }) (fun _=>rfl) fun _=>rfl
   split
   ·exact J
   ·split
    ·exact J
    ·split
     ·exact J
     ·split
      ·exact J1
      ·split
       ·exact J
       ·refine WJ.fin ?_ _
        unfold TS.end3
        split
        ·exact J1.irrS
        ·exact WJ.blame J1.irrS _ _ _
 split
 ·unfold TS.leave
  split
  ·exact J
  ·split
   ·exact J
   ·split
    ·exact J
    ·split
     ·split
      ·refine WJ.fin ?_ _
       exact ((J.blame _ _ _).irrT (f:=fun x=>{ x with lv:=true }) (fun _=>rfl) fun _=>rfl).irrT (f:=fun x=>{ x with fk:=o.fk,ft:=o.ft }) (fun _=>rfl) fun _=>rfl
      ·exact J
     ·exact J
 split
 ·unfold TS.shield
  split
  ·exact J
  ·rename_i k e hq
   split
   ·split
    ·exact J
    ·refine J.upT (fun _=>rfl) (fun z hz=>?_) fun z s s' hz hi hs=>?_
     ·simp only[List.filterMap_append,List.filterMap_cons,List.filterMap_nil,id,List.append_nil]
      exact J.inc k z hz
     ·simp at hs;exact J.own k z s s' hz hi hs
   ·exact J
 split
 ·unfold TS.unveil
  split
  ·exact J
  ·split
   ·split
    ·exact J.dropT (fun _=>rfl) fun _=>rfl
    ·exact J
   ·exact J
 split
 ·unfold TS.fail
  split
  ·exact J
  ·split
   ·exact J
   ·split
    ·exact J
    ·split
     ·exact J.blame _ _ _
     ·exact J
 split
 ·unfold TS.root
  split
  ·exact J
  ·exact J.add none
 ·exact J
theorem WJ.runL:∀ {l:List OpV} {t:TS} {c:Nat},WJ t->TOk c t->WJ (t.runL l)
 | [],t,c,J,ok=>J
 | o::l,t,c,J,ok=>WJ.runL (l:=l) (J.run ok o) (ok.run (o:=o))
theorem WJ.roots(n:Nat):WJ (TS.roots n):=by
 have g:∀ (k:Nat) x,(TS.roots n).tks[k]?=some x->x=Tk0 none:=fun k x hx=>List.eq_of_mem_replicate (List.mem_of_getElem? hx)
 refine⟨fun k x hx=>by rw[g k x hx];exact .nil,fun k x s s' hx hi=>by rw[g k x hx] at hi;cases hi⟩
def outerO:List (Option Nat)->Option Nat
 | []=>none
 | some s::_=>some s
 | none::l=>outerO l
def lastS(l:List (Option Nat)):Option Nat:=(l.filterMap id).getLast?
def Par(t:TS)(s p:Nat):Prop:=∃ y z,t.scs[s]?=some y/\t.tks[y.ow]?=some z/\some s∈z.opn/\(lastS (z.opn.take (ixO (some s) z.opn))=some p\/(lastS (z.opn.take (ixO (some s) z.opn))=none/\z.inn=some p))
inductive Abv (t:TS):Nat->Nat->Prop
 | refl (s:Nat):Abv t s s
 | step {s s0 p:Nat}:Par t s0 p->Abv t s p->Abv t s s0
theorem ixO_split{v:Option Nat}:∀ {l:List (Option Nat)},v∈l->l=l.take (ixO v l)++v::l.drop (ixO v l+1)
 | x::l,h=>by
  simp only[ixO]
  split
  ·rename_i e;subst e;simp
  ·rename_i c
   rcases List.mem_cons.1 h with h | h
   ·exact absurd h.symm c
   ·have:=ixO_split h
    simp only[List.take_succ_cons,List.drop_succ_cons,List.cons_append]
    rw[<- this]
theorem ixO_app{v:Option Nat}:∀ {l m:List (Option Nat)},v∉l->ixO v (l++v::m)=l.length
 | [],m,_=>by simp[ixO]
 | x::l,m,h=>by
  simp only[List.mem_cons,not_or] at h
  simp only[List.cons_append,ixO,if_neg (Ne.symm h.1),ixO_app h.2,List.length_cons]
theorem lastS_mem{l:List (Option Nat)}{p:Nat}(h:lastS l=some p):some p∈l:=by
 have:=List.mem_of_getLast? h
 obtain⟨v,hv,e⟩:=List.mem_filterMap.1 this
 simp only[id] at e
 subst e;exact hv
theorem lastS_none{l:List (Option Nat)}(h:lastS l=none):∀ s:Nat,some s∉l:=fun s hs=>by
 rw[lastS,List.getLast?_eq_none_iff] at h
 have:s∈l.filterMap id:=List.mem_filterMap.2 ⟨some s,hs,rfl⟩
 rw[h] at this;cases this
theorem outerO_some:∀ {l:List (Option Nat)} {s:Nat},outerO l=some s->∃ a b,l=a++some s::b/\∀ s':Nat,some s'∉a
 | some s'::l,s,h=>by simp[outerO] at h;subst h;exact⟨[],l,rfl,fun s' h=>by cases h⟩
 | none::l,s,h=>by
  obtain⟨a,b,h1,h2⟩:=outerO_some (l:=l) h
  exact⟨none::a,b,by rw[h1];rfl,fun s' hs=>by rcases List.mem_cons.1 hs with h | h;cases h;exact h2 s' h⟩
theorem outerO_of{a b:List (Option Nat)}{s:Nat}(h:∀ s':Nat,some s'∉a):outerO (a++some s::b)=some s:=by
 induction a with
 | nil=>rfl
 | cons x a ih =>
  cases x with
  | none=>exact ih fun s' hs=>h s' (List.mem_cons_of_mem _ hs)
  | some s'=>exact absurd (List.mem_cons_self ..) (h s')
theorem nd_parts{l a b:List (Option Nat)}{s:Nat}(h:l=a++some s::b)(hn:(l.filterMap id).Nodup):some s∉a/\some s∉b:=by
 subst h
 simp only[List.filterMap_append,List.filterMap_cons,id] at hn
 rw[List.nodup_append,List.nodup_cons] at hn
 refine⟨fun hs=>hn.2.2 s (List.mem_filterMap.2 ⟨some s,hs,rfl⟩) s (List.mem_cons_self ..) rfl,fun hs=>hn.2.1.1 (List.mem_filterMap.2 ⟨some s,hs,rfl⟩)⟩
variable {s p:Nat}
theorem Par.lt(J:WJ t)(W:WI none t)(h:Par t s p):p<s:=by
 obtain⟨y,z,hy,hz,hs,h | ⟨h,hi⟩⟩:=h
 ·have hm:=lastS_mem h
  have spl:=ixO_split hs
  have inc:=J.inc _ z hz
  rw[spl,List.filterMap_append,List.pairwise_append] at inc
  exact inc.2.2 p (List.mem_filterMap.2 ⟨some p,hm,rfl⟩) s (List.mem_filterMap.2 ⟨some s,List.mem_cons_self ..,rfl⟩)
 ·exact J.own _ z p s hz hi hs
theorem Par.fun{p':Nat}(h:Par t s p)(h':Par t s p'):p=p':=by
 obtain⟨y,z,hy,hz,hs,h⟩:=h
 obtain⟨y',z',hy',hz',hs',h'⟩:=h'
 rw[hy] at hy';cases hy'
 rw[hz] at hz';cases hz'
 rcases h with h | ⟨h,hi⟩<;>rcases h' with h' | ⟨h',hi'⟩
 ·rw[h] at h';exact Option.some.inj h'
 ·rw[h] at h';cases h'
 ·rw[h] at h';cases h'
 ·rw[hi] at hi';exact Option.some.inj hi'
theorem Abv.le(J:WJ t)(W:WI none t){s0:Nat}(h:Abv t s s0):s<=s0:=by
 induction h with
 | refl=>exact Nat.le_refl _
 | step h1 _ ih=>have:=h1.lt J W;omega
theorem Abv.inv{s0:Nat}(h:Abv t s s0):s=s0\/∃ p,Par t s0 p/\Abv t s p:=by
 cases h with
 | refl=>exact .inl rfl
 | step h1 h2=>exact .inr ⟨_,h1,h2⟩
theorem Abv.last{s0:Nat}(h:Abv t s s0):s=s0\/∃ s',Par t s' s/\Abv t s' s0:=by
 induction h with
 | refl=>exact .inl rfl
 | @step s0 p h1 h2 ih =>
  rcases ih with rfl | ⟨s',h3,h4⟩
  ·exact .inr ⟨s0,h1,.refl _⟩
  ·exact .inr ⟨s',h3,.step h1 h4⟩
theorem Abv.push{s0 s':Nat}(h:Abv t s' s0)(hp:Par t s' s):Abv t s s0:=by
 induction h with
 | refl=>exact .step hp (.refl _)
 | step h1 _ ih=>exact .step h1 ih
theorem Abv.uniq(J:WJ t)(W:WI none t){s0 s1 s2:Nat}(p1:Par t s1 s)(p2:Par t s2 s)(h1:Abv t s1 s0)(h2:Abv t s2 s0):s1=s2:=by
 induction h1 with
 | refl =>
  rcases h2.inv with e | ⟨p,hp,h3⟩
  ·exact e.symm
  ·have:=hp.fun p1
   subst this
   have:=h3.le J W
   have:=p2.lt J W
   omega
 | @step s0 p hp h3 ih =>
  rcases h2.inv with e | ⟨p',hp',h4⟩
  ·subst e
   have:=hp.fun p2
   subst this
   have:=h3.le J W
   have:=p1.lt J W
   omega
  ·have:=hp.fun hp'
   subst this
   exact ih h4
end
end Go.Proofs.Ytahomnlkkafbjaa.tr
namespace Go.Proofs.Ytahomnlkkafbjaa.tr
open Go Go.Ev
def TS.below1(t:TS)(rec:Nat->List Nat)(j:Nat):List Nat:=match t.tks[j]? with
 | none=>[]
 | some x=>if x.en then [] else j::match outerO x.opn with
  | none=>[]
  | some s'=>rec s'
def TS.next(t:TS)(s:Nat):Option Nat:=match t.scs[s]? with
 | none=>none
 | some y=>match t.tks[y.ow]? with
  | none=>none
  | some z=>if some s∈z.opn then outerO (z.opn.drop (ixO (some s) z.opn+1)) else none
def TS.belowG(t:TS):Nat->Nat->List Nat
 | 0,_=>[]
 | f+1,s=>match t.scs[s]? with
  | none=>[]
  | some y=>y.tks.flatMap (t.below1 (t.belowG f))++match t.next s with
   | none=>[]
   | some s'=>t.belowG f s'
section
variable {t:TS} {c s:Nat}
theorem first_par(W:WI none t){s0 s':Nat}{x:Tk}{k:Nat}(hx:t.tks[k]?=some x)(hi:x.inn=some s0)(ho:outerO x.opn=some s')(ok:TOk c t):Par t s' s0:=by
 obtain⟨a,b,h1,h2⟩:=outerO_some ho
 have hm:some s'∈x.opn:=by rw[h1];simp
 obtain⟨y,hy⟩:∃ y,t.scs[s']?=some y:=⟨_,List.getElem?_eq_getElem (ok.opn k x s' hx hm)⟩
 have how:=W.ow1 k x s' y hx hm hy
 refine⟨y,x,hy,by rw[how];exact hx,hm,.inr ⟨?_,hi⟩⟩
 have e:ixO (some s') x.opn=a.length:=by rw[h1];exact ixO_app (h2 s')
 rw[e,h1,List.take_left,lastS,List.getLast?_eq_none_iff]
 rw[List.filterMap_eq_nil_iff]
 intro v hv
 cases v with
 | none=>rfl
 | some w=>exact absurd hv (h2 w)
theorem next_par(W:WI none t){s':Nat}(h:t.next s=some s')(ok:TOk c t):Par t s' s:=by
 unfold TS.next at h
 cases hy:t.scs[s]? with
 | none=>rw[hy] at h;cases h
 | some y =>
  rw[hy] at h
  simp only at h
  cases hz:t.tks[y.ow]? with
  | none=>rw[hz] at h;cases h
  | some z =>
   rw[hz] at h
   simp only at h
   split at h
   ·rename_i hm
    obtain⟨a,b,h1,h2⟩:=outerO_some h
    have spl:=ixO_split hm
    rw[h1] at spl
    have hm':some s'∈z.opn:=by rw[spl];simp
    obtain⟨y',hy'⟩:∃ y',t.scs[s']?=some y':=⟨_,List.getElem?_eq_getElem (ok.opn _ z s' hz hm')⟩
    have how:=W.ow1 _ z s' y' hz hm' hy'
    obtain⟨A,hA⟩:∃ A,A=z.opn.take (ixO (some s) z.opn):=⟨_,rfl⟩
    rw[<- hA] at spl
    have e1:z.opn=(A++some s::a)++some s'::b:=by rw[List.append_assoc];exact spl
    have nd1:=nd_parts e1 (W.nd _ z hz)
    have e:ixO (some s') z.opn=(A++some s::a).length:=by
     conv=>lhs;rw[e1]
     exact ixO_app nd1.1
    refine⟨y',z,hy',by rw[how];exact hz,hm',.inl ?_⟩
    have e3:z.opn.take (ixO (some s') z.opn)=A++some s::a:=by
     rw[e];conv=>lhs;rw[e1]
     exact List.take_left
    have na:a.filterMap id=[]:=by
     rw[List.filterMap_eq_nil_iff]
     intro v hv
     cases v with
     | none=>rfl
     | some w=>exact absurd hv (h2 w)
    rw[e3,lastS,List.filterMap_append,List.filterMap_cons]
    simp only[id,na]
    simp
   ·cases h
theorem par_inv(ok:TOk c t)(W:WI none t){s':Nat}(h:Par t s' s):t.next s=some s'\/∃ (k:Nat) (x:Tk),t.tks[k]?=some x/\x.en=false/\x.inn=some s/\outerO x.opn=some s':=by
 obtain⟨y,z,hy,hz,hs,h | ⟨h,hi⟩⟩:=h
 ·left
  have hm:=lastS_mem h
  have hms:=List.mem_of_mem_take hm
  obtain⟨A,hA⟩:∃ A,A=z.opn.take (ixO (some s') z.opn):=⟨_,rfl⟩
  have spl:=ixO_split hs
  rw[<- hA] at h hm spl
  have splA:=ixO_split hm
  have ndz:=W.nd _ z hz
  have e1:z.opn=A.take (ixO (some s) A)++some s::(A.drop (ixO (some s) A+1)++some s'::z.opn.drop (ixO (some s') z.opn+1)):=by
   conv=>lhs;rw[spl,splA]
   simp
  have nd1:=nd_parts e1 ndz
  have e2:ixO (some s) z.opn=(A.take (ixO (some s) A)).length:=by
   conv=>lhs;rw[e1]
   exact ixO_app nd1.1
  have e3:z.opn.drop (ixO (some s) z.opn+1)=A.drop (ixO (some s) A+1)++some s'::z.opn.drop (ixO (some s') z.opn+1):=by
   rw[e2];conv=>lhs;rw[e1]
   rw[show (A.take (ixO (some s) A)).length+1=(A.take (ixO (some s) A)).length+1 from rfl,List.drop_append,List.drop_of_length_le (by omega),List.nil_append,Nat.add_sub_cancel_left,List.drop_succ_cons,List.drop_zero]
  have tail:∀ w:Nat,some w∉A.drop (ixO (some s) A+1):=fun w hw=>by
   rw[splA,lastS,List.filterMap_append,List.filterMap_cons] at h
   simp only[id] at h
   have hne:(A.drop (ixO (some s) A+1)).filterMap id≠[]:=fun e=>by
    have:w∈(A.drop (ixO (some s) A+1)).filterMap id:=List.mem_filterMap.2 ⟨some w,hw,rfl⟩
    rw[e] at this;cases this
   have e9:∀ (X B:List Nat),X++s::B=(X++[s])++B:=fun X B=>by simp
   rw[e9,List.getLast?_append,List.getLast?_eq_some_getLast hne] at h
   simp only[Option.some_or,Option.some.injEq] at h
   have hmem:some s∈A.drop (ixO (some s) A+1):=by
    have:=List.getLast_mem hne
    rw[h] at this
    obtain⟨v,hv,e⟩:=List.mem_filterMap.1 this
    simp only[id] at e;subst e;exact hv
   exact nd1.2 (List.mem_append_left _ hmem)
  obtain⟨ys,hys⟩:∃ ys,t.scs[s]?=some ys:=⟨_,List.getElem?_eq_getElem (ok.opn _ z s hz hms)⟩
  have how:=W.ow1 _ z s ys hz hms hys
  unfold TS.next
  rw[hys]
  simp only
  rw[how,hz]
  simp only[hms,if_true]
  rw[e3]
  exact outerO_of tail
 ·right
  refine⟨y.ow,z,hz,?_,hi,?_⟩
  ·cases he:z.en with
   | false=>rfl
   | true=>rw[W.en _ z hz he] at hs;cases hs
  ·have spl:=ixO_split hs
   rw[spl]
   exact outerO_of (lastS_none h)
theorem mem_below(ok:TOk c t)(W:WI none t)(J:WJ t):∀ (f s:Nat),t.scs.length-s<=f->s<t.scs.length->∀ j:Nat,j∈t.belowG f s↔∃ x s0,t.tks[j]?=some x/\x.en=false/\x.inn=some s0/\Abv t s s0
 | 0,s,h1,h2,j=>by omega
 | f+1,s,h1,h2,j=>by
  obtain⟨y,hy⟩:∃ y,t.scs[s]?=some y:=⟨_,List.getElem?_eq_getElem h2⟩
  have plen:∀ {s'},Par t s' s->s<s'/\s'<t.scs.length:=fun hp=>by
   have:=hp.lt J W
   obtain⟨y',_,hy',_⟩:=hp
   exact⟨this,gTq hy'⟩
  have rcs:=fun {s'} (hp:Par t s' s)=>mem_below ok W J f s' (by have:=(plen hp).1;omega) (plen hp).2 j
  rw[TS.belowG]
  simp only[hy,List.mem_append]
  constructor
  ·rintro (h | h)
   ·obtain⟨m,hm,hj⟩:=List.mem_flatMap.1 h
    obtain⟨x,hx,hi⟩:=(W.mem s y m hy).1 hm
    simp only[TS.below1,hx] at hj
    split at hj
    ·cases hj
    ·rename_i hen
     have hen':x.en=false:=by simpa using hen
     rcases List.mem_cons.1 hj with rfl | hj
     ·exact⟨x,s,hx,hen',hi,.refl _⟩
     ·cases ho:outerO x.opn with
      | none=>rw[ho] at hj;cases hj
      | some s' =>
       rw[ho] at hj
       have hp:=first_par W hx hi ho ok
       obtain⟨x',s0,a1,a2,a3,a4⟩:=(rcs hp).1 hj
       exact⟨x',s0,a1,a2,a3,a4.push hp⟩
   ·cases hn:t.next s with
    | none=>rw[hn] at h;cases h
    | some s' =>
     rw[hn] at h
     have hp:=next_par W hn ok
     obtain⟨x',s0,a1,a2,a3,a4⟩:=(rcs hp).1 h
     exact⟨x',s0,a1,a2,a3,a4.push hp⟩
  ·rintro⟨x,s0,hx,hen,hi,ha⟩
   rcases ha.last with rfl | ⟨s',hp,ha'⟩
   ·left
    refine List.mem_flatMap.2 ⟨j,(W.mem s y j hy).2 ⟨x,hx,hi⟩,?_⟩
    simp[TS.below1,hx,hen]
   ·have hj:=(rcs hp).2 ⟨x,s0,hx,hen,hi,ha'⟩
    rcases par_inv ok W hp with hn | ⟨k,xk,hk,hke,hki,hko⟩
    ·right;rw[hn];exact hj
    ·left
     refine List.mem_flatMap.2 ⟨k,(W.mem s y k hy).2 ⟨xk,hk,hki⟩,?_⟩
     simp only[TS.below1,hk,hke,hko,Bool.false_eq_true,if_false]
     exact List.mem_cons_of_mem _ hj
theorem nodup_below(ok:TOk c t)(W:WI none t)(J:WJ t):∀ (f s:Nat),t.scs.length-s<=f->s<t.scs.length->(t.belowG f s).Nodup
 | 0,s,h1,h2=>.nil
 | f+1,s,h1,h2=>by
  obtain⟨y,hy⟩:∃ y,t.scs[s]?=some y:=⟨_,List.getElem?_eq_getElem h2⟩
  have plen:∀ {s'},Par t s' s->s<s'/\s'<t.scs.length:=fun hp=>by
   have:=hp.lt J W
   obtain⟨y',_,hy',_⟩:=hp
   exact⟨this,gTq hy'⟩
  have mem:=fun {s'} (hp:Par t s' s) j=>mem_below ok W J f s' (by have:=(plen hp).1;omega) (plen hp).2 j
  have rcs:=fun {s'} (hp:Par t s' s)=>nodup_below ok W J f s' (by have:=(plen hp).1;omega) (plen hp).2
  have self:∀ {s' m:Nat},Par t s' s->m∈y.tks->m∉t.belowG f s':=fun {s' m} hp hm hj=>by
   obtain⟨x,hx,hi⟩:=(W.mem s y m hy).1 hm
   obtain⟨x',s0,a1,a2,a3,a4⟩:=(mem hp m).1 hj
   rw[hx] at a1;cases a1
   rw[hi] at a3;cases a3
   have:=a4.le J W
   have:=(plen hp).1
   omega
  have both:∀ {s1 s2 j:Nat},Par t s1 s->Par t s2 s->j∈t.belowG f s1->j∈t.belowG f s2->s1=s2:=fun p1 p2 h1 h2=>by
   obtain⟨x,s0,a1,a2,a3,a4⟩:=(mem p1 _).1 h1
   obtain⟨x',s0',b1,b2,b3,b4⟩:=(mem p2 _).1 h2
   rw[a1] at b1;cases b1
   rw[a3] at b3;cases b3
   exact Abv.uniq J W p1 p2 a4 b4
  have inv1:∀ {m j:Nat},m∈y.tks->j∈t.below1 (t.belowG f) m->j=m\/∃ x s',t.tks[m]?=some x/\some s'∈x.opn/\Par t s' s/\j∈t.belowG f s':=fun {m j} hm hj=>by
   obtain⟨x,hx,hi⟩:=(W.mem s y m hy).1 hm
   simp only[TS.below1,hx] at hj
   split at hj
   ·cases hj
   ·rcases List.mem_cons.1 hj with rfl | hj
    ·exact .inl rfl
    ·cases ho:outerO x.opn with
     | none=>rw[ho] at hj;cases hj
     | some s' =>
      rw[ho] at hj
      obtain⟨a,b,e1,_⟩:=outerO_some ho
      exact .inr ⟨x,s',hx,by rw[e1];simp,first_par W hx hi ho ok,hj⟩
  have owner:∀ {m s':Nat} {x:Tk} {y':Sc},t.tks[m]?=some x->some s'∈x.opn->t.scs[s']?=some y'->y'.ow=m:=fun hx hs hy'=>W.ow1 _ _ _ _ hx hs hy'
  rw[TS.belowG]
  simp only[hy]
  rw[List.nodup_append]
  refine⟨?_,?_,fun a ha b hb e=>?_⟩
  ·rw[List.Nodup,List.pairwise_flatMap]
   refine⟨fun m hm=>?_,(W.mnd s y hy).imp_of_mem fun {m1 m2} hm1 hm2 hne a ha b hb e=>?_⟩
   ·obtain⟨x,hx,hi⟩:=(W.mem s y m hy).1 hm
    simp only[TS.below1,hx]
    split
    ·exact .nil
    ·cases ho:outerO x.opn with
     | none=>simp
     | some s' =>
      have hp:=first_par W hx hi ho ok
      exact List.nodup_cons.2 ⟨self hp hm,rcs hp⟩
   ·subst e
    rcases inv1 hm1 ha with e1 | ⟨x1,s1,a1,a2,a3,a4⟩<;>rcases inv1 hm2 hb with e2 | ⟨x2,s2,b1,b2,b3,b4⟩
    ·exact hne (by rw[<- e1,<- e2])
    ·subst e1;exact self b3 hm1 b4
    ·subst e2;exact self a3 hm2 a4
    ·have:=both a3 b3 a4 b4
     subst this
     obtain⟨y',hy'⟩:∃ y',t.scs[s1]?=some y':=⟨_,List.getElem?_eq_getElem (plen a3).2⟩
     exact hne ((owner a1 a2 hy').symm.trans (owner b1 b2 hy'))
  ·cases hn:t.next s with
   | none=>exact .nil
   | some s'=>exact rcs (next_par W hn ok)
  ·subst e
   cases hn:t.next s with
   | none=>rw[hn] at hb;cases hb
   | some s' =>
    rw[hn] at hb
    have hp:=next_par W hn ok
    obtain⟨m,hm,hj⟩:=List.mem_flatMap.1 ha
    rcases inv1 hm hj with e1 | ⟨x1,s1,a1,a2,a3,a4⟩
    ·subst e1;exact self hp hm hb
    ·have:=both a3 hp a4 hb
     subst this
     obtain⟨y',hy'⟩:∃ y',t.scs[s1]?=some y':=⟨_,List.getElem?_eq_getElem (plen a3).2⟩
     have o1:=owner a1 a2 hy'
     obtain⟨x,hx,hi⟩:=(W.mem s y m hy).1 hm
     have hup:=W.up m x s y hx hi hy
     unfold TS.next at hn
     rw[hy] at hn
     simp only at hn
     cases hz:t.tks[y.ow]? with
     | none=>rw[hz] at hn;cases hn
     | some z =>
      rw[hz] at hn
      simp only at hn
      split at hn
      ·obtain⟨a',b',e1,_⟩:=outerO_some hn
       have hm':some s1∈z.opn:=List.mem_of_mem_drop (by rw[e1];simp)
       have o2:=owner hz hm' hy'
       omega
      ·cases hn
theorem nodup_len:∀ (n:Nat) (l:List Nat),l.Nodup->(∀ x,x∈l->x<n)->l.length<=n
 | 0,l,_,h=>by
  cases l with
  | nil=>exact Nat.le_refl _
  | cons a l=>exact absurd (h a (List.mem_cons_self ..)) (by omega)
 | n+1,l,hn,h=>by
  have h2:(l.filter (· != n)).length<=n:=nodup_len n _ (hn.filter _) fun x hx=>by
   obtain⟨a,b⟩:=List.mem_filter.1 hx
   have:=h x a
   have:x≠n:=by simpa using b
   omega
  have h3:l.length<=(l.filter (· != n)).length+1:=by
   clear h2 h
   induction l with
   | nil=>simp
   | cons a l ih =>
    rw[List.nodup_cons] at hn
    rw[List.filter_cons]
    by_cases e:a=n
    ·subst e
     have:l.filter (· != a)=l:=List.filter_eq_self.2 fun x hx=>by
      have:x≠a:=fun e=>hn.1 (by rw[<- e];exact hx)
      simpa using this
     simp[this]
    ·have:=ih hn.2
     simp[e];exact this
  omega
theorem below_len(ok:TOk c t)(W:WI none t)(J:WJ t)(hs:s<t.scs.length):(t.belowG t.scs.length s).length<=64:=by
 have n64:=ok.n64
 have:=nodup_len t.tks.length _ (nodup_below ok W J t.scs.length s (by omega) hs) fun j hj=>by
  obtain⟨x,_,hx,_⟩:=(mem_below ok W J t.scs.length s (by omega) hs j).1 hj
  exact gTq hx
 omega
end
end Go.Proofs.Ytahomnlkkafbjaa.tr
namespace Go.Proofs.Ytahomnlkkafbjaa.tr
open Go Go.Ev
section
variable {h:Hp} {ρ:Lay} {t:TS} {c r:Nat}
theorem outer_run{l:List (Option Nat)}{oa:Option Addr}{za:Nat}(hb:l.length<=1000000)(hp:∀ s,some s∈l->∃ i,ρ (.sc s)=some i)
  (A:l.length≠0->∃ o f c rw,oa=some ⟨o,f,none⟩/\za=1/\h[o]?=some (.cells c rw)/\∀ i v,l[i]?=some v->c[f+i]?=some (inP ρ v)) :
  Run Try.prog 49 [.slice oa l.length za] h (inP ρ (outerO l)) h:=by
 have loop:∀ (j i:Nat) (E:Env),i+j=l.length->EnvLe [(8,iV (i:Int)),(7,iV (Int.ofNat l.length)),(0,.slice oa l.length za),(1,.func (.func 69) #[] #[])] E->(∀ j v,j<i->l[j]?=some v->v=none) ->
   (∃ E1 k s,EnvLe [(4,iV ((k:Nat):Int))] E1/\LRun Try.prog 19 false (loopN Try.f68 0) E h .ret E1 h/\l[k]?=some (some s)/\outerO l=some s) \/
   (∃ E1,LRun Try.prog 19 false (loopN Try.f68 0) E h (.exit 0) E1 h/\outerO l=none):=by
  intro j
  induction j with
  | zero =>
   intro i E hi hE hn
   have e:i=l.length:=by omega
   subst e
   obtain⟨E2,q1,q2⟩:=pvC 1 hE (r43p.if_out 0 0 l.length za 0 0 oa l.length 0 h h) ⟨ltF (by simp),trivial⟩
   refine .inr ⟨E2,.last q2 (by simp),?_⟩
   cases ho:outerO l with
   | none=>rfl
   | some s =>
    obtain⟨a,b,e1,_⟩:=outerO_some ho
    have:=hn a.length (some s) (by rw[e1];simp) (by rw[e1];simp)
    cases this
  | succ j ih =>
   intro i E hi hE hn
   obtain⟨w,hw⟩:∃ w,l[i]?=some w:=⟨_,List.getElem?_eq_getElem (by omega)⟩
   obtain⟨o,f,c,rw,rfl,rfl,ho,hc⟩:=A (by omega)
   have B1:(Asm.cmp .lss (i:Int) (Int.ofNat l.length) true).holds Try.prog:=ltT (by simp;omega)
   have B2:(Asm.off (f+i) f (i:Int) l.length 1).holds Try.prog:=offI (q:=i) rfl (by omega) (by omega)
   have B3:(Asm.ld1 (.is h) o (f+i) (inP ρ w)).holds Try.prog:=aL ho (hc i w hw)
   cases w with
   | none =>
    obtain⟨E2,q1,q2⟩:=pvK 1 hE (r43p.if_nil o f l.length 0 (f+i) 0 none i ((i+1:Nat):Int) h h) ⟨B1,B2,B3,addI rfl (by omega) (by omega),trivial⟩
    have hn':∀ j v,j<i+1->l[j]?=some v->v=none:=fun k v hk e=>by
     by_cases e1:k=i
     ·subst e1;rw[hw] at e;cases e;rfl
     ·exact hn k v (by omega) e
    rcases ih (i+1) E2 (by omega) (tR q1) hn' with⟨E3,k,s,s1,s2,s3⟩ | ⟨E3,s2,s3⟩
    ·exact .inl ⟨E3,k,s,s1,.step q2 s2,s3⟩
    ·exact .inr ⟨E3,.step q2 s2,s3⟩
   | some s =>
    obtain⟨y,hy⟩:=hp s (List.mem_of_getElem? hw)
    simp only[inP,hy,pvv] at B3
    obtain⟨E2,q1,q2⟩:=pvK 1 hE (r43p.if_hit o f l.length 0 (f+i) y none i 0 h h) ⟨B1,B2,B3,trivial⟩
    refine .inl ⟨E2,i,s,tR q1,.last q2 (by simp),hw,?_⟩
    have hil:=gTq hw
    have spl:l=l.take i++some s::l.drop (i+1):=by
     conv=>lhs;rw[<- List.take_append_drop i l,List.drop_eq_getElem_cons hil]
     rw[List.getElem?_eq_getElem hil] at hw
     rw[Option.some.inj hw]
    rw[spl]
    refine outerO_of fun s' hs'=>?_
    obtain⟨k,hk⟩:=List.mem_iff_getElem?.1 hs'
    have hkl:=gTq hk
    rw[List.length_take] at hkl
    rw[List.getElem?_take_of_lt (by omega)] at hk
    have:=hn k (some s') (by omega) hk
    cases this
 rcases loop l.length 0 [(8,iV (0:Nat)),(7,iV (Int.ofNat l.length)),(0,.slice oa l.length za),(1,.func (.func 69) #[] #[])] (by omega) (EnvLe.refl _) (fun j v hj=>absurd hj (Nat.not_lt_zero _)) with⟨E1,k,s,q1,q2,q3,q4⟩ | ⟨E1,q2,q3⟩
 ·have R:Run Try.prog 68 [.slice oa l.length za,.func (.func 69) #[] #[]] h (iV (k:Int)) h:=pvF 0 Try.func68 (r43p.if_f 0 0 l.length za 0 0 oa k 0 h h) ⟨a_loop (by kernel_rfl) (.add (.add (.add (.add (.nil _) rfl) rfl) rfl) rfl) q1 q2,trivial⟩
  have hkl:=gTq q3
  obtain⟨o,f,c,rw,rfl,rfl,ho,hc⟩:=A (by omega)
  obtain⟨y,hy⟩:=hp s (List.mem_of_getElem? q3)
  have B3:(Asm.ld1 (.is h) o (f+k) (inP ρ (some s))).holds Try.prog:=aL ho (hc k _ q3)
  rw[q4]
  simp only[inP,hy,pvv] at B3 ⊢
  exact pvF 0 Try.func49 (r43p.ou_some o f l.length 0 (f+k) y none k 0 h h) ⟨R,ltF (by omega),offI (q:=k) rfl (by omega) (by omega),B3,trivial⟩
 ·have R:Run Try.prog 68 [.slice oa l.length za,.func (.func 69) #[] #[]] h (iV (Int.negSucc 0)) h:=pvF 0 Try.func68 (r43p.if_n 0 0 l.length za 0 0 oa 0 0 h h) ⟨a_loop (by kernel_rfl) (.add (.add (.add (.add (.nil _) rfl) rfl) rfl) rfl) (.nil _) q2,trivial⟩
  rw[q3]
  exact pvF 0 Try.func49 (r43p.ou_none 0 0 l.length za 0 0 oa (Int.negSucc 0) 0 h h) ⟨R,ltT (by decide),trivial⟩
theorem indexS_none(a:TAt h ρ t){k s si:Nat}{x:Tk}{oa:Option Addr}{za:Nat}(hx:t.tks[k]?=some x)(hsi:ρ (.sc s)=some si)(hin:∀ s,some s∈x.opn->s<t.scs.length)(hb:x.opn.length<=1000000)(hs:some s∉x.opn)(hv:slv (ρ (.op k)) x.opn.length=.slice oa x.opn.length za) :
  Run Try.prog 44 [.slice oa x.opn.length za,ptr si] h (iV (Int.negSucc 0)) h:=by
 have loop:∀ (j i:Nat) (E:Env),i+j=x.opn.length->EnvLe [(8,iV (i:Int)),(7,iV (Int.ofNat x.opn.length)),(0,.slice oa x.opn.length za),(1,ptr si)] E ->
   ∃ E1,LRun Try.prog 19 false (loopN Try.f44 0) E h (.exit 0) E1 h:=by
  intro j
  induction j with
  | zero =>
   intro i E hi hE
   have e:i=x.opn.length:=by omega
   subst e
   obtain⟨E2,q1,q2⟩:=pvC 0 hE (r38p.ig_out oa 0 x.opn.length za si 0 0 x.opn.length 0 h) ⟨ltF (by simp),trivial⟩
   exact⟨E2,.last q2 (by simp)⟩
  | succ j ih =>
   intro i E hi hE
   obtain⟨w,hw⟩:∃ w,x.opn[i]?=some w:=⟨_,List.getElem?_eq_getElem (by omega)⟩
   cases ho:ρ (.op k) with
   | none=>have:=a.sh.op k x hx ho;rw[this] at hi;simp at hi
   | some o =>
   rw[ho] at hv
   cases hv
   have B1:(Asm.cmp .lss (i:Int) (Int.ofNat x.opn.length) true).holds Try.prog:=ltT (by simp;omega)
   have B2:(Asm.off i 0 (i:Int) x.opn.length 1).holds Try.prog:=offI (q:=i) rfl (by omega) (by omega)
   have B3:(Asm.ld1 (.is h) o i (inP ρ w)).holds Try.prog:=a.ld1 rfl ho (by rw[cont_op hx,List.getElem?_map,hw];rfl)
   have B9:(Asm.arith .add .i64 (i:Int) 1 ((i+1:Nat):Int)).holds Try.prog:=addI rfl (by omega) (by omega)
   cases w with
   | none =>
    obtain⟨E2,q1,q2⟩:=pvK 0 hE (r38p.ig_nil none o x.opn.length 0 si 0 i i ((i+1:Nat):Int) h) ⟨B1,B2,B3,B9,trivial⟩
    obtain⟨E3,s2⟩:=ih (i+1) E2 (by omega) (tR q1)
    exact⟨E3,.step q2 s2⟩
   | some s' =>
    have hm:=List.mem_of_getElem? hw
    obtain⟨yi,hyi⟩:=a.sh.sc s' (hin s' hm)
    simp only[inP,hyi,pvv] at B3
    obtain⟨c1,ho1⟩:=a.own hsi
    obtain⟨c2,ho2⟩:=a.own hyi
    have hne:si≠yi:=fun e1=>by subst e1;have:=a.inj _ _ _ hsi hyi;cases this;exact hs hm
    obtain⟨E2,q1,q2⟩:=pvK 0 hE (r38p.ig_ne none o x.opn.length 0 si yi i i ((i+1:Nat):Int) h) ⟨B1,B2,B3,⟨95,7,c1,c2,und91,siz95,ho1,ho2,.inl ⟨rfl,by simp[hne]⟩⟩,B9,trivial⟩
    obtain⟨E3,s2⟩:=ih (i+1) E2 (by omega) (tR q1)
    exact⟨E3,.step q2 s2⟩
 obtain⟨E1,q2⟩:=loop x.opn.length 0 [(8,iV (0:Nat)),(7,iV (Int.ofNat x.opn.length)),(0,.slice oa x.opn.length za),(1,ptr si)] (by omega) (EnvLe.refl _)
 exact pvF 0 Try.func44 (r38p.ig_n oa x.opn.length za si 0 h h) ⟨a_loop (by kernel_rfl) (.add (.add (.add (.add (.nil _) rfl) rfl) rfl) rfl) (.nil _) q2,trivial⟩
structure AccN(h:Hp)(b8:Nat)(g:Hp)(v:Value)(acc:List Nat):Prop where
 keep:Keep (fun _=>False) h g
 lo:h.length<=b8
 box:g[b8]?=some (.cells [v] true)
 sl:SlV g (b8+1) v acc.length 1 (nmL acc)
theorem AccN.appN{b8:Nat}{g:Hp}{v:Value}(A:AccN h b8 g v [])(p:Nat) :
  AccN h b8 (((g++[AObj.cells [iV ((p+1:Nat):Int)] true])++[AObj.cells [iV ((p+1:Nat):Int)] true]).set b8 (.cells [.slice (some ⟨g.length+1,0,none⟩) 1 1] true)) (.slice (some ⟨g.length+1,0,none⟩) 1 1) [p] /\
  Keep (fpA b8 v) g (((g++[AObj.cells [iV ((p+1:Nat):Int)] true])++[AObj.cells [iV ((p+1:Nat):Int)] true]).set b8 (.cells [.slice (some ⟨g.length+1,0,none⟩) 1 1] true)):=by
 have bl:=get_lt A.box
 have kl:=A.keep.1
 refine⟨⟨(((A.keep.pushN _).pushN _).setN A.lo _),A.lo,gE (gP (gP A.box)),.inr ⟨by simp,by simp[nmL],g.length+1,rfl,?_,by omega⟩⟩,?_⟩
 ·exact gNq (gV _ (by simp)) (by omega)
 ·exact ((Keep.push _ _ _).trans (Keep.push _ _ _)).trans (Keep.set (fp:=fpA b8 v) (.inl rfl) _)
theorem AccN.appS{b8 w:Nat}{g:Hp}{acc:List Nat}(A:AccN h b8 g (.slice (some ⟨w,0,none⟩) acc.length 1) acc)(hw:g[w]?=some (.cells (nmL acc) true))(hl:b8+1<=w)(p:Nat) :
  AccN h b8 ((((g++[AObj.cells [iV ((p+1:Nat):Int)] true]).set w .dead)++[AObj.cells (nmL acc++[iV ((p+1:Nat):Int)]) true]).set b8 (.cells [.slice (some ⟨g.length+1,0,none⟩) (acc.length+1) 1] true)) (.slice (some ⟨g.length+1,0,none⟩) (acc.length+1) 1) (acc++[p]) /\
  Keep (fpA b8 (.slice (some ⟨w,0,none⟩) acc.length 1)) g ((((g++[AObj.cells [iV ((p+1:Nat):Int)] true]).set w .dead)++[AObj.cells (nmL acc++[iV ((p+1:Nat):Int)]) true]).set b8 (.cells [.slice (some ⟨g.length+1,0,none⟩) (acc.length+1) 1] true)):=by
 have bl:=get_lt A.box
 have kl:=A.keep.1
 have lo:=A.lo
 have hb2:((g++[AObj.cells [iV ((p+1:Nat):Int)] true]).set w .dead)[b8]?=some (.cells [.slice (some ⟨w,0,none⟩) acc.length 1] true):=gNq (gP A.box) (by omega)
 have e:nmL (acc++[p])=nmL acc++[iV ((p+1:Nat):Int)]:=by simp[nmL]
 refine⟨⟨((((A.keep.pushN _).setN (by omega) _).pushN _).setN A.lo _),A.lo,gE (gP hb2),.inr ⟨by simp,by rw[nmL_len];simp,g.length+1,by simp,?_,by omega⟩⟩,?_⟩
 ·rw[e]
  exact gNq (gV _ (by simp)) (by omega)
 ·exact (((Keep.push _ _ _).trans (Keep.set (fp:=fpA b8 (.slice (some ⟨w,0,none⟩) acc.length 1)) (.inr ⟨_,_,rfl⟩) _)).trans (Keep.push _ _ _)).trans (Keep.set (.inl rfl) _)
theorem AccN.cases{b8:Nat}{g:Hp}{v:Value}{acc:List Nat}(A:AccN h b8 g v acc):(acc=[]/\v=.slice none 0 0)\/(acc≠[]/\∃ w,v=.slice (some ⟨w,0,none⟩) acc.length 1/\g[w]?=some (.cells (nmL acc) true)/\b8+1<=w):=by
 rcases A.sl with⟨a1,_,a2⟩ | ⟨a1,_,w,a3,a4,a5⟩
 ·exact .inl ⟨List.length_eq_zero_iff.1 a1,a2⟩
 ·exact .inr ⟨fun e=>a1 (by rw[e];rfl),w,a3,a4,a5⟩
abbrev FV48(b8 b9:Nat):Value:=.func (.func 48) #[] #[ptr b8,ptr b9]
theorem AccN.notF{b8 b9:Nat}{g:Hp}{v:Value}{acc:List Nat}(A:AccN h b8 g v acc)(hl:g[b9]?=some (.cells [FV48 b8 b9] true))(hn:b9≠b8):¬ fpA b8 v b9:=by
 rintro (rfl | ⟨n',z',e⟩)
 ·exact hn rfl
 ·rcases A.cases with⟨_,e'⟩ | ⟨a1,w,a3,a4,a5⟩
  ·rw[e'] at e;cases e
  ·rw[a3] at e;cases e
   rw[a4] at hl
   have:=(AObj.cells.inj (Option.some.inj hl)).1
   cases acc with
   | nil=>exact a1 rfl
   | cons p acc=>simp[nmL] at this
theorem stat48:(Asm.stat (drawN Try.f48 0)).holds Try.prog:=show statOk (drawN Try.f48 0)=true by kernel_rfl
theorem opn_cells(a:TAt h ρ t){k f:Nat}{x:Tk}(hx:t.tks[k]?=some x)(hf:f<=x.opn.length):(x.opn.drop f).length≠0->∃ o c rw,ρ (.op k)=some o/\h[o]?=some (.cells c rw)/\∀ i v,(x.opn.drop f)[i]?=some v->c[f+i]?=some (inP ρ v):=fun hne=>by
 cases ho:ρ (.op k) with
 | none=>rw[a.sh.op k x hx ho] at hne;simp at hne
 | some o =>
  obtain⟨junk,hj⟩:=a.obj _ _ ho
  rw[cont_op hx] at hj
  refine⟨o,_,true,rfl,hj,fun i v hv=>?_⟩
  rw[List.getElem?_drop] at hv
  have hl:=gTq hv
  rw[List.getElem?_append_left (by simp;omega),List.getElem?_map,hv];rfl
theorem below_walk(a:TAt h ρ t)(ok:TOk c t)(hc:c<=1000)(W:WI none t)(J:WJ t){b8 b9:Nat}(h98:b9≠b8) :
  ∀ (f s si:Nat),t.scs.length-s<=f->s<t.scs.length->ρ (.sc s)=some si->∀ (g:Hp) (v:Value) (acc:List Nat),AccN h b8 g v acc->g[b9]?=some (.cells [FV48 b8 b9] true)->acc.length+(t.belowG f s).length<=100000 ->
   ∃ g' v',Run Try.prog 48 [ptr si,ptr b8,ptr b9] g (.tuple #[]) g'/\AccN h b8 g' v' (acc++t.belowG f s)/\g'[b9]?=some (.cells [FV48 b8 b9] true):=by
 intro f
 induction f with
 | zero=>intro s si h1 h2;omega
 | succ f ih =>
  intro s si h1 h2 hsi g v acc A hb9 hlen
  have n64:=ok.n64
  obtain⟨y,hy⟩:∃ y,t.scs[s]?=some y:=⟨_,List.getElem?_eq_getElem h2⟩
  have hml:=ok.mlen s y hy
  have how:=ok.ow s y hy
  obtain⟨oi,hoi⟩:=a.sh.tk _ how
  obtain⟨z,hz⟩:∃ z,t.tks[y.ow]?=some z:=⟨_,List.getElem?_eq_getElem how⟩
  have hzl:=ok.len _ z hz
  have plen:∀ {s'},Par t s' s->s<s'/\s'<t.scs.length:=fun hp=>by
   have:=hp.lt J W
   obtain⟨y',_,hy',_⟩:=hp
   exact⟨this,gTq hy'⟩
  have hbel:t.belowG (f+1) s=y.tks.flatMap (t.below1 (t.belowG f))++match t.next s with
   | none=>[]
   | some s'=>t.belowG f s':=by rw[TS.belowG];simp only[hy];try (cases t.next s<;>rfl)
  rw[hbel] at hlen ⊢
  obtain⟨M,hM⟩:∃ M,M=y.tks.flatMap (t.below1 (t.belowG f)):=⟨_,rfl⟩
  rw[<- hM] at hlen ⊢
  rw[List.length_append] at hlen
  obtain⟨oa,za,ev,ev2⟩:=slv_ex (ρ (.st s)) y.tks.length (fun e=>by rw[a.sh.st s y hy e];rfl)
  have loop:∀ (r i:Nat) (E:Env) (g:Hp) (v:Value),i+r=y.tks.length->EnvLe [(14,iV (i:Int)),(13,iV (Int.ofNat y.tks.length)),(12,.slice oa y.tks.length za),(0,ptr si),(1,ptr b8),(2,ptr b9)] E ->
    AccN h b8 g v (acc++(y.tks.take i).flatMap (t.below1 (t.belowG f)))->g[b9]?=some (.cells [FV48 b8 b9] true) ->
    ∃ E1 g' v',EnvLe [(0,ptr si),(1,ptr b8),(2,ptr b9)] E1/\LRun Try.prog 67 false (loopN Try.f48 0) E g (.exit 0) E1 g'/\AccN h b8 g' v' (acc++M)/\g'[b9]?=some (.cells [FV48 b8 b9] true):=by
   intro r
   induction r with
   | zero =>
    intro i E g v hi hE A hb9
    have e:i=y.tks.length:=by omega
    subst e
    rw[List.take_length,<- hM] at A
    obtain⟨E2,q1,q2⟩:=pvC 0 hE (r43p.bm_out si b8 b9 0 y.tks.length za 0 0 0 0 0 0 0 0 0 oa none y.tks.length 0 0 [] [] [] g g g) ⟨ltF (by simp),trivial⟩
    exact⟨E2,g,v,tR q1,.last q2 (by simp),A,hb9⟩
   | succ r ihr =>
    intro i E g v hi hE A hb9
    obtain⟨w,hw⟩:∃ w,y.tks[i]?=some w:=⟨_,List.getElem?_eq_getElem (by omega)⟩
    have hwm:=List.mem_of_getElem? hw
    have hwl:=ok.mem s y w hy hwm
    obtain⟨x,hx⟩:∃ x,t.tks[w]?=some x:=⟨_,List.getElem?_eq_getElem hwl⟩
    obtain⟨x',hx',hxi⟩:=(W.mem s y w hy).1 hwm
    rw[hx] at hx';cases hx'
    obtain⟨xi,hxo⟩:=a.sh.tk w hwl
    have hxl:=ok.len w x hx
    cases hst:ρ (.st s) with
    | none=>have:=a.sh.st s y hy hst;rw[this] at hi;simp at hi
    | some so =>
    obtain⟨rfl,rfl⟩:=ev2 so hst
    have ag:=a.grow A.keep
    have tk1:(y.tks.take (i+1)).flatMap (t.below1 (t.belowG f))=(y.tks.take i).flatMap (t.below1 (t.belowG f))++t.below1 (t.belowG f) w:=by rw[take_one hw,List.flatMap_append];simp
    have sub:((y.tks.take (i+1)).flatMap (t.below1 (t.belowG f))).length<=M.length:=by
     rw[hM]
     conv=>rhs;rw[<- List.take_append_drop (i+1) y.tks,List.flatMap_append,List.length_append]
     omega
    rw[tk1,List.length_append] at sub
    have B1:(Asm.cmp .lss (i:Int) (Int.ofNat y.tks.length) true).holds Try.prog:=ltT (by simp;omega)
    have B2:(Asm.off i 0 (i:Int) y.tks.length 1).holds Try.prog:=offI (q:=i) rfl (by omega) (by omega)
    have B3:(Asm.ld1 (.is g) so i (ptr xi)).holds Try.prog:=by
     have:=ag.ld1 (P:=Try.prog) (s:=.is g) rfl hst (d:=i) (v:=pvv (ρ (.tk w))) (by rw[cont_st hy,List.getElem?_map,hw];rfl)
     rwa [hxo] at this
    have B4:(Asm.ld1 (.is g) xi 4 (.bool x.en)).holds Try.prog:=ag.ld1 rfl hxo (by rw[cT hx];rfl)
    have B9:(Asm.arith .add .i64 (i:Int) 1 ((i+1:Nat):Int)).holds Try.prog:=addI rfl (by omega) (by omega)
    have next:∀ {E2:Env} {g':Hp} {v':Value},EnvLe [(14,iV ((i+1:Nat):Int)),(13,iV (Int.ofNat y.tks.length)),(12,.slice (some ⟨so,0,none⟩) y.tks.length 1),(0,ptr si),(1,ptr b8),(2,ptr b9)] E2->CRun Try.prog 67 false (loopN Try.f48 0) E g .normal E2 g' ->
      AccN h b8 g' v' (acc++(y.tks.take i).flatMap (t.below1 (t.belowG f))++t.below1 (t.belowG f) w)->g'[b9]?=some (.cells [FV48 b8 b9] true) ->
      ∃ E1 g' v',EnvLe [(0,ptr si),(1,ptr b8),(2,ptr b9)] E1/\LRun Try.prog 67 false (loopN Try.f48 0) E g (.exit 0) E1 g'/\AccN h b8 g' v' (acc++M)/\g'[b9]?=some (.cells [FV48 b8 b9] true):=fun h1 h2 h3 h4=>by
     rw[List.append_assoc,<- tk1] at h3
     obtain⟨E3,g3,v3,s1,s2,s3,s4⟩:=ihr (i+1) _ _ _ (by omega) h1 h3 h4
     exact⟨E3,g3,v3,s1,.step h2 s2,s3,s4⟩
    cases hen:x.en with
    | true =>
     rw[hen] at B4
     have e0:t.below1 (t.belowG f) w=[]:=by simp only[TS.below1,hx,hen,if_true]
     obtain⟨E2,q1,q2⟩:=pvK 0 hE (r43p.bm_end si b8 b9 so y.tks.length 0 i xi 0 0 0 0 0 0 0 none none i ((i+1:Nat):Int) 0 [] [] [] g g g) ⟨B1,B2,B3,B4,B9,trivial⟩
     exact next (tR q1) q2 (by rw[e0,List.append_nil];exact A) hb9
    | false =>
     rw[hen] at B4
     have e0:t.below1 (t.belowG f) w=w::match outerO x.opn with
      | none=>[]
      | some s'=>t.belowG f s':=by simp only[TS.below1,hx,hen,Bool.false_eq_true,if_false];try (cases outerO x.opn<;>rfl)
     obtain⟨acc1,hacc1⟩:∃ acc1,acc1=acc++(y.tks.take i).flatMap (t.below1 (t.belowG f)):=⟨_,rfl⟩
     rw[<- hacc1] at A next
     have lacc1:acc1.length<=100000:=by rw[hacc1,List.length_append];omega
     have B5:(Asm.ld1 (.is g) b8 0 v).holds Try.prog:=aL A.box rfl
     have B6:(Asm.ld1 (.is g) xi 0 (iV ((w+1:Nat):Int))).holds Try.prog:=ag.ld1 rfl hxo (by rw[cT hx];rfl)
     obtain⟨op,zo,eop,eop2⟩:=slv_ex (ρ (.op w)) x.opn.length (fun e=>by rw[a.sh.op w x hx e];rfl)
     have main:∀ (g2:Hp) (v2:Value),AccN h b8 g2 v2 (acc1++[w])->Keep (fpA b8 v) g g2 ->
       (∀ g3,outerO x.opn=none->Run Try.prog 49 [.slice op x.opn.length zo] g2 (.pointer none) g2->(Asm.ld1 (.is g2) xi 2 (.slice op x.opn.length zo)).holds Try.prog->g3=g2->∃ E2,EnvLe [(14,iV ((i+1:Nat):Int)),(13,iV (Int.ofNat y.tks.length)),(12,.slice (some ⟨so,0,none⟩) y.tks.length 1),(0,ptr si),(1,ptr b8),(2,ptr b9)] E2/\CRun Try.prog 67 false (loopN Try.f48 0) E g .normal E2 g3) ->
       (∀ (s' yi:Nat) (g3:Hp),outerO x.opn=some s'->Run Try.prog 49 [.slice op x.opn.length zo] g2 (ptr yi) g2->(Asm.ld1 (.is g2) xi 2 (.slice op x.opn.length zo)).holds Try.prog->(Asm.ld1 (.is g2) b9 0 (FV48 b8 b9)).holds Try.prog->Run Try.prog 48 [ptr yi,ptr b8,ptr b9] g2 (.tuple #[]) g3->∃ E2,EnvLe [(14,iV ((i+1:Nat):Int)),(13,iV (Int.ofNat y.tks.length)),(12,.slice (some ⟨so,0,none⟩) y.tks.length 1),(0,ptr si),(1,ptr b8),(2,ptr b9)] E2/\CRun Try.prog 67 false (loopN Try.f48 0) E g .normal E2 g3) ->
       ∃ E1 g' v',EnvLe [(0,ptr si),(1,ptr b8),(2,ptr b9)] E1/\LRun Try.prog 67 false (loopN Try.f48 0) E g (.exit 0) E1 g'/\AccN h b8 g' v' (acc++M)/\g'[b9]?=some (.cells [FV48 b8 b9] true):=by
      intro g2 v2 A2 K2 hnone hsome
      have ag2:=a.grow A2.keep
      have hb92:=K2.2 _ _ hb9 (A.notF hb9 h98)
      have Lo:(Asm.ld1 (.is g2) xi 2 (.slice op x.opn.length zo)).holds Try.prog:=by rw[<- eop];exact ag2.ld1 rfl hxo (by rw[cT hx];rfl)
      have R:=outer_run (ρ:=ρ) (h:=g2) (l:=x.opn) (oa:=op) (za:=zo) (by omega) (fun s' hs'=>a.sh.sc s' (ok.opn w x s' hx hs')) (fun hne=>by
       obtain⟨o,cc,rw,e1,e2,e3⟩:=opn_cells ag2 (f:=0) hx (by omega) (by simpa using hne)
       obtain⟨rfl,rfl⟩:=eop2 o e1
       exact⟨o,0,cc,rw,rfl,rfl,e2,by simpa using e3⟩)
      cases ho:outerO x.opn with
      | none =>
       rw[ho] at R e0
       obtain⟨E2,q1,q2⟩:=hnone g2 ho R Lo rfl
       exact next q1 q2 (by rw[e0];exact A2) hb92
      | some s' =>
       rw[ho] at R e0
       have hp:=first_par W hx hxi ho ok
       obtain⟨yi,hyi⟩:=a.sh.sc s' (plen hp).2
       simp only[inP,hyi,pvv] at R
       have l2:(t.below1 (t.belowG f) w).length=(t.belowG f s').length+1:=by rw[e0];simp
       obtain⟨g3,v3,r3,A3,hb93⟩:=ih s' yi (by have:=(plen hp).1;omega) (plen hp).2 hyi g2 v2 _ A2 hb92 (by
        rw[List.length_append,hacc1,List.length_append]
        simp only[List.length_singleton]
        omega)
       obtain⟨E2,q1,q2⟩:=hsome s' yi g3 ho R Lo (aL hb92 rfl) r3
       refine next (v':=v3) q1 q2 ?_ hb93
       rw[e0]
       simpa using A3
     rcases A.cases with⟨e1,rfl⟩ | ⟨hne,o,rfl,hoo,hlo⟩
     ·rw[e1] at A main next
      obtain⟨A2,K2⟩:=A.appN w
      have D1:(Asm.appNil (.push (.is g) (.cells [iV ((w+1:Nat):Int)] true)) g.length 0 1 0 1 8 [iV ((w+1:Nat):Int)] (g.length+1)).holds Try.prog:=a_appGN rfl rfl (by omega) (gW _ _) (pL _ _)
      have D2:(Asm.st (.push (.push (.is g) (.cells [iV ((w+1:Nat):Int)] true)) (.cells [iV ((w+1:Nat):Int)] true)) b8 0 [.slice (some ⟨g.length+1,0,none⟩) 1 1] [.slice (some ⟨g.length+1,0,none⟩) 1 1]).holds Try.prog:=a_st (gP (gP A.box)) (by simp) rfl
      refine main _ _ A2 K2 (fun g3 ho R Lo e=>?_) (fun s' yi g3 ho R Lo Lf r3=>?_)
      ·subst e
       obtain⟨E2,q1,q2⟩:=pvK 0 hE (r43p.bm_nn si b8 b9 so y.tks.length 0 i xi g.length (g.length+1) 0 0 0 x.opn.length zo none op i ((i+1:Nat):Int) ((w+1:Nat):Int) [] [iV ((w+1:Nat):Int)] [.slice (some ⟨g.length+1,0,none⟩) 1 1] g _ g)
        ⟨B1,B2,B3,B4,stat48,B5,B6,rfl,D1,D2,Lo,R,B9,trivial⟩
       exact⟨E2,tR q1,q2⟩
      ·obtain⟨E2,q1,q2⟩:=pvK 0 hE (r43p.bm_ns si b8 b9 so y.tks.length 0 i xi g.length (g.length+1) 0 0 yi x.opn.length zo none op i ((i+1:Nat):Int) ((w+1:Nat):Int) [] [iV ((w+1:Nat):Int)] [.slice (some ⟨g.length+1,0,none⟩) 1 1] g _ g3)
        ⟨B1,B2,B3,B4,stat48,B5,B6,rfl,D1,D2,Lo,R,Lf,r3,B9,trivial⟩
       exact⟨E2,tR q1,q2⟩
     ·obtain⟨A2,K2⟩:=A.appS hoo hlo w
      have lo:=A.lo
      have D1:(Asm.app (.push (.is g) (.cells [iV ((w+1:Nat):Int)] true)) o 0 acc1.length g.length 0 1 0 1 8 (nmL acc1++[iV ((w+1:Nat):Int)]) [iV ((w+1:Nat):Int)] (g.length+1)).holds Try.prog:=a_appGS rfl rfl (by omega) (by omega) (by rw[nmL_len,Nat.mul_one]) (gP hoo) (gW _ _) (pL _ _)
      have D2:(Asm.st (.push (.set (.push (.is g) (.cells [iV ((w+1:Nat):Int)] true)) o .dead) (.cells (nmL acc1++[iV ((w+1:Nat):Int)]) true)) b8 0 [.slice (some ⟨g.length+1,0,none⟩) (acc1.length+1) 1] [.slice (some ⟨g.length+1,0,none⟩) (acc1.length+1) 1]).holds Try.prog:=a_st (gP (gNq (gP A.box) (by omega))) (by simp) rfl
      refine main _ _ A2 K2 (fun g3 ho R Lo e=>?_) (fun s' yi g3 ho R Lo Lf r3=>?_)
      ·subst e
       obtain⟨E2,q1,q2⟩:=pvK 0 hE (r43p.bm_sn si b8 b9 so y.tks.length 0 i xi g.length (g.length+1) o acc1.length 0 x.opn.length zo none op i ((i+1:Nat):Int) ((w+1:Nat):Int) (nmL acc1++([iV ((w+1:Nat):Int)]:List Value)) [iV ((w+1:Nat):Int)] [.slice (some ⟨g.length+1,0,none⟩) (acc1.length+1) 1] g _ g)
        ⟨B1,B2,B3,B4,stat48,B5,B6,rfl,D1,D2,Lo,R,B9,trivial⟩
       exact⟨E2,tR q1,q2⟩
      ·obtain⟨E2,q1,q2⟩:=pvK 0 hE (r43p.bm_ss si b8 b9 so y.tks.length 0 i xi g.length (g.length+1) o acc1.length yi x.opn.length zo none op i ((i+1:Nat):Int) ((w+1:Nat):Int) (nmL acc1++([iV ((w+1:Nat):Int)]:List Value)) [iV ((w+1:Nat):Int)] [.slice (some ⟨g.length+1,0,none⟩) (acc1.length+1) 1] g _ g3)
        ⟨B1,B2,B3,B4,stat48,B5,B6,rfl,D1,D2,Lo,R,Lf,r3,B9,trivial⟩
       exact⟨E2,tR q1,q2⟩
  have Ls:(Asm.ld1 (.is g) si 4 (.slice oa y.tks.length za)).holds Try.prog:=by rw[<- ev];exact (a.grow A.keep).ld1 rfl hsi (by rw[cSq hy];rfl)
  obtain⟨E1,g1,v1,w1,w2,A1,hb91⟩:=loop y.tks.length 0 [(14,iV (0:Nat)),(13,iV (Int.ofNat y.tks.length)),(12,.slice oa y.tks.length za),(0,ptr si),(1,ptr b8),(2,ptr b9)] g v (by omega) (EnvLe.refl _) (by simpa using A) hb9
  have LP:=a_loop (P:=Try.prog) (n:=67) (rd:=false) (s:=.is g) (s':=.is g1) (x:=.exit 0) (E':=[(0,ptr si),(1,ptr b8),(2,ptr b9)]) (b:=loopN Try.f48 0) (by kernel_rfl) (EnvLe.refl _) w1 w2
  have ag1:=a.grow A1.keep
  obtain⟨ob,zb,eb,eb2⟩:=slv_ex (ρ (.op y.ow)) z.opn.length (fun e=>by rw[a.sh.op _ z hz e];rfl)
  have T1:(Asm.ld1 (.is g1) si 1 (ptr oi)).holds Try.prog:=by
   have:=ag1.ld1 (P:=Try.prog) (s:=.is g1) rfl hsi (d:=1) (v:=pvv (ρ (.tk y.ow))) (by rw[cSq hy];rfl)
   rwa [hoi] at this
  have T2:(Asm.ld1 (.is g1) oi 2 (.slice ob z.opn.length zb)).holds Try.prog:=by rw[<- eb];exact ag1.ld1 rfl hoi (by rw[cT hz];rfl)
  by_cases hin:some s∈z.opn
  ·have R44:=indexS_run ag1 hz hsi (fun s' hs'=>ok.opn _ z s' hz hs') (by omega) hin eb
   have ixl:=ixO_lt hin
   have hnext:t.next s=outerO (z.opn.drop (ixO (some s) z.opn+1)):=by simp only[TS.next,hy,hz,hin,if_true]
   obtain⟨oo,cc,rw',e1,e2,_⟩:=opn_cells ag1 (f:=ixO (some s) z.opn) hz (by omega) (by simp;omega)
   obtain⟨rfl,rfl⟩:=eb2 oo e1
   have R49:=outer_run (ρ:=ρ) (h:=g1) (l:=z.opn.drop (ixO (some s) z.opn+1)) (oa:=some ⟨oo,0+(ixO (some s) z.opn+1)*1,none⟩) (za:=1) (by simp;omega) (fun s' hs'=>a.sh.sc s' (ok.opn _ z s' hz (List.mem_of_mem_drop hs'))) (fun hne=>by
    obtain⟨o,cc,rw,e1',e2,e3⟩:=opn_cells ag1 (f:=ixO (some s) z.opn+1) hz (by omega) hne
    rw[e1] at e1';cases e1'
    exact⟨oo,_,cc,rw,rfl,rfl,e2,fun i v hv=>by rw[Nat.zero_add,Nat.mul_one];exact e3 i v hv⟩)
   rw[List.length_drop,<- hnext] at R49
   have N1:(Asm.arith .add .i64 ((ixO (some s) z.opn:Nat):Int) 1 (Int.ofNat (ixO (some s) z.opn+1))).holds Try.prog:=addI (by simp) (by simp only[Int.ofNat_eq_natCast];omega) (by simp only[Int.ofNat_eq_natCast];omega)
   have N2:(Asm.cut (some (iV (Int.ofNat (ixO (some s) z.opn+1)))) none z.opn.length (ixO (some s) z.opn+1) z.opn.length).holds Try.prog:=a_cut3 (by omega)
   cases hn:t.next s with
   | none =>
    rw[hn] at R49
    exact⟨g1,v1,pvF 0 Try.func48 (r43p.bw_nil si b8 b9 y.tks.length za z.opn.length 0 oo oi 0 (ixO (some s) z.opn+1) 0 oa none ((ixO (some s) z.opn:Nat):Int) 0 g g1 g1 g1 g1)
     ⟨Ls,a_loop (by kernel_rfl) (.add (.add (.add (.add (.add (.add (.nil _) rfl) rfl) rfl) rfl) rfl) rfl) w1 w2,T1,T2,R44,ltF (by omega),T1,T2,N1,N2,R49,trivial⟩,by rw[List.append_nil];exact A1,hb91⟩
   | some s' =>
    rw[hn] at R49 hlen
    have hp:=next_par W hn ok
    obtain⟨yi,hyi⟩:=a.sh.sc s' (plen hp).2
    simp only[inP,hyi,pvv] at R49
    simp only at hlen
    obtain⟨g3,v3,r3,A3,hb93⟩:=ih s' yi (by have:=(plen hp).1;omega) (plen hp).2 hyi g1 v1 _ A1 hb91 (by rw[List.length_append];omega)
    exact⟨g3,v3,pvF 0 Try.func48 (r43p.bw_go si b8 b9 y.tks.length za z.opn.length 0 oo oi yi (ixO (some s) z.opn+1) 0 oa none ((ixO (some s) z.opn:Nat):Int) 0 g g1 g1 g1 g3)
     ⟨Ls,a_loop (by kernel_rfl) (.add (.add (.add (.add (.add (.add (.nil _) rfl) rfl) rfl) rfl) rfl) rfl) w1 w2,T1,T2,R44,ltF (by omega),T1,T2,N1,N2,R49,aL hb91 rfl,r3,trivial⟩,by rw[<- List.append_assoc];exact A3,hb93⟩
  ·have R44:=indexS_none ag1 hz hsi (fun s' hs'=>ok.opn _ z s' hz hs') (by omega) hin eb
   have hn:t.next s=none:=by simp only[TS.next,hy,hz,hin,if_false]
   rw[hn]
   exact⟨g1,v1,pvF 0 Try.func48 (r43p.bw_abs si b8 b9 y.tks.length za z.opn.length zb 0 oi 0 0 0 oa ob (Int.negSucc 0) 0 g g1 g1 g1 g1)
    ⟨Ls,a_loop (by kernel_rfl) (.add (.add (.add (.add (.add (.add (.nil _) rfl) rfl) rfl) rfl) rfl) rfl) w1 w2,T1,T2,R44,ltT (by decide),trivial⟩,by rw[List.append_nil];exact A1,hb91⟩
def TS.below(t:TS)(n:Int):List Nat×Int:=match t.scope n with
 | (none,e)=>([],e)
 | (some s,_)=>(t.belowG t.scs.length s,0)
theorem below_run(a:TAt h ρ t)(ok:TOk c t)(hc:c<=1000)(W:WI none t)(J:WJ t)(hr:ρ .root=some r)(n:Int) :
  ∃ v h',Run Try.prog 27 [ptr r,iV n] h (.tuple #[v,iV (t.below n).2]) h'/\Keep (fun _=>False) h h'/\SlV h' h.length v (t.below n).1.length 1 (nmL (t.below n).1):=by
 have R:=scope_run a ok hr n
 rcases hq:t.scope n with⟨s | s,e⟩
 ·have e6:=scope_none hq
  subst e6
  rw[hq] at R
  have e':t.below n=([],6):=by simp only[TS.below,hq]
  rw[e']
  exact⟨_,h,pvF 0 Try.func27 (r43p.bl_err r 0 0 0 0 0 none n 6 h h h) ⟨R,neT (by omega),trivial⟩,Keep.refl _ _,.inl ⟨rfl,rfl,rfl⟩⟩
 ·obtain⟨rfl,hn,hs⟩:=scope_some hq
  obtain⟨si,hsi⟩:=a.sh.sc s hs
  rw[hq] at R
  simp only[inP,hsi,pvv] at R
  have e':t.below n=(t.belowG t.scs.length s,0):=by simp only[TS.below,hq]
  rw[e']
  obtain⟨g2,hg2⟩:∃ g2,g2=((h++[AObj.cells [.slice none 0 0] true])++[AObj.cells [.nilFunc] true]).set (h.length+1) (.cells [FV48 h.length (h.length+1)] true):=⟨_,rfl⟩
  have l1:=pL h (AObj.cells [.slice none 0 0] true)
  have K2:Keep (fun _=>False) h g2:=by rw[hg2];exact (((Keep.refl _ h).pushN _).pushN _).setN (by omega) _
  have hb8:g2[h.length]?=some (.cells [.slice none 0 0] true):=by rw[hg2];exact gNq (gP (gW _ _)) (by omega)
  have hb9:g2[h.length+1]?=some (.cells [FV48 h.length (h.length+1)] true):=by rw[hg2];exact gE (gV _ l1)
  have A0:AccN h h.length g2 (.slice none 0 0) []:=⟨K2,Nat.le_refl _,hb8,.inl ⟨rfl,rfl,rfl⟩⟩
  have bl:=below_len ok W J hs
  obtain⟨g3,v3,r3,A3,hb93⟩:=below_walk a ok hc W J (b8:=h.length) (b9:=h.length+1) (by omega) t.scs.length s si (by omega) hs hsi g2 _ [] A0 hb9 (by simp;omega)
  rw[List.nil_append] at A3
  obtain⟨oa,la,za,ev⟩:∃ oa la za,v3=.slice oa la za:=by rcases A3.cases with⟨_,e⟩ | ⟨_,w,e,_⟩<;>exact⟨_,_,_,e⟩
  subst ev
  rw[hg2] at r3
  exact⟨_,g3,pvF 0 Try.func27 (r43p.bl_ok r si h.length (h.length+1) la za oa n 0 h h g3) ⟨R,neF rfl,rfl,l1,a_st (gV _ l1) (by simp) rfl,aL (gE (gV _ l1)) rfl,r3,aL A3.box rfl,trivial⟩,A3.keep,A3.sl.mono (by omega)⟩
end
end Go.Proofs.Ytahomnlkkafbjaa.tr
namespace Go.Proofs.Ytahomnlkkafbjaa.rf
open Go Go.Ev Go.Proofs.Ytahomnlkkafbjaa.tr
inductive RR where
 | ts
 | ss
 | lf
 | op (k:Nat)
 | st (k:Nat)
 deriving DecidableEq
abbrev RLay:=RR->Option Nat
def sA:Option Nat->Option Addr
 | none=>none
 | some i=>some ⟨i,0,none⟩
def sZ:Option Nat->Nat->Nat
 | none,_=>0
 | some _,z=>z
abbrev slz(o:Option Nat)(n z:Nat):Value:=.slice (sA o) n (sZ o z)
def lfK(x:Tk):Int:=if x.lv then x.fk else 0
def lfT(x:Tk):ByteArray:=if x.lv then x.ft else ⟨#[]⟩
def rk(σ:RLay)(i:Nat)(x:Tk):List Value:=(tkV x).C (slz (σ (.op i)) x.opn.length 2)
def rs(σ:RLay)(i:Nat)(y:Sc):List Value:=(scV y).C (slz (σ (.st i)) y.tks.length 1)
def rl(_:Nat)(x:Tk):List Value:=[iV (lfK x),.string (lfT x)]
theorem rk_len(σ:RLay)(i:Nat)(x:Tk):(rk σ i x).length=6:=rfl
theorem rs_len(σ:RLay)(i:Nat)(y:Sc):(rs σ i y).length=6:=rfl
theorem rl_len(i:Nat)(x:Tk):(rl i x).length=2:=rfl
def rcontL(σ:RLay)(tks:List Tk)(scs:List Sc)(lfs:List Tk):RR->List Value
 | .ts=>fl (rk σ) 0 tks
 | .ss=>fl (rs σ) 0 scs
 | .lf=>fl rl 0 lfs
 | .op k=>match tks[k]? with
  | some x=>lkL x.opn
  | none=>[]
 | .st k=>match scs[k]? with
  | some y=>nmL y.tks
  | none=>[]
structure RShL(σ:RLay)(tks:List Tk)(scs:List Sc)(lfs:List Tk):Prop where
 ts:σ .ts=none->tks=[]
 ss:σ .ss=none->scs=[]
 lf:σ .lf=none->lfs=[]
 op:∀ (k:Nat) x,tks[k]?=some x->σ (.op k)=none->x.opn=[]
 st:∀ (k:Nat) y,scs[k]?=some y->σ (.st k)=none->y.tks=[]
 otk:∀ k,tks.length<=k->σ (.op k)=none
 osc:∀ k,scs.length<=k->σ (.st k)=none
structure RAtL(h:Hp)(σ:RLay)(tks:List Tk)(scs:List Sc)(lfs:List Tk):Prop where
 sh:RShL σ tks scs lfs
 inj:∀ r r' i,σ r=some i->σ r'=some i->r=r'
 obj:∀ r i,σ r=some i->∃ junk,h[i]?=some (.cells (rcontL σ tks scs lfs r++junk) true)
abbrev RAt(h:Hp)(σ:RLay)(t:TS):Prop:=RAtL h σ t.tks t.scs t.tks
abbrev rV(o1 o2 o3:Option Nat)(n m:Nat):List Value:=[slz o1 n 6,slz o2 m 6,slz o3 n 2]
def rT(σ:RLay)(t:TS):List Value:=rV (σ .ts) (σ .ss) (σ .lf) t.tks.length t.scs.length
def fpR(σ:RLay)(q:Nat):Prop:=∃ r,σ r=some q
section
variable {h h' g:Hp} {σ:RLay} {t:TS} {c k:Nat}
theorem RAtL.lt{tks:List Tk}{scs:List Sc}{lfs:List Tk}(a:RAtL h σ tks scs lfs){r:RR}{i:Nat}(e:σ r=some i):i<h.length:=by
 obtain⟨_,hj⟩:=a.obj r i e
 exact get_lt hj
theorem RAtL.keep{fp:Nat->Prop}{tks:List Tk}{scs:List Sc}{lfs:List Tk}(a:RAtL h σ tks scs lfs)(K:Keep fp h h')(hf:∀ q,fp q->¬ fpR σ q):RAtL h' σ tks scs lfs :=
 ⟨a.sh,a.inj,fun r i e=>by
  obtain⟨junk,hj⟩:=a.obj r i e
  exact⟨junk,K.2 _ _ hj fun q=>hf i q ⟨r,e⟩⟩⟩
theorem RAtL.grow{tks:List Tk}{scs:List Sc}{lfs:List Tk}(a:RAtL h σ tks scs lfs)(K:Grow h h'):RAtL h' σ tks scs lfs:=a.keep K fun q e=>e.elim
theorem RAtL.push{tks:List Tk}{scs:List Sc}{lfs:List Tk}(a:RAtL h σ tks scs lfs)(o:AObj):RAtL (h++[o]) σ tks scs lfs:=a.grow (Keep.push _ _ _)
theorem rcont_op{tks:List Tk}{scs:List Sc}{lfs:List Tk}{x:Tk}(hx:tks[k]?=some x):rcontL σ tks scs lfs (.op k)=lkL x.opn:=by simp only[rcontL,hx]
theorem rcont_st{tks:List Tk}{scs:List Sc}{lfs:List Tk}{y:Sc}(hy:scs[k]?=some y):rcontL σ tks scs lfs (.st k)=nmL y.tks:=by simp only[rcontL,hy]
theorem RAtL.tsO{tks:List Tk}{scs:List Sc}{lfs:List Tk}(a:RAtL h σ tks scs lfs){x:Tk}(hx:tks[k]?=some x):∃ o,σ .ts=some o:=by
 cases e:σ .ts with
 | some o=>exact⟨o,rfl⟩
 | none=>have:=a.sh.ts e;rw[this] at hx;simp at hx
theorem RAtL.lfO{tks:List Tk}{scs:List Sc}{lfs:List Tk}(a:RAtL h σ tks scs lfs){x:Tk}(hx:lfs[k]?=some x):∃ o,σ .lf=some o:=by
 cases e:σ .lf with
 | some o=>exact⟨o,rfl⟩
 | none=>have:=a.sh.lf e;rw[this] at hx;simp at hx
theorem RAtL.ssO{tks:List Tk}{scs:List Sc}{lfs:List Tk}(a:RAtL h σ tks scs lfs){y:Sc}(hy:scs[k]?=some y):∃ o,σ .ss=some o:=by
 cases e:σ .ss with
 | some o=>exact⟨o,rfl⟩
 | none=>have:=a.sh.ss e;rw[this] at hy;simp at hy
theorem RAtL.tsC{tks:List Tk}{scs:List Sc}{lfs:List Tk}(a:RAtL h σ tks scs lfs){o:Nat}(ho:σ .ts=some o){x:Tk}(hx:tks[k]?=some x){d:Nat}{v:Value}(hv:(rk σ k x)[d]?=some v){P:Program}{s:SH}(hs:Grow h s.den):(Asm.ld1 s o (k*6+d) v).holds P:=by
 obtain⟨junk,hj⟩:=a.obj _ _ ho
 refine aL (hs.get hj) ?_
 rw[<- hv,show rcontL σ tks scs lfs .ts=fl (rk σ) 0 tks from rfl,fl_get (rk_len σ) hx (by have:=gTq hv;rw[rk_len] at this;exact this),Nat.zero_add]
theorem RAtL.ssC{tks:List Tk}{scs:List Sc}{lfs:List Tk}(a:RAtL h σ tks scs lfs){o:Nat}(ho:σ .ss=some o){y:Sc}(hy:scs[k]?=some y){d:Nat}{v:Value}(hv:(rs σ k y)[d]?=some v){P:Program}{s:SH}(hs:Grow h s.den):(Asm.ld1 s o (k*6+d) v).holds P:=by
 obtain⟨junk,hj⟩:=a.obj _ _ ho
 refine aL (hs.get hj) ?_
 rw[<- hv,show rcontL σ tks scs lfs .ss=fl (rs σ) 0 scs from rfl,fl_get (rs_len σ) hy (by have:=gTq hv;rw[rs_len] at this;exact this),Nat.zero_add]
theorem RAtL.opC{tks:List Tk}{scs:List Sc}{lfs:List Tk}(a:RAtL h σ tks scs lfs){o:Nat}(ho:σ (.op k)=some o){x:Tk}(hx:tks[k]?=some x){i:Nat}{v:Option Nat}(hv:x.opn[i]?=some v){P:Program}{s:SH}(hs:Grow h s.den):(Asm.ldn s o (i*2) 2 (lkC v)).holds P:=by
 obtain⟨junk,hj⟩:=a.obj _ _ ho
 rw[rcont_op hx] at hj
 have:=gTq hv
 refine aN (hs.get hj) (by simp[lkL_len];omega) (lkL_at2 junk hv)
theorem RAtL.stC{tks:List Tk}{scs:List Sc}{lfs:List Tk}(a:RAtL h σ tks scs lfs){o:Nat}(ho:σ (.st k)=some o){y:Sc}(hy:scs[k]?=some y){i j:Nat}(hv:y.tks[i]?=some j){P:Program}{s:SH}(hs:Grow h s.den):(Asm.ld1 s o i (iV ((j+1:Nat):Int))).holds P:=by
 obtain⟨junk,hj⟩:=a.obj _ _ ho
 rw[rcont_st hy] at hj
 exact aL (hs.get hj) (by rw[List.getElem?_append_left (by rw[nmL_len];exact gTq hv)];simp[nmL,hv])
theorem boxT(h:Hp)(l:List Value):Grow h (h++[.cells l true]):=Keep.push _ _ _
def TS.rnB(t:TS)(n:Int):Bool:=(t.runs n).1.isSome
def TS.scB(t:TS)(n:Int):Bool:=if n<1\/(t.scs.length:Int)<n then false else match t.scs[(n-1).toNat]? with
 | some y=>!y.ov
 | none=>false
theorem tk_at{n:Int}(h1:¬ n<1)(h2:¬ (t.tks.length:Int)<n):∃ k x,n=((k+1:Nat):Int)/\t.tks[k]?=some x:=by
 refine⟨(n-1).toNat,t.tks[(n-1).toNat]'(by omega),by omega,List.getElem?_eq_getElem _⟩
theorem sc_at{n:Int}(h1:¬ n<1)(h2:¬ (t.scs.length:Int)<n):∃ k y,n=((k+1:Nat):Int)/\t.scs[k]?=some y:=by
 refine⟨(n-1).toNat,t.scs[(n-1).toNat]'(by omega),by omega,List.getElem?_eq_getElem _⟩
theorem runs_at{x:Tk}(hx:t.tks[k]?=some x):t.runs ((k+1:Nat):Int)=if x.en then (none,6) else (some k,0):=by
 have:=gTq hx
 have h1:¬ (((k+1:Nat):Int)<1\/(t.tks.length:Int)<((k+1:Nat):Int)):=by omega
 have h2:(((k+1:Nat):Int)-1).toNat=k:=by omega
 simp only[TS.runs,if_neg h1,h2,hx]
theorem rnB_at{x:Tk}(hx:t.tks[k]?=some x):TS.rnB t ((k+1:Nat):Int)=!x.en:=by
 rw[TS.rnB,runs_at hx];cases x.en<;>rfl
theorem rnB_out{n:Int}(h:n<1\/(t.tks.length:Int)<n):TS.rnB t n=false:=by simp only[TS.rnB,TS.runs,if_pos h];rfl
theorem runsR_run(a:RAt h σ t)(ok:TOk c t)(n:Int):Run Try.prog 71 [.agg (rT σ t).toArray,iV n] h (.bool (TS.rnB t n)) (h++[.cells (rT σ t) true]):=by
 have n64:=ok.n64
 by_cases h1:n<1
 ·rw[rnB_out (.inl h1)]
  exact pvF 0 Try.func71 (q1p.ru_lo _ _ _ _ _ _ _ _ _ h.length n h) ⟨rfl,geF h1,trivial⟩
 ·by_cases h2:(t.tks.length:Int)<n
  ·rw[rnB_out (.inr h2)]
   exact pvF 0 Try.func71 (q1p.ru_hi (sA (σ .ts)) _ _ t.tks.length _ _ _ _ _ h.length n h) ⟨rfl,geT (by omega),aL (gW h _) rfl,leF h2,trivial⟩
  ·obtain⟨k,x,rfl,hx⟩:=tk_at h1 h2
   obtain⟨o,ho⟩:=a.tsO hx
   have hk:=gTq hx
   rw[rnB_at hx]
   simp only[rT,ho]
   exact pvF 0 Try.func71 (q1p.ru_at _ _ _ _ _ _ o t.tks.length h.length (k*6) _ k x.en h) ⟨rfl,geT (by omega),aL (gW h _) rfl,leT (by simp;omega),aL (gW h _) rfl,subI (by omega) (by omega) (by omega),offI (q:=k) rfl hk (by omega),a.tsC ho hx (d:=1) rfl (boxT _ _),trivial⟩
theorem scB_at{y:Sc}(hy:t.scs[k]?=some y):TS.scB t ((k+1:Nat):Int)=!y.ov:=by
 have:=gTq hy
 have h1:¬ (((k+1:Nat):Int)<1\/(t.scs.length:Int)<((k+1:Nat):Int)):=by omega
 have h2:(((k+1:Nat):Int)-1).toNat=k:=by omega
 simp only[TS.scB,if_neg h1,h2,hy]
theorem scB_out{n:Int}(h:n<1\/(t.scs.length:Int)<n):TS.scB t n=false:=by simp only[TS.scB,if_pos h]
theorem openR_run(a:RAt h σ t)(ok:TOk c t)(n:Int):Run Try.prog 84 [.agg (rT σ t).toArray,iV n] h (.bool (TS.scB t n)) (h++[.cells (rT σ t) true]):=by
 have n200:=ok.n200
 by_cases h1:n<1
 ·rw[scB_out (.inl h1)]
  exact pvF 0 Try.func84 (q1p.op_lo _ _ _ _ _ _ _ _ _ h.length n h) ⟨rfl,geF h1,trivial⟩
 ·by_cases h2:(t.scs.length:Int)<n
  ·rw[scB_out (.inr h2)]
   exact pvF 0 Try.func84 (q1p.op_hi _ (sA (σ .ss)) _ _ t.scs.length _ _ _ _ h.length n h) ⟨rfl,geT (by omega),aL (gW h _) rfl,leF h2,trivial⟩
  ·obtain⟨k,y,rfl,hy⟩:=sc_at h1 h2
   obtain⟨o,ho⟩:=a.ssO hy
   have hk:=gTq hy
   rw[scB_at hy]
   simp only[rT,ho]
   exact pvF 0 Try.func84 (q1p.op_at _ _ _ _ _ _ o t.scs.length h.length (k*6) _ k y.ov h) ⟨rfl,geT (by omega),aL (gW h _) rfl,leT (by simp;omega),aL (gW h _) rfl,subI (by omega) (by omega) (by omega),offI (q:=k) rfl hk (by omega),a.ssC ho hy (d:=2) rfl (boxT _ _),trivial⟩
theorem acts_eq{n:Int}:t.acts n=match t.runs n with
  | (some k,_)=>match t.tks[k]? with
   | some x=>if x.lv then (none,22) else (some k,0)
   | none=>(none,6)
  | (none,e)=>(none,e):=rfl
theorem acts_out{n:Int}(h:TS.rnB t n=false):t.acts n=(none,6):=by
 cases e:t.runs n with
 | mk o e2 =>
  cases o with
  | none =>
   have:=runs_none e
   subst this
   rw[acts_eq,e]
  | some k=>rw[TS.rnB,e] at h;cases h
theorem acts_at{x:Tk}(hx:t.tks[k]?=some x)(he:x.en=false):t.acts ((k+1:Nat):Int)=if x.lv then (none,22) else (some k,0):=by
 rw[acts_eq,runs_at hx,he]
 simp only[Bool.false_eq_true,if_false,hx]
theorem rnB_true{n:Int}(h:TS.rnB t n=true):∃ k x,n=((k+1:Nat):Int)/\t.tks[k]?=some x/\x.en=false:=by
 cases e:t.runs n with
 | mk o e2 =>
  cases o with
  | none=>rw[TS.rnB,e] at h;cases h
  | some k =>
   obtain⟨_,rfl,x,hx,he⟩:=runs_some e
   exact⟨k,x,rfl,hx,he⟩
theorem busyR_run(a:RAt h σ t)(ok:TOk c t)(n:Int):∃ h',Run Try.prog 75 [.agg (rT σ t).toArray,iV n] h (iV (t.acts n).2) h'/\Grow h h':=by
 have n64:=ok.n64
 have r:=runsR_run (a.push (.cells (rT σ t) true)) ok n
 have K:Grow h (h++[.cells (rT σ t) true]++[.cells (rT σ t) true]):=(boxT _ _).push _
 have A:(Asm.ldn (.push (.is h) (.cells (rT σ t) true)) h.length 0 3 (rT σ t)).holds Try.prog:=aN (gW h _) (by simp[rT]) rfl
 cases hb:TS.rnB t n with
 | false =>
  rw[hb] at r
  rw[acts_out hb]
  exact⟨_,pvF 0 Try.func75 (q1p.bu_none _ _ _ _ _ _ _ _ _ h.length n h _) ⟨rfl,A,r,trivial⟩,K⟩
 | true =>
  rw[hb] at r
  obtain⟨k,x,rfl,hx,he⟩:=rnB_true hb
  obtain⟨o,ho⟩:=a.tsO hx
  have hk:=gTq hx
  rw[acts_at hx he]
  simp only[rT,ho] at r A K ⊢
  cases hl:x.lv with
  | true =>
   refine⟨_,pvF 0 Try.func75 (q1p.bu_lv _ _ _ _ _ _ o t.tks.length h.length (k*6) _ k h _) ⟨rfl,A,r,aL (gP (gW h _)) rfl,subI (by omega) (by omega) (by omega),offI (q:=k) rfl hk (by omega),?_,trivial⟩,K⟩
   exact a.tsC ho hx (d:=2) (by simp[rk,tkV,TkV.C,hl]) K
  | false =>
   refine⟨_,pvF 0 Try.func75 (q1p.bu_ok _ _ _ _ _ _ o t.tks.length h.length (k*6) _ k h _) ⟨rfl,A,r,aL (gP (gW h _)) rfl,subI (by omega) (by omega) (by omega),offI (q:=k) rfl hk (by omega),?_,trivial⟩,K⟩
   exact a.tsC ho hx (d:=2) (by simp[rk,tkV,TkV.C,hl]) K
end
end Go.Proofs.Ytahomnlkkafbjaa.rf
namespace Go.Proofs.Ytahomnlkkafbjaa.rf
open Go Go.Ev Go.Proofs.Ytahomnlkkafbjaa.tr
section
variable {h h' g:Hp} {σ:RLay} {t:TS} {c k:Nat}
theorem RAtL.opO{tks:List Tk}{scs:List Sc}{lfs:List Tk}(a:RAtL h σ tks scs lfs){x:Tk}(hx:tks[k]?=some x){i:Nat}(hi:i<x.opn.length):∃ o,σ (.op k)=some o:=by
 cases e:σ (.op k) with
 | some o=>exact⟨o,rfl⟩
 | none=>have:=a.sh.op k x hx e;rw[this] at hi;simp at hi
theorem RAtL.stO{tks:List Tk}{scs:List Sc}{lfs:List Tk}(a:RAtL h σ tks scs lfs){y:Sc}(hy:scs[k]?=some y){i:Nat}(hi:i<y.tks.length):∃ o,σ (.st k)=some o:=by
 cases e:σ (.st k) with
 | some o=>exact⟨o,rfl⟩
 | none=>have:=a.sh.st k y hy e;rw[this] at hi;simp at hi
def lastK(l:List (Option Nat)):Int:=match l.getLast? with
 | some v=>lkK v
 | none=>0
def lastN(l:List (Option Nat)):Int:=match l.getLast? with
 | some v=>lkN v
 | none=>0
theorem lastR_run(a:RAt h σ t)(ok:TOk c t)(hc:c<=1000000){x:Tk}(hx:t.tks[k]?=some x):∃ h',Run Try.prog 80 [.agg (rT σ t).toArray,iV ((k+1:Nat):Int)] h (.agg #[iV (lastK x.opn),iV (lastN x.opn)]) h'/\Grow h h':=by
 have n64:=ok.n64
 have hl:=ok.len k x hx
 obtain⟨o,ho⟩:=a.tsO hx
 have hk:=gTq hx
 have K':∀ a l,Grow h (h++[AObj.cells a true]++[AObj.cells l true]):=fun a l=>(boxT _ _).push _
 cases e:x.opn.getLast? with
 | none =>
  have e0:x.opn=[]:=List.getLast?_eq_none_iff.1 e
  rw[show lastK x.opn=0 by simp[lastK,e],show lastN x.opn=0 by simp[lastN,e]]
  simp only[rT,ho]
  refine⟨_,pvF 0 Try.func80 (q1p.la_nil _ _ _ _ _ _ o t.tks.length h.length (h.length+1) (k*6) 0 0 0 (sA (σ (.op k))) x.opn.length (sZ (σ (.op k)) 2) _ k 0 0 0 [] h)
   ⟨rfl,pL _ _,aL (gP (gW h _)) rfl,subI (by omega) (by omega) (by omega),offI (q:=k) rfl hk (by omega),a.tsC ho hx (d:=5) rfl (K' _ _),eqT (by rw[e0];rfl),a_st (gV _ (pL _ _)) (by simp) rfl,aN (gE (gV _ (pL _ _))) (by simp) rfl,trivial⟩,((boxT _ _).push _).set (by omega) _⟩
 | some v =>
  have hi:x.opn[x.opn.length-1]?=some v:=by rw[<- List.getLast?_eq_getElem?];exact e
  have hpos:x.opn.length-1<x.opn.length:=gTq hi
  obtain⟨oo,hoo⟩:=a.opO hx hpos
  rw[show lastK x.opn=lkK v by simp[lastK,e],show lastN x.opn=lkN v by simp[lastN,e]]
  have L:∀ s:SH,Grow h s.den->(Asm.ldn s oo ((x.opn.length-1)*2) 2 [iV (lkK v),iV (lkN v)]).holds Try.prog:=fun s hs=>by
   have:=a.opC hoo hx hi (P:=Try.prog) (s:=s) hs
   rwa [lkC_eq] at this
  have A5:(rk σ k x)[5]?=some (.slice (some ⟨oo,0,none⟩) x.opn.length 2):=by simp[rk,TkV.C,hoo,sA,sZ]
  simp only[rT,ho]
  refine⟨_,pvF 0 Try.func80 (q1p.la_at _ _ _ _ _ _ o t.tks.length h.length (h.length+1) (k*6) oo x.opn.length ((x.opn.length-1)*2) none 0 0 _ k ((x.opn.length-1:Nat):Int) (lkK v) (lkN v) [] h)
   ⟨rfl,pL _ _,aL (gP (gW h _)) rfl,subI (by omega) (by omega) (by omega),offI (q:=k) rfl hk (by omega),a.tsC ho hx (d:=5) A5 (K' _ _),eqF (by simp only[Int.ofNat_eq_natCast];omega),subI (by simp only[Int.ofNat_eq_natCast];omega) (by omega) (by omega),offI (q:=x.opn.length-1) rfl hpos (by omega),L _ (K' _ _),a_st (gV _ (pL _ _)) (by simp) rfl,aN (gE (gV _ (pL _ _))) (by simp) rfl,trivial⟩,((boxT _ _).push _).set (by omega) _⟩
theorem idleR_run(a:RAt h σ t)(ok:TOk c t)(hc:c<=1000000){y:Sc}(hy:t.scs[k]?=some y):Run Try.prog 81 [.agg (rT σ t).toArray,iV ((k+1:Nat):Int)] h (.bool (decide (y.tks.countP t.rn=0))) (h++[.cells (rT σ t) true]):=by
 have n64:=ok.n64
 have n200:=ok.n200
 have hml:=ok.mlen k y hy
 have hk:=gTq hy
 obtain⟨o,ho⟩:=a.ssO hy
 have K:=boxT h (rT σ t)
 have hbox:∀ {o1},σ .ts=some o1->(Asm.ld1 (.is (h++[.cells (rT σ t) true])) h.length 0 (.slice (some ⟨o1,0,none⟩) t.tks.length 6)).holds Try.prog:=fun {o1} e=>aL (gW h _) (by simp[rT,e,sA,sZ])
 have at_:∀ i,i<y.tks.length->∃ j x,y.tks[i]?=some j/\t.tks[j]?=some x:=fun i hi=>by
  refine⟨y.tks[i],t.tks[y.tks[i]]'(ok.mem k y _ hy (List.getElem_mem _)),List.getElem?_eq_getElem hi,List.getElem?_eq_getElem _⟩
 rcases scan_loop (P:=Try.prog) (n:=28) (rd:=false) (b:=loopN Try.f81 0) (xh:=.ret) (xo:=.exit 0) (by simp) (by simp) (len:=y.tks.length) (fun i=>(y.tks[i]?.map t.rn).getD false)
  (fun i E g=>EnvLe [(15,iV (i:Int)),(14,iV (Int.ofNat y.tks.length)),(13,slz (σ (.st k)) y.tks.length 1),(2,ptr h.length)] E/\g=h++[.cells (rT σ t) true])
  (QH:=fun _ E g=>EnvLe [(4,.bool false)] E/\g=h++[.cells (rT σ t) true]) (QO:=fun E g=>g=h++[.cells (rT σ t) true])
  (fun i E g hi hp ⟨hE,hg⟩=>by
   subst hg
   obtain⟨j,x,hj,hx⟩:=at_ i hi
   obtain⟨so,hso⟩:=a.stO hy hi
   obtain⟨o1,ho1⟩:=a.tsO hx
   have hjl:=gTq hx
   rw[hj] at hp
   simp only[Option.map_some,Option.getD_some,rn_of hx,Bool.not_eq_false'] at hp
   simp only[hso,sA,sZ] at hE
   obtain⟨E2,q1,q2⟩:=pvK 0 hE (q1p.il_go o1 t.tks.length h.length i (j*6) so y.tks.length 0 none i ((i+1:Nat):Int) ((j+1:Nat):Int) j (h++[AObj.cells (rT σ t) true]))
    ⟨ltT (by simp;omega),offI (q:=i) rfl hi (by omega),a.stC hso hy hj K,hbox ho1,subI (by omega) (by omega) (by omega),offI (q:=j) rfl hjl (by omega),a.tsC ho1 hx (d:=1) (by simp[rk,tkV,TkV.C,hp]) K,addI rfl (by omega) (by omega),trivial⟩
   exact⟨E2,_,⟨by simp only[hso,sA,sZ];exact tR q1,rfl⟩,q2⟩)
  (fun i E g hi hp ⟨hE,hg⟩=>by
   subst hg
   obtain⟨j,x,hj,hx⟩:=at_ i hi
   obtain⟨so,hso⟩:=a.stO hy hi
   obtain⟨o1,ho1⟩:=a.tsO hx
   have hjl:=gTq hx
   rw[hj] at hp
   simp only[Option.map_some,Option.getD_some,rn_of hx,Bool.not_eq_true'] at hp
   simp only[hso,sA,sZ] at hE
   obtain⟨E2,q1,q2⟩:=pvK 0 hE (q1p.il_hit o1 t.tks.length h.length i (j*6) so y.tks.length 0 none i 0 ((j+1:Nat):Int) j (h++[AObj.cells (rT σ t) true]))
    ⟨ltT (by simp;omega),offI (q:=i) rfl hi (by omega),a.stC hso hy hj K,hbox ho1,subI (by omega) (by omega) (by omega),offI (q:=j) rfl hjl (by omega),a.tsC ho1 hx (d:=1) (by simp[rk,tkV,TkV.C,hp]) K,trivial⟩
   exact⟨E2,_,⟨tR q1,rfl⟩,q2⟩)
  (fun E g ⟨hE,hg⟩=>by
   subst hg
   obtain⟨E2,q1,q2⟩:=pvC 0 hE (q1p.il_out 0 0 h.length 0 0 0 y.tks.length _ _ y.tks.length 0 0 0 (h++[AObj.cells (rT σ t) true])) ⟨ltF (by simp),trivial⟩
   exact⟨E2,_,rfl,q2⟩)
  [(15,iV ((0:Nat):Int)),(14,iV (Int.ofNat y.tks.length)),(13,slz (σ (.st k)) y.tks.length 1),(2,ptr h.length)] (h++[.cells (rT σ t) true]) ⟨.refl _,rfl⟩ with⟨i,E1,g1,hi,hp,_,⟨hE1,rfl⟩,hl⟩ | ⟨hall,E1,g1,rfl,hl⟩
 ·have e:decide (y.tks.countP t.rn=0)=false:=by
   rw[decide_eq_false_iff_not]
   obtain⟨j,x,hj,hx⟩:=at_ i hi
   rw[hj] at hp
   have:=List.countP_pos_iff.2 ⟨j,List.mem_of_getElem? hj,by simpa using hp⟩
   omega
  rw[e]
  simp only[rT,ho] at hl K ⊢
  obtain⟨E3,he3,rfl⟩:∃ E3,EnvLe ((4,.bool false)::E3) E1/\E3=E1:=⟨E1,.add (.refl _) (hE1 _ _ rfl),rfl⟩
  exact pvF 0 Try.func81 (q1p.id_hit _ _ _ _ _ _ o t.scs.length h.length (k*6) (sA (σ (.st k))) y.tks.length (sZ (σ (.st k)) 1) _ k E3 h _)
   ⟨rfl,aL (gW h _) rfl,subI (by omega) (by omega) (by omega),offI (q:=k) rfl hk (by omega),a.ssC ho hy (d:=3) rfl K,a_loop (by kernel_rfl) (.add (.add (.add (.add (.nil _) rfl) rfl) rfl) rfl) he3 hl,trivial⟩
 ·have e:decide (y.tks.countP t.rn=0)=true:=by
   rw[decide_eq_true_iff,List.countP_eq_zero]
   intro j hj
   obtain⟨i,hi⟩:=List.mem_iff_getElem?.1 hj
   have:=hall i (gTq hi)
   rw[hi] at this
   simpa using this
  rw[e]
  simp only[rT,ho] at hl K ⊢
  exact pvF 0 Try.func81 (q1p.id_all _ _ _ _ _ _ o t.scs.length h.length (k*6) (sA (σ (.st k))) y.tks.length (sZ (σ (.st k)) 1) _ k E1 h _)
   ⟨rfl,aL (gW h _) rfl,subI (by omega) (by omega) (by omega),offI (q:=k) rfl hk (by omega),a.ssC ho hy (d:=3) rfl K,a_loop (by kernel_rfl) (.add (.add (.add (.add (.nil _) rfl) rfl) rfl) rfl) (.refl _) hl,trivial⟩
def plc(s:Nat)(l:List (Option Nat)):Nat:=if some s∈l then ixO (some s) l else 0
theorem lkK2{v:Option Nat}(h:lkK v=2):∃ s,v=some s:=by
 cases v with
 | none=>cases h
 | some s=>exact⟨s,rfl⟩
theorem placeR_run(a:RAt h σ t)(ok:TOk c t)(hc:c<=1000000){x:Tk}(hx:t.tks[k]?=some x)(s:Nat):∃ h',Run Try.prog 72 [.agg (rT σ t).toArray,iV ((k+1:Nat):Int),iV ((s+1:Nat):Int)] h (iV ((plc s x.opn:Nat):Int)) h'/\Grow h h':=by
 have n64:=ok.n64
 have hln:=ok.len k x hx
 have hk:=gTq hx
 obtain⟨o,ho⟩:=a.tsO hx
 have K:=boxT h (rT σ t)
 have nohit:∀ i v E g,i<x.opn.length->x.opn[i]?=some v->v≠some s->EnvLe [(17,iV (i:Int)),(16,iV (Int.ofNat x.opn.length)),(15,slz (σ (.op k)) x.opn.length 2),(2,iV ((s+1:Nat):Int))] E->Grow h g ->
   ∃ E1 g1,(EnvLe [(17,iV ((i+1:Nat):Int)),(16,iV (Int.ofNat x.opn.length)),(15,slz (σ (.op k)) x.opn.length 2),(2,iV ((s+1:Nat):Int))] E1/\Grow h g1)/\CRun Try.prog 33 false (loopN Try.f72 0) E g .normal E1 g1:=by
  intro i v E g hi hv hne hE Kg
  obtain⟨so,hso⟩:=a.opO hx hi
  simp only[hso,sA,sZ] at hE ⊢
  have L:=a.opC hso hx hv (P:=Try.prog) (s:=.is g) Kg
  rw[lkC_eq] at L
  have e1:i<100000000:=by omega
  by_cases hk2:lkK v=2
  ·obtain⟨s',rfl⟩:=lkK2 hk2
   have hne':s'≠s:=fun e=>hne (by rw[e])
   obtain⟨E2,q1,q2⟩:=pvK 0 hE (q1p.pp_no2 (i*2) g.length so x.opn.length 0 none i ((i+1:Nat):Int) ((s+1:Nat):Int) (lkK (some s')) (lkN (some s')) g)
    ⟨ltT (by simp;omega),offI (q:=i) rfl hi (by omega),L,rfl,a_st (gW g _) (by simp) rfl,aL (gE (gW g _)) rfl,eqT hk2,aL (gE (gW g _)) rfl,eqF (by simp[lkN];omega),addI rfl (by omega) (by omega),trivial⟩
   exact⟨E2,_,⟨tR q1,(Kg.push _).set (by have:=Kg.1;omega) _⟩,q2⟩
  ·obtain⟨E2,q1,q2⟩:=pvK 0 hE (q1p.pp_no1 (i*2) g.length so x.opn.length 0 none i ((i+1:Nat):Int) ((s+1:Nat):Int) (lkK v) (lkN v) g)
    ⟨ltT (by simp;omega),offI (q:=i) rfl hi (by omega),L,rfl,a_st (gW g _) (by simp) rfl,aL (gE (gW g _)) rfl,eqF hk2,addI rfl (by omega) (by omega),trivial⟩
   exact⟨E2,_,⟨tR q1,(Kg.push _).set (by have:=Kg.1;omega) _⟩,q2⟩
 rcases scan_loop (P:=Try.prog) (n:=33) (rd:=false) (b:=loopN Try.f72 0) (xh:=.ret) (xo:=.exit 0) (by simp) (by simp) (len:=x.opn.length) (fun i=>decide (x.opn[i]?=some (some s)))
  (fun i E g=>EnvLe [(17,iV (i:Int)),(16,iV (Int.ofNat x.opn.length)),(15,slz (σ (.op k)) x.opn.length 2),(2,iV ((s+1:Nat):Int))] E/\Grow h g)
  (QH:=fun i E g=>EnvLe [(6,iV (i:Int))] E/\Grow h g) (QO:=fun E g=>Grow h g)
  (fun i E g hi hp ⟨hE,Kg⟩=>by
   obtain⟨v,hv⟩:∃ v,x.opn[i]?=some v:=⟨_,List.getElem?_eq_getElem hi⟩
   exact nohit i v E g hi hv (by rw[hv] at hp;simpa using hp) hE Kg)
  (fun i E g hi hp ⟨hE,Kg⟩=>by
   have hv:x.opn[i]?=some (some s):=of_decide_eq_true hp
   obtain⟨so,hso⟩:=a.opO hx hi
   simp only[hso,sA,sZ] at hE
   have L:=a.opC hso hx hv (P:=Try.prog) (s:=.is g) Kg
   rw[lkC_eq] at L
   obtain⟨E2,q1,q2⟩:=pvK 0 hE (q1p.pp_hit (i*2) g.length so x.opn.length 0 none i 0 ((s+1:Nat):Int) (lkK (some s)) (lkN (some s)) g)
    ⟨ltT (by simp;omega),offI (q:=i) rfl hi (by omega),L,rfl,a_st (gW g _) (by simp) rfl,aL (gE (gW g _)) rfl,eqT rfl,aL (gE (gW g _)) rfl,eqT rfl,trivial⟩
   exact⟨E2,_,⟨tR q1,(Kg.push _).set (by have:=Kg.1;omega) _⟩,q2⟩)
  (fun E g ⟨hE,Kg⟩=>by
   obtain⟨E2,q1,q2⟩:=pvC 0 hE (q1p.pp_out 0 0 0 x.opn.length _ _ x.opn.length 0 _ 0 0 g) ⟨ltF (by simp),trivial⟩
   exact⟨E2,_,Kg,q2⟩)
  [(17,iV ((0:Nat):Int)),(16,iV (Int.ofNat x.opn.length)),(15,slz (σ (.op k)) x.opn.length 2),(2,iV ((s+1:Nat):Int))] (h++[.cells (rT σ t) true]) ⟨.refl _,K⟩ with⟨i,E1,g1,hi,hp,hmin,⟨hE1,Kg⟩,hl⟩ | ⟨hall,E1,g1,Kg,hl⟩
 ·have hv:x.opn[i]?=some (some s):=of_decide_eq_true hp
  have e:plc s x.opn=i:=by
   rw[plc,if_pos (List.mem_of_getElem? hv)]
   exact ixO_at hv fun j hj e=>by have:=hmin j hj;rw[e] at this;simp at this
  rw[e]
  simp only[rT,ho] at hl K ⊢
  obtain⟨E3,he3,rfl⟩:∃ E3,EnvLe ((6,iV (i:Int))::E3) E1/\E3=E1:=⟨E1,.add (.refl _) (hE1 _ _ rfl),rfl⟩
  exact⟨_,pvF 0 Try.func72 (q1p.pl_hit _ _ _ _ _ _ o t.tks.length h.length (k*6) (sA (σ (.op k))) x.opn.length (sZ (σ (.op k)) 2) _ _ k i E3 h g1)
   ⟨rfl,aL (gW h _) rfl,subI (by omega) (by omega) (by omega),offI (q:=k) rfl hk (by omega),a.tsC ho hx (d:=5) rfl K,a_loop (by kernel_rfl) (.add (.add (.add (.add (.nil _) rfl) rfl) rfl) rfl) he3 hl,trivial⟩,Kg⟩
 ·have e:plc s x.opn=0:=by
   rw[plc,if_neg]
   intro hm
   obtain⟨i,hi⟩:=List.mem_iff_getElem?.1 hm
   have:=hall i (gTq hi)
   rw[hi] at this
   simp at this
  rw[e]
  simp only[rT,ho] at hl K ⊢
  exact⟨_,pvF 0 Try.func72 (q1p.pl_out _ _ _ _ _ _ o t.tks.length h.length (k*6) (sA (σ (.op k))) x.opn.length (sZ (σ (.op k)) 2) _ _ k 0 E1 h g1)
   ⟨rfl,aL (gW h _) rfl,subI (by omega) (by omega) (by omega),offI (q:=k) rfl hk (by omega),a.tsC ho hx (d:=5) rfl K,a_loop (by kernel_rfl) (.add (.add (.add (.add (.nil _) rfl) rfl) rfl) rfl) (.refl _) hl,trivial⟩,Kg⟩
theorem outerO_at{l:List (Option Nat)}{i s:Nat}(hi:l[i]?=some (some s))(hm:∀ j,j<i->∀ s',l[j]?≠some (some s')):outerO l=some s:=by
 rw[split_at hi]
 exact outerO_of fun s' hs=>by
  obtain⟨j,hj⟩:=List.mem_iff_getElem?.1 hs
  rw[List.getElem?_take] at hj
  split at hj
  ·rename_i h;exact hm j h s' hj
  ·cases hj
theorem outerO_no{l:List (Option Nat)}(hm:∀ j,j<l.length->∀ s',l[j]?≠some (some s')):outerO l=none:=by
 cases e:outerO l with
 | none=>rfl
 | some s =>
  obtain⟨a,b,e2,_⟩:=outerO_some e
  exact absurd (show l[a.length]?=some (some s) by rw[e2];simp) (hm a.length (by rw[e2];simp) s)
def LkAt(h:Hp)(oa:Option Addr)(n z:Nat)(l:List (Option Nat)):Prop:=l.length=n/\(n≠0->∃ o d cs rw,oa=some ⟨o,d,none⟩/\z=2/\h[o]?=some (.cells cs rw)/\∀ (i:Nat) v,l[i]?=some v->d+i*2+2<=cs.length/\(cs.drop (d+i*2)).take 2=lkC v)
theorem innerR_run{oa:Option Addr}{n z:Nat}{l:List (Option Nat)}(hb:n<=1000000)(L:LkAt h oa n z l):∃ h',Run Try.prog 74 [.slice oa n z] h (iV (lkN (outerO l))) h'/\Grow h h':=by
 obtain⟨hn,L⟩:=L
 have at_:∀ i v,l[i]?=some v->∃ o d,oa=some ⟨o,d,none⟩/\z=2/\∀ g,Grow h g->(Asm.ldn (.is g) o (d+i*2) 2 (lkC v)).holds Try.prog:=fun i v hv=>by
  obtain⟨o,d,cs,rw,e1,e2,e3,e4⟩:=L (by have:=gTq hv;omega)
  obtain⟨f1,f2⟩:=e4 i v hv
  exact⟨o,d,e1,e2,fun g Kg=>aN (Kg.get e3) f1 f2⟩
 rcases scan_loop (P:=Try.prog) (n:=17) (rd:=false) (b:=loopN Try.f74 0) (xh:=.ret) (xo:=.exit 0) (by simp) (by simp) (len:=n) (fun i=>((l[i]?).map Option.isSome).getD false)
  (fun i E g=>EnvLe [(7,iV (i:Int)),(6,iV (Int.ofNat n)),(5,.slice oa n z)] E/\Grow h g)
  (QH:=fun i E g=>∃ s,l[i]?=some (some s)/\EnvLe [(2,iV (lkN (some s)))] E/\Grow h g) (QO:=fun E g=>Grow h g)
  (fun i E g hi hp ⟨hE,Kg⟩=>by
   obtain⟨v,hv⟩:∃ v,l[i]?=some v:=⟨_,List.getElem?_eq_getElem (by omega)⟩
   rw[hv] at hp
   cases v with
   | some s=>cases hp
   | none =>
    obtain⟨o,d,rfl,rfl,A⟩:=at_ i _ hv
    have L:=A g Kg
    rw[lkC_eq] at L
    obtain⟨E2,q1,q2⟩:=pvK 0 hE (q1p.ii_no (d+i*2) g.length o d n 0 none i ((i+1:Nat):Int) (lkK none) (lkN none) g)
     ⟨ltT (by simp;omega),offI (q:=i) rfl hi rfl,L,rfl,a_st (gW g _) (by simp) rfl,aL (gE (gW g _)) rfl,eqF (by simp[lkK]),addI rfl (by omega) (by omega),trivial⟩
    exact⟨E2,_,⟨tR q1,(Kg.push _).set (by have:=Kg.1;omega) _⟩,q2⟩)
  (fun i E g hi hp ⟨hE,Kg⟩=>by
   obtain⟨v,hv⟩:∃ v,l[i]?=some v:=⟨_,List.getElem?_eq_getElem (by omega)⟩
   rw[hv] at hp
   cases v with
   | none=>cases hp
   | some s =>
    obtain⟨o,d,rfl,rfl,A⟩:=at_ i _ hv
    have L:=A g Kg
    rw[lkC_eq] at L
    obtain⟨E2,q1,q2⟩:=pvK 0 hE (q1p.ii_hit (d+i*2) g.length o d n 0 none i 0 (lkK (some s)) (lkN (some s)) g)
     ⟨ltT (by simp;omega),offI (q:=i) rfl hi rfl,L,rfl,a_st (gW g _) (by simp) rfl,aL (gE (gW g _)) rfl,eqT rfl,aL (gE (gW g _)) rfl,trivial⟩
    exact⟨E2,_,⟨s,hv,tR q1,(Kg.push _).set (by have:=Kg.1;omega) _⟩,q2⟩)
  (fun E g ⟨hE,Kg⟩=>by
   obtain⟨E2,q1,q2⟩:=pvC 0 hE (q1p.ii_out 0 0 0 0 n _ _ n 0 0 0 g) ⟨ltF (by simp),trivial⟩
   exact⟨E2,_,Kg,q2⟩)
  [(7,iV ((0:Nat):Int)),(6,iV (Int.ofNat n)),(5,.slice oa n z)] h ⟨.refl _,.refl _⟩ with⟨i,E1,g1,hi,hp,hmin,⟨s,hs,hE1,Kg⟩,hl⟩ | ⟨hall,E1,g1,Kg,hl⟩
 ·have e:outerO l=some s:=outerO_at hs fun j hj s' e=>by have:=hmin j hj;rw[e] at this;simp at this
  rw[e]
  obtain⟨E3,he3,rfl⟩:∃ E3,EnvLe ((2,iV (lkN (some s)))::E3) E1/\E3=E1:=⟨E1,.add (.refl _) (hE1 _ _ rfl),rfl⟩
  exact⟨_,pvF 0 Try.func74 (q1p.in_hit oa n z E3 _ h g1) ⟨a_loop (by kernel_rfl) (.add (.add (.add (.nil _) rfl) rfl) rfl) he3 hl,trivial⟩,Kg⟩
 ·have e:outerO l=none:=outerO_no fun j hj s' e=>by have:=hall j (by omega);rw[e] at this;simp at this
  rw[e]
  exact⟨_,pvF 0 Try.func74 (q1p.in_out oa n z E1 h g1) ⟨a_loop (by kernel_rfl) (.add (.add (.add (.nil _) rfl) rfl) rfl) (.refl _) hl,trivial⟩,Kg⟩
theorem RAtL.links{tks:List Tk}{scs:List Sc}{lfs:List Tk}(a:RAtL h σ tks scs lfs){x:Tk}(hx:tks[k]?=some x){p:Nat}(hp:p<=x.opn.length):∀ {o},σ (.op k)=some o->LkAt h (some ⟨o,0+p*2,none⟩) (x.opn.length-p) 2 (x.opn.drop p):=by
 intro o ho
 refine⟨by simp,fun _=>?_⟩
 obtain⟨junk,hj⟩:=a.obj _ _ ho
 rw[rcont_op hx] at hj
 refine⟨o,0+p*2,_,true,rfl,rfl,hj,fun i v hv=>?_⟩
 rw[List.getElem?_drop] at hv
 have:=gTq hv
 rw[show 0+p*2+i*2=(p+i)*2 by omega]
 exact⟨by simp[lkL_len];omega,lkL_at2 junk hv⟩
theorem RAtL.links0{tks:List Tk}{scs:List Sc}{lfs:List Tk}(a:RAtL h σ tks scs lfs){x:Tk}(hx:tks[k]?=some x):LkAt h (sA (σ (.op k))) x.opn.length (sZ (σ (.op k)) 2) x.opn:=by
 cases e:σ (.op k) with
 | none=>have:=a.sh.op k x hx e;rw[this];exact⟨rfl,fun h=>absurd rfl h⟩
 | some o=>have:=a.links hx (p:=0) (Nat.zero_le _) e;simpa[sA,sZ] using this
theorem outerR_run(a:RAt h σ t)(ok:TOk c t)(hc:c<=1000000){x:Tk}(hx:t.tks[k]?=some x):∃ h',Run Try.prog 73 [.agg (rT σ t).toArray,iV ((k+1:Nat):Int)] h (iV (lkN (outerO x.opn))) h'/\Grow h h':=by
 have n64:=ok.n64
 have hln:=ok.len k x hx
 have hk:=gTq hx
 obtain⟨o,ho⟩:=a.tsO hx
 have K:=boxT h (rT σ t)
 obtain⟨g1,r,Kg⟩:=innerR_run (by omega) ((a.grow K).links0 hx)
 simp only[rT,ho] at K r ⊢
 exact⟨g1,pvF 0 Try.func73 (q1p.ou _ _ _ _ _ _ o t.tks.length h.length (k*6) (sA (σ (.op k))) x.opn.length (sZ (σ (.op k)) 2) _ k _ h g1)
  ⟨rfl,aL (gW h _) rfl,subI (by omega) (by omega) (by omega),offI (q:=k) rfl hk (by omega),a.tsC ho hx (d:=5) rfl K,r,trivial⟩,by simp only[rT,ho] at Kg;exact K.trans Kg⟩
end
end Go.Proofs.Ytahomnlkkafbjaa.rf
