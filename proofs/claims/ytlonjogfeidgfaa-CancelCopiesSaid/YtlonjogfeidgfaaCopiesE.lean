import Derived.Test.YtlonjogfeidgfaaCopiesD
import Derived.Test.YtlonjogfeidgfaaProg
import Derived.KernelRfl
set_option linter.unusedVariables false
namespace Go.Proofs.Ytlonjogfeidgfaa.tr
open Go Go.Ev
set_option maxRecDepth 100000
set_option linter.unusedVariables false
set_option linter.constructorNameAsVariable false
theorem body67:Try.f90.body=some (.seq (partC Try.f90 [0]) (.block 0 (.loop (loopN Try.f90 0)))):=by kernel_rfl
theorem backward_run{bb L:Nat}{vals:List Value}{sl:Value}(hn:vals.length<=1000000)(I:Nat->Hp->Prop)(Q:Hp->Prop)
  (hbox:∀ k g,I k g->g[bb]?=some (.cells [sl] true))
  (hsl:(vals=[]/\sl=.slice none 0 0)\/∃ o,sl=.slice (some ⟨o,0,none⟩) vals.length 1/\∀ (k:Nat) (g:Hp) (j:Nat) (v:Value),I k g->vals[j]?=some v->∃ (c:List Value) (rw:Bool),g[o]?=some (.cells c rw)/\c[j]?=some v)
  (step:∀ (k:Nat) v g,vals[k]?=some v->I (k+1) g->(∃ g',RunR Try.prog L [.int .i64 k,v] g (.bool true) g'/\I k g')\/(∃ g',RunR Try.prog L [.int .i64 k,v] g (.bool false) g'/\Q g'))
  {g0:Hp} (h0:I vals.length g0):∃ g',Run Try.prog 90 [.func (.yield L) #[] #[],ptr bb] g0 (.tuple #[]) g'/\(I 0 g'\/Q g'):=by
 have loop:∀ (k:Nat) (E:Env) (g:Hp),k<=vals.length->EnvLe [(3,.int .i64 ((k:Int)-1)),(1,ptr bb),(0,.func (.yield L) #[] #[])] E->I k g ->
   ∃ x E1 g',LRun Try.prog 19 false (loopN Try.f90 0) E g x E1 g'/\((x=.exit 0/\I 0 g')\/(x=.ret/\Q g')):=by
  intro k
  induction k with
  | zero =>
   intro E g hk hE hi
   obtain⟨E2,q1,q2⟩:=pvC 0 hE (r12p.bk_end bb L (((0:Nat):Int)-1) g) ⟨geF (by omega),trivial⟩
   exact⟨_,E2,g,.last q2 (by simp),.inl ⟨rfl,hi⟩⟩
  | succ k ih =>
   intro E g hk hE hi
   rw[show ((k+1:Nat):Int)-1=(k:Int) by omega] at hE
   obtain⟨v,hv⟩:∃ v,vals[k]?=some v:=⟨_,List.getElem?_eq_getElem (by omega)⟩
   rcases hsl with⟨e,_⟩ | ⟨o,e,hc⟩
   ·rw[e] at hk;simp at hk
   ·have hb:=hbox _ _ hi
    rw[e] at hb
    obtain⟨c,rw',g1,g2⟩:=hc _ _ _ _ hi hv
    rcases step k v g hv hi with⟨g',r1,r2⟩ | ⟨g',r1,r2⟩
    ·obtain⟨E2,q1,q2⟩:=pvC 0 hE (r12p.bk_go bb o vals.length L k k ((k:Int)-1) v g g') ⟨geT (by omega),aL hb rfl,offI rfl (by omega) (by omega),aL g1 g2,r1,subI rfl (by omega) (by omega),trivial⟩
     obtain⟨x,E3,g3,q3,q4⟩:=ih E2 g' (by omega) ((((EnvLe.nil _).add rfl).add rfl |>.add rfl).trans q1) r2
     exact⟨x,E3,g3,.step q2 q3,q4⟩
    ·obtain⟨E2,q1,q2⟩:=pvC 0 hE (r12p.bk_stop bb o vals.length L k k 0 v g g') ⟨geT (by omega),aL hb rfl,offI rfl (by omega) (by omega),aL g1 g2,r1,trivial⟩
     exact⟨_,E2,g',.last q2 (by simp),.inr ⟨rfl,r2⟩⟩
 have hr0:∃ E1,EnvLe [(3,.int .i64 ((vals.length:Int)-1)),(1,ptr bb),(0,.func (.yield L) #[] #[])] E1/\CRun Try.prog 19 false (partC Try.f90 [0]) (enterE 0 [.func (.yield L) #[] #[],ptr bb]) g0 .normal E1 g0:=by
  have hb:=hbox _ _ h0
  rcases hsl with⟨e1,e2⟩ | ⟨o,e,_⟩
  ·rw[e2] at hb
   obtain⟨E1,e1',c1⟩:=pvC 0 (EnvLe.refl _) (r12p.bk_r0 bb L 0 none 0 ((vals.length:Int)-1) g0) ⟨aL hb rfl,subI (by rw[e1];rfl) (by omega) (by omega),trivial⟩
   exact⟨E1,.trans (.add (.add (.add (.nil _) rfl) rfl) rfl) e1',c1⟩
  ·rw[e] at hb
   obtain⟨E1,e1',c1⟩:=pvC 0 (EnvLe.refl _) (r12p.bk_r0 bb L vals.length (some ⟨o,0,none⟩) 1 ((vals.length:Int)-1) g0) ⟨aL hb rfl,subI rfl (by omega) (by omega),trivial⟩
   exact⟨E1,.trans (.add (.add (.add (.nil _) rfl) rfl) rfl) e1',c1⟩
 obtain⟨E1,e1,c1⟩:=hr0
 obtain⟨x,E2,g',hl,hq⟩:=loop vals.length E1 g0 (Nat.le_refl _) e1 h0
 rcases hq with⟨rfl,hi⟩ | ⟨rfl,hq⟩
 ·exact⟨g',Run.code Try.func90 body67 (.inl rfl) (c1.seq (CRun.block 0 (.of_loop hl))) rfl,.inl hi⟩
 ·exact⟨g',Run.code Try.func90 body67 (.inr rfl) (c1.seq (CRun.blockR 0 (.of_loop hl))) rfl,.inr hq⟩
def inmost:List (Option Nat)->Option Nat
 | []=>none
 | v::l=>match inmost l with
  | some s=>some s
  | none=>v
theorem inmost_none:∀ {l:List (Option Nat)},(∀ v,v∈l->v=none)->inmost l=none
 | [],_=>rfl
 | v::l,h=>by
  rw[inmost,inmost_none fun w hw=>h w (List.mem_cons_of_mem _ hw)]
  exact h v (List.mem_cons_self)
theorem inmost_at:∀ {l:List (Option Nat)} {k s:Nat},l[k]?=some (some s)->(∀ (j:Nat) v,k+1<=j->l[j]?=some v->v=none)->inmost l=some s
 | [],k,s,h,_=>by simp at h
 | v::l,0,s,h,hn=>by
  simp at h
  subst h
  rw[inmost,inmost_none fun w hw=>?_]
  obtain⟨j,hj⟩:=List.getElem?_of_mem hw
  exact hn (j+1) w (by omega) (by simpa using hj)
 | v::l,k+1,s,h,hn=>by
  rw[inmost,inmost_at (l:=l) (k:=k) (s:=s) (by simpa using h) fun j w hj hw=>hn (j+1) w (by omega) (by simpa using hw)]
theorem inmost_mem:∀ {l:List (Option Nat)} {s:Nat},inmost l=some s->some s∈l
 | [],s,h=>by cases h
 | v::l,s,h=>by
  rw[inmost] at h
  cases e:inmost l with
  | none=>rw[e] at h;simp only at h;rw[h];exact List.mem_cons_self
  | some u=>rw[e] at h;simp only at h;cases h;exact List.mem_cons_of_mem _ (inmost_mem e)
def TS.spawn(t:TS)(n:Int):TS×Int×Int:=match t.acts n with
 | (none,e)=>(t,0,e)
 | (some k,_)=>match t.tks[k]? with
  | none=>(t,0,6)
  | some x=>match inmost x.opn with
   | none=>(t,0,22)
   | some s=>if 64<=t.tks.length then (t,0,5) else (t.add (some s),((t.tks.length+1:Nat):Int),0)
theorem TOk.spawn{t:TS}{c:Nat}{n:Int}(ok:TOk c t):TOk (c+1) (t.spawn n).1:=by
 have m:=ok.mono (Nat.le_succ c)
 unfold TS.spawn
 split
 ·exact m
 ·split
  ·exact m
  ·rename_i x hx
   split
   ·exact m
   ·rename_i s hs
    split
    ·exact m
    ·exact ok.add (inn:=some s) (by omega) fun s' e=>by cases e;exact ok.opn _ x s hx (inmost_mem hs)
noncomputable def AS22:Code:=partC Try.f63 [1,1,1,0,1,0,0]
noncomputable def BD22:Code:=partC Try.f63 [1,1,1,0,1,0,1]
theorem body22:Try.f63.body=some (chainT [partC Try.f63 [0],partC Try.f63 [1,0],partC Try.f63 [1,1,0]] (.seq (.seq (partC Try.f63 [1,1,1,0,0]) (.block 0 (.rangeFunc (.tmp 23) #[24,25] AS22 BD22))) (partC Try.f63 [1,1,1,1]))):=by kernel_rfl
theorem agg3:aggSize Try.prog 3=some none:=by kernel_rfl
theorem agg24:aggSize Try.prog 24=some none:=by kernel_rfl
section
variable {h:Hp} {ρ:Lay} {t:TS} {c r:Nat}
theorem spawn_run(a:TAt h ρ t)(ok:TOk c t)(hc:c<=100000)(hr:ρ .root=some r)(n:Int) :
  ∃ ρ' h',Run Try.prog 63 [ptr r,.int .i64 n] h (.tuple #[.int .i64 (t.spawn n).2.1,.int .i64 (t.spawn n).2.2]) h'/\TAt h' ρ' (t.spawn n).1/\Step ρ h ρ' h':=by
 obtain⟨g3,hg3⟩:∃ g3,g3=h++[AObj.cells [ptr r] true]++[AObj.cells [.int .i64 0] true]++[AObj.cells [.int .i64 0] true]:=⟨_,rfl⟩
 have a3:TAt g3 ρ t:=by rw[hg3];exact ((a.push _).push _).push _
 have S3:Step ρ h ρ g3:=by rw[hg3];exact ((Step.push _ _ _).trans (Step.push _ _ _)).trans (Step.push _ _ _)
 have l3:g3.length=h.length+3:=by rw[hg3];simp
 have b2:g3[h.length]?=some (.cells [ptr r] true):=by rw[hg3];exact gP (gP (gW _ _))
 have b4:g3[h.length+1]?=some (.cells [.int .i64 0] true):=by rw[hg3];exact gP (gV _ (by simp))
 have b5:g3[h.length+2]?=some (.cells [.int .i64 0] true):=by rw[hg3];exact gV _ (by simp)
 have n2:¬ fpT ρ h.length:=a.out (by omega)
 have n4:¬ fpT ρ (h.length+1):=a.out (by omega)
 have n5:¬ fpT ρ (h.length+2):=a.out (by omega)
 have R:=acts_run a3 ok hr n
 have P1:(Asm.len (.is h) h.length).holds Try.prog:=rfl
 have P2:(Asm.len (.push (.is h) (.cells [ptr r] true)) (h.length+1)).holds Try.prog:=pL _ _
 have P3:(Asm.len (.push (.push (.is h) (.cells [ptr r] true)) (.cells [.int .i64 0] true)) (h.length+2)).holds Try.prog:=by show (h++[_]++[_]).length=_;simp
 have P4:(Asm.ld1 (.push (.push (.push (.is h) (.cells [ptr r] true)) (.cells [.int .i64 0] true)) (.cells [.int .i64 0] true)) h.length 0 (ptr r)).holds Try.prog:=aL (by rw[<- hg3.symm] at *;exact gP (gP (gW _ _))) rfl
 have R':∀ v,Run Try.prog 78 [ptr r,.int .i64 n] g3 v g3->(Asm.call 78 [ptr r,.int .i64 n] (.push (.push (.push (.is h) (.cells [ptr r] true)) (.cells [.int .i64 0] true)) (.cells [.int .i64 0] true)) v (.is g3)).holds Try.prog:=fun v hv=>by
  rw[hg3] at hv ⊢
  exact hv
 have two:∀ (g:Hp) (E:Env) (v e:Value),EnvLe [(4,ptr (h.length+1)),(5,ptr (h.length+2))] E->g[h.length+1]?=some (.cells [v] true)->g[h.length+2]?=some (.cells [e] true)->evResults Try.prog Try.f63 E g=some (.tuple #[v,e]):=fun g E v e hE h1 h2 =>
  evResults_cells rfl (hE 4 _ rfl) (hE 5 _ rfl) agg3 agg24 h1 h2
 rcases hq:t.acts n with⟨k | k,e⟩
 ·rw[hq] at R
  have e':t.spawn n=(t,0,e):=by simp only[TS.spawn,hq]
  have e0:¬ e=0:=by have:=acts_none hq;omega
  rw[e']
  obtain⟨E2,q1,q2⟩:=pvC 0 (EnvLe.refl _) (r12p.sp_err r 0 h.length (h.length+1) (h.length+2) n e [.int .i64 e] h g3) ⟨P1,P2,P3,P4,R' _ R,neT e0,a_st b4 (by simp) rfl,a_st (gNq b5 (by omega)) (by simp) rfl,trivial⟩
  refine⟨ρ,_,Run.code Try.func63 body22 (.inr rfl) (CRunStop q2 (by simp)) (two _ _ _ _ (.trans (.add (.add (.nil _) rfl) rfl) q1) (gNq (gE b4) (by omega)) (gE (gNq b5 (by omega)))),(a3.setN n4 _).setN n5 _,(S3.setNew (by omega) _).setNew (by omega) _⟩
 ·obtain⟨rfl,hn,x,hx,he,hl⟩:=acts_some hq
  have hk:=gT hx
  obtain⟨i,hi⟩:=a.sh.tk k hk
  rw[hq] at R
  simp only[tkP,hi,pvv] at R
  have hlen:=ok.len k x hx
  have n64:=ok.n64
  obtain⟨E2,q1,q2⟩:=pvC 0 (EnvLe.refl _) (r12p.sp_pre r i h.length (h.length+1) (h.length+2) n 0 [] h g3) ⟨P1,P2,P3,P4,R' _ R,neF rfl,trivial⟩
  have Lo:(Asm.ld1 (.is g3) i 2 (slv (ρ (.op k)) x.opn.length)).holds Try.prog:=a3.ld1 rfl hi (by rw[cT hx];rfl)
  obtain⟨o,ln,z,hsl⟩:∃ o ln z,slv (ρ (.op k)) x.opn.length=.slice o ln z:=by cases ρ (.op k)<;>exact⟨_,_,_,rfl⟩
  rw[hsl] at Lo
  obtain⟨E3,q3,q4⟩:=pvC 1 (.trans (.add (.add (.add (.add (.nil _) rfl) rfl) rfl) rfl) q1) (r12p.sp_r4 i h.length (h.length+1) (h.length+2) (h.length+3) ln z o g3) ⟨Lo,l3,trivial⟩
  have hE3:EnvLe [(2,ptr h.length),(4,ptr (h.length+1)),(5,ptr (h.length+2))] E3:=.trans (.add (.add (.add (.nil _) rfl) rfl) rfl) q3
  obtain⟨g4,hg4⟩:∃ g4,g4=g3++[AObj.cells [.slice o ln z] true]:=⟨_,rfl⟩
  have q4':CRun Try.prog 37 false (partC Try.f63 [1,1,1,0,0]) E2 g3 .normal E3 g4:=by rw[hg4];exact q4
  have l4:g4.length=h.length+4:=by rw[hg4];simp[l3]
  have a4:TAt g4 ρ t:=by rw[hg4];exact a3.push _
  have S4:Step ρ h ρ g4:=by rw[hg4];exact S3.trans (Step.push _ _ _)
  have up4:∀ {q:Nat} {ob:AObj},g3[q]?=some ob->g4[q]?=some ob:=fun hq=>by rw[hg4];exact gP hq
  have b3:g4[h.length+3]?=some (.cells [.slice o ln z] true):=by rw[hg4];exact gV _ l3
  obtain⟨lpR,hR⟩:∃ lp:AObj,lp=.loop .ready none E3 37 #[24,25] AS22 BD22:=⟨_,rfl⟩
  obtain⟨lpB,hB⟩:∃ lp:AObj,lp=.loop .busy none E3 37 #[24,25] AS22 BD22:=⟨_,rfl⟩
  obtain⟨gb,hgb⟩:∃ gb,gb=g4++[lpB]:=⟨_,rfl⟩
  have ab:TAt gb ρ t:=by rw[hgb];exact a4.push _
  have Sb:Step ρ h ρ gb:=by rw[hgb];exact S4.trans (Step.push _ _ _)
  have upb:∀ {q:Nat} {ob:AObj},g3[q]?=some ob->gb[q]?=some ob:=fun hq=>by rw[hgb];exact gP (up4 hq)
  have lb:gb.length=h.length+5:=by rw[hgb];simp[l4]
  have lpb:gb[h.length+4]?=some lpB:=by rw[hgb];exact gV _ l4
  have setB:(g4++[lpR]).set (h.length+4) lpB=gb:=by rw[hgb,List.set_append_right _ _ (by omega),l4,Nat.sub_self];rfl
  have setR:gb.set (h.length+4) lpR=g4++[lpR]:=by rw[hgb,List.set_append_right _ _ (by omega),l4,Nat.sub_self];rfl
  have lpr:(g4++[lpR])[h.length+4]?=some lpR:=gV _ l4
  have hop:∀ v,some v∈(x.opn.map some)->True:=fun _ _=>trivial
  obtain⟨g5,r1,r2⟩:=backward_run (bb:=h.length+3) (L:=h.length+4) (vals:=x.opn.map (inP ρ)) (sl:=.slice o ln z) (by simp;omega)
   (fun j g=>g=g4++[lpR]/\∀ (m:Nat) v,j<=m->x.opn[m]?=some v->v=none)
   (fun g=>∃ s v e ρ',inmost x.opn=some s/\g[h.length+1]?=some (.cells [.int .i64 v] true)/\g[h.length+2]?=some (.cells [.int .i64 e] true)/\g[h.length+4]?=some (.loop .done (some .ret) E3 37 #[24,25] AS22 BD22) /\
    TAt g ρ' (t.spawn n).1/\Step ρ h ρ' g/\(t.spawn n).2=(v,e)/\¬ fpT ρ' (h.length+4))
   (fun j g ⟨e,_⟩=>by rw[e];exact gP b3)
   (by
    cases ho:ρ (.op k) with
    | none =>
     left
     rw[ho] at hsl
     cases hsl
     exact⟨by rw[a.sh.op k x hx ho];rfl,rfl⟩
    | some oo =>
     right
     rw[ho] at hsl
     cases hsl
     refine⟨oo,by simp,fun j g m v ⟨e,_⟩ hv=>?_⟩
     obtain⟨junk,hj⟩:=a4.obj _ _ ho
     rw[cont_op hx] at hj
     exact⟨_,true,by rw[e];exact gP hj,by rw[List.getElem?_append_left (gT hv)];exact hv⟩)
   (fun j v g hv ⟨eg,hnn⟩=>by
    subst eg
    rw[List.getElem?_map] at hv
    cases hw:x.opn[j]? with
    | none=>rw[hw] at hv;cases hv
    | some w =>
     rw[hw] at hv
     simp only[Option.map_some,Option.some.injEq] at hv
     have hlp:(g4++[lpR])[h.length+4]?=some (.loop .ready none E3 37 #[24,25] AS22 BD22):=by rw[lpr,hR]
     obtain⟨E4,u1,u2⟩:=pvC 0 ((hE3.cons 24 (.int .i64 j)).cons 25 v) (r12p.sp_as h.length (h.length+1) (h.length+2) j v (g4++[lpR])) trivial
     have u2':CRun Try.prog 37 true AS22 ((25,v)::(24,.int .i64 j)::E3) (g4++[lpR]) .normal E4 (g4++[lpR]):=u2
     have hE4:EnvLe [(9,v),(2,ptr h.length),(4,ptr (h.length+1)),(5,ptr (h.length+2))] E4:=.trans (.add (.add (.add (.add (.nil _) rfl) rfl) rfl) rfl) u1
     cases w with
     | none =>
      left
      have hv':v=.pointer none:=hv.symm
      subst hv'
      obtain⟨E5,v1,v2⟩:=pvC 0 hE4 (r12p.sp_nil h.length (h.length+1) (h.length+2) 0 0 0 0 0 [] [] gb gb) trivial
      refine⟨g4++[lpR],RunR.go hlp rfl rfl u2' hlp (h4:=gb) (by rw[<- hB,setB];exact v2) (by rw[lpb,hB]) (by rw[<- hR,setR]),rfl,fun m y hm hy=>?_⟩
      by_cases e:m=j
      ·subst e;rw[hw] at hy;cases hy;rfl
      ·exact hnn m y (by omega) hy
     | some s =>
      right
      have him:inmost x.opn=some s:=inmost_at hw fun m y hm hy=>hnn m y hm hy
      have hsl2:=ok.opn k x s hx (List.mem_of_getElem? hw)
      obtain⟨si,hsi⟩:=a.sh.sc s hsl2
      simp only[inP,hsi,pvv] at hv
      subst hv
      obtain⟨to,ht⟩:=a.sh.ts' hk
      have Lr:(Asm.ld1 (.is gb) h.length 0 (ptr r)).holds Try.prog:=aL (upb b2) rfl
      have Lt:=ab.hdT hr (P:=Try.prog) (s:=.is gb) rfl
      rw[ht] at Lt
      by_cases h64:64<=t.tks.length
      ·have es:t.spawn n=(t,0,5):=by simp only[TS.spawn,hq,hx,him,h64,if_true]
       obtain⟨E5,v1,v2⟩:=pvC 0 hE4 (r12p.sp_full h.length (h.length+1) (h.length+2) r si to t.tks.length 0 [.int .i64 0] [.int .i64 5] gb gb) ⟨Lr,Lt,geT (by simp;omega),a_st (upb b4) (by simp) rfl,a_st (gNq (upb b5) (by omega)) (by simp) rfl,trivial⟩
       refine⟨_,RunR.ret (h4:=(gb.set (h.length+1) (.cells [.int .i64 0] true)).set (h.length+2) (.cells [.int .i64 5] true)) hlp rfl rfl u2' hlp (by rw[<- hB,setB];exact v2) (gNq (gNq (by rw[lpb,hB]) (by omega)) (by omega)) rfl,s,0,5,ρ,him,?_,?_,gE (gNq (gNq lpb (by omega)) (by omega)),?_,?_,by rw[es],a.out (by omega)⟩
       ·exact gNq (gNq (gE (upb b4)) (by omega)) (by omega)
       ·exact gNq (gE (gNq (upb b5) (by omega))) (by omega)
       ·rw[es];exact ((ab.setN n4 _).setN n5 _).setN (a.out (by omega)) _
       ·exact ((Sb.setNew (by omega) _).setNew (by omega) _).setNew (by omega) _
      ·have es:t.spawn n=(t.add (some s),((t.tks.length+1:Nat):Int),0):=by simp only[TS.spawn,hq,hx,him,h64,if_false]
       obtain⟨ρ',g6,w1,w2,w3⟩:=add_run ab ok hc (by omega) hr (inn:=some s) fun s' e=>by cases e;exact hsl2
       simp only[inP,hsi,pvv] at w1
       have c4:=w3.get (upb b4) n4
       have c5:=w3.get (upb b5) n5
       have cL:=w3.get lpb (a.out (by omega))
       have m4:=w3.out (q:=h.length+1) (by omega) n4
       have m5:=w3.out (q:=h.length+2) (by omega) n5
       have mL:=w3.out (q:=h.length+4) (by omega) (a.out (by omega))
       obtain⟨E5,v1,v2⟩:=pvC 0 hE4 (r12p.sp_ok h.length (h.length+1) (h.length+2) r si to t.tks.length ((t.tks.length+1:Nat):Int) [.int .i64 ((t.tks.length+1:Nat):Int)] [.int .i64 0] gb g6) ⟨Lr,Lt,geF (by simp;omega),Lr,w1,a_st c4 (by simp) rfl,a_st (gNq c5 (by omega)) (by simp) rfl,trivial⟩
       refine⟨_,RunR.ret (h4:=(g6.set (h.length+1) (.cells [.int .i64 ((t.tks.length+1:Nat):Int)] true)).set (h.length+2) (.cells [.int .i64 0] true)) hlp rfl rfl u2' hlp (by rw[<- hB,setB];exact v2) (gNq (gNq (by rw[cL,hB]) (by omega)) (by omega)) rfl,s,_,0,ρ',him,?_,?_,gE (gNq (gNq cL (by omega)) (by omega)),?_,?_,by rw[es],mL⟩
       ·exact gNq (gNq (gE c4) (by omega)) (by omega)
       ·exact gNq (gE (gNq c5 (by omega))) (by omega)
       ·rw[es];exact ((w2.setN m4 _).setN m5 _).setN mL _
       ·exact (((Sb.trans w3).setNew (by omega) _).setNew (by omega) _).setNew (by omega) _)
   (g0:=g4++[lpR]) ⟨rfl,fun m v hm hv=>by have:=gT hv;simp at hm;omega⟩
  have hgv:evalO E3 (.tmp 23)=some (.func (.func 90) #[] #[ptr (h.length+3)]):=q3 23 _ rfl
  have r1':Run Try.prog 90 ([.func (.yield g4.length) #[] #[]]++(#[ptr (h.length+3)]:Array Value).toList) (g4++[.loop .ready none E3 37 #[24,25] AS22 BD22]) (.tuple #[]) g5:=by rw[l4,<- hR];exact r1
  rcases r2 with⟨rfl,hall⟩ | ⟨s,v,e,ρ',him,c4,c5,cL,w2,w3,es,nL⟩
  ·have him:inmost x.opn=none:=inmost_none fun v hv=>by
    obtain⟨m,hm⟩:=List.getElem?_of_mem hv
    exact hall m v (by omega) hm
   have es:t.spawn n=(t,0,22):=by simp only[TS.spawn,hq,hx,him]
   rw[es]
   have c2:CRun Try.prog 37 false (.rangeFunc (.tmp 23) #[24,25] AS22 BD22) E3 g4 .normal E3 ((g4++[lpR]).set g4.length .dead):=CRun.range (pend:=none) hgv r1' (by rw[l4,lpr,hR]) rfl
   rw[l4] at c2
   have d4:((g4++[lpR]).set (h.length+4) .dead)[h.length+1]?=some (.cells [.int .i64 0] true):=gNq (gP (up4 b4)) (by omega)
   have d5:((g4++[lpR]).set (h.length+4) .dead)[h.length+2]?=some (.cells [.int .i64 0] true):=gNq (gP (up4 b5)) (by omega)
   obtain⟨E6,p1,p2⟩:=pvC 0 (.trans (.add (.add (.nil _) rfl) rfl) hE3) (r12p.sp_post (h.length+1) (h.length+2) [.int .i64 0] [.int .i64 22] ((g4++[lpR]).set (h.length+4) .dead)) ⟨a_st d4 (by simp) rfl,a_st (gNq d5 (by omega)) (by simp) rfl,trivial⟩
   refine⟨ρ,_,Run.code Try.func63 body22 (.inr rfl) (CRunChain q2 (CRun.seq (CRun.seq q4' (CRun.blockN 0 c2)) p2)) (two _ _ _ _ p1 (gNq (gE d4) (by omega)) (gE (gNq d5 (by omega)))),?_,?_⟩
   ·exact (((a4.push lpR).setN (a.out (by omega)) _).setN n4 _).setN n5 _
   ·exact (((S4.trans (Step.push _ _ _)).setNew (by omega) _).setNew (by omega) _).setNew (by omega) _
  ·have c2:CRun Try.prog 37 false (.rangeFunc (.tmp 23) #[24,25] AS22 BD22) E3 g4 .ret E3 (g5.set g4.length .dead):=CRun.rangeD (pend:=some .ret) hgv r1' (by rw[l4];exact cL) rfl
   rw[l4] at c2
   rw[es]
   refine⟨ρ',_,Run.code Try.func63 body22 (.inr rfl) (CRunChain q2 (CRun.stop (CRun.seq q4' (CRun.blockR 0 c2)) (by simp))) (two _ _ _ _ (.trans (.add (.add (.nil _) rfl) rfl) hE3) (gNq c4 (by omega)) (gNq c5 (by omega))),w2.setN nL _,w3.setNew (by omega) _⟩
end
end Go.Proofs.Ytlonjogfeidgfaa.tr
namespace Go.Proofs.Ytlonjogfeidgfaa.tr
open Go Go.Ev
set_option maxRecDepth 100000
set_option linter.unusedVariables false
set_option linter.constructorNameAsVariable false
def SlV(h:Hp)(lo:Nat)(v:Value)(n z:Nat)(cs:List Value):Prop :=
 (n=0/\cs=[]/\v=.slice none 0 0)\/(n≠0/\cs.length=n*z/\∃ o,v=.slice (some ⟨o,0,none⟩) n z/\h[o]?=some (.cells cs true)/\lo<=o)
theorem SlV.keep{h h':Hp}{lo n z:Nat}{v:Value}{cs:List Value}{fp:Nat->Prop}(a:SlV h lo v n z cs)(K:Keep fp h h')(hf:∀ q,fp q->q<lo):SlV h' lo v n z cs:=by
 rcases a with a | ⟨a1,a2,o,a3,a4,a5⟩
 ·exact .inl a
 ·exact .inr ⟨a1,a2,o,a3,K.2 _ _ a4 fun e=>by have:=hf _ e;omega,a5⟩
theorem SlV.mono{h:Hp}{lo lo' n z:Nat}{v:Value}{cs:List Value}(a:SlV h lo v n z cs)(hl:lo'<=lo):SlV h lo' v n z cs:=by
 rcases a with a | ⟨a1,a2,o,a3,a4,a5⟩
 ·exact .inl a
 ·exact .inr ⟨a1,a2,o,a3,a4,by omega⟩
theorem a_appGN{P:Program}{s:SH}{d q z b:Nat}{item:List Value}(hi:item.length=z)(ho:item.all Value.oneCell'=true)(hb:b<=1000)(h2:s.den[d]?=some (.cells item true))(hq:s.den.length=q) :
  (Asm.appNil s d 0 1 0 z b item q).holds P:=⟨rfl,⟨_,cells_of h2,by omega,by rw[List.drop_zero,List.take_of_length_le (by omega)]⟩,ho,by omega,by omega,hq⟩
theorem a_appGS{P:Program}{s:SH}{i n d q z b:Nat}{cs item:List Value}(hi:item.length=z)(ho:item.all Value.oneCell'=true)(hb:b<=1000)(hn:n<=1000000)(hl:cs.length=n*z)(h1:s.den[i]?=some (.cells cs true))(h2:s.den[d]?=some (.cells item true))(hq:s.den.length=q) :
  (Asm.app s i 0 n d 0 1 0 z b (cs++item) item q).holds P:=by
 have m:(n+1)*b<=140737488355328:=Nat.le_trans (Nat.mul_le_mul (show n+1<=1000001 by omega) hb) (by omega)
 exact⟨rfl,⟨_,cells_of h2,by omega,by rw[List.drop_zero,List.take_of_length_le (by omega)]⟩,ho,m,by omega,⟨_,own_of h1,by omega,by rw[List.drop_zero,List.take_of_length_le (by omega)]⟩,hq⟩
def lkC:Option Nat->List Value
 | none=>[.int .i64 3,.int .i64 0]
 | some s=>[.int .i64 2,.int .i64 ((s+1:Nat):Int)]
def lkL:List (Option Nat)->List Value
 | []=>[]
 | v::l=>lkC v++lkL l
theorem lkC_len(v:Option Nat):(lkC v).length=2:=by cases v<;>rfl
theorem lkC_ones(v:Option Nat):(lkC v).all Value.oneCell'=true:=by cases v<;>rfl
theorem lkL_len:∀ l:List (Option Nat),(lkL l).length=l.length*2
 | []=>rfl
 | v::l=>by simp[lkL,lkC_len,lkL_len l];omega
theorem lkL_app:∀ l m:List (Option Nat),lkL (l++m)=lkL l++lkL m
 | [],_=>rfl
 | v::l,m=>by simp[lkL,lkL_app l m]
def lkK:Option Nat->Int
 | none=>3
 | some _=>2
def lkN:Option Nat->Int
 | none=>0
 | some s=>((s+1:Nat):Int)
theorem lkC_eq(v:Option Nat):lkC v=[.int .i64 (lkK v),.int .i64 (lkN v)]:=by cases v<;>rfl
section
variable {h:Hp} {ρ:Lay} {t:TS} {c r:Nat}
theorem link_run(a:TAt h ρ t)(v:Option Nat)(hv:∀ s,v=some s->s<t.scs.length):∃ h',Run Try.prog 71 [inP ρ v] h (.agg #[.int .i64 (lkK v),.int .i64 (lkN v)]) h'/\Keep (fun _=>False) h h':=by
 have K:∀ o o',Keep (fun _=>False) h ((h++[o]).set h.length o'):=fun o o'=>((Keep.refl _ h).pushN o).setN (Nat.le_refl _) o'
 cases v with
 | none=>exact⟨_,pvF 0 Try.func71 (r2p.li_nil h.length h) ⟨rfl,a_st (gW _ _) (by simp) rfl,aN (gE (gW _ _)) (by simp) rfl,trivial⟩,K _ _⟩
 | some s =>
  have hs:=hv s rfl
  obtain⟨i,hi⟩:=a.sh.sc s hs
  obtain⟨y,hy⟩:∃ y,t.scs[s]?=some y:=⟨_,List.getElem?_eq_getElem hs⟩
  simp only[inP,hi,pvv]
  exact⟨_,pvF 0 Try.func71 (r2p.li_some h.length i ((s+1:Nat):Int) h) ⟨rfl,(a.push _).ld1 rfl hi (by rw[cSq hy];rfl),a_st (gW _ _) (by simp) rfl,aN (gE (gW _ _)) (by simp) rfl,trivial⟩,K _ _⟩
theorem stat13(k:Nat)(hk:k=0\/k=1):(Asm.stat (drawN Try.f46 k)).holds Try.prog:=by
 rcases hk with rfl | rfl
 ·exact show statOk (drawN Try.f46 0)=true by kernel_rfl
 ·exact show statOk (drawN Try.f46 1)=true by kernel_rfl
theorem agg33:aggSize Try.prog 42=some none:=by kernel_rfl
theorem take_one{α:Type}{l:List α}{k:Nat}{x:α}(h:l[k]?=some x):l.take (k+1)=l.take k++[x]:=by rw[List.take_add_one,h];rfl
theorem task_loop(a:TAt h ρ t){kk:Nat}{x:Tk}{oo:Nat}(hx:t.tks[kk]?=some x)(ho:ρ (.op kk)=some oo)(hin:∀ s,some s∈x.opn->s<t.scs.length)(hlen:x.opn.length<=1000000){e0 e1 e2 e3 e4:Value}{z4:List Value} :
  ∀ (j i:Nat) (E:Env) (g:Hp) (v:Value),i+j=x.opn.length->EnvLe [(71,.int .i64 (i:Int)),(70,.int .i64 (Int.ofNat x.opn.length)),(69,.slice (some ⟨oo,0,none⟩) x.opn.length 1),(7,ptr (h.length+1)),(4,ptr h.length)] E ->
   Keep (fun _=>False) h g->g[h.length]?=some (.cells z4 true)->g[h.length+1]?=some (.cells [e0,e1,e2,e3,e4,v] true)->SlV g (h.length+2) v i 2 (lkL (x.opn.take i)) ->
   ∃ E1 g' v',EnvLe [(7,ptr (h.length+1)),(4,ptr h.length)] E1/\LRun Try.prog 84 false (loopN Try.f46 0) E g (.exit 1) E1 g'/\Keep (fun _=>False) h g'/\g'[h.length]?=some (.cells z4 true)/\g'[h.length+1]?=some (.cells [e0,e1,e2,e3,e4,v'] true)/\SlV g' (h.length+2) v' x.opn.length 2 (lkL x.opn):=by
 intro j
 induction j with
 | zero =>
  intro i E g v hi hE K h4 h7 hv
  have e:i=x.opn.length:=by omega
  subst e
  rw[List.take_length] at hv
  obtain⟨E2,q1,q2⟩:=pvC 0 hE (r13p.tl_out (h.length+1) h.length oo x.opn.length 0 0 0 0 0 _ 0 0 0 (.bool true) [] [] [] g g) ⟨ltF (by simp),trivial⟩
  exact⟨E2,g,v,.trans (.add (.add (.nil _) rfl) rfl) q1,.last q2 (by simp),K,h4,h7,hv⟩
 | succ j ih =>
  intro i E g v hi hE K h4 h7 hv
  obtain⟨w,hw⟩:∃ w,x.opn[i]?=some w:=⟨_,List.getElem?_eq_getElem (by omega)⟩
  have ag:=a.grow K
  have hgl:=K.1
  obtain⟨g2,r1,K2⟩:=link_run ag w fun s e=>hin s (by rw[<- e];exact List.mem_of_getElem? hw)
  have K2l:=K2.1
  have g1:(Asm.cmp .lss (i:Int) (Int.ofNat x.opn.length) true).holds Try.prog:=ltT (by simp;omega)
  have g2':(Asm.off i 0 (i:Int) x.opn.length 1).holds Try.prog:=offI (q:=i) rfl (by omega) (by omega)
  have g3:(Asm.ld1 (.is g) oo i (inP ρ w)).holds Try.prog:=ag.ld1 rfl ho (by rw[cont_op hx,List.getElem?_map,hw];rfl)
  have g4:(Asm.arith .add .i64 (i:Int) 1 ((i+1:Nat):Int)).holds Try.prog:=addI rfl (by omega) (by omega)
  have h72:=K2.2 _ _ h7 id
  have h42:=K2.2 _ _ h4 id
  have h7l:=get_lt h7
  have vr:veqR v=true:=by rcases hv with⟨_,_,e⟩ | ⟨_,_,o,e,_⟩<;>rw[e]<;>rfl
  have ga:(Asm.again (.is g) 42 (.pointer (some ⟨h.length+1,5,none⟩)) v).holds Try.prog:=a_again1 agg33 h7 rfl vr
  have gb:(Asm.again (.is g2) 42 (.pointer (some ⟨h.length+1,5,none⟩)) v).holds Try.prog:=a_again1 agg33 h72 rfl vr
  have gl:(Asm.ld1 (.is g) (h.length+1) 5 v).holds Try.prog:=aL h7 rfl
  have hnew:g2[g2.length]?=none:=by simp
  rcases hv with⟨e0',e1',rfl⟩ | ⟨hn,hl,o,rfl,hob,hol⟩
  ·subst e0'
   obtain⟨E2,q1,q2⟩:=pvC 0 hE (r13p.tl_gon (h.length+1) h.length oo x.opn.length 0 0 g2.length (g2.length+1) 0 _ ((0+1:Nat):Int) (lkK w) (lkN w) (inP ρ w) [] (lkC w) [e0,e1,e2,e3,e4,.slice (some ⟨g2.length+1,0,none⟩) 1 2] g g2)
    ⟨g1,g2',g3,stat13 1 (.inr rfl),ga,ga,gb,gl,r1,rfl,a_appGN (lkC_len w) (lkC_ones w) (by omega) (by rw[lkC_eq];exact gW _ _) (pL _ _),a_st (gP (gP h72)) (by simp) rfl,g4,trivial⟩
   obtain⟨E3,g5,v',s1,s2,s3⟩:=ih 1 E2 ((g2++[AObj.cells [.int .i64 (lkK w),.int .i64 (lkN w)] true]++[AObj.cells (lkC w) true]).set (h.length+1) (AObj.cells [e0,e1,e2,e3,e4,.slice (some ⟨g2.length+1,0,none⟩) 1 2] true)) (.slice (some ⟨g2.length+1,0,none⟩) 1 2) (by omega)
    (.trans (.add (.add (.add (.add (.add (.nil _) rfl) rfl) rfl) rfl) rfl) q1) ((((K.trans K2).pushN _).pushN _).setN (by omega) _) (gNq (gP (gP h42)) (by omega)) (gE (gP (gP h72)))
    (.inr ⟨by omega,by rw[take_one hw];simp[lkL_len],g2.length+1,rfl,by rw[take_one hw];exact gNq (by simp[lkL]) (by omega),by omega⟩)
   exact⟨E3,g5,v',s1,.step q2 s2,s3⟩
  ·have ho2:=K2.2 _ _ hob id
   have hol2:=get_lt hob
   obtain⟨E2,q1,q2⟩:=pvC 0 hE (r13p.tl_gos (h.length+1) h.length oo x.opn.length i o g2.length (g2.length+1) i _ ((i+1:Nat):Int) (lkK w) (lkN w) (inP ρ w) (lkL (x.opn.take i)++lkC w) (lkC w) [e0,e1,e2,e3,e4,.slice (some ⟨g2.length+1,0,none⟩) (i+1) 2] g g2)
    ⟨g1,g2',g3,stat13 1 (.inr rfl),ga,ga,gb,gl,r1,rfl,a_appGS (lkC_len w) (lkC_ones w) (by omega) (by omega) hl (gP ho2) (by rw[lkC_eq];exact gW _ _) (pL _ _),a_st (gP (gNq (gP h72) (by omega))) (by simp) rfl,g4,trivial⟩
   obtain⟨E3,g5,v',s1,s2,s3⟩:=ih (i+1) E2 (((g2++[AObj.cells [.int .i64 (lkK w),.int .i64 (lkN w)] true]).set o .dead++[AObj.cells (lkL (x.opn.take i)++lkC w) true]).set (h.length+1) (AObj.cells [e0,e1,e2,e3,e4,.slice (some ⟨g2.length+1,0,none⟩) (i+1) 2] true)) (.slice (some ⟨g2.length+1,0,none⟩) (i+1) 2) (by omega)
    (.trans (.add (.add (.add (.add (.add (.nil _) rfl) rfl) rfl) rfl) rfl) q1) (((((K.trans K2).pushN _).setN (by omega) _).pushN _).setN (by omega) _) (gNq (gP (gNq (gP h42) (by omega))) (by omega)) (gE (gP (gNq (gP h72) (by omega))))
    (.inr ⟨by omega,by rw[take_one hw,lkL_len,List.length_append,List.length_take,List.length_singleton];congr 1;omega,g2.length+1,rfl,by
     rw[take_one hw,lkL_app]
     refine gNq ?_ (by omega)
     rw[show lkL [w]=lkC w by simp[lkL]]
     exact gV _ (by simp),by omega⟩)
   exact⟨E3,g5,v',s1,.step q2 s2,s3⟩
structure TkV where
 sc:Int
 en:Bool
 lv:Bool
 fk:Int
 ft:ByteArray
 op:List (Option Nat)
def TkV.zero:TkV:=⟨0,false,false,0,⟨#[]⟩,[]⟩
def tkV(x:Tk):TkV:=⟨lkN x.inn,x.en,x.lv,if x.en then x.fk else 0,if x.en then x.ft else ⟨#[]⟩,x.opn⟩
def TkV.C(w:TkV)(v:Value):List Value:=[.int .i64 w.sc,.bool w.en,.bool w.lv,.int .i64 w.fk,.string w.ft,v]
def TS.task(t:TS)(n:Int):TkV×Int:=if n<1\/(t.tks.length:Int)<n then (.zero,6) else match t.tks[(n-1).toNat]? with
 | some x=>(tkV x,0)
 | none=>(.zero,6)
theorem task_run(a:TAt h ρ t)(ok:TOk c t)(hc:c<=100000)(hr:ρ .root=some r)(n:Int) :
  ∃ v h',Run Try.prog 46 [ptr r,.int .i64 n] h (.tuple #[.agg ((t.task n).1.C v).toArray,.int .i64 (t.task n).2]) h'/\Keep (fun _=>False) h h'/\SlV h' (h.length+2) v (t.task n).1.op.length 2 (lkL (t.task n).1.op):=by
 have n64:=ok.n64
 have Z:∀ {e:TkV×Int},e=(.zero,6)->t.task n=e->∀ g,Keep (fun _=>False) h g->Run Try.prog 46 [ptr r,.int .i64 n] h (.tuple #[.agg (TkV.zero.C (.slice none 0 0)).toArray,.int .i64 6]) g->∃ v h',Run Try.prog 46 [ptr r,.int .i64 n] h (.tuple #[.agg ((t.task n).1.C v).toArray,.int .i64 (t.task n).2]) h'/\Keep (fun _=>False) h h'/\SlV h' (h.length+2) v (t.task n).1.op.length 2 (lkL (t.task n).1.op):=fun e1 e2 g K R=>by
  rw[e2,e1]
  exact⟨_,g,R,K,.inl ⟨rfl,rfl,rfl⟩⟩
 have K1:∀ o,Keep (fun _=>False) h (h++[o]):=fun o=>(Keep.refl _ h).pushN o
 have st4:∀ (s:SH) (l:List Value),s.den[h.length]?=some (.cells [.int .i64 0,.bool false,.bool false,.int .i64 0,.string ⟨#[]⟩,.slice none 0 0] true)->l.length=6->(Asm.st s h.length 0 l l).holds Try.prog:=fun s l e hl=>a_st e (by simp[hl]) (by simp[hl])
 by_cases c1:n<1
 ·exact Z rfl (by simp[TS.task,c1]) _ ((K1 _).setN (Nat.le_refl _) _) (pvF 0 Try.func46 (r13p.ta_low r h.length 0 0 0 0 0 0 0 0 n 0 0 0 false false ⟨#[]⟩ [] [] [] [] none 0 0 h h) ⟨rfl,ltT c1,st4 _ _ (gW _ _) rfl,aN (gE (gW _ _)) (by simp) rfl,trivial⟩)
 ·have T0:=(a.push (.cells [.int .i64 0,.bool false,.bool false,.int .i64 0,.string ⟨#[]⟩,.slice none 0 0] true))
  have hd:=T0.hdT hr (P:=Try.prog) (s:=.push (.is h) (.cells [.int .i64 0,.bool false,.bool false,.int .i64 0,.string ⟨#[]⟩,.slice none 0 0] true)) rfl
  by_cases c2:(t.tks.length:Int)<n
  ·have e:t.task n=(.zero,6):=by simp[TS.task,c2]
   cases ht:ρ .ts with
   | none =>
    have h0:=a.sh.ts ht
    rw[ht,h0] at hd
    rw[h0] at c2
    exact Z rfl e _ ((K1 _).setN (Nat.le_refl _) _) (pvF 0 Try.func46 (r13p.ta_highn r h.length 0 0 0 0 0 0 0 0 n 0 0 0 false false ⟨#[]⟩ [] [] [] [] none 0 0 h h) ⟨rfl,ltF (by omega),hd,gtT (by simpa using c2),st4 _ _ (gW _ _) rfl,aN (gE (gW _ _)) (by simp) rfl,trivial⟩)
   | some to =>
    rw[ht] at hd
    exact Z rfl e _ ((K1 _).setN (Nat.le_refl _) _) (pvF 0 Try.func46 (r13p.ta_highs r h.length 0 to t.tks.length 0 0 0 0 0 n 0 0 0 false false ⟨#[]⟩ [] [] [] [] none 0 0 h h) ⟨rfl,ltF (by omega),hd,gtT c2,st4 _ _ (gW _ _) rfl,aN (gE (gW _ _)) (by simp) rfl,trivial⟩)
  ·have hk:(n-1).toNat<t.tks.length:=by omega
   obtain⟨k,hkn⟩:∃ k,k=(n-1).toNat:=⟨_,rfl⟩
   obtain⟨x,hx⟩:∃ x,t.tks[(n-1).toNat]?=some x:=⟨_,List.getElem?_eq_getElem hk⟩
   have e:t.task n=(tkV x,0):=by simp only[TS.task,c1,c2,or_self,if_false,hx]
   rw[<- hkn] at hk hx
   rw[e]
   obtain⟨to,ht⟩:=a.sh.ts' hk
   obtain⟨i,hi⟩:=a.sh.tk _ hk
   rw[ht] at hd
   have hlen:=ok.len k x hx
   have p1:(Asm.arith .sub .i64 n 1 (n-1)).holds Try.prog:=subI rfl (by omega) (by omega)
   have p2:(Asm.off k 0 (n-1) t.tks.length 1).holds Try.prog:=offI (q:=k) (by omega) hk (by omega)
   have p3:∀ (s:SH),Keep (fun _=>False) h s.den->(Asm.ld1 s to k (ptr i)).holds Try.prog:=fun s K=>by
    have:=(a.grow K).ld1 (P:=Try.prog) (s:=s) rfl ht (cont_ts hk)
    rwa [hi] at this
   have q1:(Asm.cmp .lss n 1 false).holds Try.prog:=ltF (by omega)
   have q2:(Asm.cmp .gtr n (Int.ofNat t.tks.length) false).holds Try.prog:=gtF (by simp;omega)
   have Len:∀ (s:SH),Keep (fun _=>False) h s.den->(Asm.ld1 s i 4 (.bool x.en)).holds Try.prog:=fun s K=>(a.grow K).ld1 rfl hi (by rw[cT hx];rfl)
   have Llv:∀ (s:SH),Keep (fun _=>False) h s.den->(Asm.ld1 s i 3 (.bool x.lv)).holds Try.prog:=fun s K=>(a.grow K).ld1 rfl hi (by rw[cT hx];rfl)
   have Lin:∀ (s:SH),Keep (fun _=>False) h s.den->(Asm.ld1 s i 1 (inP ρ x.inn)).holds Try.prog:=fun s K=>(a.grow K).ld1 rfl hi (by rw[cT hx];rfl)
   have Lft:∀ (s:SH),Keep (fun _=>False) h s.den->(Asm.ldn s i 5 2 (fltC x.fk x.ft)).holds Try.prog:=fun s K=>(a.grow K).ldn rfl hi (by rw[cT hx];simp[tkC]) (by rw[cT hx];rfl)
   have Lop:∀ (s:SH),Keep (fun _=>False) h s.den->(Asm.ld1 s i 2 (slv (ρ (.op k)) x.opn.length)).holds Try.prog:=fun s K=>(a.grow K).ld1 rfl hi (by rw[cT hx];rfl)
   have st7:∀ (s:SH) (l l':List Value) (d:Nat) (l2:List Value),s.den[h.length+1]?=some (.cells l true)->l'.length+d<=l.length->l.take d++l'++l.drop (d+l'.length)=l2->(Asm.st s (h.length+1) d l' l2).holds Try.prog:=fun s l l' d l2 e1 e2 e3=>a_st e1 (by omega) e3
   have KA:Keep (fun _=>False) h (h++[AObj.cells [.int .i64 0,.bool false,.bool false,.int .i64 0,.string ⟨#[]⟩,.slice none 0 0] true]):=K1 _
   have KB:Keep (fun _=>False) h (h++[AObj.cells [.int .i64 0,.bool false,.bool false,.int .i64 0,.string ⟨#[]⟩,.slice none 0 0] true]++[AObj.cells [.int .i64 0,.bool false,.bool false,.int .i64 0,.string ⟨#[]⟩,.slice none 0 0] true]):=KA.pushN _
   have B4:(h++[AObj.cells [.int .i64 0,.bool false,.bool false,.int .i64 0,.string ⟨#[]⟩,.slice none 0 0] true]++[AObj.cells [.int .i64 0,.bool false,.bool false,.int .i64 0,.string ⟨#[]⟩,.slice none 0 0] true])[h.length]?=some (.cells [.int .i64 0,.bool false,.bool false,.int .i64 0,.string ⟨#[]⟩,.slice none 0 0] true):=gP (gW _ _)
   have B7:(h++[AObj.cells [.int .i64 0,.bool false,.bool false,.int .i64 0,.string ⟨#[]⟩,.slice none 0 0] true]++[AObj.cells [.int .i64 0,.bool false,.bool false,.int .i64 0,.string ⟨#[]⟩,.slice none 0 0] true])[h.length+1]?=some (.cells [.int .i64 0,.bool false,.bool false,.int .i64 0,.string ⟨#[]⟩,.slice none 0 0] true):=gV _ (pL _ _)
   have S0:=stat13 0 (.inl rfl)
   have lb7:(Asm.len (.push (.is h) (.cells [.int .i64 0,.bool false,.bool false,.int .i64 0,.string ⟨#[]⟩,.slice none 0 0] true)) (h.length+1)).holds Try.prog:=pL _ _
   obtain⟨gA,hgA⟩:∃ gA,gA=h++[AObj.cells [.int .i64 0,.bool false,.bool false,.int .i64 0,.string ⟨#[]⟩,.slice none 0 0] true]++[AObj.cells [.int .i64 0,.bool false,.bool false,.int .i64 0,.string ⟨#[]⟩,.slice none 0 0] true]:=⟨_,rfl⟩
   cases hinn:x.inn with
   | none =>
    rw[hinn] at Lin
    cases hen:x.en with
    | false =>
     rw[hen] at Len
     cases hop:ρ (.op k) with
     | none =>
      have h0:=a.sh.op k x hx hop
      rw[hop,h0] at Lop
      simp only[tkV,hinn,hen,lkN,if_true,if_false,Bool.false_eq_true,h0]
      have B7_0:=B7
      have B4_0:=B4
      have K_0:=KB
      have K_1:=K_0.setN (show h.length<=h.length+1 by omega) (AObj.cells [.int .i64 0,.bool false,.bool x.lv,.int .i64 0,.string ⟨#[]⟩,.slice none 0 0] true)
      have B7_1:=gE (x:=AObj.cells [.int .i64 0,.bool false,.bool x.lv,.int .i64 0,.string ⟨#[]⟩,.slice none 0 0] true) B7_0
      have B4_1:=gNq (x:=AObj.cells [.int .i64 0,.bool false,.bool x.lv,.int .i64 0,.string ⟨#[]⟩,.slice none 0 0] true) B4_0 (show h.length+1≠h.length by omega)
      exact⟨.slice none 0 0,_,pvF 0 Try.func46 (r13p.ta_000 r h.length (h.length+1) to t.tks.length k i 0 0 0 n (n-1) 0 0 false x.lv ⟨#[]⟩ [.int .i64 0,.bool false,.bool x.lv,.int .i64 0,.string ⟨#[]⟩,.slice none 0 0] [] [] [] none 0 0 h h) ⟨rfl,q1,hd,q2,hd,p1,p2,p3 _ KA,S0,Len _ KA,Llv _ KA,lb7,st7 _ _ _ _ _ B7_0 (by simp) rfl,Lin _ K_1,Len _ K_1,Lop _ K_1,ltF (by omega),aN B7_1 (by simp) rfl,st4 _ _ B4_1 rfl,aN (gE B4_1) (by simp) rfl,trivial⟩,K_1.setN (Nat.le_refl _) _,.inl ⟨rfl,rfl,rfl⟩⟩
     | some oo =>
      rw[hop] at Lop
      simp only[tkV,hinn,hen,lkN,if_true,if_false,Bool.false_eq_true]
      have B7_0:=B7
      have B4_0:=B4
      have K_0:=KB
      have K_1:=K_0.setN (show h.length<=h.length+1 by omega) (AObj.cells [.int .i64 0,.bool false,.bool x.lv,.int .i64 0,.string ⟨#[]⟩,.slice none 0 0] true)
      have B7_1:=gE (x:=AObj.cells [.int .i64 0,.bool false,.bool x.lv,.int .i64 0,.string ⟨#[]⟩,.slice none 0 0] true) B7_0
      have B4_1:=gNq (x:=AObj.cells [.int .i64 0,.bool false,.bool x.lv,.int .i64 0,.string ⟨#[]⟩,.slice none 0 0] true) B4_0 (show h.length+1≠h.length by omega)
      obtain⟨E1,g',v',l1,l2,l3,l4,l5,l6⟩:=task_loop a hx hop (fun s hs=>ok.opn k x s hx hs) (by omega) x.opn.length 0 [(71,.int .i64 0),(70,.int .i64 (Int.ofNat x.opn.length)),(69,.slice (some ⟨oo,0,none⟩) x.opn.length 1),(7,ptr (h.length+1)),(4,ptr h.length)] _ (.slice none 0 0) (by omega) (EnvLe.refl _) K_1 B4_1 B7_1 (.inl ⟨rfl,rfl,rfl⟩)
      obtain⟨oa,la,za,hv'⟩:∃ oa la za,v'=.slice oa la za:=by rcases l6 with⟨_,_,e⟩ | ⟨_,_,o,e,_⟩<;>exact⟨_,_,_,e⟩
      subst hv'
      exact⟨.slice oa la za,_,pvF 0 Try.func46 (r13p.ta_001 r h.length (h.length+1) to t.tks.length k i 0 oo x.opn.length n (n-1) 0 0 false x.lv ⟨#[]⟩ [.int .i64 0,.bool false,.bool x.lv,.int .i64 0,.string ⟨#[]⟩,.slice none 0 0] [] [] [] oa la za h g') ⟨rfl,q1,hd,q2,hd,p1,p2,p3 _ KA,S0,Len _ KA,Llv _ KA,lb7,st7 _ _ _ _ _ B7_0 (by simp) rfl,Lin _ K_1,Len _ K_1,Lop _ K_1,a_loop (by kernel_rfl) (.add (.add (.add (.add (.add (.nil _) rfl) rfl) rfl) rfl) rfl) l1 l2,aN l5 (by simp) rfl,st4 _ _ l4 rfl,aN (gE l4) (by simp) rfl,trivial⟩,l3.setN (Nat.le_refl _) _,l6.keep (Keep.set (fp:=fun q=>q=h.length) rfl _) (fun q e=>by omega)⟩
    | true =>
     rw[hen] at Len
     cases hop:ρ (.op k) with
     | none =>
      have h0:=a.sh.op k x hx hop
      rw[hop,h0] at Lop
      simp only[tkV,hinn,hen,lkN,if_true,if_false,Bool.false_eq_true,h0]
      have B7_0:=B7
      have B4_0:=B4
      have K_0:=KB
      have K_1:=K_0.setN (show h.length<=h.length+1 by omega) (AObj.cells [.int .i64 0,.bool true,.bool x.lv,.int .i64 0,.string ⟨#[]⟩,.slice none 0 0] true)
      have B7_1:=gE (x:=AObj.cells [.int .i64 0,.bool true,.bool x.lv,.int .i64 0,.string ⟨#[]⟩,.slice none 0 0] true) B7_0
      have B4_1:=gNq (x:=AObj.cells [.int .i64 0,.bool true,.bool x.lv,.int .i64 0,.string ⟨#[]⟩,.slice none 0 0] true) B4_0 (show h.length+1≠h.length by omega)
      have K_2:=K_1.setN (show h.length<=h.length+1 by omega) (AObj.cells [.int .i64 0,.bool true,.bool x.lv,.int .i64 x.fk,.string x.ft,.slice none 0 0] true)
      have B7_2:=gE (x:=AObj.cells [.int .i64 0,.bool true,.bool x.lv,.int .i64 x.fk,.string x.ft,.slice none 0 0] true) B7_1
      have B4_2:=gNq (x:=AObj.cells [.int .i64 0,.bool true,.bool x.lv,.int .i64 x.fk,.string x.ft,.slice none 0 0] true) B4_1 (show h.length+1≠h.length by omega)
      exact⟨.slice none 0 0,_,pvF 0 Try.func46 (r13p.ta_010 r h.length (h.length+1) to t.tks.length k i 0 0 0 n (n-1) 0 x.fk true x.lv x.ft [.int .i64 0,.bool true,.bool x.lv,.int .i64 0,.string ⟨#[]⟩,.slice none 0 0] [] [.int .i64 0,.bool true,.bool x.lv,.int .i64 x.fk,.string x.ft,.slice none 0 0] [] none 0 0 h h) ⟨rfl,q1,hd,q2,hd,p1,p2,p3 _ KA,S0,Len _ KA,Llv _ KA,lb7,st7 _ _ _ _ _ B7_0 (by simp) rfl,Lin _ K_1,Len _ K_1,Lft _ K_1,st7 _ _ _ _ _ B7_1 (by simp) rfl,Lop _ K_2,ltF (by omega),aN B7_2 (by simp) rfl,st4 _ _ B4_2 rfl,aN (gE B4_2) (by simp) rfl,trivial⟩,K_2.setN (Nat.le_refl _) _,.inl ⟨rfl,rfl,rfl⟩⟩
     | some oo =>
      rw[hop] at Lop
      simp only[tkV,hinn,hen,lkN,if_true,if_false,Bool.false_eq_true]
      have B7_0:=B7
      have B4_0:=B4
      have K_0:=KB
      have K_1:=K_0.setN (show h.length<=h.length+1 by omega) (AObj.cells [.int .i64 0,.bool true,.bool x.lv,.int .i64 0,.string ⟨#[]⟩,.slice none 0 0] true)
      have B7_1:=gE (x:=AObj.cells [.int .i64 0,.bool true,.bool x.lv,.int .i64 0,.string ⟨#[]⟩,.slice none 0 0] true) B7_0
      have B4_1:=gNq (x:=AObj.cells [.int .i64 0,.bool true,.bool x.lv,.int .i64 0,.string ⟨#[]⟩,.slice none 0 0] true) B4_0 (show h.length+1≠h.length by omega)
      have K_2:=K_1.setN (show h.length<=h.length+1 by omega) (AObj.cells [.int .i64 0,.bool true,.bool x.lv,.int .i64 x.fk,.string x.ft,.slice none 0 0] true)
      have B7_2:=gE (x:=AObj.cells [.int .i64 0,.bool true,.bool x.lv,.int .i64 x.fk,.string x.ft,.slice none 0 0] true) B7_1
      have B4_2:=gNq (x:=AObj.cells [.int .i64 0,.bool true,.bool x.lv,.int .i64 x.fk,.string x.ft,.slice none 0 0] true) B4_1 (show h.length+1≠h.length by omega)
      obtain⟨E1,g',v',l1,l2,l3,l4,l5,l6⟩:=task_loop a hx hop (fun s hs=>ok.opn k x s hx hs) (by omega) x.opn.length 0 [(71,.int .i64 0),(70,.int .i64 (Int.ofNat x.opn.length)),(69,.slice (some ⟨oo,0,none⟩) x.opn.length 1),(7,ptr (h.length+1)),(4,ptr h.length)] _ (.slice none 0 0) (by omega) (EnvLe.refl _) K_2 B4_2 B7_2 (.inl ⟨rfl,rfl,rfl⟩)
      obtain⟨oa,la,za,hv'⟩:∃ oa la za,v'=.slice oa la za:=by rcases l6 with⟨_,_,e⟩ | ⟨_,_,o,e,_⟩<;>exact⟨_,_,_,e⟩
      subst hv'
      exact⟨.slice oa la za,_,pvF 0 Try.func46 (r13p.ta_011 r h.length (h.length+1) to t.tks.length k i 0 oo x.opn.length n (n-1) 0 x.fk true x.lv x.ft [.int .i64 0,.bool true,.bool x.lv,.int .i64 0,.string ⟨#[]⟩,.slice none 0 0] [] [.int .i64 0,.bool true,.bool x.lv,.int .i64 x.fk,.string x.ft,.slice none 0 0] [] oa la za h g') ⟨rfl,q1,hd,q2,hd,p1,p2,p3 _ KA,S0,Len _ KA,Llv _ KA,lb7,st7 _ _ _ _ _ B7_0 (by simp) rfl,Lin _ K_1,Len _ K_1,Lft _ K_1,st7 _ _ _ _ _ B7_1 (by simp) rfl,Lop _ K_2,a_loop (by kernel_rfl) (.add (.add (.add (.add (.add (.nil _) rfl) rfl) rfl) rfl) rfl) l1 l2,aN l5 (by simp) rfl,st4 _ _ l4 rfl,aN (gE l4) (by simp) rfl,trivial⟩,l3.setN (Nat.le_refl _) _,l6.keep (Keep.set (fp:=fun q=>q=h.length) rfl _) (fun q e=>by omega)⟩
   | some s =>
    have hsl:=ok.inn k x s hx hinn
    obtain⟨si,hsi⟩:=a.sh.sc s hsl
    obtain⟨y,hy⟩:∃ y,t.scs[s]?=some y:=⟨_,List.getElem?_eq_getElem hsl⟩
    rw[hinn] at Lin
    simp only[inP,hsi,pvv] at Lin
    have Ls:∀ (s':SH),Keep (fun _=>False) h s'.den->(Asm.ld1 s' si 0 (.int .i64 ((s+1:Nat):Int))).holds Try.prog:=fun s' K=>(a.grow K).ld1 rfl hsi (by rw[cSq hy];rfl)
    cases hen:x.en with
    | false =>
     rw[hen] at Len
     cases hop:ρ (.op k) with
     | none =>
      have h0:=a.sh.op k x hx hop
      rw[hop,h0] at Lop
      simp only[tkV,hinn,hen,lkN,if_true,if_false,Bool.false_eq_true,h0]
      have B7_0:=B7
      have B4_0:=B4
      have K_0:=KB
      have K_1:=K_0.setN (show h.length<=h.length+1 by omega) (AObj.cells [.int .i64 0,.bool false,.bool x.lv,.int .i64 0,.string ⟨#[]⟩,.slice none 0 0] true)
      have B7_1:=gE (x:=AObj.cells [.int .i64 0,.bool false,.bool x.lv,.int .i64 0,.string ⟨#[]⟩,.slice none 0 0] true) B7_0
      have B4_1:=gNq (x:=AObj.cells [.int .i64 0,.bool false,.bool x.lv,.int .i64 0,.string ⟨#[]⟩,.slice none 0 0] true) B4_0 (show h.length+1≠h.length by omega)
      have K_2:=K_1.setN (show h.length<=h.length+1 by omega) (AObj.cells [.int .i64 ((s+1:Nat):Int),.bool false,.bool x.lv,.int .i64 0,.string ⟨#[]⟩,.slice none 0 0] true)
      have B7_2:=gE (x:=AObj.cells [.int .i64 ((s+1:Nat):Int),.bool false,.bool x.lv,.int .i64 0,.string ⟨#[]⟩,.slice none 0 0] true) B7_1
      have B4_2:=gNq (x:=AObj.cells [.int .i64 ((s+1:Nat):Int),.bool false,.bool x.lv,.int .i64 0,.string ⟨#[]⟩,.slice none 0 0] true) B4_1 (show h.length+1≠h.length by omega)
      exact⟨.slice none 0 0,_,pvF 0 Try.func46 (r13p.ta_100 r h.length (h.length+1) to t.tks.length k i si 0 0 n (n-1) ((s+1:Nat):Int) 0 false x.lv ⟨#[]⟩ [.int .i64 0,.bool false,.bool x.lv,.int .i64 0,.string ⟨#[]⟩,.slice none 0 0] [.int .i64 ((s+1:Nat):Int),.bool false,.bool x.lv,.int .i64 0,.string ⟨#[]⟩,.slice none 0 0] [] [] none 0 0 h h) ⟨rfl,q1,hd,q2,hd,p1,p2,p3 _ KA,S0,Len _ KA,Llv _ KA,lb7,st7 _ _ _ _ _ B7_0 (by simp) rfl,Lin _ K_1,Lin _ K_1,Ls _ K_1,st7 _ _ _ _ _ B7_1 (by simp) rfl,Len _ K_2,Lop _ K_2,ltF (by omega),aN B7_2 (by simp) rfl,st4 _ _ B4_2 rfl,aN (gE B4_2) (by simp) rfl,trivial⟩,K_2.setN (Nat.le_refl _) _,.inl ⟨rfl,rfl,rfl⟩⟩
     | some oo =>
      rw[hop] at Lop
      simp only[tkV,hinn,hen,lkN,if_true,if_false,Bool.false_eq_true]
      have B7_0:=B7
      have B4_0:=B4
      have K_0:=KB
      have K_1:=K_0.setN (show h.length<=h.length+1 by omega) (AObj.cells [.int .i64 0,.bool false,.bool x.lv,.int .i64 0,.string ⟨#[]⟩,.slice none 0 0] true)
      have B7_1:=gE (x:=AObj.cells [.int .i64 0,.bool false,.bool x.lv,.int .i64 0,.string ⟨#[]⟩,.slice none 0 0] true) B7_0
      have B4_1:=gNq (x:=AObj.cells [.int .i64 0,.bool false,.bool x.lv,.int .i64 0,.string ⟨#[]⟩,.slice none 0 0] true) B4_0 (show h.length+1≠h.length by omega)
      have K_2:=K_1.setN (show h.length<=h.length+1 by omega) (AObj.cells [.int .i64 ((s+1:Nat):Int),.bool false,.bool x.lv,.int .i64 0,.string ⟨#[]⟩,.slice none 0 0] true)
      have B7_2:=gE (x:=AObj.cells [.int .i64 ((s+1:Nat):Int),.bool false,.bool x.lv,.int .i64 0,.string ⟨#[]⟩,.slice none 0 0] true) B7_1
      have B4_2:=gNq (x:=AObj.cells [.int .i64 ((s+1:Nat):Int),.bool false,.bool x.lv,.int .i64 0,.string ⟨#[]⟩,.slice none 0 0] true) B4_1 (show h.length+1≠h.length by omega)
      obtain⟨E1,g',v',l1,l2,l3,l4,l5,l6⟩:=task_loop a hx hop (fun s hs=>ok.opn k x s hx hs) (by omega) x.opn.length 0 [(71,.int .i64 0),(70,.int .i64 (Int.ofNat x.opn.length)),(69,.slice (some ⟨oo,0,none⟩) x.opn.length 1),(7,ptr (h.length+1)),(4,ptr h.length)] _ (.slice none 0 0) (by omega) (EnvLe.refl _) K_2 B4_2 B7_2 (.inl ⟨rfl,rfl,rfl⟩)
      obtain⟨oa,la,za,hv'⟩:∃ oa la za,v'=.slice oa la za:=by rcases l6 with⟨_,_,e⟩ | ⟨_,_,o,e,_⟩<;>exact⟨_,_,_,e⟩
      subst hv'
      exact⟨.slice oa la za,_,pvF 0 Try.func46 (r13p.ta_101 r h.length (h.length+1) to t.tks.length k i si oo x.opn.length n (n-1) ((s+1:Nat):Int) 0 false x.lv ⟨#[]⟩ [.int .i64 0,.bool false,.bool x.lv,.int .i64 0,.string ⟨#[]⟩,.slice none 0 0] [.int .i64 ((s+1:Nat):Int),.bool false,.bool x.lv,.int .i64 0,.string ⟨#[]⟩,.slice none 0 0] [] [] oa la za h g') ⟨rfl,q1,hd,q2,hd,p1,p2,p3 _ KA,S0,Len _ KA,Llv _ KA,lb7,st7 _ _ _ _ _ B7_0 (by simp) rfl,Lin _ K_1,Lin _ K_1,Ls _ K_1,st7 _ _ _ _ _ B7_1 (by simp) rfl,Len _ K_2,Lop _ K_2,a_loop (by kernel_rfl) (.add (.add (.add (.add (.add (.nil _) rfl) rfl) rfl) rfl) rfl) l1 l2,aN l5 (by simp) rfl,st4 _ _ l4 rfl,aN (gE l4) (by simp) rfl,trivial⟩,l3.setN (Nat.le_refl _) _,l6.keep (Keep.set (fp:=fun q=>q=h.length) rfl _) (fun q e=>by omega)⟩
    | true =>
     rw[hen] at Len
     cases hop:ρ (.op k) with
     | none =>
      have h0:=a.sh.op k x hx hop
      rw[hop,h0] at Lop
      simp only[tkV,hinn,hen,lkN,if_true,if_false,Bool.false_eq_true,h0]
      have B7_0:=B7
      have B4_0:=B4
      have K_0:=KB
      have K_1:=K_0.setN (show h.length<=h.length+1 by omega) (AObj.cells [.int .i64 0,.bool true,.bool x.lv,.int .i64 0,.string ⟨#[]⟩,.slice none 0 0] true)
      have B7_1:=gE (x:=AObj.cells [.int .i64 0,.bool true,.bool x.lv,.int .i64 0,.string ⟨#[]⟩,.slice none 0 0] true) B7_0
      have B4_1:=gNq (x:=AObj.cells [.int .i64 0,.bool true,.bool x.lv,.int .i64 0,.string ⟨#[]⟩,.slice none 0 0] true) B4_0 (show h.length+1≠h.length by omega)
      have K_2:=K_1.setN (show h.length<=h.length+1 by omega) (AObj.cells [.int .i64 ((s+1:Nat):Int),.bool true,.bool x.lv,.int .i64 0,.string ⟨#[]⟩,.slice none 0 0] true)
      have B7_2:=gE (x:=AObj.cells [.int .i64 ((s+1:Nat):Int),.bool true,.bool x.lv,.int .i64 0,.string ⟨#[]⟩,.slice none 0 0] true) B7_1
      have B4_2:=gNq (x:=AObj.cells [.int .i64 ((s+1:Nat):Int),.bool true,.bool x.lv,.int .i64 0,.string ⟨#[]⟩,.slice none 0 0] true) B4_1 (show h.length+1≠h.length by omega)
      have K_3:=K_2.setN (show h.length<=h.length+1 by omega) (AObj.cells [.int .i64 ((s+1:Nat):Int),.bool true,.bool x.lv,.int .i64 x.fk,.string x.ft,.slice none 0 0] true)
      have B7_3:=gE (x:=AObj.cells [.int .i64 ((s+1:Nat):Int),.bool true,.bool x.lv,.int .i64 x.fk,.string x.ft,.slice none 0 0] true) B7_2
      have B4_3:=gNq (x:=AObj.cells [.int .i64 ((s+1:Nat):Int),.bool true,.bool x.lv,.int .i64 x.fk,.string x.ft,.slice none 0 0] true) B4_2 (show h.length+1≠h.length by omega)
      exact⟨.slice none 0 0,_,pvF 0 Try.func46 (r13p.ta_110 r h.length (h.length+1) to t.tks.length k i si 0 0 n (n-1) ((s+1:Nat):Int) x.fk true x.lv x.ft [.int .i64 0,.bool true,.bool x.lv,.int .i64 0,.string ⟨#[]⟩,.slice none 0 0] [.int .i64 ((s+1:Nat):Int),.bool true,.bool x.lv,.int .i64 0,.string ⟨#[]⟩,.slice none 0 0] [.int .i64 ((s+1:Nat):Int),.bool true,.bool x.lv,.int .i64 x.fk,.string x.ft,.slice none 0 0] [] none 0 0 h h) ⟨rfl,q1,hd,q2,hd,p1,p2,p3 _ KA,S0,Len _ KA,Llv _ KA,lb7,st7 _ _ _ _ _ B7_0 (by simp) rfl,Lin _ K_1,Lin _ K_1,Ls _ K_1,st7 _ _ _ _ _ B7_1 (by simp) rfl,Len _ K_2,Lft _ K_2,st7 _ _ _ _ _ B7_2 (by simp) rfl,Lop _ K_3,ltF (by omega),aN B7_3 (by simp) rfl,st4 _ _ B4_3 rfl,aN (gE B4_3) (by simp) rfl,trivial⟩,K_3.setN (Nat.le_refl _) _,.inl ⟨rfl,rfl,rfl⟩⟩
     | some oo =>
      rw[hop] at Lop
      simp only[tkV,hinn,hen,lkN,if_true,if_false,Bool.false_eq_true]
      have B7_0:=B7
      have B4_0:=B4
      have K_0:=KB
      have K_1:=K_0.setN (show h.length<=h.length+1 by omega) (AObj.cells [.int .i64 0,.bool true,.bool x.lv,.int .i64 0,.string ⟨#[]⟩,.slice none 0 0] true)
      have B7_1:=gE (x:=AObj.cells [.int .i64 0,.bool true,.bool x.lv,.int .i64 0,.string ⟨#[]⟩,.slice none 0 0] true) B7_0
      have B4_1:=gNq (x:=AObj.cells [.int .i64 0,.bool true,.bool x.lv,.int .i64 0,.string ⟨#[]⟩,.slice none 0 0] true) B4_0 (show h.length+1≠h.length by omega)
      have K_2:=K_1.setN (show h.length<=h.length+1 by omega) (AObj.cells [.int .i64 ((s+1:Nat):Int),.bool true,.bool x.lv,.int .i64 0,.string ⟨#[]⟩,.slice none 0 0] true)
      have B7_2:=gE (x:=AObj.cells [.int .i64 ((s+1:Nat):Int),.bool true,.bool x.lv,.int .i64 0,.string ⟨#[]⟩,.slice none 0 0] true) B7_1
      have B4_2:=gNq (x:=AObj.cells [.int .i64 ((s+1:Nat):Int),.bool true,.bool x.lv,.int .i64 0,.string ⟨#[]⟩,.slice none 0 0] true) B4_1 (show h.length+1≠h.length by omega)
      have K_3:=K_2.setN (show h.length<=h.length+1 by omega) (AObj.cells [.int .i64 ((s+1:Nat):Int),.bool true,.bool x.lv,.int .i64 x.fk,.string x.ft,.slice none 0 0] true)
      have B7_3:=gE (x:=AObj.cells [.int .i64 ((s+1:Nat):Int),.bool true,.bool x.lv,.int .i64 x.fk,.string x.ft,.slice none 0 0] true) B7_2
      have B4_3:=gNq (x:=AObj.cells [.int .i64 ((s+1:Nat):Int),.bool true,.bool x.lv,.int .i64 x.fk,.string x.ft,.slice none 0 0] true) B4_2 (show h.length+1≠h.length by omega)
      obtain⟨E1,g',v',l1,l2,l3,l4,l5,l6⟩:=task_loop a hx hop (fun s hs=>ok.opn k x s hx hs) (by omega) x.opn.length 0 [(71,.int .i64 0),(70,.int .i64 (Int.ofNat x.opn.length)),(69,.slice (some ⟨oo,0,none⟩) x.opn.length 1),(7,ptr (h.length+1)),(4,ptr h.length)] _ (.slice none 0 0) (by omega) (EnvLe.refl _) K_3 B4_3 B7_3 (.inl ⟨rfl,rfl,rfl⟩)
      obtain⟨oa,la,za,hv'⟩:∃ oa la za,v'=.slice oa la za:=by rcases l6 with⟨_,_,e⟩ | ⟨_,_,o,e,_⟩<;>exact⟨_,_,_,e⟩
      subst hv'
      exact⟨.slice oa la za,_,pvF 0 Try.func46 (r13p.ta_111 r h.length (h.length+1) to t.tks.length k i si oo x.opn.length n (n-1) ((s+1:Nat):Int) x.fk true x.lv x.ft [.int .i64 0,.bool true,.bool x.lv,.int .i64 0,.string ⟨#[]⟩,.slice none 0 0] [.int .i64 ((s+1:Nat):Int),.bool true,.bool x.lv,.int .i64 0,.string ⟨#[]⟩,.slice none 0 0] [.int .i64 ((s+1:Nat):Int),.bool true,.bool x.lv,.int .i64 x.fk,.string x.ft,.slice none 0 0] [] oa la za h g') ⟨rfl,q1,hd,q2,hd,p1,p2,p3 _ KA,S0,Len _ KA,Llv _ KA,lb7,st7 _ _ _ _ _ B7_0 (by simp) rfl,Lin _ K_1,Lin _ K_1,Ls _ K_1,st7 _ _ _ _ _ B7_1 (by simp) rfl,Len _ K_2,Lft _ K_2,st7 _ _ _ _ _ B7_2 (by simp) rfl,Lop _ K_3,a_loop (by kernel_rfl) (.add (.add (.add (.add (.add (.nil _) rfl) rfl) rfl) rfl) rfl) l1 l2,aN l5 (by simp) rfl,st4 _ _ l4 rfl,aN (gE l4) (by simp) rfl,trivial⟩,l3.setN (Nat.le_refl _) _,l6.keep (Keep.set (fp:=fun q=>q=h.length) rfl _) (fun q e=>by omega)⟩
end
end Go.Proofs.Ytlonjogfeidgfaa.tr
namespace Go.Proofs.Ytlonjogfeidgfaa.tr
open Go Go.Ev
set_option maxRecDepth 100000
set_option linter.unusedVariables false
set_option linter.constructorNameAsVariable false
def nmL(l:List Nat):List Value:=l.map fun j=>.int .i64 ((j+1:Nat):Int)
theorem nmL_len(l:List Nat):(nmL l).length=l.length:=by simp[nmL]
theorem stat14(k:Nat)(hk:k=0\/k=1):(Asm.stat (drawN Try.f69 k)).holds Try.prog:=by
 rcases hk with rfl | rfl
 ·exact show statOk (drawN Try.f69 0)=true by kernel_rfl
 ·exact show statOk (drawN Try.f69 1)=true by kernel_rfl
section
variable {h:Hp} {ρ:Lay} {t:TS} {c r:Nat}
theorem scope_loop(a:TAt h ρ t){kk:Nat}{x:Sc}{oo:Nat}(hx:t.scs[kk]?=some x)(ho:ρ (.st kk)=some oo)(hin:∀ j,j∈x.tks->j<t.tks.length)(hlen:x.tks.length<=1000000){e0 e1 e2 e4 e5:Value}{z4:List Value} :
  ∀ (j i:Nat) (E:Env) (g:Hp) (v:Value),i+j=x.tks.length->EnvLe [(46,.int .i64 (i:Int)),(45,.int .i64 (Int.ofNat x.tks.length)),(44,.slice (some ⟨oo,0,none⟩) x.tks.length 1),(8,ptr (h.length+1)),(4,ptr h.length)] E ->
   Keep (fun _=>False) h g->g[h.length]?=some (.cells z4 true)->g[h.length+1]?=some (.cells [e0,e1,e2,v,e4,e5] true)->SlV g (h.length+2) v i 1 (nmL (x.tks.take i)) ->
   ∃ E1 g' v',EnvLe [(8,ptr (h.length+1)),(4,ptr h.length)] E1/\LRun Try.prog 61 false (loopN Try.f69 0) E g (.exit 0) E1 g'/\Keep (fun _=>False) h g'/\g'[h.length]?=some (.cells z4 true)/\g'[h.length+1]?=some (.cells [e0,e1,e2,v',e4,e5] true)/\SlV g' (h.length+2) v' x.tks.length 1 (nmL x.tks):=by
 intro j
 induction j with
 | zero =>
  intro i E g v hi hE K h4 h7 hv
  have e:i=x.tks.length:=by omega
  subst e
  rw[List.take_length] at hv
  obtain⟨E2,q1,q2⟩:=pvC 0 hE (r13p.sl_out (h.length+1) h.length oo x.tks.length 0 0 0 0 0 0 _ 0 0 [] [] [] g g) ⟨ltF (by simp),trivial⟩
  exact⟨E2,g,v,.trans (.add (.add (.nil _) rfl) rfl) q1,.last q2 (by simp),K,h4,h7,hv⟩
 | succ j ih =>
  intro i E g v hi hE K h4 h7 hv
  obtain⟨w,hw⟩:∃ w,x.tks[i]?=some w:=⟨_,List.getElem?_eq_getElem (by omega)⟩
  have ag:=a.grow K
  have hgl:=K.1
  have hwl:=hin w (List.mem_of_getElem? hw)
  obtain⟨wi,hwi⟩:=a.sh.tk w hwl
  obtain⟨y,hy⟩:∃ y,t.tks[w]?=some y:=⟨_,List.getElem?_eq_getElem hwl⟩
  have h7l:=get_lt h7
  have g1:(Asm.cmp .lss (i:Int) (Int.ofNat x.tks.length) true).holds Try.prog:=ltT (by simp;omega)
  have g2':(Asm.off i 0 (i:Int) x.tks.length 1).holds Try.prog:=offI (q:=i) rfl (by omega) (by omega)
  have g3:(Asm.ld1 (.is g) oo i (ptr wi)).holds Try.prog:=by
   have:=ag.ld1 (P:=Try.prog) (s:=.is g) rfl ho (d:=i) (v:=pvv (ρ (.tk w))) (by rw[cont_st hx,List.getElem?_map,hw];rfl)
   rwa [hwi] at this
  have g4:(Asm.arith .add .i64 (i:Int) 1 ((i+1:Nat):Int)).holds Try.prog:=addI rfl (by omega) (by omega)
  have gk:(Asm.ld1 (.is g) wi 0 (.int .i64 ((w+1:Nat):Int))).holds Try.prog:=ag.ld1 rfl hwi (by rw[cT hy];rfl)
  have gl:(Asm.ld1 (.is g) (h.length+1) 3 v).holds Try.prog:=aL h7 rfl
  rcases hv with⟨e0',e1',rfl⟩ | ⟨hn,hl,o,rfl,hob,hol⟩
  ·subst e0'
   obtain⟨E2,q1,q2⟩:=pvC 0 hE (r13p.sl_gon (h.length+1) h.length oo x.tks.length 0 wi 0 g.length (g.length+1) 0 _ ((0+1:Nat):Int) ((w+1:Nat):Int) [] [.int .i64 ((w+1:Nat):Int)] [e0,e1,e2,.slice (some ⟨g.length+1,0,none⟩) 1 1,e4,e5] g g)
    ⟨g1,g2',g3,stat14 1 (.inr rfl),gl,gk,rfl,a_appGN rfl rfl (by omega) (gW _ _) (pL _ _),a_st (gP (gP h7)) (by simp) rfl,g4,trivial⟩
   obtain⟨E3,g5,v',s1,s2,s3⟩:=ih 1 E2 ((g++[AObj.cells [.int .i64 ((w+1:Nat):Int)] true]++[AObj.cells [.int .i64 ((w+1:Nat):Int)] true]).set (h.length+1) (AObj.cells [e0,e1,e2,.slice (some ⟨g.length+1,0,none⟩) 1 1,e4,e5] true)) (.slice (some ⟨g.length+1,0,none⟩) 1 1) (by omega)
    (.trans (.add (.add (.add (.add (.add (.nil _) rfl) rfl) rfl) rfl) rfl) q1) (((K.pushN _).pushN _).setN (by omega) _) (gNq (gP (gP h4)) (by omega)) (gE (gP (gP h7)))
    (.inr ⟨by omega,by rw[take_one hw];simp[nmL],g.length+1,rfl,by rw[take_one hw];exact gNq (by simp[nmL]) (by omega),by omega⟩)
   exact⟨E3,g5,v',s1,.step q2 s2,s3⟩
  ·have hol2:=get_lt hob
   obtain⟨E2,q1,q2⟩:=pvC 0 hE (r13p.sl_gos (h.length+1) h.length oo x.tks.length i wi o g.length (g.length+1) i _ ((i+1:Nat):Int) ((w+1:Nat):Int) (nmL (x.tks.take i)++[.int .i64 ((w+1:Nat):Int)]) [.int .i64 ((w+1:Nat):Int)] [e0,e1,e2,.slice (some ⟨g.length+1,0,none⟩) (i+1) 1,e4,e5] g g)
    ⟨g1,g2',g3,stat14 1 (.inr rfl),gl,gk,rfl,a_appGS (b:=8) (z:=1) rfl rfl (by omega) (by omega) hl (gP hob) (gW _ _) (pL _ _),a_st (gP (gNq (gP h7) (by omega))) (by simp) rfl,g4,trivial⟩
   obtain⟨E3,g5,v',s1,s2,s3⟩:=ih (i+1) E2 (((g++[AObj.cells [.int .i64 ((w+1:Nat):Int)] true]).set o .dead++[AObj.cells (nmL (x.tks.take i)++[.int .i64 ((w+1:Nat):Int)]) true]).set (h.length+1) (AObj.cells [e0,e1,e2,.slice (some ⟨g.length+1,0,none⟩) (i+1) 1,e4,e5] true)) (.slice (some ⟨g.length+1,0,none⟩) (i+1) 1) (by omega)
    (.trans (.add (.add (.add (.add (.add (.nil _) rfl) rfl) rfl) rfl) rfl) q1) ((((K.pushN _).setN (by omega) _).pushN _).setN (by omega) _) (gNq (gP (gNq (gP h4) (by omega))) (by omega)) (gE (gP (gNq (gP h7) (by omega))))
    (.inr ⟨by omega,by rw[nmL_len,List.length_take];omega,g.length+1,rfl,by
     rw[take_one hw]
     refine gNq ?_ (by omega)
     rw[show nmL (x.tks.take i++[w])=nmL (x.tks.take i)++[.int .i64 ((w+1:Nat):Int)] by simp[nmL]]
     exact gV _ (by simp),by omega⟩)
   exact⟨E3,g5,v',s1,.step q2 s2,s3⟩
structure ScV where
 ow:Int
 su:Bool
 ov:Bool
 tk:List Nat
 fk:Int
 ft:ByteArray
def ScV.zero:ScV:=⟨0,false,false,[],0,⟨#[]⟩⟩
def scV(x:Sc):ScV:=⟨((x.ow+1:Nat):Int),x.su,x.ov,x.tks,x.fk,x.ft⟩
def ScV.C(w:ScV)(v:Value):List Value:=[.int .i64 w.ow,.bool w.su,.bool w.ov,v,.int .i64 w.fk,.string w.ft]
def TS.sco(t:TS)(n:Int):ScV×Int:=match t.scope n with
 | (some s,_)=>match t.scs[s]? with
  | some y=>(scV y,0)
  | none=>(.zero,6)
 | (none,_)=>(.zero,6)
theorem sco_run(a:TAt h ρ t)(ok:TOk c t)(hc:c<=100000)(hr:ρ .root=some r)(n:Int) :
  ∃ v h',Run Try.prog 69 [ptr r,.int .i64 n] h (.tuple #[.agg ((t.sco n).1.C v).toArray,.int .i64 (t.sco n).2]) h'/\Keep (fun _=>False) h h'/\SlV h' (h.length+2) v (t.sco n).1.tk.length 1 (nmL (t.sco n).1.tk):=by
 obtain⟨g1,hg1⟩:∃ g1,g1=h++[AObj.cells [.int .i64 0,.bool false,.bool false,.slice none 0 0,.int .i64 0,.string ⟨#[]⟩] true]:=⟨_,rfl⟩
 have K1:Keep (fun _=>False) h g1:=by rw[hg1];exact (Keep.refl (fun _=>False) h).pushN _
 have B4:g1[h.length]?=some (.cells [.int .i64 0,.bool false,.bool false,.slice none 0 0,.int .i64 0,.string ⟨#[]⟩] true):=by rw[hg1];exact gW _ _
 have l1:g1.length=h.length+1:=by rw[hg1];simp
 have R:=scope_run (a.grow K1) ok hr n
 have R':∀ v,Run Try.prog 72 [ptr r,.int .i64 n] g1 v g1->(Asm.call 72 [ptr r,.int .i64 n] (.push (.is h) (.cells [.int .i64 0,.bool false,.bool false,.slice none 0 0,.int .i64 0,.string ⟨#[]⟩] true)) v (.is g1)).holds Try.prog:=fun v hv=>by rw[hg1] at hv ⊢;exact hv
 have st4:∀ (s:SH) (l:List Value),s.den[h.length]?=some (.cells [.int .i64 0,.bool false,.bool false,.slice none 0 0,.int .i64 0,.string ⟨#[]⟩] true)->l.length=6->(Asm.st s h.length 0 l l).holds Try.prog:=fun s l e hl=>a_st e (by simp[hl]) (by simp[hl])
 rcases hq:t.scope n with⟨k | k,e⟩
 ·have e6:=scope_none hq
  subst e6
  rw[hq] at R
  have e':t.sco n=(.zero,6):=by simp only[TS.sco,hq]
  rw[e']
  exact⟨.slice none 0 0,_,pvF 0 Try.func69 (r13p.sc_err r h.length 0 0 0 0 0 n 6 0 0 false false ⟨#[]⟩ [] [] none 0 0 h g1 h) ⟨rfl,R' _ R,neT (by omega),st4 _ _ B4 rfl,aN (gE B4) (by simp) rfl,trivial⟩,K1.setN (Nat.le_refl _) _,.inl ⟨rfl,rfl,rfl⟩⟩
 ·obtain⟨rfl,hn,hk⟩:=scope_some hq
  obtain⟨y,hy⟩:∃ y,t.scs[k]?=some y:=⟨_,List.getElem?_eq_getElem hk⟩
  obtain⟨si,hs⟩:=a.sh.sc k hk
  have how:=ok.ow k y hy
  obtain⟨i,hi⟩:=a.sh.tk _ how
  obtain⟨x,hx⟩:∃ x,t.tks[y.ow]?=some x:=⟨_,List.getElem?_eq_getElem how⟩
  rw[hq] at R
  simp only[inP,hs,pvv] at R
  have e':t.sco n=(scV y,0):=by simp only[TS.sco,hq,hy]
  rw[e']
  have hml:=ok.mlen k y hy
  have ag:=a.grow K1
  have c8:∀ v,(Asm.st (.push (.is g1) (.cells [.int .i64 0,.bool false,.bool false,.slice none 0 0,.int .i64 0,.string ⟨#[]⟩] true)) (h.length+1) 0 [.int .i64 ((y.ow+1:Nat):Int),.bool y.su,.bool y.ov,v,.int .i64 y.fk,.string y.ft] [.int .i64 ((y.ow+1:Nat):Int),.bool y.su,.bool y.ov,v,.int .i64 y.fk,.string y.ft]).holds Try.prog:=fun v=>a_st (gV _ l1) (by simp) rfl
  have q1:(Asm.ld1 (.is g1) si 1 (ptr i)).holds Try.prog:=ag.ld1 rfl hs (by rw[cSq hy,scC,hi];rfl)
  have q2:(Asm.ld1 (.is g1) i 0 (.int .i64 ((y.ow+1:Nat):Int))).holds Try.prog:=ag.ld1 rfl hi (by rw[cT hx];rfl)
  have q3:(Asm.ld1 (.is g1) si 2 (.bool y.su)).holds Try.prog:=ag.ld1 rfl hs (by rw[cSq hy];rfl)
  have q4:(Asm.ld1 (.is g1) si 3 (.bool y.ov)).holds Try.prog:=ag.ld1 rfl hs (by rw[cSq hy];rfl)
  have q5:(Asm.ldn (.is g1) si 6 2 (fltC y.fk y.ft)).holds Try.prog:=ag.ldn rfl hs (by rw[cSq hy];simp[scC]) (by rw[cSq hy];rfl)
  obtain⟨g2,hg2⟩:∃ g2,g2=(g1++[AObj.cells [.int .i64 0,.bool false,.bool false,.slice none 0 0,.int .i64 0,.string ⟨#[]⟩] true]).set (h.length+1) (.cells [.int .i64 ((y.ow+1:Nat):Int),.bool y.su,.bool y.ov,.slice none 0 0,.int .i64 y.fk,.string y.ft] true):=⟨_,rfl⟩
  have K2:Keep (fun _=>False) h g2:=by rw[hg2];exact (K1.pushN _).setN (by omega) _
  have B8:g2[h.length+1]?=some (.cells [.int .i64 ((y.ow+1:Nat):Int),.bool y.su,.bool y.ov,.slice none 0 0,.int .i64 y.fk,.string y.ft] true):=by rw[hg2];exact gE (gV _ l1)
  have B42:g2[h.length]?=some (.cells [.int .i64 0,.bool false,.bool false,.slice none 0 0,.int .i64 0,.string ⟨#[]⟩] true):=by rw[hg2];exact gNq (gP B4) (by omega)
  have q6:(Asm.ld1 (.set (.push (.is g1) (.cells [.int .i64 0,.bool false,.bool false,.slice none 0 0,.int .i64 0,.string ⟨#[]⟩] true)) (h.length+1) (.cells [.int .i64 ((y.ow+1:Nat):Int),.bool y.su,.bool y.ov,.slice none 0 0,.int .i64 y.fk,.string y.ft] true)) si 4 (slv (ρ (.st k)) y.tks.length)).holds Try.prog:=(a.grow K2).ld1 (by rw[hg2];rfl) hs (by rw[cSq hy];rfl)
  cases hst:ρ (.st k) with
  | none =>
   have h0:=a.sh.st k y hy hst
   rw[hst,h0] at q6
   simp only[scV,h0]
   refine⟨.slice none 0 0,_,pvF 0 Try.func69 (r13p.sc_0 r h.length (h.length+1) si i 0 0 n 0 ((y.ow+1:Nat):Int) y.fk y.su y.ov y.ft [.int .i64 ((y.ow+1:Nat):Int),.bool y.su,.bool y.ov,.slice none 0 0,.int .i64 y.fk,.string y.ft] [] none 0 0 h g1 h) ⟨rfl,R' _ R,neF rfl,stat14 0 (.inl rfl),q1,q2,q3,q4,q5,l1,c8 _,q6,ltF (by omega),
    aN (gE (gV _ l1)) (by simp) rfl,st4 _ _ (gNq (gP B4) (by omega)) rfl,aN (gE (gNq (gP B4) (by omega))) (by simp) rfl,trivial⟩,((K1.pushN _).setN (by omega) _).setN (Nat.le_refl _) _,.inl ⟨rfl,rfl,rfl⟩⟩
  | some oo =>
   rw[hst] at q6
   obtain⟨E1,g',v',m1,m2,m3,m4,m5,m6⟩:=scope_loop a hy hst (fun j hj=>ok.mem k y j hy hj) (by omega) y.tks.length 0 [(46,.int .i64 0),(45,.int .i64 (Int.ofNat y.tks.length)),(44,.slice (some ⟨oo,0,none⟩) y.tks.length 1),(8,ptr (h.length+1)),(4,ptr h.length)] g2 (.slice none 0 0) (by omega) (EnvLe.refl _) K2 B42 B8 (.inl ⟨rfl,rfl,rfl⟩)
   obtain⟨oa,la,za,hv'⟩:∃ oa la za,v'=.slice oa la za:=by rcases m6 with⟨_,_,e⟩ | ⟨_,_,o,e,_⟩<;>exact⟨_,_,_,e⟩
   subst hv'
   rw[hg2] at m2
   exact⟨.slice oa la za,_,pvF 0 Try.func69 (r13p.sc_1 r h.length (h.length+1) si i oo y.tks.length n 0 ((y.ow+1:Nat):Int) y.fk y.su y.ov y.ft [.int .i64 ((y.ow+1:Nat):Int),.bool y.su,.bool y.ov,.slice none 0 0,.int .i64 y.fk,.string y.ft] [] oa la za h g1 g') ⟨rfl,R' _ R,neF rfl,stat14 0 (.inl rfl),q1,q2,q3,q4,q5,l1,c8 _,q6,
    a_loop (by kernel_rfl) (.add (.add (.add (.add (.add (.nil _) rfl) rfl) rfl) rfl) rfl) m1 m2,aN m5 (by simp) rfl,st4 _ _ m4 rfl,aN (gE m4) (by simp) rfl,trivial⟩,m3.setN (Nat.le_refl _) _,m6.keep (Keep.set (fp:=fun q=>q=h.length) rfl _) (fun q e=>by omega)⟩
end
end Go.Proofs.Ytlonjogfeidgfaa.tr
namespace Go.Proofs.Ytlonjogfeidgfaa.tr
open Go Go.Ev
set_option maxRecDepth 100000
set_option linter.unusedVariables false
set_option linter.constructorNameAsVariable false
structure Ob(lo:Nat)(h:Hp)(σ:Lay)(C:Rl->List Value):Prop where
 inj:∀ r r' i,σ r=some i->σ r'=some i->r=r'
 obj:∀ r i,σ r=some i->h[i]?=some (.cells (C r) true)
 lo:∀ r i,σ r=some i->lo<=i
theorem Ob.lt{lo:Nat}{h:Hp}{σ:Lay}{C:Rl->List Value}(a:Ob lo h σ C){r:Rl}{i:Nat}(e:σ r=some i):i<h.length:=get_lt (a.obj r i e)
theorem Ob.keep{lo:Nat}{h h':Hp}{σ:Lay}{C:Rl->List Value}{fp:Nat->Prop}(a:Ob lo h σ C)(K:Keep fp h h')(hf:∀ q,fp q->¬ fpT σ q):Ob lo h' σ C :=
 ⟨a.inj,fun r i e=>K.2 _ _ (a.obj r i e) fun q=>hf i q ⟨r,e⟩,a.lo⟩
theorem Ob.grow{lo:Nat}{h h':Hp}{σ:Lay}{C:Rl->List Value}(a:Ob lo h σ C)(K:Keep (fun _=>False) h h'):Ob lo h' σ C:=a.keep K fun _ e=>e.elim
theorem Ob.upd{lo:Nat}{h h':Hp}{σ σ':Lay}{C C':Rl->List Value}{fp:Nat->Prop}(a:Ob lo h σ C)(D:Rl->Prop)(K:Keep fp h h')(hfp:∀ r q,σ r=some q->fp q->D r)
  (same:∀ r,¬ D r->σ' r=σ r/\(σ r≠none->C r=C' r))
  (new:∀ r i,D r->σ' r=some i->h'[i]?=some (.cells (C' r) true)/\lo<=i/\∀ r',σ' r'=some i->r'=r):Ob lo h' σ' C':=by
 refine⟨fun r r' i e e'=>?_,fun r i e=>?_,fun r i e=>?_⟩
 ·by_cases d:D r
  ·exact ((new r i d e).2.2 r' e').symm
  ·by_cases d':D r'
   ·exact (new r' i d' e').2.2 r e
   ·rw[(same r d).1] at e
    rw[(same r' d').1] at e'
    exact a.inj r r' i e e'
 ·by_cases d:D r
  ·exact (new r i d e).1
  ·obtain⟨s1,s2⟩:=same r d
   rw[s1] at e
   rw[<- s2 (by rw[e];simp)]
   exact K.2 _ _ (a.obj r i e) fun f=>d (hfp r i e f)
 ·by_cases d:D r
  ·exact (new r i d e).2.1
  ·rw[(same r d).1] at e
   exact a.lo r i e
theorem slv_ex(o:Option Nat)(n:Nat)(h:o=none->n=0):∃ oa za,slv o n=.slice oa n za/\∀ i,o=some i->oa=some ⟨i,0,none⟩/\za=1:=by
 cases o with
 | none=>rw[h rfl];exact⟨none,0,rfl,fun i e=>by cases e⟩
 | some i=>exact⟨_,1,rfl,fun j e=>by cases e;exact⟨rfl,rfl⟩⟩
theorem slv_any(o:Option Nat)(n:Nat):∃ oa la za,slv o n=.slice oa la za:=by cases o<;>exact⟨_,_,_,rfl⟩
theorem inP_any(ρ:Lay)(v:Option Nat):∃ p,inP ρ v=.pointer p:=by
 cases v with
 | none=>exact⟨_,rfl⟩
 | some s=>simp only[inP];cases ρ (.sc s)<;>exact⟨_,rfl⟩
def cL(ρ σ:Lay)(t:TS)(i j m:Nat):Rl->List Value
 | .root=>[slv (σ .ts) i,slv (σ .ss) j]
 | .ts=>(List.range i).map fun k=>pvv (σ (.tk k))
 | .ss=>(List.range j).map fun k=>pvv (σ (.sc k))
 | .tk k=>match t.tks[k]? with
  | some x=>if k<m then tkC σ k x else tkC ρ k x
  | none=>[]
 | .op k=>match t.tks[k]? with
  | some x=>x.opn.map (inP σ)
  | none=>[]
 | .sc k=>match t.scs[k]? with
  | some x=>scC σ k x
  | none=>[]
 | .st k=>match t.scs[k]? with
  | some x=>x.tks.map fun j=>pvv (σ (.tk j))
  | none=>[]
structure Dm(σ:Lay)(t:TS)(i j m:Nat):Prop where
 tk:∀ k,k<i->∃ q,σ (.tk k)=some q
 sc:∀ k,k<j->∃ q,σ (.sc k)=some q
 ts:σ .ts=none->i=0
 ss:σ .ss=none->j=0
 op:∀ (k:Nat) x,k<m->t.tks[k]?=some x->σ (.op k)=none->x.opn=[]
 st:∀ (k:Nat) x,k<j->t.scs[k]?=some x->σ (.st k)=none->x.tks=[]
 otk:∀ k,i<=k->σ (.tk k)=none
 oop:∀ k,m<=k->σ (.op k)=none
 osc:∀ k,j<=k->σ (.sc k)=none/\σ (.st k)=none
section
variable {h:Hp} {ρ:Lay} {t:TS} {c r b:Nat} {oa:Option Addr} {za:Nat}
theorem copy0(a:TAt h ρ t)(ok:TOk c t)(hr:ρ .root=some r)(hts:∀ i,ρ .ts=some i->oa=some ⟨i,0,none⟩/\za=1) :
  ∀ (j i:Nat) (E:Env) (g:Hp) (σ:Lay),i+j=t.tks.length->EnvLe [(25,.int .i64 (i:Int)),(24,.int .i64 (Int.ofNat t.tks.length)),(23,.slice oa t.tks.length za),(3,ptr b),(0,ptr r)] E ->
   Keep (fun _=>False) h g->Ob h.length g σ (cL ρ σ t i 0 0)->Dm σ t i 0 0->σ .root=some b ->
   ∃ E1 g' σ',EnvLe [(3,ptr b),(0,ptr r)] E1/\LRun Try.prog 177 false (loopN Try.f57 0) E g (.exit 0) E1 g'/\Keep (fun _=>False) h g'/\Ob h.length g' σ' (cL ρ σ' t t.tks.length 0 0)/\Dm σ' t t.tks.length 0 0/\σ' .root=some b:=by
 intro j
 induction j with
 | zero =>
  intro i E g σ hi hE K O D hb
  have e:i=t.tks.length:=by omega
  subst e
  obtain⟨E2,q1,q2⟩:=pvC 0 hE (r27p.c0_out none none 0 0 0 false false 0 ⟨#[]⟩ r b 0 0 0 0 0 0 0 oa t.tks.length za 0 t.tks.length 0 [] [] [] [] g) ⟨ltF (by simp),trivial⟩
  exact⟨E2,g,σ,.trans (.add (.add (.nil _) rfl) rfl) q1,.last q2 (by simp),K,O,D,hb⟩
 | succ j ih =>
  intro i E g σ hi hE K O D hb
  have n64:=ok.n64
  have il:i<t.tks.length:=by omega
  obtain⟨x,hx⟩:∃ x,t.tks[i]?=some x:=⟨_,List.getElem?_eq_getElem il⟩
  obtain⟨xi,hxi⟩:=a.sh.tk i il
  obtain⟨to,hto⟩:=a.sh.ts' il
  obtain⟨rfl,rfl⟩:=hts to hto
  obtain⟨pin,hpin⟩:=inP_any ρ x.inn
  obtain⟨op,lp,zp,hop⟩:=slv_any (ρ (.op i)) x.opn.length
  have hC:tkC ρ i x=[.int .i64 ((i+1:Nat):Int),.pointer pin,.slice op lp zp,.bool x.lv,.bool x.en,.int .i64 x.fk,.string x.ft]:=by rw[tkC,hpin,hop]
  have bl:=O.lt hb
  have blo:=O.lo _ _ hb
  have Ki:=K.1
  have ag:=a.grow K
  have ob:=O.obj _ _ hb
  have A1:(Asm.cmp .lss (i:Int) (Int.ofNat t.tks.length) true).holds Try.prog:=ltT (by simp;omega)
  have A2:(Asm.off i 0 (i:Int) t.tks.length 1).holds Try.prog:=offI (q:=i) rfl il (by omega)
  have A3:(Asm.ld1 (.is g) to i (ptr xi)).holds Try.prog:=by
   have:=ag.ld1 (P:=Try.prog) (s:=.is g) rfl hto (cont_ts il)
   rwa [hxi] at this
  have A4:(Asm.ldn (.is g) xi 0 7 (tkC ρ i x)).holds Try.prog:=ag.ldn rfl hxi (by rw[cT hx];simp[tkC]) (by rw[cT hx];rfl)
  have A9:(Asm.arith .add .i64 (i:Int) 1 ((i+1:Nat):Int)).holds Try.prog:=addI rfl (by omega) (by omega)
  rw[hC] at A4
  cases ht:σ .ts with
  | none =>
   have i0:=D.ts ht
   subst i0
   have hd:=ob
   rw[show cL ρ σ t 0 0 0 .root=[.slice none 0 0,slv (σ .ss) 0] by simp only[cL,ht,slv]] at hd
   obtain⟨g',hg'⟩:∃ g',g'=((((g++[AObj.cells [.int .i64 0,.pointer none,.slice none 0 0,.bool false,.bool false,.int .i64 0,.string ⟨#[]⟩] true]).set g.length (.cells (tkC ρ 0 x) true))++[AObj.cells [ptr g.length] true])++[AObj.cells [ptr g.length] true]).set b (.cells [.slice (some ⟨g.length+2,0,none⟩) 1 1,slv (σ .ss) 0] true):=⟨_,rfl⟩
   have Kg:Keep (fun q=>q=b) g g':=by
    rw[hg']
    exact (((((Keep.refl (fun _=>False) g).pushN _).setN (Nat.le_refl _) _).pushN _).pushN _ |>.mono fun _ _ e=>e.elim).trans (Keep.set (fp:=fun q=>q=b) rfl _)
   obtain⟨E2,q1,q2⟩:=pvC 0 hE (r27p.c0_gon pin op lp zp ((0+1:Nat):Int) x.lv x.en x.fk x.ft r b to 0 xi g.length (g.length+1) (g.length+2) 0 none t.tks.length 1 0 (0:Nat) ((0+1:Nat):Int) (tkC ρ 0 x) [ptr g.length] [] [.slice (some ⟨g.length+2,0,none⟩) 1 1,slv (σ .ss) 0] g)
    ⟨A1,A2,A3,A4,rfl,a_st (gW _ _) (by simp) (by rw[hC];rfl),aL (gNq (gP hd) (by omega)) rfl,by simp[Asm.holds,SH.den],a_appGN rfl rfl (by omega) (gV _ (by simp[SH.den])) (by simp[SH.den]),a_st (gP (gP (gNq (gP hd) (by omega)))) (by simp) rfl,A9,trivial⟩
   obtain⟨σ',hσ⟩:∃ σ',σ'=put2 σ .ts (g.length+2) (.tk 0) g.length:=⟨_,rfl⟩
   have s1:σ' .ts=some (g.length+2):=by rw[hσ];exact put2_1
   have s2:σ' (.tk 0)=some g.length:=by rw[hσ];exact put2_2 (by simp)
   have so:∀ r,r≠.ts->r≠.tk 0->σ' r=σ r:=fun r h1 h2=>by rw[hσ];exact put2_o h1 h2
   have sb:σ' .root=some b:=by rw[so _ (by simp) (by simp)];exact hb
   have inv:∀ r q,σ' r=some q->r≠.ts->r≠.tk 0->q<g.length:=fun r q e h1 h2=>by rw[so r h1 h2] at e;exact O.lt e
   have O':Ob h.length g' σ' (cL ρ σ' t (0+1) 0 0):=by
    refine O.upd (fun r=>r=.root\/r=.ts\/r=.tk 0) Kg (fun r q e f=>by subst f;exact .inl (O.inj _ _ _ e hb)) (fun r d=>?_) (fun r q d e=>?_)
    ·have d1:r≠.root:=fun e=>d (.inl e)
     have d2:r≠.ts:=fun e=>d (.inr (.inl e))
     have d3:r≠.tk 0:=fun e=>d (.inr (.inr e))
     refine⟨so r d2 d3,fun hn=>?_⟩
     cases r with
     | root=>exact absurd rfl d1
     | ts=>exact absurd rfl d2
     | ss=>rfl
     | tk k=>simp[cL]
     | op k=>exact absurd (D.oop k (Nat.zero_le _)) hn
     | sc k=>exact absurd (D.osc k (Nat.zero_le _)).1 hn
     | st k=>exact absurd (D.osc k (Nat.zero_le _)).2 hn
    ·rcases d with rfl | rfl | rfl
     ·rw[sb] at e;cases e
      refine⟨?_,blo,fun r' e'=>?_⟩
      ·rw[show cL ρ σ' t (0+1) 0 0 .root=[.slice (some ⟨g.length+2,0,none⟩) 1 1,slv (σ .ss) 0] by simp only[cL,s1,so .ss (by simp) (by simp),slv]]
       rw[hg']
       exact gE (gP (gP (gNq (gP hd) (by omega))))
      ·by_cases r1:r'=.ts
       ·subst r1;rw[s1] at e';cases e';omega
       ·by_cases r2:r'=.tk 0
        ·subst r2;rw[s2] at e';cases e';omega
        ·rw[so r' r1 r2] at e';exact O.inj _ _ _ e' hb
     ·rw[s1] at e;cases e
      refine⟨?_,by omega,fun r' e'=>?_⟩
      ·rw[show cL ρ σ' t (0+1) 0 0 .ts=[ptr g.length] by simp[cL,s2,pvv]]
       rw[hg']
       exact gNq (gV _ (by simp)) (by omega)
      ·by_cases r1:r'=.ts
       ·exact r1
       ·by_cases r2:r'=.tk 0
        ·subst r2;rw[s2] at e';simp at e'
        ·have:=inv r' _ e' r1 r2;omega
     ·rw[s2] at e;cases e
      refine⟨?_,by omega,fun r' e'=>?_⟩
      ·rw[show cL ρ σ' t (0+1) 0 0 (.tk 0)=tkC ρ 0 x by simp[cL,hx]]
       rw[hg']
       exact gNq (gP (gP (gE (gW _ _)))) (by omega)
      ·by_cases r1:r'=.ts
       ·subst r1;rw[s1] at e';simp at e'
       ·by_cases r2:r'=.tk 0
        ·exact r2
        ·have:=inv r' _ e' r1 r2;omega
   have D':Dm σ' t (0+1) 0 0:=by
    refine⟨fun k hk=>?_,fun k hk=>absurd hk (Nat.not_lt_zero _),fun e=>(by rw[s1] at e;cases e),fun e=>rfl,fun k x hk=>absurd hk (Nat.not_lt_zero _),fun k x hk=>absurd hk (Nat.not_lt_zero _),fun k hk=>?_,fun k hk=>?_,fun k hk=>?_⟩
    ·have:k=0:=by omega
     subst this;exact⟨_,s2⟩
    ·rw[so _ (by simp) (by intro e;cases e;omega)];exact D.otk k (by omega)
    ·rw[so _ (by simp) (by simp)];exact D.oop k hk
    ·rw[so _ (by simp) (by simp),so _ (by simp) (by simp)];exact D.osc k hk
   obtain⟨E3,g3,σ3,w1,w2,w3,w4,w5,w6⟩:=ih (0+1) E2 g' σ' (by omega) (.trans (.add (.add (.add (.add (.add (.nil _) rfl) rfl) rfl) rfl) rfl) q1) (K.trans_new Kg fun q hq e=>by omega) O' D' sb
   refine⟨E3,g3,σ3,w1,.step q2 ?_,w3,w4,w5,w6⟩
   rw[hg'] at w2
   exact w2
  | some to' =>
   have tl:=O.lt ht
   have tlo:=O.lo _ _ ht
   have ot:=O.obj _ _ ht
   have ntb:to'≠b:=fun e=>by subst e;cases O.inj _ _ _ ht hb
   obtain⟨cs,hcs⟩:∃ cs,cs=(List.range i).map fun k=>pvv (σ (.tk k)):=⟨_,rfl⟩
   have csl:cs.length=i*1:=by rw[hcs];simp
   rw[show cL ρ σ t i 0 0 .ts=cs by rw[hcs];rfl] at ot
   have hd:=ob
   rw[show cL ρ σ t i 0 0 .root=[.slice (some ⟨to',0,none⟩) i 1,slv (σ .ss) 0] by simp only[cL,ht,slv]] at hd
   obtain⟨g',hg'⟩:∃ g',g'=((((g++[AObj.cells [.int .i64 0,.pointer none,.slice none 0 0,.bool false,.bool false,.int .i64 0,.string ⟨#[]⟩] true]).set g.length (.cells (tkC ρ i x) true))++[AObj.cells [ptr g.length] true]).set to' .dead++[AObj.cells (cs++[ptr g.length]) true]).set b (.cells [.slice (some ⟨g.length+2,0,none⟩) (i+1) 1,slv (σ .ss) 0] true):=⟨_,rfl⟩
   have Kg:Keep (fun q=>q=b\/q=to') g g':=by
    rw[hg']
    exact ((((((Keep.refl (fun _=>False) g).pushN _).setN (Nat.le_refl _) _).pushN _ |>.mono fun _ _ e=>e.elim).trans (Keep.set (fp:=fun q=>q=b\/q=to') (.inr rfl) _)).trans (Keep.push _ _ _)).trans (Keep.set (.inl rfl) _)
   obtain⟨E2,q1,q2⟩:=pvC 0 hE (r27p.c0_gos pin op lp zp ((i+1:Nat):Int) x.lv x.en x.fk x.ft r b to i xi g.length (g.length+1) (g.length+2) to' none t.tks.length 1 i i ((i+1:Nat):Int) (tkC ρ i x) [ptr g.length] (cs++[ptr g.length]) [.slice (some ⟨g.length+2,0,none⟩) (i+1) 1,slv (σ .ss) 0] g)
    ⟨A1,A2,A3,A4,rfl,a_st (gW _ _) (by simp) (by rw[hC];rfl),aL (gNq (gP hd) (by omega)) rfl,by simp[Asm.holds,SH.den],a_appGS rfl rfl (by omega) (by omega) csl (gP (gNq (gP ot) (by omega))) (gV _ (by simp[SH.den])) (by simp[SH.den]),a_st (gP (gNq (gP (gNq (gP hd) (by omega))) ntb)) (by simp) rfl,A9,trivial⟩
   obtain⟨σ',hσ⟩:∃ σ',σ'=put2 σ .ts (g.length+2) (.tk i) g.length:=⟨_,rfl⟩
   have s1:σ' .ts=some (g.length+2):=by rw[hσ];exact put2_1
   have s2:σ' (.tk i)=some g.length:=by rw[hσ];exact put2_2 (by simp)
   have so:∀ r,r≠.ts->r≠.tk i->σ' r=σ r:=fun r h1 h2=>by rw[hσ];exact put2_o h1 h2
   have sb:σ' .root=some b:=by rw[so _ (by simp) (by simp)];exact hb
   have inv:∀ r q,σ' r=some q->r≠.ts->r≠.tk i->q<g.length:=fun r q e h1 h2=>by rw[so r h1 h2] at e;exact O.lt e
   have O':Ob h.length g' σ' (cL ρ σ' t (i+1) 0 0):=by
    refine O.upd (fun r=>r=.root\/r=.ts\/r=.tk i) Kg (fun r q e f=>by
     rcases f with rfl | rfl
     ·exact .inl (O.inj _ _ _ e hb)
     ·exact .inr (.inl (O.inj _ _ _ e ht))) (fun r d=>?_) (fun r q d e=>?_)
    ·have d1:r≠.root:=fun e=>d (.inl e)
     have d2:r≠.ts:=fun e=>d (.inr (.inl e))
     have d3:r≠.tk i:=fun e=>d (.inr (.inr e))
     refine⟨so r d2 d3,fun hn=>?_⟩
     cases r with
     | root=>exact absurd rfl d1
     | ts=>exact absurd rfl d2
     | ss=>rfl
     | tk k=>simp[cL]
     | op k=>exact absurd (D.oop k (Nat.zero_le _)) hn
     | sc k=>exact absurd (D.osc k (Nat.zero_le _)).1 hn
     | st k=>exact absurd (D.osc k (Nat.zero_le _)).2 hn
    ·rcases d with rfl | rfl | rfl
     ·rw[sb] at e;cases e
      refine⟨?_,blo,fun r' e'=>?_⟩
      ·rw[show cL ρ σ' t (i+1) 0 0 .root=[.slice (some ⟨g.length+2,0,none⟩) (i+1) 1,slv (σ .ss) 0] by simp only[cL,s1,so .ss (by simp) (by simp),slv]]
       rw[hg']
       exact gE (gP (gNq (gP (gNq (gP hd) (by omega))) ntb))
      ·by_cases r1:r'=.ts
       ·subst r1;rw[s1] at e';cases e';omega
       ·by_cases r2:r'=.tk i
        ·subst r2;rw[s2] at e';cases e';omega
        ·rw[so r' r1 r2] at e';exact O.inj _ _ _ e' hb
     ·rw[s1] at e;cases e
      refine⟨?_,by omega,fun r' e'=>?_⟩
      ·rw[show cL ρ σ' t (i+1) 0 0 .ts=cs++[ptr g.length] by
        simp only[cL,List.range_succ,List.map_append,List.map_cons,List.map_nil,s2,pvv]
        rw[hcs]
        congr 1
        refine List.map_congr_left fun k hk=>?_
        rw[List.mem_range] at hk
        rw[so (.tk k) (by simp) (by intro e;cases e;omega)]
        rfl]
       rw[hg']
       exact gNq (gV _ (by simp)) (by omega)
      ·by_cases r1:r'=.ts
       ·exact r1
       ·by_cases r2:r'=.tk i
        ·subst r2;rw[s2] at e';simp at e'
        ·have:=inv r' _ e' r1 r2;omega
     ·rw[s2] at e;cases e
      refine⟨?_,by omega,fun r' e'=>?_⟩
      ·rw[show cL ρ σ' t (i+1) 0 0 (.tk i)=tkC ρ i x by simp[cL,hx]]
       rw[hg']
       exact gNq (gP (gNq (gP (gE (gW _ _))) (by omega))) (by omega)
      ·by_cases r1:r'=.ts
       ·subst r1;rw[s1] at e';simp at e'
       ·by_cases r2:r'=.tk i
        ·exact r2
        ·have:=inv r' _ e' r1 r2;omega
   have D':Dm σ' t (i+1) 0 0:=by
    refine⟨fun k hk=>?_,fun k hk=>absurd hk (Nat.not_lt_zero _),fun e=>(by rw[s1] at e;cases e),fun e=>rfl,fun k x hk=>absurd hk (Nat.not_lt_zero _),fun k x hk=>absurd hk (Nat.not_lt_zero _),fun k hk=>?_,fun k hk=>?_,fun k hk=>?_⟩
    ·by_cases e:k=i
     ·subst e;exact⟨_,s2⟩
     ·rw[so _ (by simp) (by intro e';cases e';exact e rfl)];exact D.tk k (by omega)
    ·rw[so _ (by simp) (by intro e;cases e;omega)];exact D.otk k (by omega)
    ·rw[so _ (by simp) (by simp)];exact D.oop k hk
    ·rw[so _ (by simp) (by simp),so _ (by simp) (by simp)];exact D.osc k hk
   obtain⟨E3,g3,σ3,w1,w2,w3,w4,w5,w6⟩:=ih (i+1) E2 g' σ' (by omega) (.trans (.add (.add (.add (.add (.add (.nil _) rfl) rfl) rfl) rfl) rfl) q1) (K.trans_new Kg fun q hq e=>by omega) O' D' sb
   refine⟨E3,g3,σ3,w1,.step q2 ?_,w3,w4,w5,w6⟩
   rw[hg'] at w2
   exact w2
end
end Go.Proofs.Ytlonjogfeidgfaa.tr
namespace Go.Proofs.Ytlonjogfeidgfaa.tr
open Go Go.Ev
set_option maxRecDepth 100000
set_option linter.unusedVariables false
set_option linter.constructorNameAsVariable false
theorem stat20(k:Nat)(hk:k=0\/k=1\/k=2\/k=3):(Asm.stat (drawN Try.f57 k)).holds Try.prog:=by
 rcases hk with rfl | rfl | rfl | rfl
 ·exact show statOk (drawN Try.f57 0)=true by kernel_rfl
 ·exact show statOk (drawN Try.f57 1)=true by kernel_rfl
 ·exact show statOk (drawN Try.f57 2)=true by kernel_rfl
 ·exact show statOk (drawN Try.f57 3)=true by kernel_rfl
section
variable {h:Hp} {ρ:Lay} {t:TS} {c r b:Nat} {oa:Option Addr} {za:Nat}
def cpS(σ:Lay)(l:List Nat):List Value:=l.map fun w=>pvv (σ (.tk w))
theorem copy2(a:TAt h ρ t)(ok:TOk c t)(hc:c<=100000){jj d:Nat}{y:Sc}{g0:Hp}{σ:Lay}{u47 u46 u45 e0 e1 e2 e3 e5 e6 e7:Value}(hy:t.scs[jj]?=some y)(hst:∀ i,ρ (.st jj)=some i->oa=some ⟨i,0,none⟩/\za=1)(hst0:ρ (.st jj)=none->y.tks.length=0)
  (O:Ob h.length g0 σ (cL ρ σ t t.tks.length jj 0)) (D:Dm σ t t.tks.length jj 0) (hb:σ .root=some b) (K0:Keep (fun _=>False) h g0) (hd:d=g0.length) :
  ∀ (j i:Nat) (E:Env) (g:Hp) (v:Value),i+j=y.tks.length->EnvLe [(75,.int .i64 (i:Int)),(74,.int .i64 (Int.ofNat y.tks.length)),(73,.slice oa y.tks.length za),(9,ptr d),(47,u47),(46,u46),(45,u45),(3,ptr b),(0,ptr r)] E ->
   Keep (fun _=>False) g0 g->g[d]?=some (.cells [e0,e1,e2,e3,v,e5,e6,e7] true)->SlV g (d+1) v i 1 (cpS σ (y.tks.take i)) ->
   ∃ E1 g' v',EnvLe [(9,ptr d),(47,u47),(46,u46),(45,u45),(3,ptr b),(0,ptr r)] E1/\LRun Try.prog 177 false (loopN Try.f57 2) E g (.exit 4) E1 g'/\Keep (fun _=>False) g0 g'/\g'[d]?=some (.cells [e0,e1,e2,e3,v',e5,e6,e7] true)/\SlV g' (d+1) v' y.tks.length 1 (cpS σ y.tks):=by
 intro j
 induction j with
 | zero =>
  intro i E g v hi hE K hgd hv
  have e:i=y.tks.length:=by omega
  subst e
  rw[List.take_length] at hv
  obtain⟨E2,q1,q2⟩:=pvC 0 hE (r27p.c2_out r b 0 0 d 0 0 0 0 0 0 0 0 oa y.tks.length za 0 y.tks.length 0 0 0 u47 u46 u45 [] [] [] g) ⟨ltF (by simp),trivial⟩
  exact⟨E2,g,v,.trans (.add (.add (.add (.add (.add (.add (.nil _) rfl) rfl) rfl) rfl) rfl) rfl) q1,.last q2 (by simp),K,hgd,hv⟩
 | succ j ih =>
  intro i E g v hi hE K hgd hv
  have n64:=ok.n64
  obtain⟨w,hw⟩:∃ w,y.tks[i]?=some w:=⟨_,List.getElem?_eq_getElem (by omega)⟩
  have hml:=ok.mlen jj y hy
  have hwl:=ok.mem jj y w hy (List.mem_of_getElem? hw)
  obtain⟨x,hx⟩:∃ x,t.tks[w]?=some x:=⟨_,List.getElem?_eq_getElem hwl⟩
  obtain⟨wi,hwi⟩:=a.sh.tk w hwl
  obtain⟨ci,hci⟩:=D.tk w hwl
  cases hs:ρ (.st jj) with
  | none=>have:=hst0 hs;omega
  | some so =>
  obtain⟨rfl,rfl⟩:=hst so hs
  cases hts:σ .ts with
  | none=>have:=D.ts hts;omega
  | some to =>
  have ag:=a.grow (K0.trans K)
  have Og:=O.grow K
  have ob:=Og.obj _ _ hb
  rw[show cL ρ σ t t.tks.length jj 0 .root=[.slice (some ⟨to,0,none⟩) t.tks.length 1,slv (σ .ss) jj] by simp only[cL,hts,slv]] at ob
  have ot:=Og.obj _ _ hts
  have K0l:=K0.1
  have Kl:=K.1
  have dl:=get_lt hgd
  have ctl:(cL ρ σ t t.tks.length jj 0 .ts)[w]?=some (ptr ci):=by simp[cL,hwl,hci,pvv]
  have A1:(Asm.cmp .lss (i:Int) (Int.ofNat y.tks.length) true).holds Try.prog:=ltT (by simp;omega)
  have A2:(Asm.off i 0 (i:Int) y.tks.length 1).holds Try.prog:=offI (q:=i) rfl (by omega) (by omega)
  have A3:(Asm.ld1 (.is g) so i (ptr wi)).holds Try.prog:=by
   have:=ag.ld1 (P:=Try.prog) (s:=.is g) rfl hs (d:=i) (v:=pvv (ρ (.tk w))) (by rw[cont_st hy,List.getElem?_map,hw];rfl)
   rwa [hwi] at this
  have A5:(Asm.ld1 (.is g) d 4 v).holds Try.prog:=aL hgd rfl
  have A6:(Asm.ld1 (.is g) b 0 (.slice (some ⟨to,0,none⟩) t.tks.length 1)).holds Try.prog:=aL ob rfl
  have A7:(Asm.ld1 (.is g) wi 0 (.int .i64 ((w+1:Nat):Int))).holds Try.prog:=ag.ld1 rfl hwi (by rw[cT hx];rfl)
  have A8:(Asm.arith .sub .i64 ((w+1:Nat):Int) 1 (w:Int)).holds Try.prog:=subI (by omega) (by omega) (by omega)
  have A9:(Asm.off w 0 (w:Int) t.tks.length 1).holds Try.prog:=offI (q:=w) rfl hwl (by omega)
  have A10:(Asm.ld1 (.is g) to w (ptr ci)).holds Try.prog:=aL ot ctl
  have A11:(Asm.arith .add .i64 (i:Int) 1 ((i+1:Nat):Int)).holds Try.prog:=addI rfl (by omega) (by omega)
  rcases hv with⟨e0',e1',rfl⟩ | ⟨hn,hl,o,rfl,hob,hol⟩
  ·subst e0'
   obtain⟨E2,q1,q2⟩:=pvC 0 hE (r27p.c2_gon r b so 0 d g.length (g.length+1) 0 wi ci w to t.tks.length none y.tks.length 1 0 (0:Nat) ((0+1:Nat):Int) ((w+1:Nat):Int) w u47 u46 u45 [ptr ci] [] [e0,e1,e2,e3,.slice (some ⟨g.length+1,0,none⟩) 1 1,e5,e6,e7] g)
    ⟨A1,A2,A3,stat20 1 (by simp),A5,A6,A7,A8,A9,A10,rfl,a_appGN rfl rfl (by omega) (gW _ _) (pL _ _),a_st (gP (gP hgd)) (by simp) rfl,A11,trivial⟩
   obtain⟨E3,g5,v',s1,s2,s3⟩:=ih 1 E2 ((g++[AObj.cells [ptr ci] true]++[AObj.cells [ptr ci] true]).set d (AObj.cells [e0,e1,e2,e3,.slice (some ⟨g.length+1,0,none⟩) 1 1,e5,e6,e7] true)) (.slice (some ⟨g.length+1,0,none⟩) 1 1) (by omega)
    (.trans (.add (.add (.add (.add (.add (.add (.add (.add (.add (.nil _) rfl) rfl) rfl) rfl) rfl) rfl) rfl) rfl) rfl) q1) (((K.pushN _).pushN _).setN (by omega) _) (gE (gP (gP hgd)))
    (.inr ⟨by omega,by rw[take_one hw];simp[cpS],g.length+1,rfl,by rw[take_one hw];refine gNq ?_ (by omega);rw[show cpS σ (y.tks.take 0++[w])=[ptr ci] by simp[cpS,hci,pvv]];exact gV _ (pL _ _),by omega⟩)
   exact⟨E3,g5,v',s1,.step q2 s2,s3⟩
  ·have hol2:=get_lt hob
   obtain⟨E2,q1,q2⟩:=pvC 0 hE (r27p.c2_gos r b so i d g.length (g.length+1) o wi ci w to t.tks.length none y.tks.length 1 i i ((i+1:Nat):Int) ((w+1:Nat):Int) w u47 u46 u45 [ptr ci] (cpS σ (y.tks.take i)++[ptr ci]) [e0,e1,e2,e3,.slice (some ⟨g.length+1,0,none⟩) (i+1) 1,e5,e6,e7] g)
    ⟨A1,A2,A3,stat20 1 (by simp),A5,A6,A7,A8,A9,A10,rfl,a_appGS (b:=8) (z:=1) rfl rfl (by omega) (by omega) hl (gP hob) (gW _ _) (pL _ _),a_st (gP (gNq (gP hgd) (by omega))) (by simp) rfl,A11,trivial⟩
   obtain⟨E3,g5,v',s1,s2,s3⟩:=ih (i+1) E2 (((g++[AObj.cells [ptr ci] true]).set o .dead++[AObj.cells (cpS σ (y.tks.take i)++[ptr ci]) true]).set d (AObj.cells [e0,e1,e2,e3,.slice (some ⟨g.length+1,0,none⟩) (i+1) 1,e5,e6,e7] true)) (.slice (some ⟨g.length+1,0,none⟩) (i+1) 1) (by omega)
    (.trans (.add (.add (.add (.add (.add (.add (.add (.add (.add (.nil _) rfl) rfl) rfl) rfl) rfl) rfl) rfl) rfl) rfl) q1) ((((K.pushN _).setN (by omega) _).pushN _).setN (by omega) _) (gE (gP (gNq (gP hgd) (by omega))))
    (.inr ⟨by omega,by rw[take_one hw];simp[cpS];omega,g.length+1,rfl,by
     rw[take_one hw]
     refine gNq ?_ (by omega)
     rw[show cpS σ (y.tks.take i++[w])=cpS σ (y.tks.take i)++[ptr ci] by simp[cpS,hci,pvv]]
     exact gV _ (by simp),by omega⟩)
   exact⟨E3,g5,v',s1,.step q2 s2,s3⟩
theorem copy1(a:TAt h ρ t)(ok:TOk c t)(hc:c<=100000)(hr:ρ .root=some r)(hss:∀ i,ρ .ss=some i->oa=some ⟨i,0,none⟩/\za=1) :
  ∀ (j i:Nat) (E:Env) (g:Hp) (σ:Lay),i+j=t.scs.length->EnvLe [(47,.int .i64 (i:Int)),(46,.int .i64 (Int.ofNat t.scs.length)),(45,.slice oa t.scs.length za),(3,ptr b),(0,ptr r)] E ->
   Keep (fun _=>False) h g->Ob h.length g σ (cL ρ σ t t.tks.length i 0)->Dm σ t t.tks.length i 0->σ .root=some b ->
   ∃ E1 g' σ',EnvLe [(3,ptr b),(0,ptr r)] E1/\LRun Try.prog 177 false (loopN Try.f57 1) E g (.exit 2) E1 g'/\Keep (fun _=>False) h g'/\Ob h.length g' σ' (cL ρ σ' t t.tks.length t.scs.length 0)/\Dm σ' t t.tks.length t.scs.length 0/\σ' .root=some b:=by
 intro j
 induction j with
 | zero =>
  intro i E g σ hi hE K O D hb
  have e:i=t.scs.length:=by omega
  subst e
  obtain⟨E2,q1,q2⟩:=pvC 0 hE (r27p.c1_out none none 0 0 0 false false 0 ⟨#[]⟩ r b 0 0 0 0 0 0 0 0 0 0 0 0 oa none t.scs.length za 0 0 0 t.scs.length 0 0 0 0 [] [] [] [] [] [] g g) ⟨ltF (by simp),trivial⟩
  exact⟨E2,g,σ,.trans (.add (.add (.nil _) rfl) rfl) q1,.last q2 (by simp),K,O,D,hb⟩
 | succ j ih =>
  intro i E g σ hi hE K O D hb
  have n64:=ok.n64
  have n200:=ok.n200
  have il:i<t.scs.length:=by omega
  obtain⟨y,hy⟩:∃ y,t.scs[i]?=some y:=⟨_,List.getElem?_eq_getElem il⟩
  obtain⟨xi,hxi⟩:=a.sh.sc i il
  obtain⟨to,hto⟩:=a.sh.ss' il
  obtain⟨rfl,rfl⟩:=hss to hto
  have how:=ok.ow i y hy
  obtain⟨oi,hoi⟩:=a.sh.tk _ how
  obtain⟨ox,hox⟩:∃ x,t.tks[y.ow]?=some x:=⟨_,List.getElem?_eq_getElem how⟩
  obtain⟨ci,hci⟩:=D.tk _ how
  cases hts:σ .ts with
  | none=>have:=D.ts hts;omega
  | some nt =>
  obtain⟨ob,zb,hst,hst2⟩:=slv_ex (ρ (.st i)) y.tks.length (fun e=>by rw[a.sh.st i y hy e];rfl)
  have hC:scC ρ i y=[.int .i64 ((i+1:Nat):Int),ptr oi,.bool y.su,.bool y.ov,.slice ob y.tks.length zb,.int .i64 y.live,.int .i64 y.fk,.string y.ft]:=by rw[scC,hoi,hst];rfl
  have bl:=O.lt hb
  have blo:=O.lo _ _ hb
  have Ki:=K.1
  have ag:=a.grow K
  have obj:=O.obj _ _ hb
  have ot:=O.obj _ _ hts
  rw[show cL ρ σ t t.tks.length i 0 .root=[.slice (some ⟨nt,0,none⟩) t.tks.length 1,slv (σ .ss) i] by simp only[cL,hts,slv]] at obj
  have ctl:(cL ρ σ t t.tks.length i 0 .ts)[y.ow]?=some (ptr ci):=by simp[cL,how,hci,pvv]
  have A1:(Asm.cmp .lss (i:Int) (Int.ofNat t.scs.length) true).holds Try.prog:=ltT (by simp;omega)
  have A2:(Asm.off i 0 (i:Int) t.scs.length 1).holds Try.prog:=offI (q:=i) rfl il (by omega)
  have A3:(Asm.ld1 (.is g) to i (ptr xi)).holds Try.prog:=by
   have:=ag.ld1 (P:=Try.prog) (s:=.is g) rfl hto (cont_ss il)
   rwa [hxi] at this
  have A4:(Asm.ldn (.is g) xi 0 8 (scC ρ i y)).holds Try.prog:=ag.ldn rfl hxi (by rw[cSq hy];simp[scC]) (by rw[cSq hy];rfl)
  rw[hC] at A4
  obtain⟨c80,hc80⟩:∃ c80:List Value,c80=[.int .i64 0,.pointer none,.bool false,.bool false,.slice none 0 0,.int .i64 0,.int .i64 0,.string ⟨#[]⟩]:=⟨_,rfl⟩
  obtain⟨c81,hc81⟩:∃ c81:List Value,c81=[.int .i64 ((i+1:Nat):Int),ptr ci,.bool y.su,.bool y.ov,.slice ob y.tks.length zb,.int .i64 y.live,.int .i64 y.fk,.string y.ft]:=⟨_,rfl⟩
  obtain⟨c82,hc82⟩:∃ c82:List Value,c82=[.int .i64 ((i+1:Nat):Int),ptr ci,.bool y.su,.bool y.ov,.slice none 0 0,.int .i64 y.live,.int .i64 y.fk,.string y.ft]:=⟨_,rfl⟩
  have K1:Keep (fun _=>False) g ((g++[AObj.cells c80 true]).set g.length (.cells (scC ρ i y) true)):=((Keep.refl (fun _=>False) g).pushN _).setN (Nat.le_refl _) _
  have d1:((g++[AObj.cells c80 true]).set g.length (.cells (scC ρ i y) true))[g.length]?=some (.cells (scC ρ i y) true):=gE (gW _ _)
  have K2:=K1.setN (Nat.le_refl _) (.cells c81 true)
  have d2:=gE (x:=AObj.cells c81 true) d1
  have K3:=K2.setN (Nat.le_refl _) (.cells c82 true)
  have d3:=gE (x:=AObj.cells c82 true) d2
  obtain⟨g3,hg3⟩:∃ g3,g3=(((g++[AObj.cells c80 true]).set g.length (.cells (scC ρ i y) true)).set g.length (.cells c81 true)).set g.length (.cells c82 true):=⟨_,rfl⟩
  rw[<- hg3] at K3 d3
  obtain⟨F1,g4,v,l1,l2,l3,l4,l5⟩:=copy2 (r:=r) (oa:=ob) (za:=zb) (b:=b) a ok hc (u47:=.int .i64 i) (u46:=.int .i64 (Int.ofNat t.scs.length)) (u45:=.slice (some ⟨to,0,none⟩) t.scs.length 1) hy hst2 (fun e=>by rw[a.sh.st i y hy e];rfl) O D hb K rfl y.tks.length 0
   [(75,.int .i64 (0:Nat)),(74,.int .i64 (Int.ofNat y.tks.length)),(73,.slice ob y.tks.length zb),(9,ptr g.length),(47,.int .i64 i),(46,.int .i64 (Int.ofNat t.scs.length)),(45,.slice (some ⟨to,0,none⟩) t.scs.length 1),(3,ptr b),(0,ptr r)] g3 (.slice none 0 0) (by omega) (EnvLe.refl _) K3 (by rw[d3,hc82]) (.inl ⟨rfl,rfl,rfl⟩)
  have B1:(Asm.ld1 (.set (.push (.is g) (.cells c80 true)) g.length (.cells (scC ρ i y) true)) b 0 (.slice (some ⟨nt,0,none⟩) t.tks.length 1)).holds Try.prog:=aL (K1.2 _ _ obj id) rfl
  have B2:(Asm.ld1 (.set (.push (.is g) (.cells c80 true)) g.length (.cells (scC ρ i y) true)) xi 1 (ptr oi)).holds Try.prog:=by
   have:=(ag.grow K1).ld1 (P:=Try.prog) (s:=.set (.push (.is g) (.cells c80 true)) g.length (.cells (scC ρ i y) true)) rfl hxi (d:=1) (v:=pvv (ρ (.tk y.ow))) (by rw[cSq hy];rfl)
   rwa [hoi] at this
  have B3:(Asm.ld1 (.set (.push (.is g) (.cells c80 true)) g.length (.cells (scC ρ i y) true)) oi 0 (.int .i64 ((y.ow+1:Nat):Int))).holds Try.prog:=(ag.grow K1).ld1 rfl hoi (by rw[cT hox];rfl)
  have B4:(Asm.arith .sub .i64 ((y.ow+1:Nat):Int) 1 (y.ow:Int)).holds Try.prog:=subI (by omega) (by omega) (by omega)
  have B5:(Asm.off y.ow 0 (y.ow:Int) t.tks.length 1).holds Try.prog:=offI (q:=y.ow) rfl how (by omega)
  have B6:(Asm.ld1 (.set (.push (.is g) (.cells c80 true)) g.length (.cells (scC ρ i y) true)) nt y.ow (ptr ci)).holds Try.prog:=aL (K1.2 _ _ ot id) ctl
  have B7:(Asm.ld1 (.set (.set (.set (.push (.is g) (.cells c80 true)) g.length (.cells (scC ρ i y) true)) g.length (.cells c81 true)) g.length (.cells c82 true)) xi 4 (.slice ob y.tks.length zb)).holds Try.prog:=by
   rw[<- hst]
   exact (ag.grow K3).ld1 (by rw[hg3];rfl) hxi (by rw[cSq hy];rfl)
  have A9:(Asm.arith .add .i64 (i:Int) 1 ((i+1:Nat):Int)).holds Try.prog:=addI rfl (by omega) (by omega)
  rw[hg3] at l2
  have L:(Asm.loop 177 false (loopN Try.f57 2) _ (.set (.set (.set (.push (.is g) (.cells c80 true)) g.length (.cells (scC ρ i y) true)) g.length (.cells c81 true)) g.length (.cells c82 true)) (.exit 4) [(9,ptr g.length),(47,.int .i64 i),(46,.int .i64 (Int.ofNat t.scs.length)),(45,.slice (some ⟨to,0,none⟩) t.scs.length 1),(3,ptr b),(0,ptr r)] (.is g4)).holds Try.prog:=a_loop (by kernel_rfl) (EnvLe.refl _) l1 l2
  have O4:=O.grow l3
  have ob4:=O4.obj _ _ hb
  have l3l:=l3.1
  have l4l:=get_lt l4
  obtain⟨os,ls,zs,hvs⟩:∃ os ls zs,v=.slice os ls zs:=by rcases l5 with⟨_,_,e⟩ | ⟨_,_,o,e,_⟩<;>exact⟨_,_,_,e⟩
  obtain⟨so,hso,hso2⟩:∃ so:Option Nat,v=slv so y.tks.length/\(∀ q,so=some q->g4[q]?=some (.cells (cpS σ y.tks) true)/\g.length+1<=q):=by
   rcases l5 with⟨e1,e2,e3⟩ | ⟨_,_,o,e,e2,e3⟩
   ·exact⟨none,by rw[e3];rfl,fun q e=>by cases e⟩
   ·exact⟨some o,e,fun q e=>by cases e;exact⟨e2,e3⟩⟩
  have hso3:so=none->y.tks=[]:=fun e=>by
   rcases l5 with⟨e1,e2,e3⟩ | ⟨_,_,o,e',e2,e3⟩
   ·exact List.length_eq_zero_iff.1 e1
   ·rw[hso,e] at e';simp[slv] at e'
  have main:∀ (z zz:Nat) (g':Hp),z=g4.length+1->Keep (fun q=>q=b\/σ .ss=some q) g4 g'->g'[z]?=some (.cells ((List.range i).map (fun k=>pvv (σ (.sc k)))++[ptr g.length]) true)->g'[b]?=some (.cells [.slice (some ⟨nt,0,none⟩) t.tks.length 1,.slice (some ⟨z,0,none⟩) (i+1) 1] true) ->
    ∃ σ',Keep (fun _=>False) h g'/\Ob h.length g' σ' (cL ρ σ' t t.tks.length (i+1) 0)/\Dm σ' t t.tks.length (i+1) 0/\σ' .root=some b:=by
   intro z zz g' hz Kg hgz hgb
   obtain⟨σ',hσ⟩:∃ σ':Lay,σ'=fun r=>if r=.st i then so else put2 σ .ss z (.sc i) g.length r:=⟨_,rfl⟩
   have s0:σ' (.st i)=so:=by rw[hσ];simp
   have s1:σ' .ss=some z:=by rw[hσ];simp[put2_1]
   have s2:σ' (.sc i)=some g.length:=by rw[hσ];simp[put2_2]
   have sn:∀ r,r≠.st i->r≠.ss->r≠.sc i->σ' r=σ r:=fun r h0 h1 h2=>by rw[hσ];simp only[if_neg h0];exact put2_o h1 h2
   have sb:σ' .root=some b:=by rw[sn _ (by simp) (by simp) (by simp)];exact hb
   have inv:∀ r q,σ' r=some q->r≠.st i->r≠.ss->r≠.sc i->q<g.length/\σ r=some q:=fun r q e h0 h1 h2=>by rw[sn r h0 h1 h2] at e;exact⟨O.lt e,e⟩
   have hsl:∀ q,so=some q->q<g4.length:=fun q e=>get_lt (hso2 q e).1
   have Kg':Keep (fun q=>q=b\/σ .ss=some q) g g':=(l3.mono fun _ _ e=>e.elim).trans Kg
   have fpl:∀ q,(q=b\/σ .ss=some q)->q<g.length:=fun q e=>by
    rcases e with rfl | e
    ·exact bl
    ·exact O.lt e
   have tksame:∀ k,σ' (.tk k)=σ (.tk k):=fun k=>sn _ (by simp) (by simp) (by simp)
   refine⟨σ',K.trans_new Kg' fun q hq e=>?_,O.upd (fun r=>r=.root\/r=.ss\/r=.sc i\/r=.st i) Kg' (fun r q e f=>by
     rcases f with rfl | f
     ·exact .inl (O.inj _ _ _ e hb)
     ·exact .inr (.inl (O.inj _ _ _ e f))) (fun r d=>?_) (fun r q d e=>?_),?_,sb⟩
   ·rcases e with rfl | e
    ·omega
    ·have:=O.lo _ _ e;omega
   ·have e1:r≠.root:=fun e=>d (.inl e)
    have e2:r≠.ss:=fun e=>d (.inr (.inl e))
    have e3:r≠.sc i:=fun e=>d (.inr (.inr (.inl e)))
    have e4:r≠.st i:=fun e=>d (.inr (.inr (.inr e)))
    refine⟨sn r e4 e2 e3,fun hn=>?_⟩
    cases r with
    | root=>exact absurd rfl e1
    | ts=>simp only[cL,tksame]
    | ss=>exact absurd rfl e2
    | tk k=>simp[cL]
    | op k=>exact absurd (D.oop k (Nat.zero_le _)) hn
    | sc k =>
     have n1:Rl.st k≠.st i:=fun e=>e3 (by cases e;rfl)
     simp only[cL,scC,tksame,sn (.st k) n1 (by simp) (by simp)]
    | st k=>simp only[cL,tksame]
   ·rcases d with rfl | rfl | rfl | rfl
    ·rw[sb] at e;cases e
     refine⟨?_,blo,fun r' e'=>?_⟩
     ·rw[show cL ρ σ' t t.tks.length (i+1) 0 .root=[.slice (some ⟨nt,0,none⟩) t.tks.length 1,.slice (some ⟨z,0,none⟩) (i+1) 1] by simp only[cL,s1,sn .ts (by simp) (by simp) (by simp),hts,slv]]
      exact hgb
     ·by_cases r0:r'=.st i
      ·subst r0;rw[s0] at e';have:=hso2 _ e';omega
      ·by_cases r1:r'=.ss
       ·subst r1;rw[s1] at e';cases e';omega
       ·by_cases r2:r'=.sc i
        ·subst r2;rw[s2] at e';cases e';omega
        ·exact O.inj _ _ _ (inv r' _ e' r0 r1 r2).2 hb
    ·rw[s1] at e;cases e
     refine⟨?_,by omega,fun r' e'=>?_⟩
     ·rw[show cL ρ σ' t t.tks.length (i+1) 0 .ss=(List.range i).map (fun k=>pvv (σ (.sc k)))++[ptr g.length] by
       simp only[cL,List.range_succ,List.map_append,List.map_cons,List.map_nil,s2,pvv]
       congr 1
       refine List.map_congr_left fun k hk=>?_
       rw[List.mem_range] at hk
       rw[sn (.sc k) (by simp) (by simp) (by intro e;cases e;omega)]]
      exact hgz
     ·by_cases r0:r'=.st i
      ·subst r0;rw[s0] at e';have:=hsl _ e';omega
      ·by_cases r1:r'=.ss
       ·exact r1
       ·by_cases r2:r'=.sc i
        ·subst r2;rw[s2] at e';simp at e';omega
        ·have:=(inv r' _ e' r0 r1 r2).1;omega
    ·rw[s2] at e;cases e
     refine⟨?_,by omega,fun r' e'=>?_⟩
     ·rw[show cL ρ σ' t t.tks.length (i+1) 0 (.sc i)=[.int .i64 ((i+1:Nat):Int),ptr ci,.bool y.su,.bool y.ov,v,.int .i64 y.live,.int .i64 y.fk,.string y.ft] by simp only[cL,hy,scC,tksame,hci,pvv,s0,hso]]
      exact Kg.2 _ _ l4 fun e=>by have:=fpl _ e;omega
     ·by_cases r0:r'=.st i
      ·subst r0;rw[s0] at e';have:=hso2 _ e';omega
      ·by_cases r1:r'=.ss
       ·subst r1;rw[s1] at e';simp at e';omega
       ·by_cases r2:r'=.sc i
        ·exact r2
        ·have:=(inv r' _ e' r0 r1 r2).1;omega
    ·rw[s0] at e
     have hq:=hso2 q e
     have hq3:=hsl q e
     refine⟨?_,by omega,fun r' e'=>?_⟩
     ·rw[show cL ρ σ' t t.tks.length (i+1) 0 (.st i)=cpS σ y.tks by simp only[cL,hy,tksame,cpS]]
      exact Kg.2 _ _ hq.1 fun e=>by have:=fpl _ e;omega
     ·by_cases r0:r'=.st i
      ·exact r0
      ·by_cases r1:r'=.ss
       ·subst r1;rw[s1] at e';cases e';omega
       ·by_cases r2:r'=.sc i
        ·subst r2;rw[s2] at e';cases e';omega
        ·have:=(inv r' _ e' r0 r1 r2).1;omega
   ·refine⟨fun k hk=>?_,fun k hk=>?_,fun e=>?_,fun e=>(by rw[s1] at e;cases e),fun k x hk=>absurd hk (Nat.not_lt_zero _),fun k x hk hx e=>?_,fun k hk=>?_,fun k hk=>?_,fun k hk=>?_⟩
    ·rw[tksame];exact D.tk k hk
    ·by_cases e:k=i
     ·subst e;exact⟨_,s2⟩
     ·rw[sn _ (by simp) (by simp) (by intro e';cases e';exact e rfl)];exact D.sc k (by omega)
    ·rw[sn _ (by simp) (by simp) (by simp)] at e;exact D.ts e
    ·by_cases e1:k=i
     ·subst e1
      rw[hy] at hx;cases hx
      rw[s0] at e
      exact hso3 e
     ·rw[sn _ (by intro e';cases e';exact e1 rfl) (by simp) (by simp)] at e;exact D.st k x (by omega) hx e
    ·rw[tksame];exact D.otk k hk
    ·rw[sn _ (by simp) (by simp) (by simp)];exact D.oop k hk
    ·rw[sn _ (by simp) (by simp) (by intro e;cases e;omega),sn _ (by intro e;cases e;omega) (by simp) (by simp)];exact D.osc k (by omega)
  rw[show cL ρ σ t t.tks.length i 0 .root=[.slice (some ⟨nt,0,none⟩) t.tks.length 1,slv (σ .ss) i] by simp only[cL,hts,slv]] at ob4
  cases hs:σ .ss with
  | none =>
   have i0:=D.ss hs
   subst i0
   rw[hs] at ob4
   obtain⟨g',hg'⟩:∃ g',g'=((g4++[AObj.cells [ptr g.length] true])++[AObj.cells [ptr g.length] true]).set b (.cells [.slice (some ⟨nt,0,none⟩) t.tks.length 1,.slice (some ⟨g4.length+1,0,none⟩) 1 1] true):=⟨_,rfl⟩
   obtain⟨σ',m1,m2,m3,m4⟩:=main (g4.length+1) 0 g' rfl (by
     rw[hg']
     exact (((Keep.push _ _ _).trans (Keep.push _ _ _)).trans (Keep.set (fp:=fun q=>q=b\/σ .ss=some q) (.inl rfl) _))) (by rw[hg'];exact gNq (gV _ (by simp)) (by omega)) (by rw[hg'];exact gE (gP (gP ob4)))
   obtain⟨E2,q1,q2⟩:=pvC 0 hE (r27p.c1_gon (some ⟨oi,0,none⟩) ob y.tks.length zb ((0+1:Nat):Int) y.su y.ov y.fk y.ft r b to 0 xi g.length g4.length (g4.length+1) 0 oi ci y.ow nt t.tks.length none ob t.scs.length 1 y.tks.length zb 0 (0:Nat) ((0+1:Nat):Int) y.live ((y.ow+1:Nat):Int) y.ow (scC ρ 0 y) c81 c82 [ptr g.length] [] [.slice (some ⟨nt,0,none⟩) t.tks.length 1,.slice (some ⟨g4.length+1,0,none⟩) 1 1] g g4)
    ⟨A1,A2,A3,A4,rfl,by rw[<- hc80];exact a_st (gW _ _) (by simp[hc80]) (by rw[hC,hc80];rfl),stat20 0 (by simp),by rw[<- hc80];exact B1,by rw[<- hc80];exact B2,by rw[<- hc80];exact B3,B4,B5,by rw[<- hc80];exact B6,by rw[<- hc80];exact a_st d1 (by simp[scC]) (by rw[hC,hc81];rfl),by rw[<- hc80];exact a_st d2 (by simp[hc81]) (by rw[hc81,hc82];rfl),by rw[<- hc80];exact B7,by rw[<- hc80];exact a_loop (by kernel_rfl) (.add (.add (.add (.add (.add (.add (.add (.add (.add (.nil _) rfl) rfl) rfl) rfl) rfl) rfl) rfl) rfl) rfl) l1 l2,aL ob4 rfl,rfl,a_appGN rfl rfl (by omega) (gW _ _) (pL _ _),a_st (gP (gP ob4)) (by simp) rfl,A9,trivial⟩
   ·obtain⟨E3,g9,σ3,w1,w2,w3,w4,w5,w6⟩:=ih (0+1) E2 g' σ' (by omega) (.trans (.add (.add (.add (.add (.add (.nil _) rfl) rfl) rfl) rfl) rfl) q1) m1 m2 m3 m4
    refine⟨E3,g9,σ3,w1,.step q2 ?_,w3,w4,w5,w6⟩
    rw[hg'] at w2
    exact w2
  | some so' =>
   have os:=O4.obj _ _ hs
   have osl:=O4.lt hs
   have nsb:so'≠b:=fun e=>by subst e;cases O.inj _ _ _ hs hb
   rw[hs] at ob4
   obtain⟨cs,hcs⟩:∃ cs,cs=(List.range i).map fun k=>pvv (σ (.sc k)):=⟨_,rfl⟩
   have csl:cs.length=i*1:=by rw[hcs];simp
   rw[show cL ρ σ t t.tks.length i 0 .ss=cs by rw[hcs];rfl] at os
   obtain⟨g',hg'⟩:∃ g',g'=((g4++[AObj.cells [ptr g.length] true]).set so' .dead++[AObj.cells (cs++[ptr g.length]) true]).set b (.cells [.slice (some ⟨nt,0,none⟩) t.tks.length 1,.slice (some ⟨g4.length+1,0,none⟩) (i+1) 1] true):=⟨_,rfl⟩
   obtain⟨σ',m1,m2,m3,m4⟩:=main (g4.length+1) 0 g' rfl (by
     rw[hg']
     exact ((((Keep.push _ _ _).trans (Keep.set (fp:=fun q=>q=b\/σ .ss=some q) (.inr hs) _)).trans (Keep.push _ _ _)).trans (Keep.set (.inl rfl) _))) (by rw[hg',hcs];exact gNq (gV _ (by simp)) (by omega)) (by rw[hg'];exact gE (gP (gNq (gP ob4) nsb)))
   obtain⟨E2,q1,q2⟩:=pvC 0 hE (r27p.c1_gos (some ⟨oi,0,none⟩) ob y.tks.length zb ((i+1:Nat):Int) y.su y.ov y.fk y.ft r b to i xi g.length g4.length (g4.length+1) so' oi ci y.ow nt t.tks.length none ob t.scs.length 1 y.tks.length zb i i ((i+1:Nat):Int) y.live ((y.ow+1:Nat):Int) y.ow (scC ρ i y) c81 c82 [ptr g.length] (cs++[ptr g.length]) [.slice (some ⟨nt,0,none⟩) t.tks.length 1,.slice (some ⟨g4.length+1,0,none⟩) (i+1) 1] g g4)
    ⟨A1,A2,A3,A4,rfl,by rw[<- hc80];exact a_st (gW _ _) (by simp[hc80]) (by rw[hC,hc80];rfl),stat20 0 (by simp),by rw[<- hc80];exact B1,by rw[<- hc80];exact B2,by rw[<- hc80];exact B3,B4,B5,by rw[<- hc80];exact B6,by rw[<- hc80];exact a_st d1 (by simp[scC]) (by rw[hC,hc81];rfl),by rw[<- hc80];exact a_st d2 (by simp[hc81]) (by rw[hc81,hc82];rfl),by rw[<- hc80];exact B7,by rw[<- hc80];exact a_loop (by kernel_rfl) (.add (.add (.add (.add (.add (.add (.add (.add (.add (.nil _) rfl) rfl) rfl) rfl) rfl) rfl) rfl) rfl) rfl) l1 l2,aL ob4 rfl,rfl,a_appGS (b:=8) rfl rfl (by omega) (by omega) csl (gP os) (gW _ _) (pL _ _),a_st (gP (gNq (gP ob4) nsb)) (by simp) rfl,A9,trivial⟩
   ·obtain⟨E3,g9,σ3,w1,w2,w3,w4,w5,w6⟩:=ih (i+1) E2 g' σ' (by omega) (.trans (.add (.add (.add (.add (.add (.nil _) rfl) rfl) rfl) rfl) rfl) q1) m1 m2 m3 m4
    refine⟨E3,g9,σ3,w1,.step q2 ?_,w3,w4,w5,w6⟩
    rw[hg'] at w2
    exact w2
end
end Go.Proofs.Ytlonjogfeidgfaa.tr
namespace Go.Proofs.Ytlonjogfeidgfaa.tr
open Go Go.Ev
set_option maxRecDepth 100000
set_option linter.unusedVariables false
set_option linter.constructorNameAsVariable false
theorem inP_ones(ρ:Lay)(l:List (Option Nat)):(l.map (inP ρ)).all Value.oneCell'=true:=by
 rw[List.all_eq_true]
 intro v hv
 obtain⟨x,_,rfl⟩:=List.mem_map.1 hv
 obtain⟨p,hp⟩:=inP_any ρ x
 rw[hp];rfl
theorem clone_nil(h:Hp):Run Try.prog 82 [.slice none 0 0] h (.slice none 0 0) h:=pvF 0 Try.func82 (r27p.cl_nil 0 0 0 0 [] h) trivial
theorem clone_run{h:Hp}{o n:Nat}{cs junk:List Value}(ho:h[o]?=some (.cells (cs++junk) true))(hn:cs.length=n)(h1:cs.all Value.oneCell'=true)(hb:n<=1000000) :
  ∃ d h',Run Try.prog 82 [.slice (some ⟨o,0,none⟩) n 1] h (.slice (some ⟨d,0,none⟩) n 1) h'/\Keep (fun _=>False) h h'/\h'[d]?=some (.cells cs true)/\h.length<=d:=by
 cases n with
 | zero =>
  have e:cs=[]:=List.length_eq_zero_iff.1 hn
  subst e
  exact⟨h.length,_,pvF 0 Try.func82 (r27p.cl_0 o 0 h.length 0 [] h) ⟨rfl,⟨rfl,_,cells_of (gP ho),Nat.zero_le _⟩,trivial⟩,(Keep.refl _ _).pushN _,gW _ _,Nat.le_refl _⟩
 | succ n =>
  have r:=pvF 0 Try.func82 (r27p.cl_1 o n h.length (h.length+1) cs h) ⟨rfl,⟨rfl,⟨_,cells_of (gP ho),by rw[List.length_append];omega,by rw[List.drop_zero,Nat.mul_one,show Nat.succ n=cs.length from hn.symm];simp⟩,h1,by (first | omega | (simp;omega)),by (first | omega | (simp;omega)),⟨_,own_of (gW _ _),by simp,by simp⟩,by simp[SH.den]⟩,trivial⟩
  rw[Nat.zero_add] at r
  exact⟨h.length+1,_,r,(((Keep.refl (fun _=>False) h).pushN _).setN (Nat.le_refl _) _).pushN _,gV _ (by simp[SH.den]),by omega⟩
section
variable {h:Hp} {ρ:Lay} {t:TS} {c r b:Nat} {oa:Option Addr} {za:Nat}
def mixO(ρ σ:Lay)(l:List (Option Nat))(i:Nat):List Value:=(l.take i).map (inP σ)++(l.drop i).map (inP ρ)
theorem mixO_len{ρ σ:Lay}{l:List (Option Nat)}{i:Nat}:(mixO ρ σ l i).length=l.length:=by simp[mixO];omega
theorem mixO_at{ρ σ:Lay}{l:List (Option Nat)}{i:Nat}{w:Option Nat}(h:l[i]?=some w):(mixO ρ σ l i)[i]?=some (inP ρ w):=by
 have:=gT h
 rw[mixO,List.getElem?_append_right (by simp;omega)]
 simp[h,Nat.min_eq_left (Nat.le_of_lt this)]
theorem mixO_succ{ρ σ:Lay}{l:List (Option Nat)}{i:Nat}{w:Option Nat}(h:l[i]?=some w):(mixO ρ σ l i).take i++[inP σ w]++(mixO ρ σ l i).drop (i+1)=mixO ρ σ l (i+1):=by
 have hl:=gT h
 have e1:((l.take i).map (inP σ)).length=i:=by simp;omega
 rw[mixO,List.take_append_of_le_length (by omega),List.take_of_length_le (by omega),List.drop_append,List.drop_of_length_le (by omega),e1,List.nil_append,mixO,take_one h]
 simp[List.drop_drop,Nat.add_comm]
theorem mixO_none{ρ σ:Lay}{l:List (Option Nat)}{i:Nat}(h:l[i]?=some none):mixO ρ σ l i=mixO ρ σ l (i+1):=by
 have hl:=gT h
 rw[mixO,mixO,take_one h,List.drop_eq_getElem_cons hl]
 have:l[i]=none:=by rw[List.getElem?_eq_getElem hl] at h;exact Option.some.inj h
 rw[this]
 simp[inP]
theorem copy4(a:TAt h ρ t)(ok:TOk c t)(hc:c<=100000){m X:Nat}{x:Tk}{od:Option Nat}{g0:Hp}{σ:Lay}{u11 u10 u09 v0 e0 e1 e3 e4 e5 e6:Value}(hx:t.tks[m]?=some x)
  (hso:∀ i,od=some i->oa=some ⟨i,0,none⟩/\za=1) (hso0:od=none->x.opn.length=0) (K0:Keep (fun _=>False) h g0)
  (hb:g0[b]?=some (.cells [v0,slv (σ .ss) t.scs.length] true)) (hss:∀ q,σ .ss=some q->g0[q]?=some (.cells ((List.range t.scs.length).map fun k=>pvv (σ (.sc k))) true)) (hs0:σ .ss=none->t.scs.length=0) (hsc:∀ k,k<t.scs.length->∃ q,σ (.sc k)=some q)
  (hX:g0[X]?=some (.cells [e0,e1,.slice oa x.opn.length za,e3,e4,e5,e6] true)) (hne:∀ o,od=some o->h.length<=o/\o≠b/\o≠X/\σ .ss≠some o) :
  ∀ (j i:Nat) (E:Env) (g:Hp),i+j=x.opn.length->EnvLe [(150,.int .i64 (i:Int)),(149,.int .i64 (Int.ofNat x.opn.length)),(148,.slice oa x.opn.length za),(13,ptr X),(111,u11),(110,u10),(109,u09),(3,ptr b),(0,ptr r)] E ->
   Keep (fun q=>od=some q) g0 g->(∀ o,od=some o->g[o]?=some (.cells (mixO ρ σ x.opn i) true)) ->
   ∃ E1 g',EnvLe [(13,ptr X),(111,u11),(110,u10),(109,u09),(3,ptr b),(0,ptr r)] E1/\LRun Try.prog 177 false (loopN Try.f57 4) E g (.exit 8) E1 g'/\Keep (fun q=>od=some q) g0 g'/\(∀ o,od=some o->g'[o]?=some (.cells (x.opn.map (inP σ)) true)):=by
 intro j
 induction j with
 | zero =>
  intro i E g hi hE K ho
  have e:i=x.opn.length:=by omega
  subst e
  obtain⟨E2,q1,q2⟩:=pvC 0 hE (r27p.c4_out r b 0 0 X 0 0 0 0 0 0 0 oa x.opn.length za x.opn.length 0 0 0 u11 u10 u09 [] g) ⟨ltF (by simp),trivial⟩
  exact⟨E2,g,.trans (.add (.add (.add (.add (.add (.add (.nil _) rfl) rfl) rfl) rfl) rfl) rfl) q1,.last q2 (by simp),K,fun o e=>by rw[ho o e,mixO,List.take_length];simp⟩
 | succ j ih =>
  intro i E g hi hE K ho
  have n200:=ok.n200
  have hlen:=ok.len m x hx
  obtain⟨w,hw⟩:∃ w,x.opn[i]?=some w:=⟨_,List.getElem?_eq_getElem (by omega)⟩
  cases hd:od with
  | none=>have:=hso0 hd;omega
  | some o =>
  obtain⟨rfl,rfl⟩:=hso o hd
  obtain⟨n1,n2,n3,n4⟩:=hne o hd
  have hog:=ho o hd
  have A1:(Asm.cmp .lss (i:Int) (Int.ofNat x.opn.length) true).holds Try.prog:=ltT (by simp;omega)
  have A2:(Asm.off i 0 (i:Int) x.opn.length 1).holds Try.prog:=offI (q:=i) rfl (by omega) (by omega)
  have A11:(Asm.arith .add .i64 (i:Int) 1 ((i+1:Nat):Int)).holds Try.prog:=addI rfl (by omega) (by omega)
  have A3:(Asm.ld1 (.is g) o i (inP ρ w)).holds Try.prog:=aL hog (mixO_at hw)
  have env:=@EnvLe.trans
  cases w with
  | none =>
   obtain⟨E2,q1,q2⟩:=pvC 0 hE (r27p.c4_nil r b o i X 0 0 0 0 0 0 0 none x.opn.length 1 i ((i+1:Nat):Int) 0 0 u11 u10 u09 [] g) ⟨A1,A2,A3,A11,trivial⟩
   obtain⟨E3,g5,s1,s2,s3⟩:=ih (i+1) E2 g (by omega) (.trans (.add (.add (.add (.add (.add (.add (.add (.add (.add (.nil _) rfl) rfl) rfl) rfl) rfl) rfl) rfl) rfl) rfl) q1) K (fun o' e=>by rw[ho o' e,mixO_none hw])
   rw[hd] at s3
   exact⟨E3,g5,s1,.step q2 s2,s3⟩
  | some s =>
   have hsl:=ok.opn m x s hx (List.mem_of_getElem? hw)
   obtain⟨si,hsi⟩:=a.sh.sc s hsl
   obtain⟨y,hy⟩:∃ y,t.scs[s]?=some y:=⟨_,List.getElem?_eq_getElem hsl⟩
   obtain⟨ci,hci⟩:=hsc s hsl
   cases hq:σ .ss with
   | none=>have:=hs0 hq;omega
   | some q =>
   have ag:TAt g ρ t:=(a.grow K0).keep K fun q' e e2=>by
    rw[hd] at e;cases e
    obtain⟨r',e2⟩:=e2
    have:=a.lt e2
    omega
   have hqo:¬ od=some q:=fun e=>by rw[hd] at e;cases e;exact n4 hq
   have hbo:¬ od=some b:=fun e=>by rw[hd] at e;cases e;exact n2 rfl
   have hXo:¬ od=some X:=fun e=>by rw[hd] at e;cases e;exact n3 rfl
   have gb:=K.2 _ _ hb hbo
   rw[hq] at gb
   have gq:=K.2 _ _ (hss q hq) hqo
   have gX:=K.2 _ _ hX hXo
   simp only[inP,hsi,pvv] at A3
   have A4:(Asm.ld1 (.is g) X 2 (.slice (some ⟨o,0,none⟩) x.opn.length 1)).holds Try.prog:=aL gX rfl
   have A5:(Asm.ld1 (.is g) b 1 (.slice (some ⟨q,0,none⟩) t.scs.length 1)).holds Try.prog:=aL gb rfl
   have A6:(Asm.ld1 (.is g) si 0 (.int .i64 ((s+1:Nat):Int))).holds Try.prog:=ag.ld1 rfl hsi (by rw[cSq hy];rfl)
   have A7:(Asm.arith .sub .i64 ((s+1:Nat):Int) 1 (s:Int)).holds Try.prog:=subI (by omega) (by omega) (by omega)
   have A8:(Asm.off s 0 (s:Int) t.scs.length 1).holds Try.prog:=offI (q:=s) rfl hsl (by omega)
   have A9:(Asm.ld1 (.is g) q s (ptr ci)).holds Try.prog:=aL gq (by simp[hsl,hci,pvv])
   have hcv:inP σ (some s)=ptr ci:=by simp only[inP,hci,pvv]
   obtain⟨E2,q1,q2⟩:=pvC 0 hE (r27p.c4_go r b o i X si ci s q t.scs.length o i none x.opn.length 1 i ((i+1:Nat):Int) ((s+1:Nat):Int) s u11 u10 u09 (mixO ρ σ x.opn (i+1)) g)
    ⟨A1,A2,A3,stat20 3 (by simp),A4,A5,A6,A7,A8,A9,A2,a_st hog (by rw[mixO_len];simp;omega) (by have:=mixO_succ (ρ:=ρ) (σ:=σ) hw;rw[hcv] at this;exact this),A11,trivial⟩
   obtain⟨E3,g5,s1,s2,s3⟩:=ih (i+1) E2 (g.set o (.cells (mixO ρ σ x.opn (i+1)) true)) (by omega) (.trans (.add (.add (.add (.add (.add (.add (.add (.add (.add (.nil _) rfl) rfl) rfl) rfl) rfl) rfl) rfl) rfl) rfl) q1) (K.trans (Keep.set (fp:=fun q=>od=some q) hd _)) (fun o' e=>by rw[hd] at e;cases e;exact gE hog)
   rw[hd] at s3
   exact⟨E3,g5,s1,.step q2 s2,s3⟩
theorem copy3(a:TAt h ρ t)(ok:TOk c t)(hc:c<=100000)(hr:ρ .root=some r) :
  ∀ (j i:Nat) (E:Env) (g:Hp) (σ:Lay),i+j=t.tks.length->EnvLe [(111,.int .i64 (i:Int)),(110,.int .i64 (Int.ofNat t.tks.length)),(109,.slice oa t.tks.length za),(3,ptr b),(0,ptr r)] E->(∀ i,σ .ts=some i->oa=some ⟨i,0,none⟩/\za=1) ->
   Keep (fun _=>False) h g->Ob h.length g σ (cL ρ σ t t.tks.length t.scs.length i)->Dm σ t t.tks.length t.scs.length i->σ .root=some b ->
   ∃ E1 g' σ',EnvLe [(3,ptr b),(0,ptr r)] E1/\LRun Try.prog 177 false (loopN Try.f57 3) E g (.exit 6) E1 g'/\Keep (fun _=>False) h g'/\Ob h.length g' σ' (cL ρ σ' t t.tks.length t.scs.length t.tks.length)/\Dm σ' t t.tks.length t.scs.length t.tks.length/\σ' .root=some b:=by
 intro j
 induction j with
 | zero =>
  intro i E g σ hi hE hts K O D hb
  have e:i=t.tks.length:=by omega
  subst e
  obtain⟨E2,q1,q2⟩:=pvC 0 hE (r27p.c3_out r b 0 0 0 0 0 0 0 0 oa none none none t.tks.length za 0 0 0 0 0 0 t.tks.length 0 0 0 [] [] (.bool true) g g g) ⟨ltF (by simp),trivial⟩
  exact⟨E2,g,σ,.trans (.add (.add (.nil _) rfl) rfl) q1,.last q2 (by simp),K,O,D,hb⟩
 | succ j ih =>
  intro i E g σ hi hE hts K O D hb
  have n64:=ok.n64
  have n200:=ok.n200
  have il:i<t.tks.length:=by omega
  obtain⟨x,hx⟩:∃ x,t.tks[i]?=some x:=⟨_,List.getElem?_eq_getElem il⟩
  have hlen:=ok.len i x hx
  obtain⟨X,hX⟩:=D.tk i il
  cases hto:σ .ts with
  | none=>have:=D.ts hto;omega
  | some to =>
  obtain⟨rfl,rfl⟩:=hts to hto
  have Kl:=K.1
  have Xl:=O.lt hX
  have Xlo:=O.lo _ _ hX
  have bl:=O.lt hb
  have nXb:X≠b:=fun e=>by subst e;cases O.inj _ _ _ hX hb
  have ot:=O.obj _ _ hto
  have oX:=O.obj _ _ hX
  rw[show cL ρ σ t t.tks.length t.scs.length i (.tk i)=tkC ρ i x by simp[cL,hx]] at oX
  have ob:=O.obj _ _ hb
  rw[show cL ρ σ t t.tks.length t.scs.length i .root=[slv (σ .ts) t.tks.length,slv (σ .ss) t.scs.length] from rfl] at ob
  have A1:(Asm.cmp .lss (i:Int) (Int.ofNat t.tks.length) true).holds Try.prog:=ltT (by simp;omega)
  have A2:(Asm.off i 0 (i:Int) t.tks.length 1).holds Try.prog:=offI (q:=i) rfl il (by omega)
  have A3:(Asm.ld1 (.is g) to i (ptr X)).holds Try.prog:=aL ot (by simp[cL,il,hX,pvv])
  have A9:(Asm.arith .add .i64 (i:Int) 1 ((i+1:Nat):Int)).holds Try.prog:=addI rfl (by omega) (by omega)
  obtain⟨oo,zo,hop,hop2⟩:=slv_ex (ρ (.op i)) x.opn.length (fun e=>by rw[a.sh.op i x hx e];rfl)
  have main:∀ gA:Hp,Keep (fun q=>q=X) g gA->gA[X]?=some (.cells [.int .i64 ((i+1:Nat):Int),inP σ x.inn,.slice oo x.opn.length zo,.bool x.lv,.bool x.en,.int .i64 x.fk,.string x.ft] true) ->
    ∃ oc zc g1 g2 F1 σ',Run Try.prog 82 [.slice oo x.opn.length zo] gA (.slice oc x.opn.length zc) g1/\(∃ c,g1[X]?=some (.cells c true)/\c=[.int .i64 ((i+1:Nat):Int),inP σ x.inn,.slice oo x.opn.length zo,.bool x.lv,.bool x.en,.int .i64 x.fk,.string x.ft]) /\
     EnvLe [(13,ptr X),(111,.int .i64 (i:Int)),(110,.int .i64 (Int.ofNat t.tks.length)),(109,.slice (some ⟨to,0,none⟩) t.tks.length 1),(3,ptr b),(0,ptr r)] F1 /\
     LRun Try.prog 177 false (loopN Try.f57 4) [(150,.int .i64 (0:Nat)),(149,.int .i64 (Int.ofNat x.opn.length)),(148,.slice oc x.opn.length zc),(13,ptr X),(111,.int .i64 (i:Int)),(110,.int .i64 (Int.ofNat t.tks.length)),(109,.slice (some ⟨to,0,none⟩) t.tks.length 1),(3,ptr b),(0,ptr r)]
      (g1.set X (.cells [.int .i64 ((i+1:Nat):Int),inP σ x.inn,.slice oc x.opn.length zc,.bool x.lv,.bool x.en,.int .i64 x.fk,.string x.ft] true)) (.exit 8) F1 g2 /\
     Keep (fun _=>False) h g2/\Ob h.length g2 σ' (cL ρ σ' t t.tks.length t.scs.length (i+1))/\Dm σ' t t.tks.length t.scs.length (i+1)/\σ' .root=some b/\σ' .ts=some to:=by
   intro gA KA hXA
   have hKA:Keep (fun _=>False) h gA:=K.trans_new KA fun q hq e=>by subst e;omega
   have aA:=a.grow hKA
   have KAl:=KA.1
   have cl:∃ oc zc g1,∃ od:Option Nat,Run Try.prog 82 [.slice oo x.opn.length zo] gA (.slice oc x.opn.length zc) g1/\Keep (fun _=>False) gA g1/\.slice oc x.opn.length zc=slv od x.opn.length/\(∀ i,od=some i->oc=some ⟨i,0,none⟩/\zc=1)/\(od=none->x.opn=[])/\(∀ d,od=some d->g1[d]?=some (.cells (x.opn.map (inP ρ)) true)/\gA.length<=d):=by
    cases ho:ρ (.op i) with
    | none =>
     have e0:=a.sh.op i x hx ho
     rw[ho,e0] at hop
     simp only[slv,List.length_nil] at hop
     rw[e0,List.length_nil,<- hop]
     exact⟨none,0,gA,none,clone_nil gA,Keep.refl _ _,rfl,fun i e=>(by cases e),fun _=>rfl,fun d e=>(by cases e)⟩
    | some o =>
     obtain⟨rfl,rfl⟩:=hop2 o ho
     obtain⟨junk,hj⟩:=aA.obj _ _ ho
     rw[cont_op hx] at hj
     obtain⟨d,g1,c1,c2,c3,c4⟩:=clone_run hj (n:=x.opn.length) (by simp) (inP_ones ρ _) (by omega)
     exact⟨_,1,g1,some d,c1,c2,rfl,fun i e=>(by cases e;exact⟨rfl,rfl⟩),fun e=>(by cases e),fun d' e=>(by cases e;exact⟨c3,c4⟩)⟩
   obtain⟨oc,zc,g1,od,c1,c2,c3,c4,c5,c6⟩:=cl
   have hX1:=c2.2 _ _ hXA id
   have c2l:=c2.1
   obtain⟨cX,hcX⟩:∃ cX:List Value,cX=[.int .i64 ((i+1:Nat):Int),inP σ x.inn,.slice oc x.opn.length zc,.bool x.lv,.bool x.en,.int .i64 x.fk,.string x.ft]:=⟨_,rfl⟩
   obtain⟨gB,hgB⟩:∃ gB,gB=g1.set X (.cells cX true):=⟨_,rfl⟩
   have KB:Keep (fun q=>q=X) g gB:=by rw[hgB];exact (KA.trans (c2.mono fun _ _ e=>e.elim)).trans (Keep.set (fp:=fun q=>q=X) rfl _)
   have gBl:gB.length=g1.length:=by rw[hgB];simp
   have hXB:gB[X]?=some (.cells cX true):=by rw[hgB];exact gE hX1
   have hKB:Keep (fun _=>False) h gB:=K.trans_new KB fun q hq e=>by subst e;omega
   have hbB:=KB.2 _ _ ob fun e=>nXb e.symm
   have hdg:∀ d,od=some d->g.length<=d:=fun d e=>by have:=(c6 d e).2;omega
   rw[hcX] at hXB
   obtain⟨F1,g2,m1,m2,m3,m4⟩:=copy4 (r:=r) (oa:=oc) (za:=zc) (b:=b) (m:=i) (X:=X) (od:=od) (g0:=gB) (σ:=σ) (u11:=.int .i64 (i:Int)) (u10:=.int .i64 (Int.ofNat t.tks.length)) (u09:=.slice (some ⟨to,0,none⟩) t.tks.length 1) a ok hc hx c4 (fun e=>by rw[c5 e];rfl) hKB hbB
    (fun q e=>KB.2 _ _ (O.obj _ _ e) fun e'=>by subst e';cases O.inj _ _ _ hX e) D.ss D.sc hXB
    (fun o e=>by
     have:=hdg o e
     refine⟨by omega,by omega,by omega,fun e'=>?_⟩
     have:=O.lt e'
     omega) x.opn.length 0
    [(150,.int .i64 (0:Nat)),(149,.int .i64 (Int.ofNat x.opn.length)),(148,.slice oc x.opn.length zc),(13,ptr X),(111,.int .i64 (i:Int)),(110,.int .i64 (Int.ofNat t.tks.length)),(109,.slice (some ⟨to,0,none⟩) t.tks.length 1),(3,ptr b),(0,ptr r)] gB (by omega) (EnvLe.refl _) (Keep.refl _ _)
    (fun o e=>by
     have:=hdg o e
     rw[hgB]
     refine gNq ?_ (by omega)
     rw[(c6 o e).1]
     simp[mixO])
   rw[hgB,hcX] at m2
   have Kall:Keep (fun q=>q=X) g g2:=KB.trans_new m3 fun q hq e=>by have:=hdg q e;omega
   obtain⟨σ',hσ⟩:∃ σ':Lay,σ'=fun r=>if r=.op i then od else σ r:=⟨_,rfl⟩
   have s0:σ' (.op i)=od:=by rw[hσ];simp
   have sn:∀ r,r≠.op i->σ' r=σ r:=fun r h0=>by rw[hσ];simp only[if_neg h0]
   have tks:∀ k,σ' (.tk k)=σ (.tk k):=fun k=>sn _ (by simp)
   have scs:∀ k,σ' (.sc k)=σ (.sc k):=fun k=>sn _ (by simp)
   have inPs:∀ v,inP σ' v=inP σ v:=fun v=>by cases v<;>simp only[inP,scs]
   have hX2:g2[X]?=some (.cells cX true):=m3.2 _ _ (by rw[hcX];exact hXB) fun e=>by have:=hdg X e;omega
   refine⟨oc,zc,g1,g2,F1,σ',c1,⟨_,hX1,rfl⟩,m1,m2,K.trans_new Kall (fun q hq e=>by subst e;omega),O.upd (fun r=>r=.tk i\/r=.op i) Kall (fun r q e f=>by subst f;exact .inl (O.inj _ _ _ e hX)) (fun r d=>?_) (fun r q d e=>?_),?_,by rw[sn _ (by simp)];exact hb,by rw[sn _ (by simp)];exact hto⟩
   ·have e1:r≠.tk i:=fun e=>d (.inl e)
    have e2:r≠.op i:=fun e=>d (.inr e)
    refine⟨sn r e2,fun hn=>?_⟩
    cases r with
    | root=>simp only[cL,sn .ts (by simp),sn .ss (by simp)]
    | ts=>simp only[cL,tks]
    | ss=>simp only[cL,scs]
    | tk k =>
     have n1:k≠i:=fun e=>e1 (by rw[e])
     have n2:Rl.op k≠.op i:=fun e=>n1 (by cases e;rfl)
     by_cases hk:k<i
     ·simp only[cL,hk,Nat.lt_succ_of_lt hk,if_true,tkC,inPs,sn _ n2]
     ·simp only[cL,hk,show ¬ k<i+1 by omega,if_false]
    | op k=>simp only[cL,show inP σ'=inP σ from funext inPs]
    | sc k=>simp only[cL,scC,tks,sn (.st k) (by simp)]
    | st k=>simp only[cL,tks]
   ·rcases d with rfl | rfl
    ·rw[tks] at e
     rw[hX] at e;cases e
     refine⟨?_,Xlo,fun r' e'=>?_⟩
     ·rw[show cL ρ σ' t t.tks.length t.scs.length (i+1) (.tk i)=cX by simp only[cL,hx,Nat.lt_succ_self,if_true,tkC,inPs,s0,hcX,c3]]
      exact hX2
     ·by_cases r0:r'=.op i
      ·subst r0;rw[s0] at e';have:=hdg _ e';omega
      ·rw[sn r' r0] at e';exact O.inj _ _ _ e' hX
    ·rw[s0] at e
     have hq:=hdg q e
     refine⟨?_,by omega,fun r' e'=>?_⟩
     ·rw[show cL ρ σ' t t.tks.length t.scs.length (i+1) (.op i)=x.opn.map (inP σ) by simp only[cL,hx,inPs];exact List.map_congr_left fun v _=>inPs v]
      exact m4 q e
     ·by_cases r0:r'=.op i
      ·exact r0
      ·rw[sn r' r0] at e';have:=O.lt e';omega
   ·refine⟨fun k hk=>by rw[tks];exact D.tk k hk,fun k hk=>by rw[scs];exact D.sc k hk,fun e=>?_,fun e=>?_,fun k x' hk hx' e=>?_,fun k x hk hx e=>?_,fun k hk=>by rw[tks];exact D.otk k hk,fun k hk=>?_,fun k hk=>?_⟩
    ·rw[sn _ (by simp)] at e;exact D.ts e
    ·rw[sn _ (by simp)] at e;exact D.ss e
    ·by_cases e1:k=i
     ·subst e1
      rw[hx] at hx';cases hx'
      rw[s0] at e
      exact c5 e
     ·rw[sn _ (by intro e';cases e';exact e1 rfl)] at e;exact D.op k x' (by omega) hx' e
    ·rw[sn _ (by simp)] at e;exact D.st k x hk hx e
    ·rw[sn _ (by intro e;cases e;omega)];exact D.oop k (by omega)
    ·rw[scs,sn _ (by simp)];exact D.osc k hk
  cases hin:x.inn with
  | none =>
   rw[hin] at main
   obtain⟨oc,zc,g1,g2,F1,σ',p1,⟨cX,p2,rfl⟩,p3,p4,p5,p6,p7,p8,p9⟩:=main g (Keep.refl _ _) (by rw[oX,tkC,hop,hin];rfl)
   obtain⟨E2,q1,q2⟩:=pvC 0 hE (r27p.c3_nil r b to i X 0 0 0 0 0 none oo oc oc t.tks.length 1 x.opn.length zo x.opn.length zc x.opn.length zc i ((i+1:Nat):Int) 0 0 [] [.int .i64 ((i+1:Nat):Int),.pointer none,.slice oc x.opn.length zc,.bool x.lv,.bool x.en,.int .i64 x.fk,.string x.ft] (.bool true) g g1 g2)
    ⟨A1,A2,A3,aL oX (by rw[tkC,hin];rfl),aL oX (by rw[tkC,hop];rfl),p1,a_st p2 (by simp) rfl,aL (gE p2) rfl,a_loop (by kernel_rfl) (.add (.add (.add (.add (.add (.add (.add (.add (.add (.nil _) rfl) rfl) rfl) rfl) rfl) rfl) rfl) rfl) rfl) p3 p4,A9,trivial⟩
   obtain⟨E3,g9,σ3,w1,w2,w3,w4,w5,w6⟩:=ih (i+1) E2 g2 σ' (by omega) (.trans (.add (.add (.add (.add (.add (.nil _) rfl) rfl) rfl) rfl) rfl) q1) (fun k e=>by rw[p9] at e;cases e;exact⟨rfl,rfl⟩) p5 p6 p7 p8
   exact⟨E3,g9,σ3,w1,.step q2 w2,w3,w4,w5,w6⟩
  | some s =>
   rw[hin] at main
   have hsl:=ok.inn i x s hx hin
   obtain⟨si,hsi⟩:=a.sh.sc s hsl
   obtain⟨y,hy⟩:∃ y,t.scs[s]?=some y:=⟨_,List.getElem?_eq_getElem hsl⟩
   obtain⟨ci,hci⟩:=D.sc s hsl
   have ag:=a.grow K
   cases hq:σ .ss with
   | none=>have:=D.ss hq;omega
   | some q =>
   rw[hq] at ob
   have gq:=O.obj _ _ hq
   have hcv:inP σ (some s)=ptr ci:=by simp only[inP,hci,pvv]
   have hpv:inP ρ (some s)=ptr si:=by simp only[inP,hsi,pvv]
   have oX':=oX
   rw[show tkC ρ i x=[.int .i64 ((i+1:Nat):Int),ptr si,.slice oo x.opn.length zo,.bool x.lv,.bool x.en,.int .i64 x.fk,.string x.ft] by rw[tkC,hop,hin,hpv]] at oX'
   rw[hcv] at main
   obtain⟨oc,zc,g1,g2,F1,σ',p1,⟨cX,p2,rfl⟩,p3,p4,p5,p6,p7,p8,p9⟩:=main (g.set X (.cells [.int .i64 ((i+1:Nat):Int),ptr ci,.slice oo x.opn.length zo,.bool x.lv,.bool x.en,.int .i64 x.fk,.string x.ft] true)) (Keep.set (fp:=fun q=>q=X) rfl _) (gE oX)
   obtain⟨E2,q1,q2⟩:=pvC 0 hE (r27p.c3_in r b to i X si ci s q t.scs.length none oo oc oc t.tks.length 1 x.opn.length zo x.opn.length zc x.opn.length zc i ((i+1:Nat):Int) ((s+1:Nat):Int) s [.int .i64 ((i+1:Nat):Int),ptr ci,.slice oo x.opn.length zo,.bool x.lv,.bool x.en,.int .i64 x.fk,.string x.ft] [.int .i64 ((i+1:Nat):Int),ptr ci,.slice oc x.opn.length zc,.bool x.lv,.bool x.en,.int .i64 x.fk,.string x.ft] (.bool true) g g1 g2)
    ⟨A1,A2,A3,aL oX' rfl,stat20 2 (by simp),aL ob rfl,aL oX' rfl,ag.ld1 rfl hsi (by rw[cSq hy];rfl),subI (by omega) (by omega) (by omega),offI (q:=s) rfl hsl (by omega),aL gq (by simp[cL,hsl,hci,pvv]),a_st oX' (by simp) rfl,aL (gE oX') rfl,p1,a_st p2 (by simp) rfl,aL (gE p2) rfl,a_loop (by kernel_rfl) (.add (.add (.add (.add (.add (.add (.add (.add (.add (.nil _) rfl) rfl) rfl) rfl) rfl) rfl) rfl) rfl) rfl) p3 p4,A9,trivial⟩
   obtain⟨E3,g9,σ3,w1,w2,w3,w4,w5,w6⟩:=ih (i+1) E2 g2 σ' (by omega) (.trans (.add (.add (.add (.add (.add (.nil _) rfl) rfl) rfl) rfl) rfl) q1) (fun k e=>by rw[p9] at e;cases e;exact⟨rfl,rfl⟩) p5 p6 p7 p8
   exact⟨E3,g9,σ3,w1,.step q2 w2,w3,w4,w5,w6⟩
theorem copy_run(a:TAt h ρ t)(ok:TOk c t)(hc:c<=100000)(hr:ρ .root=some r) :
  ∃ b σ h',Run Try.prog 57 [ptr r] h (ptr b) h'/\TAt h' σ t/\Made h h' σ b:=by
 obtain⟨h1,hh1⟩:∃ h1,h1=h++[AObj.cells [.slice none 0 0,.slice none 0 0] true]:=⟨_,rfl⟩
 have K1:Keep (fun _=>False) h h1:=by rw[hh1];exact (Keep.refl _ _).pushN _
 have hb1:h1[h.length]?=some (.cells [.slice none 0 0,.slice none 0 0] true):=by rw[hh1];exact gW _ _
 obtain⟨σ0,hσ⟩:∃ σ0:Lay,σ0=fun r=>if r=.root then some h.length else none:=⟨_,rfl⟩
 have s0:σ0 .root=some h.length:=by rw[hσ];simp
 have sn:∀ r,r≠.root->σ0 r=none:=fun r e=>by rw[hσ];simp[e]
 have only:∀ r i,σ0 r=some i->r=.root/\i=h.length:=fun r i e=>by
  by_cases e1:r=.root
  ·subst e1;rw[s0] at e;cases e;exact⟨rfl,rfl⟩
  ·rw[sn r e1] at e;cases e
 have O0:Ob h.length h1 σ0 (cL ρ σ0 t 0 0 0):=by
  refine⟨fun r r' i e e'=>by rw[(only r i e).1,(only r' i e').1],fun r i e=>?_,fun r i e=>by rw[(only r i e).2];exact Nat.le_refl _⟩
  obtain⟨rfl,rfl⟩:=only r i e
  rw[hb1];simp only[cL,sn .ts (by simp),sn .ss (by simp),slv]
 have D0:Dm σ0 t 0 0 0:=⟨fun k hk=>absurd hk (Nat.not_lt_zero _),fun k hk=>absurd hk (Nat.not_lt_zero _),fun _=>rfl,fun _=>rfl,fun k x hk=>absurd hk (Nat.not_lt_zero _),fun k x hk=>absurd hk (Nat.not_lt_zero _),fun k _=>sn _ (by simp),fun k _=>sn _ (by simp),fun k _=>⟨sn _ (by simp),sn _ (by simp)⟩⟩
 obtain⟨oa,za,e1,e1'⟩:=slv_ex (ρ .ts) t.tks.length (fun e=>by rw[a.sh.ts e];rfl)
 obtain⟨ob,zb,e2,e2'⟩:=slv_ex (ρ .ss) t.scs.length (fun e=>by rw[a.sh.ss e];rfl)
 obtain⟨E1,g1,σ1,w1,w2,w3,w4,w5,w6⟩:=copy0 (r:=r) (b:=h.length) a ok hr e1' t.tks.length 0 [(25,.int .i64 (0:Nat)),(24,.int .i64 (Int.ofNat t.tks.length)),(23,.slice oa t.tks.length za),(3,ptr h.length),(0,ptr r)] h1 σ0 (by omega) (EnvLe.refl _) K1 O0 D0 s0
 obtain⟨E2,g2,σ2,x1,x2,x3,x4,x5,x6⟩:=copy1 (r:=r) (b:=h.length) a ok hc hr e2' t.scs.length 0 [(47,.int .i64 (0:Nat)),(46,.int .i64 (Int.ofNat t.scs.length)),(45,.slice ob t.scs.length zb),(3,ptr h.length),(0,ptr r)] g1 σ1 (by omega) (EnvLe.refl _) w3 w4 w5 w6
 obtain⟨oc,zc,e3,e3'⟩:=slv_ex (σ2 .ts) t.tks.length x5.ts
 obtain⟨E3,g3,σ3,y1,y2,y3,y4,y5,y6⟩:=copy3 (r:=r) (b:=h.length) (oa:=oc) (za:=zc) a ok hc hr t.tks.length 0 [(111,.int .i64 (0:Nat)),(110,.int .i64 (Int.ofNat t.tks.length)),(109,.slice oc t.tks.length zc),(3,ptr h.length),(0,ptr r)] g2 σ2 (by omega) (EnvLe.refl _) e3' x3 x4 x5 x6
 have L:∀ (Em E F:Env) (g g':Hp),True:=fun _ _ _ _ _=>trivial
 rw[hh1] at w2
 refine⟨h.length,σ3,g3,pvF 0 Try.func57 (r27p.cp r h.length 0 oa ob oc t.tks.length t.scs.length t.tks.length za zb zc h g1 g2 g3)
  ⟨rfl,?_,a_loop (by kernel_rfl) (.add (.add (.add (.add (.add (.nil _) rfl) rfl) rfl) rfl) rfl) w1 w2,?_,a_loop (by kernel_rfl) (.add (.add (.add (.add (.add (.nil _) rfl) rfl) rfl) rfl) rfl) x1 x2,?_,a_loop (by kernel_rfl) (.add (.add (.add (.add (.add (.nil _) rfl) rfl) rfl) rfl) rfl) y1 y2,trivial⟩,?_,?_⟩
 ·rw[<- e1];exact (a.grow K1).hdT hr (by rw[hh1];rfl)
 ·rw[<- e2];exact (a.grow w3).hdS hr rfl
 ·rw[<- e3];exact aL (x4.obj _ _ x6) rfl
 ·have D:=y5
  have O:=y4
  refine⟨⟨⟨_,y6⟩,D.tk,D.sc,fun e=>List.length_eq_zero_iff.1 (D.ts e),fun e=>List.length_eq_zero_iff.1 (D.ss e),fun k x hx e=>D.op k x (gT hx) hx e,fun k x hx e=>D.st k x (gT hx) hx e,fun k hk=>⟨D.otk k hk,D.oop k hk⟩,D.osc⟩,O.inj,fun r i e=>⟨[],?_⟩⟩
  rw[List.append_nil,O.obj r i e]
  cases r with
  | tk k =>
   simp only[cL,cont]
   cases hk:t.tks[k]? with
   | none=>rfl
   | some x=>simp only[gT hk,if_true]
  | root=>rfl
  | ts=>rfl
  | ss=>rfl
  | op k=>rfl
  | sc k=>rfl
  | st k=>rfl
 ·exact⟨y3,y6,fun q e=>by obtain⟨r',e⟩:=e;exact y4.lo _ _ e⟩
end
end Go.Proofs.Ytlonjogfeidgfaa.tr
namespace Go.Proofs.Ytlonjogfeidgfaa.r43p
open Go Go.Ev
set_option maxRecDepth 100000
set_option linter.unusedVariables false
theorem bl_err(r si b8 b9 la za:Nat)(oa:Option Addr)(n e:Int)(g g2 g3:Hp) :
  let Z1:List Value:=[.pointer (some ⟨r,0,none⟩),.int .i64 n]
  let Z2:Value:=.tuple #[.pointer none,.int .i64 e]
  pvFn Try.prog (pvCall Try.prog 0) Try.f47 Z1 (.is g) [.ret Z2 (.is g2),.bit true] =
  some (.tuple #[.slice none 0 0,.int .i64 e],.is g2,[],[.call 72 Z1 (.is g) Z2 (.is g2),.cmp .neq e 0 true]):=by intros;kernel_rfl
theorem bl_ok(r si b8 b9 la za:Nat)(oa:Option Addr)(n e:Int)(g g2 g3:Hp) :
  let Z1:List Value:=[.pointer (some ⟨r,0,none⟩),.int .i64 n]
  let Z2:Value:=.pointer (some ⟨si,0,none⟩)
  let Z3:Value:=.tuple #[Z2,.int .i64 0]
  let Z4:Value:=.pointer (some ⟨b8,0,none⟩)
  let Z5:Value:=.pointer (some ⟨b9,0,none⟩)
  let Z6:Value:=.func (.func 73) #[] #[Z4,Z5]
  let Z7:SH:=.push (.is g2) (.cells [.slice none 0 0] true)
  let Z8:SH:=.push Z7 (.cells [.nilFunc] true)
  let Z9:Value:=.func (Fn.func 73) #[] #[Z4,Z5]
  let Z10:List Value:=[Z9]
  let Z11:SH:=.set Z8 b9 (.cells Z10 true)
  pvFn Try.prog (pvCall Try.prog 0) Try.f47 Z1 (.is g) [.ret Z3 (.is g2),.bit false,.idx b8,.idx b9,.cells [Z6],.val Z6,.ret (.tuple #[]) (.is g3),.val (.slice oa la za)] =
  some (.tuple #[.slice oa la za,.int .i64 0],.is g3,[],[.call 72 Z1 (.is g) Z3 (.is g2),.cmp .neq 0 0 false,.len (.is g2) b8,.len Z7 b9,.st Z8 b9 0 Z10 Z10,.ld1 Z11 b9 0 Z9,.call 73 [Z2,Z4,Z5] Z11 (.tuple #[]) (.is g3),.ld1 (.is g3) b8 0 (.slice oa la za)]):=by intros;kernel_rfl
theorem bw_abs(s b8 b9 la za lb zb oo ow y a q:Nat)(oa ob:Option Addr)(at_ at1:Int)(g g1 g2 g3 g4:Hp) :
  let Z1:Value:=.pointer (some ⟨s,0,none⟩)
  let Z2:Value:=.pointer (some ⟨b8,0,none⟩)
  let Z3:Value:=.pointer (some ⟨b9,0,none⟩)
  let Z4:Env:=[(0,Z1),(1,Z2),(2,Z3)]
  let Z5:Value:=.pointer (some ⟨ow,0,none⟩)
  pvFn Try.prog (pvCall Try.prog 0) Try.f73 [Z1,Z2,Z3] (.is g) [.val (.slice oa la za),.loop (.exit 0) Z4 (.is g1),.val Z5,.val (.slice ob lb zb),.ret (.int .i64 at_) (.is g2),.bit true] =
  some (.tuple #[],.is g2,[],[.ld1 (.is g) s 4 (.slice oa la za),.loop 67 false (loopN Try.f73 0) [(14,.int .i64 0),(13,.int .i64 (Int.ofNat la)),(12,.slice oa la za),(11,.pointer (some ⟨s,4,none⟩)),(10,Z1),(9,Z1),(0,Z1),(1,Z2),(2,Z3)] (.is g) (.exit 0) Z4 (.is g1),.ld1 (.is g1) s 1 Z5,.ld1 (.is g1) ow 2 (.slice ob lb zb),.call 75 [.slice ob lb zb,Z1] (.is g1) (.int .i64 at_) (.is g2),.cmp .lss at_ 0 true]):=by intros;kernel_rfl
theorem bw_nil(s b8 b9 la za lb zb oo ow y a q:Nat)(oa ob:Option Addr)(at_ at1:Int)(g g1 g2 g3 g4:Hp) :
  let Z1:Value:=.pointer (some ⟨s,0,none⟩)
  let Z2:Value:=.pointer (some ⟨b8,0,none⟩)
  let Z3:Value:=.pointer (some ⟨b9,0,none⟩)
  let Z4:Env:=[(0,Z1),(1,Z2),(2,Z3)]
  let Z5:Value:=.pointer (some ⟨ow,0,none⟩)
  let Z6:Value:=.slice (some ⟨oo,0,none⟩) lb 1
  pvFn Try.prog (pvCall Try.prog 0) Try.f73 [Z1,Z2,Z3] (.is g) [.val (.slice oa la za),.loop (.exit 0) Z4 (.is g1),.val Z5,.val Z6,.ret (.int .i64 at_) (.is g2),.bit false,.val Z5,.val Z6,.num (Int.ofNat a),.cut a lb,.ret (.pointer none) (.is g3)] =
  some (.tuple #[],.is g3,[],[.ld1 (.is g) s 4 (.slice oa la za),.loop 67 false (loopN Try.f73 0) [(14,.int .i64 0),(13,.int .i64 (Int.ofNat la)),(12,.slice oa la za),(11,.pointer (some ⟨s,4,none⟩)),(10,Z1),(9,Z1),(0,Z1),(1,Z2),(2,Z3)] (.is g) (.exit 0) Z4 (.is g1),.ld1 (.is g1) s 1 Z5,.ld1 (.is g1) ow 2 Z6,.call 75 [Z6,Z1] (.is g1) (.int .i64 at_) (.is g2),.cmp .lss at_ 0 false,.ld1 (.is g2) s 1 Z5,.ld1 (.is g2) ow 2 Z6,.arith .add .i64 at_ 1 (Int.ofNat a),.cut (some (.int .i64 (Int.ofNat a))) none lb a lb,.call 74 [.slice (some { block:=oo,off:=0+a*1 }) (lb-a) 1] (.is g2) (.pointer none) (.is g3)]):=by intros;kernel_rfl
theorem bw_go(s b8 b9 la za lb zb oo ow y a q:Nat)(oa ob:Option Addr)(at_ at1:Int)(g g1 g2 g3 g4:Hp) :
  let Z1:Value:=.pointer (some ⟨s,0,none⟩)
  let Z2:Value:=.pointer (some ⟨b8,0,none⟩)
  let Z3:Value:=.pointer (some ⟨b9,0,none⟩)
  let Z4:Env:=[(0,Z1),(1,Z2),(2,Z3)]
  let Z5:Value:=.pointer (some ⟨ow,0,none⟩)
  let Z6:Value:=.slice (some ⟨oo,0,none⟩) lb 1
  let Z7:Value:=.pointer (some ⟨y,0,none⟩)
  pvFn Try.prog (pvCall Try.prog 0) Try.f73 [Z1,Z2,Z3] (.is g) [.val (.slice oa la za),.loop (.exit 0) Z4 (.is g1),.val Z5,.val Z6,.ret (.int .i64 at_) (.is g2),.bit false,.val Z5,.val Z6,.num (Int.ofNat a),.cut a lb,.ret Z7 (.is g3),.val (.func (.func 73) #[] #[Z2,Z3]),.ret (.tuple #[]) (.is g4)] =
  some (.tuple #[],.is g4,[],[.ld1 (.is g) s 4 (.slice oa la za),.loop 67 false (loopN Try.f73 0) [(14,.int .i64 0),(13,.int .i64 (Int.ofNat la)),(12,.slice oa la za),(11,.pointer (some ⟨s,4,none⟩)),(10,Z1),(9,Z1),(0,Z1),(1,Z2),(2,Z3)] (.is g) (.exit 0) Z4 (.is g1),.ld1 (.is g1) s 1 Z5,.ld1 (.is g1) ow 2 Z6,.call 75 [Z6,Z1] (.is g1) (.int .i64 at_) (.is g2),.cmp .lss at_ 0 false,.ld1 (.is g2) s 1 Z5,.ld1 (.is g2) ow 2 Z6,.arith .add .i64 at_ 1 (Int.ofNat a),.cut (some (.int .i64 (Int.ofNat a))) none lb a lb,.call 74 [.slice (some { block:=oo,off:=0+a*1 }) (lb-a) 1] (.is g2) Z7 (.is g3),.ld1 (.is g3) b9 0 (.func (Fn.func 73) #[] #[Z2,Z3]),.call 73 [Z7,Z2,Z3] (.is g3) (.tuple #[]) (.is g4)]):=by intros;kernel_rfl
theorem bm_out(s b8 b9 oo ln za q x d z w m y lo zo:Nat)(oa op:Option Addr)(i i1 n:Int)(cs news c2:List Value)(g g2 g3:Hp) :
  pvCode Try.prog (pvCall Try.prog 0) 67 false (loopN Try.f73 0) [(14,.int .i64 i),(13,.int .i64 (Int.ofNat ln)),(12,.slice oa ln za),(0,.pointer (some ⟨s,0,none⟩)),(1,.pointer (some ⟨b8,0,none⟩)),(2,.pointer (some ⟨b9,0,none⟩))] (.is g) [.bit false] =
  some (.exit 0,[(15,.bool false),(14,.int .i64 i),(13,.int .i64 (Int.ofNat ln)),(12,.slice oa ln za),(0,.pointer (some ⟨s,0,none⟩)),(1,.pointer (some ⟨b8,0,none⟩)),(2,.pointer (some ⟨b9,0,none⟩))],.is g,[],[.cmp .lss i (Int.ofNat ln) false]):=by intros;kernel_rfl
theorem bm_end(s b8 b9 oo ln za q x d z w m y lo zo:Nat)(oa op:Option Addr)(i i1 n:Int)(cs news c2:List Value)(g g2 g3:Hp) :
  let Z1:Value:=.pointer (some ⟨x,0,none⟩)
  pvCode Try.prog (pvCall Try.prog 0) 67 false (loopN Try.f73 0) [(14,.int .i64 i),(13,.int .i64 (Int.ofNat ln)),(12,.slice (some ⟨oo,0,none⟩) ln 1),(0,.pointer (some ⟨s,0,none⟩)),(1,.pointer (some ⟨b8,0,none⟩)),(2,.pointer (some ⟨b9,0,none⟩))] (.is g) [.bit true,.offs q,.val Z1,.val (.bool true),.num i1] =
  some (.normal,[(14,.int .i64 i1),(39,.int .i64 i1),(21,.bool true),(20,.pointer (some ⟨x,4,none⟩)),(19,Z1),(18,Z1),(5,Z1),(17,Z1),(16,.pointer (some ⟨oo,q,none⟩)),(15,.bool true),(14,.int .i64 i),(13,.int .i64 (Int.ofNat ln)),(12,.slice (some ⟨oo,0,none⟩) ln 1),(0,.pointer (some ⟨s,0,none⟩)),(1,.pointer (some ⟨b8,0,none⟩)),(2,.pointer (some ⟨b9,0,none⟩))],.is g,[],[.cmp .lss i (Int.ofNat ln) true,.off q 0 i ln 1,.ld1 (.is g) oo q Z1,.ld1 (.is g) x 4 (.bool true),.arith .add .i64 i 1 i1]):=by intros;kernel_rfl
theorem bm_nn(s b8 b9 oo ln za q x d z w m y lo zo:Nat)(oa op:Option Addr)(i i1 n:Int)(cs news c2:List Value)(g g2 g3:Hp) :
  let Z1:Value:=.pointer (some ⟨x,0,none⟩)
  let Z2:Value:=.slice (some ⟨z,0,none⟩) 1 1
  let Z3:SH:=.push (.is g) (.cells [.int .i64 n] true)
  let Z4:SH:=.push Z3 (.cells news true)
  let Z5:SH:=.set Z4 b8 (.cells c2 true)
  pvCode Try.prog (pvCall Try.prog 0) 67 false (loopN Try.f73 0) [(14,.int .i64 i),(13,.int .i64 (Int.ofNat ln)),(12,.slice (some ⟨oo,0,none⟩) ln 1),(0,.pointer (some ⟨s,0,none⟩)),(1,.pointer (some ⟨b8,0,none⟩)),(2,.pointer (some ⟨b9,0,none⟩))] (.is g) [.bit true,.offs q,.val Z1,.val (.bool false),.val (.slice none 0 0),.val (.int .i64 n),.idx d,.app [] news 0 z,.cells c2,.val (.slice op lo zo),.ret (.pointer none) (.is g2),.num i1] =
  some (.normal,[(14,.int .i64 i1),(39,.int .i64 i1),(35,.bool false),(34,.pointer none),(6,.pointer none),(33,.pointer none),(32,.slice op lo zo),(31,.pointer (some ⟨x,2,none⟩)),(30,Z1),(29,Z1),(28,Z2),(27,.slice (some ⟨d,0,none⟩) 1 1),(26,.int .i64 n),(25,Z1),(24,Z1),(23,Z1),(22,.slice none 0 0),(21,.bool false),(20,.pointer (some ⟨x,4,none⟩)),(19,Z1),(18,Z1),(5,Z1),(17,Z1),(16,.pointer (some ⟨oo,q,none⟩)),(15,.bool true),(14,.int .i64 i),(13,.int .i64 (Int.ofNat ln)),(12,.slice (some ⟨oo,0,none⟩) ln 1),(0,.pointer (some ⟨s,0,none⟩)),(1,.pointer (some ⟨b8,0,none⟩)),(2,.pointer (some ⟨b9,0,none⟩))],.is g2,[],[.cmp .lss i (Int.ofNat ln) true,.off q 0 i ln 1,.ld1 (.is g) oo q Z1,.ld1 (.is g) x 4 (.bool false),.stat (drawN Try.f73 0),.ld1 (.is g) b8 0 (.slice none 0 0),.ld1 (.is g) x 0 (.int .i64 n),.len (.is g) d,.appNil Z3 d 0 1 0 1 8 news z,.st Z4 b8 0 [Z2] c2,.ld1 Z5 x 2 (.slice op lo zo),.call 74 [.slice op lo zo] Z5 (.pointer none) (.is g2),.arith .add .i64 i 1 i1]):=by intros;kernel_rfl
theorem bm_ns(s b8 b9 oo ln za q x d z w m y lo zo:Nat)(oa op:Option Addr)(i i1 n:Int)(cs news c2:List Value)(g g2 g3:Hp) :
  let Z1:Value:=.pointer (some ⟨b8,0,none⟩)
  let Z2:Value:=.pointer (some ⟨b9,0,none⟩)
  let Z3:Value:=.pointer (some ⟨x,0,none⟩)
  let Z4:Value:=.pointer (some ⟨y,0,none⟩)
  let Z5:Value:=.func (Fn.func 73) #[] #[Z1,Z2]
  let Z6:Value:=.slice (some ⟨z,0,none⟩) 1 1
  let Z7:SH:=.push (.is g) (.cells [.int .i64 n] true)
  let Z8:SH:=.push Z7 (.cells news true)
  let Z9:SH:=.set Z8 b8 (.cells c2 true)
  pvCode Try.prog (pvCall Try.prog 0) 67 false (loopN Try.f73 0) [(14,.int .i64 i),(13,.int .i64 (Int.ofNat ln)),(12,.slice (some ⟨oo,0,none⟩) ln 1),(0,.pointer (some ⟨s,0,none⟩)),(1,Z1),(2,Z2)] (.is g) [.bit true,.offs q,.val Z3,.val (.bool false),.val (.slice none 0 0),.val (.int .i64 n),.idx d,.app [] news 0 z,.cells c2,.val (.slice op lo zo),.ret Z4 (.is g2),.val (.func (.func 73) #[] #[Z1,Z2]),.ret (.tuple #[]) (.is g3),.num i1] =
  some (.normal,[(14,.int .i64 i1),(39,.int .i64 i1),(38,.tuple #[]),(37,Z4),(36,Z5),(35,.bool true),(34,Z4),(6,Z4),(33,Z4),(32,.slice op lo zo),(31,.pointer (some ⟨x,2,none⟩)),(30,Z3),(29,Z3),(28,Z6),(27,.slice (some ⟨d,0,none⟩) 1 1),(26,.int .i64 n),(25,Z3),(24,Z3),(23,Z3),(22,.slice none 0 0),(21,.bool false),(20,.pointer (some ⟨x,4,none⟩)),(19,Z3),(18,Z3),(5,Z3),(17,Z3),(16,.pointer (some ⟨oo,q,none⟩)),(15,.bool true),(14,.int .i64 i),(13,.int .i64 (Int.ofNat ln)),(12,.slice (some ⟨oo,0,none⟩) ln 1),(0,.pointer (some ⟨s,0,none⟩)),(1,Z1),(2,Z2)],.is g3,[],[.cmp .lss i (Int.ofNat ln) true,.off q 0 i ln 1,.ld1 (.is g) oo q Z3,.ld1 (.is g) x 4 (.bool false),.stat (drawN Try.f73 0),.ld1 (.is g) b8 0 (.slice none 0 0),.ld1 (.is g) x 0 (.int .i64 n),.len (.is g) d,.appNil Z7 d 0 1 0 1 8 news z,.st Z8 b8 0 [Z6] c2,.ld1 Z9 x 2 (.slice op lo zo),.call 74 [.slice op lo zo] Z9 Z4 (.is g2),.ld1 (.is g2) b9 0 Z5,.call 73 [Z4,Z1,Z2] (.is g2) (.tuple #[]) (.is g3),.arith .add .i64 i 1 i1]):=by intros;kernel_rfl
theorem bm_sn(s b8 b9 oo ln za q x d z w m y lo zo:Nat)(oa op:Option Addr)(i i1 n:Int)(cs news c2:List Value)(g g2 g3:Hp) :
  let Z1:Value:=.pointer (some ⟨x,0,none⟩)
  let Z2:Value:=.slice (some ⟨w,0,none⟩) m 1
  let Z3:Value:=.slice (some ⟨z,0,none⟩) (Nat.succ m) 1
  let Z4:SH:=.push (.is g) (.cells [.int .i64 n] true)
  let Z5:SH:=.push (.set Z4 w .dead) (.cells cs true)
  let Z6:SH:=.set Z5 b8 (.cells c2 true)
  pvCode Try.prog (pvCall Try.prog 0) 67 false (loopN Try.f73 0) [(14,.int .i64 i),(13,.int .i64 (Int.ofNat ln)),(12,.slice (some ⟨oo,0,none⟩) ln 1),(0,.pointer (some ⟨s,0,none⟩)),(1,.pointer (some ⟨b8,0,none⟩)),(2,.pointer (some ⟨b9,0,none⟩))] (.is g) [.bit true,.offs q,.val Z1,.val (.bool false),.val Z2,.val (.int .i64 n),.idx d,.app cs news 0 z,.cells c2,.val (.slice op lo zo),.ret (.pointer none) (.is g2),.num i1] =
  some (.normal,[(14,.int .i64 i1),(39,.int .i64 i1),(35,.bool false),(34,.pointer none),(6,.pointer none),(33,.pointer none),(32,.slice op lo zo),(31,.pointer (some ⟨x,2,none⟩)),(30,Z1),(29,Z1),(28,Z3),(27,.slice (some ⟨d,0,none⟩) 1 1),(26,.int .i64 n),(25,Z1),(24,Z1),(23,Z1),(22,Z2),(21,.bool false),(20,.pointer (some ⟨x,4,none⟩)),(19,Z1),(18,Z1),(5,Z1),(17,Z1),(16,.pointer (some ⟨oo,q,none⟩)),(15,.bool true),(14,.int .i64 i),(13,.int .i64 (Int.ofNat ln)),(12,.slice (some ⟨oo,0,none⟩) ln 1),(0,.pointer (some ⟨s,0,none⟩)),(1,.pointer (some ⟨b8,0,none⟩)),(2,.pointer (some ⟨b9,0,none⟩))],.is g2,[],[.cmp .lss i (Int.ofNat ln) true,.off q 0 i ln 1,.ld1 (.is g) oo q Z1,.ld1 (.is g) x 4 (.bool false),.stat (drawN Try.f73 0),.ld1 (.is g) b8 0 Z2,.ld1 (.is g) x 0 (.int .i64 n),.len (.is g) d,.app Z4 w 0 m d 0 1 0 1 8 cs news z,.st Z5 b8 0 [Z3] c2,.ld1 Z6 x 2 (.slice op lo zo),.call 74 [.slice op lo zo] Z6 (.pointer none) (.is g2),.arith .add .i64 i 1 i1]):=by intros;kernel_rfl
theorem bm_ss(s b8 b9 oo ln za q x d z w m y lo zo:Nat)(oa op:Option Addr)(i i1 n:Int)(cs news c2:List Value)(g g2 g3:Hp) :
  let Z1:Value:=.pointer (some ⟨b8,0,none⟩)
  let Z2:Value:=.pointer (some ⟨b9,0,none⟩)
  let Z3:Value:=.pointer (some ⟨x,0,none⟩)
  let Z4:Value:=.slice (some ⟨w,0,none⟩) m 1
  let Z5:Value:=.pointer (some ⟨y,0,none⟩)
  let Z6:Value:=.func (Fn.func 73) #[] #[Z1,Z2]
  let Z7:Value:=.slice (some ⟨z,0,none⟩) (Nat.succ m) 1
  let Z8:SH:=.push (.is g) (.cells [.int .i64 n] true)
  let Z9:SH:=.push (.set Z8 w .dead) (.cells cs true)
  let Z10:SH:=.set Z9 b8 (.cells c2 true)
  pvCode Try.prog (pvCall Try.prog 0) 67 false (loopN Try.f73 0) [(14,.int .i64 i),(13,.int .i64 (Int.ofNat ln)),(12,.slice (some ⟨oo,0,none⟩) ln 1),(0,.pointer (some ⟨s,0,none⟩)),(1,Z1),(2,Z2)] (.is g) [.bit true,.offs q,.val Z3,.val (.bool false),.val Z4,.val (.int .i64 n),.idx d,.app cs news 0 z,.cells c2,.val (.slice op lo zo),.ret Z5 (.is g2),.val (.func (.func 73) #[] #[Z1,Z2]),.ret (.tuple #[]) (.is g3),.num i1] =
  some (.normal,[(14,.int .i64 i1),(39,.int .i64 i1),(38,.tuple #[]),(37,Z5),(36,Z6),(35,.bool true),(34,Z5),(6,Z5),(33,Z5),(32,.slice op lo zo),(31,.pointer (some ⟨x,2,none⟩)),(30,Z3),(29,Z3),(28,Z7),(27,.slice (some ⟨d,0,none⟩) 1 1),(26,.int .i64 n),(25,Z3),(24,Z3),(23,Z3),(22,Z4),(21,.bool false),(20,.pointer (some ⟨x,4,none⟩)),(19,Z3),(18,Z3),(5,Z3),(17,Z3),(16,.pointer (some ⟨oo,q,none⟩)),(15,.bool true),(14,.int .i64 i),(13,.int .i64 (Int.ofNat ln)),(12,.slice (some ⟨oo,0,none⟩) ln 1),(0,.pointer (some ⟨s,0,none⟩)),(1,Z1),(2,Z2)],.is g3,[],[.cmp .lss i (Int.ofNat ln) true,.off q 0 i ln 1,.ld1 (.is g) oo q Z3,.ld1 (.is g) x 4 (.bool false),.stat (drawN Try.f73 0),.ld1 (.is g) b8 0 Z4,.ld1 (.is g) x 0 (.int .i64 n),.len (.is g) d,.app Z8 w 0 m d 0 1 0 1 8 cs news z,.st Z9 b8 0 [Z7] c2,.ld1 Z10 x 2 (.slice op lo zo),.call 74 [.slice op lo zo] Z10 Z5 (.is g2),.ld1 (.is g2) b9 0 Z6,.call 73 [Z5,Z1,Z2] (.is g2) (.tuple #[]) (.is g3),.arith .add .i64 i 1 i1]):=by intros;kernel_rfl
theorem ou_none(o f ln za q y:Nat)(oa:Option Addr)(i i1:Int)(g g2:Hp) :
  pvFn Try.prog (pvCall Try.prog 0) Try.f74 [.slice oa ln za] (.is g) [.ret (.int .i64 i) (.is g2),.bit true] =
  some (.pointer none,.is g2,[],[.call 88 [.slice oa ln za,.func (Fn.func 89) #[] #[]] (.is g) (.int .i64 i) (.is g2),.cmp .lss i 0 true]):=by intros;kernel_rfl
theorem ou_some(o f ln za q y:Nat)(oa:Option Addr)(i i1:Int)(g g2:Hp) :
  let Z1:Value:=.slice (some ⟨o,f,none⟩) ln 1
  let Z2:Value:=.pointer (some ⟨y,0,none⟩)
  pvFn Try.prog (pvCall Try.prog 0) Try.f74 [Z1] (.is g) [.ret (.int .i64 i) (.is g2),.bit false,.offs q,.val Z2] =
  some (Z2,.is g2,[],[.call 88 [Z1,.func (Fn.func 89) #[] #[]] (.is g) (.int .i64 i) (.is g2),.cmp .lss i 0 false,.off q f i ln 1,.ld1 (.is g2) o q Z2]):=by intros;kernel_rfl
theorem if_f(o f ln za q y:Nat)(oa:Option Addr)(i i1:Int)(g g2:Hp) :
  pvFn Try.prog (pvCall Try.prog 0) Try.f88 [.slice oa ln za,.func (.func 89) #[] #[]] (.is g) [.loop .ret [(4,.int .i64 i)] (.is g2)] =
  some (.int .i64 i,.is g2,[],[.loop 19 false (loopN Try.f88 0) [(8,.int .i64 0),(7,.int .i64 (Int.ofNat ln)),(6,.slice oa ln za),(4,.int .i64 0),(0,.slice oa ln za),(1,.func (Fn.func 89) #[] #[])] (.is g) .ret [(4,.int .i64 i)] (.is g2)]):=by intros;kernel_rfl
theorem if_n(o f ln za q y:Nat)(oa:Option Addr)(i i1:Int)(g g2:Hp) :
  pvFn Try.prog (pvCall Try.prog 0) Try.f88 [.slice oa ln za,.func (.func 89) #[] #[]] (.is g) [.loop (.exit 0) [] (.is g2)] =
  some (.int .i64 (Int.negSucc 0),.is g2,[],[.loop 19 false (loopN Try.f88 0) [(8,.int .i64 0),(7,.int .i64 (Int.ofNat ln)),(6,.slice oa ln za),(4,.int .i64 0),(0,.slice oa ln za),(1,.func (Fn.func 89) #[] #[])] (.is g) (.exit 0) [] (.is g2)]):=by intros;kernel_rfl
theorem if_out(o f ln za q y:Nat)(oa:Option Addr)(i i1:Int)(g g2:Hp) :
  pvCode Try.prog (pvCall Try.prog 1) 19 false (loopN Try.f88 0) [(8,.int .i64 i),(7,.int .i64 (Int.ofNat ln)),(0,.slice oa ln za),(1,.func (.func 89) #[] #[])] (.is g) [.bit false] =
  some (.exit 0,[(9,.bool false),(8,.int .i64 i),(7,.int .i64 (Int.ofNat ln)),(0,.slice oa ln za),(1,.func (Fn.func 89) #[] #[])],.is g,[],[.cmp .lss i (Int.ofNat ln) false]):=by intros;kernel_rfl
theorem if_hit(o f ln za q y:Nat)(oa:Option Addr)(i i1:Int)(g g2:Hp) :
  let Z1:Value:=.slice (some ⟨o,f,none⟩) ln 1
  let Z2:Value:=.pointer (some ⟨y,0,none⟩)
  let Z3:Value:=.func (Fn.func 89) #[] #[]
  pvCode Try.prog (pvCall Try.prog 1) 19 false (loopN Try.f88 0) [(8,.int .i64 i),(7,.int .i64 (Int.ofNat ln)),(0,Z1),(1,.func (.func 89) #[] #[])] (.is g) [.bit true,.offs q,.val Z2,.inl] =
  some (.ret,[(4,.int .i64 i),(17,.int .i64 i),(16,.bool true),(15,Z2),(14,.pointer (some ⟨o,q,none⟩)),(13,.int .i64 i),(12,Z1),(11,Z3),(5,.int .i64 i),(10,.int .i64 i),(9,.bool true),(8,.int .i64 i),(7,.int .i64 (Int.ofNat ln)),(0,Z1),(1,Z3)],.is g,[],[.cmp .lss i (Int.ofNat ln) true,.off q f i ln 1,.ld1 (.is g) o q Z2]):=by intros;kernel_rfl
theorem if_nil(o f ln za q y:Nat)(oa:Option Addr)(i i1:Int)(g g2:Hp) :
  let Z1:Value:=.slice (some ⟨o,f,none⟩) ln 1
  let Z2:Value:=.func (Fn.func 89) #[] #[]
  pvCode Try.prog (pvCall Try.prog 1) 19 false (loopN Try.f88 0) [(8,.int .i64 i),(7,.int .i64 (Int.ofNat ln)),(0,Z1),(1,.func (.func 89) #[] #[])] (.is g) [.bit true,.offs q,.val (.pointer none),.inl,.num i1] =
  some (.normal,[(8,.int .i64 i1),(18,.int .i64 i1),(16,.bool false),(15,.pointer none),(14,.pointer (some ⟨o,q,none⟩)),(13,.int .i64 i),(12,Z1),(11,Z2),(5,.int .i64 i),(10,.int .i64 i),(9,.bool true),(8,.int .i64 i),(7,.int .i64 (Int.ofNat ln)),(0,Z1),(1,Z2)],.is g,[],[.cmp .lss i (Int.ofNat ln) true,.off q f i ln 1,.ld1 (.is g) o q (.pointer none),.arith .add .i64 i 1 i1]):=by intros;kernel_rfl
theorem cn(oa:Option Addr)(o ln za q:Nat)(n m i i1:Int)(z:Bool)(g g2:Hp) :
  let Z1:List Value:=[.slice oa ln za,.int .i64 n]
  pvFn Try.prog (pvCall Try.prog 0) Try.f14 Z1 (.is g) [.ret (.int .i64 i) (.is g2),.bit z] =
  some (.bool z,.is g2,[],[.call 44 Z1 (.is g) (.int .i64 i) (.is g2),.cmp .geq i 0 z]):=by intros;kernel_rfl
end Go.Proofs.Ytlonjogfeidgfaa.r43p
namespace Go.Proofs.Ytlonjogfeidgfaa.r38p
open Go Go.Ev
set_option maxRecDepth 100000
set_option linter.unusedVariables false
theorem ch_err(r k b8 ln zz:Nat)(oo:Option Addr)(n e:Int)(g g2:Hp) :
  let Z1:Value:=.pointer (some ⟨r,0,none⟩)
  let Z2:List Value:=[Z1,.int .i64 n]
  let Z3:Value:=.tuple #[.pointer none,.int .i64 e]
  pvCode Try.prog (pvCall Try.prog 0) 84 false (chain [partC Try.f48 [0],partC Try.f48 [1,0],partC Try.f48 [1,1,0],partC Try.f48 [1,1,1,0],partC Try.f48 [1,1,1,1,0]]) (enterE 0 Z2) (.is g) [.ret Z3 (.is g2),.bit true] =
  some (.ret,[(5,.int .i64 e),(4,.slice none 0 0),(20,.int .i64 e),(19,.bool true),(18,.int .i64 e),(7,.int .i64 e),(6,.pointer none),(17,.int .i64 e),(16,.pointer none),(12,Z3),(15,Z3),(14,.int .i64 n),(13,Z1),(5,.int .i64 0),(4,.slice none 0 0),(0,Z1),(1,.int .i64 n)],.is g2,[],[.call 76 Z2 (.is g) Z3 (.is g2),.cmp .neq e 0 true]):=by intros;kernel_rfl
theorem ch_ok(r k b8 ln zz:Nat)(oo:Option Addr)(n e:Int)(g g2:Hp) :
  let Z1:Value:=.pointer (some ⟨r,0,none⟩)
  let Z2:List Value:=[Z1,.int .i64 n]
  let Z3:Value:=.pointer (some ⟨k,0,none⟩)
  let Z4:Value:=.tuple #[Z3,.int .i64 0]
  let Z5:SH:=.push (.is g2) (.cells [.slice none 0 0] true)
  pvCode Try.prog (pvCall Try.prog 0) 84 false (chain [partC Try.f48 [0],partC Try.f48 [1,0],partC Try.f48 [1,1,0],partC Try.f48 [1,1,1,0],partC Try.f48 [1,1,1,1,0]]) (enterE 0 Z2) (.is g) [.ret Z4 (.is g2),.bit false,.idx b8,.val (.slice oo ln zz)] =
  some (.normal,[(9,.int .i64 (Int.ofNat ln)),(25,.int .i64 (Int.ofNat ln)),(24,.slice oo ln zz),(23,.pointer (some ⟨k,2,none⟩)),(22,Z3),(21,Z3),(8,.pointer (some ⟨b8,0,none⟩)),(19,.bool false),(18,.int .i64 0),(7,.int .i64 0),(6,Z3),(17,.int .i64 0),(16,Z3),(12,Z4),(15,Z4),(14,.int .i64 n),(13,Z1),(5,.int .i64 0),(4,.slice none 0 0),(0,Z1),(1,.int .i64 n)],Z5,[],[.call 76 Z2 (.is g) Z4 (.is g2),.cmp .neq 0 0 false,.len (.is g2) b8,.ld1 Z5 k 2 (.slice oo ln zz)]):=by intros;kernel_rfl
theorem ch_r6(k b8 bb oo ln top:Nat)(g:Hp) :
  let Z1:Value:=.pointer (some ⟨k,0,none⟩)
  let Z2:Value:=.slice (some ⟨oo,0,none⟩) ln 1
  let Z3:Value:=.slice (some ⟨oo,0,none⟩) top 1
  pvCode Try.prog (pvCall Try.prog 1) 84 false (partC Try.f48 [1,1,1,1,1,0,0,0,0,0]) [(6,Z1),(9,.int .i64 (Int.ofNat top)),(8,.pointer (some ⟨b8,0,none⟩))] (.is g) [.val Z2,.cut 0 top,.inl,.idx bb] =
  some (.normal,[(32,.func (Fn.func 90) #[] #[.pointer (some ⟨bb,0,none⟩)]),(31,Z3),(30,.int .i64 (Int.ofNat top)),(29,Z2),(28,.pointer (some ⟨k,2,none⟩)),(27,Z1),(26,Z1),(6,Z1),(9,.int .i64 (Int.ofNat top)),(8,.pointer (some ⟨b8,0,none⟩))],.push (.is g) (.cells [Z3] true),[],[.ld1 (.is g) k 2 Z2,.cut none (some (.int .i64 (Int.ofNat top))) ln 0 top,.len (.is g) bb]):=by intros;kernel_rfl
theorem ch_r6n(k b8 bb oo ln top:Nat)(g:Hp) :
  let Z1:Value:=.pointer (some ⟨k,0,none⟩)
  pvCode Try.prog (pvCall Try.prog 1) 84 false (partC Try.f48 [1,1,1,1,1,0,0,0,0,0]) [(6,Z1),(9,.int .i64 0),(8,.pointer (some ⟨b8,0,none⟩))] (.is g) [.val (.slice none 0 0),.inl,.idx bb] =
  some (.normal,[(32,.func (Fn.func 90) #[] #[.pointer (some ⟨bb,0,none⟩)]),(31,.slice none 0 0),(30,.int .i64 0),(29,.slice none 0 0),(28,.pointer (some ⟨k,2,none⟩)),(27,Z1),(26,Z1),(6,Z1),(9,.int .i64 0),(8,.pointer (some ⟨b8,0,none⟩))],.push (.is g) (.cells [.slice none 0 0] true),[],[.ld1 (.is g) k 2 (.slice none 0 0),.len (.is g) bb]):=by intros;kernel_rfl
theorem ch_as(k b8:Nat)(top j:Int)(v:Value)(g:Hp) :
  pvCode Try.prog (pvCall Try.prog 0) 84 true (partC Try.f48 [1,1,1,1,1,0,0,0,0,1,0,0]) [(34,v),(33,.int .i64 j),(6,.pointer (some ⟨k,0,none⟩)),(9,.int .i64 top),(8,.pointer (some ⟨b8,0,none⟩))] (.is g) [] =
  some (.normal,[(11,v),(34,v),(33,.int .i64 j),(6,.pointer (some ⟨k,0,none⟩)),(9,.int .i64 top),(8,.pointer (some ⟨b8,0,none⟩))],.is g,[],[]):=by intros;kernel_rfl
theorem ch_bn(b8 d z w m:Nat)(lk ln:Int)(v:Value)(cs news c2:List Value)(g g2:Hp) :
  let Z1:Value:=.pointer (some ⟨b8,0,none⟩)
  let Z2:Value:=.agg #[.int .i64 lk,.int .i64 ln]
  let Z3:Value:=.slice (some ⟨z,0,none⟩) 1 2
  let Z4:SH:=.push (.is g2) (.cells [.int .i64 lk,.int .i64 ln] true)
  let Z5:SH:=.push Z4 (.cells news true)
  pvCode Try.prog (pvCall Try.prog 0) 84 true (partC Try.f48 [1,1,1,1,1,0,0,0,0,1,0,1]) [(11,v),(8,Z1)] (.is g) [.val (.slice none 0 0),.ret Z2 (.is g2),.idx d,.app [] news 0 z,.cells c2] =
  some (.normal,[(39,Z3),(38,.slice (some ⟨d,0,none⟩) 1 2),(37,Z2),(36,v),(35,.slice none 0 0),(11,v),(8,Z1)],.set Z5 b8 (.cells c2 true),[],[.stat (drawN Try.f48 0),.again (.is g) 42 Z1 (.slice none 0 0),.again (.is g) 42 Z1 (.slice none 0 0),.again (.is g2) 42 Z1 (.slice none 0 0),.ld1 (.is g) b8 0 (.slice none 0 0),.call 71 [v] (.is g) Z2 (.is g2),.len (.is g2) d,.appNil Z4 d 0 1 0 2 16 news z,.st Z5 b8 0 [Z3] c2]):=by intros;kernel_rfl
theorem ch_bs(b8 d z w m:Nat)(lk ln:Int)(v:Value)(cs news c2:List Value)(g g2:Hp) :
  let Z1:Value:=.pointer (some ⟨b8,0,none⟩)
  let Z2:Value:=.slice (some ⟨w,0,none⟩) m 2
  let Z3:Value:=.agg #[.int .i64 lk,.int .i64 ln]
  let Z4:Value:=.slice (some ⟨z,0,none⟩) (Nat.succ m) 2
  let Z5:SH:=.push (.is g2) (.cells [.int .i64 lk,.int .i64 ln] true)
  let Z6:SH:=.push (.set Z5 w .dead) (.cells cs true)
  pvCode Try.prog (pvCall Try.prog 0) 84 true (partC Try.f48 [1,1,1,1,1,0,0,0,0,1,0,1]) [(11,v),(8,Z1)] (.is g) [.val Z2,.ret Z3 (.is g2),.idx d,.app cs news 0 z,.cells c2] =
  some (.normal,[(39,Z4),(38,.slice (some ⟨d,0,none⟩) 1 2),(37,Z3),(36,v),(35,Z2),(11,v),(8,Z1)],.set Z6 b8 (.cells c2 true),[],[.stat (drawN Try.f48 0),.again (.is g) 42 Z1 Z2,.again (.is g) 42 Z1 Z2,.again (.is g2) 42 Z1 Z2,.ld1 (.is g) b8 0 Z2,.call 71 [v] (.is g) Z3 (.is g2),.len (.is g2) d,.app Z5 w 0 m d 0 1 0 2 16 cs news z,.st Z6 b8 0 [Z4] c2]):=by intros;kernel_rfl
theorem ch_pon_root(k b8 d z w m d2 z2 s ow la za:Nat)(oa:Option Addr)(n0 lk ln top idx:Int)(cs news c2 cs2 news2 c3:List Value)(g g2 g3:Hp) :
  let Z1:Value:=.pointer (some ⟨k,0,none⟩)
  let Z2:Value:=.slice (some ⟨z,0,none⟩) 1 2
  let Z3:SH:=.push (.is g) (.cells [.int .i64 1,.int .i64 n0] true)
  let Z4:SH:=.push Z3 (.cells news true)
  let Z5:SH:=.set Z4 b8 (.cells c2 true)
  pvCode Try.prog (pvCall Try.prog 0) 84 false (partC Try.f48 [1,1,1,1,1,0,0,0,1]) [(6,Z1),(9,.int .i64 top),(8,.pointer (some ⟨b8,0,none⟩))] (.is g) [.val (.slice none 0 0),.val (.int .i64 n0),.idx d,.app [] news 0 z,.cells c2,.val (.pointer none),.val Z2] =
  some (.ret,[(5,.int .i64 0),(4,Z2),(53,Z2),(52,.bool true),(51,.pointer none),(50,.pointer (some ⟨k,1,none⟩)),(49,Z1),(48,Z1),(47,Z2),(46,.slice (some ⟨d,0,none⟩) 1 2),(45,.agg #[.int .i64 1,.int .i64 n0]),(44,.int .i64 n0),(43,Z1),(42,Z1),(41,Z1),(40,.slice none 0 0),(6,Z1),(9,.int .i64 top),(8,.pointer (some ⟨b8,0,none⟩))],Z5,[],[.stat (drawN Try.f48 1),.ld1 (.is g) b8 0 (.slice none 0 0),.ld1 (.is g) k 0 (.int .i64 n0),.len (.is g) d,.appNil Z3 d 0 1 0 2 16 news z,.st Z4 b8 0 [Z2] c2,.ld1 Z5 k 1 (.pointer none),.ld1 Z5 b8 0 Z2]):=by intros;kernel_rfl
theorem ch_pon_in(k b8 d z w m d2 z2 s ow la za:Nat)(oa:Option Addr)(n0 lk ln top idx:Int)(cs news c2 cs2 news2 c3:List Value)(g g2 g3:Hp) :
  let Z1:Value:=.pointer (some ⟨k,0,none⟩)
  let Z2:Value:=.pointer (some ⟨b8,0,none⟩)
  let Z3:Value:=.pointer (some ⟨s,0,none⟩)
  let Z4:Value:=.slice (some ⟨z,0,none⟩) 1 2
  let Z5:Value:=.agg #[.int .i64 lk,.int .i64 ln]
  let Z6:Value:=.pointer (some ⟨ow,0,none⟩)
  let Z7:Value:=.pointer (some ⟨s,1,none⟩)
  let Z8:Value:=.pointer (some ⟨k,1,none⟩)
  let Z9:Value:=.slice (some ⟨z2,0,none⟩) 2 2
  let Z10:SH:=.push (.is g) (.cells [.int .i64 1,.int .i64 n0] true)
  let Z11:SH:=.push Z10 (.cells news true)
  let Z12:SH:=.set Z11 b8 (.cells c2 true)
  let Z13:SH:=.push (.is g2) (.cells [.int .i64 lk,.int .i64 ln] true)
  let Z14:SH:=.push (.set Z13 z .dead) (.cells cs2 true)
  let Z15:SH:=.set Z14 b8 (.cells c3 true)
  pvCode Try.prog (pvCall Try.prog 0) 84 false (partC Try.f48 [1,1,1,1,1,0,0,0,1]) [(6,Z1),(9,.int .i64 top),(8,Z2)] (.is g) [.val (.slice none 0 0),.val (.int .i64 n0),.idx d,.app [] news 0 z,.cells c2,.val Z3,.val Z4,.val Z3,.ret Z5 (.is g2),.idx d2,.app cs2 news2 0 z2,.cells c3,.val Z3,.val Z6,.val (.slice oa la za),.val Z3,.ret (.int .i64 idx) (.is g3),.val Z3,.val Z6] =
  some (.normal,[(6,Z6),(83,Z6),(82,Z7),(81,Z3),(80,Z3),(79,Z8),(78,Z1),(77,Z1),(9,.int .i64 idx),(76,.int .i64 idx),(75,Z3),(74,Z8),(73,Z1),(72,Z1),(71,.slice oa la za),(70,.pointer (some ⟨ow,2,none⟩)),(69,Z6),(68,Z6),(67,Z7),(66,Z3),(65,Z3),(64,Z8),(63,Z1),(62,Z1),(61,Z9),(60,.slice (some ⟨d2,0,none⟩) 1 2),(59,Z5),(58,Z3),(57,Z8),(56,Z1),(55,Z1),(54,Z4),(52,.bool false),(51,Z3),(50,Z8),(49,Z1),(48,Z1),(47,Z4),(46,.slice (some ⟨d,0,none⟩) 1 2),(45,.agg #[.int .i64 1,.int .i64 n0]),(44,.int .i64 n0),(43,Z1),(42,Z1),(41,Z1),(40,.slice none 0 0),(6,Z1),(9,.int .i64 top),(8,Z2)],.is g3,[],[.stat (drawN Try.f48 1),.ld1 (.is g) b8 0 (.slice none 0 0),.ld1 (.is g) k 0 (.int .i64 n0),.len (.is g) d,.appNil Z10 d 0 1 0 2 16 news z,.st Z11 b8 0 [Z4] c2,.ld1 Z12 k 1 Z3,.stat (drawN Try.f48 2),.again Z12 42 Z2 Z4,.again Z12 42 Z2 Z4,.again (.is g2) 42 Z2 Z4,.ld1 Z12 b8 0 Z4,.ld1 Z12 k 1 Z3,.call 71 [Z3] Z12 Z5 (.is g2),.len (.is g2) d2,.app Z13 z 0 1 d2 0 1 0 2 16 cs2 news2 z2,.st Z14 b8 0 [Z9] c3,.stat (drawN Try.f48 3),.ld1 Z15 k 1 Z3,.ld1 Z15 s 1 Z6,.ld1 Z15 ow 2 (.slice oa la za),.ld1 Z15 k 1 Z3,.call 75 [.slice oa la za,Z3] Z15 (.int .i64 idx) (.is g3),.ld1 (.is g3) k 1 Z3,.ld1 (.is g3) s 1 Z6]):=by intros;kernel_rfl
theorem ch_pos_root(k b8 d z w m d2 z2 s ow la za:Nat)(oa:Option Addr)(n0 lk ln top idx:Int)(cs news c2 cs2 news2 c3:List Value)(g g2 g3:Hp) :
  let Z1:Value:=.pointer (some ⟨k,0,none⟩)
  let Z2:Value:=.slice (some ⟨w,0,none⟩) m 2
  let Z3:Value:=.slice (some ⟨z,0,none⟩) (Nat.succ m) 2
  let Z4:SH:=.push (.is g) (.cells [.int .i64 1,.int .i64 n0] true)
  let Z5:SH:=.push (.set Z4 w .dead) (.cells cs true)
  let Z6:SH:=.set Z5 b8 (.cells c2 true)
  pvCode Try.prog (pvCall Try.prog 0) 84 false (partC Try.f48 [1,1,1,1,1,0,0,0,1]) [(6,Z1),(9,.int .i64 top),(8,.pointer (some ⟨b8,0,none⟩))] (.is g) [.val Z2,.val (.int .i64 n0),.idx d,.app cs news 0 z,.cells c2,.val (.pointer none),.val (.slice (some ⟨z,0,none⟩) (m+1) 2)] =
  some (.ret,[(5,.int .i64 0),(4,Z3),(53,Z3),(52,.bool true),(51,.pointer none),(50,.pointer (some ⟨k,1,none⟩)),(49,Z1),(48,Z1),(47,Z3),(46,.slice (some ⟨d,0,none⟩) 1 2),(45,.agg #[.int .i64 1,.int .i64 n0]),(44,.int .i64 n0),(43,Z1),(42,Z1),(41,Z1),(40,Z2),(6,Z1),(9,.int .i64 top),(8,.pointer (some ⟨b8,0,none⟩))],Z6,[],[.stat (drawN Try.f48 1),.ld1 (.is g) b8 0 Z2,.ld1 (.is g) k 0 (.int .i64 n0),.len (.is g) d,.app Z4 w 0 m d 0 1 0 2 16 cs news z,.st Z5 b8 0 [Z3] c2,.ld1 Z6 k 1 (.pointer none),.ld1 Z6 b8 0 Z3]):=by intros;kernel_rfl
theorem ch_pos_in(k b8 d z w m d2 z2 s ow la za:Nat)(oa:Option Addr)(n0 lk ln top idx:Int)(cs news c2 cs2 news2 c3:List Value)(g g2 g3:Hp) :
  let Z1:Value:=.pointer (some ⟨k,0,none⟩)
  let Z2:Value:=.pointer (some ⟨b8,0,none⟩)
  let Z3:Value:=.slice (some ⟨w,0,none⟩) m 2
  let Z4:Value:=.pointer (some ⟨s,0,none⟩)
  let Z5:Value:=.agg #[.int .i64 lk,.int .i64 ln]
  let Z6:Value:=.pointer (some ⟨ow,0,none⟩)
  let Z7:Value:=.pointer (some ⟨s,1,none⟩)
  let Z8:Value:=.pointer (some ⟨k,1,none⟩)
  let Z9:Value:=.slice (some ⟨z2,0,none⟩) (Nat.succ (Nat.succ m)) 2
  let Z10:Value:=.slice (some ⟨z,0,none⟩) (Nat.succ m) 2
  let Z11:SH:=.push (.is g) (.cells [.int .i64 1,.int .i64 n0] true)
  let Z12:SH:=.push (.set Z11 w .dead) (.cells cs true)
  let Z13:SH:=.set Z12 b8 (.cells c2 true)
  let Z14:SH:=.push (.is g2) (.cells [.int .i64 lk,.int .i64 ln] true)
  let Z15:SH:=.push (.set Z14 z .dead) (.cells cs2 true)
  let Z16:SH:=.set Z15 b8 (.cells c3 true)
  pvCode Try.prog (pvCall Try.prog 0) 84 false (partC Try.f48 [1,1,1,1,1,0,0,0,1]) [(6,Z1),(9,.int .i64 top),(8,Z2)] (.is g) [.val Z3,.val (.int .i64 n0),.idx d,.app cs news 0 z,.cells c2,.val Z4,.val (.slice (some ⟨z,0,none⟩) (m+1) 2),.val Z4,.ret Z5 (.is g2),.idx d2,.app cs2 news2 0 z2,.cells c3,.val Z4,.val Z6,.val (.slice oa la za),.val Z4,.ret (.int .i64 idx) (.is g3),.val Z4,.val Z6] =
  some (.normal,[(6,Z6),(83,Z6),(82,Z7),(81,Z4),(80,Z4),(79,Z8),(78,Z1),(77,Z1),(9,.int .i64 idx),(76,.int .i64 idx),(75,Z4),(74,Z8),(73,Z1),(72,Z1),(71,.slice oa la za),(70,.pointer (some ⟨ow,2,none⟩)),(69,Z6),(68,Z6),(67,Z7),(66,Z4),(65,Z4),(64,Z8),(63,Z1),(62,Z1),(61,Z9),(60,.slice (some ⟨d2,0,none⟩) 1 2),(59,Z5),(58,Z4),(57,Z8),(56,Z1),(55,Z1),(54,Z10),(52,.bool false),(51,Z4),(50,Z8),(49,Z1),(48,Z1),(47,Z10),(46,.slice (some ⟨d,0,none⟩) 1 2),(45,.agg #[.int .i64 1,.int .i64 n0]),(44,.int .i64 n0),(43,Z1),(42,Z1),(41,Z1),(40,Z3),(6,Z1),(9,.int .i64 top),(8,Z2)],.is g3,[],[.stat (drawN Try.f48 1),.ld1 (.is g) b8 0 Z3,.ld1 (.is g) k 0 (.int .i64 n0),.len (.is g) d,.app Z11 w 0 m d 0 1 0 2 16 cs news z,.st Z12 b8 0 [Z10] c2,.ld1 Z13 k 1 Z4,.stat (drawN Try.f48 2),.again Z13 42 Z2 Z10,.again Z13 42 Z2 Z10,.again (.is g2) 42 Z2 Z10,.ld1 Z13 b8 0 Z10,.ld1 Z13 k 1 Z4,.call 71 [Z4] Z13 Z5 (.is g2),.len (.is g2) d2,.app Z14 z 0 (Nat.succ m) d2 0 1 0 2 16 cs2 news2 z2,.st Z15 b8 0 [Z9] c3,.stat (drawN Try.f48 3),.ld1 Z16 k 1 Z4,.ld1 Z16 s 1 Z6,.ld1 Z16 ow 2 (.slice oa la za),.ld1 Z16 k 1 Z4,.call 75 [.slice oa la za,Z4] Z16 (.int .i64 idx) (.is g3),.ld1 (.is g3) k 1 Z4,.ld1 (.is g3) s 1 Z6]):=by intros;kernel_rfl
theorem ig_f(oa:Option Addr)(ln za s:Nat)(i:Int)(g g2:Hp) :
  let Z1:Value:=.pointer (some ⟨s,0,none⟩)
  pvFn Try.prog (pvCall Try.prog 0) Try.f75 [.slice oa ln za,Z1] (.is g) [.loop .ret [(4,.int .i64 i)] (.is g2)] =
  some (.int .i64 i,.is g2,[],[.loop 19 false (loopN Try.f75 0) [(8,.int .i64 0),(7,.int .i64 (Int.ofNat ln)),(6,.slice oa ln za),(4,.int .i64 0),(0,.slice oa ln za),(1,Z1)] (.is g) .ret [(4,.int .i64 i)] (.is g2)]):=by intros;kernel_rfl
theorem ig_n(oa:Option Addr)(ln za s:Nat)(i:Int)(g g2:Hp) :
  let Z1:Value:=.pointer (some ⟨s,0,none⟩)
  pvFn Try.prog (pvCall Try.prog 0) Try.f75 [.slice oa ln za,Z1] (.is g) [.loop (.exit 0) [] (.is g2)] =
  some (.int .i64 (Int.negSucc 0),.is g2,[],[.loop 19 false (loopN Try.f75 0) [(8,.int .i64 0),(7,.int .i64 (Int.ofNat ln)),(6,.slice oa ln za),(4,.int .i64 0),(0,.slice oa ln za),(1,Z1)] (.is g) (.exit 0) [] (.is g2)]):=by intros;kernel_rfl
theorem ig_out(oa:Option Addr)(o ln za s y q:Nat)(i i1:Int)(g:Hp) :
  pvCode Try.prog (pvCall Try.prog 0) 19 false (loopN Try.f75 0) [(8,.int .i64 i),(7,.int .i64 (Int.ofNat ln)),(0,.slice oa ln za),(1,.pointer (some ⟨s,0,none⟩))] (.is g) [.bit false] =
  some (.exit 0,[(9,.bool false),(8,.int .i64 i),(7,.int .i64 (Int.ofNat ln)),(0,.slice oa ln za),(1,.pointer (some ⟨s,0,none⟩))],.is g,[],[.cmp .lss i (Int.ofNat ln) false]):=by intros;kernel_rfl
theorem ig_eq(oa:Option Addr)(o ln za s y q:Nat)(i i1:Int)(g:Hp) :
  let Z1:Value:=.slice (some ⟨o,0,none⟩) ln 1
  let Z2:Value:=.pointer (some ⟨s,0,none⟩)
  let Z3:Value:=.pointer (some ⟨y,0,none⟩)
  pvCode Try.prog (pvCall Try.prog 0) 19 false (loopN Try.f75 0) [(8,.int .i64 i),(7,.int .i64 (Int.ofNat ln)),(0,Z1),(1,Z2)] (.is g) [.bit true,.offs q,.val Z3,.bit true] =
  some (.ret,[(4,.int .i64 i),(17,.int .i64 i),(16,.bool true),(15,Z3),(14,.pointer (some ⟨o,q,none⟩)),(13,.int .i64 i),(12,Z1),(11,Z2),(5,.int .i64 i),(10,.int .i64 i),(9,.bool true),(8,.int .i64 i),(7,.int .i64 (Int.ofNat ln)),(0,Z1),(1,Z2)],.is g,[],[.cmp .lss i (Int.ofNat ln) true,.off q 0 i ln 1,.ld1 (.is g) o q Z3,.peq (.is g) .eql 110 s 0 y 0 true]):=by intros;kernel_rfl
theorem ig_ne(oa:Option Addr)(o ln za s y q:Nat)(i i1:Int)(g:Hp) :
  let Z1:Value:=.slice (some ⟨o,0,none⟩) ln 1
  let Z2:Value:=.pointer (some ⟨s,0,none⟩)
  let Z3:Value:=.pointer (some ⟨y,0,none⟩)
  pvCode Try.prog (pvCall Try.prog 0) 19 false (loopN Try.f75 0) [(8,.int .i64 i),(7,.int .i64 (Int.ofNat ln)),(0,Z1),(1,Z2)] (.is g) [.bit true,.offs q,.val Z3,.bit false,.num i1] =
  some (.normal,[(8,.int .i64 i1),(18,.int .i64 i1),(16,.bool false),(15,Z3),(14,.pointer (some ⟨o,q,none⟩)),(13,.int .i64 i),(12,Z1),(11,Z2),(5,.int .i64 i),(10,.int .i64 i),(9,.bool true),(8,.int .i64 i),(7,.int .i64 (Int.ofNat ln)),(0,Z1),(1,Z2)],.is g,[],[.cmp .lss i (Int.ofNat ln) true,.off q 0 i ln 1,.ld1 (.is g) o q Z3,.peq (.is g) .eql 110 s 0 y 0 false,.arith .add .i64 i 1 i1]):=by intros;kernel_rfl
theorem ig_nil(oa:Option Addr)(o ln za s y q:Nat)(i i1:Int)(g:Hp) :
  let Z1:Value:=.slice (some ⟨o,0,none⟩) ln 1
  let Z2:Value:=.pointer (some ⟨s,0,none⟩)
  pvCode Try.prog (pvCall Try.prog 0) 19 false (loopN Try.f75 0) [(8,.int .i64 i),(7,.int .i64 (Int.ofNat ln)),(0,Z1),(1,Z2)] (.is g) [.bit true,.offs q,.val (.pointer none),.num i1] =
  some (.normal,[(8,.int .i64 i1),(18,.int .i64 i1),(16,.bool false),(15,.pointer none),(14,.pointer (some ⟨o,q,none⟩)),(13,.int .i64 i),(12,Z1),(11,Z2),(5,.int .i64 i),(10,.int .i64 i),(9,.bool true),(8,.int .i64 i),(7,.int .i64 (Int.ofNat ln)),(0,Z1),(1,Z2)],.is g,[],[.cmp .lss i (Int.ofNat ln) true,.off q 0 i ln 1,.ld1 (.is g) o q (.pointer none),.arith .add .i64 i 1 i1]):=by intros;kernel_rfl
end Go.Proofs.Ytlonjogfeidgfaa.r38p
namespace Go.Proofs.Ytlonjogfeidgfaa.r35p
open Go Go.Ev
set_option maxRecDepth 100000
set_option linter.unusedVariables false
end Go.Proofs.Ytlonjogfeidgfaa.r35p
namespace Go.Proofs.Ytlonjogfeidgfaa.tr
open Go Go.Ev
set_option linter.unusedVariables false
set_option linter.constructorNameAsVariable false
section
variable {t:TS} {c k:Nat}
theorem upT_inv{f:Tk->Tk}{j:Nat}{z:Tk}(h:(t.upT k f).tks[j]?=some z):∃ x,t.tks[j]?=some x/\((k=j/\z=f x)\/(k≠j/\z=x)):=by
 rw[upT_get] at h
 cases e:t.tks[j]? with
 | none=>rw[e] at h;cases h
 | some x =>
  rw[e] at h
  simp only[Option.map_some,Option.some.injEq] at h
  split at h
  ·rename_i e';exact⟨x,rfl,.inl ⟨e',h.symm⟩⟩
  ·rename_i e';exact⟨x,rfl,.inr ⟨e',h.symm⟩⟩
theorem upS_inv{f:Sc->Sc}{j:Nat}{z:Sc}(h:(t.upS k f).scs[j]?=some z):∃ x,t.scs[j]?=some x/\((k=j/\z=f x)\/(k≠j/\z=x)):=by
 rw[upS_get] at h
 cases e:t.scs[j]? with
 | none=>rw[e] at h;cases h
 | some x =>
  rw[e] at h
  simp only[Option.map_some,Option.some.injEq] at h
  split at h
  ·rename_i e';exact⟨x,rfl,.inl ⟨e',h.symm⟩⟩
  ·rename_i e';exact⟨x,rfl,.inr ⟨e',h.symm⟩⟩
end
end Go.Proofs.Ytlonjogfeidgfaa.tr
namespace Go.Proofs.Ytlonjogfeidgfaa.tr
open Go Go.Ev
set_option linter.unusedVariables false
set_option linter.constructorNameAsVariable false
def TS.rn(t:TS)(j:Nat):Bool:=match t.tks[j]? with
 | some x=>!x.en
 | none=>false
theorem rn_of{t:TS}{j:Nat}{x:Tk}(h:t.tks[j]?=some x):t.rn j=!x.en:=by simp only[TS.rn,h]
structure WI(e:Option Nat)(t:TS):Prop where
 ow1:∀ (k:Nat) x s y,t.tks[k]?=some x->some s∈x.opn->t.scs[s]?=some y->y.ow=k
 nd:∀ (k:Nat) x,t.tks[k]?=some x->(x.opn.filterMap id).Nodup
 mem:∀ (s:Nat) y j,t.scs[s]?=some y->(j∈y.tks↔∃ x,t.tks[j]?=some x/\x.inn=some s)
 mnd:∀ (s:Nat) y,t.scs[s]?=some y->y.tks.Nodup
 lv:∀ (k:Nat) x,t.tks[k]?=some x->x.lv=true->x.en=false/\∃ s y,x.opn.getLast?=some (some s)/\t.scs[s]?=some y/\(0<y.live\/e=some s)
 en:∀ (k:Nat) x,t.tks[k]?=some x->x.en=true->x.opn=[]
 live:∀ (s:Nat) y,t.scs[s]?=some y->y.live=((y.tks.countP t.rn:Nat):Int)
 ov:∀ (s:Nat) y x,t.scs[s]?=some y->t.tks[y.ow]?=some x->(y.ov=false↔some s∈x.opn)
 ov2:∀ (s:Nat) y,t.scs[s]?=some y->y.ov=true->y.live=0
 up:∀ (j:Nat) x s y,t.tks[j]?=some x->x.inn=some s->t.scs[s]?=some y->y.ow<j
section
variable {e e':Option Nat} {t:TS} {c k:Nat}
theorem WI.upT(W:WI e t){x:Tk}(hx:t.tks[k]?=some x){f:Tk->Tk}(h1:(f x).inn=x.inn)(h2:(f x).en=x.en)(ho:∀ s y,some s∈(f x).opn->t.scs[s]?=some y->y.ow=k)(hn:((f x).opn.filterMap id).Nodup)
  (hl:(f x).lv=true->(f x).en=false/\∃ s y,(f x).opn.getLast?=some (some s)/\t.scs[s]?=some y/\(0<y.live\/e'=some s)) (hen:(f x).en=true->(f x).opn=[])
  (hov:∀ s y,t.scs[s]?=some y->y.ow=k->(y.ov=false↔some s∈(f x).opn)) (he:∀ s,e=some s->e'=some s):WI e' (t.upT k f):=by
 have rn:∀ j,(t.upT k f).rn j=t.rn j:=fun j=>by
  simp only[TS.rn]
  rw[upT_get]
  cases hj:t.tks[j]? with
  | none=>rfl
  | some z =>
   simp only[Option.map_some]
   split
   ·rename_i ek;subst ek;rw[hx] at hj;cases hj;rw[h2]
   ·rfl
 have rn':(t.upT k f).rn=t.rn:=funext rn
 refine⟨fun j z s y hz hs hy=>?_,fun j z hz=>?_,fun s y j hy=>?_,W.mnd,fun j z hz hlv=>?_,fun j z hz hen'=>?_,fun s y hy=>?_,fun s y z hy hz=>?_,W.ov2,fun j z s y hz hi hy=>?_⟩
 ·obtain⟨w,hw,⟨rfl,rfl⟩ | ⟨_,rfl⟩⟩:=upT_inv hz
  ·rw[hx] at hw;cases hw;exact ho s y hs hy
  ·exact W.ow1 j z s y hw hs hy
 ·obtain⟨w,hw,⟨rfl,rfl⟩ | ⟨_,rfl⟩⟩:=upT_inv hz
  ·rw[hx] at hw;cases hw;exact hn
  ·exact W.nd j z hw
 ·rw[W.mem s y j hy,upT_get]
  constructor
  ·rintro⟨z,hz,hi⟩
   rw[hz]
   refine⟨_,rfl,?_⟩
   split
   ·rename_i ek;subst ek;rw[hx] at hz;cases hz;rw[h1];exact hi
   ·exact hi
  ·rintro⟨z,hz,hi⟩
   cases hj:t.tks[j]? with
   | none=>rw[hj] at hz;cases hz
   | some w =>
    rw[hj] at hz
    simp only[Option.map_eq_map,Option.map_some,Option.some.injEq] at hz
    refine⟨w,rfl,?_⟩
    split at hz
    ·rename_i ek;subst ek;rw[hx] at hj;cases hj;rw[<- h1,hz];exact hi
    ·rw[hz];exact hi
 ·obtain⟨w,hw,⟨rfl,rfl⟩ | ⟨_,rfl⟩⟩:=upT_inv hz
  ·rw[hx] at hw;cases hw;exact hl hlv
  ·obtain⟨a,s,y,b,c,d⟩:=W.lv j z hw hlv
   exact⟨a,s,y,b,c,d.imp id (he s)⟩
 ·obtain⟨w,hw,⟨rfl,rfl⟩ | ⟨_,rfl⟩⟩:=upT_inv hz
  ·rw[hx] at hw;cases hw;exact hen hen'
  ·exact W.en j z hw hen'
 ·rw[rn'];exact W.live s y hy
 ·obtain⟨w,hw,⟨ek,rfl⟩ | ⟨_,rfl⟩⟩:=upT_inv hz
  ·have hw':=hw
   rw[<- ek,hx] at hw';cases hw';exact hov s y hy ek.symm
  ·exact W.ov s y z hy hw
 ·obtain⟨w,hw,⟨rfl,rfl⟩ | ⟨_,rfl⟩⟩:=upT_inv hz
  ·rw[hx] at hw;cases hw;exact W.up _ _ s y hx (by rw[<- h1];exact hi) hy
  ·exact W.up j z s y hw hi hy
theorem WI.irrS(W:WI e t){f:Sc->Sc}(h1:∀ y,(f y).ow=y.ow)(h2:∀ y,(f y).ov=y.ov)(h3:∀ y,(f y).tks=y.tks)(h4:∀ y,(f y).live=y.live):WI e (t.upS k f):=by
 refine⟨fun j z s y hz hs hy=>?_,W.nd,fun s y j hy=>?_,fun s y hy=>?_,fun j z hz hlv=>?_,W.en,fun s y hy=>?_,fun s y z hy hz=>?_,fun s y hy=>?_,fun j z s y hz hi hy=>?_⟩
 ·obtain⟨w,hw,⟨rfl,rfl⟩ | ⟨_,rfl⟩⟩:=upS_inv hy
  ·rw[h1];exact W.ow1 j z _ w hz hs hw
  ·exact W.ow1 j z s y hz hs hw
 ·obtain⟨w,hw,⟨rfl,rfl⟩ | ⟨_,rfl⟩⟩:=upS_inv hy
  ·rw[h3];exact W.mem _ w j hw
  ·exact W.mem s y j hw
 ·obtain⟨w,hw,⟨rfl,rfl⟩ | ⟨_,rfl⟩⟩:=upS_inv hy
  ·rw[h3];exact W.mnd _ w hw
  ·exact W.mnd s y hw
 ·obtain⟨a,s,y,b,c,d⟩:=W.lv j z hz hlv
  refine⟨a,s,if k=s then f y else y,b,by rw[upS_get,c];rfl,?_⟩
  split
  ·rw[h4];exact d
  ·exact d
 ·obtain⟨w,hw,⟨rfl,rfl⟩ | ⟨_,rfl⟩⟩:=upS_inv hy
  ·rw[h3,h4];exact W.live _ w hw
  ·exact W.live s y hw
 ·obtain⟨w,hw,⟨rfl,rfl⟩ | ⟨_,rfl⟩⟩:=upS_inv hy
  ·rw[h1] at hz;rw[h2];exact W.ov _ w z hw hz
  ·exact W.ov s y z hw hz
 ·obtain⟨w,hw,⟨rfl,rfl⟩ | ⟨_,rfl⟩⟩:=upS_inv hy
  ·rw[h2,h4];exact W.ov2 _ w hw
  ·exact W.ov2 s y hw
 ·obtain⟨w,hw,⟨rfl,rfl⟩ | ⟨_,rfl⟩⟩:=upS_inv hy
  ·rw[h1];exact W.up j z _ w hz hi hw
  ·exact W.up j z s y hz hi hw
theorem countP_same{l:List Nat}{p q:Nat->Bool}(h:∀ j,j∈l->p j=q j):l.countP p=l.countP q:=List.countP_congr fun j hj=>by rw[h j hj]
theorem countP_drop{l:List Nat}{p q:Nat->Bool}{k:Nat}(hn:l.Nodup)(hk:k∈l)(hp:p k=true)(hq:q k=false)(h:∀ j,j≠k->p j=q j):l.countP p=l.countP q+1:=by
 induction l with
 | nil=>cases hk
 | cons a l ih =>
  rw[List.nodup_cons] at hn
  rcases List.mem_cons.1 hk with rfl | hk
  ·rw[List.countP_cons,List.countP_cons,hp,hq,countP_same (l:=l) (p:=p) (q:=q) fun j hj=>h j fun e=>hn.1 (by rw[<- e];exact hj)]
   simp
  ·have:=ih hn.2 hk
   rw[List.countP_cons,List.countP_cons,this,h a fun e=>hn.1 (by rw[e];exact hk)]
   omega
theorem newT_rn{inn:Option Nat}{j:Nat}(h:j<t.tks.length):(t.newT inn).rn j=t.rn j:=by
 simp only[TS.rn,TS.newT,List.getElem?_append_left h]
theorem WI.newT(W:WI e t)(ok:TOk c t):WI e (t.newT none):=by
 refine⟨fun j z s y hz hs hy=>?_,fun j z hz=>?_,fun s y j hy=>?_,W.mnd,fun j z hz hlv=>?_,fun j z hz hen=>?_,fun s y hy=>?_,fun s y z hy hz=>?_,W.ov2,fun j z s y hz hi hy=>?_⟩
 ·rcases newT_get hz with hz | ⟨_,rfl⟩
  ·exact W.ow1 j z s y hz hs hy
  ·cases hs
 ·rcases newT_get hz with hz | ⟨_,rfl⟩
  ·exact W.nd j z hz
  ·exact List.nodup_nil
 ·rw[W.mem s y j hy]
  constructor
  ·rintro⟨x,hx,hi⟩;exact⟨x,newT_old hx,hi⟩
  ·rintro⟨x,hx,hi⟩
   rcases newT_get hx with hx | ⟨_,rfl⟩
   ·exact⟨x,hx,hi⟩
   ·cases hi
 ·rcases newT_get hz with hz | ⟨_,rfl⟩
  ·exact W.lv j z hz hlv
  ·cases hlv
 ·rcases newT_get hz with hz | ⟨_,rfl⟩
  ·exact W.en j z hz hen
  ·cases hen
 ·rw[countP_same fun j hj=>newT_rn (ok.mem s y j hy hj)];exact W.live s y hy
 ·have:=ok.ow s y hy
  rcases newT_get hz with hz | ⟨e1,_⟩
  ·exact W.ov s y z hy hz
  ·omega
 ·rcases newT_get hz with hz | ⟨_,rfl⟩
  ·exact W.up j z s y hz hi hy
  ·cases hi
theorem WI.add(W:WI e t)(ok:TOk c t){s0:Nat}{y0:Sc}(hy0:t.scs[s0]?=some y0)(hov:y0.ov=false)(hl:y0.ow<t.tks.length):WI e (t.add (some s0)):=by
 have eq:t.add (some s0)=⟨t.tks++[Tk0 (some s0)],t.scs.modify s0 fun x=>{ x with tks:=x.tks++[t.tks.length],live:=x.live+1 }⟩:=by
  simp only[TS.add,TS.newT,TS.upS,List.modify_modify_eq]
  rfl
 have es:=congrArg TS.scs eq
 have et:=congrArg TS.tks eq
 simp only at es et
 have hinv:∀ (s:Nat) y,(t.add (some s0)).scs[s]?=some y->∃ w,t.scs[s]?=some w/\((s=s0/\y={ w with tks:=w.tks++[t.tks.length],live:=w.live+1 })\/(s≠s0/\y=w)):=fun s y hy=>by
  rw[es,List.getElem?_modify] at hy
  cases hw:t.scs[s]? with
  | none=>rw[hw] at hy;cases hy
  | some w =>
   rw[hw] at hy
   simp only[Option.map_eq_map,Option.map_some,Option.some.injEq] at hy
   refine⟨w,rfl,?_⟩
   split at hy
   ·rename_i ek;exact .inl ⟨ek.symm,hy.symm⟩
   ·rename_i ek;exact .inr ⟨fun e=>ek e.symm,hy.symm⟩
 have hget:∀ (j:Nat) z,(t.add (some s0)).tks[j]?=some z->(t.tks[j]?=some z)\/(j=t.tks.length/\z=Tk0 (some s0)):=fun j z hz=>by
  rw[eq] at hz;exact newT_get (t:=t) hz
 have hold:∀ {j:Nat} {z},t.tks[j]?=some z->(t.add (some s0)).tks[j]?=some z:=fun hz=>by rw[eq];exact newT_old (t:=t) hz
 have hnew:(t.add (some s0)).tks[t.tks.length]?=some (Tk0 (some s0)):=by rw[eq];exact newT_new (t:=t)
 have hrn:∀ j,j<t.tks.length->(t.add (some s0)).rn j=t.rn j:=fun j hj=>by rw[eq];exact newT_rn (t:=t) hj
 have hrnn:(t.add (some s0)).rn t.tks.length=true:=by rw[rn_of hnew];rfl
 have hcnt:∀ (s:Nat) w,t.scs[s]?=some w->w.tks.countP (t.add (some s0)).rn=w.tks.countP t.rn:=fun s w hw=>countP_same fun j hj=>hrn j (ok.mem s w j hw hj)
 refine⟨fun j z s y hz hs hy=>?_,fun j z hz=>?_,fun s y j hy=>?_,fun s y hy=>?_,fun j z hz hlv=>?_,fun j z hz hen=>?_,fun s y hy=>?_,fun s y z hy hz=>?_,fun s y hy ho=>?_,fun j z s y hz hi hy=>?_⟩
 ·obtain⟨w,hw,h⟩:=hinv s y hy
  have how:y.ow=w.ow:=by rcases h with⟨_,rfl⟩ | ⟨_,rfl⟩<;>rfl
  rw[how]
  rcases hget j z hz with hz | ⟨_,rfl⟩
  ·exact W.ow1 j z s w hz hs hw
  ·cases hs
 ·rcases hget j z hz with hz | ⟨_,rfl⟩
  ·exact W.nd j z hz
  ·exact List.nodup_nil
 ·obtain⟨w,hw,h⟩:=hinv s y hy
  have hm:=W.mem s w j hw
  rcases h with⟨rfl,rfl⟩ | ⟨hne,rfl⟩
  ·simp only[List.mem_append,List.mem_singleton]
   constructor
   ·rintro (h | rfl)
    ·obtain⟨x,hx,hi⟩:=hm.1 h;exact⟨x,hold hx,hi⟩
    ·exact⟨_,hnew,rfl⟩
   ·rintro⟨x,hx,hi⟩
    rcases hget j x hx with hx | ⟨e1,_⟩
    ·exact .inl (hm.2 ⟨x,hx,hi⟩)
    ·exact .inr e1
  ·rw[hm]
   constructor
   ·rintro⟨x,hx,hi⟩;exact⟨x,hold hx,hi⟩
   ·rintro⟨x,hx,hi⟩
    rcases hget j x hx with hx | ⟨e1,rfl⟩
    ·exact⟨x,hx,hi⟩
    ·simp only[Tk0,Option.some.injEq] at hi;exact absurd hi.symm hne
 ·obtain⟨w,hw,⟨rfl,rfl⟩ | ⟨hne,rfl⟩⟩:=hinv s y hy
  ·rw[List.nodup_append]
   refine⟨W.mnd _ w hw,by simp,fun a ha b hb e=>?_⟩
   simp only[List.mem_singleton] at hb
   have:=ok.mem _ w a hw ha
   omega
  ·exact W.mnd s y hw
 ·rcases hget j z hz with hz | ⟨_,rfl⟩
  ·obtain⟨a,s,y,b,c,d⟩:=W.lv j z hz hlv
   refine⟨a,s,if s0=s then { y with tks:=y.tks++[t.tks.length],live:=y.live+1 } else y,b,by rw[es,List.getElem?_modify,c];rfl,?_⟩
   rcases d with d | d
   ·left;split
    ·simp only;omega
    ·exact d
   ·exact .inr d
  ·cases hlv
 ·rcases hget j z hz with hz | ⟨_,rfl⟩
  ·exact W.en j z hz hen
  ·cases hen
 ·obtain⟨w,hw,⟨rfl,rfl⟩ | ⟨hne,rfl⟩⟩:=hinv s y hy
  ·simp only[List.countP_append,List.countP_cons,List.countP_nil,hrnn,hcnt _ w hw,if_true]
   have:=W.live _ w hw
   omega
  ·rw[hcnt s y hw];exact W.live s y hw
 ·obtain⟨w,hw,h⟩:=hinv s y hy
  have hwl:=ok.ow s w hw
  have e1:y.ow=w.ow/\y.ov=w.ov:=by rcases h with⟨_,rfl⟩ | ⟨_,rfl⟩<;>exact⟨rfl,rfl⟩
  rw[e1.1] at hz
  rw[e1.2]
  rcases hget _ z hz with hz | ⟨e2,_⟩
  ·exact W.ov s w z hw hz
  ·omega
 ·obtain⟨w,hw,⟨rfl,rfl⟩ | ⟨hne,rfl⟩⟩:=hinv s y hy
  ·rw[hy0] at hw;cases hw
   simp only at ho
   rw[hov] at ho;cases ho
  ·exact W.ov2 s y hw ho
 ·obtain⟨w,hw,h⟩:=hinv s y hy
  have e1:y.ow=w.ow:=by rcases h with⟨_,rfl⟩ | ⟨_,rfl⟩<;>rfl
  rw[e1]
  rcases hget j z hz with hz | ⟨rfl,rfl⟩
  ·exact W.up j z s w hz hi hw
  ·simp only[Tk0,Option.some.injEq] at hi
   subst hi
   rw[hy0] at hw;cases hw;exact hl
theorem WI.openF(W:WI e t)(ok:TOk c t){x:Tk}(hx:t.tks[k]?=some x)(h1:x.lv=false)(h2:x.en=false)(su:Bool):WI e (t.openF k su):=by
 have hold:∀ {s:Nat} {y},t.scs[s]?=some y->(t.newS k su).scs[s]?=some y:=fun h=>newS_old h
 have rn:(t.openF k su).rn=t.rn:=funext fun j=>by
  simp only[TS.rn,TS.openF]
  rw[upT_get]
  show (match Option.map _ (t.tks[j]?) with | some (x:Tk)=>!x.en | none=>false)=_
  cases hj:t.tks[j]? with
  | none=>rfl
  | some z=>simp only[Option.map_some];split<;>rfl
 have inv:∀ {j:Nat} {z:Tk},(t.openF k su).tks[j]?=some z->∃ w,t.tks[j]?=some w/\((j=k/\z={ w with opn:=w.opn++[some t.scs.length] })\/(j≠k/\z=w)):=fun hz=>by
  obtain⟨w,hw,⟨e1,e2⟩ | ⟨e1,e2⟩⟩:=upT_inv (t:=t.newS k su) hz
  ·exact⟨w,hw,.inl ⟨e1.symm,e2⟩⟩
  ·exact⟨w,hw,.inr ⟨fun e=>e1 e.symm,e2⟩⟩
 have get:∀ {j:Nat} {w:Tk},t.tks[j]?=some w->(t.openF k su).tks[j]?=some (if k=j then { w with opn:=w.opn++[some t.scs.length] } else w):=fun hw=>by
  show (TS.upT (t.newS k su) k _).tks[_]?=_
  rw[upT_get]
  show Option.map _ (t.tks[_]?)=_
  rw[hw];rfl
 have nin:∀ (j:Nat) w,t.tks[j]?=some w->some t.scs.length∉w.opn:=fun j w hw hm=>by have:=ok.opn j w _ hw hm;omega
 refine⟨fun j z s y hz hs hy=>?_,fun j z hz=>?_,fun s y j hy=>?_,fun s y hy=>?_,fun j z hz hlv=>?_,fun j z hz hen=>?_,fun s y hy=>?_,fun s y z hy hz=>?_,fun s y hy ho=>?_,fun j z s y hz hi hy=>?_⟩
 ·obtain⟨w,hw,⟨rfl,rfl⟩ | ⟨hne,rfl⟩⟩:=inv hz
  ·rcases List.mem_append.1 hs with hs | hs
   ·rcases newS_get hy with hy | ⟨rfl,rfl⟩
    ·exact W.ow1 j w s y hw hs hy
    ·rfl
   ·simp only[List.mem_singleton,Option.some.injEq] at hs
    subst hs
    have:y=Sc0 j su:=by
     have:=newS_new (t:=t) (k:=j) (su:=su)
     have hy':(t.newS j su).scs[t.scs.length]?=some y:=hy
     rw[this] at hy';cases hy';rfl
    rw[this];rfl
  ·rcases newS_get hy with hy | ⟨rfl,rfl⟩
   ·exact W.ow1 j z s y hw hs hy
   ·exact absurd hs (nin j z hw)
 ·obtain⟨w,hw,⟨rfl,rfl⟩ | ⟨hne,rfl⟩⟩:=inv hz
  ·simp only[List.filterMap_append]
   rw[List.nodup_append]
   refine⟨W.nd j w hw,by simp,fun a ha b hb e=>?_⟩
   simp only[List.filterMap_cons,List.filterMap_nil,id] at hb
   simp only[List.mem_singleton] at hb
   subst hb;subst e
   obtain⟨v,hv,hv2⟩:=List.mem_filterMap.1 ha
   simp only[id] at hv2
   subst hv2
   exact nin j w hw hv
  ·exact W.nd j z hw
 ·rcases newS_get hy with hy | ⟨rfl,rfl⟩
  ·rw[W.mem s y j hy]
   constructor
   ·rintro⟨z,hz,hi⟩
    refine⟨_,get hz,?_⟩
    split<;>exact hi
   ·rintro⟨z,hz,hi⟩
    obtain⟨w,hw,⟨rfl,rfl⟩ | ⟨hne,rfl⟩⟩:=inv hz
    ·exact⟨w,hw,hi⟩
    ·exact⟨z,hw,hi⟩
  ·simp only[Sc0,List.not_mem_nil,false_iff]
   rintro⟨z,hz,hi⟩
   obtain⟨w,hw,⟨rfl,rfl⟩ | ⟨hne,rfl⟩⟩:=inv hz
   ·have:=ok.inn j w _ hw hi;omega
   ·have:=ok.inn j z _ hw hi;omega
 ·rcases newS_get hy with hy | ⟨rfl,rfl⟩
  ·exact W.mnd s y hy
  ·exact List.nodup_nil
 ·obtain⟨w,hw,⟨rfl,rfl⟩ | ⟨hne,rfl⟩⟩:=inv hz
  ·rw[hx] at hw;cases hw
   simp only at hlv
   rw[h1] at hlv;cases hlv
  ·obtain⟨a,s,y,b,c,d⟩:=W.lv j z hw hlv
   exact⟨a,s,y,b,hold c,d⟩
 ·obtain⟨w,hw,⟨rfl,rfl⟩ | ⟨hne,rfl⟩⟩:=inv hz
  ·rw[hx] at hw;cases hw
   simp only at hen
   rw[h2] at hen;cases hen
  ·exact W.en j z hw hen
 ·rw[rn]
  rcases newS_get hy with hy | ⟨rfl,rfl⟩
  ·exact W.live s y hy
  ·rfl
 ·rcases newS_get hy with hy | ⟨rfl,rfl⟩
  ·have hsl:=gT hy
   obtain⟨w,hw,⟨e1,rfl⟩ | ⟨hne,rfl⟩⟩:=inv hz
   ·rw[W.ov s y w hy hw]
    simp only[List.mem_append,List.mem_singleton,Option.some.injEq]
    constructor
    ·exact .inl
    ·rintro (h | h)
     ·exact h
     ·omega
   ·exact W.ov s y z hy hw
  ·obtain⟨w,hw,⟨e1,rfl⟩ | ⟨hne,rfl⟩⟩:=inv hz
   ·simp[Sc0]
   ·exact absurd rfl hne
 ·rcases newS_get hy with hy | ⟨rfl,rfl⟩
  ·exact W.ov2 s y hy ho
  ·cases ho
 ·obtain⟨w,hw,h⟩:=inv hz
  have hi':w.inn=some s:=by rcases h with⟨_,rfl⟩ | ⟨_,rfl⟩<;>exact hi
  rcases newS_get hy with hy | ⟨rfl,rfl⟩
  ·exact W.up j w s y hw hi' hy
  ·have:=ok.inn j w _ hw hi';omega
theorem WI.fin0{s:Nat}(W:WI (some s) t){x:Tk}{y:Sc}(hy:t.scs[s]?=some y)(hx:t.tks[y.ow]?=some x)(hg:x.opn.getLast?=some (some s))(hl:y.live<=0):WI none (t.fin0 s y.ow):=by
 have eq:t.fin0 s y.ow=⟨t.tks.modify y.ow fun x=>{ x with opn:=x.opn.dropLast,lv:=false,fk:=0,ft:=⟨#[]⟩ },t.scs.modify s fun y=>{ y with ov:=true }⟩:=by
  simp only[TS.fin0,TS.upT,TS.upS,List.modify_modify_eq]
  rfl
 have es:=congrArg TS.scs eq
 have et:=congrArg TS.tks eq
 simp only at es et
 generalize hk:y.ow=k at *
 have invT:∀ {j:Nat} {z:Tk},(t.fin0 s k).tks[j]?=some z->∃ w,t.tks[j]?=some w/\((j=k/\z={ w with opn:=w.opn.dropLast,lv:=false,fk:=0,ft:=⟨#[]⟩ })\/(j≠k/\z=w)):=fun {j z} hz=>by
  rw[et,List.getElem?_modify] at hz
  cases hw:t.tks[j]? with
  | none=>rw[hw] at hz;cases hz
  | some w =>
   rw[hw] at hz
   simp only[Option.map_eq_map,Option.map_some,Option.some.injEq] at hz
   refine⟨w,rfl,?_⟩
   split at hz
   ·rename_i ek;exact .inl ⟨ek.symm,hz.symm⟩
   ·rename_i ek;exact .inr ⟨fun e=>ek e.symm,hz.symm⟩
 have invS:∀ {j:Nat} {z:Sc},(t.fin0 s k).scs[j]?=some z->∃ w,t.scs[j]?=some w/\((j=s/\z={ w with ov:=true })\/(j≠s/\z=w)):=fun {j z} hz=>by
  rw[es,List.getElem?_modify] at hz
  cases hw:t.scs[j]? with
  | none=>rw[hw] at hz;cases hz
  | some w =>
   rw[hw] at hz
   simp only[Option.map_eq_map,Option.map_some,Option.some.injEq] at hz
   refine⟨w,rfl,?_⟩
   split at hz
   ·rename_i ek;exact .inl ⟨ek.symm,hz.symm⟩
   ·rename_i ek;exact .inr ⟨fun e=>ek e.symm,hz.symm⟩
 have getT:∀ {j:Nat} {w:Tk},t.tks[j]?=some w->∃ z,(t.fin0 s k).tks[j]?=some z/\z.inn=w.inn/\z.en=w.en:=fun {j w} hw=>by
  rw[et,List.getElem?_modify,hw]
  refine⟨_,rfl,?_⟩
  simp only
  split<;>exact⟨rfl,rfl⟩
 have same:∀ {j:Nat} {z w:Sc},((j=s/\z={ w with ov:=true })\/(j≠s/\z=w))->z.ow=w.ow/\z.tks=w.tks/\z.live=w.live:=fun h=>by rcases h with⟨_,rfl⟩ | ⟨_,rfl⟩<;>exact⟨rfl,rfl,rfl⟩
 have rn:(t.fin0 s k).rn=t.rn:=funext fun j=>by
  cases hj:t.tks[j]? with
  | none =>
   have:(t.fin0 s k).tks[j]?=none:=by rw[et,List.getElem?_modify,hj];rfl
   simp only[TS.rn,this,hj]
  | some w =>
   obtain⟨z,hz,_,h2⟩:=getT hj
   rw[rn_of hj,rn_of hz,h2]
 have spl:x.opn=x.opn.dropLast++[some s]:=by
  have hne:x.opn≠[]:=fun e=>by rw[e] at hg;cases hg
  have:=List.dropLast_concat_getLast hne
  rw[List.getLast?_eq_some_getLast hne] at hg
  simp only[Option.some.injEq] at hg
  rw[hg] at this
  exact this.symm
 have ndx:=W.nd k x hx
 rw[spl,List.filterMap_append,List.nodup_append] at ndx
 have notin:some s∉x.opn.dropLast:=fun h=>ndx.2.2 s (List.mem_filterMap.2 ⟨some s,h,rfl⟩) s (by simp) rfl
 refine⟨fun j z s' y' hz hs hy'=>?_,fun j z hz=>?_,fun s' y' j hy'=>?_,fun s' y' hy'=>?_,fun j z hz hlv=>?_,fun j z hz hen=>?_,fun s' y' hy'=>?_,fun s' y' z hy' hz=>?_,fun s' y' hy' ho=>?_,fun j z s' y' hz hi hy'=>?_⟩
 ·obtain⟨w',hw',h'⟩:=invS hy'
  rw[(same h').1]
  obtain⟨w,hw,⟨rfl,rfl⟩ | ⟨hne,rfl⟩⟩:=invT hz
  ·exact W.ow1 j w s' w' hw (List.dropLast_subset _ hs) hw'
  ·exact W.ow1 j z s' w' hw hs hw'
 ·obtain⟨w,hw,⟨rfl,rfl⟩ | ⟨hne,rfl⟩⟩:=invT hz
  ·rw[hx] at hw;cases hw;exact ndx.1
  ·exact W.nd j z hw
 ·obtain⟨w',hw',h'⟩:=invS hy'
  rw[(same h').2.1,W.mem s' w' j hw']
  constructor
  ·rintro⟨w,hw,hi⟩
   obtain⟨z,hz,h1,_⟩:=getT hw
   exact⟨z,hz,by rw[h1];exact hi⟩
  ·rintro⟨z,hz,hi⟩
   obtain⟨w,hw,h⟩:=invT hz
   exact⟨w,hw,by rcases h with⟨_,rfl⟩ | ⟨_,rfl⟩<;>exact hi⟩
 ·obtain⟨w',hw',h'⟩:=invS hy'
  rw[(same h').2.1];exact W.mnd s' w' hw'
 ·obtain⟨w,hw,⟨rfl,rfl⟩ | ⟨hne,rfl⟩⟩:=invT hz
  ·cases hlv
  ·obtain⟨a,s',y',b,c,d⟩:=W.lv j z hw hlv
   have hns:s'≠s:=fun e1=>by
    subst e1
    have:=W.ow1 j z s' y' hw (List.mem_of_getLast? b) c
    rw[hy] at c;cases c
    exact hne (by rw[<- this,hk])
   refine⟨a,s',y',b,by rw[es,List.getElem?_modify,c];simp only[if_neg (Ne.symm hns)];rfl,.inl ?_⟩
   rcases d with d | d
   ·exact d
   ·cases d;exact absurd rfl hns
 ·obtain⟨w,hw,⟨rfl,rfl⟩ | ⟨hne,rfl⟩⟩:=invT hz
  ·have:=W.en j w hw hen
   simp only[this,List.dropLast_nil]
  ·exact W.en j z hw hen
 ·obtain⟨w',hw',h'⟩:=invS hy'
  rw[(same h').2.1,(same h').2.2,rn];exact W.live s' w' hw'
 ·obtain⟨w',hw',h'⟩:=invS hy'
  rw[(same h').1] at hz
  obtain⟨w,hw,hh⟩:=invT hz
  have old:=W.ov s' w' w hw' hw
  rcases h' with⟨rfl,rfl⟩ | ⟨hns,rfl⟩
  ·rw[hy] at hw';cases hw'
   rcases hh with⟨e1,rfl⟩ | ⟨hne,rfl⟩
   ·rw[e1] at hw;rw[hx] at hw;cases hw
    simp only[Bool.true_eq_false,false_iff]
    exact notin
   ·exact absurd hk hne
  ·rcases hh with⟨e1,rfl⟩ | ⟨hne,rfl⟩
   ·rw[old]
    rw[e1,hx] at hw;cases hw
    constructor
    ·intro h
     rw[spl] at h
     rcases List.mem_append.1 h with h | h
     ·exact h
     ·simp only[List.mem_singleton,Option.some.injEq] at h;exact absurd h hns
    ·exact fun h=>List.dropLast_subset _ h
   ·exact old
 ·obtain⟨w',hw',h'⟩:=invS hy'
  rw[(same h').2.2]
  rcases h' with⟨rfl,rfl⟩ | ⟨hns,rfl⟩
  ·rw[hy] at hw';cases hw'
   have:=W.live s' y hy
   omega
  ·exact W.ov2 s' y' hw' ho
 ·obtain⟨w',hw',h'⟩:=invS hy'
  rw[(same h').1]
  obtain⟨w,hw,h⟩:=invT hz
  exact W.up j w s' w' hw (by rcases h with⟨_,rfl⟩ | ⟨_,rfl⟩<;>exact hi) hw'
theorem WI.fin{s:Nat}(W:WI (some s) t)(ok:TOk c t):WI none (t.fin s).1:=by
 unfold TS.fin
 cases hy:t.scs[s]? with
 | none =>
  refine⟨W.ow1,W.nd,W.mem,W.mnd,fun j z hz hlv=>?_,W.en,W.live,W.ov,W.ov2,W.up⟩
  obtain⟨a,s',y',b,c,d⟩:=W.lv j z hz hlv
  refine⟨a,s',y',b,c,?_⟩
  rcases d with d | d
  ·exact .inl d
  ·cases d;rw[hy] at c;cases c
 | some y =>
  obtain⟨x,hx⟩:∃ x,t.tks[y.ow]?=some x:=⟨_,List.getElem?_eq_getElem (ok.ow s y hy)⟩
  simp only[hx]
  split
  ·rename_i hB
   simp only[finB,Bool.and_eq_true,decide_eq_true_eq] at hB
   exact W.fin0 hy hx hB.1.2 hB.2
  ·rename_i hB
   refine⟨W.ow1,W.nd,W.mem,W.mnd,fun j z hz hlv=>?_,W.en,W.live,W.ov,W.ov2,W.up⟩
   obtain⟨a,s',y',b,c,d⟩:=W.lv j z hz hlv
   refine⟨a,s',y',b,c,?_⟩
   rcases d with d | d
   ·exact .inl d
   ·cases d
    rw[hy] at c;cases c
    have:=W.ow1 j z s y hz (List.mem_of_getLast? b) hy
    subst this
    rw[hx] at hz;cases hz
    simp only[finB,hlv,b,Bool.true_and,decide_true,decide_eq_true_eq] at hB
    exact .inl (by omega)
theorem WI.end2(W:WI none t)(ok:TOk c t){x:Tk}(hx:t.tks[k]?=some x)(h1:x.en=false)(h2:x.opn=[]){s:Nat}(hi:x.inn=some s)(fk:Int)(ft:ByteArray):WI (some s) (t.end2 k s fk ft):=by
 have eq:t.end2 k s fk ft=⟨t.tks.modify k fun x=>{ x with en:=true,fk:=fk,ft:=ft },t.scs.modify s fun y=>{ y with live:=y.live-1 }⟩:=by
  simp only[TS.end2,TS.end1,TS.upT,TS.upS,List.modify_modify_eq]
  rfl
 have es:=congrArg TS.scs eq
 have et:=congrArg TS.tks eq
 simp only at es et
 have hlv0:x.lv=false:=by
  cases h:x.lv with
  | false=>rfl
  | true =>
   obtain⟨_,s',y',b,_⟩:=W.lv k x hx h
   rw[h2] at b;cases b
 have invT:∀ {j:Nat} {z:Tk},(t.end2 k s fk ft).tks[j]?=some z->∃ w,t.tks[j]?=some w/\((j=k/\z={ w with en:=true,fk:=fk,ft:=ft })\/(j≠k/\z=w)):=fun {j z} hz=>by
  rw[et,List.getElem?_modify] at hz
  cases hw:t.tks[j]? with
  | none=>rw[hw] at hz;cases hz
  | some w =>
   rw[hw] at hz
   simp only[Option.map_eq_map,Option.map_some,Option.some.injEq] at hz
   refine⟨w,rfl,?_⟩
   split at hz
   ·rename_i ek;exact .inl ⟨ek.symm,hz.symm⟩
   ·rename_i ek;exact .inr ⟨fun e=>ek e.symm,hz.symm⟩
 have invS:∀ {j:Nat} {z:Sc},(t.end2 k s fk ft).scs[j]?=some z->∃ w,t.scs[j]?=some w/\((j=s/\z={ w with live:=w.live-1 })\/(j≠s/\z=w)):=fun {j z} hz=>by
  rw[es,List.getElem?_modify] at hz
  cases hw:t.scs[j]? with
  | none=>rw[hw] at hz;cases hz
  | some w =>
   rw[hw] at hz
   simp only[Option.map_eq_map,Option.map_some,Option.some.injEq] at hz
   refine⟨w,rfl,?_⟩
   split at hz
   ·rename_i ek;exact .inl ⟨ek.symm,hz.symm⟩
   ·rename_i ek;exact .inr ⟨fun e=>ek e.symm,hz.symm⟩
 have getT:∀ {j:Nat} {w:Tk},t.tks[j]?=some w->∃ z,(t.end2 k s fk ft).tks[j]?=some z/\z.inn=w.inn:=fun {j w} hw=>by
  rw[et,List.getElem?_modify,hw]
  refine⟨_,rfl,?_⟩
  simp only
  split<;>rfl
 have same:∀ {j:Nat} {z w:Sc},((j=s/\z={ w with live:=w.live-1 })\/(j≠s/\z=w))->z.ow=w.ow/\z.tks=w.tks/\z.ov=w.ov:=fun h=>by rcases h with⟨_,rfl⟩ | ⟨_,rfl⟩<;>exact⟨rfl,rfl,rfl⟩
 have sameT:∀ {j:Nat} {z w:Tk},((j=k/\z={ w with en:=true,fk:=fk,ft:=ft })\/(j≠k/\z=w))->z.opn=w.opn/\z.inn=w.inn/\z.lv=w.lv:=fun h=>by rcases h with⟨_,rfl⟩ | ⟨_,rfl⟩<;>exact⟨rfl,rfl,rfl⟩
 have rnk:(t.end2 k s fk ft).rn k=false:=by
  have:(t.end2 k s fk ft).tks[k]?=some { x with en:=true,fk:=fk,ft:=ft }:=by rw[et,List.getElem?_modify,hx];simp only[if_true];rfl
  rw[rn_of this];rfl
 have rno:∀ j,j≠k->t.rn j=(t.end2 k s fk ft).rn j:=fun j hj=>by
  simp only[TS.rn,et,List.getElem?_modify,if_neg (Ne.symm hj)]
  cases t.tks[j]?<;>rfl
 have rnt:t.rn k=true:=by rw[rn_of hx,h1];rfl
 have hsl:=ok.inn k x s hx hi
 obtain⟨y,hy⟩:∃ y,t.scs[s]?=some y:=⟨_,List.getElem?_eq_getElem hsl⟩
 have kin:k∈y.tks:=(W.mem s y k hy).2 ⟨x,hx,hi⟩
 have cnt:=countP_drop (W.mnd s y hy) kin rnt rnk rno
 refine⟨fun j z s' y' hz hs hy'=>?_,fun j z hz=>?_,fun s' y' j hy'=>?_,fun s' y' hy'=>?_,fun j z hz hlv=>?_,fun j z hz hen=>?_,fun s' y' hy'=>?_,fun s' y' z hy' hz=>?_,fun s' y' hy' ho=>?_,fun j z s' y' hz hi' hy'=>?_⟩
 ·obtain⟨w',hw',h'⟩:=invS hy'
  obtain⟨w,hw,h⟩:=invT hz
  rw[(same h').1]
  rw[(sameT h).1] at hs
  exact W.ow1 j w s' w' hw hs hw'
 ·obtain⟨w,hw,h⟩:=invT hz
  rw[(sameT h).1];exact W.nd j w hw
 ·obtain⟨w',hw',h'⟩:=invS hy'
  rw[(same h').2.1,W.mem s' w' j hw']
  constructor
  ·rintro⟨w,hw,hi⟩
   obtain⟨z,hz,h1⟩:=getT hw
   exact⟨z,hz,by rw[h1];exact hi⟩
  ·rintro⟨z,hz,hi⟩
   obtain⟨w,hw,h⟩:=invT hz
   exact⟨w,hw,by rw[<- (sameT h).2.1];exact hi⟩
 ·obtain⟨w',hw',h'⟩:=invS hy'
  rw[(same h').2.1];exact W.mnd s' w' hw'
 ·obtain⟨w,hw,h⟩:=invT hz
  rw[(sameT h).2.2] at hlv
  obtain⟨a,s',y',b,c,d⟩:=W.lv j w hw hlv
  have hjk:j≠k:=fun e1=>by subst e1;rw[hx] at hw;cases hw;rw[hlv0] at hlv;cases hlv
  have hzw:z=w:=by
   rcases h with⟨e1,_⟩ | ⟨_,e1⟩
   ·exact absurd e1 hjk
   ·exact e1
  subst hzw
  by_cases e1:s'=s
  ·subst e1
   rw[hy] at c;cases c
   exact⟨a,s',_,b,by rw[es,List.getElem?_modify,hy];simp only[if_true];rfl,.inr rfl⟩
  ·refine⟨a,s',y',b,by rw[es,List.getElem?_modify,c];simp only[if_neg (Ne.symm e1)];rfl,.inl ?_⟩
   rcases d with d | d
   ·exact d
   ·cases d
 ·obtain⟨w,hw,h⟩:=invT hz
  rw[(sameT h).1]
  rcases h with⟨rfl,rfl⟩ | ⟨hne,rfl⟩
  ·rw[hx] at hw;cases hw;exact h2
  ·exact W.en j z hw hen
 ·obtain⟨w',hw',h'⟩:=invS hy'
  have old:=W.live s' w' hw'
  rcases h' with⟨rfl,rfl⟩ | ⟨hns,rfl⟩
  ·rw[hy] at hw';cases hw'
   simp only
   omega
  ·rw[<- countP_same fun j hj=>rno j fun e1=>?_]
   ·exact old
   ·subst e1
    obtain⟨v,hv,hvi⟩:=(W.mem s' y' j hw').1 hj
    rw[hx] at hv;cases hv
    rw[hi] at hvi;cases hvi;exact hns rfl
 ·obtain⟨w',hw',h'⟩:=invS hy'
  rw[(same h').1] at hz
  obtain⟨w,hw,h⟩:=invT hz
  rw[(same h').2.2,(sameT h).1];exact W.ov s' w' w hw' hw
 ·obtain⟨w',hw',h'⟩:=invS hy'
  have ho':=ho
  rw[(same h').2.2] at ho'
  have old:=W.ov2 s' w' hw' ho'
  rcases h' with⟨rfl,rfl⟩ | ⟨hns,rfl⟩
  ·rw[hy] at hw';cases hw'
   have:=W.live s' y hy
   omega
  ·exact old
 ·obtain⟨w',hw',h'⟩:=invS hy'
  rw[(same h').1]
  obtain⟨w,hw,h⟩:=invT hz
  exact W.up j w s' w' hw (by rw[<- (sameT h).2.1];exact hi') hw'
theorem WI.end1(W:WI none t)(ok:TOk c t){x:Tk}(hx:t.tks[k]?=some x)(h1:x.en=false)(h2:x.opn=[])(hi:x.inn=none)(fk:Int)(ft:ByteArray):WI none (t.end1 k fk ft):=by
 have eq:t.end1 k fk ft=⟨t.tks.modify k fun x=>{ x with en:=true,fk:=fk,ft:=ft },t.scs⟩:=by
  simp only[TS.end1,TS.upT,List.modify_modify_eq]
  rfl
 have es:=congrArg TS.scs eq
 have et:=congrArg TS.tks eq
 simp only at es et
 have hlv0:x.lv=false:=by
  cases h:x.lv with
  | false=>rfl
  | true =>
   obtain⟨_,s',y',b,_⟩:=W.lv k x hx h
   rw[h2] at b;cases b
 have invT:∀ {j:Nat} {z:Tk},(t.end1 k fk ft).tks[j]?=some z->∃ w,t.tks[j]?=some w/\((j=k/\z={ w with en:=true,fk:=fk,ft:=ft })\/(j≠k/\z=w)):=fun {j z} hz=>by
  rw[et,List.getElem?_modify] at hz
  cases hw:t.tks[j]? with
  | none=>rw[hw] at hz;cases hz
  | some w =>
   rw[hw] at hz
   simp only[Option.map_eq_map,Option.map_some,Option.some.injEq] at hz
   refine⟨w,rfl,?_⟩
   split at hz
   ·rename_i ek;exact .inl ⟨ek.symm,hz.symm⟩
   ·rename_i ek;exact .inr ⟨fun e=>ek e.symm,hz.symm⟩
 have getT:∀ {j:Nat} {w:Tk},t.tks[j]?=some w->∃ z,(t.end1 k fk ft).tks[j]?=some z/\z.inn=w.inn:=fun {j w} hw=>by
  rw[et,List.getElem?_modify,hw]
  refine⟨_,rfl,?_⟩
  simp only
  split<;>rfl
 have scs:(t.end1 k fk ft).scs=t.scs:=by rw[eq]
 have sameT:∀ {j:Nat} {z w:Tk},((j=k/\z={ w with en:=true,fk:=fk,ft:=ft })\/(j≠k/\z=w))->z.opn=w.opn/\z.inn=w.inn/\z.lv=w.lv:=fun h=>by rcases h with⟨_,rfl⟩ | ⟨_,rfl⟩<;>exact⟨rfl,rfl,rfl⟩
 have rno:∀ j,j≠k->t.rn j=(t.end1 k fk ft).rn j:=fun j hj=>by
  simp only[TS.rn,et,List.getElem?_modify,if_neg (Ne.symm hj)]
  cases t.tks[j]?<;>rfl
 refine⟨fun j z s' y' hz hs hy'=>?_,fun j z hz=>?_,fun s' y' j hy'=>?_,fun s' y' hy'=>?_,fun j z hz hlv=>?_,fun j z hz hen=>?_,fun s' y' hy'=>?_,fun s' y' z hy' hz=>?_,fun s' y' hy' ho=>?_,fun j z s' y' hz hi' hy'=>?_⟩
 all_goals try rw[scs] at hy'
 ·obtain⟨w,hw,h⟩:=invT hz
  rw[(sameT h).1] at hs
  exact W.ow1 j w s' y' hw hs hy'
 ·obtain⟨w,hw,h⟩:=invT hz
  rw[(sameT h).1];exact W.nd j w hw
 ·rw[W.mem s' y' j hy']
  constructor
  ·rintro⟨w,hw,hi⟩
   obtain⟨z,hz,h1⟩:=getT hw
   exact⟨z,hz,by rw[h1];exact hi⟩
  ·rintro⟨z,hz,hi⟩
   obtain⟨w,hw,h⟩:=invT hz
   exact⟨w,hw,by rw[<- (sameT h).2.1];exact hi⟩
 ·exact W.mnd s' y' hy'
 ·obtain⟨w,hw,h⟩:=invT hz
  rw[(sameT h).2.2] at hlv
  obtain⟨a,s',y',b,c,d⟩:=W.lv j w hw hlv
  have hjk:j≠k:=fun e1=>by subst e1;rw[hx] at hw;cases hw;rw[hlv0] at hlv;cases hlv
  have hzw:z=w:=by
   rcases h with⟨e1,_⟩ | ⟨_,e1⟩
   ·exact absurd e1 hjk
   ·exact e1
  subst hzw
  exact⟨a,s',y',b,by rw[scs];exact c,d⟩
 ·obtain⟨w,hw,h⟩:=invT hz
  rw[(sameT h).1]
  rcases h with⟨rfl,rfl⟩ | ⟨hne,rfl⟩
  ·rw[hx] at hw;cases hw;exact h2
  ·exact W.en j z hw hen
 ·rw[<- countP_same fun j hj=>rno j fun e1=>?_]
  ·exact W.live s' y' hy'
  ·subst e1
   obtain⟨v,hv,hvi⟩:=(W.mem s' y' j hy').1 hj
   rw[hx] at hv;cases hv
   rw[hi] at hvi;cases hvi
 ·obtain⟨w,hw,h⟩:=invT hz
  rw[(sameT h).1];exact W.ov s' y' w hy' hw
 ·exact W.ov2 s' y' hy' ho
 ·obtain⟨w,hw,h⟩:=invT hz
  exact W.up j w s' y' hw (by rw[<- (sameT h).2.1];exact hi') hy'
end
end Go.Proofs.Ytlonjogfeidgfaa.tr
namespace Go.Proofs.Ytlonjogfeidgfaa.r30p
open Go Go.Ev
set_option maxRecDepth 100000
set_option linter.unusedVariables false
theorem eq(oa ob:Option Addr)(la za zb:Nat)(g g2:Hp) :
  pvFn Try.prog (pvCall Try.prog 0) Try.f34 [.slice oa la za,.slice ob la zb] (.is g) [.bit false,.loop (.exit 0) [] (.is g2)] =
  some (.bool true,.is g2,[],[.cmp .neq (Int.ofNat la) (Int.ofNat la) false,.loop 26 false (loopN Try.f34 0) [(13,.int .i64 0),(12,.int .i64 (Int.ofNat la)),(11,.slice oa la za),(10,.bool false),(9,.int .i64 (Int.ofNat la)),(8,.slice ob la zb),(7,.int .i64 (Int.ofNat la)),(6,.slice oa la za),(4,.bool false),(0,.slice oa la za),(1,.slice ob la zb)] (.is g) (.exit 0) [] (.is g2)]):=by intros;kernel_rfl
theorem eq_out(oa ob:Option Addr)(ln za zb:Nat)(i:Int)(g:Hp) :
  pvCode Try.prog (pvCall Try.prog 0) 26 false (loopN Try.f34 0) [(13,.int .i64 i),(12,.int .i64 (Int.ofNat ln)),(1,.slice ob ln zb),(0,.slice oa ln za)] (.is g) [.bit false] =
  some (.exit 0,[(14,.bool false),(13,.int .i64 i),(12,.int .i64 (Int.ofNat ln)),(1,.slice ob ln zb),(0,.slice oa ln za)],.is g,[],[.cmp .lss i (Int.ofNat ln) false]):=by intros;kernel_rfl
theorem eq_go(ox oy ln q:Nat)(i i1 k n m fk:Int)(ft:ByteArray)(g:Hp) :
  let Z1:Value:=.slice (some ⟨oy,0,none⟩) ln 5
  let Z2:Value:=.slice (some ⟨ox,0,none⟩) ln 5
  let Z3:List Value:=[.int .i64 k,.int .i64 n,.int .i64 m,.int .i64 fk,.string ft]
  let Z4:Value:=.agg #[.int .i64 k,.int .i64 n,.int .i64 m,.int .i64 fk,.string ft]
  pvCode Try.prog (pvCall Try.prog 0) 26 false (loopN Try.f34 0) [(13,.int .i64 i),(12,.int .i64 (Int.ofNat ln)),(1,Z1),(0,Z2)] (.is g) [.bit true,.offs q,.cells Z3,.offs q,.cells Z3,.bit false,.num i1] =
  some (.normal,[(13,.int .i64 i1),(25,.int .i64 i1),(24,.bool false),(23,Z4),(22,.pointer (some ⟨oy,q,none⟩)),(21,.int .i64 i),(20,Z1),(19,Z4),(18,.pointer (some ⟨ox,q,none⟩)),(17,.int .i64 i),(16,Z2),(5,.int .i64 i),(15,.int .i64 i),(14,.bool true),(13,.int .i64 i),(12,.int .i64 (Int.ofNat ln)),(1,Z1),(0,Z2)],.is g,[],[.cmp .lss i (Int.ofNat ln) true,.stat (drawN Try.f34 0),.off q 0 i ln 5,.ldn (.is g) ox q 5 Z3,.off q 0 i ln 5,.ldn (.is g) oy q 5 Z3,.aeq .neq 38 #[.int .i64 k,.int .i64 n,.int .i64 m,.int .i64 fk,.string ft] #[.int .i64 k,.int .i64 n,.int .i64 m,.int .i64 fk,.string ft] false,.arith .add .i64 i 1 i1]):=by intros;kernel_rfl
end Go.Proofs.Ytlonjogfeidgfaa.r30p
namespace Go.Proofs.Ytlonjogfeidgfaa.tr
open Go Go.Ev
set_option maxRecDepth 100000
set_option linter.unusedVariables false
set_option linter.constructorNameAsVariable false
theorem efC_at:∀ {l:List Ef} {k:Nat} {e:Ef},l[k]?=some e->((efC l).drop (k*5)).take 5=e.cells
 | [],k,e,h=>by simp at h
 | x::l,0,e,h=>by
  simp at h;subst h
  simp[efC,Ef.cells]
 | x::l,k+1,e,h=>by
  have:=efC_at (l:=l) (k:=k) (e:=e) (by simpa using h)
  rw[efC,List.drop_append,List.drop_of_length_le (by simp[Ef.cells];omega),show (k+1)*5-x.cells.length=k*5 by simp[Ef.cells];omega,List.nil_append]
  exact this
theorem guard30:Try.prog.eqGuardType Try.prog.depth 29=false:=by kernel_rfl
section
variable {g g':Hp} {ρ ρ':Lay} {t t':TS} {b o f1 f2:Nat} {c:Nat}
end
end Go.Proofs.Ytlonjogfeidgfaa.tr
namespace Go.Proofs.Ytlonjogfeidgfaa.tr
open Go Go.Ev
set_option maxRecDepth 100000
set_option linter.unusedVariables false
set_option linter.constructorNameAsVariable false
def SlG(h:Hp)(v:Value)(n z:Nat)(cs:List Value):Prop :=
 cs.length=n*z/\∃ oa za,v=.slice oa n za/\(n≠0->∃ o junk rw,oa=some ⟨o,0,none⟩/\za=z/\h[o]?=some (.cells (cs++junk) rw))
theorem SlV.g{h:Hp}{lo n z:Nat}{v:Value}{cs:List Value}(a:SlV h lo v n z cs):SlG h v n z cs:=by
 rcases a with⟨rfl,rfl,rfl⟩ | ⟨a1,a2,o,a3,a4,a5⟩
 ·exact⟨by simp,none,0,rfl,fun e=>absurd rfl e⟩
 ·exact⟨a2,_,_,a3,fun _=>⟨o,[],true,rfl,rfl,by rw[List.append_nil];exact a4⟩⟩
theorem guard44:Try.prog.eqGuardType Try.prog.depth 48=false:=by kernel_rfl
theorem leaves49:leaves Try.prog 8 38=some (5,[(0,.int .i64),(1,.int .i64),(2,.int .i64),(3,.int .i64),(4,.string)]):=by kernel_rfl
theorem guard49:Try.prog.eqGuardType Try.prog.depth 38=false:=by kernel_rfl
theorem aeqF49(k n m f:Int)(s:ByteArray):(Asm.aeq .neq 38 #[.int .i64 k,.int .i64 n,.int .i64 m,.int .i64 f,.string s] #[.int .i64 k,.int .i64 n,.int .i64 m,.int .i64 f,.string s] false).holds Try.prog:=by
 refine⟨rfl,rfl,.inr ⟨rfl,?_⟩⟩
 simp[aggEq,leaves49,guard49,eqOffs,leafEq]
theorem stat29:(Asm.stat (drawN Try.f34 0)).holds Try.prog:=show statOk (drawN Try.f34 0)=true by kernel_rfl
section
variable {h:Hp}
theorem equalEf_loop{l:List Ef}{oa ob:Option Addr}{za zb:Nat}(hb:l.length<=10000000000)(A:l.length≠0->∃ o junk rw,oa=some ⟨o,0,none⟩/\za=5/\h[o]?=some (.cells (efC l++junk) rw))(B:l.length≠0->∃ o junk rw,ob=some ⟨o,0,none⟩/\zb=5/\h[o]?=some (.cells (efC l++junk) rw)) :
  ∀ (j i:Nat) (E:Env),i+j=l.length->EnvLe [(13,.int .i64 (i:Int)),(12,.int .i64 (Int.ofNat l.length)),(1,.slice ob l.length zb),(0,.slice oa l.length za)] E ->
   ∃ E1,LRun Try.prog 26 false (loopN Try.f34 0) E h (.exit 0) E1 h:=by
 intro j
 induction j with
 | zero =>
  intro i E hi hE
  have e:i=l.length:=by omega
  subst e
  obtain⟨E2,q1,q2⟩:=pvC 0 hE (r30p.eq_out oa ob l.length za zb l.length h) ⟨ltF (by simp),trivial⟩
  exact⟨E2,.last q2 (by simp)⟩
 | succ j ih =>
  intro i E hi hE
  obtain⟨w,hw⟩:∃ w,l[i]?=some w:=⟨_,List.getElem?_eq_getElem (by omega)⟩
  obtain⟨o,junk,rw1,rfl,rfl,ho⟩:=A (by omega)
  obtain⟨o',junk',rw2,rfl,rfl,ho'⟩:=B (by omega)
  have ll:=efC_len l
  have a1:∀ junk:List Value,((efC l++junk).drop (i*5)).take 5=w.cells:=fun junk=>by
   rw[List.drop_append_of_le_length (by omega),List.take_append_of_le_length (by simp;omega)]
   exact efC_at hw
  obtain⟨E2,q1,q2⟩:=pvC 0 hE (r30p.eq_go o o' l.length (i*5) i ((i+1:Nat):Int) w.kind w.n w.m w.fk w.ft h)
   ⟨ltT (by simp;omega),stat29,offI (q:=i) rfl (by omega) (by omega),aN ho (by simp;omega) (a1 _),offI (q:=i) rfl (by omega) (by omega),aN ho' (by simp;omega) (a1 _),aeqF49 _ _ _ _ _,addI rfl (by omega) (by omega),trivial⟩
  obtain⟨E3,s1⟩:=ih (i+1) E2 (by omega) (.trans (.add (.add (.add (.add (.nil _) rfl) rfl) rfl) rfl) q1)
  exact⟨E3,.step q2 s1⟩
theorem equalEf_run{l:List Ef}{v v':Value}(hb:l.length<=10000000000)(A:SlG h v l.length 5 (efC l))(B:SlG h v' l.length 5 (efC l)):Run Try.prog 34 [v,v'] h (.bool true) h:=by
 obtain⟨_,oa,za,rfl,A⟩:=A
 obtain⟨_,ob,zb,rfl,B⟩:=B
 obtain⟨E1,q1⟩:=equalEf_loop hb A B l.length 0 [(13,.int .i64 (0:Nat)),(12,.int .i64 (Int.ofNat l.length)),(1,.slice ob l.length zb),(0,.slice oa l.length za)] (by omega) (EnvLe.refl _)
 exact pvF 0 Try.func34 (r30p.eq oa ob l.length za zb h h) ⟨neF rfl,a_loop (by kernel_rfl) (.add (.add (.add (.add (.nil _) rfl) rfl) rfl) rfl) (.nil _) q1,trivial⟩
end
section
variable {h:Hp} {ρ σ:Lay} {t:TS} {c r s:Nat}
end
end Go.Proofs.Ytlonjogfeidgfaa.tr
namespace Go.Proofs.Ytlonjogfeidgfaa.tr
open Go Go.Ev
set_option linter.unusedVariables false
set_option linter.constructorNameAsVariable false
section
variable {e:Option Nat} {t:TS} {c k:Nat}
theorem WI.irrT(W:WI e t){f:Tk->Tk}(h1:∀ x,(f x).inn=x.inn)(h2:∀ x,(f x).opn=x.opn)(h3:∀ x,(f x).lv=x.lv)(h4:∀ x,(f x).en=x.en):WI e (t.upT k f):=by
 cases hx:t.tks[k]? with
 | none =>
  have:t.upT k f=t:=by
   simp only[TS.upT]
   rw[List.modify_eq_self]
   exact List.getElem?_eq_none_iff.1 hx
  rw[this];exact W
 | some x =>
  refine W.upT hx (h1 x) (h4 x) (fun s y hs hy=>W.ow1 k x s y hx (by rw[<- h2];exact hs) hy) (by rw[h2];exact W.nd k x hx) (fun hl=>?_) (fun he=>by rw[h2];exact W.en k x hx (by rw[<- h4];exact he)) (fun s y hy ho=>by rw[h2];exact W.ov s y x hy (by rw[ho];exact hx)) fun _ h=>h
  rw[h3] at hl
  rw[h4,h2];exact W.lv k x hx hl
theorem WI.root(W:WI e t)(ok:TOk c t):WI e t.root.1:=by
 unfold TS.root
 split
 ·exact W
 ·exact W.newT ok
theorem open_ov(W:WI e t){x:Tk}{s:Nat}{y:Sc}(hx:t.tks[k]?=some x)(hs:some s∈x.opn)(hy:t.scs[s]?=some y):y.ov=false/\y.ow=k:=by
 have h:=W.ow1 k x s y hx hs hy
 exact⟨(W.ov s y x hy (by rw[h];exact hx)).2 hs,h⟩
theorem WI.spawn(W:WI e t)(ok:TOk c t)(n:Int):WI e (t.spawn n).1:=by
 unfold TS.spawn
 split
 ·exact W
 ·split
  ·exact W
  ·rename_i x hx
   split
   ·exact W
   ·rename_i s hs
    split
    ·exact W
    ·have hm:=inmost_mem hs
     obtain⟨y,hy⟩:∃ y,t.scs[s]?=some y:=⟨_,List.getElem?_eq_getElem (ok.opn _ x s hx hm)⟩
     obtain⟨h1,h2⟩:=open_ov W hx hm hy
     exact W.add ok hy h1 (by rw[h2];exact gT hx)
theorem WI.open(W:WI e t)(ok:TOk c t)(n:Int)(su:Bool):WI e (t.open n su).1:=by
 unfold TS.open
 split
 ·exact W
 ·rename_i k e' hq
  split
  ·exact W
  ·obtain⟨_,_,x,hx,he,hl⟩:=acts_some hq
   exact W.openF ok hx hl he su
theorem WI.shield(W:WI e t)(n:Int):WI e (t.shield n).1:=by
 unfold TS.shield
 split
 ·exact W
 ·rename_i k e' hq
  obtain⟨_,_,x,hx,he,hl⟩:=acts_some hq
  rw[hx]
  simp only
  split
  ·exact W
  ·have mm:∀ s:Nat,some s∈x.opn++[none]↔some s∈x.opn:=fun s=>by simp
   refine W.upT hx rfl rfl (fun s y hs hy=>W.ow1 k x s y hx ((mm s).1 hs) hy) ?_ (fun h=>by simp only at h;rw[hl] at h;cases h) (fun h=>by simp only at h;rw[he] at h;cases h) (fun s y hy ho=>by rw[mm s];exact W.ov s y x hy (by rw[ho];exact hx)) fun _ h=>h
   simp only[List.filterMap_append,List.filterMap_cons,List.filterMap_nil,id,List.append_nil]
   exact W.nd k x hx
theorem WI.unveil(W:WI e t)(n:Int):WI e (t.unveil n).1:=by
 unfold TS.unveil
 split
 ·exact W
 ·rename_i k e' hq
  obtain⟨_,_,x,hx,he,hl⟩:=acts_some hq
  rw[hx]
  simp only
  split
  ·rename_i hg
   have spl:x.opn=x.opn.dropLast++[none]:=by
    have hne:x.opn≠[]:=fun e=>by rw[e] at hg;cases hg
    have:=List.dropLast_concat_getLast hne
    rw[List.getLast?_eq_some_getLast hne] at hg
    simp only[Option.some.injEq] at hg
    rw[hg] at this
    exact this.symm
   have mm:∀ s:Nat,some s∈x.opn.dropLast↔some s∈x.opn:=fun s=>by
    constructor
    ·exact fun h=>List.dropLast_subset _ h
    ·intro h;rw[spl] at h;simpa using h
   refine W.upT hx rfl rfl (fun s y hs hy=>W.ow1 k x s y hx ((mm s).1 hs) hy) ?_ (fun h=>by simp only at h;rw[hl] at h;cases h) (fun h=>by simp only at h;rw[he] at h;cases h) (fun s y hy ho=>by rw[mm s];exact W.ov s y x hy (by rw[ho];exact hx)) fun _ h=>h
   have:=W.nd k x hx
   rw[spl] at this
   simpa using this
  ·exact W
theorem WI.blame(W:WI e t)(s:Nat)(fk:Int)(ft:ByteArray):WI e (t.blame s fk ft).1:=by
 unfold TS.blame
 split
 ·split
  ·exact W.irrS (fun _=>rfl) (fun _=>rfl) (fun _=>rfl) fun _=>rfl
  ·exact W
 ·exact W
theorem WI.fail(W:WI e t)(n fk:Int)(ft:ByteArray):WI e (t.fail n fk ft).1:=by
 unfold TS.fail
 split
 ·exact W
 ·split
  ·exact W
  ·split
   ·exact W
   ·split
    ·exact W.blame _ _ _
    ·exact W
theorem WI.leave1(W:WI none t){x:Tk}{s:Nat}{y:Sc}(hx:t.tks[k]?=some x)(he:x.en=false)(hg:x.opn.getLast?=some (some s))(hy:t.scs[s]?=some y)(fk:Int)(ft:ByteArray):WI (some s) (t.leave1 k s fk ft):=by
 have W1:=W.blame s fk ft
 have hx1:(t.blame s fk ft).1.tks[k]?=some x:=by rw[blame_tks];exact hx
 obtain⟨y',hy',h1,h2,h3,h4,h5⟩:=blame_get (s:=s) (fk:=fk) (ft:=ft) hy
 unfold TS.leave1
 refine (WI.upT (e':=some s) W1 hx1 (f:=fun x=>{ x with lv:=true }) rfl rfl (fun s y hs hy=>W1.ow1 k x s y hx1 hs hy) (W1.nd k x hx1) (fun _=>⟨he,s,y',hg,hy',.inr rfl⟩) (fun h=>W1.en k x hx1 h) (fun s y hy ho=>W1.ov s y x hy (by rw[ho];exact hx1)) fun _ h=>by cases h).irrT (fun _=>rfl) (fun _=>rfl) (fun _=>rfl) fun _=>rfl
theorem WI.leave(W:WI none t)(ok:TOk c t)(n fk:Int)(ft:ByteArray):WI none (t.leave n fk ft).1:=by
 unfold TS.leave
 split
 ·exact W
 ·rename_i k e' hq
  obtain⟨_,_,x,hx,he⟩:=runs_some hq
  split
  ·exact W
  ·rw[hx]
   simp only
   split
   ·rename_i s hl hg
    split
    ·rename_i y hy
     exact (W.leave1 hx he hg hy fk ft).fin ok.leave1
    ·exact W
   ·exact W
theorem WI.end(W:WI none t)(ok:TOk c t)(n fk:Int)(ft:ByteArray):WI none (t.end n fk ft).1:=by
 unfold TS.end
 split
 ·exact W
 ·rename_i k e' hq
  obtain⟨_,_,x,hx,he⟩:=runs_some hq
  split
  ·exact W
  ·rw[hx]
   simp only
   split
   ·exact W
   ·rename_i ho
    have ho':x.opn=[]:=Classical.byContradiction ho
    split
    ·rename_i hi
     exact W.end1 ok hx he ho' hi fk ft
    ·rename_i s hi
     split
     ·exact W
     ·rename_i y hy
      have W2:=W.end2 ok hx he ho' hi fk ft
      have ok3:=ok.end3 (k:=k) (s:=s) (y:=y) (fk:=fk) (ft:=ft)
      refine WI.fin (c:=c+1) ?_ ok3
      unfold TS.end3
      split
      ·exact W2
      ·exact W2.blame _ _ _
theorem WI.roots(n:Nat):WI none (TS.roots n):=by
 have g:∀ (k:Nat) x,(TS.roots n).tks[k]?=some x->x=Tk0 none:=fun k x hx=>List.eq_of_mem_replicate (List.mem_of_getElem? hx)
 have s:∀ (k:Nat) y,¬ (TS.roots n).scs[k]?=some y:=fun k y h=>by simp[TS.roots] at h
 refine⟨fun k x s' y _ _ hy=>absurd hy (s _ _),fun k x hx=>by rw[g k x hx];exact List.nodup_nil,fun s' y j hy=>absurd hy (s _ _),fun s' y hy=>absurd hy (s _ _),fun k x hx hl=>?_,fun k x hx he=>?_,fun s' y hy=>absurd hy (s _ _),fun s' y x hy=>absurd hy (s _ _),fun s' y hy=>absurd hy (s _ _),fun j x s' y _ _ hy=>absurd hy (s _ _)⟩
 ·rw[g k x hx] at hl;cases hl
 ·rw[g k x hx] at he;cases he
end
section
variable {cnt:List Int} {t t':TS} {c k:Nat}
end
end Go.Proofs.Ytlonjogfeidgfaa.tr
namespace Go.Proofs.Ytlonjogfeidgfaa.tr
open Go Go.Ev
set_option maxRecDepth 100000
set_option linter.unusedVariables false
set_option linter.constructorNameAsVariable false
abbrev Pr:=Int×Int
def prC(p:Pr):List Value:=[.int .i64 p.1,.int .i64 p.2]
def prL(l:List Pr):List Value:=(l.map prC).flatten
def lkP(v:Option Nat):Pr:=(lkK v,lkN v)
theorem prL_cons(p:Pr)(l:List Pr):prL (p::l)=prC p++prL l:=rfl
theorem prL_app(l m:List Pr):prL (l++m)=prL l++prL m:=by simp[prL]
theorem prL_len:∀ l:List Pr,(prL l).length=l.length*2
 | []=>rfl
 | p::l=>by rw[prL_cons,List.length_append,prL_len l];simp[prC];omega
theorem lkL_pr:∀ l:List (Option Nat),lkL l=prL (l.map lkP)
 | []=>rfl
 | v::l=>by rw[lkL,lkL_pr l,lkC_eq];rfl
theorem prL_at:∀ {l:List Pr} {k:Nat} {p:Pr} (junk:List Value),l[k]?=some p->((prL l++junk).drop (k*2)).take 2=prC p
 | [],k,p,_,h=>by simp at h
 | q::l,0,p,_,h=>by simp at h;subst h;simp[prL_cons,prC]
 | q::l,k+1,p,junk,h=>by
  have:=prL_at (l:=l) (k:=k) (p:=p) junk (by simpa using h)
  rw[prL_cons,List.append_assoc,List.drop_append,List.drop_of_length_le (by simp[prC];omega),List.nil_append,show (k+1)*2-(prC q).length=k*2 by simp[prC];omega]
  exact this
theorem lkP_inj{v w:Option Nat}(h:lkP v=lkP w):v=w:=by
 cases v<;>cases w<;>simp[lkP,lkK,lkN] at h
 ·rfl
 ·rename_i a b;congr 1;omega
section
variable {h:Hp}
end
def inL(l:List Int):List Value:=l.map fun x=>.int .i64 x
section
variable {g g':Hp} {ρ ρ':Lay} {t t':TS} {b o f:Nat} {cnt:List Int} {c:Nat}
theorem inL_at{l:List Int}{k:Nat}{x:Int}(h:l[k]?=some x):(inL l)[k]?=some (.int .i64 x):=by rw[inL,List.getElem?_map,h];rfl
end
end Go.Proofs.Ytlonjogfeidgfaa.tr
namespace Go.Proofs.Ytlonjogfeidgfaa.tr
open Go Go.Ev
set_option maxRecDepth 100000
set_option linter.unusedVariables false
set_option linter.constructorNameAsVariable false
def ixO(v:Option Nat):List (Option Nat)->Nat
 | []=>0
 | x::l=>if x=v then 0 else ixO v l+1
theorem ixO_at{v:Option Nat}:∀ {l:List (Option Nat)} {k:Nat},l[k]?=some v->(∀ j,j<k->l[j]?≠some v)->ixO v l=k
 | [],k,h,_=>by simp at h
 | x::l,0,h,_=>by simp at h;simp[ixO,h]
 | x::l,k+1,h,hn=>by
  have h0:=hn 0 (by omega)
  simp at h0
  have:=ixO_at (l:=l) (k:=k) (by simpa using h) fun j hj=>by have:=hn (j+1) (by omega);simpa using this
  simp[ixO,h0,this]
theorem ixO_lt{v:Option Nat}:∀ {l:List (Option Nat)},v∈l->ixO v l<l.length
 | x::l,h=>by
  simp only[ixO]
  split
  ·simp
  ·rename_i c
   rcases List.mem_cons.1 h with h | h
   ·exact absurd h.symm c
   ·have:=ixO_lt h
    simp;omega
theorem stat19(k:Nat)(hk:k=0\/k=1\/k=2\/k=3):(Asm.stat (drawN Try.f48 k)).holds Try.prog:=by
 rcases hk with rfl | rfl | rfl | rfl
 ·exact show statOk (drawN Try.f48 0)=true by kernel_rfl
 ·exact show statOk (drawN Try.f48 1)=true by kernel_rfl
 ·exact show statOk (drawN Try.f48 2)=true by kernel_rfl
 ·exact show statOk (drawN Try.f48 3)=true by kernel_rfl
section
variable {h:Hp} {ρ:Lay} {t:TS} {c r:Nat}
theorem indexS_run(a:TAt h ρ t){k s si:Nat}{x:Tk}{oa:Option Addr}{za:Nat}(hx:t.tks[k]?=some x)(hsi:ρ (.sc s)=some si)(hin:∀ s,some s∈x.opn->s<t.scs.length)(hb:x.opn.length<=1000000)(hs:some s∈x.opn)(hv:slv (ρ (.op k)) x.opn.length=.slice oa x.opn.length za) :
  Run Try.prog 75 [.slice oa x.opn.length za,ptr si] h (.int .i64 (ixO (some s) x.opn:Nat)) h:=by
 have loop:∀ (j i:Nat) (E:Env),i+j=x.opn.length->EnvLe [(8,.int .i64 (i:Int)),(7,.int .i64 (Int.ofNat x.opn.length)),(0,.slice oa x.opn.length za),(1,ptr si)] E->(∀ j,j<i->x.opn[j]?≠some (some s)) ->
   ∃ E1,EnvLe [(4,.int .i64 (ixO (some s) x.opn:Nat))] E1/\LRun Try.prog 19 false (loopN Try.f75 0) E h .ret E1 h:=by
  intro j
  induction j with
  | zero =>
   intro i E hi hE hn
   obtain⟨k',hk'⟩:=List.mem_iff_getElem?.1 hs
   exact absurd hk' (hn k' (by have:=gT hk';omega))
  | succ j ih =>
   intro i E hi hE hn
   obtain⟨w,hw⟩:∃ w,x.opn[i]?=some w:=⟨_,List.getElem?_eq_getElem (by omega)⟩
   cases ho:ρ (.op k) with
   | none=>have:=a.sh.op k x hx ho;rw[this] at hi;simp at hi
   | some o =>
   rw[ho] at hv
   cases hv
   have B1:(Asm.cmp .lss (i:Int) (Int.ofNat x.opn.length) true).holds Try.prog:=ltT (by simp;omega)
   have B2:(Asm.off i 0 (i:Int) x.opn.length 1).holds Try.prog:=offI (q:=i) rfl (by omega) (by omega)
   have B3:(Asm.ld1 (.is h) o i (inP ρ w)).holds Try.prog:=a.ld1 rfl ho (by rw[cont_op hx,List.getElem?_map,hw];rfl)
   have B9:(Asm.arith .add .i64 (i:Int) 1 ((i+1:Nat):Int)).holds Try.prog:=addI rfl (by omega) (by omega)
   have nx:∀ {E2:Env},w≠some s->EnvLe [(8,.int .i64 ((i+1:Nat):Int)),(7,.int .i64 (Int.ofNat x.opn.length)),(0,.slice (some ⟨o,0,none⟩) x.opn.length 1),(1,ptr si)] E2->CRun Try.prog 19 false (loopN Try.f75 0) E h .normal E2 h->∃ E1,EnvLe [(4,.int .i64 (ixO (some s) x.opn:Nat))] E1/\LRun Try.prog 19 false (loopN Try.f75 0) E h .ret E1 h:=fun hne h1 h2=>by
    obtain⟨E3,s1,s2⟩:=ih (i+1) _ (by omega) h1 fun m hm e=>by
     by_cases e1:m=i
     ·subst e1;rw[hw] at e;cases e;exact hne rfl
     ·exact hn m (by omega) e
    exact⟨E3,s1,.step h2 s2⟩
   cases w with
   | none =>
    obtain⟨E2,q1,q2⟩:=pvC 0 hE (r38p.ig_nil none o x.opn.length 0 si 0 i i ((i+1:Nat):Int) h) ⟨B1,B2,B3,B9,trivial⟩
    exact nx (by simp) (.trans (.add (.add (.add (.add (.nil _) rfl) rfl) rfl) rfl) q1) q2
   | some s' =>
    have hs':=hin s' (List.mem_of_getElem? hw)
    obtain⟨yi,hyi⟩:=a.sh.sc s' hs'
    simp only[inP,hyi,pvv] at B3
    obtain⟨c1,ho1⟩:=a.own hsi
    obtain⟨c2,ho2⟩:=a.own hyi
    by_cases e:s'=s
    ·subst e
     rw[hsi] at hyi;cases hyi
     obtain⟨E2,q1,q2⟩:=pvC 0 hE (r38p.ig_eq none o x.opn.length 0 si si i i 0 h) ⟨B1,B2,B3,⟨114,7,c1,c2,und91,siz95,ho1,ho2,.inl ⟨rfl,by simp⟩⟩,trivial⟩
     refine⟨E2,?_,.last q2 (by simp)⟩
     rw[ixO_at hw hn]
     exact .trans (.add (.nil _) rfl) q1
    ·have hne:si≠yi:=fun e1=>by subst e1;have:=a.inj _ _ _ hsi hyi;cases this;exact e rfl
     obtain⟨E2,q1,q2⟩:=pvC 0 hE (r38p.ig_ne none o x.opn.length 0 si yi i i ((i+1:Nat):Int) h) ⟨B1,B2,B3,⟨114,7,c1,c2,und91,siz95,ho1,ho2,.inl ⟨rfl,by simp[hne]⟩⟩,B9,trivial⟩
     exact nx (by simpa using e) (.trans (.add (.add (.add (.add (.nil _) rfl) rfl) rfl) rfl) q1) q2
 obtain⟨E1,q1,q2⟩:=loop x.opn.length 0 [(8,.int .i64 (0:Nat)),(7,.int .i64 (Int.ofNat x.opn.length)),(0,.slice oa x.opn.length za),(1,ptr si)] (by omega) (EnvLe.refl _) (fun j hj=>absurd hj (Nat.not_lt_zero _))
 exact pvF 0 Try.func75 (r38p.ig_f oa x.opn.length za si _ h h) ⟨a_loop (by kernel_rfl) (.add (.add (.add (.add (.nil _) rfl) rfl) rfl) rfl) q1 q2,trivial⟩
structure Acc(h:Hp)(b8:Nat)(g:Hp)(v:Value)(acc:List Pr):Prop where
 keep:Keep (fun _=>False) h g
 lo:h.length<=b8
 box:g[b8]?=some (.cells [v] true)
 sl:SlV g (b8+1) v acc.length 2 (prL acc)
def fpA(b8:Nat)(v:Value)(q:Nat):Prop:=q=b8\/∃ n z,v=.slice (some ⟨q,0,none⟩) n z
theorem Acc.grow{b8:Nat}{g g':Hp}{v:Value}{acc:List Pr}(A:Acc h b8 g v acc)(K:Keep (fun _=>False) g g'):Acc h b8 g' v acc:=⟨A.keep.trans K,A.lo,K.2 _ _ A.box id,A.sl.keep K fun _ e=>e.elim⟩
theorem Acc.setL{b8 L:Nat}{g:Hp}{v:Value}{acc:List Pr}(A:Acc h b8 g v acc)(hL:h.length<=L){st:LoopState}{pd:Option Code}{E:Env}{n:Nat}{ps:Array Tmp}{x y:Code}(hl:g[L]?=some (.loop st pd E n ps x y))(o:AObj):Acc h b8 (g.set L o) v acc:=by
 refine⟨A.keep.setN hL _,A.lo,gNq A.box (fun e=>by subst e;rw[A.box] at hl;cases hl),?_⟩
 rcases A.sl with s | ⟨a1,a2,w,a3,a4,a5⟩
 ·exact .inl s
 ·exact .inr ⟨a1,a2,w,a3,gNq a4 (fun e=>by subst e;rw[a4] at hl;cases hl),a5⟩
theorem Acc.notL{b8 L:Nat}{g:Hp}{v:Value}{acc:List Pr}(A:Acc h b8 g v acc){st:LoopState}{pd:Option Code}{E:Env}{n:Nat}{ps:Array Tmp}{x y:Code}(hl:g[L]?=some (.loop st pd E n ps x y)):¬ fpA b8 v L:=by
 rintro (rfl | ⟨n',z',e⟩)
 ·rw[A.box] at hl;cases hl
 ·rcases A.sl with⟨_,_,e'⟩ | ⟨a1,a2,w,a3,a4,a5⟩
  ·rw[e'] at e;cases e
  ·rw[a3] at e;cases e
   rw[a4] at hl;cases hl
theorem Acc.notB{b8 q:Nat}{g:Hp}{v sl:Value}{acc:List Pr}(A:Acc h b8 g v acc)(hl:g[q]?=some (.cells [sl] true))(hn:q≠b8):¬ fpA b8 v q:=by
 rintro (rfl | ⟨n',z',e⟩)
 ·exact hn rfl
 ·rcases A.sl with⟨_,_,e'⟩ | ⟨a1,a2,w,a3,a4,a5⟩
  ·rw[e'] at e;cases e
  ·rw[a3] at e;cases e
   rw[a4] at hl
   have:=congrArg List.length (AObj.cells.inj (Option.some.inj hl)).1
   rw[prL_len] at this
   simp at this
   omega
theorem Acc.appN{b8:Nat}{g:Hp}{v:Value}(A:Acc h b8 g v [])(p:Pr) :
  Acc h b8 (((g++[AObj.cells (prC p) true])++[AObj.cells (prC p) true]).set b8 (.cells [.slice (some ⟨g.length+1,0,none⟩) 1 2] true)) (.slice (some ⟨g.length+1,0,none⟩) 1 2) [p] /\
  Keep (fpA b8 v) g (((g++[AObj.cells (prC p) true])++[AObj.cells (prC p) true]).set b8 (.cells [.slice (some ⟨g.length+1,0,none⟩) 1 2] true)):=by
 have bl:=get_lt A.box
 have kl:=A.keep.1
 refine⟨⟨(((A.keep.pushN _).pushN _).setN A.lo _),A.lo,gE (gP (gP A.box)),.inr ⟨by simp,by simp[prL,prC],g.length+1,rfl,?_,by omega⟩⟩,?_⟩
 ·exact gNq (gV _ (by simp)) (by omega)
 ·exact ((Keep.push _ _ _).trans (Keep.push _ _ _)).trans (Keep.set (fp:=fpA b8 v) (.inl rfl) _)
theorem Acc.appS{b8 w:Nat}{g:Hp}{acc:List Pr}(A:Acc h b8 g (.slice (some ⟨w,0,none⟩) acc.length 2) acc)(hw:g[w]?=some (.cells (prL acc) true))(hl:b8+1<=w)(p:Pr) :
  Acc h b8 ((((g++[AObj.cells (prC p) true]).set w .dead)++[AObj.cells (prL acc++prC p) true]).set b8 (.cells [.slice (some ⟨g.length+1,0,none⟩) (acc.length+1) 2] true)) (.slice (some ⟨g.length+1,0,none⟩) (acc.length+1) 2) (acc++[p]) /\
  Keep (fpA b8 (.slice (some ⟨w,0,none⟩) acc.length 2)) g ((((g++[AObj.cells (prC p) true]).set w .dead)++[AObj.cells (prL acc++prC p) true]).set b8 (.cells [.slice (some ⟨g.length+1,0,none⟩) (acc.length+1) 2] true)):=by
 have bl:=get_lt A.box
 have kl:=A.keep.1
 have lo:=A.lo
 have ll:=prL_len acc
 have hb2:((g++[AObj.cells (prC p) true]).set w .dead)[b8]?=some (.cells [.slice (some ⟨w,0,none⟩) acc.length 2] true):=gNq (gP A.box) (by omega)
 refine⟨⟨((((A.keep.pushN _).setN (by omega) _).pushN _).setN A.lo _),A.lo,gE (gP hb2),.inr ⟨by simp,by rw[prL_app];simp[prL,prC] at ll ⊢;omega,g.length+1,by simp,?_,by omega⟩⟩,?_⟩
 ·rw[prL_app]
  exact gNq (gV _ (by simp)) (by omega)
 ·exact (((Keep.push _ _ _).trans (Keep.set (fp:=fpA b8 (.slice (some ⟨w,0,none⟩) acc.length 2)) (.inr ⟨_,_,rfl⟩) _)).trans (Keep.push _ _ _)).trans (Keep.set (.inl rfl) _)
theorem Acc.cases{b8:Nat}{g:Hp}{v:Value}{acc:List Pr}(A:Acc h b8 g v acc):(acc=[]/\v=.slice none 0 0)\/(acc≠[]/\∃ w,v=.slice (some ⟨w,0,none⟩) acc.length 2/\g[w]?=some (.cells (prL acc) true)/\b8+1<=w):=by
 rcases A.sl with⟨a1,_,a2⟩ | ⟨a1,_,w,a3,a4,a5⟩
 ·exact .inl ⟨List.length_eq_zero_iff.1 a1,a2⟩
 ·exact .inr ⟨fun e=>a1 (by rw[e];rfl),w,a3,a4,a5⟩
theorem Acc.vr{b8:Nat}{g:Hp}{v:Value}{acc:List Pr}(A:Acc h b8 g v acc):veqR v=true:=by
 rcases A.cases with⟨_,e⟩ | ⟨_,w,e,_⟩<;>rw[e]<;>rfl
def TS.chainG(t:TS):Nat->Nat->Nat->List Pr
 | 0,_,_=>[]
 | f+1,k,top=>match t.tks[k]? with
  | none=>[]
  | some x=>((x.opn.take top).reverse.map lkP++[(1,((k+1:Nat):Int))])++match x.inn with
   | none=>[]
   | some s=>match t.scs[s]? with
    | none=>[]
    | some y=>match t.tks[y.ow]? with
     | none=>[]
     | some z=>lkP (some s)::t.chainG f y.ow (ixO (some s) z.opn)
def TS.chain(t:TS)(n:Int):List Pr×Int:=match t.runs n with
 | (none,e)=>([],e)
 | (some k,_)=>match t.tks[k]? with
  | some x=>(t.chainG (k+1) k x.opn.length,0)
  | none=>([],6)
noncomputable def CAS:Code:=partC Try.f48 [1,1,1,1,1,0,0,0,0,1,0,0]
noncomputable def CBD:Code:=partC Try.f48 [1,1,1,1,1,0,0,0,0,1,0,1]
theorem body19:Try.f48.body=some (chainT [partC Try.f48 [0],partC Try.f48 [1,0],partC Try.f48 [1,1,0],partC Try.f48 [1,1,1,0],partC Try.f48 [1,1,1,1,0]] (.block 0 (.loop (loopN Try.f48 0)))):=by kernel_rfl
theorem bodyL19:loopN Try.f48 0=.block 1 (.seq (.seq (partC Try.f48 [1,1,1,1,1,0,0,0,0,0]) (.block 2 (.rangeFunc (.tmp 32) #[33,34] CAS CBD))) (partC Try.f48 [1,1,1,1,1,0,0,0,1])):=by kernel_rfl
theorem ch_body(a:TAt h ρ t){b8:Nat}{g:Hp}{v:Value}{acc:List Pr}(A:Acc h b8 g v acc)(hb:acc.length<=100000)(w:Option Nat)(hw:∀ s,w=some s->s<t.scs.length){E:Env}(hE:EnvLe [(11,inP ρ w),(8,ptr b8)] E) :
  ∃ E' g' v',CRun Try.prog 84 true CBD E g .normal E' g'/\Acc h b8 g' v' (acc++[lkP w])/\Keep (fpA b8 v) g g':=by
 obtain⟨g2,r1,K2⟩:=link_run (a.grow A.keep) w hw
 have A2:=A.grow K2
 have l2:=K2.1
 have ga:(Asm.again (.is g) 42 (.pointer (some ⟨b8,0,none⟩)) v).holds Try.prog:=a_again1 agg33 A.box rfl A.vr
 have gb:(Asm.again (.is g2) 42 (.pointer (some ⟨b8,0,none⟩)) v).holds Try.prog:=a_again1 agg33 A2.box rfl A.vr
 have gl:(Asm.ld1 (.is g) b8 0 v).holds Try.prog:=aL A.box rfl
 rcases A.cases with⟨rfl,rfl⟩ | ⟨hne,o,rfl,_,_⟩
 ·obtain⟨A3,L3⟩:=A2.appN (lkP w)
  obtain⟨E2,q1,q2⟩:=pvC 0 hE (r38p.ch_bn b8 g2.length (g2.length+1) 0 0 (lkK w) (lkN w) (inP ρ w) [] (prC (lkP w)) [.slice (some ⟨g2.length+1,0,none⟩) 1 2] g g2)
   ⟨stat19 0 (by simp),ga,ga,gb,gl,r1,rfl,a_appGN rfl rfl (by omega) (gW _ _) (pL _ _),a_st (gP (gP A2.box)) (by simp) rfl,trivial⟩
  exact⟨E2,_,_,q2,A3,(K2.mono fun _ _ e=>e.elim).trans L3⟩
 ·rcases A2.cases with⟨e,_⟩ | ⟨_,o',eo,ho,hlo⟩
  ·exact absurd e hne
  cases eo
  obtain⟨A3,L3⟩:=A2.appS ho hlo (lkP w)
  have lo:=A2.lo
  obtain⟨E2,q1,q2⟩:=pvC 0 hE (r38p.ch_bs b8 g2.length (g2.length+1) o acc.length (lkK w) (lkN w) (inP ρ w) (prL acc++prC (lkP w)) (prC (lkP w)) [.slice (some ⟨g2.length+1,0,none⟩) (acc.length+1) 2] g g2)
   ⟨stat19 0 (by simp),ga,ga,gb,gl,r1,rfl,a_appGS rfl rfl (by omega) (by omega) (prL_len _) (gP ho) (gW _ _) (pL _ _),a_st (gP (gNq (gP A2.box) (by omega))) (by simp) rfl,trivial⟩
  exact⟨E2,_,_,q2,A3,(K2.mono fun _ _ e=>e.elim).trans L3⟩
theorem ch_links(a:TAt h ρ t)(ok:TOk c t)(hc:c<=1000){k ki b8 top:Nat}{x:Tk}(hx:t.tks[k]?=some x)(hki:ρ (.tk k)=some ki)(htop:top<=x.opn.length){g:Hp}{v:Value}{acc:List Pr}(A:Acc h b8 g v acc)(hb:acc.length<=70000){E:Env}(hE:EnvLe [(6,ptr ki),(9,.int .i64 (Int.ofNat top)),(8,ptr b8)] E) :
  ∃ E' g' v',EnvLe [(6,ptr ki),(9,.int .i64 (Int.ofNat top)),(8,ptr b8)] E'/\CRun Try.prog 84 false (.seq (partC Try.f48 [1,1,1,1,1,0,0,0,0,0]) (.block 2 (.rangeFunc (.tmp 32) #[33,34] CAS CBD))) E g .normal E' g'/\Acc h b8 g' v' (acc++(x.opn.take top).reverse.map lkP):=by
 have ag:=a.grow A.keep
 have hlen:=ok.len k x hx
 have Lo:(Asm.ld1 (.is g) ki 2 (slv (ρ (.op k)) x.opn.length)).holds Try.prog:=ag.ld1 rfl hki (by rw[cT hx];rfl)
 have pre:∃ E3 sl,EnvLe [(32,.func (.func 90) #[] #[ptr g.length]),(6,ptr ki),(9,.int .i64 (Int.ofNat top)),(8,ptr b8)] E3/\CRun Try.prog 84 false (partC Try.f48 [1,1,1,1,1,0,0,0,0,0]) E g .normal E3 (g++[.cells [sl] true]) /\
   (((x.opn.take top).map (inP ρ)=[]/\sl=.slice none 0 0)\/∃ o,ρ (.op k)=some o/\sl=.slice (some ⟨o,0,none⟩) top 1):=by
  cases ho:ρ (.op k) with
  | none =>
   have e0:=a.sh.op k x hx ho
   rw[e0] at htop
   have t0:top=0:=by simpa using htop
   subst t0
   rw[ho,e0] at Lo
   obtain⟨E3,q1,q2⟩:=pvC 1 hE (r38p.ch_r6n ki b8 g.length 0 0 0 g) ⟨Lo,rfl,trivial⟩
   exact⟨E3,_,.trans (.add (.add (.add (.add (.nil _) rfl) rfl) rfl) rfl) q1,q2,.inl ⟨rfl,rfl⟩⟩
  | some o =>
   rw[ho] at Lo
   obtain⟨E3,q1,q2⟩:=pvC 1 hE (r38p.ch_r6 ki b8 g.length o x.opn.length top g) ⟨Lo,a_cut htop,rfl,trivial⟩
   exact⟨E3,_,.trans (.add (.add (.add (.add (.nil _) rfl) rfl) rfl) rfl) q1,q2,.inr ⟨o,rfl,rfl⟩⟩
 obtain⟨E3,sl,hE3,c1,hsl⟩:=pre
 obtain⟨g4,hg4⟩:∃ g4,g4=g++[AObj.cells [sl] true]:=⟨_,rfl⟩
 rw[<- hg4] at c1
 have l4:g4.length=g.length+1:=by rw[hg4];simp
 have A4:Acc h b8 g4 v acc:=by rw[hg4];exact A.grow (Keep.push _ _ _)
 have b3:g4[g.length]?=some (.cells [sl] true):=by rw[hg4];exact gW _ _
 obtain⟨lpR,hR⟩:∃ lp:AObj,lp=.loop .ready none E3 84 #[33,34] CAS CBD:=⟨_,rfl⟩
 have hgl:=A.keep.1
 have vl:((x.opn.take top).map (inP ρ)).length=top:=by simp;omega
 obtain⟨g5,r1,r2⟩:=backward_run (bb:=g.length) (L:=g4.length) (vals:=(x.opn.take top).map (inP ρ)) (sl:=sl) (by rw[vl];omega)
  (fun j g'=>∃ v',Acc h b8 g' v' (acc++((x.opn.take top).drop j).reverse.map lkP)/\g'[g4.length]?=some lpR/\g'[g.length]?=some (.cells [sl] true)/\g4.length<g'.length)
  (fun _=>False)
  (fun j g' ⟨v',h1,h2,h3,h4⟩=>h3)
  (by
   rcases hsl with h0 | ⟨o,ho,rfl⟩
   ·exact .inl h0
   ·refine .inr ⟨o,by rw[vl],fun j g' m v ⟨v',h1,h2,h3,h4⟩ hv=>?_⟩
    obtain⟨junk,hj⟩:=(a.grow h1.keep).obj _ _ ho
    rw[cont_op hx] at hj
    refine⟨_,true,hj,?_⟩
    rw[List.map_take] at hv
    have hm:=gT hv
    rw[List.length_take] at hm
    rw[List.getElem?_take_of_lt (by omega)] at hv
    rw[List.getElem?_append_left (gT hv)];exact hv)
  (fun j v g' hv ⟨v',h1,h2,h3,h4⟩=>by
   left
   rw[List.getElem?_map] at hv
   cases hw:(x.opn.take top)[j]? with
   | none=>rw[hw] at hv;cases hv
   | some w =>
    rw[hw] at hv
    simp only[Option.map_some,Option.some.injEq] at hv
    subst hv
    have hmem:w∈x.opn:=List.mem_of_mem_take (List.mem_of_getElem? hw)
    have hlp:g'[g4.length]?=some (.loop .ready none E3 84 #[33,34] CAS CBD):=by rw[h2,hR]
    obtain⟨E4,u1,u2⟩:=pvC 0 (((EnvLe.trans (.add (.add (.add (.nil _) rfl) rfl) rfl) hE3:EnvLe [(6,ptr ki),(9,.int .i64 (Int.ofNat top)),(8,ptr b8)] E3).cons 33 (.int .i64 j)).cons 34 (inP ρ w)) (r38p.ch_as ki b8 (Int.ofNat top) j (inP ρ w) g') trivial
    have u2':CRun Try.prog 84 true CAS ((34,inP ρ w)::(33,.int .i64 j)::E3) g' .normal E4 g':=u2
    have Ab:=h1.setL (L:=g4.length) (by have:=A4.keep.1;omega) hlp (.loop .busy none E3 84 #[33,34] CAS CBD)
    have bl:(acc++((x.opn.take top).drop (j+1)).reverse.map lkP).length<=100000:=by simp;omega
    obtain⟨E5,g6,v6,w1,w2,w3⟩:=ch_body a Ab bl w (fun s e=>ok.opn k x s hx (by rw[<- e];exact hmem)) (E:=E4) (.trans (.add (.add (.nil _) rfl) rfl) u1)
    have hb6:=w3.2 _ _ (gE hlp) (Ab.notL (gE hlp))
    refine⟨_,RunR.go hlp rfl rfl u2' hlp w1 hb6 rfl,v6,?_,?_,?_,?_⟩
    ·have hd:(x.opn.take top).drop j=w::(x.opn.take top).drop (j+1):=by
      have hjl:=gT hw
      rw[List.drop_eq_getElem_cons hjl]
      rw[List.getElem?_eq_getElem hjl] at hw
      rw[Option.some.inj hw]
     rw[hd,List.reverse_cons,List.map_append,List.map_cons,List.map_nil,<- List.append_assoc]
     exact w2.setL (L:=g4.length) (by have:=A4.keep.1;omega) hb6 _
    ·rw[hR];exact gE hb6
    ·have e3:(g'.set g4.length (.loop .busy none E3 84 #[33,34] CAS CBD))[g.length]?=some (.cells [sl] true):=gNq h3 (by omega)
     exact gNq (w3.2 _ _ e3 (Ab.notB e3 (by have:=get_lt A.box;omega))) (by omega)
    ·have:=w3.1
     simp only[List.length_set] at this ⊢
     omega)
  (g0:=g4++[lpR]) ⟨v,by
   rw[vl,List.drop_of_length_le (by simp;omega)]
   simpa using A4.grow (Keep.push _ _ _),gW _ _,gP b3,by simp⟩
 rcases r2 with⟨v',h1,h2,h3,h4⟩ | h
 ·have hgv:evalO E3 (.tmp 32)=some (.func (.func 90) #[] #[ptr g.length]):=hE3 32 _ rfl
  have c2:CRun Try.prog 84 false (.rangeFunc (.tmp 32) #[33,34] CAS CBD) E3 g4 .normal E3 (g5.set g4.length .dead):=CRun.range (pend:=none) hgv (by rw[hR] at r1;exact r1) (by rw[h2,hR]) rfl
  refine⟨E3,_,v',.trans (.add (.add (.add (.nil _) rfl) rfl) rfl) hE3,CRun.seq c1 (CRun.blockN 2 c2),?_⟩
  rw[hR] at h2
  have:=h1.setL (L:=g4.length) (by have:=A4.keep.1;omega) h2 .dead
  simpa using this
 ·exact h.elim
end
end Go.Proofs.Ytlonjogfeidgfaa.tr
