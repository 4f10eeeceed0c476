import Derived.Test.YtahomnlkkafbjaaPlaysC
set_option linter.constructorNameAsVariable false
set_option linter.unusedVariables false
set_option maxRecDepth 100000
namespace Go.Proofs.Ytahomnlkkafbjaa.tr
open Go Go.Ev
structure Step(ρ:Lay)(h:Hp)(ρ':Lay)(h':Hp):Prop where
 keep:Keep (fpT ρ) h h'
 new:∀ q,fpT ρ' q->fpT ρ q\/h.length<=q
 root:ρ' .root=ρ .root
theorem Step.refl(ρ:Lay)(h:Hp):Step ρ h ρ h:=⟨Keep.refl _ _,fun _ e=>.inl e,rfl⟩
theorem Step.trans{ρ ρ1 ρ2:Lay}{h h1 h2:Hp}(a:Step ρ h ρ1 h1)(b:Step ρ1 h1 ρ2 h2):Step ρ h ρ2 h2 :=
 ⟨a.keep.trans_new b.keep fun q hq e=>(a.new q e).elim id fun e=>by omega,
  fun q e=>(b.new q e).elim (a.new q) fun e=>.inr (Nat.le_trans a.keep.1 e),b.root.trans a.root⟩
theorem Step.grow{ρ:Lay}{h h':Hp}(K:Keep (fun _=>False) h h'):Step ρ h ρ h':=⟨K.mono fun _ _ e=>e.elim,fun _ e=>.inl e,rfl⟩
theorem Step.set{ρ:Lay}{h:Hp}{r:Rl}{i:Nat}(hi:ρ r=some i)(o:AObj):Step ρ h ρ (h.set i o):=⟨Keep.set ⟨r,hi⟩ _,fun _ e=>.inl e,rfl⟩
theorem appG_step{h:Hp}{ρ ρ':Lay}{rh rs:Rl}{rn:Option Rl}{i z b:Nat}{os:Hp}{cs:List Value}{o:AObj}(hi:ρ rh=some i)(hz:(h++os).length=z)(hrs:ρ' rs=some z)(hot:∀ r,r≠rs->some r≠rn->ρ' r=ρ r)
  (hnew:∀ r,rn=some r->ρ' r=some b/\h.length<=b) (hroot:ρ' .root=ρ .root):Step ρ h ρ' ((gApp (h++os) (ρ rs) cs).set i o):=by
 refine⟨⟨by simp[gApp_len];omega,fun q x hq hn=>?_⟩,fun q ⟨r,e⟩=>?_,hroot⟩
 ·have h1:i≠q:=fun e=>hn ⟨rh,by rw[hi,e]⟩
  have h2:ρ rs≠some q:=fun e=>hn ⟨rs,e⟩
  exact gNq (gApp_get (by rw[List.getElem?_append_left (get_lt hq)];exact hq) h2) h1
 ·by_cases n1:r=rs
  ·rw[n1,hrs] at e;cases e
   right;rw[<- hz];simp
  ·by_cases n2:some r=rn
   ·obtain⟨f,f1⟩:=hnew r n2.symm
    rw[f] at e;cases e
    exact .inr f1
   ·rw[hot r n1 n2] at e
    exact .inl ⟨r,e⟩
def put2(ρ:Lay)(r1:Rl)(i1:Nat)(r2:Rl)(i2:Nat):Lay:=fun r=>if r=r1 then some i1 else if r=r2 then some i2 else ρ r
def put1(ρ:Lay)(r1:Rl)(i1:Nat):Lay:=fun r=>if r=r1 then some i1 else ρ r
theorem put2_1{ρ:Lay}{r1 r2:Rl}{i1 i2:Nat}:put2 ρ r1 i1 r2 i2 r1=some i1:=by simp[put2]
theorem put2_2{ρ:Lay}{r1 r2:Rl}{i1 i2:Nat}(h:r2≠r1):put2 ρ r1 i1 r2 i2 r2=some i2:=by simp[put2,h]
theorem put2_o{ρ:Lay}{r r1 r2:Rl}{i1 i2:Nat}(h:r≠r1)(k:r≠r2):put2 ρ r1 i1 r2 i2 r=ρ r:=by simp[put2,h,k]
theorem put1_1{ρ:Lay}{r1:Rl}{i1:Nat}:put1 ρ r1 i1 r1=some i1:=by simp[put1]
theorem put1_o{ρ:Lay}{r r1:Rl}{i1:Nat}(h:r≠r1):put1 ρ r1 i1 r=ρ r:=by simp[put1,h]
def sameAt(ρ ρ':Lay):Rl->Prop
 | .root=>ρ' .ts=ρ .ts/\ρ' .ss=ρ .ss
 | .tk k=>ρ' (.op k)=ρ (.op k)
 | .sc k=>ρ' (.st k)=ρ (.st k)
 | _=>True
theorem inP_eq{ρ ρ':Lay}{v:Option Nat}(h:∀ s,v=some s->ρ' (.sc s)=ρ (.sc s)):inP ρ' v=inP ρ v:=by
 cases v with
 | none=>rfl
 | some s=>simp only[inP,h s rfl]
theorem cont_eq{ρ ρ':Lay}{t:TS}{c:Nat}(ok:TOk c t)(hs:∀ s,s<t.scs.length->ρ' (.sc s)=ρ (.sc s))(hk:∀ k,k<t.tks.length->ρ' (.tk k)=ρ (.tk k)){r:Rl}(hr:sameAt ρ ρ' r):cont ρ' t r=cont ρ t r:=by
 cases r with
 | root=>simp only[cont,hr.1,hr.2]
 | ts=>exact List.map_congr_left fun k hk'=>by rw[hk k (List.mem_range.1 hk')]
 | ss=>exact List.map_congr_left fun k hk'=>by rw[hs k (List.mem_range.1 hk')]
 | tk k =>
  cases hx:t.tks[k]? with
  | none=>simp only[cont,hx]
  | some x =>
   rw[cT hx,cT hx,tkC,tkC,inP_eq fun s e=>hs s (ok.inn k x s hx e),show ρ' (.op k)=ρ (.op k) from hr]
 | op k =>
  cases hx:t.tks[k]? with
  | none=>simp only[cont,hx]
  | some x =>
   rw[cont_op hx,cont_op hx]
   exact List.map_congr_left fun v hv=>inP_eq fun s e=>hs s (ok.opn k x s hx (by rw[<- e];exact hv))
 | sc k =>
  cases hx:t.scs[k]? with
  | none=>simp only[cont,hx]
  | some x =>
   rw[cSq hx,cSq hx,scC,scC,hk _ (ok.ow k x hx),show ρ' (.st k)=ρ (.st k) from hr]
 | st k =>
  cases hx:t.scs[k]? with
  | none=>simp only[cont,hx]
  | some x =>
   rw[cont_st hx,cont_st hx]
   exact List.map_congr_left fun j hj=>by rw[hk j (ok.mem k x j hx hj)]
theorem cont_newT{ρ:Lay}{t:TS}{inn:Option Nat}{r:Rl}(h1:r≠.root)(h2:r≠.ts)(h3:r≠.tk t.tks.length)(h4:r≠.op t.tks.length):cont ρ (t.newT inn) r=cont ρ t r:=by
 have g:∀ j,j≠t.tks.length->(t.newT inn).tks[j]?=t.tks[j]?:=fun j hj=>by
  simp only[TS.newT,List.getElem?_append]
  split
  ·rfl
  ·rw[List.getElem?_eq_none (by simp;omega),List.getElem?_eq_none (by omega)]
 cases r with
 | root=>exact absurd rfl h1
 | ts=>exact absurd rfl h2
 | ss=>rfl
 | tk j=>simp only[cont,g j fun e=>h3 (by rw[e])]
 | op j=>simp only[cont,g j fun e=>h4 (by rw[e])]
 | sc j=>rfl
 | st j=>rfl
theorem cont_newS{ρ:Lay}{t:TS}{k:Nat}{su:Bool}{r:Rl}(h1:r≠.root)(h2:r≠.ss)(h3:r≠.sc t.scs.length)(h4:r≠.st t.scs.length):cont ρ (t.newS k su) r=cont ρ t r:=by
 have g:∀ j,j≠t.scs.length->(t.newS k su).scs[j]?=t.scs[j]?:=fun j hj=>by
  simp only[TS.newS,List.getElem?_append]
  split
  ·rfl
  ·rw[List.getElem?_eq_none (by simp;omega),List.getElem?_eq_none (by omega)]
 cases r with
 | root=>exact absurd rfl h1
 | ss=>exact absurd rfl h2
 | ts=>rfl
 | sc j=>simp only[cont,g j fun e=>h3 (by rw[e])]
 | st j=>simp only[cont,g j fun e=>h4 (by rw[e])]
 | tk j=>rfl
 | op j=>rfl
section
variable {h:Hp} {ρ:Lay} {t:TS} {c r:Nat}
abbrev objT(ρ:Lay)(m:Nat)(inn:Option Nat):List Value:=[iV ((m+1:Nat):Int),inP ρ inn,.slice none 0 0,.bool false,.bool false,iV 0,.string ⟨#[]⟩]
abbrev objS(k:Value)(m:Nat)(su:Bool):List Value:=[iV ((m+1:Nat):Int),k,.bool su,.bool false,.slice none 0 0,iV 0,iV 0,.string ⟨#[]⟩]
abbrev ptr(i:Nat):Value:=.pointer (some ⟨i,0,none⟩)
theorem TAt.appTs(a:TAt h ρ t)(ok:TOk c t)(hr:ρ .root=some r){inn:Option Nat}(hinn:∀ s,inn=some s->s<t.scs.length) :
  ∃ ρ' cr,(∀ (P:Program) (s:SH),s.den=gApp (h++[.cells (objT ρ t.tks.length inn) true]++[.cells [ptr h.length] true]) (ρ .ts) (cont ρ t .ts++[ptr h.length])->(Asm.st s r 0 [.slice (some ⟨h.length+2,0,none⟩) (t.tks.length+1) 1] cr).holds P) /\
   TAt ((gApp (h++[.cells (objT ρ t.tks.length inn) true]++[.cells [ptr h.length] true]) (ρ .ts) (cont ρ t .ts++[ptr h.length])).set r (.cells cr true)) ρ' (t.newT inn) /\
   Step ρ h ρ' ((gApp (h++[.cells (objT ρ t.tks.length inn) true]++[.cells [ptr h.length] true]) (ρ .ts) (cont ρ t .ts++[ptr h.length])).set r (.cells cr true)) /\
   (∀ q,q≠.ts->q≠.tk t.tks.length->ρ' q=ρ q)/\ρ' (.tk t.tks.length)=some h.length:=by
 obtain⟨m,hm⟩:∃ m,m=t.tks.length:=⟨_,rfl⟩
 obtain⟨ρ',hρ⟩:∃ ρ',ρ'=put2 ρ .ts (h.length+2) (.tk m) h.length:=⟨_,rfl⟩
 have e1:ρ' .ts=some (h.length+2):=by rw[hρ];exact put2_1
 have e2:ρ' (.tk m)=some h.length:=by rw[hρ];exact put2_2 (by simp)
 have eo:∀ q,q≠.ts->q≠.tk m->ρ' q=ρ q:=fun q h1 h2=>by rw[hρ];exact put2_o h1 h2
 have es:∀ s,s<t.scs.length->ρ' (.sc s)=ρ (.sc s):=fun s _=>eo _ (by simp) (by simp)
 have ek:∀ k,k<t.tks.length->ρ' (.tk k)=ρ (.tk k):=fun k hk=>eo _ (by simp) (by simp;omega)
 obtain⟨hom,hoo⟩:=a.sh.otk m (by omega)
 have cts:cont ρ' (t.newT inn) .ts=cont ρ t .ts++[ptr h.length]:=by
  simp only[cont,newT_len,List.range_succ,List.map_append,List.map_cons,List.map_nil,<- hm,e2,pvv]
  congr 1
  exact List.map_congr_left fun k hk=>by rw[ek k (by rw[<- hm];exact List.mem_range.1 hk)]
 have ctk:cont ρ' (t.newT inn) (.tk m)=objT ρ m inn:=by
  rw[hm,cT newT_new,tkC,show (Tk0 inn).inn=inn from rfl,inP_eq (ρ:=ρ) fun s e=>es s (hinn s e),<- hm,eo (.op m) (by simp) (by simp),hoo]
  rfl
 have sh:Sh ρ' (t.newT inn):=by
  refine⟨by rw[eo _ (by simp) (by simp)];exact a.sh.root,fun k hk=>?_,fun k hk=>?_,fun e=>?_,fun e=>?_,fun k x hx e=>?_,fun k x hx e=>?_,fun k hk=>?_,fun k hk=>?_⟩
  ·rw[newT_len,<- hm] at hk
   by_cases ekm:k=m
   ·subst ekm;exact⟨_,e2⟩
   ·rw[ek k (by omega)];exact a.sh.tk k (by omega)
  ·rw[es k hk];exact a.sh.sc k hk
  ·rw[e1] at e;cases e
  ·rw[eo _ (by simp) (by simp)] at e;exact a.sh.ss e
  ·rw[eo _ (by simp) (by simp)] at e
   rcases newT_get hx with hx | ⟨_,rfl⟩
   ·exact a.sh.op k x hx e
   ·rfl
  ·rw[eo _ (by simp) (by simp)] at e;exact a.sh.st k x hx e
  ·rw[newT_len,<- hm] at hk
   rw[eo _ (by simp) (by simp;omega),eo _ (by simp) (by simp)]
   exact a.sh.otk k (by omega)
  ·rw[eo _ (by simp) (by simp),eo _ (by simp) (by simp)]
   exact a.sh.osc k hk
 have croot:cont ρ' (t.newT inn) .root=(cont ρ t .root).take 0++[.slice (some ⟨h.length+2,0,none⟩) (t.tks.length+1) 1]++(cont ρ t .root).drop (0+1):=by
  simp only[cont,newT_len,e1,slv,eo .ss (by simp) (by simp)]
  rfl
 have same:∀ q,q≠.ts->q≠.root->some q≠some (.tk m)->ρ q≠none->cont ρ' (t.newT inn) q=cont ρ t q:=fun q n1 n2 n3 n4=>by
  have n3':q≠.tk m:=fun e=>n3 (by rw[e])
  have n5:q≠.op m:=fun e=>n4 (by rw[e];exact hoo)
  rw[cont_newT n2 n1 (by rw[<- hm];exact n3') (by rw[<- hm];exact n5)]
  refine cont_eq ok es ek ?_
  cases q<;>first | trivial | exact absurd rfl n1 | exact absurd rfl n2 | exact eo _ (by simp) (by simp)
 have hz:(h++[AObj.cells (objT ρ t.tks.length inn) true,AObj.cells [ptr h.length] true]).length=h.length+2:=by simp
 have hnew:∀ q,some (Rl.tk m)=some q->q≠.ts/\q≠.root/\ρ q=none/\ρ' q=some h.length/\h.length<=h.length/\h.length<h.length+2/\(h++[AObj.cells (objT ρ t.tks.length inn) true,AObj.cells [ptr h.length] true])[h.length]?=some (.cells (cont ρ' (t.newT inn) q) true):=fun q e=>by
  cases e
  refine⟨by simp,by simp,hom,e2,Nat.le_refl _,by omega,?_⟩
  rw[ctk,<- hm]
  simp
 have hap:h++[AObj.cells (objT ρ t.tks.length inn) true]++[AObj.cells [ptr h.length] true]=h++[AObj.cells (objT ρ t.tks.length inn) true,AObj.cells [ptr h.length] true]:=by simp
 obtain⟨cr,p1,p2⟩:=a.appG (rh:=.root) (rs:=.ts) (rn:=some (.tk m)) (b:=h.length) (n:=t.tks.length) (t':=t.newT inn) (d:=0) hr (by simp) hz e1 (fun q n1 n2=>eo q n1 fun e=>n2 (by rw[e])) hnew same (by simp[cont]) croot sh
 rw[cts] at p1 p2
 rw[hap,<- hm]
 rw[<- hm] at p1 p2
 exact⟨ρ',cr,p1,p2,appG_step hr (by simp) e1 (fun q n1 n2=>eo q n1 fun e=>n2 (by rw[e])) (rn:=some (.tk m)) (fun q e=>by cases e;exact⟨e2,Nat.le_refl _⟩) (eo _ (by simp) (by simp)),eo,e2⟩
theorem TAt.appSs(a:TAt h ρ t)(ok:TOk c t)(hr:ρ .root=some r){k i:Nat}(hk:k<t.tks.length)(hi:ρ (.tk k)=some i)(su:Bool) :
  ∃ ρ' cr,(∀ (P:Program) (s:SH),s.den=gApp (h++[.cells (objS (ptr i) t.scs.length su) true]++[.cells [ptr h.length] true]) (ρ .ss) (cont ρ t .ss++[ptr h.length])->(Asm.st s r 1 [.slice (some ⟨h.length+2,0,none⟩) (t.scs.length+1) 1] cr).holds P) /\
   TAt ((gApp (h++[.cells (objS (ptr i) t.scs.length su) true]++[.cells [ptr h.length] true]) (ρ .ss) (cont ρ t .ss++[ptr h.length])).set r (.cells cr true)) ρ' (t.newS k su) /\
   Step ρ h ρ' ((gApp (h++[.cells (objS (ptr i) t.scs.length su) true]++[.cells [ptr h.length] true]) (ρ .ss) (cont ρ t .ss++[ptr h.length])).set r (.cells cr true)) /\
   (∀ q,q≠.ss->q≠.sc t.scs.length->ρ' q=ρ q)/\ρ' (.sc t.scs.length)=some h.length:=by
 obtain⟨m,hm⟩:∃ m,m=t.scs.length:=⟨_,rfl⟩
 obtain⟨ρ',hρ⟩:∃ ρ',ρ'=put2 ρ .ss (h.length+2) (.sc m) h.length:=⟨_,rfl⟩
 have e1:ρ' .ss=some (h.length+2):=by rw[hρ];exact put2_1
 have e2:ρ' (.sc m)=some h.length:=by rw[hρ];exact put2_2 (by simp)
 have eo:∀ q,q≠.ss->q≠.sc m->ρ' q=ρ q:=fun q h1 h2=>by rw[hρ];exact put2_o h1 h2
 have es:∀ s,s<t.scs.length->ρ' (.sc s)=ρ (.sc s):=fun s hs=>eo _ (by simp) (by simp;omega)
 have ek:∀ k,k<t.tks.length->ρ' (.tk k)=ρ (.tk k):=fun k hk=>eo _ (by simp) (by simp)
 obtain⟨hom,hoo⟩:=a.sh.osc m (by omega)
 have cts:cont ρ' (t.newS k su) .ss=cont ρ t .ss++[ptr h.length]:=by
  simp only[cont,newS_len,List.range_succ,List.map_append,List.map_cons,List.map_nil,<- hm,e2,pvv]
  congr 1
  exact List.map_congr_left fun k hk=>by rw[es k (by rw[<- hm];exact List.mem_range.1 hk)]
 have ctk:cont ρ' (t.newS k su) (.sc m)=objS (ptr i) m su:=by
  rw[hm,cSq newS_new,scC,show (Sc0 k su).ow=k from rfl,ek k hk,hi,<- hm,eo (.st m) (by simp) (by simp),hoo]
  rfl
 have sh:Sh ρ' (t.newS k su):=by
  refine⟨by rw[eo _ (by simp) (by simp)];exact a.sh.root,fun k hk=>?_,fun k hk=>?_,fun e=>?_,fun e=>?_,fun k x hx e=>?_,fun k x hx e=>?_,fun k hk=>?_,fun k hk=>?_⟩
  ·rw[ek k hk];exact a.sh.tk k hk
  ·rw[newS_len,<- hm] at hk
   by_cases ekm:k=m
   ·subst ekm;exact⟨_,e2⟩
   ·rw[es k (by omega)];exact a.sh.sc k (by omega)
  ·rw[eo _ (by simp) (by simp)] at e;exact a.sh.ts e
  ·rw[e1] at e;cases e
  ·rw[eo _ (by simp) (by simp)] at e;exact a.sh.op k x hx e
  ·rw[eo _ (by simp) (by simp)] at e
   rcases newS_get hx with hx | ⟨_,rfl⟩
   ·exact a.sh.st k x hx e
   ·rfl
  ·rw[eo _ (by simp) (by simp),eo _ (by simp) (by simp)]
   exact a.sh.otk k hk
  ·rw[newS_len,<- hm] at hk
   rw[eo _ (by simp) (by simp;omega),eo _ (by simp) (by simp)]
   exact a.sh.osc k (by omega)
 have croot:cont ρ' (t.newS k su) .root=(cont ρ t .root).take 1++[.slice (some ⟨h.length+2,0,none⟩) (t.scs.length+1) 1]++(cont ρ t .root).drop (1+1):=by
  simp only[cont,newS_len,e1,slv,eo .ts (by simp) (by simp)]
  rfl
 have same:∀ q,q≠.ss->q≠.root->some q≠some (.sc m)->ρ q≠none->cont ρ' (t.newS k su) q=cont ρ t q:=fun q n1 n2 n3 n4=>by
  have n3':q≠.sc m:=fun e=>n3 (by rw[e])
  have n5:q≠.st m:=fun e=>n4 (by rw[e];exact hoo)
  rw[cont_newS n2 n1 (by rw[<- hm];exact n3') (by rw[<- hm];exact n5)]
  refine cont_eq ok es ek ?_
  cases q<;>first | trivial | exact absurd rfl n1 | exact absurd rfl n2 | exact eo _ (by simp) (by simp)
 have hz:(h++[AObj.cells (objS (ptr i) t.scs.length su) true,AObj.cells [ptr h.length] true]).length=h.length+2:=by simp
 have hnew:∀ q,some (Rl.sc m)=some q->q≠.ss/\q≠.root/\ρ q=none/\ρ' q=some h.length/\h.length<=h.length/\h.length<h.length+2/\(h++[AObj.cells (objS (ptr i) t.scs.length su) true,AObj.cells [ptr h.length] true])[h.length]?=some (.cells (cont ρ' (t.newS k su) q) true):=fun q e=>by
  cases e
  refine⟨by simp,by simp,hom,e2,Nat.le_refl _,by omega,?_⟩
  rw[ctk,<- hm]
  simp
 have hap:h++[AObj.cells (objS (ptr i) t.scs.length su) true]++[AObj.cells [ptr h.length] true]=h++[AObj.cells (objS (ptr i) t.scs.length su) true,AObj.cells [ptr h.length] true]:=by simp
 obtain⟨cr,p1,p2⟩:=a.appG (rh:=.root) (rs:=.ss) (rn:=some (.sc m)) (b:=h.length) (n:=t.scs.length) (t':=t.newS k su) (d:=1) hr (by simp) hz e1 (fun q n1 n2=>eo q n1 fun e=>n2 (by rw[e])) hnew same (by simp[cont]) croot sh
 rw[cts] at p1 p2
 rw[hap,<- hm]
 rw[<- hm] at p1 p2
 exact⟨ρ',cr,p1,p2,appG_step hr (by simp) e1 (fun q n1 n2=>eo q n1 fun e=>n2 (by rw[e])) (rn:=some (.sc m)) (fun q e=>by cases e;exact⟨e2,Nat.le_refl _⟩) (eo _ (by simp) (by simp)),eo,e2⟩
theorem TAt.appOp(a:TAt h ρ t)(ok:TOk c t){k i:Nat}{x:Tk}(hx:t.tks[k]?=some x)(hi:ρ (.tk k)=some i)(v:Option Nat)(hv:∀ s,v=some s->s<t.scs.length) :
  ∃ ρ' cr,(∀ (P:Program) (s:SH),s.den=gApp (h++[.cells [inP ρ v] true]) (ρ (.op k)) (x.opn.map (inP ρ)++[inP ρ v])->(Asm.st s i 2 [.slice (some ⟨h.length+1,0,none⟩) (x.opn.length+1) 1] cr).holds P) /\
   TAt ((gApp (h++[.cells [inP ρ v] true]) (ρ (.op k)) (x.opn.map (inP ρ)++[inP ρ v])).set i (.cells cr true)) ρ' (t.upT k fun x=>{ x with opn:=x.opn++[v] }) /\
   Step ρ h ρ' ((gApp (h++[.cells [inP ρ v] true]) (ρ (.op k)) (x.opn.map (inP ρ)++[inP ρ v])).set i (.cells cr true))/\(∀ q,q≠.op k->ρ' q=ρ q):=by
 obtain⟨f,hf⟩:∃ f:Tk->Tk,f=fun x=>{ x with opn:=x.opn++[v] }:=⟨_,rfl⟩
 rw[<- hf]
 obtain⟨ρ',hρ⟩:∃ ρ',ρ'=put1 ρ (.op k) (h.length+1):=⟨_,rfl⟩
 have e1:ρ' (.op k)=some (h.length+1):=by rw[hρ];exact put1_1
 have eo:∀ q,q≠.op k->ρ' q=ρ q:=fun q h1=>by rw[hρ];exact put1_o h1
 have es:∀ s,s<t.scs.length->ρ' (.sc s)=ρ (.sc s):=fun s hs=>eo _ (by simp)
 have ek:∀ k,k<t.tks.length->ρ' (.tk k)=ρ (.tk k):=fun k hk=>eo _ (by simp)
 have hx':(t.upT k f).tks[k]?=some (f x):=upT_at hx
 have cop:cont ρ' (t.upT k f) (.op k)=x.opn.map (inP ρ)++[inP ρ v]:=by
  rw[cont_op hx',hf]
  simp only[List.map_append,List.map_cons,List.map_nil]
  rw[inP_eq fun s e=>es s (hv s e)]
  congr 1
  exact List.map_congr_left fun w hw=>inP_eq fun s e=>es s (ok.opn k x s hx (by rw[<- e];exact hw))
 have sh:Sh ρ' (t.upT k f):=by
  have s1:Sh ρ' t:=by
   refine⟨by rw[eo _ (by simp)];exact a.sh.root,fun k hk=>by rw[ek k hk];exact a.sh.tk k hk,fun s hs=>by rw[es s hs];exact a.sh.sc s hs,by rw[eo _ (by simp)];exact a.sh.ts,by rw[eo _ (by simp)];exact a.sh.ss,fun j y hy e=>?_,
    fun j y hy e=>by rw[eo _ (by simp)] at e;exact a.sh.st j y hy e,fun j hj=>?_,fun j hj=>by rw[eo _ (by simp),eo _ (by simp)];exact a.sh.osc j hj⟩
   ·by_cases ej:j=k
    ·rw[ej,e1] at e;cases e
    ·rw[eo _ (by simp[ej])] at e;exact a.sh.op j y hy e
   ·have ej:j≠k:=fun e=>by have:=gTq hx;omega
    rw[eo _ (by simp),eo _ (by simp[ej])];exact a.sh.otk j hj
  exact s1.upT fun y hy e=>by rw[e1] at e;cases e
 have ctk:cont ρ' (t.upT k f) (.tk k)=(cont ρ t (.tk k)).take 2++[.slice (some ⟨h.length+1,0,none⟩) (x.opn.length+1) 1]++(cont ρ t (.tk k)).drop (2+1):=by
  rw[cT hx',cT hx,hf]
  simp only[tkC,e1,slv,List.length_append,List.length_cons,List.length_nil]
  rw[inP_eq fun s e=>es s (ok.inn k x s hx e)]
  rfl
 have same:∀ q,q≠.op k->q≠.tk k->some q≠none->ρ q≠none->cont ρ' (t.upT k f) q=cont ρ t q:=fun q n1 n2 n3 n4=>by
  rw[cont_upT n2 n1]
  refine cont_eq ok es ek ?_
  cases q with
  | root=>exact⟨eo _ (by simp),eo _ (by simp)⟩
  | tk j=>exact eo _ fun e=>n2 (by cases e;rfl)
  | sc j=>exact eo _ (by simp)
  | _=>trivial
 obtain⟨cr,p1,p2⟩:=a.appG (rh:=.tk k) (rs:=.op k) (rn:=none) (b:=0) (n:=x.opn.length) (t':=t.upT k f) (d:=2) (os:=[.cells [inP ρ v] true]) (z:=h.length+1) hi (by simp) (by simp) e1 (fun q n1 n2=>eo q n1) (fun q e=>by cases e) same (by rw[cT hx];simp[tkC]) ctk sh
 rw[cop] at p1 p2
 exact⟨ρ',cr,p1,p2,appG_step (b:=0) hi (by simp) e1 (fun q n1 n2=>eo q n1) (rn:=none) (fun q e=>by cases e) (eo _ (by simp)),eo⟩
theorem TAt.appSt(a:TAt h ρ t)(ok:TOk c t){k i j ji:Nat}{x:Sc}(hx:t.scs[k]?=some x)(hi:ρ (.sc k)=some i)(hj:j<t.tks.length)(hji:ρ (.tk j)=some ji) :
  ∃ ρ' cr,(∀ (P:Program) (s:SH),s.den=gApp (h++[.cells [ptr ji] true]) (ρ (.st k)) (x.tks.map (fun j=>pvv (ρ (.tk j)))++[ptr ji])->(Asm.st s i 4 [.slice (some ⟨h.length+1,0,none⟩) (x.tks.length+1) 1] cr).holds P) /\
   TAt ((gApp (h++[.cells [ptr ji] true]) (ρ (.st k)) (x.tks.map (fun j=>pvv (ρ (.tk j)))++[ptr ji])).set i (.cells cr true)) ρ' (t.upS k fun x=>{ x with tks:=x.tks++[j] }) /\
   Step ρ h ρ' ((gApp (h++[.cells [ptr ji] true]) (ρ (.st k)) (x.tks.map (fun j=>pvv (ρ (.tk j)))++[ptr ji])).set i (.cells cr true))/\(∀ q,q≠.st k->ρ' q=ρ q):=by
 obtain⟨f,hf⟩:∃ f:Sc->Sc,f=fun x=>{ x with tks:=x.tks++[j] }:=⟨_,rfl⟩
 rw[<- hf]
 obtain⟨ρ',hρ⟩:∃ ρ',ρ'=put1 ρ (.st k) (h.length+1):=⟨_,rfl⟩
 have e1:ρ' (.st k)=some (h.length+1):=by rw[hρ];exact put1_1
 have eo:∀ q,q≠.st k->ρ' q=ρ q:=fun q h1=>by rw[hρ];exact put1_o h1
 have es:∀ s,s<t.scs.length->ρ' (.sc s)=ρ (.sc s):=fun s hs=>eo _ (by simp)
 have ek:∀ k,k<t.tks.length->ρ' (.tk k)=ρ (.tk k):=fun k hk=>eo _ (by simp)
 have hx':(t.upS k f).scs[k]?=some (f x):=upS_at hx
 have cop:cont ρ' (t.upS k f) (.st k)=x.tks.map (fun j=>pvv (ρ (.tk j)))++[ptr ji]:=by
  rw[cont_st hx',hf]
  simp only[List.map_append,List.map_cons,List.map_nil]
  rw[ek j hj,hji]
  congr 1
  exact List.map_congr_left fun w hw=>by rw[ek w (ok.mem k x w hx hw)]
 have sh:Sh ρ' (t.upS k f):=by
  have s1:Sh ρ' t:=by
   refine⟨by rw[eo _ (by simp)];exact a.sh.root,fun k hk=>by rw[ek k hk];exact a.sh.tk k hk,fun s hs=>by rw[es s hs];exact a.sh.sc s hs,by rw[eo _ (by simp)];exact a.sh.ts,by rw[eo _ (by simp)];exact a.sh.ss,
    fun j y hy e=>by rw[eo _ (by simp)] at e;exact a.sh.op j y hy e,fun j y hy e=>?_,fun j hj=>by rw[eo _ (by simp),eo _ (by simp)];exact a.sh.otk j hj,fun j hj=>?_⟩
   ·by_cases ej:j=k
    ·rw[ej,e1] at e;cases e
    ·rw[eo _ (by simp[ej])] at e;exact a.sh.st j y hy e
   ·have ej:j≠k:=fun e=>by have:=gTq hx;omega
    rw[eo _ (by simp),eo _ (by simp[ej])];exact a.sh.osc j hj
  exact s1.upS fun y hy e=>by rw[e1] at e;cases e
 have ctk:cont ρ' (t.upS k f) (.sc k)=(cont ρ t (.sc k)).take 4++[.slice (some ⟨h.length+1,0,none⟩) (x.tks.length+1) 1]++(cont ρ t (.sc k)).drop (4+1):=by
  rw[cSq hx',cSq hx,hf]
  simp only[scC,e1,slv,List.length_append,List.length_cons,List.length_nil]
  rw[ek _ (ok.ow k x hx)]
  rfl
 have same:∀ q,q≠.st k->q≠.sc k->some q≠none->ρ q≠none->cont ρ' (t.upS k f) q=cont ρ t q:=fun q n1 n2 n3 n4=>by
  rw[cont_upS n2 n1]
  refine cont_eq ok es ek ?_
  cases q with
  | root=>exact⟨eo _ (by simp),eo _ (by simp)⟩
  | sc j=>exact eo _ fun e=>n2 (by cases e;rfl)
  | tk j=>exact eo _ (by simp)
  | _=>trivial
 obtain⟨cr,p1,p2⟩:=a.appG (rh:=.sc k) (rs:=.st k) (rn:=none) (b:=0) (n:=x.tks.length) (t':=t.upS k f) (d:=4) (os:=[.cells [ptr ji] true]) (z:=h.length+1) hi (by simp) (by simp) e1 (fun q n1 n2=>eo q n1) (fun q e=>by cases e) same (by rw[cSq hx];simp[scC]) ctk sh
 rw[cop] at p1 p2
 exact⟨ρ',cr,p1,p2,appG_step (b:=0) hi (by simp) e1 (fun q n1 n2=>eo q n1) (rn:=none) (fun q e=>by cases e) (eo _ (by simp)),eo⟩
end
end Go.Proofs.Ytahomnlkkafbjaa.tr
namespace Go.Proofs.Ytahomnlkkafbjaa.tr
open Go Go.Ev
section
variable {t:TS} {c k:Nat}
theorem TOk.mono{c':Nat}(ok:TOk c t)(h:c<=c'):TOk c' t :=
 ⟨ok.n64,ok.n200,ok.inn,ok.opn,fun k x hx=>by have:=ok.len k x hx;omega,ok.ow,ok.mem,fun k x hx=>by have:=ok.mlen k x hx;omega,fun k x hx=>by have:=ok.live k x hx;omega⟩
theorem TOk.upT{f:Tk->Tk}(ok:TOk c t)(hf:∀ x,t.tks[k]?=some x->(f x).inn=x.inn/\(∀ s,some s∈(f x).opn->s<t.scs.length)/\(f x).opn.length<=c):TOk c (t.upT k f):=by
 have g:∀ (j:Nat) y,(t.upT k f).tks[j]?=some y->∃ x,t.tks[j]?=some x/\y.inn=x.inn/\(∀ s,some s∈y.opn->s<t.scs.length)/\y.opn.length<=c:=fun j y hy=>by
  rw[upT_get] at hy
  cases hx:t.tks[j]? with
  | none=>rw[hx] at hy;cases hy
  | some x =>
   rw[hx] at hy
   simp only[Option.map_some,Option.some.injEq] at hy
   split at hy
   ·rename_i e;subst e;subst hy
    exact⟨x,rfl,hf x hx⟩
   ·subst hy
    exact⟨x,rfl,rfl,fun s hs=>ok.opn j x s hx hs,ok.len j x hx⟩
 refine⟨by rw[upT_len];exact ok.n64,ok.n200,fun j y s hy e=>?_,fun j y s hy e=>?_,fun j y hy=>?_,fun j y hy=>by rw[upT_len];exact ok.ow j y hy,fun j y i hy e=>by rw[upT_len];exact ok.mem j y i hy e,ok.mlen,ok.live⟩
 ·obtain⟨x,hx,g1,_⟩:=g j y hy
  exact ok.inn j x s hx (by rw[<- g1];exact e)
 ·obtain⟨x,hx,_,g2,_⟩:=g j y hy
  exact g2 s e
 ·obtain⟨x,hx,_,_,g3⟩:=g j y hy
  exact g3
theorem TOk.upS{f:Sc->Sc}(ok:TOk c t)(hf:∀ x,t.scs[k]?=some x->(f x).ow=x.ow/\(∀ j,j∈(f x).tks->j<t.tks.length)/\(f x).tks.length<=c /\ -(c:Int)<=(f x).live/\(f x).live<=c):TOk c (t.upS k f):=by
 have g:∀ (j:Nat) y,(t.upS k f).scs[j]?=some y->∃ x,t.scs[j]?=some x/\y.ow=x.ow/\(∀ j,j∈y.tks->j<t.tks.length)/\y.tks.length<=c /\ -(c:Int)<=y.live/\y.live<=c:=fun j y hy=>by
  rw[upS_get] at hy
  cases hx:t.scs[j]? with
  | none=>rw[hx] at hy;cases hy
  | some x =>
   rw[hx] at hy
   simp only[Option.map_some,Option.some.injEq] at hy
   split at hy
   ·rename_i e;subst e;subst hy
    exact⟨x,rfl,hf x hx⟩
   ·subst hy
    exact⟨x,rfl,rfl,fun s hs=>ok.mem j x s hx hs,ok.mlen j x hx,ok.live j x hx⟩
 refine⟨ok.n64,by rw[upS_len];exact ok.n200,fun j y s hy e=>by rw[upS_len];exact ok.inn j y s hy e,fun j y s hy e=>by rw[upS_len];exact ok.opn j y s hy e,ok.len,fun j y hy=>?_,fun j y i hy e=>?_,fun j y hy=>?_,fun j y hy=>?_⟩
 ·obtain⟨x,hx,g1,_⟩:=g j y hy
  rw[g1];exact ok.ow j x hx
 ·obtain⟨x,hx,_,g2,_⟩:=g j y hy
  exact g2 i e
 ·obtain⟨x,hx,_,_,g3,_⟩:=g j y hy
  exact g3
 ·obtain⟨x,hx,_,_,_,g4⟩:=g j y hy
  exact g4
theorem TOk.newT{inn:Option Nat}(ok:TOk c t)(hn:t.tks.length<64)(hi:∀ s,inn=some s->s<t.scs.length):TOk c (t.newT inn):=by
 refine⟨by rw[newT_len];omega,ok.n200,fun j y s hy e=>?_,fun j y s hy e=>?_,fun j y hy=>?_,fun j y hy=>by rw[newT_len];have:=ok.ow j y hy;omega,fun j y i hy e=>by rw[newT_len];have:=ok.mem j y i hy e;omega,ok.mlen,ok.live⟩
 ·rcases newT_get hy with hx | ⟨_,rfl⟩
  ·exact ok.inn j y s hx e
  ·exact hi s e
 ·rcases newT_get hy with hx | ⟨_,rfl⟩
  ·exact ok.opn j y s hx e
  ·cases e
 ·rcases newT_get hy with hx | ⟨_,rfl⟩
  ·exact ok.len j y hx
  ·simp[Tk0]
theorem TOk.newS{su:Bool}(ok:TOk c t)(hn:t.scs.length<200)(hk:k<t.tks.length):TOk c (t.newS k su):=by
 refine⟨ok.n64,by rw[newS_len];omega,fun j y s hy e=>by rw[newS_len];have:=ok.inn j y s hy e;omega,fun j y s hy e=>by rw[newS_len];have:=ok.opn j y s hy e;omega,ok.len,fun j y hy=>?_,fun j y i hy e=>?_,fun j y hy=>?_,fun j y hy=>?_⟩
 ·rcases newS_get hy with hx | ⟨_,rfl⟩
  ·exact ok.ow j y hx
  ·exact hk
 ·rcases newS_get hy with hx | ⟨_,rfl⟩
  ·exact ok.mem j y i hx e
  ·cases e
 ·rcases newS_get hy with hx | ⟨_,rfl⟩
  ·exact ok.mlen j y hx
  ·simp[Sc0]
 ·rcases newS_get hy with hx | ⟨_,rfl⟩
  ·exact ok.live j y hx
  ·simp[Sc0]
end
def TS.add(t:TS):Option Nat->TS
 | none=>t.newT none
 | some s=>((t.newT (some s)).upS s fun x=>{ x with tks:=x.tks++[t.tks.length] }).upS s fun x=>{ x with live:=x.live+1 }
theorem TOk.add{t:TS}{c:Nat}{inn:Option Nat}(ok:TOk c t)(hn:t.tks.length<64)(hi:∀ s,inn=some s->s<t.scs.length):TOk (c+1) (t.add inn):=by
 have h1:=(ok.newT hn hi).mono (Nat.le_succ c)
 cases inn with
 | none=>exact h1
 | some s =>
  refine TOk.upS (TOk.upS h1 fun x hx=>?_) fun x hx=>?_
  ·have m1:=ok.mlen s x hx
   have m2:=ok.live s x hx
   refine⟨rfl,fun j hj=>?_,by simp;omega,by simp only;omega,by simp only;omega⟩
   rw[newT_len]
   rcases List.mem_append.1 hj with hj | hj
   ·have:=ok.mem s x j hx hj;omega
   ·simp at hj;omega
  ·rw[upS_get] at hx
   cases hy:t.scs[s]? with
   | none=>rw[show (t.newT (some s)).scs[s]?=t.scs[s]? from rfl,hy] at hx;cases hx
   | some y =>
    rw[show (t.newT (some s)).scs[s]?=t.scs[s]? from rfl,hy] at hx
    simp only[Option.map_some,if_true,Option.some.injEq] at hx
    subst hx
    have m1:=ok.mlen s y hy
    have m2:=ok.live s y hy
    refine⟨rfl,fun j hj=>?_,by simp;omega,by simp only;omega,by simp only;omega⟩
    rw[upS_tks,newT_len]
    rcases List.mem_append.1 hj with hj | hj
    ·have:=ok.mem s y j hy hj;omega
    ·simp at hj;omega
section
variable {h:Hp} {ρ:Lay} {t:TS} {c r:Nat}
theorem one_ptr(i:Nat):([ptr i].all Value.oneCell')=true:=rfl
theorem a_appS{P:Program}{s:SH}{i j n q:Nat}{l junk:List Value}{v:Value}{rw:Bool}(h1:s.den[i]?=some (.cells (l++junk) true))(hn:l.length=n)(hv:[v].all Value.oneCell'=true)(h2:s.den[j]?=some (.cells [v] rw))(hb:n<=1000000)(hq:s.den.length=q) :
  (Asm.app s i 0 n j 0 1 0 1 8 (l++[v]) [v] q).holds P:=by
 refine⟨rfl,⟨_,cells_of h2,by simp,rfl⟩,hv,by omega,by omega,⟨_,own_of h1,by simp;omega,?_⟩,hq⟩
 rw[List.drop_zero,Nat.mul_one,List.take_append_of_le_length (by omega),List.take_of_length_le (by omega)]
theorem a_appN{P:Program}{s:SH}{j q:Nat}{v:Value}{rw:Bool}(hv:[v].all Value.oneCell'=true)(h2:s.den[j]?=some (.cells [v] rw))(hq:s.den.length=q) :
  (Asm.appNil s j 0 1 0 1 8 [v] q).holds P:=⟨rfl,⟨_,cells_of h2,by simp,rfl⟩,hv,by omega,by omega,hq⟩
theorem TAt.exlen(a:TAt h ρ t):∃ d,h.length=d:=⟨_,rfl⟩
theorem add_run(a:TAt h ρ t)(ok:TOk c t)(hc:c<=100000)(hn:t.tks.length<64)(hr:ρ .root=some r){inn:Option Nat}(hinn:∀ s,inn=some s->s<t.scs.length) :
  ∃ ρ' h',Run Try.prog 39 [ptr r,inP ρ inn] h (iV ((t.tks.length+1:Nat):Int)) h'/\TAt h' ρ' (t.add inn)/\Step ρ h ρ' h':=by
 have n64:=ok.n64
 obtain⟨ρ1,cr,p1,p2,p3,p4,p5⟩:=a.appTs ok hr hinn
 have hd:=a.hdT hr (P:=Try.prog) (s:=.is h) rfl
 have hd':∀ o,(Asm.ld1 (.push (.is h) o) r 0 (slv (ρ .ts) t.tks.length)).holds Try.prog:=fun o=>by
  obtain⟨c,h1,h2⟩:=a.cells hr (d:=0) rfl
  exact aL (gP h1) h2
 have e5:(Asm.len (.is h) h.length).holds Try.prog:=rfl
 have e6:∀ o,(Asm.len (.push (.is h) o) (h.length+1)).holds Try.prog:=fun o=>pL _ _
 cases inn with
 | none =>
  have last:(cont ρ1 (t.newT none) (.tk t.tks.length))[0]?=some (iV ((t.tks.length+1:Nat):Int)):=by rw[cT newT_new];rfl
  have ff:=fun {s:SH} (hs:s.den=_)=>p2.ld1 (P:=Try.prog) (s:=s) hs p5 last
  refine⟨ρ1,_,?_,p2,p3⟩
  cases ht:ρ .ts with
  | none =>
   have h0:=a.sh.ts ht
   have hm:t.tks.length=0:=by rw[h0];rfl
   have hcs:cont ρ t .ts=[]:=by simp[cont,h0]
   rw[ht,hm] at hd hd'
   rw[ht,hm,hcs] at p1 ff
   rw[hm,hcs]
   exact pvF 0 Try.func39 (r2p.ad_n r 0 0 h.length (h.length+1) (h.length+2) 0 0 0 0 0 ((0+1:Nat):Int) 0 0 cr [] [] [] [] [ptr h.length] h []) ⟨hd,addI rfl (by omega) (by omega),e5,hd' _,e6 _,
    a_appN (one_ptr _) (gV _ (pL _ _)) (by show (h++[_]++[_]).length=_;simp),p1 Try.prog _ rfl,ff rfl,trivial⟩
  | some to =>
   obtain⟨junk,hj⟩:=a.obj _ _ ht
   rw[ht] at hd hd' p1 ff
   exact pvF 0 Try.func39 (r2p.ad_s r to t.tks.length h.length (h.length+1) (h.length+2) 0 0 0 0 0 ((t.tks.length+1:Nat):Int) 0 0 cr (cont ρ t .ts++[ptr h.length]) [] [] [] [ptr h.length] h []) ⟨hd,addI (by simp) (by omega) (by omega),e5,hd' _,e6 _,
    a_appS (gP (gP hj)) (by simp[cont]) (one_ptr _) (gV _ (pL _ _)) (by omega) (by show (h++[_]++[_]).length=_;simp),p1 Try.prog _ rfl,ff rfl,trivial⟩
 | some s =>
  have hs:=hinn s rfl
  obtain⟨x,hx⟩:∃ x,t.scs[s]?=some x:=⟨_,List.getElem?_eq_getElem hs⟩
  have how:=ok.ow s x hx
  have hml:=ok.mlen s x hx
  have hlv:=ok.live s x hx
  obtain⟨to,ht⟩:=a.sh.ts' how
  obtain⟨sid,hsid⟩:=a.sh.sc s hs
  obtain⟨junk,hj⟩:=a.obj _ _ ht
  have hx1:(t.newT (some s)).scs[s]?=some x:=hx
  have ok1:TOk c (t.newT (some s)):=ok.newT hn hinn
  rw[ht] at p1 p2 p3 hd hd'
  obtain⟨d,hd1⟩:=p2.exlen
  have hsid1:ρ1 (.sc s)=some sid:=by rw[p4 _ (by simp) (by simp)];exact hsid
  have hst1:ρ1 (.st s)=ρ (.st s):=p4 _ (by simp) (by simp)
  obtain⟨ρ2,c3,q1,q2,q3,q4⟩:=p2.appSt ok1 (k:=s) (j:=t.tks.length) hx1 hsid1 (by rw[newT_len];omega) p5
  rw[hd1] at q1
  have hx2:=upS_at (g:=fun x=>{ x with tks:=x.tks++[t.tks.length] }) hx1
  have hsid2:ρ2 (.sc s)=some sid:=by rw[q4 _ (by simp)];exact hsid1
  obtain⟨c4,w1,w2⟩:=q2.wSc (d:=5) (l:=[iV (x.live+1)]) (fun x=>{ x with live:=x.live+1 }) hsid2 hx2 rfl rfl (by simp) rfl
  have p5':ρ2 (.tk t.tks.length)=some h.length:=by rw[q4 _ (by simp)];exact p5
  have last:(cont ρ2 (((t.newT (some s)).upS s fun x=>{ x with tks:=x.tks++[t.tks.length] }).upS s fun x=>{ x with live:=x.live+1 }) (.tk t.tks.length))[0]?=some (iV ((t.tks.length+1:Nat):Int)):=by
   rw[cT (x:=Tk0 (some s)) (show (((t.newT (some s)).upS s fun x=>{ x with tks:=x.tks++[t.tks.length] }).upS s fun x=>{ x with live:=x.live+1 }).tks[t.tks.length]?=_ from newT_new)];rfl
  have ff:=fun {s:SH} (hs:s.den=_)=>w2.ld1 (P:=Try.prog) (s:=s) hs p5' last
  have fl:=fun {s:SH} (hs:s.den=_)=>q2.ld1 (P:=Try.prog) (s:=s) hs hsid2 (d:=5) (v:=iV x.live) (by rw[cSq hx2];rfl)
  have fs:=fun {s:SH} (hs:s.den=_)=>p2.ld1 (P:=Try.prog) (s:=s) hs hsid1 (d:=4) (v:=slv (ρ (.st _)) x.tks.length) (by rw[cSq hx1,<- hst1];rfl)
  refine⟨ρ2,_,?_,w2,(p3.trans q3).trans (Step.set hsid2 _)⟩
  have hin:inP ρ (some s)=ptr sid:=by simp only[inP,hsid,pvv]
  rw[hin]
  rw[hst1] at q1 w1 ff fl ⊢
  have fi:(Asm.arith .add .i64 x.live 1 (x.live+1)).holds Try.prog:=addI rfl (by omega) (by omega)
  simp only[objT,hin] at p1 hd1 q1 w1 ff fl fs ⊢
  cases hst:ρ (.st s) with
  | none =>
   have h0:x.tks=[]:=a.sh.st s x hx hst
   rw[hst,h0] at fs
   rw[hst,h0] at q1 w1 ff fl
   rw[h0]
   exact pvF 0 Try.func39 (r2p.ad_sn r to t.tks.length h.length (h.length+1) (h.length+2) sid 0 0 d (d+1) ((t.tks.length+1:Nat):Int) x.live (x.live+1) cr (cont ρ t .ts++[ptr h.length]) [] c3 [ptr h.length] [ptr h.length] h c4) ⟨hd,addI (by simp) (by omega) (by omega),e5,hd' _,e6 _,
    a_appS (gP (gP hj)) (by simp[cont]) (one_ptr _) (gV _ (pL _ _)) (by omega) (by show (h++[_]++[_]).length=_;simp),p1 Try.prog _ rfl,fs rfl,hd1,a_appN (one_ptr _) (gV _ hd1) (by show (_++[_]).length=_;rw[pL];exact congrArg (·+1) hd1),q1 Try.prog _ rfl,fl rfl,fi,w1 Try.prog _ rfl,ff rfl,trivial⟩
  | some so =>
   obtain⟨junk2,hj2⟩:=p2.obj (.st s) so (by rw[hst1];exact hst)
   rw[cont_st hx1] at hj2
   simp only[objT,hin] at hj2
   rw[hst] at fs
   rw[hst] at q1 w1 ff fl
   exact pvF 0 Try.func39 (r2p.ad_ss r to t.tks.length h.length (h.length+1) (h.length+2) sid so x.tks.length d (d+1) ((t.tks.length+1:Nat):Int) x.live (x.live+1) cr (cont ρ t .ts++[ptr h.length]) (x.tks.map (fun j=>pvv (ρ1 (.tk j)))++[ptr h.length]) c3 [ptr h.length] [ptr h.length] h c4) ⟨hd,addI (by simp) (by omega) (by omega),e5,hd' _,e6 _,
    a_appS (gP (gP hj)) (by simp[cont]) (one_ptr _) (gV _ (pL _ _)) (by omega) (by show (h++[_]++[_]).length=_;simp),p1 Try.prog _ rfl,fs rfl,hd1,a_appS (gP hj2) (by simp) (one_ptr _) (gV _ hd1) (by omega) (by show (_++[_]).length=_;rw[pL];exact congrArg (·+1) hd1),q1 Try.prog _ rfl,fl rfl,fi,w1 Try.prog _ rfl,ff rfl,trivial⟩
end
end Go.Proofs.Ytahomnlkkafbjaa.tr
namespace Go.Proofs.Ytahomnlkkafbjaa.tr
open Go Go.Ev
def TS.root(t:TS):TS×Int×Int:=if 64<=t.tks.length then (t,0,5) else (t.add none,((t.tks.length+1:Nat):Int),0)
theorem TOk.root{t:TS}{c:Nat}(ok:TOk c t):TOk (c+1) t.root.1:=by
 unfold TS.root
 split
 ·exact ok.mono (by omega)
 ·exact ok.add (inn:=none) (by omega) fun s e=>by cases e
section
variable {h:Hp} {ρ:Lay} {t:TS} {c r:Nat}
theorem root_run(a:TAt h ρ t)(ok:TOk c t)(hc:c<=100000)(hr:ρ .root=some r) :
  ∃ ρ' h',Run Try.prog 33 [ptr r] h (.tuple #[iV t.root.2.1,iV t.root.2.2]) h'/\TAt h' ρ' t.root.1/\Step ρ h ρ' h':=by
 have n64:=ok.n64
 have hd:=a.hdT hr (P:=Try.prog) (s:=.is h) rfl
 by_cases h64:64<=t.tks.length
 ·simp only[TS.root,h64,if_true]
  obtain⟨to,ht⟩:=a.sh.ts' (k:=0) (by omega)
  rw[ht] at hd
  exact⟨ρ,h,pvF 0 Try.func33 (r2p.ro_full r to t.tks.length 0 h h) ⟨hd,geT (by simp;omega),trivial⟩,a,Step.refl _ _⟩
 ·simp only[TS.root,h64,if_false]
  obtain⟨ρ',h',r1,r2,r3⟩:=add_run a ok hc (by omega) hr (inn:=none) fun s e=>by cases e
  refine⟨ρ',h',?_,r2,r3⟩
  cases ht:ρ .ts with
  | none =>
   have h0:=a.sh.ts ht
   rw[ht,h0] at hd
   exact pvF 0 Try.func33 (r2p.ro_okn r 0 0 _ h h') ⟨hd,geF (by omega),r1,trivial⟩
  | some to =>
   rw[ht] at hd
   exact pvF 0 Try.func33 (r2p.ro_oks r to t.tks.length _ h h') ⟨hd,geF (by simp;omega),r1,trivial⟩
end
def TS.roots(n:Nat):TS:=⟨List.replicate n (Tk0 none),[]⟩
theorem roots_succ(n:Nat):(TS.roots n).add none=TS.roots (n+1):=by
 simp only[TS.add,TS.newT,TS.roots,List.replicate_succ']
theorem roots_len(n:Nat):(TS.roots n).tks.length=n:=by simp[TS.roots]
theorem roots_ok(n:Nat)(hn:n<=64):TOk n (TS.roots n):=by
 have g:∀ (k:Nat) x,(TS.roots n).tks[k]?=some x->x=Tk0 none:=fun k x hx=>by
  exact List.eq_of_mem_replicate (List.mem_of_getElem? hx)
 refine⟨by rw[roots_len];exact hn,by simp[TS.roots],fun k x s hx e=>?_,fun k x s hx e=>?_,fun k x hx=>?_,fun k x hx=>?_,fun k x j hx e=>?_,fun k x hx=>?_,fun k x hx=>?_⟩
 ·rw[g k x hx] at e;cases e
 ·rw[g k x hx] at e;cases e
 ·rw[g k x hx];simp[Tk0]
 ·simp[TS.roots] at hx
 ·simp[TS.roots] at hx
 ·simp[TS.roots] at hx
 ·simp[TS.roots] at hx
theorem new_loop{b n:Nat}(hn:n<=64):∀ (j i:Nat) (E:Env) (g:Hp) (ρ:Lay),i+j=n->EnvLe [(14,iV (i:Int)),(13,iV (n:Int)),(4,ptr b)] E->TAt g ρ (TS.roots i)->ρ .root=some b ->
  ∃ E1 g' ρ',EnvLe [(4,ptr b)] E1/\LRun Try.prog 20 false (loopN Try.f11 0) E g (.exit 0) E1 g'/\TAt g' ρ' (TS.roots n)/\Step ρ g ρ' g':=by
 intro j
 induction j with
 | zero =>
  intro i E g ρ hi hE a hr
  have e:i=n:=by omega
  subst e
  obtain⟨E2,h1,h2⟩:=pvC 0 hE (r2p.nl_out b i i g) ⟨ltF (by omega),trivial⟩
  exact⟨E2,g,ρ,((EnvLe.nil _).add rfl).trans h1,.last h2 (by simp),a,Step.refl _ _⟩
 | succ j ih =>
  intro i E g ρ hi hE a hr
  obtain⟨ρ1,g1,r1,r2,r3⟩:=add_run a (roots_ok i (by omega)) (by omega) (by rw[roots_len];omega) hr (inn:=none) fun s e=>by cases e
  rw[roots_len] at r1
  rw[roots_succ] at r2
  obtain⟨E2,h1,h2⟩:=pvK 0 hE (r2p.nl_go b n i ((i+1:Nat):Int) ((i+1:Nat):Int) g g1) ⟨ltT (by omega),r1,addI rfl (by omega) (by omega),trivial⟩
  obtain⟨E3,g',ρ',q1,q2,q3,q4⟩:=ih (i+1) E2 g1 ρ1 (by omega) ((((EnvLe.nil _).add rfl).add rfl |>.add rfl).trans h1) r2 (r3.root.trans hr)
  exact⟨E3,g',ρ',q1,.step h2 q2,q3,r3.trans q4⟩
theorem new_low{n:Int}(h:Hp)(hn:n<1\/64<n):Run Try.prog 11 [iV n] h (.tuple #[.pointer none,iV 2]) h:=by
 by_cases c1:n<1
 ·exact pvF 0 Try.func11 (r2p.nw_low 0 n h h) ⟨ltT c1,trivial⟩
 ·exact pvF 0 Try.func11 (r2p.nw_high 0 n h h) ⟨ltF (by omega),gtT (by omega),trivial⟩
structure Made(h h':Hp)(ρ:Lay)(b:Nat):Prop where
 keep:Keep (fun _=>False) h h'
 root:ρ .root=some b
 new:∀ q,fpT ρ q->h.length<=q
theorem new_run{n:Nat}(h:Hp)(h1:1<=n)(hn:n<=64):∃ b ρ' h',Run Try.prog 11 [iV (n:Int)] h (.tuple #[ptr b,iV 0]) h'/\TAt h' ρ' (TS.roots n)/\Made h h' ρ' b:=by
 obtain⟨ρ,hρ⟩:∃ ρ:Lay,ρ=fun r=>if r=.root then some h.length else none:=⟨_,rfl⟩
 have e1:ρ .root=some h.length:=by rw[hρ];rfl
 have e2:∀ q,q≠.root->ρ q=none:=fun q hq=>by rw[hρ];simp[hq]
 have e3:∀ q i,ρ q=some i->q=.root/\i=h.length:=fun q i e=>by
  by_cases hq:q=.root
  ·rw[hq,e1] at e;cases e;exact⟨hq,rfl⟩
  ·rw[e2 q hq] at e;cases e
 have a:TAt (h++[.cells [.slice none 0 0,.slice none 0 0] true]) ρ (TS.roots 0):=by
  refine⟨⟨⟨_,e1⟩,fun k hk=>by simp[TS.roots] at hk,fun k hk=>by simp[TS.roots] at hk,fun _=>rfl,fun _=>rfl,fun k x hx=>by simp[TS.roots] at hx,fun k x hx=>by simp[TS.roots] at hx,fun k _=>⟨e2 _ (by simp),e2 _ (by simp)⟩,fun k _=>⟨e2 _ (by simp),e2 _ (by simp)⟩⟩,fun q q' i h1 h2=>by rw[(e3 q i h1).1,(e3 q' i h2).1],fun q i e=>⟨[],?_⟩⟩
  obtain⟨rfl,rfl⟩:=e3 q i e
  have:cont ρ (TS.roots 0) .root=[.slice none 0 0,.slice none 0 0]:=by
   simp only[cont,e2 .ts (by simp),e2 .ss (by simp)]
   rfl
  rw[this]
  exact gW _ _
 obtain⟨E1,g',ρ',q1,q2,q3,q4⟩:=new_loop hn (b:=h.length) n 0 [(14,iV 0),(13,iV n),(4,ptr h.length)] _ ρ (by omega) (EnvLe.refl _) a e1
 refine⟨h.length,ρ',g',pvF 0 Try.func11 (r2p.nw_ok h.length n h g') ⟨ltF (by omega),gtF (by omega),rfl,a_loop (by kernel_rfl) ((((EnvLe.nil _).add rfl).add rfl).add rfl) q1 q2,trivial⟩,q3,⟨?_,q4.root.trans e1,fun q e=>?_⟩⟩
 ·refine (Keep.push _ h _).trans_new q4.keep fun q hq ⟨r,e⟩=>?_
  have:=(e3 r q e).2
  omega
 ·rcases q4.new q e with⟨r,e⟩ | e
  ·have:=(e3 r q e).2;omega
  ·simp at e;omega
end Go.Proofs.Ytahomnlkkafbjaa.tr
namespace Go.Proofs.Ytahomnlkkafbjaa.tr
open Go Go.Ev
def TS.openF(t:TS)(k:Nat)(su:Bool):TS:=(t.newS k su).upT k fun x=>{ x with opn:=x.opn++[some t.scs.length] }
def TS.open(t:TS)(n:Int)(su:Bool):TS×Int×Int:=match t.acts n with
 | (none,e)=>(t,0,e)
 | (some k,_)=>if 200<=t.scs.length then (t,0,5) else (t.openF k su,((t.scs.length+1:Nat):Int),0)
theorem TOk.open{t:TS}{c:Nat}{n:Int}{su:Bool}(ok:TOk c t):TOk (c+1) (t.open n su).1:=by
 unfold TS.open
 split
 ·exact ok.mono (by omega)
 ·rename_i k e hq
  split
  ·exact ok.mono (by omega)
  ·obtain⟨_,_,x,hx,_⟩:=acts_some hq
   refine TOk.upT ((ok.newS (by omega) (gTq hx)).mono (by omega)) fun y hy=>?_
   have hy':t.tks[k]?=some y:=hy
   rw[hx] at hy';cases hy'
   refine⟨rfl,fun s hs=>?_,?_⟩
   ·rw[newS_len]
    rcases List.mem_append.1 hs with hs | hs
    ·have:=ok.opn k x s hx hs;omega
    ·simp at hs;omega
   ·have:=ok.len k x hx
    simp;omega
section
variable {h:Hp} {ρ:Lay} {t:TS} {c r:Nat}
theorem open_run(a:TAt h ρ t)(ok:TOk c t)(hc:c<=100000)(hr:ρ .root=some r)(n:Int)(su:Bool) :
  ∃ ρ' h',Run Try.prog 21 [ptr r,iV n,.bool su] h (.tuple #[iV (t.open n su).2.1,iV (t.open n su).2.2]) h'/\TAt h' ρ' (t.open n su).1/\Step ρ h ρ' h':=by
 have R:=acts_run a ok hr n
 rcases hq:t.acts n with⟨k | k,e⟩
 ·rw[hq] at R
  have e':t.open n su=(t,0,e):=by simp only[TS.open,hq]
  have e0:¬ e=0:=by have:=acts_none hq;omega
  rw[e']
  exact⟨ρ,h,pvF 0 Try.func21 (r2p.op_err r 0 0 0 0 0 0 0 0 0 0 n e 0 su [] [] [] [] [] [] h) ⟨R,neT e0,trivial⟩,a,Step.refl _ _⟩
 ·obtain⟨rfl,hn,x,hx,he,hl⟩:=acts_some hq
  have hk:=gTq hx
  obtain⟨i,hi⟩:=a.sh.tk k hk
  rw[hq] at R
  simp only[tkP,hi,pvv] at R
  have hd:=a.hdS hr (P:=Try.prog) (s:=.is h) rfl
  have n200:=ok.n200
  have hlen:=ok.len k x hx
  by_cases h200:200<=t.scs.length
  ·have e':t.open n su=(t,0,5):=by simp only[TS.open,hq,h200,if_true]
   rw[e']
   obtain⟨so,hs⟩:=a.sh.ss' (k:=0) (by omega)
   rw[hs] at hd
   exact⟨ρ,h,pvF 0 Try.func21 (r2p.op_full r i so t.scs.length 0 0 0 0 0 0 0 n 0 0 su [] [] [] [] [] [] h) ⟨R,neF rfl,hd,geT (by simp;omega),trivial⟩,a,Step.refl _ _⟩
  ·have e':t.open n su=(t.openF k su,((t.scs.length+1:Nat):Int),0):=by simp only[TS.open,hq,h200,if_false]
   rw[e']
   obtain⟨ρ1,cr,p1,p2,p3,p4,p5⟩:=a.appSs ok hr hk hi su
   have ok1:=ok.newS (su:=su) (by omega) hk
   have hd':∀ o,(Asm.ld1 (.push (.is h) o) r 1 (slv (ρ .ss) t.scs.length)).holds Try.prog:=fun o=>by
    obtain⟨c,h1,h2⟩:=a.cells hr (d:=1) rfl
    exact aL (gP h1) h2
   have e5:(Asm.len (.is h) h.length).holds Try.prog:=rfl
   have e6:∀ o,(Asm.len (.push (.is h) o) (h.length+1)).holds Try.prog:=fun o=>pL _ _
   obtain⟨d,hd1⟩:=p2.exlen
   have hi1:ρ1 (.tk k)=some i:=by rw[p4 _ (by simp) (by simp)];exact hi
   have ho1:ρ1 (.op k)=ρ (.op k):=p4 _ (by simp) (by simp)
   have hx1:(t.newS k su).tks[k]?=some x:=hx
   obtain⟨ρ2,ct,q1,q2,q3,q4⟩:=p2.appOp ok1 hx1 hi1 (some t.scs.length) fun s e=>by cases e;rw[newS_len];omega
   rw[hd1] at q1
   have p5':ρ2 (.sc t.scs.length)=some h.length:=by rw[q4 _ (by simp)];exact p5
   have hin:inP ρ1 (some t.scs.length)=ptr h.length:=by simp only[inP,p5,pvv]
   have ff:=fun {s:SH} (hs:s.den=_)=>q2.ld1 (P:=Try.prog) (s:=s) hs p5' (d:=0) (v:=iV ((t.scs.length+1:Nat):Int)) (by rw[cSq (x:=Sc0 k su) (show ((t.newS k su).upT k _).scs[t.scs.length]?=_ from newS_new)];rfl)
   have fs:=fun {s:SH} (hs:s.den=_)=>p2.ld1 (P:=Try.prog) (s:=s) hs hi1 (d:=2) (v:=slv (ρ (.op _)) x.opn.length) (by rw[cT hx1,<- ho1];rfl)
   refine⟨ρ2,_,?_,q2,p3.trans q3⟩
   have go:∀ j,ρ (.op k)=some j->∃ junk,((gApp (h++[.cells (objS (ptr i) t.scs.length su) true]++[.cells [ptr h.length] true]) (ρ .ss) (cont ρ t .ss++[ptr h.length])).set r (.cells cr true))[j]?=some (.cells (x.opn.map (inP ρ1)++junk) true):=fun j e=>by
    obtain⟨junk,hj⟩:=p2.obj (.op k) j (by rw[ho1];exact e)
    rw[cont_op hx1] at hj
    exact⟨junk,hj⟩
   have gs:∀ j,ρ .ss=some j->∃ junk,h[j]?=some (.cells (cont ρ t .ss++junk) true):=fun j e=>a.obj _ _ e
   have ga:(Asm.arith .add .i64 (Int.ofNat t.scs.length) 1 ((t.scs.length+1:Nat):Int)).holds Try.prog:=addI (by simp) (by omega) (by omega)
   simp only[hin] at q1 ff fs ⊢
   rw[ho1] at q1 ff ⊢
   cases hss:ρ .ss with
   | none =>
    have hs0:=a.sh.ss hss
    have hm:t.scs.length=0:=by rw[hs0];rfl
    have hcs:cont ρ t .ss=[]:=by simp[cont,hs0]
    rw[hss,hm,hcs] at p1 hd1 q1 ff fs go
    rw[hss,hm] at hd hd'
    rw[hm,hcs]
    cases hoo:ρ (.op k) with
    | none =>
     have ho0:=a.sh.op k x hx hoo
     rw[hoo,ho0] at q1 ff fs
     rw[ho0]
     exact pvF 0 Try.func21 (r2p.op_nn r i 0 0 h.length (h.length+1) (h.length+2) 0 0 d (d+1) n 0 ((0+1:Nat):Int) su cr ct [] [] [ptr h.length] [ptr h.length] h) ⟨R,neF rfl,hd,geF (by omega),hd,addI rfl (by omega) (by omega),e5,hd' _,e6 _,
      a_appN (one_ptr _) (gV _ (pL _ _)) (by show (h++[_]++[_]).length=_;simp),p1 Try.prog _ rfl,fs rfl,hd1,a_appN (one_ptr _) (gV _ hd1) (by show (_++[_]).length=_;rw[pL];exact congrArg (·+1) hd1),q1 Try.prog _ rfl,ff rfl,trivial⟩
    | some oo =>
     obtain⟨junk,hj⟩:=go oo hoo
     rw[hoo] at q1 ff fs
     exact pvF 0 Try.func21 (r2p.op_ns r i 0 0 h.length (h.length+1) (h.length+2) oo x.opn.length d (d+1) n 0 ((0+1:Nat):Int) su cr ct [] (x.opn.map (inP ρ1)++[ptr h.length]) [ptr h.length] [ptr h.length] h) ⟨R,neF rfl,hd,geF (by omega),hd,addI rfl (by omega) (by omega),e5,hd' _,e6 _,
      a_appN (one_ptr _) (gV _ (pL _ _)) (by show (h++[_]++[_]).length=_;simp),p1 Try.prog _ rfl,fs rfl,hd1,a_appS (gP hj) (by simp) (one_ptr _) (gV _ hd1) (by omega) (by show (_++[_]).length=_;rw[pL];exact congrArg (·+1) hd1),q1 Try.prog _ rfl,ff rfl,trivial⟩
   | some so =>
    obtain⟨junk,hj⟩:=gs so hss
    rw[hss] at p1 hd1 q1 ff fs go hd hd'
    cases hoo:ρ (.op k) with
    | none =>
     have ho0:=a.sh.op k x hx hoo
     rw[hoo,ho0] at q1 ff fs
     rw[ho0]
     exact pvF 0 Try.func21 (r2p.op_sn r i so t.scs.length h.length (h.length+1) (h.length+2) 0 0 d (d+1) n 0 ((t.scs.length+1:Nat):Int) su cr ct (cont ρ t .ss++[ptr h.length]) [] [ptr h.length] [ptr h.length] h) ⟨R,neF rfl,hd,geF (by simp;omega),hd,ga,e5,hd' _,e6 _,
      a_appS (gP (gP hj)) (by simp[cont]) (one_ptr _) (gV _ (pL _ _)) (by omega) (by show (h++[_]++[_]).length=_;simp),p1 Try.prog _ rfl,fs rfl,hd1,a_appN (one_ptr _) (gV _ hd1) (by show (_++[_]).length=_;rw[pL];exact congrArg (·+1) hd1),q1 Try.prog _ rfl,ff rfl,trivial⟩
    | some oo =>
     obtain⟨junk2,hj2⟩:=go oo hoo
     rw[hoo] at q1 ff fs
     exact pvF 0 Try.func21 (r2p.op_ss r i so t.scs.length h.length (h.length+1) (h.length+2) oo x.opn.length d (d+1) n 0 ((t.scs.length+1:Nat):Int) su cr ct (cont ρ t .ss++[ptr h.length]) (x.opn.map (inP ρ1)++[ptr h.length]) [ptr h.length] [ptr h.length] h) ⟨R,neF rfl,hd,geF (by simp;omega),hd,ga,e5,hd' _,e6 _,
      a_appS (gP (gP hj)) (by simp[cont]) (one_ptr _) (gV _ (pL _ _)) (by omega) (by show (h++[_]++[_]).length=_;simp),p1 Try.prog _ rfl,fs rfl,hd1,a_appS (gP hj2) (by simp) (one_ptr _) (gV _ hd1) (by omega) (by show (_++[_]).length=_;rw[pL];exact congrArg (·+1) hd1),q1 Try.prog _ rfl,ff rfl,trivial⟩
def nones(l:List (Option Nat)):Nat:=l.countP (·==none)
theorem sl_loop{k oo r:Nat}{ol:Nat}(a:TAt h ρ t){kk:Nat}{x:Tk}(hx:t.tks[kk]?=some x)(ho:ρ (.op kk)=some oo)(hol:ol=x.opn.length)(hlen:ol<=1000000)(hin:∀ s,some s∈x.opn->s<t.scs.length) :
  ∀ (j i:Nat) (E:Env),i+j=ol->EnvLe [(24,iV (i:Int)),(23,iV (Int.ofNat ol)),(22,.slice (some ⟨oo,0,none⟩) ol 1),(7,iV (nones (x.opn.take i):Int)),(5,ptr k)] E ->
  ∃ E1,EnvLe [(7,iV (nones x.opn:Int)),(5,ptr k)] E1/\LRun Try.prog 44 false (loopN Try.f23 0) E h (.exit 0) E1 h:=by
 intro j
 induction j with
 | zero =>
  intro i E hi hE
  have e:i=ol:=by omega
  subst e
  rw[hol,List.take_length,<- hol] at hE
  obtain⟨E2,h1,h2⟩:=pvC 0 hE (r2p.sl_out k oo i 0 0 i 0 (nones x.opn) 0 h) ⟨ltF (by simp),trivial⟩
  exact⟨E2,(((EnvLe.nil _).add rfl).add rfl).trans h1,.last h2 (by simp)⟩
 | succ j ih =>
  intro i E hi hE
  have hlt:i<x.opn.length:=by omega
  obtain⟨v,hv⟩:∃ v,x.opn[i]?=some v:=⟨_,List.getElem?_eq_getElem hlt⟩
  have ht:x.opn.take (i+1)=x.opn.take i++[v]:=by rw[List.take_add_one,hv];rfl
  have hcn:nones (x.opn.take i)<=i:=by
   have:=List.countP_le_length (p:=(·==none)) (l:=x.opn.take i)
   have e:=List.length_take (i:=i) (l:=x.opn)
   unfold nones
   omega
  have g1:(Asm.cmp .lss (i:Int) (Int.ofNat ol) true).holds Try.prog:=ltT (by simp;omega)
  have g2:(Asm.off i 0 (i:Int) ol 1).holds Try.prog:=offI (q:=i) rfl (by omega) (by omega)
  have g3:(Asm.ld1 (.is h) oo i (inP ρ v)).holds Try.prog:=a.ld1 rfl ho (by rw[cont_op hx,List.getElem?_map,hv];rfl)
  have g4:(Asm.arith .add .i64 (i:Int) 1 ((i+1:Nat):Int)).holds Try.prog:=addI rfl (by omega) (by omega)
  cases v with
  | none =>
   have hn:nones (x.opn.take (i+1))=nones (x.opn.take i)+1:=by rw[ht];simp[nones]
   obtain⟨E2,h1,h2⟩:=pvK 0 hE (r2p.sl_nil k oo ol i 0 i ((i+1:Nat):Int) (nones (x.opn.take i)) ((nones (x.opn.take i)+1:Nat):Int) h) ⟨g1,g2,g3,addI rfl (by omega) (by omega),g4,trivial⟩
   obtain⟨E3,q1,q2⟩:=ih (i+1) E2 (by omega) (by
    rw[hn]
    exact (((((EnvLe.nil _).add rfl).add rfl).add rfl).add rfl |>.add rfl).trans h1)
   exact⟨E3,q1,.step h2 q2⟩
  | some s =>
   have hn:nones (x.opn.take (i+1))=nones (x.opn.take i):=by rw[ht];simp[nones]
   obtain⟨si,hsi⟩:=a.sh.sc s (hin s (List.mem_of_getElem? hv))
   simp only[inP,hsi,pvv] at g3
   obtain⟨E2,h1,h2⟩:=pvK 0 hE (r2p.sl_some k oo ol i si i ((i+1:Nat):Int) (nones (x.opn.take i)) 0 h) ⟨g1,g2,g3,g4,trivial⟩
   obtain⟨E3,q1,q2⟩:=ih (i+1) E2 (by omega) (by
    rw[hn]
    exact (((((EnvLe.nil _).add rfl).add rfl).add rfl).add rfl |>.add rfl).trans h1)
   exact⟨E3,q1,.step h2 q2⟩
end
def TS.shield(t:TS)(n:Int):TS×Int:=match t.acts n with
 | (none,e)=>(t,e)
 | (some k,_)=>match t.tks[k]? with
  | some x=>if 40<=nones x.opn then (t,5) else (t.upT k fun x=>{ x with opn:=x.opn++[none] },0)
  | none=>(t,6)
def TS.unveil(t:TS)(n:Int):TS×Int:=match t.acts n with
 | (none,e)=>(t,e)
 | (some k,_)=>match t.tks[k]? with
  | some x=>if x.opn.getLast?=some none then (t.upT k fun x=>{ x with opn:=x.opn.dropLast },0) else (t,22)
  | none=>(t,6)
theorem TOk.shield{t:TS}{c:Nat}{n:Int}(ok:TOk c t):TOk (c+1) (t.shield n).1:=by
 have m:=ok.mono (Nat.le_succ c)
 unfold TS.shield
 split
 ·exact m
 ·split
  ·rename_i x hx
   split
   ·exact m
   ·refine TOk.upT m fun y hy=>?_
    rw[hx] at hy;cases hy
    have:=ok.len _ x hx
    refine⟨rfl,fun s hs=>?_,by simp;omega⟩
    rcases List.mem_append.1 hs with hs | hs
    ·exact ok.opn _ x s hx hs
    ·simp at hs
  ·exact m
theorem TOk.unveil{t:TS}{c:Nat}{n:Int}(ok:TOk c t):TOk (c+1) (t.unveil n).1:=by
 have m:=ok.mono (Nat.le_succ c)
 unfold TS.unveil
 split
 ·exact m
 ·split
  ·rename_i x hx
   split
   ·refine TOk.upT m fun y hy=>?_
    rw[hx] at hy;cases hy
    have:=ok.len _ x hx
    exact⟨rfl,fun s hs=>ok.opn _ x s hx (List.dropLast_subset _ hs),by simp;omega⟩
   ·exact m
  ·exact m
section
variable {h:Hp} {ρ:Lay} {t:TS} {c r:Nat}
theorem shield_run(a:TAt h ρ t)(ok:TOk c t)(hc:c<=100000)(hr:ρ .root=some r)(n:Int) :
  ∃ ρ' h',Run Try.prog 23 [ptr r,iV n] h (iV (t.shield n).2) h'/\TAt h' ρ' (t.shield n).1/\Step ρ h ρ' h':=by
 have R:=acts_run a ok hr n
 rcases hq:t.acts n with⟨k | k,e⟩
 ·rw[hq] at R
  have e':t.shield n=(t,e):=by simp only[TS.shield,hq]
  have e0:¬ e=0:=by have:=acts_none hq;omega
  rw[e']
  exact⟨ρ,h,pvF 0 Try.func23 (r2p.sh_err r 0 0 0 0 0 n e 0 [] [] [] h h) ⟨R,neT e0,trivial⟩,a,Step.refl _ _⟩
 ·obtain⟨rfl,hn,x,hx,he,hl⟩:=acts_some hq
  obtain⟨i,hi⟩:=a.sh.tk k (gTq hx)
  rw[hq] at R
  simp only[tkP,hi,pvv] at R
  have hlen:=ok.len k x hx
  have hd:(Asm.ld1 (.is h) i 2 (slv (ρ (.op k)) x.opn.length)).holds Try.prog:=a.ld1 rfl hi (by rw[cT hx];rfl)
  have hcn:nones x.opn<=x.opn.length:=List.countP_le_length
  obtain⟨ρ1,ct,p1,p2,p3,p4⟩:=a.appOp ok hx hi none fun s e=>by cases e
  cases ho:ρ (.op k) with
  | none =>
   have h0:=a.sh.op k x hx ho
   have e':t.shield n=(t.upT k fun x=>{ x with opn:=x.opn++[none] },0):=by
    simp only[TS.shield,hq,hx,h0];rfl
   rw[e']
   refine⟨ρ1,_,?_,p2,p3⟩
   rw[ho,h0] at p1 hd
   rw[ho,h0]
   exact pvF 0 Try.func23 (r2p.sh_okn r i 0 0 h.length (h.length+1) n 0 0 ct [] [.pointer none] h h) ⟨R,neF rfl,hd,ltF (by omega),geF (by omega),hd,rfl,a_appN rfl (gV _ rfl) (pL _ _),p1 Try.prog _ rfl,trivial⟩
  | some oo =>
   rw[ho] at hd
   obtain⟨E1,q1,q2⟩:=sl_loop (k:=i) (r:=r) a hx ho rfl (by omega) (fun s hs=>ok.opn k x s hx hs) x.opn.length 0 [(24,iV 0),(23,iV (Int.ofNat x.opn.length)),(22,.slice (some ⟨oo,0,none⟩) x.opn.length 1),(7,iV 0),(5,ptr i)] (by omega) (EnvLe.refl _)
   by_cases h40:40<=nones x.opn
   ·have e':t.shield n=(t,5):=by simp only[TS.shield,hq,hx,h40,if_true]
    rw[e']
    exact⟨ρ,h,pvF 0 Try.func23 (r2p.sh_full r i oo x.opn.length 0 0 n 0 (nones x.opn) [] [] [] h h) ⟨R,neF rfl,hd,a_loop (by kernel_rfl) (((((EnvLe.nil _).add rfl).add rfl).add rfl).add rfl |>.add rfl) q1 q2,geT (by omega),trivial⟩,a,Step.refl _ _⟩
   ·have e':t.shield n=(t.upT k fun x=>{ x with opn:=x.opn++[none] },0):=by simp only[TS.shield,hq,hx,h40,if_false]
    rw[e']
    refine⟨ρ1,_,?_,p2,p3⟩
    obtain⟨junk,hj⟩:=a.obj _ _ ho
    rw[cont_op hx] at hj
    rw[ho] at p1
    rw[ho]
    exact pvF 0 Try.func23 (r2p.sh_oks r i oo x.opn.length h.length (h.length+1) n 0 (nones x.opn) ct (x.opn.map (inP ρ)++[.pointer none]) [.pointer none] h h) ⟨R,neF rfl,hd,a_loop (by kernel_rfl) (((((EnvLe.nil _).add rfl).add rfl).add rfl).add rfl |>.add rfl) q1 q2,geF (by omega),hd,rfl,
     a_appS (gP hj) (by simp) rfl (gV _ rfl) (by omega) (pL _ _),p1 Try.prog _ rfl,trivial⟩
theorem stat24:(Asm.stat (drawN Try.f24 0)).holds Try.prog:=show statOk (drawN Try.f24 0)=true by kernel_rfl
theorem unveil_run(a:TAt h ρ t)(ok:TOk c t)(hc:c<=100000)(hr:ρ .root=some r)(n:Int) :
  ∃ ρ' h',Run Try.prog 24 [ptr r,iV n] h (iV (t.unveil n).2) h'/\TAt h' ρ' (t.unveil n).1/\Step ρ h ρ' h':=by
 have R:=acts_run a ok hr n
 rcases hq:t.acts n with⟨k | k,e⟩
 ·rw[hq] at R
  have e':t.unveil n=(t,e):=by simp only[TS.unveil,hq]
  have e0:¬ e=0:=by have:=acts_none hq;omega
  rw[e']
  exact⟨ρ,h,pvF 0 Try.func24 (r2p.un_err r 0 0 0 0 0 n e 0 [] h) ⟨R,neT e0,trivial⟩,a,Step.refl _ _⟩
 ·obtain⟨rfl,hn,x,hx,he,hl⟩:=acts_some hq
  obtain⟨i,hi⟩:=a.sh.tk k (gTq hx)
  rw[hq] at R
  simp only[tkP,hi,pvv] at R
  have hlen:=ok.len k x hx
  have I:=inner_run a ok (by omega) hx hi
  cases hg:x.opn.getLast? with
  | none =>
   have e':t.unveil n=(t,22):=by simp[TS.unveil,hq,hx,hg]
   rw[hg] at I
   rw[e']
   exact⟨ρ,h,pvF 0 Try.func24 (r2p.un_none r i 0 0 0 0 n 0 0 [] h) ⟨R,neF rfl,I,trivial⟩,a,Step.refl _ _⟩
  | some v =>
   rw[hg] at I
   cases v with
   | some s =>
    have e':t.unveil n=(t,22):=by simp[TS.unveil,hq,hx,hg]
    obtain⟨si,hsi⟩:=a.sh.sc s (ok.opn k x s hx (List.mem_of_getLast? hg))
    simp only[innV,inP,hsi,pvv] at I
    rw[e']
    exact⟨ρ,h,pvF 0 Try.func24 (r2p.un_scope r i si 0 0 0 n 0 0 [] h) ⟨R,neF rfl,I,trivial⟩,a,Step.refl _ _⟩
   | none =>
    have e':t.unveil n=(t.upT k fun x=>{ x with opn:=x.opn.dropLast },0):=by simp[TS.unveil,hq,hx,hg]
    rw[e']
    have hd:(Asm.ld1 (.is h) i 2 (slv (ρ (.op k)) x.opn.length)).holds Try.prog:=a.ld1 rfl hi (by rw[cT hx];rfl)
    have hne:x.opn≠[]:=fun e=>by rw[e] at hg;cases hg
    have hl1:1<=x.opn.length:=by
     cases e:x.opn with
     | nil=>exact absurd e hne
     | cons y l=>simp
    obtain⟨oo,ho⟩:∃ oo,ρ (.op k)=some oo:=by
     cases e:ρ (.op k) with
     | none=>exact absurd (a.sh.op k x hx e) hne
     | some oo=>exact⟨oo,rfl⟩
    obtain⟨ct,w1,w2⟩:=a.wTk (d:=2) (l:=[.slice (some ⟨oo,0,none⟩) (x.opn.length-1) 1]) (fun x=>{ x with opn:=x.opn.dropLast }) hi hx rfl ⟨[x.opn.getLast hne],(List.dropLast_concat_getLast hne).symm⟩ (by simp) (by
     simp only[tkC,ho,slv,List.length_dropLast]
     rfl)
    rw[ho] at hd
    refine⟨ρ,_,?_,w2,Step.set hi _⟩
    exact pvF 0 Try.func24 (r2p.un_ok r i 0 oo x.opn.length (x.opn.length-1) n 0 0 ct h) ⟨R,neF rfl,I,stat24,hd,hd,subI (by simp<;>omega) (by simp<;>omega) (by simp<;>omega),a_cut (by omega),w1 Try.prog _ rfl,trivial⟩
end
end Go.Proofs.Ytahomnlkkafbjaa.tr
namespace Go.Proofs.Ytahomnlkkafbjaa.tr
open Go Go.Ev
def textB(s:ByteArray):Bool:=decide (s.size<=60)&&s.data.toList.all fun b=>decide (32<=b.toNat)&&decide (b.toNat<=126)
def TextRun:Prop:=∀ (g:Hp) (s:ByteArray),Run Try.prog 70 [.string s] g (.bool (textB s)) g
def faultB(fk:Int)(ft:ByteArray):Bool:=if fk=0\/fk=2 then ft.toList==(⟨#[]⟩:ByteArray).toList else if fk=1 then textB ft else false
theorem fault_run(hT:TextRun)(g:Hp)(fk:Int)(ft:ByteArray):Run Try.prog 51 [.agg #[iV fk,.string ft]] g (.bool (faultB fk ft)) (g++[.cells [iV fk,.string ft] true]):=by
 by_cases c0:fk=0
 ·have e:faultB fk ft=(ft.toList==(⟨#[]⟩:ByteArray).toList):=by simp[faultB,c0]
  rw[e]
  exact pvF 0 Try.func51 (r2p.fa_none g.length fk ft _ g) ⟨rfl,aL (gW g _) rfl,by simpa[Asm.holds,cmpB] using c0,aL (gW g _) rfl,.inl ⟨rfl,rfl⟩,trivial⟩
 ·by_cases c2:fk=2
  ·have e:faultB fk ft=(ft.toList==(⟨#[]⟩:ByteArray).toList):=by simp[faultB,c2]
   rw[e]
   exact pvF 0 Try.func51 (r2p.fa_cancel g.length fk ft _ g) ⟨rfl,aL (gW g _) rfl,by simpa[Asm.holds,cmpB] using c0,by simpa[Asm.holds,cmpB] using c2,aL (gW g _) rfl,.inl ⟨rfl,rfl⟩,trivial⟩
  ·by_cases c1:fk=1
   ·have e:faultB fk ft=textB ft:=by simp[faultB,c1]
    rw[e]
    exact pvF 0 Try.func51 (r2p.fa_throw g.length fk ft _ g _) ⟨rfl,aL (gW g _) rfl,by simpa[Asm.holds,cmpB] using c0,by simpa[Asm.holds,cmpB] using c2,by simpa[Asm.holds,cmpB] using c1,aL (gW g _) rfl,hT _ _,trivial⟩
   ·have e:faultB fk ft=false:=by simp[faultB,c0,c1,c2]
    rw[e]
    exact pvF 0 Try.func51 (r2p.fa_other g.length fk ft g) ⟨rfl,aL (gW g _) rfl,by simpa[Asm.holds,cmpB] using c0,by simpa[Asm.holds,cmpB] using c2,by simpa[Asm.holds,cmpB] using c1,trivial⟩
theorem byte_at{s:ByteArray}{k:Nat}(hk:k<s.size):s[k]?=some (s.data.toList[k]'(by simpa using hk)):=by
 rw[getElem?_pos s k hk];rfl
def okB(b:UInt8):Bool:=decide (32<=b.toNat)&&decide (b.toNat<=126)
theorem text_run:TextRun:=by
 intro g s
 by_cases hl:s.size<=60
 ·have f0:(Asm.cmp .gtr (Int.ofNat s.size) 60 false).holds Try.prog:=by simp[Asm.holds,cmpB];omega
  have hlen:s.data.toList.length=s.size:=Array.length_toList
  have body:∀ (k:Nat) (E:Env),k<s.size->EnvLe [(9,iV k),(8,iV (Int.ofNat s.size)),(0,.string s)] E->∀ b,s.data.toList[k]?=some b ->
    (okB b=true->∃ E1,EnvLe [(9,iV ((k+1:Nat):Int)),(8,iV (Int.ofNat s.size)),(0,.string s)] E1/\CRun Try.prog 23 false (loopN Try.f70 0) E g .normal E1 g) /\
    (okB b=false->∃ E1,EnvLe [(2,.bool false)] E1/\CRun Try.prog 23 false (loopN Try.f70 0) E g .ret E1 g):=by
   intro k E hk hE b hb
   have hat:s[k]?=some b:=by rw[byte_at hk,<- hb,List.getElem?_eq_getElem]
   have f1:(Asm.cmp .lss (k:Int) (Int.ofNat s.size) true).holds Try.prog:=by simp[Asm.holds,cmpB];omega
   have f2:(Asm.sidx s k b.toNat).holds Try.prog:=⟨by omega,b,by simpa using hat,rfl⟩
   refine⟨fun ho=>?_,fun ho=>?_⟩
   ·simp[okB] at ho
    obtain⟨E2,q1,q2⟩:=pvK 0 hE (r8p.tx_go s k (Int.ofNat s.size) g b.toNat ((k+1:Nat):Int)) ⟨f1,f2,by simp[Asm.holds,cmpB];omega,f2,by simp[Asm.holds,cmpB];omega,addI (by omega) (by omega) (by omega),trivial⟩
    exact⟨E2,tR q1,q2⟩
   ·by_cases h1:b.toNat<32
    ·obtain⟨E2,q1,q2⟩:=pvK 0 hE (r8p.tx_low s k (Int.ofNat s.size) g b.toNat) ⟨f1,f2,by simp[Asm.holds,cmpB];omega,trivial⟩
     exact⟨E2,tR q1,q2⟩
    ·have h2:126<b.toNat:=by simp[okB] at ho;omega
     obtain⟨E2,q1,q2⟩:=pvK 0 hE (r8p.tx_high s k (Int.ofNat s.size) g b.toNat) ⟨f1,f2,by simp[Asm.holds,cmpB];omega,f2,by simp[Asm.holds,cmpB];omega,trivial⟩
     exact⟨E2,tR q1,q2⟩
  have pl:plainC (loopN Try.f70 0)=true:=by kernel_rfl
  by_cases hall:s.data.toList.all okB=true
  ·have e:textB s=true:=by
    have:(s.data.toList.all fun b=>decide (32<=b.toNat)&&decide (b.toNat<=126))=true:=hall
    simp only[textB,this,decide_eq_true hl,Bool.and_self]
   rw[e]
   obtain⟨x',E1,h1,hl1,rfl,rfl⟩:=loop_inv (P:=Try.prog) (n:=23) (rd:=false) (b:=loopN Try.f70 0) (Q:=fun x' _ h1=>x'=.exit 0/\g=h1)
    (fun m E g'=>∃ k:Nat,k<=s.size/\m=s.size-k/\EnvLe [(9,iV k),(8,iV (Int.ofNat s.size)),(0,.string s)] E/\g=g')
    (fun m E g' ⟨k,k1,k2,k3,k4⟩=>by
     subst k4
     by_cases ek:k=s.size
     ·right
      obtain⟨E2,q1,q2⟩:=pvC 0 k3 (r8p.tx_end s k (Int.ofNat s.size) g) ⟨by simp[Asm.holds,cmpB];omega,trivial⟩
      exact⟨_,E2,_,by simp,q2,rfl,rfl⟩
     ·left
      obtain⟨b,hb⟩:∃ b,s.data.toList[k]?=some b:=⟨_,List.getElem?_eq_getElem (by omega)⟩
      obtain⟨E2,q1,q2⟩:=(body k E (by omega) k3 b hb).1 (List.all_eq_true.1 hall b (List.mem_of_getElem? hb))
      exact⟨s.size-(k+1),E2,_,by omega,q2,k+1,by omega,rfl,q1,rfl⟩)
    s.size [(9,iV ((0:Nat):Int)),(8,iV (Int.ofNat s.size)),(0,.string s)] g ⟨0,by omega,rfl,EnvLe.refl _,rfl⟩
   exact pvF 0 Try.func70 (r8p.tx_yes s g) ⟨f0,a_loop pl (.add (.add (.add (.nil _) rfl) rfl) rfl) (.nil _) hl1,trivial⟩
  ·have e:textB s=false:=by
    have:(s.data.toList.all fun b=>decide (32<=b.toNat)&&decide (b.toNat<=126))=false:=Bool.eq_false_iff.2 hall
    simp only[textB,this,Bool.and_false]
   rw[e]
   obtain⟨k0,hk0,hmin⟩:∃ k0,(∃ b,s.data.toList[k0]?=some b/\okB b=false)/\∀ m b,m<k0->s.data.toList[m]?=some b->okB b=true:=by
    have hlt:s.data.toList.findIdx (fun b=>!okB b)<s.data.toList.length:=by
     rw[List.findIdx_lt_length]
     obtain⟨b,hb,hn⟩:∃ b∈s.data.toList,okB b=false:=by
      obtain⟨b,hb,hn⟩:=List.all_eq_false.1 (Bool.eq_false_iff.2 hall)
      exact⟨b,hb,by simpa using hn⟩
     exact⟨b,hb,by simp[hn]⟩
    refine⟨s.data.toList.findIdx (fun b=>!okB b),⟨_,List.getElem?_eq_getElem hlt,?_⟩,fun m b hm hb=>?_⟩
    ·have:=List.findIdx_getElem (w:=hlt);simpa using this
    ·have h1:=List.not_of_lt_findIdx hm
     rw[List.getElem?_eq_getElem (by omega)] at hb
     simp only[Option.some.injEq] at hb
     rw[hb] at h1
     simpa using h1
   obtain⟨b0,hb0,hn0⟩:=hk0
   have hk0l:=gTq hb0
   obtain⟨x',E1,h1,hl1,rfl,hE1,rfl⟩:=loop_inv (P:=Try.prog) (n:=23) (rd:=false) (b:=loopN Try.f70 0) (Q:=fun x' E1 h1=>x'=.ret/\EnvLe [(2,.bool false)] E1/\g=h1)
    (fun m E g'=>∃ k:Nat,k<=k0/\m=k0-k/\EnvLe [(9,iV k),(8,iV (Int.ofNat s.size)),(0,.string s)] E/\g=g')
    (fun m E g' ⟨k,k1,k2,k3,k4⟩=>by
     subst k4
     by_cases ek:k=k0
     ·right
      subst ek
      obtain⟨E2,q1,q2⟩:=(body k E (by omega) k3 b0 hb0).2 hn0
      exact⟨_,E2,_,by simp,q2,rfl,q1,rfl⟩
     ·left
      obtain⟨b,hb⟩:∃ b,s.data.toList[k]?=some b:=⟨_,List.getElem?_eq_getElem (by omega)⟩
      obtain⟨E2,q1,q2⟩:=(body k E (by omega) k3 b hb).1 (hmin k b (by omega) hb)
      exact⟨k0-(k+1),E2,_,by omega,q2,k+1,by omega,rfl,q1,rfl⟩)
    k0 [(9,iV ((0:Nat):Int)),(8,iV (Int.ofNat s.size)),(0,.string s)] g ⟨0,by omega,rfl,EnvLe.refl _,rfl⟩
   exact pvF 0 Try.func70 (r8p.tx_no s g) ⟨f0,a_loop pl (.add (.add (.add (.nil _) rfl) rfl) rfl) hE1 hl1,trivial⟩
 ·have e:textB s=false:=by simp[textB,hl]
  rw[e]
  exact pvF 0 Try.func70 (r8p.tx_long s g) ⟨by simp[Asm.holds,cmpB];omega,trivial⟩
end Go.Proofs.Ytahomnlkkafbjaa.tr
namespace Go.Proofs.Ytahomnlkkafbjaa.tr
open Go Go.Ev
theorem TAt.push{h:Hp}{ρ:Lay}{t:TS}(a:TAt h ρ t)(o:AObj):TAt (h++[o]) ρ t:=a.grow (Keep.push _ _ _)
theorem TAt.setN{h:Hp}{ρ:Lay}{t:TS}(a:TAt h ρ t){q:Nat}(n:¬ fpT ρ q)(o:AObj):TAt (h.set q o) ρ t:=a.keep (Keep.set (fp:=fun i=>i=q) rfl _) fun i e=>by rw[e];exact n
theorem TAt.out{h:Hp}{ρ:Lay}{t:TS}(a:TAt h ρ t){q:Nat}(n:h.length<=q):¬ fpT ρ q:=fun⟨r,e⟩=>by have:=a.lt e;omega
theorem Step.push(ρ:Lay)(h:Hp)(o:AObj):Step ρ h ρ (h++[o]):=Step.grow (Keep.push _ _ _)
theorem Step.pushset(ρ:Lay)(h:Hp)(o o':AObj):Step ρ h ρ ((h++[o]).set h.length o') :=
 ⟨(Keep.push _ h o).trans_new (Keep.set (fp:=fun i=>i=h.length) rfl _) fun q hq e=>by omega,fun _ e=>.inl e,rfl⟩
theorem Step.get{ρ ρ':Lay}{h h':Hp}(s:Step ρ h ρ' h'){q:Nat}{o:AObj}(hq:h[q]?=some o)(n:¬ fpT ρ q):h'[q]?=some o:=s.keep.2 q o hq n
theorem Step.out{ρ ρ':Lay}{h h':Hp}(s:Step ρ h ρ' h'){q:Nat}(hq:q<h.length)(n:¬ fpT ρ q):¬ fpT ρ' q:=fun e=>(s.new q e).elim n fun e=>by omega
theorem Step.len{ρ ρ':Lay}{h h':Hp}(s:Step ρ h ρ' h'):h.length<=h'.length:=s.keep.1
theorem a_againN{P:Program}{s:SH}{i n:Nat}{l:List Value}{t:TypeId}{rw:Bool}(ha:aggSize P t=some (some n))(h:s.den[i]?=some (.cells l rw))(hl:cut l 0 n=some l)(hr:veqR (.agg l.toArray)=true) :
  (Asm.again s t (.pointer (some ⟨i,0,none⟩)) (.agg l.toArray)).holds P :=
 ⟨by simp only[evLoad,cells_of h,ha,hl],veq_refl hr⟩
structure Ef where
 kind:Int
 n:Int
 m:Int
 fk:Int
 ft:ByteArray
def Ef.cells(e:Ef):List Value:=[iV e.kind,iV e.n,iV e.m,iV e.fk,.string e.ft]
def efC:List Ef->List Value
 | []=>[]
 | e::l=>e.cells++efC l
theorem efC_len:∀ l:List Ef,(efC l).length=l.length*5
 | []=>rfl
 | e::l=>by simp[efC,Ef.cells,efC_len l];omega
theorem efC_app:∀ l m:List Ef,efC (l++m)=efC l++efC m
 | [],_=>rfl
 | e::l,m=>by simp[efC,efC_app l m]
theorem efC_ones:∀ l:List Ef,(efC l).all Value.oneCell'=true
 | []=>rfl
 | e::l=>by simp only[efC,List.all_append,efC_ones l,Bool.and_true];rfl
def EfV(h:Hp)(lo:Nat)(ρ:Lay)(v:Value)(l:List Ef):Prop :=
 (l=[]/\v=.slice none 0 0)\/(l≠[]/\∃ o,v=.slice (some ⟨o,0,none⟩) l.length 5/\h[o]?=some (.cells (efC l) true)/\lo<=o/\¬ fpT ρ o)
def blameB(fk:Int)(x:Sc):Bool:=decide (fk=1)&&decide (x.fk=0)
def TS.blame(t:TS)(s:Nat)(fk:Int)(ft:ByteArray):TS×Bool:=match t.scs[s]? with
 | some x=>if blameB fk x then (t.upS s fun x=>{ x with fk:=fk,ft:=ft },true) else (t,false)
 | none=>(t,false)
theorem TOk.blame{t:TS}{c s:Nat}{fk:Int}{ft:ByteArray}(ok:TOk c t):TOk c (t.blame s fk ft).1:=by
 unfold TS.blame
 split
 ·split
  ·exact ok.upS fun x hx=>⟨rfl,fun j hj=>ok.mem s x j hx hj,ok.mlen s x hx,ok.live s x hx⟩
  ·exact ok
 ·exact ok
abbrev fltC(fk:Int)(ft:ByteArray):List Value:=[iV fk,.string ft]
section
variable {h:Hp} {ρ:Lay} {t:TS} {c r:Nat}
theorem blame_run(a:TAt h ρ t){s i:Nat}{x:Sc}(hx:t.scs[s]?=some x)(hi:ρ (.sc s)=some i)(fk:Int)(ft:ByteArray) :
  ∃ h',Run Try.prog 52 [ptr i,.agg #[iV fk,.string ft]] h (.bool (t.blame s fk ft).2) h'/\TAt h' ρ (t.blame s fk ft).1/\Step ρ h ρ h':=by
 have a1:=a.push (.cells (fltC fk ft) true)
 have s1:=Step.push ρ h (.cells (fltC fk ft) true)
 have L0:(Asm.ld1 (.push (.is h) (.cells (fltC fk ft) true)) h.length 0 (iV fk)).holds Try.prog:=aL (gW _ _) rfl
 by_cases c1:fk=1
 ·have L1:(Asm.ld1 (.push (.is h) (.cells (fltC fk ft) true)) i 6 (iV x.fk)).holds Try.prog:=a1.ld1 rfl hi (by rw[cSq hx];rfl)
  by_cases c2:x.fk=0
  ·have e:t.blame s fk ft=(t.upS s fun x=>{ x with fk:=fk,ft:=ft },true):=by simp[TS.blame,hx,blameB,c1,c2]
   rw[e]
   obtain⟨cs,w1,w2⟩:=a1.wSc (d:=6) (l:=fltC fk ft) (fun x=>{ x with fk:=fk,ft:=ft }) hi hx rfl rfl (by simp) rfl
   exact⟨_,pvF 0 Try.func52 (r2p.bl_ok i h.length fk x.fk ft cs h) ⟨rfl,L0,neF c1,L1,neF c2,aN (gW _ _) (by simp) rfl,w1 Try.prog _ rfl,trivial⟩,w2,s1.trans (Step.set hi _)⟩
  ·have e:t.blame s fk ft=(t,false):=by simp[TS.blame,hx,blameB,c1,c2]
   rw[e]
   exact⟨_,pvF 0 Try.func52 (r2p.bl_has i h.length fk x.fk ft [] h) ⟨rfl,L0,neF c1,L1,neT c2,trivial⟩,a1,s1⟩
 ·have e:t.blame s fk ft=(t,false):=by simp[TS.blame,hx,blameB,c1]
  rw[e]
  exact⟨_,pvF 0 Try.func52 (r2p.bl_kind i h.length fk 0 ft [] h) ⟨rfl,L0,neT c1,trivial⟩,a1,s1⟩
end
def finF(x:Tk)(y:Sc):Int×ByteArray:=if y.fk=0/\x.fk=2 then (x.fk,x.ft) else (y.fk,y.ft)
def TS.fin0(t:TS)(s k:Nat):TS:=(((t.upS s fun y=>{ y with ov:=true }).upT k fun x=>{ x with opn:=x.opn.dropLast }).upT k fun x=>{ x with lv:=false }).upT k fun x=>{ x with fk:=0,ft:=⟨#[]⟩ }
def finB(s:Nat)(x:Tk)(y:Sc):Bool:=x.lv&&decide (x.opn.getLast?=some (some s))&&decide (y.live<=0)
def TS.fin(t:TS)(s:Nat):TS×List Ef:=match t.scs[s]? with
 | none=>(t,[])
 | some y=>match t.tks[y.ow]? with
  | none=>(t,[])
  | some x=>if finB s x y then (t.fin0 s y.ow,[⟨3,((y.ow+1:Nat):Int),((s+1:Nat):Int),(finF x y).1,(finF x y).2⟩]) else (t,[])
theorem TOk.fin{t:TS}{c s:Nat}(ok:TOk c t):TOk c (t.fin s).1:=by
 unfold TS.fin
 split
 ·exact ok
 ·rename_i y hy
  split
  ·exact ok
  ·rename_i x hx
   split
   ·have g:∀ {t':TS} {f:Tk->Tk} (ok:TOk c t') (hf:∀ z,(f z).inn=z.inn/\(∀ s,some s∈(f z).opn->some s∈z.opn)/\(f z).opn.length<=z.opn.length),TOk c (t'.upT y.ow f):=fun ok' hf =>
     ok'.upT fun z hz=>⟨(hf z).1,fun s hs=>ok'.opn _ z s hz ((hf z).2.1 s hs),Nat.le_trans (hf z).2.2 (ok'.len _ z hz)⟩
    refine g (g (g ?_ fun z=>⟨rfl,fun s hs=>List.dropLast_subset _ hs,by simp⟩) fun z=>⟨rfl,fun _ h=>h,Nat.le_refl _⟩) fun z=>⟨rfl,fun _ h=>h,Nat.le_refl _⟩
    exact ok.upS fun z hz=>⟨rfl,fun j hj=>ok.mem s z j hz hj,ok.mlen s z hz,ok.live s z hz⟩
   ·exact ok
theorem stat53(k:Nat)(hk:k=0\/k=1):(Asm.stat (drawN Try.f53 k)).holds Try.prog:=by
 rcases hk with rfl | rfl
 ·exact show statOk (drawN Try.f53 0)=true by kernel_rfl
 ·exact show statOk (drawN Try.f53 1)=true by kernel_rfl
theorem und91:Try.prog.underlying 91=some (.pointer 95):=by kernel_rfl
theorem siz95:sizeO Try.prog 95=some 8:=by kernel_rfl
section
variable {h:Hp} {ρ:Lay} {t:TS} {c r:Nat}
theorem fin_run(a:TAt h ρ t)(ok:TOk c t)(hc:c<=1000000){s si:Nat}(hs:ρ (.sc s)=some si)(hsl:s<t.scs.length) :
  ∃ v h',Run Try.prog 53 [ptr si] h v h'/\TAt h' ρ (t.fin s).1/\Step ρ h ρ h'/\EfV h' h.length ρ v (t.fin s).2:=by
 obtain⟨y,hy⟩:∃ y,t.scs[s]?=some y:=⟨_,List.getElem?_eq_getElem hsl⟩
 have hk:=ok.ow s y hy
 obtain⟨x,hx⟩:∃ x,t.tks[y.ow]?=some x:=⟨_,List.getElem?_eq_getElem hk⟩
 obtain⟨i,hi⟩:=a.sh.tk _ hk
 have hlen:=ok.len _ x hx
 have I:=inner_run a ok hc hx hi
 have L1:(Asm.ld1 (.is h) si 1 (ptr i)).holds Try.prog:=a.ld1 rfl hs (by rw[cSq hy,scC,hi];rfl)
 have L3:(Asm.ld1 (.is h) i 3 (.bool x.lv)).holds Try.prog:=a.ld1 rfl hi (by rw[cT hx];rfl)
 have L5:(Asm.ld1 (.is h) si 5 (iV y.live)).holds Try.prog:=a.ld1 rfl hs (by rw[cSq hy];rfl)
 have no:finB s x y=false->t.fin s=(t,[]):=fun e=>by simp only[TS.fin,hy,hx,e,if_false,Bool.false_eq_true]
 have back:finB s x y=false->(∃ h',Run Try.prog 53 [ptr si] h (.slice none 0 0) h'/\h'=h)->∃ v h',Run Try.prog 53 [ptr si] h v h'/\TAt h' ρ (t.fin s).1/\Step ρ h ρ h'/\EfV h' h.length ρ v (t.fin s).2:=fun e ⟨h',q,q'⟩=>by
  subst q'
  rw[no e]
  exact⟨_,_,q,a,Step.refl _ _,.inl ⟨rfl,rfl⟩⟩
 cases hlv:x.lv with
 | false =>
  rw[hlv] at L3
  refine back (by simp[finB,hlv]) ⟨_,?_,rfl⟩
  cases hg:x.opn.getLast? with
  | none =>
   rw[hg] at I
   exact pvF 0 Try.func53 (r2p.fi_lv si 0 i 0 0 0 0 0 0 0 0 0 0 ⟨#[]⟩ ⟨#[]⟩ (.pointer none) false [] [] [] [] h) ⟨L1,I,L3,trivial⟩
  | some v =>
   rw[hg] at I
   exact pvF 0 Try.func53 (r2p.fi_lv si 0 i 0 0 0 0 0 0 0 0 0 0 ⟨#[]⟩ ⟨#[]⟩ (inP ρ v) true [] [] [] [] h) ⟨L1,I,L3,trivial⟩
 | true =>
  rw[hlv] at L3
  cases hg:x.opn.getLast? with
  | none =>
   rw[hg] at I
   refine back (by simp[finB,hg]) ⟨_,?_,rfl⟩
   exact pvF 0 Try.func53 (r2p.fi_no si 0 i 0 0 0 0 0 0 0 0 0 0 ⟨#[]⟩ ⟨#[]⟩ (.pointer none) false [] [] [] [] h) ⟨L1,I,L3,trivial⟩
  | some v =>
   rw[hg] at I
   cases v with
   | none =>
    refine back (by simp[finB,hg]) ⟨_,?_,rfl⟩
    exact pvF 0 Try.func53 (r2p.fi_shield si 0 i 0 0 0 0 0 0 0 0 0 0 ⟨#[]⟩ ⟨#[]⟩ (.pointer none) false [] [] [] [] h) ⟨L1,I,L3,trivial⟩
   | some s2 =>
    obtain⟨i2,hi2⟩:=a.sh.sc s2 (ok.opn _ x s2 hx (List.mem_of_getLast? hg))
    simp only[innV,inP,hi2,pvv] at I
    obtain⟨co1,ho1⟩:=a.own hs
    obtain⟨co2,ho2⟩:=a.own hi2
    by_cases c1:s2=s
    ·subst c1
     rw[hs] at hi2;cases hi2
     have pe:(Asm.peq (.is h) .neq 91 si 0 si 0 false).holds Try.prog:=⟨95,7,co1,co2,und91,siz95,ho1,ho2,.inr ⟨rfl,by simp⟩⟩
     by_cases c2:y.live<=0
     ·have e:t.fin s2=(t.fin0 s2 y.ow,[⟨3,((y.ow+1:Nat):Int),((s2+1:Nat):Int),(finF x y).1,(finF x y).2⟩]):=by
       simp only[TS.fin,hy,hx]
       rw[if_pos (by simp[finB,hlv,hg,c2])]
      rw[e]
      have hne:x.opn≠[]:=fun e=>by rw[e] at hg;cases hg
      have hl1:1<=x.opn.length:=by
       cases e:x.opn with
       | nil=>exact absurd e hne
       | cons y l=>simp
      obtain⟨oo,ho⟩:∃ oo,ρ (.op y.ow)=some oo:=by
       cases e:ρ (.op y.ow) with
       | none=>exact absurd (a.sh.op _ x hx e) hne
       | some oo=>exact⟨oo,rfl⟩
      obtain⟨b1,u1,u2⟩:=a.wSc (d:=3) (l:=[.bool true]) (fun y=>{ y with ov:=true }) hs hy rfl rfl (by simp) rfl
      have hx1:(t.upS s2 fun y=>{ y with ov:=true }).tks[y.ow]?=some x:=hx
      have Lo:(Asm.ld1 (.set (.is h) si (.cells b1 true)) i 2 (.slice (some ⟨oo,0,none⟩) x.opn.length 1)).holds Try.prog:=u2.ld1 rfl hi (by rw[cT hx1,tkC,ho];rfl)
      obtain⟨b2,v1,v2⟩:=u2.wTk (d:=2) (l:=[.slice (some ⟨oo,0,none⟩) (x.opn.length-1) 1]) (fun x=>{ x with opn:=x.opn.dropLast }) hi hx1 rfl ⟨[x.opn.getLast hne],(List.dropLast_concat_getLast hne).symm⟩ (by simp) (by
       simp only[tkC,ho,slv,List.length_dropLast]
       rfl)
      have hx2:=upT_at (f:=fun x=>{ x with opn:=x.opn.dropLast }) hx1
      obtain⟨b3,w1,w2⟩:=v2.wTk (d:=3) (l:=[.bool false]) (fun x=>{ x with lv:=false }) hi hx2 rfl ⟨[],by simp⟩ (by simp) rfl
      have hx3:=upT_at (f:=fun x=>{ x with lv:=false }) hx2
      have hy3:=upS_at (g:=fun y=>{ y with ov:=true }) hy
      have cs3:∀ tt:TS,tt.scs=(t.upS s2 fun y=>{ y with ov:=true }).scs->cont ρ tt (.sc s2)=scC ρ s2 { y with ov:=true }:=fun tt e=>cSq (by rw[e];exact hy3)
      obtain⟨g3,hg3⟩:∃ g3,g3=((h.set si (.cells b1 true)).set i (.cells b2 true)).set i (.cells b3 true):=⟨_,rfl⟩
      rw[<- hg3] at w2
      have S3:Step ρ h ρ g3:=by rw[hg3];exact ((Step.set hs _).trans (Step.set hi _)).trans (Step.set hi _)
      have La:(Asm.ldn (.set (.set (.set (.is h) si (.cells b1 true)) i (.cells b2 true)) i (.cells b3 true)) si 6 2 [iV y.fk,.string y.ft]).holds Try.prog:=w2.ldn (by rw[hg3];rfl) hs (by rw[cs3]<;>first | rfl | simp[scC]) (by rw[cs3]<;>rfl)
      have ln3:(Asm.len (.set (.set (.set (.is h) si (.cells b1 true)) i (.cells b2 true)) i (.cells b3 true)) g3.length).holds Try.prog:=by rw[hg3];rfl
      have gen:∀ (fk':Int) (ft':ByteArray) (g4:Hp),g4[g3.length]?=some (.cells (fltC fk' ft') true)->TAt g4 ρ ((((t.upS s2 fun y=>{ y with ov:=true }).upT y.ow fun x=>{ x with opn:=x.opn.dropLast }).upT y.ow fun x=>{ x with lv:=false }))->Step ρ h ρ g4 ->
        ∃ b4,(∀ (s:SH),s.den=g4->(Asm.st s i 5 [iV 0,.string ⟨#[]⟩] b4).holds Try.prog)/\(∀ (s:SH),s.den=g4.set i (.cells b4 true)->(Asm.ld1 s i 0 (iV ((y.ow+1:Nat):Int))).holds Try.prog/\(Asm.ld1 s si 0 (iV ((s2+1:Nat):Int))).holds Try.prog /\
         (Asm.ldn s g3.length 0 2 (fltC fk' ft')).holds Try.prog)/\TAt ((g4.set i (.cells b4 true))++[.cells (Ef.cells ⟨3,((y.ow+1:Nat):Int),((s2+1:Nat):Int),fk',ft'⟩) true]) ρ (t.fin0 s2 y.ow) /\
         Step ρ h ρ ((g4.set i (.cells b4 true))++[.cells (Ef.cells ⟨3,((y.ow+1:Nat):Int),((s2+1:Nat):Int),fk',ft'⟩) true]) /\
         EfV ((g4.set i (.cells b4 true))++[.cells (Ef.cells ⟨3,((y.ow+1:Nat):Int),((s2+1:Nat):Int),fk',ft'⟩) true]) h.length ρ (.slice (some ⟨(g4.set i (.cells b4 true)).length,0,none⟩) 1 5) [⟨3,((y.ow+1:Nat):Int),((s2+1:Nat):Int),fk',ft'⟩]:=fun fk' ft' g4 f1 f2 f3=>by
       obtain⟨b4,z1,z2⟩:=f2.wTk (d:=5) (l:=[iV 0,.string ⟨#[]⟩]) (fun x=>{ x with fk:=0,ft:=⟨#[]⟩ }) hi hx3 rfl ⟨[],by simp⟩ (by simp) rfl
       have hx4:=upT_at (f:=fun x=>{ x with fk:=0,ft:=⟨#[]⟩ }) hx3
       have S4:=f3.trans (Step.set hi (.cells b4 true))
       refine⟨b4,fun s e=>z1 _ s e,fun s e=>⟨z2.ld1 e hi (by rw[cT hx4];rfl),z2.ld1 e hs (by rw[cs3]<;>rfl),aN (rw:=true) (c:=fltC fk' ft') (by rw[e];exact gNq f1 fun e=>w2.out (Nat.le_refl _) ⟨_,by rw[<- e];exact hi⟩) (by simp) rfl⟩,z2.push _,S4.trans (Step.push _ _ _),.inr ⟨by simp,_,rfl,?_,S4.len,z2.out (Nat.le_refl _)⟩⟩
       have:=gW (g4.set i (.cells b4 true)) (.cells (Ef.cells ⟨3,((y.ow+1:Nat):Int),((s2+1:Nat):Int),fk',ft'⟩) true)
       rw[this]
       simp[efC]
      have A1:TAt ((g3++[AObj.cells [iV 0,.string ⟨#[]⟩] true]).set g3.length (AObj.cells (fltC y.fk y.ft) true)) ρ _:=(w2.push _).setN (w2.out (Nat.le_refl _)) _
      have G1:((g3++[AObj.cells [iV 0,.string ⟨#[]⟩] true]).set g3.length (AObj.cells (fltC y.fk y.ft) true))[g3.length]?=some (.cells (fltC y.fk y.ft) true):=gE (gW _ _)
      have stA:(Asm.st (.push (.set (.set (.set (.is h) si (.cells b1 true)) i (.cells b2 true)) i (.cells b3 true)) (.cells [iV 0,.string ⟨#[]⟩] true)) g3.length 0 (fltC y.fk y.ft) (fltC y.fk y.ft)).holds Try.prog:=a_st (c:=[iV 0,.string ⟨#[]⟩]) (by rw[hg3];exact gW _ _) (by simp) rfl
      have T1:Step ρ h ρ ((g3++[AObj.cells [iV 0,.string ⟨#[]⟩] true]).set g3.length (AObj.cells (fltC y.fk y.ft) true)):=S3.trans (Step.pushset _ _ _ _)
      have ldF:∀ (s:SH),s.den=((g3++[AObj.cells [iV 0,.string ⟨#[]⟩] true]).set g3.length (AObj.cells (fltC y.fk y.ft) true))->(Asm.ld1 s g3.length 0 (iV y.fk)).holds Try.prog:=fun s e=>aL (rw:=true) (c:=fltC y.fk y.ft) (by rw[e];exact G1) rfl
      have ldX:∀ (s:SH),s.den=((g3++[AObj.cells [iV 0,.string ⟨#[]⟩] true]).set g3.length (AObj.cells (fltC y.fk y.ft) true))->(Asm.ld1 s i 5 (iV x.fk)).holds Try.prog/\(Asm.ldn s i 5 2 (fltC x.fk x.ft)).holds Try.prog:=fun s e=>⟨A1.ld1 e hi (by rw[cT hx3];rfl),A1.ldn e hi (by rw[cT hx3];simp[tkC]) (by rw[cT hx3];rfl)⟩
      have sb:(Asm.arith .sub .i64 (Int.ofNat x.opn.length) 1 (Int.ofNat (x.opn.length-1))).holds Try.prog:=subI (by simp<;>omega) (by simp<;>omega) (by simp<;>omega)
      by_cases d1:y.fk=0
      ·by_cases d2:x.fk=2
       ·have ef:finF x y=(x.fk,x.ft):=by simp[finF,d1,d2]
        rw[ef]
        have A2:=A1.setN (w2.out (Nat.le_refl _)) (.cells (fltC x.fk x.ft) true)
        have G2:=gE (x:=.cells (fltC x.fk x.ft) true) G1
        have T2:Step ρ h ρ (((g3++[AObj.cells [iV 0,.string ⟨#[]⟩] true]).set g3.length (AObj.cells (fltC y.fk y.ft) true)).set g3.length (AObj.cells (fltC x.fk x.ft) true)):=by rw[List.set_set];exact S3.trans (Step.pushset _ _ _ _)
        obtain⟨b4,z1,z2,z3,z4,z5⟩:=gen x.fk x.ft _ G2 A2 T2
        have st2:∀ (s:SH),s.den=((g3++[AObj.cells [iV 0,.string ⟨#[]⟩] true]).set g3.length (AObj.cells (fltC y.fk y.ft) true))->(Asm.st s g3.length 0 (fltC x.fk x.ft) (fltC x.fk x.ft)).holds Try.prog:=fun s e=>a_st (c:=fltC y.fk y.ft) (by rw[e];exact G1) (by simp) rfl
        refine⟨_,_,?_,z3,z4,z5⟩
        obtain⟨z6,z7,z8⟩:=z2 (.set (.set (.set (.push (.set (.set (.set (.is h) si (.cells b1 true)) i (.cells b2 true)) i (.cells b3 true)) (.cells [iV 0,.string ⟨#[]⟩] true)) g3.length (.cells (fltC y.fk y.ft) true)) g3.length (.cells (fltC x.fk x.ft) true)) i (.cells b4 true)) (by rw[hg3];rfl)
        obtain⟨L7,L8⟩:=ldX (.set (.push (.set (.set (.set (.is h) si (.cells b1 true)) i (.cells b2 true)) i (.cells b3 true)) (.cells [iV 0,.string ⟨#[]⟩] true)) g3.length (.cells (fltC y.fk y.ft) true)) (by rw[hg3];rfl)
        have FF:=pvF 0 Try.func53 (r2p.fi_go2 si s2 i oo x.opn.length (x.opn.length-1) g3.length _ ((y.ow+1:Nat):Int) ((s2+1:Nat):Int) y.fk x.fk y.live y.ft x.ft (.pointer none) true b1 b2 b3 b4 h)
         ⟨L1,I,L3,pe,L5,gtF c2,u1 Try.prog _ rfl,stat53 0 (.inl rfl),Lo,Lo,sb,a_cut (by omega),v1 Try.prog _ rfl,w1 Try.prog _ rfl,La,ln3,stA,ldF _ (by rw[hg3];rfl),eqT d1,L7,eqT d2,L8,st2 _ (by rw[hg3];rfl),z1 _ (by rw[hg3];rfl),stat53 1 (.inr rfl),z6,z7,z8,rfl,trivial⟩
        subst hg3
        exact FF
       ·have ef:finF x y=(y.fk,y.ft):=by simp[finF,d1,d2]
        rw[ef]
        obtain⟨b4,z1,z2,z3,z4,z5⟩:=gen y.fk y.ft _ G1 A1 T1
        refine⟨_,_,?_,z3,z4,z5⟩
        obtain⟨z6,z7,z8⟩:=z2 (.set (.set (.push (.set (.set (.set (.is h) si (.cells b1 true)) i (.cells b2 true)) i (.cells b3 true)) (.cells [iV 0,.string ⟨#[]⟩] true)) g3.length (.cells (fltC y.fk y.ft) true)) i (.cells b4 true)) (by rw[hg3];rfl)
        obtain⟨L7,L8⟩:=ldX (.set (.push (.set (.set (.set (.is h) si (.cells b1 true)) i (.cells b2 true)) i (.cells b3 true)) (.cells [iV 0,.string ⟨#[]⟩] true)) g3.length (.cells (fltC y.fk y.ft) true)) (by rw[hg3];rfl)
        have FF:=pvF 0 Try.func53 (r2p.fi_go1 si s2 i oo x.opn.length (x.opn.length-1) g3.length _ ((y.ow+1:Nat):Int) ((s2+1:Nat):Int) y.fk x.fk y.live y.ft x.ft (.pointer none) true b1 b2 b3 b4 h)
         ⟨L1,I,L3,pe,L5,gtF c2,u1 Try.prog _ rfl,stat53 0 (.inl rfl),Lo,Lo,sb,a_cut (by omega),v1 Try.prog _ rfl,w1 Try.prog _ rfl,La,ln3,stA,ldF _ (by rw[hg3];rfl),eqT d1,L7,eqF d2,z1 _ (by rw[hg3];rfl),stat53 1 (.inr rfl),z6,z7,z8,rfl,trivial⟩
        subst hg3
        exact FF
      ·have ef:finF x y=(y.fk,y.ft):=by simp[finF,d1]
       rw[ef]
       obtain⟨b4,z1,z2,z3,z4,z5⟩:=gen y.fk y.ft _ G1 A1 T1
       refine⟨_,_,?_,z3,z4,z5⟩
       obtain⟨z6,z7,z8⟩:=z2 (.set (.set (.push (.set (.set (.set (.is h) si (.cells b1 true)) i (.cells b2 true)) i (.cells b3 true)) (.cells [iV 0,.string ⟨#[]⟩] true)) g3.length (.cells (fltC y.fk y.ft) true)) i (.cells b4 true)) (by rw[hg3];rfl)
       have FF:=pvF 0 Try.func53 (r2p.fi_go0 si s2 i oo x.opn.length (x.opn.length-1) g3.length _ ((y.ow+1:Nat):Int) ((s2+1:Nat):Int) y.fk x.fk y.live y.ft x.ft (.pointer none) true b1 b2 b3 b4 h)
        ⟨L1,I,L3,pe,L5,gtF c2,u1 Try.prog _ rfl,stat53 0 (.inl rfl),Lo,Lo,sb,a_cut (by omega),v1 Try.prog _ rfl,w1 Try.prog _ rfl,La,ln3,stA,ldF _ (by rw[hg3];rfl),eqF d1,z1 _ (by rw[hg3];rfl),stat53 1 (.inr rfl),z6,z7,z8,rfl,trivial⟩
       subst hg3
       exact FF
     ·refine back (by simp[finB,c2]) ⟨_,?_,rfl⟩
      exact pvF 0 Try.func53 (r2p.fi_live si 0 i 0 0 0 0 0 0 0 0 0 y.live ⟨#[]⟩ ⟨#[]⟩ (.pointer none) false [] [] [] [] h) ⟨L1,I,L3,pe,L5,gtT (by omega),trivial⟩
    ·have hne:i2≠si:=fun e=>c1 (by have:=a.inj _ _ _ hi2 (by rw[e];exact hs);cases this;rfl)
     have pe:(Asm.peq (.is h) .neq 91 i2 0 si 0 true).holds Try.prog:=⟨95,7,co2,co1,und91,siz95,ho2,ho1,.inr ⟨rfl,by simp[hne]⟩⟩
     refine back (by simp[finB,hg,c1]) ⟨_,?_,rfl⟩
     exact pvF 0 Try.func53 (r2p.fi_other si i2 i 0 0 0 0 0 0 0 0 0 0 ⟨#[]⟩ ⟨#[]⟩ (.pointer none) false [] [] [] [] h) ⟨L1,I,L3,pe,trivial⟩
end
end Go.Proofs.Ytahomnlkkafbjaa.tr
namespace Go.Proofs.Ytahomnlkkafbjaa.tr
open Go Go.Ev
theorem Step.setNew{ρ ρ':Lay}{h h':Hp}(S:Step ρ h ρ' h'){q:Nat}(hq:h.length<=q)(o:AObj):Step ρ h ρ' (h'.set q o) :=
 ⟨S.keep.trans_new (Keep.set (fp:=fun i=>i=q) rfl _) fun i hi e=>by omega,S.new,S.root⟩
theorem ef_appN{P:Program}{s:SH}{g:Hp}{w:Nat}{l:List Ef}{rw:Bool}(hs:s.den=g)(hw:g[w]?=some (.cells (efC l) rw))(hn:l≠[])(hb:l.length<=1000):(Asm.appNil s w 0 l.length (l.length-1) 5 48 (efC l) g.length).holds P:=by
 have:=efC_len l
 have:l.length≠0:=fun e=>hn (List.length_eq_zero_iff.1 e)
 rw[<- hs] at hw ⊢
 exact⟨by omega,⟨_,cells_of hw,by omega,by rw[List.drop_zero,List.take_of_length_le (by omega)]⟩,efC_ones l,by omega,by omega,rfl⟩
theorem ef_app{P:Program}{s:SH}{g:Hp}{y w:Nat}{l m:List Ef}{rw:Bool}(hs:s.den=g)(hy:g[y]?=some (.cells (efC l) true))(hw:g[w]?=some (.cells (efC m) rw))(hn:m≠[])(hb:m.length<=1000)(hl:l.length=1) :
  (Asm.app s y 0 1 w 0 m.length (m.length-1) 5 48 (efC (l++m)) (efC m) g.length).holds P:=by
 have:=efC_len m
 have:=efC_len l
 have:m.length≠0:=fun e=>hn (List.length_eq_zero_iff.1 e)
 rw[<- hs] at hw hy ⊢
 exact⟨by omega,⟨_,cells_of hw,by omega,by rw[List.drop_zero,List.take_of_length_le (by omega)]⟩,efC_ones m,by omega,by omega,⟨_,own_of hy,by omega,by rw[List.drop_zero,List.take_of_length_le (by omega),efC_app]⟩,rfl⟩
theorem fin_len(t:TS)(s:Nat):(t.fin s).2.length<=1:=by
 unfold TS.fin
 split
 ·simp
 ·split
  ·simp
  ·split<;>simp
theorem blame_tks{t:TS}{s:Nat}{fk:Int}{ft:ByteArray}:(t.blame s fk ft).1.tks=t.tks:=by
 unfold TS.blame
 split
 ·split<;>rfl
 ·rfl
theorem blame_get{t:TS}{s:Nat}{fk:Int}{ft:ByteArray}{y:Sc}(h:t.scs[s]?=some y):∃ y',(t.blame s fk ft).1.scs[s]?=some y'/\y'.live=y.live/\y'.ow=y.ow/\y'.su=y.su/\y'.ov=y.ov/\y'.tks=y.tks:=by
 unfold TS.blame
 rw[h]
 simp only
 split
 ·exact⟨_,upS_at h,rfl,rfl,rfl,rfl,rfl⟩
 ·exact⟨_,h,rfl,rfl,rfl,rfl,rfl⟩
theorem blame_len{t:TS}{s:Nat}{fk:Int}{ft:ByteArray}:(t.blame s fk ft).1.scs.length=t.scs.length:=by
 unfold TS.blame
 split
 ·split
  ·exact upS_len
  ·rfl
 ·rfl
def TS.fail(t:TS)(n:Int)(fk:Int)(ft:ByteArray):TS×List Ef×Int:=match t.scope n with
 | (none,e)=>(t,[],e)
 | (some s,_)=>match t.scs[s]? with
  | none=>(t,[],6)
  | some y=>if y.ov then (t,[],6) else if fk=1/\faultB fk ft=true then ((t.blame s fk ft).1,if (t.blame s fk ft).2 then [⟨1,n,0,0,⟨#[]⟩⟩] else [],0) else (t,[],2)
theorem TOk.fail{t:TS}{c:Nat}{n fk:Int}{ft:ByteArray}(ok:TOk c t):TOk (c+1) (t.fail n fk ft).1:=by
 have m:=ok.mono (Nat.le_succ c)
 unfold TS.fail
 split
 ·exact m
 ·split
  ·exact m
  ·split
   ·exact m
   ·split
    ·exact m.blame
    ·exact m
section
variable {h:Hp} {ρ:Lay} {t:TS} {c r:Nat}
theorem fail_run(a:TAt h ρ t)(ok:TOk c t)(hc:c<=100000)(hr:ρ .root=some r)(n fk:Int)(ft:ByteArray) :
  ∃ v h',Run Try.prog 32 [ptr r,iV n,.agg #[iV fk,.string ft]] h (.tuple #[v,iV (t.fail n fk ft).2.2]) h'/\TAt h' ρ (t.fail n fk ft).1/\Step ρ h ρ h'/\EfV h' h.length ρ v (t.fail n fk ft).2.1:=by
 have a1:=a.push (.cells (fltC fk ft) true)
 have s1:=Step.push ρ h (.cells (fltC fk ft) true)
 have R:=scope_run a1 ok hr n
 have nb:¬ fpT ρ h.length:=a.out (Nat.le_refl _)
 have gb:(h++[AObj.cells (fltC fk ft) true])[h.length]?=some (.cells (fltC fk ft) true):=gW _ _
 rcases hq:t.scope n with⟨k | k,e⟩
 ·have e6:=scope_none hq
  subst e6
  rw[hq] at R
  have e':t.fail n fk ft=(t,[],6):=by simp only[TS.fail,hq]
  rw[e']
  exact⟨_,_,pvF 0 Try.func32 (r2p.fl_err r 0 h.length 0 n 6 fk ft h (h++[AObj.cells (fltC fk ft) true]) h) ⟨rfl,R,neT (by omega),trivial⟩,a1,s1,.inl ⟨rfl,rfl⟩⟩
 ·obtain⟨rfl,hn,hk⟩:=scope_some hq
  obtain⟨y,hy⟩:∃ y,t.scs[k]?=some y:=⟨_,List.getElem?_eq_getElem hk⟩
  obtain⟨si,hs⟩:=a.sh.sc k hk
  rw[hq] at R
  simp only[inP,hs,pvv] at R
  have L3:(Asm.ld1 (.is (h++[AObj.cells (fltC fk ft) true])) si 3 (.bool y.ov)).holds Try.prog:=a1.ld1 rfl hs (by rw[cSq hy];rfl)
  have Lb:(Asm.ld1 (.is (h++[AObj.cells (fltC fk ft) true])) h.length 0 (iV fk)).holds Try.prog:=aL gb rfl
  cases ho:y.ov with
  | true =>
   rw[ho] at L3
   have e':t.fail n fk ft=(t,[],6):=by simp only[TS.fail,hq,hy,ho,if_true]
   rw[e']
   exact⟨_,_,pvF 0 Try.func32 (r2p.fl_over r si h.length 0 n 0 fk ft h (h++[AObj.cells (fltC fk ft) true]) h) ⟨rfl,R,neF rfl,L3,trivial⟩,a1,s1,.inl ⟨rfl,rfl⟩⟩
  | false =>
   rw[ho] at L3
   by_cases c1:fk=1
   ·have F:=fault_run text_run (h++[AObj.cells (fltC fk ft) true]) fk ft
    have a2:=a1.push (.cells (fltC fk ft) true)
    have s2:=s1.trans (Step.push ρ _ (.cells (fltC fk ft) true))
    have gb2:(h++[AObj.cells (fltC fk ft) true]++[AObj.cells (fltC fk ft) true])[h.length]?=some (.cells (fltC fk ft) true):=gP gb
    have Ln:∀ g,g[h.length]?=some (AObj.cells (fltC fk ft) true)->(Asm.ldn (.is g) h.length 0 2 (fltC fk ft)).holds Try.prog:=fun g e=>aN e (by simp) rfl
    cases hf:faultB fk ft with
    | false =>
     rw[hf] at F
     have e':t.fail n fk ft=(t,[],2):=by
      simp only[TS.fail,hq,hy,ho,hf,Bool.false_eq_true,if_false,and_false]
     rw[e']
     exact⟨_,_,pvF 0 Try.func32 (r2p.fl_bad r si h.length 0 n 0 fk ft h (h++[AObj.cells (fltC fk ft) true]) (h++[AObj.cells (fltC fk ft) true]++[AObj.cells (fltC fk ft) true])) ⟨rfl,R,neF rfl,L3,Lb,neF c1,Ln _ gb,F,trivial⟩,a2,s2,.inl ⟨rfl,rfl⟩⟩
    | true =>
     rw[hf] at F
     have e':t.fail n fk ft=((t.blame k fk ft).1,if (t.blame k fk ft).2 then [⟨1,n,0,0,⟨#[]⟩⟩] else [],0):=by
      simp only[TS.fail,hq,hy,ho,hf,Bool.false_eq_true,if_false]
      rw[if_pos ⟨c1,trivial⟩]
     rw[e']
     obtain⟨g4,b1,b2,b3⟩:=blame_run a2 hy hs fk ft
     cases hb:(t.blame k fk ft).2 with
     | false =>
      rw[hb] at b1
      exact⟨_,_,pvF 0 Try.func32 (r2p.fl_no r si h.length 0 n 0 fk ft h (h++[AObj.cells (fltC fk ft) true]) (h++[AObj.cells (fltC fk ft) true]++[AObj.cells (fltC fk ft) true]) g4) ⟨rfl,R,neF rfl,L3,Lb,neF c1,Ln _ gb,F,Ln _ gb2,b1,trivial⟩,b2,s2.trans b3,.inl ⟨rfl,rfl⟩⟩
     | true =>
      rw[hb] at b1
      refine⟨_,_,pvF 0 Try.func32 (r2p.fl_yes r si h.length g4.length n 0 fk ft h (h++[AObj.cells (fltC fk ft) true]) (h++[AObj.cells (fltC fk ft) true]++[AObj.cells (fltC fk ft) true]) g4) ⟨rfl,R,neF rfl,L3,Lb,neF c1,Ln _ gb,F,Ln _ gb2,b1,rfl,trivial⟩,b2.push _,(s2.trans b3).trans (Step.push _ _ _),.inr ⟨by simp,_,rfl,?_,(s2.trans b3).len,b2.out (Nat.le_refl _)⟩⟩
      exact gW _ _
   ·have e':t.fail n fk ft=(t,[],2):=by
     simp only[TS.fail,hq,hy,ho,c1,Bool.false_eq_true,if_false,false_and]
    rw[e']
    exact⟨_,_,pvF 0 Try.func32 (r2p.fl_kind r si h.length 0 n 0 fk ft h (h++[AObj.cells (fltC fk ft) true]) h) ⟨rfl,R,neF rfl,L3,Lb,neT c1,trivial⟩,a1,s1,.inl ⟨rfl,rfl⟩⟩
end
def TS.leave1(t:TS)(k s:Nat)(fk:Int)(ft:ByteArray):TS:=((t.blame s fk ft).1.upT k fun x=>{ x with lv:=true }).upT k fun x=>{ x with fk:=fk,ft:=ft }
def liveE(s:Nat)(fk:Int)(y:Sc):List Ef:=if fk≠0/\0<y.live then [⟨1,((s+1:Nat):Int),0,0,⟨#[]⟩⟩] else []
def TS.leave(t:TS)(n:Int)(fk:Int)(ft:ByteArray):TS×List Ef×Int:=match t.runs n with
 | (none,e)=>(t,[],e)
 | (some k,_)=>if faultB fk ft=false then (t,[],2) else match t.tks[k]? with
  | none=>(t,[],6)
  | some x=>match x.lv,x.opn.getLast? with
   | false,some (some s)=>match t.scs[s]? with
    | some y=>(((t.leave1 k s fk ft).fin s).1,liveE s fk y++((t.leave1 k s fk ft).fin s).2,0)
    | none=>(t,[],6)
   | _,_=>(t,[],22)
theorem TOk.setT{t:TS}{c k:Nat}{f:Tk->Tk}(ok:TOk c t)(h:∀ x,(f x).inn=x.inn)(h2:∀ x,(f x).opn=x.opn):TOk c (t.upT k f) :=
 ok.upT fun x hx=>⟨h x,fun s hs=>ok.opn k x s hx (by rw[<- h2 x];exact hs),by rw[h2 x];exact ok.len k x hx⟩
theorem TOk.leave1{t:TS}{c k s:Nat}{fk:Int}{ft:ByteArray}(ok:TOk c t):TOk c (t.leave1 k s fk ft) :=
 TOk.setT (f:=fun x=>{ x with fk:=fk,ft:=ft }) (TOk.setT (f:=fun x=>{ x with lv:=true }) ok.blame (fun _=>rfl) fun _=>rfl) (fun _=>rfl) fun _=>rfl
theorem TOk.leave{t:TS}{c:Nat}{n fk:Int}{ft:ByteArray}(ok:TOk c t):TOk (c+1) (t.leave n fk ft).1:=by
 have m:=ok.mono (Nat.le_succ c)
 unfold TS.leave
 split
 ·exact m
 ·split
  ·exact m
  ·split
   ·exact m
   ·split
    ·split
     ·exact m.leave1.fin
     ·exact m
    ·exact m
theorem agg30:aggSize Try.prog 30=some (some 2):=by kernel_rfl
theorem stat31:(Asm.stat (drawN Try.f31 0)).holds Try.prog:=show statOk (drawN Try.f31 0)=true by kernel_rfl
theorem stat30:(Asm.stat (drawN Try.f30 0)).holds Try.prog:=show statOk (drawN Try.f30 0)=true by kernel_rfl
section
variable {h:Hp} {ρ:Lay} {t:TS} {c r:Nat}
theorem tail0{g5 g:Hp}{v5:Value}{l5:List Ef}(a:TAt g5 ρ t)(S:Step ρ h ρ g5){lo:Nat}(hlo:h.length<=lo)(E:EfV g5 lo ρ v5 l5)(hb:l5.length<=1000) :
  (v5=.slice none 0 0/\EfV g5 h.length ρ (.slice none 0 0) l5) \/
  (∃ w,v5=.slice (some ⟨w,0,none⟩) l5.length 5/\(Asm.appNil (.is g5) w 0 l5.length (l5.length-1) 5 48 (efC l5) g5.length).holds Try.prog/\TAt (g5++[.cells (efC l5) true]) ρ t/\Step ρ h ρ (g5++[.cells (efC l5) true])/\EfV (g5++[.cells (efC l5) true]) h.length ρ (.slice (some ⟨g5.length,0,none⟩) l5.length 5) l5):=by
 rcases E with⟨rfl,rfl⟩ | ⟨hn,w,rfl,hw,h1,h2⟩
 ·exact .inl ⟨rfl,.inl ⟨rfl,rfl⟩⟩
 ·exact .inr ⟨w,rfl,ef_appN rfl hw hn hb,a.push _,S.trans (Step.push _ _ _),.inr ⟨hn,_,rfl,gW _ _,S.len,a.out (Nat.le_refl _)⟩⟩
theorem tail1{g5:Hp}{v5:Value}{l5:List Ef}{y lo:Nat}{e1:Ef}(a:TAt g5 ρ t)(S:Step ρ h ρ g5)(hy:g5[y]?=some (.cells (efC [e1]) true))(hyl:h.length<=y)(ny:¬ fpT ρ y)(E:EfV g5 lo ρ v5 l5)(hb:l5.length<=1000) :
  (v5=.slice none 0 0/\EfV g5 h.length ρ (.slice (some ⟨y,0,none⟩) 1 5) ([e1]++l5)) \/
  (∃ w,v5=.slice (some ⟨w,0,none⟩) l5.length 5/\(Asm.app (.is g5) y 0 1 w 0 l5.length (l5.length-1) 5 48 (efC ([e1]++l5)) (efC l5) g5.length).holds Try.prog/\TAt (g5.set y .dead++[.cells (efC ([e1]++l5)) true]) ρ t /\
   Step ρ h ρ (g5.set y .dead++[.cells (efC ([e1]++l5)) true])/\EfV (g5.set y .dead++[.cells (efC ([e1]++l5)) true]) h.length ρ (.slice (some ⟨g5.length,0,none⟩) (1+l5.length) 5) ([e1]++l5)):=by
 rcases E with⟨rfl,rfl⟩ | ⟨hn,w,rfl,hw,h1,h2⟩
 ·exact .inl ⟨rfl,.inr ⟨by simp,y,rfl,hy,hyl,ny⟩⟩
 ·refine .inr ⟨w,rfl,ef_app rfl hy hw hn hb rfl,(a.setN ny _).push _,(S.setNew hyl _).trans (Step.push _ _ _),.inr ⟨by simp,_,?_,gV _ (by simp),S.len,a.out (Nat.le_refl _)⟩⟩
  simp;omega
theorem leave_run(a:TAt h ρ t)(ok:TOk c t)(hc:c<=100000)(hr:ρ .root=some r)(n fk:Int)(ft:ByteArray) :
  ∃ v h',Run Try.prog 31 [ptr r,iV n,.agg #[iV fk,.string ft]] h (.tuple #[v,iV (t.leave n fk ft).2.2]) h'/\TAt h' ρ (t.leave n fk ft).1/\Step ρ h ρ h'/\EfV h' h.length ρ v (t.leave n fk ft).2.1:=by
 have a1:=a.push (.cells (fltC fk ft) true)
 have s1:=Step.push ρ h (.cells (fltC fk ft) true)
 have R:=runs_run a1 ok hr n
 have nb:¬ fpT ρ h.length:=a.out (Nat.le_refl _)
 have gb:(h++[AObj.cells (fltC fk ft) true])[h.length]?=some (.cells (fltC fk ft) true):=gW _ _
 have Ln:∀ (s:SH),s.den[h.length]?=some (AObj.cells (fltC fk ft) true)->(Asm.ldn s h.length 0 2 (fltC fk ft)).holds Try.prog:=fun g e=>aN e (by simp) rfl
 rcases hq:t.runs n with⟨k | k,e⟩
 ·have e6:=runs_none hq
  subst e6
  rw[hq] at R
  have e':t.leave n fk ft=(t,[],6):=by simp only[TS.leave,hq]
  rw[e']
  exact⟨_,_,pvF 0 Try.func31 (r2p.le_err r 0 0 h.length 0 0 n 6 fk 0 0 ft false (.bool true) [] [] [] 0 0 h (h++[AObj.cells (fltC fk ft) true]) h h h) ⟨rfl,R,neT (by omega),trivial⟩,a1,s1,.inl ⟨rfl,rfl⟩⟩
 ·obtain⟨rfl,hn,x,hx,he⟩:=runs_some hq
  obtain⟨i,hi⟩:=a.sh.tk k (gTq hx)
  rw[hq] at R
  simp only[tkP,hi,pvv] at R
  have F:=fault_run text_run (h++[AObj.cells (fltC fk ft) true]) fk ft
  have a2:=a1.push (.cells (fltC fk ft) true)
  have s2:=s1.trans (Step.push ρ _ (.cells (fltC fk ft) true))
  have gb2:(h++[AObj.cells (fltC fk ft) true]++[AObj.cells (fltC fk ft) true])[h.length]?=some (.cells (fltC fk ft) true):=gP gb
  obtain⟨g3,hg3⟩:∃ g3,g3=h++[AObj.cells (fltC fk ft) true]++[AObj.cells (fltC fk ft) true]:=⟨_,rfl⟩
  rw[<- hg3] at F a2 s2 gb2
  cases hf:faultB fk ft with
  | false =>
   rw[hf] at F
   have e':t.leave n fk ft=(t,[],2):=by simp only[TS.leave,hq,hf,if_true]
   rw[e']
   exact⟨_,_,pvF 0 Try.func31 (r2p.le_bad r i 0 h.length 0 0 n 0 fk 0 0 ft false (.bool true) [] [] [] 0 0 h (h++[AObj.cells (fltC fk ft) true]) g3 h h) ⟨rfl,R,neF rfl,Ln _ gb,F,trivial⟩,a2,s2,.inl ⟨rfl,rfl⟩⟩
  | true =>
   rw[hf] at F
   have I:=inner_run a2 ok (by omega) hx hi
   have L3:(Asm.ld1 (.is g3) i 3 (.bool x.lv)).holds Try.prog:=a2.ld1 rfl hi (by rw[cT hx];rfl)
   cases hlv:x.lv with
   | true =>
    have e':t.leave n fk ft=(t,[],22):=by simp only[TS.leave,hq,hf,hx,hlv,Bool.true_eq_false,if_false]
    rw[e']
    rw[hlv] at L3
    refine⟨_,_,?_,a2,s2,.inl ⟨rfl,rfl⟩⟩
    cases hg:x.opn.getLast? with
    | none =>
     rw[hg] at I
     exact pvF 0 Try.func31 (r2p.le_lv r i 0 h.length 0 0 n 0 fk 0 0 ft false (.bool true) [] [] [] 0 0 h (h++[AObj.cells (fltC fk ft) true]) g3 h h (.pointer none) false) ⟨rfl,R,neF rfl,Ln _ gb,F,I,L3,trivial⟩
    | some v =>
     rw[hg] at I
     exact pvF 0 Try.func31 (r2p.le_lv r i 0 h.length 0 0 n 0 fk 0 0 ft false (.bool true) [] [] [] 0 0 h (h++[AObj.cells (fltC fk ft) true]) g3 h h (inP ρ v) true) ⟨rfl,R,neF rfl,Ln _ gb,F,I,L3,trivial⟩
   | false =>
    rw[hlv] at L3
    cases hg:x.opn.getLast? with
    | none =>
     rw[hg] at I
     have e':t.leave n fk ft=(t,[],22):=by simp only[TS.leave,hq,hf,hx,hlv,hg,Bool.true_eq_false,if_false]
     rw[e']
     exact⟨_,_,pvF 0 Try.func31 (r2p.le_none r i 0 h.length 0 0 n 0 fk 0 0 ft false (.bool true) [] [] [] 0 0 h (h++[AObj.cells (fltC fk ft) true]) g3 h h (.pointer none)) ⟨rfl,R,neF rfl,Ln _ gb,F,I,L3,trivial⟩,a2,s2,.inl ⟨rfl,rfl⟩⟩
    | some v =>
     rw[hg] at I
     cases v with
     | none =>
      have e':t.leave n fk ft=(t,[],22):=by simp only[TS.leave,hq,hf,hx,hlv,hg,Bool.true_eq_false,if_false]
      rw[e']
      exact⟨_,_,pvF 0 Try.func31 (r2p.le_shield r i 0 h.length 0 0 n 0 fk 0 0 ft false (.bool true) [] [] [] 0 0 h (h++[AObj.cells (fltC fk ft) true]) g3 h h) ⟨rfl,R,neF rfl,Ln _ gb,F,I,L3,trivial⟩,a2,s2,.inl ⟨rfl,rfl⟩⟩
     | some s =>
      have hsl:=ok.opn k x s hx (List.mem_of_getLast? hg)
      obtain⟨y,hy⟩:∃ y,t.scs[s]?=some y:=⟨_,List.getElem?_eq_getElem hsl⟩
      obtain⟨si,hs⟩:=a.sh.sc s hsl
      simp only[innV,inP,hs,pvv] at I
      have e':t.leave n fk ft=(((t.leave1 k s fk ft).fin s).1,liveE s fk y++((t.leave1 k s fk ft).fin s).2,0):=by simp only[TS.leave,hq,hf,hx,hlv,hg,hy,Bool.true_eq_false,if_false]
      rw[e']
      obtain⟨g4,b1,b2,b3⟩:=blame_run a2 hy hs fk ft
      obtain⟨y',hy',hl',_⟩:=blame_get (fk:=fk) (ft:=ft) hy
      have hx1:(t.blame s fk ft).1.tks[k]?=some x:=by rw[blame_tks];exact hx
      have S4:=s2.trans b3
      have gb4:=b3.get gb2 nb
      have ok1:=ok.leave1 (k:=k) (s:=s) (fk:=fk) (ft:=ft)
      have lvl:(t.leave1 k s fk ft).scs.length=t.scs.length:=blame_len
      have gen:∀ (g:Hp),TAt g ρ (t.blame s fk ft).1->Step ρ h ρ g->g[h.length]?=some (.cells (fltC fk ft) true) ->
        ∃ c1 c2 v5 g5,(∀ (s:SH),s.den=g->(Asm.st s i 3 [.bool true] c1).holds Try.prog/\(Asm.again s 30 (ptr h.length) (.agg #[iV fk,.string ft])).holds Try.prog/\(Asm.ldn s h.length 0 2 (fltC fk ft)).holds Try.prog)/\(∀ (s:SH),s.den=g.set i (.cells c1 true)->(Asm.st s i 5 (fltC fk ft) c2).holds Try.prog/\(Asm.again s 30 (ptr h.length) (.agg #[iV fk,.string ft])).holds Try.prog) /\
         Run Try.prog 53 [ptr si] ((g.set i (.cells c1 true)).set i (.cells c2 true)) v5 g5/\TAt g5 ρ ((t.leave1 k s fk ft).fin s).1/\Step ρ g ρ g5/\EfV g5 g.length ρ v5 ((t.leave1 k s fk ft).fin s).2:=fun g f1 f2 f3=>by
       obtain⟨c1,u1,u2⟩:=f1.wTk (d:=3) (l:=[.bool true]) (fun x=>{ x with lv:=true }) hi hx1 rfl ⟨[],by simp⟩ (by simp) rfl
       have hx2:=upT_at (f:=fun x=>{ x with lv:=true }) hx1
       obtain⟨c2,w1,w2⟩:=u2.wTk (d:=5) (l:=fltC fk ft) (fun x=>{ x with fk:=fk,ft:=ft }) hi hx2 rfl ⟨[],by simp⟩ (by simp) rfl
       obtain⟨v5,g5,q1,q2,q3,q4⟩:=fin_run w2 ok1 (by omega) hs (by show _<(t.leave1 k s fk ft).scs.length;rw[lvl];exact hsl)
       have ne:i≠h.length:=fun e=>nb ⟨_,by rw[<- e];exact hi⟩
       refine⟨c1,c2,v5,g5,fun s e=>⟨u1 _ s e,a_againN agg30 (by rw[e];exact f3) rfl rfl,Ln _ (by rw[e];exact f3)⟩,fun s e=>⟨w1 _ s e,a_againN agg30 (by rw[e];exact gNq f3 ne) rfl rfl⟩,q1,q2,((Step.set hi _).trans (Step.set hi _)).trans q3,?_⟩
       rwa [sN,sN] at q4
      have hfl:=fin_len (t.leave1 k s fk ft) s
      have Lk:(Asm.ld1 (.is g4) h.length 0 (iV fk)).holds Try.prog:=aL gb4 rfl
      have Ll:(Asm.ld1 (.is g4) si 5 (iV y.live)).holds Try.prog:=b2.ld1 rfl hs (by rw[cSq hy',<- hl'];rfl)
      by_cases c0:fk=0
      ·have el:liveE s fk y=[]:=by simp[liveE,c0]
       rw[el,List.nil_append]
       obtain⟨c1,c2,v5,g5,k1,k2,k3,k4,k5,k6⟩:=gen g4 b2 S4 gb4
       obtain⟨k11,k12,k13⟩:=k1 (.is g4) rfl
       obtain⟨k21,k22⟩:=k2 (.set (.is g4) i (.cells c1 true)) rfl
       rcases tail0 (g:=g5) k4 (S4.trans k5) S4.len k6 (by omega) with⟨rfl,z⟩ | ⟨w,rfl,z1,z2,z3,z4⟩
       ·exact⟨_,_,pvF 0 Try.func31 (r2p.le_zn r i si h.length 0 0 n 0 fk 0 0 ft _ (.bool true) c1 c2 [] 0 0 h (h++[AObj.cells (fltC fk ft) true]) g3 g4 g5) ⟨rfl,R,neF rfl,Ln _ gb,F,I,L3,Ln _ gb2,b1,Lk,neF c0,stat31,k12,k12,k22,k13,k11,k21,k3,trivial⟩,k4,S4.trans k5,z⟩
       ·exact⟨_,_,pvF 0 Try.func31 (r2p.le_zs r i si h.length 0 0 n 0 fk 0 0 ft _ (.bool true) c1 c2 [] _ g5.length h (h++[AObj.cells (fltC fk ft) true]) g3 g4 g5 w _ [] _) ⟨rfl,R,neF rfl,Ln _ gb,F,I,L3,Ln _ gb2,b1,Lk,neF c0,stat31,k12,k12,k22,k13,k11,k21,k3,z1,trivial⟩,z2,z3,z4⟩
      ·by_cases cl:0<y.live
       ·have el:liveE s fk y=[⟨1,((s+1:Nat):Int),0,0,⟨#[]⟩⟩]:=by simp[liveE,c0,cl]
        rw[el]
        obtain⟨g6,hg6⟩:∃ g6,g6=g4++[AObj.cells [iV 1,iV ((s+1:Nat):Int),iV 0,iV 0,.string ⟨#[]⟩] true]++[.cells (efC [⟨1,((s+1:Nat):Int),0,0,⟨#[]⟩⟩]) true]:=⟨_,rfl⟩
        have a6:TAt g6 ρ (t.blame s fk ft).1:=by rw[hg6];exact (b2.push _).push _
        have S46:Step ρ g4 ρ g6:=by rw[hg6];exact (Step.push _ _ _).trans (Step.push _ _ _)
        have gy:g6[g4.length+1]?=some (.cells (efC [⟨1,((s+1:Nat):Int),0,0,⟨#[]⟩⟩]) true):=by rw[hg6];exact gV _ (by simp)
        have ny:¬ fpT ρ (g4.length+1):=b2.out (by omega)
        obtain⟨c1,c2,v5,g5,k1,k2,k3,k4,k5,k6⟩:=gen g6 a6 (S4.trans S46) (S46.get gb4 nb)
        obtain⟨k11,k12,k13⟩:=k1 (.push (.push (.is g4) (.cells [iV 1,iV ((s+1:Nat):Int),iV 0,iV 0,.string ⟨#[]⟩] true)) (.cells (efC [⟨1,((s+1:Nat):Int),0,0,⟨#[]⟩⟩]) true)) (by rw[hg6];rfl)
        obtain⟨k21,k22⟩:=k2 (.set (.push (.push (.is g4) (.cells [iV 1,iV ((s+1:Nat):Int),iV 0,iV 0,.string ⟨#[]⟩] true)) (.cells (efC [⟨1,((s+1:Nat):Int),0,0,⟨#[]⟩⟩]) true)) i (.cells c1 true)) (by rw[hg6];rfl)
        have Ls:(Asm.ld1 (.is g4) si 0 (iV ((s+1:Nat):Int))).holds Try.prog:=b2.ld1 rfl hs (by rw[cSq hy'];rfl)
        have An:(Asm.appNil (.push (.is g4) (.cells [iV 1,iV ((s+1:Nat):Int),iV 0,iV 0,.string ⟨#[]⟩] true)) g4.length 0 1 0 5 48 (efC [⟨1,((s+1:Nat):Int),0,0,⟨#[]⟩⟩]) (g4.length+1)).holds Try.prog:=by
         have:=ef_appN (P:=Try.prog) (s:=.push (.is g4) (.cells [iV 1,iV ((s+1:Nat):Int),iV 0,iV 0,.string ⟨#[]⟩] true)) (g:=g4++[AObj.cells [iV 1,iV ((s+1:Nat):Int),iV 0,iV 0,.string ⟨#[]⟩] true]) (l:=[⟨1,((s+1:Nat):Int),0,0,⟨#[]⟩⟩]) rfl (gW _ _) (by simp) (by simp)
         rw[pL] at this
         exact this
        rw[hg6] at k3
        rcases tail1 (h:=h) k4 ((S4.trans S46).trans k5) (k5.get gy ny) (by have:=S4.len;omega) ny k6 (by omega) with⟨rfl,z⟩ | ⟨w,rfl,z1,z2,z3,z4⟩
        ·exact⟨_,_,pvF 0 Try.func31 (r2p.le_en r i si h.length g4.length (g4.length+1) n 0 fk y.live ((s+1:Nat):Int) ft _ (.bool true) c1 c2 _ 0 0 h (h++[AObj.cells (fltC fk ft) true]) g3 g4 g5) ⟨rfl,R,neF rfl,Ln _ gb,F,I,L3,Ln _ gb2,b1,Lk,neT c0,Ll,gtT cl,Ls,rfl,An,stat31,k12,k12,k22,k13,k11,k21,k3,trivial⟩,k4,(S4.trans S46).trans k5,z⟩
        ·exact⟨_,_,pvF 0 Try.func31 (r2p.le_es r i si h.length g4.length (g4.length+1) n 0 fk y.live ((s+1:Nat):Int) ft _ (.bool true) c1 c2 _ _ g5.length h (h++[AObj.cells (fltC fk ft) true]) g3 g4 g5 w _ _ _) ⟨rfl,R,neF rfl,Ln _ gb,F,I,L3,Ln _ gb2,b1,Lk,neT c0,Ll,gtT cl,Ls,rfl,An,stat31,k12,k12,k22,k13,k11,k21,k3,z1,trivial⟩,z2,z3,z4⟩
       ·have el:liveE s fk y=[]:=by simp[liveE,cl]
        rw[el,List.nil_append]
        obtain⟨c1,c2,v5,g5,k1,k2,k3,k4,k5,k6⟩:=gen g4 b2 S4 gb4
        obtain⟨k11,k12,k13⟩:=k1 (.is g4) rfl
        obtain⟨k21,k22⟩:=k2 (.set (.is g4) i (.cells c1 true)) rfl
        rcases tail0 (g:=g5) k4 (S4.trans k5) S4.len k6 (by omega) with⟨rfl,z⟩ | ⟨w,rfl,z1,z2,z3,z4⟩
        ·exact⟨_,_,pvF 0 Try.func31 (r2p.le_nn r i si h.length 0 0 n 0 fk y.live 0 ft _ (.bool true) c1 c2 [] 0 0 h (h++[AObj.cells (fltC fk ft) true]) g3 g4 g5) ⟨rfl,R,neF rfl,Ln _ gb,F,I,L3,Ln _ gb2,b1,Lk,neT c0,Ll,gtF (by omega),stat31,k12,k12,k22,k13,k11,k21,k3,trivial⟩,k4,S4.trans k5,z⟩
        ·exact⟨_,_,pvF 0 Try.func31 (r2p.le_ns r i si h.length 0 0 n 0 fk y.live 0 ft _ (.bool true) c1 c2 [] _ g5.length h (h++[AObj.cells (fltC fk ft) true]) g3 g4 g5 w _ [] _) ⟨rfl,R,neF rfl,Ln _ gb,F,I,L3,Ln _ gb2,b1,Lk,neT c0,Ll,gtF (by omega),stat31,k12,k12,k22,k13,k11,k21,k3,z1,trivial⟩,z2,z3,z4⟩
end
end Go.Proofs.Ytahomnlkkafbjaa.tr
namespace Go.Proofs.Ytahomnlkkafbjaa.tr
open Go Go.Ev
def TS.end1(t:TS)(k:Nat)(fk:Int)(ft:ByteArray):TS:=(t.upT k fun x=>{ x with en:=true }).upT k fun x=>{ x with fk:=fk,ft:=ft }
def TS.end2(t:TS)(k s:Nat)(fk:Int)(ft:ByteArray):TS:=(t.end1 k fk ft).upS s fun y=>{ y with live:=y.live-1 }
def TS.end3(t:TS)(k s:Nat)(y:Sc)(fk:Int)(ft:ByteArray):TS×Bool:=if y.su then (t.end2 k s fk ft,false) else (t.end2 k s fk ft).blame s fk ft
def saidE(s:Nat)(b:Bool):List Ef:=if b then [⟨1,((s+1:Nat):Int),0,0,⟨#[]⟩⟩] else []
def TS.end(t:TS)(n:Int)(fk:Int)(ft:ByteArray):TS×List Ef×Int:=match t.runs n with
 | (none,e)=>(t,[],e)
 | (some k,_)=>if faultB fk ft=false then (t,[],2) else match t.tks[k]? with
  | none=>(t,[],6)
  | some x=>if x.opn≠[] then (t,[],22) else match x.inn with
   | none=>(t.end1 k fk ft,[],0)
   | some s=>match t.scs[s]? with
    | none=>(t,[],6)
    | some y=>(((t.end3 k s y fk ft).1.fin s).1,saidE s (t.end3 k s y fk ft).2++((t.end3 k s y fk ft).1.fin s).2,0)
theorem TOk.end1{t:TS}{c k:Nat}{fk:Int}{ft:ByteArray}(ok:TOk c t):TOk c (t.end1 k fk ft) :=
 TOk.setT (f:=fun x=>{ x with fk:=fk,ft:=ft }) (TOk.setT (f:=fun x=>{ x with en:=true }) ok (fun _=>rfl) fun _=>rfl) (fun _=>rfl) fun _=>rfl
theorem TOk.end2{t:TS}{c k s:Nat}{fk:Int}{ft:ByteArray}(ok:TOk c t):TOk (c+1) (t.end2 k s fk ft):=by
 have m:=(ok.end1 (k:=k) (fk:=fk) (ft:=ft)).mono (Nat.le_succ c)
 refine m.upS fun y hy=>?_
 have h1:=(ok.end1 (k:=k) (fk:=fk) (ft:=ft)).live s y hy
 exact⟨rfl,fun j hj=>m.mem s y j hy hj,m.mlen s y hy,by simp only;omega,by simp only;omega⟩
theorem TOk.end3{t:TS}{c k s:Nat}{y:Sc}{fk:Int}{ft:ByteArray}(ok:TOk c t):TOk (c+1) (t.end3 k s y fk ft).1:=by
 unfold TS.end3
 split
 ·exact ok.end2
 ·exact ok.end2.blame
theorem TOk.end{t:TS}{c:Nat}{n fk:Int}{ft:ByteArray}(ok:TOk c t):TOk (c+1) (t.end n fk ft).1:=by
 have m:=ok.mono (Nat.le_succ c)
 unfold TS.end
 split
 ·exact m
 ·split
  ·exact m
  ·split
   ·exact m
   ·split
    ·exact m
    ·split
     ·exact m.end1
     ·split
      ·exact m
      ·exact ok.end3.fin
section
variable {h:Hp} {ρ:Lay} {t:TS} {c r:Nat}
theorem end_run(a:TAt h ρ t)(ok:TOk c t)(hc:c<=100000)(hr:ρ .root=some r)(n fk:Int)(ft:ByteArray) :
  ∃ v h',Run Try.prog 30 [ptr r,iV n,.agg #[iV fk,.string ft]] h (.tuple #[v,iV (t.end n fk ft).2.2]) h'/\TAt h' ρ (t.end n fk ft).1/\Step ρ h ρ h'/\EfV h' h.length ρ v (t.end n fk ft).2.1:=by
 have a1:=a.push (AObj.cells (fltC fk ft) true)
 have s1:=Step.push ρ h (AObj.cells (fltC fk ft) true)
 have R:=runs_run a1 ok hr n
 have nb:¬ fpT ρ h.length:=a.out (Nat.le_refl _)
 have gb:(h++[AObj.cells (fltC fk ft) true])[h.length]?=some (.cells (fltC fk ft) true):=gW _ _
 have Ln:∀ (s:SH),s.den[h.length]?=some (AObj.cells (fltC fk ft) true)->(Asm.ldn s h.length 0 2 (fltC fk ft)).holds Try.prog:=fun g e=>aN e (by simp) rfl
 rcases hq:t.runs n with⟨k | k,e⟩
 ·have e6:=runs_none hq
  subst e6
  rw[hq] at R
  have e':t.end n fk ft=(t,[],6):=by simp only[TS.end,hq]
  rw[e']
  exact⟨_,_,pvF 0 Try.func30 (r2p.en_err r 0 0 h.length 0 0 n 6 fk 0 0 ft false (.bool true) [] [] [] 0 0 h (h++[AObj.cells (fltC fk ft) true]) h h h) ⟨rfl,R,neT (by omega),trivial⟩,a1,s1,.inl ⟨rfl,rfl⟩⟩
 ·obtain⟨rfl,hn,x,hx,he⟩:=runs_some hq
  obtain⟨i,hi⟩:=a.sh.tk k (gTq hx)
  rw[hq] at R
  simp only[tkP,hi,pvv] at R
  have F:=fault_run text_run (h++[AObj.cells (fltC fk ft) true]) fk ft
  have a2:=a1.push (AObj.cells (fltC fk ft) true)
  have s2:=s1.trans (Step.push ρ _ (AObj.cells (fltC fk ft) true))
  have gb2:(h++[AObj.cells (fltC fk ft) true]++[AObj.cells (fltC fk ft) true])[h.length]?=some (.cells (fltC fk ft) true):=gP gb
  obtain⟨g3,hg3⟩:∃ g3,g3=h++[AObj.cells (fltC fk ft) true]++[AObj.cells (fltC fk ft) true]:=⟨_,rfl⟩
  rw[<- hg3] at F a2 s2 gb2
  cases hf:faultB fk ft with
  | false =>
   rw[hf] at F
   have e':t.end n fk ft=(t,[],2):=by simp only[TS.end,hq,hf,if_true]
   rw[e']
   exact⟨_,_,pvF 0 Try.func30 (r2p.en_bad r i 0 h.length 0 0 n 0 fk 0 0 ft false (.bool true) [] [] [] 0 0 h (h++[AObj.cells (fltC fk ft) true]) g3 h h) ⟨rfl,R,neF rfl,Ln _ gb,F,trivial⟩,a2,s2,.inl ⟨rfl,rfl⟩⟩
  | true =>
   rw[hf] at F
   have hlen:=ok.len k x hx
   have Lo:(Asm.ld1 (.is g3) i 2 (slv (ρ (.op k)) x.opn.length)).holds Try.prog:=a2.ld1 rfl hi (by rw[cT hx];rfl)
   by_cases ho:x.opn=[]
   ·have hl0:x.opn.length=0:=by rw[ho];rfl
    obtain⟨c1,u1,u2⟩:=a2.wTk (d:=4) (l:=[.bool true]) (fun x=>{ x with en:=true }) hi hx rfl ⟨[],by simp⟩ (by simp) rfl
    have hx2:=upT_at (f:=fun x=>{ x with en:=true }) hx
    obtain⟨c2,w1,w2⟩:=u2.wTk (d:=5) (l:=fltC fk ft) (fun x=>{ x with fk:=fk,ft:=ft }) hi hx2 rfl ⟨[],by simp⟩ (by simp) rfl
    have hx3:=upT_at (f:=fun x=>{ x with fk:=fk,ft:=ft }) hx2
    have ne:i≠h.length:=fun e=>nb ⟨_,by rw[<- e];exact hi⟩
    obtain⟨g,hg⟩:∃ g,g=(g3.set i (.cells c1 true)).set i (.cells c2 true):=⟨_,rfl⟩
    have U1:(Asm.st (.is g3) i 4 [.bool true] c1).holds Try.prog:=u1 _ _ rfl
    have W1:(Asm.st (.set (.is g3) i (.cells c1 true)) i 5 (fltC fk ft) c2).holds Try.prog:=w1 _ _ rfl
    have k12:(Asm.again (.is g3) 30 (ptr h.length) (.agg #[iV fk,.string ft])).holds Try.prog:=a_againN agg30 gb2 rfl rfl
    have k22:(Asm.again (.set (.is g3) i (.cells c1 true)) 30 (ptr h.length) (.agg #[iV fk,.string ft])).holds Try.prog:=a_againN agg30 (gNq gb2 ne) rfl rfl
    have k13:(Asm.ldn (.is g3) h.length 0 2 (fltC fk ft)).holds Try.prog:=Ln _ gb2
    have S5:Step ρ h ρ ((g3.set i (.cells c1 true)).set i (.cells c2 true)):=(s2.trans (Step.set hi _)).trans (Step.set hi _)
    have Li:(Asm.ld1 (.set (.set (.is g3) i (.cells c1 true)) i (.cells c2 true)) i 1 (inP ρ x.inn)).holds Try.prog:=w2.ld1 rfl hi (by rw[cT hx3];rfl)
    have gb5:((g3.set i (.cells c1 true)).set i (.cells c2 true))[h.length]?=some (.cells (fltC fk ft) true):=gNq (gNq gb2 ne) ne
    have hnil:ρ (.op k)=none->slv (ρ (.op k)) x.opn.length=.slice none 0 0:=fun e=>by rw[e];rfl
    cases hin:x.inn with
    | none =>
     have e':t.end n fk ft=(t.end1 k fk ft,[],0):=by simp only[TS.end,hq,hf,hx,ho,hin,Bool.true_eq_false,if_false,ne_eq,not_true_eq_false]
     rw[e']
     rw[hin] at Li
     refine⟨_,_,?_,w2,S5,.inl ⟨rfl,rfl⟩⟩
     cases hop:ρ (.op k) with
     | none =>
      rw[hop] at Lo
      exact pvF 0 Try.func30 (r2p.en_rootn r i 0 h.length 0 0 n 0 fk 0 0 ft false (.bool true) c1 c2 [] 0 0 h (h++[AObj.cells (fltC fk ft) true]) g3 h h 0 0) ⟨rfl,R,neF rfl,Ln _ gb,F,Lo,gtF (by omega),stat30,k12,k12,k22,k13,U1,W1,Li,trivial⟩
     | some oo =>
      rw[hop,hl0] at Lo
      exact pvF 0 Try.func30 (r2p.en_roots r i 0 h.length 0 0 n 0 fk 0 0 ft false (.bool true) c1 c2 [] 0 0 h (h++[AObj.cells (fltC fk ft) true]) g3 h h oo 0) ⟨rfl,R,neF rfl,Ln _ gb,F,Lo,gtF (by simp),stat30,k12,k12,k22,k13,U1,W1,Li,trivial⟩
    | some s =>
     have hsl:=ok.inn k x s hx hin
     obtain⟨y,hy⟩:∃ y,t.scs[s]?=some y:=⟨_,List.getElem?_eq_getElem hsl⟩
     obtain⟨si,hs⟩:=a.sh.sc s hsl
     have hlv:=ok.live s y hy
     rw[hin] at Li
     simp only[inP,hs,pvv] at Li
     have e':t.end n fk ft=(((t.end3 k s y fk ft).1.fin s).1,saidE s (t.end3 k s y fk ft).2++((t.end3 k s y fk ft).1.fin s).2,0):=by simp only[TS.end,hq,hf,hx,ho,hin,hy,Bool.true_eq_false,if_false,ne_eq,not_true_eq_false]
     rw[e']
     have hy1:(t.end1 k fk ft).scs[s]?=some y:=hy
     obtain⟨c3,v1,v2⟩:=TAt.wSc (t:=t.end1 k fk ft) w2 (d:=5) (l:=[iV (y.live-1)]) (fun y=>{ y with live:=y.live-1 }) hs hy1 rfl rfl (by simp) rfl
     have hy2:(t.end2 k s fk ft).scs[s]?=some { y with live:=y.live-1 }:=upS_at (g:=fun y=>{ y with live:=y.live-1 }) hy1
     have v2':TAt (((g3.set i (.cells c1 true)).set i (.cells c2 true)).set si (.cells c3 true)) ρ (t.end2 k s fk ft):=v2
     have S6:Step ρ h ρ (((g3.set i (.cells c1 true)).set i (.cells c2 true)).set si (.cells c3 true)):=S5.trans (Step.set hs _)
     have nes:si≠h.length:=fun e=>nb ⟨_,by rw[<- e];exact hs⟩
     have gb6:(((g3.set i (.cells c1 true)).set i (.cells c2 true)).set si (.cells c3 true))[h.length]?=some (.cells (fltC fk ft) true):=gNq gb5 nes
     have Ll:(Asm.ld1 (.set (.set (.is g3) i (.cells c1 true)) i (.cells c2 true)) si 5 (iV y.live)).holds Try.prog:=TAt.ld1 (t:=t.end1 k fk ft) w2 rfl hs (by rw[cSq (x:=y) hy1];rfl)
     have Ar:(Asm.arith .sub .i64 y.live 1 (y.live-1)).holds Try.prog:=subI rfl (by omega) (by omega)
     have V1:(Asm.st (.set (.set (.is g3) i (.cells c1 true)) i (.cells c2 true)) si 5 [iV (y.live-1)] c3).holds Try.prog:=v1 _ _ rfl
     have Lu:(Asm.ld1 (.set (.set (.set (.is g3) i (.cells c1 true)) i (.cells c2 true)) si (.cells c3 true)) si 2 (.bool y.su)).holds Try.prog:=v2'.ld1 rfl hs (by rw[cSq hy2];rfl)
     have Lf:(Asm.ldn (.set (.set (.set (.is g3) i (.cells c1 true)) i (.cells c2 true)) si (.cells c3 true)) h.length 0 2 (fltC fk ft)).holds Try.prog:=Ln _ gb6
     have hfl:=fin_len (t.end3 k s y fk ft).1 s
     have ok3:=ok.end3 (k:=k) (s:=s) (y:=y) (fk:=fk) (ft:=ft)
     cases hsu:y.su with
     | true =>
      rw[hsu] at Lu
      have e3:t.end3 k s y fk ft=(t.end2 k s fk ft,false):=by simp[TS.end3,hsu]
      rw[e3] at ok3 hfl ⊢
      obtain⟨v5,g5,q1,q2,q3,q4⟩:=fin_run v2' ok3 (by omega) hs (gTq hy2)
      rw[show saidE s false=[] from rfl,List.nil_append]
      rcases tail0 (g:=g5) q2 (S6.trans q3) S6.len q4 (by simp only at hfl;omega) with⟨rfl,z⟩ | ⟨w,rfl,z1,z2,z3,z4⟩
      ·refine⟨_,_,?_,q2,S6.trans q3,z⟩
       cases hop:ρ (.op k) with
       | none =>
        rw[hop] at Lo
        exact pvF 0 Try.func30 (r2p.en_nun r i si h.length 0 0 n 0 fk y.live 0 ft false (.bool true) c1 c2 [] 0 0 h (h++[AObj.cells (fltC fk ft) true]) g3 h g5 0 0 (y.live-1) c3) ⟨rfl,R,neF rfl,Ln _ gb,F,Lo,gtF (by omega),stat30,k12,k12,k22,k13,U1,W1,Li,Ll,Ar,V1,Lu,q1,trivial⟩
       | some oo =>
        rw[hop,hl0] at Lo
        exact pvF 0 Try.func30 (r2p.en_sun r i si h.length 0 0 n 0 fk y.live 0 ft false (.bool true) c1 c2 [] 0 0 h (h++[AObj.cells (fltC fk ft) true]) g3 h g5 oo 0 (y.live-1) c3) ⟨rfl,R,neF rfl,Ln _ gb,F,Lo,gtF (by simp),stat30,k12,k12,k22,k13,U1,W1,Li,Ll,Ar,V1,Lu,q1,trivial⟩
      ·refine⟨_,_,?_,z2,z3,z4⟩
       cases hop:ρ (.op k) with
       | none =>
        rw[hop] at Lo
        exact pvF 0 Try.func30 (r2p.en_nus r i si h.length 0 0 n 0 fk y.live 0 ft false (.bool true) c1 c2 [] _ g5.length h (h++[AObj.cells (fltC fk ft) true]) g3 h g5 0 0 (y.live-1) c3 w _ [] _) ⟨rfl,R,neF rfl,Ln _ gb,F,Lo,gtF (by omega),stat30,k12,k12,k22,k13,U1,W1,Li,Ll,Ar,V1,Lu,q1,z1,trivial⟩
       | some oo =>
        rw[hop,hl0] at Lo
        exact pvF 0 Try.func30 (r2p.en_sus r i si h.length 0 0 n 0 fk y.live 0 ft false (.bool true) c1 c2 [] _ g5.length h (h++[AObj.cells (fltC fk ft) true]) g3 h g5 oo 0 (y.live-1) c3 w _ [] _) ⟨rfl,R,neF rfl,Ln _ gb,F,Lo,gtF (by simp),stat30,k12,k12,k22,k13,U1,W1,Li,Ll,Ar,V1,Lu,q1,z1,trivial⟩
     | false =>
      rw[hsu] at Lu
      have e3:t.end3 k s y fk ft=(t.end2 k s fk ft).blame s fk ft:=by simp[TS.end3,hsu]
      rw[e3] at ok3 hfl ⊢
      obtain⟨g4,b1,b2,b3⟩:=blame_run v2' hy2 hs fk ft
      obtain⟨y',hy',_⟩:=blame_get (fk:=fk) (ft:=ft) hy2
      have S7:=S6.trans b3
      cases hb:((t.end2 k s fk ft).blame s fk ft).2 with
      | false =>
       rw[hb] at b1
       obtain⟨v5,g5,q1,q2,q3,q4⟩:=fin_run b2 ok3 (by omega) hs (gTq hy')
       rw[show saidE s false=[] from rfl,List.nil_append]
       rcases tail0 (g:=g5) q2 (S7.trans q3) S7.len q4 (by omega) with⟨rfl,z⟩ | ⟨w,rfl,z1,z2,z3,z4⟩
       ·refine⟨_,_,?_,q2,S7.trans q3,z⟩
        cases hop:ρ (.op k) with
        | none =>
         rw[hop] at Lo
         exact pvF 0 Try.func30 (r2p.en_nkn r i si h.length 0 0 n 0 fk y.live 0 ft false (.bool true) c1 c2 [] 0 0 h (h++[AObj.cells (fltC fk ft) true]) g3 g4 g5 0 0 (y.live-1) c3) ⟨rfl,R,neF rfl,Ln _ gb,F,Lo,gtF (by omega),stat30,k12,k12,k22,k13,U1,W1,Li,Ll,Ar,V1,Lu,Lf,b1,q1,trivial⟩
        | some oo =>
         rw[hop,hl0] at Lo
         exact pvF 0 Try.func30 (r2p.en_skn r i si h.length 0 0 n 0 fk y.live 0 ft false (.bool true) c1 c2 [] 0 0 h (h++[AObj.cells (fltC fk ft) true]) g3 g4 g5 oo 0 (y.live-1) c3) ⟨rfl,R,neF rfl,Ln _ gb,F,Lo,gtF (by simp),stat30,k12,k12,k22,k13,U1,W1,Li,Ll,Ar,V1,Lu,Lf,b1,q1,trivial⟩
       ·refine⟨_,_,?_,z2,z3,z4⟩
        cases hop:ρ (.op k) with
        | none =>
         rw[hop] at Lo
         exact pvF 0 Try.func30 (r2p.en_nks r i si h.length 0 0 n 0 fk y.live 0 ft false (.bool true) c1 c2 [] _ g5.length h (h++[AObj.cells (fltC fk ft) true]) g3 g4 g5 0 0 (y.live-1) c3 w _ [] _) ⟨rfl,R,neF rfl,Ln _ gb,F,Lo,gtF (by omega),stat30,k12,k12,k22,k13,U1,W1,Li,Ll,Ar,V1,Lu,Lf,b1,q1,z1,trivial⟩
        | some oo =>
         rw[hop,hl0] at Lo
         exact pvF 0 Try.func30 (r2p.en_sks r i si h.length 0 0 n 0 fk y.live 0 ft false (.bool true) c1 c2 [] _ g5.length h (h++[AObj.cells (fltC fk ft) true]) g3 g4 g5 oo 0 (y.live-1) c3 w _ [] _) ⟨rfl,R,neF rfl,Ln _ gb,F,Lo,gtF (by simp),stat30,k12,k12,k22,k13,U1,W1,Li,Ll,Ar,V1,Lu,Lf,b1,q1,z1,trivial⟩
      | true =>
       rw[hb] at b1
       rw[show saidE s true=[⟨1,((s+1:Nat):Int),0,0,⟨#[]⟩⟩] from rfl]
       have Ls:(Asm.ld1 (.is g4) si 0 (iV ((s+1:Nat):Int))).holds Try.prog:=b2.ld1 rfl hs (by rw[cSq hy'];rfl)
       have An:(Asm.appNil (.push (.is g4) (.cells [iV 1,iV ((s+1:Nat):Int),iV 0,iV 0,.string ⟨#[]⟩] true)) g4.length 0 1 0 5 48 (efC [⟨1,((s+1:Nat):Int),0,0,⟨#[]⟩⟩]) (g4.length+1)).holds Try.prog:=by
        have:=ef_appN (P:=Try.prog) (s:=.push (.is g4) (.cells [iV 1,iV ((s+1:Nat):Int),iV 0,iV 0,.string ⟨#[]⟩] true)) (g:=g4++[AObj.cells [iV 1,iV ((s+1:Nat):Int),iV 0,iV 0,.string ⟨#[]⟩] true]) (l:=[⟨1,((s+1:Nat):Int),0,0,⟨#[]⟩⟩]) rfl (gW _ _) (by simp) (by simp)
        rw[pL] at this
        exact this
       obtain⟨g6,hg6⟩:∃ g6,g6=g4++[AObj.cells [iV 1,iV ((s+1:Nat):Int),iV 0,iV 0,.string ⟨#[]⟩] true]++[.cells (efC [⟨1,((s+1:Nat):Int),0,0,⟨#[]⟩⟩]) true]:=⟨_,rfl⟩
       have a6:TAt g6 ρ ((t.end2 k s fk ft).blame s fk ft).1:=by rw[hg6];exact (b2.push _).push _
       have S46:Step ρ g4 ρ g6:=by rw[hg6];exact (Step.push _ _ _).trans (Step.push _ _ _)
       have gy:g6[g4.length+1]?=some (.cells (efC [⟨1,((s+1:Nat):Int),0,0,⟨#[]⟩⟩]) true):=by rw[hg6];exact gV _ (by simp)
       have ny:¬ fpT ρ (g4.length+1):=b2.out (by omega)
       obtain⟨v5,g5,q1,q2,q3,q4⟩:=fin_run a6 ok3 (by omega) hs (gTq hy')
       rw[hg6] at q1
       rcases tail1 (h:=h) q2 ((S7.trans S46).trans q3) (q3.get gy ny) (by have:=S7.len;omega) ny q4 (by omega) with⟨rfl,z⟩ | ⟨w,rfl,z1,z2,z3,z4⟩
       ·refine⟨_,_,?_,q2,(S7.trans S46).trans q3,z⟩
        cases hop:ρ (.op k) with
        | none =>
         rw[hop] at Lo
         exact pvF 0 Try.func30 (r2p.en_nbn r i si h.length g4.length (g4.length+1) n 0 fk y.live ((s+1:Nat):Int) ft false (.bool true) c1 c2 _ 0 0 h (h++[AObj.cells (fltC fk ft) true]) g3 g4 g5 0 0 (y.live-1) c3) ⟨rfl,R,neF rfl,Ln _ gb,F,Lo,gtF (by omega),stat30,k12,k12,k22,k13,U1,W1,Li,Ll,Ar,V1,Lu,Lf,b1,Ls,rfl,An,q1,trivial⟩
        | some oo =>
         rw[hop,hl0] at Lo
         exact pvF 0 Try.func30 (r2p.en_sbn r i si h.length g4.length (g4.length+1) n 0 fk y.live ((s+1:Nat):Int) ft false (.bool true) c1 c2 _ 0 0 h (h++[AObj.cells (fltC fk ft) true]) g3 g4 g5 oo 0 (y.live-1) c3) ⟨rfl,R,neF rfl,Ln _ gb,F,Lo,gtF (by simp),stat30,k12,k12,k22,k13,U1,W1,Li,Ll,Ar,V1,Lu,Lf,b1,Ls,rfl,An,q1,trivial⟩
       ·refine⟨_,_,?_,z2,z3,z4⟩
        cases hop:ρ (.op k) with
        | none =>
         rw[hop] at Lo
         exact pvF 0 Try.func30 (r2p.en_nbs r i si h.length g4.length (g4.length+1) n 0 fk y.live ((s+1:Nat):Int) ft false (.bool true) c1 c2 _ _ g5.length h (h++[AObj.cells (fltC fk ft) true]) g3 g4 g5 0 0 (y.live-1) c3 w _ _ _) ⟨rfl,R,neF rfl,Ln _ gb,F,Lo,gtF (by omega),stat30,k12,k12,k22,k13,U1,W1,Li,Ll,Ar,V1,Lu,Lf,b1,Ls,rfl,An,q1,z1,trivial⟩
        | some oo =>
         rw[hop,hl0] at Lo
         exact pvF 0 Try.func30 (r2p.en_sbs r i si h.length g4.length (g4.length+1) n 0 fk y.live ((s+1:Nat):Int) ft false (.bool true) c1 c2 _ _ g5.length h (h++[AObj.cells (fltC fk ft) true]) g3 g4 g5 oo 0 (y.live-1) c3 w _ _ _) ⟨rfl,R,neF rfl,Ln _ gb,F,Lo,gtF (by simp),stat30,k12,k12,k22,k13,U1,W1,Li,Ll,Ar,V1,Lu,Lf,b1,Ls,rfl,An,q1,z1,trivial⟩
   ·have hl1:0<x.opn.length:=List.length_pos_iff.2 ho
    have e':t.end n fk ft=(t,[],22):=by simp only[TS.end,hq,hf,hx,ho,Bool.true_eq_false,if_false,ne_eq,not_false_eq_true,if_true]
    rw[e']
    obtain⟨oo,hop⟩:∃ oo,ρ (.op k)=some oo:=by
     cases e:ρ (.op k) with
     | none=>exact absurd (a.sh.op k x hx e) ho
     | some oo=>exact⟨oo,rfl⟩
    rw[hop] at Lo
    exact⟨_,_,pvF 0 Try.func30 (r2p.en_open r i 0 h.length 0 0 n 0 fk 0 0 ft false (.bool true) [] [] [] 0 0 h (h++[AObj.cells (fltC fk ft) true]) g3 h h oo x.opn.length) ⟨rfl,R,neF rfl,Ln _ gb,F,Lo,gtT (by simp;omega),trivial⟩,a2,s2,.inl ⟨rfl,rfl⟩⟩
end
end Go.Proofs.Ytahomnlkkafbjaa.tr
namespace Go.Proofs.Ytahomnlkkafbjaa.tr
open Go Go.Ev
theorem body67:Try.f67.body=some (.seq (partC Try.f67 [0]) (.block 0 (.loop (loopN Try.f67 0)))):=by kernel_rfl
theorem backward_run{bb L:Nat}{vals:List Value}{sl:Value}(hn:vals.length<=1000000)(I:Nat->Hp->Prop)(Q:Hp->Prop)
  (hbox:∀ k g,I k g->g[bb]?=some (.cells [sl] true))
  (hsl:(vals=[]/\sl=.slice none 0 0)\/∃ o,sl=.slice (some ⟨o,0,none⟩) vals.length 1/\∀ (k:Nat) (g:Hp) (j:Nat) (v:Value),I k g->vals[j]?=some v->∃ (c:List Value) (rw:Bool),g[o]?=some (.cells c rw)/\c[j]?=some v)
  (step:∀ (k:Nat) v g,vals[k]?=some v->I (k+1) g->(∃ g',RunR Try.prog L [iV k,v] g (.bool true) g'/\I k g')\/(∃ g',RunR Try.prog L [iV k,v] g (.bool false) g'/\Q g'))
  {g0:Hp} (h0:I vals.length g0):∃ g',Run Try.prog 67 [.func (.yield L) #[] #[],ptr bb] g0 (.tuple #[]) g'/\(I 0 g'\/Q g'):=by
 have loop:∀ (k:Nat) (E:Env) (g:Hp),k<=vals.length->EnvLe [(3,iV ((k:Int)-1)),(1,ptr bb),(0,.func (.yield L) #[] #[])] E->I k g ->
   ∃ x E1 g',LRun Try.prog 19 false (loopN Try.f67 0) E g x E1 g'/\((x=.exit 0/\I 0 g')\/(x=.ret/\Q g')):=by
  intro k
  induction k with
  | zero =>
   intro E g hk hE hi
   obtain⟨E2,q1,q2⟩:=pvC 0 hE (r12p.bk_end bb L (((0:Nat):Int)-1) g) ⟨geF (by omega),trivial⟩
   exact⟨_,E2,g,.last q2 (by simp),.inl ⟨rfl,hi⟩⟩
  | succ k ih =>
   intro E g hk hE hi
   rw[show ((k+1:Nat):Int)-1=(k:Int) by omega] at hE
   obtain⟨v,hv⟩:∃ v,vals[k]?=some v:=⟨_,List.getElem?_eq_getElem (by omega)⟩
   rcases hsl with⟨e,_⟩ | ⟨o,e,hc⟩
   ·rw[e] at hk;simp at hk
   ·have hb:=hbox _ _ hi
    rw[e] at hb
    obtain⟨c,rw',g1,g2⟩:=hc _ _ _ _ hi hv
    rcases step k v g hv hi with⟨g',r1,r2⟩ | ⟨g',r1,r2⟩
    ·obtain⟨E2,q1,q2⟩:=pvK 0 hE (r12p.bk_go bb o vals.length L k k ((k:Int)-1) v g g') ⟨geT (by omega),aL hb rfl,offI rfl (by omega) (by omega),aL g1 g2,r1,subI rfl (by omega) (by omega),trivial⟩
     obtain⟨x,E3,g3,q3,q4⟩:=ih E2 g' (by omega) ((((EnvLe.nil _).add rfl).add rfl |>.add rfl).trans q1) r2
     exact⟨x,E3,g3,.step q2 q3,q4⟩
    ·obtain⟨E2,q1,q2⟩:=pvK 0 hE (r12p.bk_stop bb o vals.length L k k 0 v g g') ⟨geT (by omega),aL hb rfl,offI rfl (by omega) (by omega),aL g1 g2,r1,trivial⟩
     exact⟨_,E2,g',.last q2 (by simp),.inr ⟨rfl,r2⟩⟩
 have hr0:∃ E1,EnvLe [(3,iV ((vals.length:Int)-1)),(1,ptr bb),(0,.func (.yield L) #[] #[])] E1/\CRun Try.prog 19 false (partC Try.f67 [0]) (enterE 0 [.func (.yield L) #[] #[],ptr bb]) g0 .normal E1 g0:=by
  have hb:=hbox _ _ h0
  rcases hsl with⟨e1,e2⟩ | ⟨o,e,_⟩
  ·rw[e2] at hb
   obtain⟨E1,e1',c1⟩:=pvC 0 (EnvLe.refl _) (r12p.bk_r0 bb L 0 none 0 ((vals.length:Int)-1) g0) ⟨aL hb rfl,subI (by rw[e1];rfl) (by omega) (by omega),trivial⟩
   exact⟨E1,.trans (.add (.add (.add (.nil _) rfl) rfl) rfl) e1',c1⟩
  ·rw[e] at hb
   obtain⟨E1,e1',c1⟩:=pvC 0 (EnvLe.refl _) (r12p.bk_r0 bb L vals.length (some ⟨o,0,none⟩) 1 ((vals.length:Int)-1) g0) ⟨aL hb rfl,subI rfl (by omega) (by omega),trivial⟩
   exact⟨E1,.trans (.add (.add (.add (.nil _) rfl) rfl) rfl) e1',c1⟩
 obtain⟨E1,e1,c1⟩:=hr0
 obtain⟨x,E2,g',hl,hq⟩:=loop vals.length E1 g0 (Nat.le_refl _) e1 h0
 rcases hq with⟨rfl,hi⟩ | ⟨rfl,hq⟩
 ·exact⟨g',Run.code Try.func67 body67 (.inl rfl) (c1.seq (CRun.block 0 (.of_loop hl))) rfl,.inl hi⟩
 ·exact⟨g',Run.code Try.func67 body67 (.inr rfl) (c1.seq (CRun.blockR 0 (.of_loop hl))) rfl,.inr hq⟩
def inmost:List (Option Nat)->Option Nat
 | []=>none
 | v::l=>match inmost l with
  | some s=>some s
  | none=>v
theorem inmost_none:∀ {l:List (Option Nat)},(∀ v,v∈l->v=none)->inmost l=none
 | [],_=>rfl
 | v::l,h=>by
  rw[inmost,inmost_none fun w hw=>h w (List.mem_cons_of_mem _ hw)]
  exact h v (List.mem_cons_self)
theorem inmost_at:∀ {l:List (Option Nat)} {k s:Nat},l[k]?=some (some s)->(∀ (j:Nat) v,k+1<=j->l[j]?=some v->v=none)->inmost l=some s
 | [],k,s,h,_=>by simp at h
 | v::l,0,s,h,hn=>by
  simp at h
  subst h
  rw[inmost,inmost_none fun w hw=>?_]
  obtain⟨j,hj⟩:=List.getElem?_of_mem hw
  exact hn (j+1) w (by omega) (by simpa using hj)
 | v::l,k+1,s,h,hn=>by
  rw[inmost,inmost_at (l:=l) (k:=k) (s:=s) (by simpa using h) fun j w hj hw=>hn (j+1) w (by omega) (by simpa using hw)]
theorem inmost_mem:∀ {l:List (Option Nat)} {s:Nat},inmost l=some s->some s∈l
 | [],s,h=>by cases h
 | v::l,s,h=>by
  rw[inmost] at h
  cases e:inmost l with
  | none=>rw[e] at h;simp only at h;rw[h];exact List.mem_cons_self
  | some u=>rw[e] at h;simp only at h;cases h;exact List.mem_cons_of_mem _ (inmost_mem e)
def TS.spawn(t:TS)(n:Int):TS×Int×Int:=match t.acts n with
 | (none,e)=>(t,0,e)
 | (some k,_)=>match t.tks[k]? with
  | none=>(t,0,6)
  | some x=>match inmost x.opn with
   | none=>(t,0,22)
   | some s=>if 64<=t.tks.length then (t,0,5) else (t.add (some s),((t.tks.length+1:Nat):Int),0)
theorem TOk.spawn{t:TS}{c:Nat}{n:Int}(ok:TOk c t):TOk (c+1) (t.spawn n).1:=by
 have m:=ok.mono (Nat.le_succ c)
 unfold TS.spawn
 split
 ·exact m
 ·split
  ·exact m
  ·rename_i x hx
   split
   ·exact m
   ·rename_i s hs
    split
    ·exact m
    ·exact ok.add (inn:=some s) (by omega) fun s' e=>by cases e;exact ok.opn _ x s hx (inmost_mem hs)
noncomputable def AS22:Code:=partC Try.f22 [1,1,1,0,1,0,0]
noncomputable def BD22:Code:=partC Try.f22 [1,1,1,0,1,0,1]
theorem body22:Try.f22.body=some (chainT [partC Try.f22 [0],partC Try.f22 [1,0],partC Try.f22 [1,1,0]] (.seq (.seq (partC Try.f22 [1,1,1,0,0]) (.block 0 (.rangeFunc (.tmp 23) #[24,25] AS22 BD22))) (partC Try.f22 [1,1,1,1]))):=by kernel_rfl
theorem agg3:aggSize Try.prog 3=some none:=by kernel_rfl
theorem agg24:aggSize Try.prog 24=some none:=by kernel_rfl
section
variable {h:Hp} {ρ:Lay} {t:TS} {c r:Nat}
theorem spawn_run(a:TAt h ρ t)(ok:TOk c t)(hc:c<=100000)(hr:ρ .root=some r)(n:Int) :
  ∃ ρ' h',Run Try.prog 22 [ptr r,iV n] h (.tuple #[iV (t.spawn n).2.1,iV (t.spawn n).2.2]) h'/\TAt h' ρ' (t.spawn n).1/\Step ρ h ρ' h':=by
 obtain⟨g3,hg3⟩:∃ g3,g3=h++[AObj.cells [ptr r] true]++[AObj.cells [iV 0] true]++[AObj.cells [iV 0] true]:=⟨_,rfl⟩
 have a3:TAt g3 ρ t:=by rw[hg3];exact ((a.push _).push _).push _
 have S3:Step ρ h ρ g3:=by rw[hg3];exact ((Step.push _ _ _).trans (Step.push _ _ _)).trans (Step.push _ _ _)
 have l3:g3.length=h.length+3:=by rw[hg3];simp
 have b2:g3[h.length]?=some (.cells [ptr r] true):=by rw[hg3];exact gP (gP (gW _ _))
 have b4:g3[h.length+1]?=some (.cells [iV 0] true):=by rw[hg3];exact gP (gV _ (by simp))
 have b5:g3[h.length+2]?=some (.cells [iV 0] true):=by rw[hg3];exact gV _ (by simp)
 have n2:¬ fpT ρ h.length:=a.out (by omega)
 have n4:¬ fpT ρ (h.length+1):=a.out (by omega)
 have n5:¬ fpT ρ (h.length+2):=a.out (by omega)
 have R:=acts_run a3 ok hr n
 have P1:(Asm.len (.is h) h.length).holds Try.prog:=rfl
 have P2:(Asm.len (.push (.is h) (.cells [ptr r] true)) (h.length+1)).holds Try.prog:=pL _ _
 have P3:(Asm.len (.push (.push (.is h) (.cells [ptr r] true)) (.cells [iV 0] true)) (h.length+2)).holds Try.prog:=by show (h++[_]++[_]).length=_;simp
 have P4:(Asm.ld1 (.push (.push (.push (.is h) (.cells [ptr r] true)) (.cells [iV 0] true)) (.cells [iV 0] true)) h.length 0 (ptr r)).holds Try.prog:=aL (by rw[<- hg3.symm] at *;exact gP (gP (gW _ _))) rfl
 have R':∀ v,Run Try.prog 46 [ptr r,iV n] g3 v g3->(Asm.call 46 [ptr r,iV n] (.push (.push (.push (.is h) (.cells [ptr r] true)) (.cells [iV 0] true)) (.cells [iV 0] true)) v (.is g3)).holds Try.prog:=fun v hv=>by
  rw[hg3] at hv ⊢
  exact hv
 have two:∀ (g:Hp) (E:Env) (v e:Value),EnvLe [(4,ptr (h.length+1)),(5,ptr (h.length+2))] E->g[h.length+1]?=some (.cells [v] true)->g[h.length+2]?=some (.cells [e] true)->evResults Try.prog Try.f22 E g=some (.tuple #[v,e]):=fun g E v e hE h1 h2 =>
  evResults_cells rfl (hE 4 _ rfl) (hE 5 _ rfl) agg3 agg24 h1 h2
 rcases hq:t.acts n with⟨k | k,e⟩
 ·rw[hq] at R
  have e':t.spawn n=(t,0,e):=by simp only[TS.spawn,hq]
  have e0:¬ e=0:=by have:=acts_none hq;omega
  rw[e']
  obtain⟨E2,q1,q2⟩:=pvK 0 (EnvLe.refl _) (r12p.sp_err r 0 h.length (h.length+1) (h.length+2) n e [iV e] h g3) ⟨P1,P2,P3,P4,R' _ R,neT e0,a_st b4 (by simp) rfl,a_st (gNq b5 (by omega)) (by simp) rfl,trivial⟩
  refine⟨ρ,_,Run.code Try.func22 body22 (.inr rfl) (CRunStop q2 (by simp)) (two _ _ _ _ (tR q1) (gNq (gE b4) (by omega)) (gE (gNq b5 (by omega)))),(a3.setN n4 _).setN n5 _,(S3.setNew (by omega) _).setNew (by omega) _⟩
 ·obtain⟨rfl,hn,x,hx,he,hl⟩:=acts_some hq
  have hk:=gTq hx
  obtain⟨i,hi⟩:=a.sh.tk k hk
  rw[hq] at R
  simp only[tkP,hi,pvv] at R
  have hlen:=ok.len k x hx
  have n64:=ok.n64
  obtain⟨E2,q1,q2⟩:=pvK 0 (EnvLe.refl _) (r12p.sp_pre r i h.length (h.length+1) (h.length+2) n 0 [] h g3) ⟨P1,P2,P3,P4,R' _ R,neF rfl,trivial⟩
  have Lo:(Asm.ld1 (.is g3) i 2 (slv (ρ (.op k)) x.opn.length)).holds Try.prog:=a3.ld1 rfl hi (by rw[cT hx];rfl)
  obtain⟨o,ln,z,hsl⟩:∃ o ln z,slv (ρ (.op k)) x.opn.length=.slice o ln z:=by cases ρ (.op k)<;>exact⟨_,_,_,rfl⟩
  rw[hsl] at Lo
  obtain⟨E3,q3,q4⟩:=pvC 1 (tR q1) (r12p.sp_r4 i h.length (h.length+1) (h.length+2) (h.length+3) ln z o g3) ⟨Lo,l3,trivial⟩
  have hE3:EnvLe [(2,ptr h.length),(4,ptr (h.length+1)),(5,ptr (h.length+2))] E3:=.trans (.add (.add (.add (.nil _) rfl) rfl) rfl) q3
  obtain⟨g4,hg4⟩:∃ g4,g4=g3++[AObj.cells [.slice o ln z] true]:=⟨_,rfl⟩
  have q4':CRun Try.prog 37 false (partC Try.f22 [1,1,1,0,0]) E2 g3 .normal E3 g4:=by rw[hg4];exact q4
  have l4:g4.length=h.length+4:=by rw[hg4];simp[l3]
  have a4:TAt g4 ρ t:=by rw[hg4];exact a3.push _
  have S4:Step ρ h ρ g4:=by rw[hg4];exact S3.trans (Step.push _ _ _)
  have up4:∀ {q:Nat} {ob:AObj},g3[q]?=some ob->g4[q]?=some ob:=fun hq=>by rw[hg4];exact gP hq
  have b3:g4[h.length+3]?=some (.cells [.slice o ln z] true):=by rw[hg4];exact gV _ l3
  obtain⟨lpR,hR⟩:∃ lp:AObj,lp=.loop .ready none E3 37 #[24,25] AS22 BD22:=⟨_,rfl⟩
  obtain⟨lpB,hB⟩:∃ lp:AObj,lp=.loop .busy none E3 37 #[24,25] AS22 BD22:=⟨_,rfl⟩
  obtain⟨gb,hgb⟩:∃ gb,gb=g4++[lpB]:=⟨_,rfl⟩
  have ab:TAt gb ρ t:=by rw[hgb];exact a4.push _
  have Sb:Step ρ h ρ gb:=by rw[hgb];exact S4.trans (Step.push _ _ _)
  have upb:∀ {q:Nat} {ob:AObj},g3[q]?=some ob->gb[q]?=some ob:=fun hq=>by rw[hgb];exact gP (up4 hq)
  have lb:gb.length=h.length+5:=by rw[hgb];simp[l4]
  have lpb:gb[h.length+4]?=some lpB:=by rw[hgb];exact gV _ l4
  have setB:(g4++[lpR]).set (h.length+4) lpB=gb:=by rw[hgb,List.set_append_right _ _ (by omega),l4,Nat.sub_self];rfl
  have setR:gb.set (h.length+4) lpR=g4++[lpR]:=by rw[hgb,List.set_append_right _ _ (by omega),l4,Nat.sub_self];rfl
  have lpr:(g4++[lpR])[h.length+4]?=some lpR:=gV _ l4
  have hop:∀ v,some v∈(x.opn.map some)->True:=fun _ _=>trivial
  obtain⟨g5,r1,r2⟩:=backward_run (bb:=h.length+3) (L:=h.length+4) (vals:=x.opn.map (inP ρ)) (sl:=.slice o ln z) (by simp;omega)
   (fun j g=>g=g4++[lpR]/\∀ (m:Nat) v,j<=m->x.opn[m]?=some v->v=none)
   (fun g=>∃ s v e ρ',inmost x.opn=some s/\g[h.length+1]?=some (.cells [iV v] true)/\g[h.length+2]?=some (.cells [iV e] true)/\g[h.length+4]?=some (.loop .done (some .ret) E3 37 #[24,25] AS22 BD22) /\
    TAt g ρ' (t.spawn n).1/\Step ρ h ρ' g/\(t.spawn n).2=(v,e)/\¬ fpT ρ' (h.length+4))
   (fun j g ⟨e,_⟩=>by rw[e];exact gP b3)
   (by
    cases ho:ρ (.op k) with
    | none =>
     left
     rw[ho] at hsl
     cases hsl
     exact⟨by rw[a.sh.op k x hx ho];rfl,rfl⟩
    | some oo =>
     right
     rw[ho] at hsl
     cases hsl
     refine⟨oo,by simp,fun j g m v ⟨e,_⟩ hv=>?_⟩
     obtain⟨junk,hj⟩:=a4.obj _ _ ho
     rw[cont_op hx] at hj
     exact⟨_,true,by rw[e];exact gP hj,by rw[List.getElem?_append_left (gTq hv)];exact hv⟩)
   (fun j v g hv ⟨eg,hnn⟩=>by
    subst eg
    rw[List.getElem?_map] at hv
    cases hw:x.opn[j]? with
    | none=>rw[hw] at hv;cases hv
    | some w =>
     rw[hw] at hv
     simp only[Option.map_some,Option.some.injEq] at hv
     have hlp:(g4++[lpR])[h.length+4]?=some (.loop .ready none E3 37 #[24,25] AS22 BD22):=by rw[lpr,hR]
     obtain⟨E4,u1,u2⟩:=pvC 0 ((hE3.cons 24 (iV j)).cons 25 v) (r12p.sp_as h.length (h.length+1) (h.length+2) j v (g4++[lpR])) trivial
     have u2':CRun Try.prog 37 true AS22 ((25,v)::(24,iV j)::E3) (g4++[lpR]) .normal E4 (g4++[lpR]):=u2
     have hE4:EnvLe [(9,v),(2,ptr h.length),(4,ptr (h.length+1)),(5,ptr (h.length+2))] E4:=.trans (.add (.add (.add (.add (.nil _) rfl) rfl) rfl) rfl) u1
     cases w with
     | none =>
      left
      have hv':v=.pointer none:=hv.symm
      subst hv'
      obtain⟨E5,v1,v2⟩:=pvC 0 hE4 (r12p.sp_nil h.length (h.length+1) (h.length+2) 0 0 0 0 0 [] [] gb gb) trivial
      refine⟨g4++[lpR],RunR.go hlp rfl rfl u2' hlp (h4:=gb) (by rw[<- hB,setB];exact v2) (by rw[lpb,hB]) (by rw[<- hR,setR]),rfl,fun m y hm hy=>?_⟩
      by_cases e:m=j
      ·subst e;rw[hw] at hy;cases hy;rfl
      ·exact hnn m y (by omega) hy
     | some s =>
      right
      have him:inmost x.opn=some s:=inmost_at hw fun m y hm hy=>hnn m y hm hy
      have hsl2:=ok.opn k x s hx (List.mem_of_getElem? hw)
      obtain⟨si,hsi⟩:=a.sh.sc s hsl2
      simp only[inP,hsi,pvv] at hv
      subst hv
      obtain⟨to,ht⟩:=a.sh.ts' hk
      have Lr:(Asm.ld1 (.is gb) h.length 0 (ptr r)).holds Try.prog:=aL (upb b2) rfl
      have Lt:=ab.hdT hr (P:=Try.prog) (s:=.is gb) rfl
      rw[ht] at Lt
      by_cases h64:64<=t.tks.length
      ·have es:t.spawn n=(t,0,5):=by simp only[TS.spawn,hq,hx,him,h64,if_true]
       obtain⟨E5,v1,v2⟩:=pvK 0 hE4 (r12p.sp_full h.length (h.length+1) (h.length+2) r si to t.tks.length 0 [iV 0] [iV 5] gb gb) ⟨Lr,Lt,geT (by simp;omega),a_st (upb b4) (by simp) rfl,a_st (gNq (upb b5) (by omega)) (by simp) rfl,trivial⟩
       refine⟨_,RunR.ret (h4:=(gb.set (h.length+1) (.cells [iV 0] true)).set (h.length+2) (.cells [iV 5] true)) hlp rfl rfl u2' hlp (by rw[<- hB,setB];exact v2) (gNq (gNq (by rw[lpb,hB]) (by omega)) (by omega)) rfl,s,0,5,ρ,him,?_,?_,gE (gNq (gNq lpb (by omega)) (by omega)),?_,?_,by rw[es],a.out (by omega)⟩
       ·exact gNq (gNq (gE (upb b4)) (by omega)) (by omega)
       ·exact gNq (gE (gNq (upb b5) (by omega))) (by omega)
       ·rw[es];exact ((ab.setN n4 _).setN n5 _).setN (a.out (by omega)) _
       ·exact ((Sb.setNew (by omega) _).setNew (by omega) _).setNew (by omega) _
      ·have es:t.spawn n=(t.add (some s),((t.tks.length+1:Nat):Int),0):=by simp only[TS.spawn,hq,hx,him,h64,if_false]
       obtain⟨ρ',g6,w1,w2,w3⟩:=add_run ab ok hc (by omega) hr (inn:=some s) fun s' e=>by cases e;exact hsl2
       simp only[inP,hsi,pvv] at w1
       have c4:=w3.get (upb b4) n4
       have c5:=w3.get (upb b5) n5
       have cL:=w3.get lpb (a.out (by omega))
       have m4:=w3.out (q:=h.length+1) (by omega) n4
       have m5:=w3.out (q:=h.length+2) (by omega) n5
       have mL:=w3.out (q:=h.length+4) (by omega) (a.out (by omega))
       obtain⟨E5,v1,v2⟩:=pvK 0 hE4 (r12p.sp_ok h.length (h.length+1) (h.length+2) r si to t.tks.length ((t.tks.length+1:Nat):Int) [iV ((t.tks.length+1:Nat):Int)] [iV 0] gb g6) ⟨Lr,Lt,geF (by simp;omega),Lr,w1,a_st c4 (by simp) rfl,a_st (gNq c5 (by omega)) (by simp) rfl,trivial⟩
       refine⟨_,RunR.ret (h4:=(g6.set (h.length+1) (.cells [iV ((t.tks.length+1:Nat):Int)] true)).set (h.length+2) (.cells [iV 0] true)) hlp rfl rfl u2' hlp (by rw[<- hB,setB];exact v2) (gNq (gNq (by rw[cL,hB]) (by omega)) (by omega)) rfl,s,_,0,ρ',him,?_,?_,gE (gNq (gNq cL (by omega)) (by omega)),?_,?_,by rw[es],mL⟩
       ·exact gNq (gNq (gE c4) (by omega)) (by omega)
       ·exact gNq (gE (gNq c5 (by omega))) (by omega)
       ·rw[es];exact ((w2.setN m4 _).setN m5 _).setN mL _
       ·exact (((Sb.trans w3).setNew (by omega) _).setNew (by omega) _).setNew (by omega) _)
   (g0:=g4++[lpR]) ⟨rfl,fun m v hm hv=>by have:=gTq hv;simp at hm;omega⟩
  have hgv:evalO E3 (.tmp 23)=some (.func (.func 67) #[] #[ptr (h.length+3)]):=q3 23 _ rfl
  have r1':Run Try.prog 67 ([.func (.yield g4.length) #[] #[]]++(#[ptr (h.length+3)]:Array Value).toList) (g4++[.loop .ready none E3 37 #[24,25] AS22 BD22]) (.tuple #[]) g5:=by rw[l4,<- hR];exact r1
  rcases r2 with⟨rfl,hall⟩ | ⟨s,v,e,ρ',him,c4,c5,cL,w2,w3,es,nL⟩
  ·have him:inmost x.opn=none:=inmost_none fun v hv=>by
    obtain⟨m,hm⟩:=List.getElem?_of_mem hv
    exact hall m v (by omega) hm
   have es:t.spawn n=(t,0,22):=by simp only[TS.spawn,hq,hx,him]
   rw[es]
   have c2:CRun Try.prog 37 false (.rangeFunc (.tmp 23) #[24,25] AS22 BD22) E3 g4 .normal E3 ((g4++[lpR]).set g4.length .dead):=CRun.range (pend:=none) hgv r1' (by rw[l4,lpr,hR]) rfl
   rw[l4] at c2
   have d4:((g4++[lpR]).set (h.length+4) .dead)[h.length+1]?=some (.cells [iV 0] true):=gNq (gP (up4 b4)) (by omega)
   have d5:((g4++[lpR]).set (h.length+4) .dead)[h.length+2]?=some (.cells [iV 0] true):=gNq (gP (up4 b5)) (by omega)
   obtain⟨E6,p1,p2⟩:=pvC 0 (.trans (.add (.add (.nil _) rfl) rfl) hE3) (r12p.sp_post (h.length+1) (h.length+2) [iV 0] [iV 22] ((g4++[lpR]).set (h.length+4) .dead)) ⟨a_st d4 (by simp) rfl,a_st (gNq d5 (by omega)) (by simp) rfl,trivial⟩
   refine⟨ρ,_,Run.code Try.func22 body22 (.inr rfl) (CRunChain q2 (CRun.seq (CRun.seq q4' (CRun.blockN 0 c2)) p2)) (two _ _ _ _ p1 (gNq (gE d4) (by omega)) (gE (gNq d5 (by omega)))),?_,?_⟩
   ·exact (((a4.push lpR).setN (a.out (by omega)) _).setN n4 _).setN n5 _
   ·exact (((S4.trans (Step.push _ _ _)).setNew (by omega) _).setNew (by omega) _).setNew (by omega) _
  ·have c2:CRun Try.prog 37 false (.rangeFunc (.tmp 23) #[24,25] AS22 BD22) E3 g4 .ret E3 (g5.set g4.length .dead):=CRun.rangeD (pend:=some .ret) hgv r1' (by rw[l4];exact cL) rfl
   rw[l4] at c2
   rw[es]
   refine⟨ρ',_,Run.code Try.func22 body22 (.inr rfl) (CRunChain q2 (CRun.stop (CRun.seq q4' (CRun.blockR 0 c2)) (by simp))) (two _ _ _ _ (.trans (.add (.add (.nil _) rfl) rfl) hE3) (gNq c4 (by omega)) (gNq c5 (by omega))),w2.setN nL _,w3.setNew (by omega) _⟩
end
end Go.Proofs.Ytahomnlkkafbjaa.tr
namespace Go.Proofs.Ytahomnlkkafbjaa.tr
open Go Go.Ev
def SlV(h:Hp)(lo:Nat)(v:Value)(n z:Nat)(cs:List Value):Prop :=
 (n=0/\cs=[]/\v=.slice none 0 0)\/(n≠0/\cs.length=n*z/\∃ o,v=.slice (some ⟨o,0,none⟩) n z/\h[o]?=some (.cells cs true)/\lo<=o)
theorem SlV.keep{h h':Hp}{lo n z:Nat}{v:Value}{cs:List Value}{fp:Nat->Prop}(a:SlV h lo v n z cs)(K:Keep fp h h')(hf:∀ q,fp q->q<lo):SlV h' lo v n z cs:=by
 rcases a with a | ⟨a1,a2,o,a3,a4,a5⟩
 ·exact .inl a
 ·exact .inr ⟨a1,a2,o,a3,K.2 _ _ a4 fun e=>by have:=hf _ e;omega,a5⟩
theorem SlV.mono{h:Hp}{lo lo' n z:Nat}{v:Value}{cs:List Value}(a:SlV h lo v n z cs)(hl:lo'<=lo):SlV h lo' v n z cs:=by
 rcases a with a | ⟨a1,a2,o,a3,a4,a5⟩
 ·exact .inl a
 ·exact .inr ⟨a1,a2,o,a3,a4,by omega⟩
theorem a_appGN{P:Program}{s:SH}{d q z b:Nat}{item:List Value}(hi:item.length=z)(ho:item.all Value.oneCell'=true)(hb:b<=1000)(h2:s.den[d]?=some (.cells item true))(hq:s.den.length=q) :
  (Asm.appNil s d 0 1 0 z b item q).holds P:=⟨rfl,⟨_,cells_of h2,by omega,by rw[List.drop_zero,List.take_of_length_le (by omega)]⟩,ho,by omega,by omega,hq⟩
theorem a_appGS{P:Program}{s:SH}{i n d q z b:Nat}{cs item:List Value}(hi:item.length=z)(ho:item.all Value.oneCell'=true)(hb:b<=1000)(hn:n<=1000000)(hl:cs.length=n*z)(h1:s.den[i]?=some (.cells cs true))(h2:s.den[d]?=some (.cells item true))(hq:s.den.length=q) :
  (Asm.app s i 0 n d 0 1 0 z b (cs++item) item q).holds P:=by
 have m:(n+1)*b<=140737488355328:=Nat.le_trans (Nat.mul_le_mul (show n+1<=1000001 by omega) hb) (by omega)
 exact⟨rfl,⟨_,cells_of h2,by omega,by rw[List.drop_zero,List.take_of_length_le (by omega)]⟩,ho,m,by omega,⟨_,own_of h1,by omega,by rw[List.drop_zero,List.take_of_length_le (by omega)]⟩,hq⟩
def lkC:Option Nat->List Value
 | none=>[iV 3,iV 0]
 | some s=>[iV 2,iV ((s+1:Nat):Int)]
def lkL:List (Option Nat)->List Value
 | []=>[]
 | v::l=>lkC v++lkL l
theorem lkC_len(v:Option Nat):(lkC v).length=2:=by cases v<;>rfl
theorem lkC_ones(v:Option Nat):(lkC v).all Value.oneCell'=true:=by cases v<;>rfl
theorem lkL_len:∀ l:List (Option Nat),(lkL l).length=l.length*2
 | []=>rfl
 | v::l=>by simp[lkL,lkC_len,lkL_len l];omega
theorem lkL_app:∀ l m:List (Option Nat),lkL (l++m)=lkL l++lkL m
 | [],_=>rfl
 | v::l,m=>by simp[lkL,lkL_app l m]
def lkK:Option Nat->Int
 | none=>3
 | some _=>2
def lkN:Option Nat->Int
 | none=>0
 | some s=>((s+1:Nat):Int)
theorem lkC_eq(v:Option Nat):lkC v=[iV (lkK v),iV (lkN v)]:=by cases v<;>rfl
section
variable {h:Hp} {ρ:Lay} {t:TS} {c r:Nat}
theorem link_run(a:TAt h ρ t)(v:Option Nat)(hv:∀ s,v=some s->s<t.scs.length):∃ h',Run Try.prog 40 [inP ρ v] h (.agg #[iV (lkK v),iV (lkN v)]) h'/\Keep (fun _=>False) h h':=by
 have K:∀ o o',Keep (fun _=>False) h ((h++[o]).set h.length o'):=fun o o'=>((Keep.refl _ h).pushN o).setN (Nat.le_refl _) o'
 cases v with
 | none=>exact⟨_,pvF 0 Try.func40 (r2p.li_nil h.length h) ⟨rfl,a_st (gW _ _) (by simp) rfl,aN (gE (gW _ _)) (by simp) rfl,trivial⟩,K _ _⟩
 | some s =>
  have hs:=hv s rfl
  obtain⟨i,hi⟩:=a.sh.sc s hs
  obtain⟨y,hy⟩:∃ y,t.scs[s]?=some y:=⟨_,List.getElem?_eq_getElem hs⟩
  simp only[inP,hi,pvv]
  exact⟨_,pvF 0 Try.func40 (r2p.li_some h.length i ((s+1:Nat):Int) h) ⟨rfl,(a.push _).ld1 rfl hi (by rw[cSq hy];rfl),a_st (gW _ _) (by simp) rfl,aN (gE (gW _ _)) (by simp) rfl,trivial⟩,K _ _⟩
theorem stat13(k:Nat)(hk:k=0\/k=1):(Asm.stat (drawN Try.f13 k)).holds Try.prog:=by
 rcases hk with rfl | rfl
 ·exact show statOk (drawN Try.f13 0)=true by kernel_rfl
 ·exact show statOk (drawN Try.f13 1)=true by kernel_rfl
theorem agg33:aggSize Try.prog 33=some none:=by kernel_rfl
theorem take_one{α:Type}{l:List α}{k:Nat}{x:α}(h:l[k]?=some x):l.take (k+1)=l.take k++[x]:=by rw[List.take_add_one,h];rfl
theorem task_loop(a:TAt h ρ t){kk:Nat}{x:Tk}{oo:Nat}(hx:t.tks[kk]?=some x)(ho:ρ (.op kk)=some oo)(hin:∀ s,some s∈x.opn->s<t.scs.length)(hlen:x.opn.length<=1000000){e0 e1 e2 e3 e4:Value}{z4:List Value} :
  ∀ (j i:Nat) (E:Env) (g:Hp) (v:Value),i+j=x.opn.length->EnvLe [(71,iV (i:Int)),(70,iV (Int.ofNat x.opn.length)),(69,.slice (some ⟨oo,0,none⟩) x.opn.length 1),(7,ptr (h.length+1)),(4,ptr h.length)] E ->
   Keep (fun _=>False) h g->g[h.length]?=some (.cells z4 true)->g[h.length+1]?=some (.cells [e0,e1,e2,e3,e4,v] true)->SlV g (h.length+2) v i 2 (lkL (x.opn.take i)) ->
   ∃ E1 g' v',EnvLe [(7,ptr (h.length+1)),(4,ptr h.length)] E1/\LRun Try.prog 84 false (loopN Try.f13 0) E g (.exit 1) E1 g'/\Keep (fun _=>False) h g'/\g'[h.length]?=some (.cells z4 true)/\g'[h.length+1]?=some (.cells [e0,e1,e2,e3,e4,v'] true)/\SlV g' (h.length+2) v' x.opn.length 2 (lkL x.opn):=by
 intro j
 induction j with
 | zero =>
  intro i E g v hi hE K h4 h7 hv
  have e:i=x.opn.length:=by omega
  subst e
  rw[List.take_length] at hv
  obtain⟨E2,q1,q2⟩:=pvC 0 hE (r13p.tl_out (h.length+1) h.length oo x.opn.length 0 0 0 0 0 _ 0 0 0 (.bool true) [] [] [] g g) ⟨ltF (by simp),trivial⟩
  exact⟨E2,g,v,tR q1,.last q2 (by simp),K,h4,h7,hv⟩
 | succ j ih =>
  intro i E g v hi hE K h4 h7 hv
  obtain⟨w,hw⟩:∃ w,x.opn[i]?=some w:=⟨_,List.getElem?_eq_getElem (by omega)⟩
  have ag:=a.grow K
  have hgl:=K.1
  obtain⟨g2,r1,K2⟩:=link_run ag w fun s e=>hin s (by rw[<- e];exact List.mem_of_getElem? hw)
  have K2l:=K2.1
  have g1:(Asm.cmp .lss (i:Int) (Int.ofNat x.opn.length) true).holds Try.prog:=ltT (by simp;omega)
  have g2':(Asm.off i 0 (i:Int) x.opn.length 1).holds Try.prog:=offI (q:=i) rfl (by omega) (by omega)
  have g3:(Asm.ld1 (.is g) oo i (inP ρ w)).holds Try.prog:=ag.ld1 rfl ho (by rw[cont_op hx,List.getElem?_map,hw];rfl)
  have g4:(Asm.arith .add .i64 (i:Int) 1 ((i+1:Nat):Int)).holds Try.prog:=addI rfl (by omega) (by omega)
  have h72:=K2.2 _ _ h7 id
  have h42:=K2.2 _ _ h4 id
  have h7l:=get_lt h7
  have vr:veqR v=true:=by rcases hv with⟨_,_,e⟩ | ⟨_,_,o,e,_⟩<;>rw[e]<;>rfl
  have ga:(Asm.again (.is g) 33 (.pointer (some ⟨h.length+1,5,none⟩)) v).holds Try.prog:=a_again1 agg33 h7 rfl vr
  have gb:(Asm.again (.is g2) 33 (.pointer (some ⟨h.length+1,5,none⟩)) v).holds Try.prog:=a_again1 agg33 h72 rfl vr
  have gl:(Asm.ld1 (.is g) (h.length+1) 5 v).holds Try.prog:=aL h7 rfl
  have hnew:g2[g2.length]?=none:=by simp
  rcases hv with⟨e0',e1',rfl⟩ | ⟨hn,hl,o,rfl,hob,hol⟩
  ·subst e0'
   obtain⟨E2,q1,q2⟩:=pvK 0 hE (r13p.tl_gon (h.length+1) h.length oo x.opn.length 0 0 g2.length (g2.length+1) 0 _ ((0+1:Nat):Int) (lkK w) (lkN w) (inP ρ w) [] (lkC w) [e0,e1,e2,e3,e4,.slice (some ⟨g2.length+1,0,none⟩) 1 2] g g2)
    ⟨g1,g2',g3,stat13 1 (.inr rfl),ga,ga,gb,gl,r1,rfl,a_appGN (lkC_len w) (lkC_ones w) (by omega) (by rw[lkC_eq];exact gW _ _) (pL _ _),a_st (gP (gP h72)) (by simp) rfl,g4,trivial⟩
   obtain⟨E3,g5,v',s1,s2,s3⟩:=ih 1 E2 ((g2++[AObj.cells [iV (lkK w),iV (lkN w)] true]++[AObj.cells (lkC w) true]).set (h.length+1) (AObj.cells [e0,e1,e2,e3,e4,.slice (some ⟨g2.length+1,0,none⟩) 1 2] true)) (.slice (some ⟨g2.length+1,0,none⟩) 1 2) (by omega)
    (tR q1) ((((K.trans K2).pushN _).pushN _).setN (by omega) _) (gNq (gP (gP h42)) (by omega)) (gE (gP (gP h72)))
    (.inr ⟨by omega,by rw[take_one hw];simp[lkL_len],g2.length+1,rfl,by rw[take_one hw];exact gNq (by simp[lkL]) (by omega),by omega⟩)
   exact⟨E3,g5,v',s1,.step q2 s2,s3⟩
  ·have ho2:=K2.2 _ _ hob id
   have hol2:=get_lt hob
   obtain⟨E2,q1,q2⟩:=pvK 0 hE (r13p.tl_gos (h.length+1) h.length oo x.opn.length i o g2.length (g2.length+1) i _ ((i+1:Nat):Int) (lkK w) (lkN w) (inP ρ w) (lkL (x.opn.take i)++lkC w) (lkC w) [e0,e1,e2,e3,e4,.slice (some ⟨g2.length+1,0,none⟩) (i+1) 2] g g2)
    ⟨g1,g2',g3,stat13 1 (.inr rfl),ga,ga,gb,gl,r1,rfl,a_appGS (lkC_len w) (lkC_ones w) (by omega) (by omega) hl (gP ho2) (by rw[lkC_eq];exact gW _ _) (pL _ _),a_st (gP (gNq (gP h72) (by omega))) (by simp) rfl,g4,trivial⟩
   obtain⟨E3,g5,v',s1,s2,s3⟩:=ih (i+1) E2 (((g2++[AObj.cells [iV (lkK w),iV (lkN w)] true]).set o .dead++[AObj.cells (lkL (x.opn.take i)++lkC w) true]).set (h.length+1) (AObj.cells [e0,e1,e2,e3,e4,.slice (some ⟨g2.length+1,0,none⟩) (i+1) 2] true)) (.slice (some ⟨g2.length+1,0,none⟩) (i+1) 2) (by omega)
    (tR q1) (((((K.trans K2).pushN _).setN (by omega) _).pushN _).setN (by omega) _) (gNq (gP (gNq (gP h42) (by omega))) (by omega)) (gE (gP (gNq (gP h72) (by omega))))
    (.inr ⟨by omega,by rw[take_one hw,lkL_len,List.length_append,List.length_take,List.length_singleton];congr 1;omega,g2.length+1,rfl,by
     rw[take_one hw,lkL_app]
     refine gNq ?_ (by omega)
     rw[show lkL [w]=lkC w by simp[lkL]]
     exact gV _ (by simp),by omega⟩)
   exact⟨E3,g5,v',s1,.step q2 s2,s3⟩
structure TkV where
 sc:Int
 en:Bool
 lv:Bool
 fk:Int
 ft:ByteArray
 op:List (Option Nat)
def TkV.zero:TkV:=⟨0,false,false,0,⟨#[]⟩,[]⟩
def tkV(x:Tk):TkV:=⟨lkN x.inn,x.en,x.lv,if x.en then x.fk else 0,if x.en then x.ft else ⟨#[]⟩,x.opn⟩
def TkV.C(w:TkV)(v:Value):List Value:=[iV w.sc,.bool w.en,.bool w.lv,iV w.fk,.string w.ft,v]
def TS.task(t:TS)(n:Int):TkV×Int:=if n<1\/(t.tks.length:Int)<n then (.zero,6) else match t.tks[(n-1).toNat]? with
 | some x=>(tkV x,0)
 | none=>(.zero,6)
theorem task_run(a:TAt h ρ t)(ok:TOk c t)(hc:c<=100000)(hr:ρ .root=some r)(n:Int) :
  ∃ v h',Run Try.prog 13 [ptr r,iV n] h (.tuple #[.agg ((t.task n).1.C v).toArray,iV (t.task n).2]) h'/\Keep (fun _=>False) h h'/\SlV h' (h.length+2) v (t.task n).1.op.length 2 (lkL (t.task n).1.op):=by
 have n64:=ok.n64
 have Z:∀ {e:TkV×Int},e=(.zero,6)->t.task n=e->∀ g,Keep (fun _=>False) h g->Run Try.prog 13 [ptr r,iV n] h (.tuple #[.agg (TkV.zero.C (.slice none 0 0)).toArray,iV 6]) g->∃ v h',Run Try.prog 13 [ptr r,iV n] h (.tuple #[.agg ((t.task n).1.C v).toArray,iV (t.task n).2]) h'/\Keep (fun _=>False) h h'/\SlV h' (h.length+2) v (t.task n).1.op.length 2 (lkL (t.task n).1.op):=fun e1 e2 g K R=>by
  rw[e2,e1]
  exact⟨_,g,R,K,.inl ⟨rfl,rfl,rfl⟩⟩
 have K1:∀ o,Keep (fun _=>False) h (h++[o]):=fun o=>(Keep.refl _ h).pushN o
 have st4:∀ (s:SH) (l:List Value),s.den[h.length]?=some (.cells [iV 0,.bool false,.bool false,iV 0,.string ⟨#[]⟩,.slice none 0 0] true)->l.length=6->(Asm.st s h.length 0 l l).holds Try.prog:=fun s l e hl=>a_st e (by simp[hl]) (by simp[hl])
 by_cases c1:n<1
 ·exact Z rfl (by simp[TS.task,c1]) _ ((K1 _).setN (Nat.le_refl _) _) (pvF 0 Try.func13 (r13p.ta_low r h.length 0 0 0 0 0 0 0 0 n 0 0 0 false false ⟨#[]⟩ [] [] [] [] none 0 0 h h) ⟨rfl,ltT c1,st4 _ _ (gW _ _) rfl,aN (gE (gW _ _)) (by simp) rfl,trivial⟩)
 ·have T0:=(a.push (.cells [iV 0,.bool false,.bool false,iV 0,.string ⟨#[]⟩,.slice none 0 0] true))
  have hd:=T0.hdT hr (P:=Try.prog) (s:=.push (.is h) (.cells [iV 0,.bool false,.bool false,iV 0,.string ⟨#[]⟩,.slice none 0 0] true)) rfl
  by_cases c2:(t.tks.length:Int)<n
  ·have e:t.task n=(.zero,6):=by simp[TS.task,c2]
   cases ht:ρ .ts with
   | none =>
    have h0:=a.sh.ts ht
    rw[ht,h0] at hd
    rw[h0] at c2
    exact Z rfl e _ ((K1 _).setN (Nat.le_refl _) _) (pvF 0 Try.func13 (r13p.ta_highn r h.length 0 0 0 0 0 0 0 0 n 0 0 0 false false ⟨#[]⟩ [] [] [] [] none 0 0 h h) ⟨rfl,ltF (by omega),hd,gtT (by simpa using c2),st4 _ _ (gW _ _) rfl,aN (gE (gW _ _)) (by simp) rfl,trivial⟩)
   | some to =>
    rw[ht] at hd
    exact Z rfl e _ ((K1 _).setN (Nat.le_refl _) _) (pvF 0 Try.func13 (r13p.ta_highs r h.length 0 to t.tks.length 0 0 0 0 0 n 0 0 0 false false ⟨#[]⟩ [] [] [] [] none 0 0 h h) ⟨rfl,ltF (by omega),hd,gtT c2,st4 _ _ (gW _ _) rfl,aN (gE (gW _ _)) (by simp) rfl,trivial⟩)
  ·have hk:(n-1).toNat<t.tks.length:=by omega
   obtain⟨k,hkn⟩:∃ k,k=(n-1).toNat:=⟨_,rfl⟩
   obtain⟨x,hx⟩:∃ x,t.tks[(n-1).toNat]?=some x:=⟨_,List.getElem?_eq_getElem hk⟩
   have e:t.task n=(tkV x,0):=by simp only[TS.task,c1,c2,or_self,if_false,hx]
   rw[<- hkn] at hk hx
   rw[e]
   obtain⟨to,ht⟩:=a.sh.ts' hk
   obtain⟨i,hi⟩:=a.sh.tk _ hk
   rw[ht] at hd
   have hlen:=ok.len k x hx
   have p1:(Asm.arith .sub .i64 n 1 (n-1)).holds Try.prog:=subI rfl (by omega) (by omega)
   have p2:(Asm.off k 0 (n-1) t.tks.length 1).holds Try.prog:=offI (q:=k) (by omega) hk (by omega)
   have p3:∀ (s:SH),Keep (fun _=>False) h s.den->(Asm.ld1 s to k (ptr i)).holds Try.prog:=fun s K=>by
    have:=(a.grow K).ld1 (P:=Try.prog) (s:=s) rfl ht (cont_ts hk)
    rwa [hi] at this
   have q1:(Asm.cmp .lss n 1 false).holds Try.prog:=ltF (by omega)
   have q2:(Asm.cmp .gtr n (Int.ofNat t.tks.length) false).holds Try.prog:=gtF (by simp;omega)
   have Len:∀ (s:SH),Keep (fun _=>False) h s.den->(Asm.ld1 s i 4 (.bool x.en)).holds Try.prog:=fun s K=>(a.grow K).ld1 rfl hi (by rw[cT hx];rfl)
   have Llv:∀ (s:SH),Keep (fun _=>False) h s.den->(Asm.ld1 s i 3 (.bool x.lv)).holds Try.prog:=fun s K=>(a.grow K).ld1 rfl hi (by rw[cT hx];rfl)
   have Lin:∀ (s:SH),Keep (fun _=>False) h s.den->(Asm.ld1 s i 1 (inP ρ x.inn)).holds Try.prog:=fun s K=>(a.grow K).ld1 rfl hi (by rw[cT hx];rfl)
   have Lft:∀ (s:SH),Keep (fun _=>False) h s.den->(Asm.ldn s i 5 2 (fltC x.fk x.ft)).holds Try.prog:=fun s K=>(a.grow K).ldn rfl hi (by rw[cT hx];simp[tkC]) (by rw[cT hx];rfl)
   have Lop:∀ (s:SH),Keep (fun _=>False) h s.den->(Asm.ld1 s i 2 (slv (ρ (.op k)) x.opn.length)).holds Try.prog:=fun s K=>(a.grow K).ld1 rfl hi (by rw[cT hx];rfl)
   have st7:∀ (s:SH) (l l':List Value) (d:Nat) (l2:List Value),s.den[h.length+1]?=some (.cells l true)->l'.length+d<=l.length->l.take d++l'++l.drop (d+l'.length)=l2->(Asm.st s (h.length+1) d l' l2).holds Try.prog:=fun s l l' d l2 e1 e2 e3=>a_st e1 (by omega) e3
   have KA:Keep (fun _=>False) h (h++[AObj.cells [iV 0,.bool false,.bool false,iV 0,.string ⟨#[]⟩,.slice none 0 0] true]):=K1 _
   have KB:Keep (fun _=>False) h (h++[AObj.cells [iV 0,.bool false,.bool false,iV 0,.string ⟨#[]⟩,.slice none 0 0] true]++[AObj.cells [iV 0,.bool false,.bool false,iV 0,.string ⟨#[]⟩,.slice none 0 0] true]):=KA.pushN _
   have B4:(h++[AObj.cells [iV 0,.bool false,.bool false,iV 0,.string ⟨#[]⟩,.slice none 0 0] true]++[AObj.cells [iV 0,.bool false,.bool false,iV 0,.string ⟨#[]⟩,.slice none 0 0] true])[h.length]?=some (.cells [iV 0,.bool false,.bool false,iV 0,.string ⟨#[]⟩,.slice none 0 0] true):=gP (gW _ _)
   have B7:(h++[AObj.cells [iV 0,.bool false,.bool false,iV 0,.string ⟨#[]⟩,.slice none 0 0] true]++[AObj.cells [iV 0,.bool false,.bool false,iV 0,.string ⟨#[]⟩,.slice none 0 0] true])[h.length+1]?=some (.cells [iV 0,.bool false,.bool false,iV 0,.string ⟨#[]⟩,.slice none 0 0] true):=gV _ (pL _ _)
   have S0:=stat13 0 (.inl rfl)
   have lb7:(Asm.len (.push (.is h) (.cells [iV 0,.bool false,.bool false,iV 0,.string ⟨#[]⟩,.slice none 0 0] true)) (h.length+1)).holds Try.prog:=pL _ _
   obtain⟨gA,hgA⟩:∃ gA,gA=h++[AObj.cells [iV 0,.bool false,.bool false,iV 0,.string ⟨#[]⟩,.slice none 0 0] true]++[AObj.cells [iV 0,.bool false,.bool false,iV 0,.string ⟨#[]⟩,.slice none 0 0] true]:=⟨_,rfl⟩
   cases hinn:x.inn with
   | none =>
    rw[hinn] at Lin
    cases hen:x.en with
    | false =>
     rw[hen] at Len
     cases hop:ρ (.op k) with
     | none =>
      have h0:=a.sh.op k x hx hop
      rw[hop,h0] at Lop
      simp only[tkV,hinn,hen,lkN,if_true,if_false,Bool.false_eq_true,h0]
      have B7_0:=B7
      have B4_0:=B4
      have K_0:=KB
      have K_1:=K_0.setN (show h.length<=h.length+1 by omega) (AObj.cells [iV 0,.bool false,.bool x.lv,iV 0,.string ⟨#[]⟩,.slice none 0 0] true)
      have B7_1:=gE (x:=AObj.cells [iV 0,.bool false,.bool x.lv,iV 0,.string ⟨#[]⟩,.slice none 0 0] true) B7_0
      have B4_1:=gNq (x:=AObj.cells [iV 0,.bool false,.bool x.lv,iV 0,.string ⟨#[]⟩,.slice none 0 0] true) B4_0 (show h.length+1≠h.length by omega)
      exact⟨.slice none 0 0,_,pvF 0 Try.func13 (r13p.ta_000 r h.length (h.length+1) to t.tks.length k i 0 0 0 n (n-1) 0 0 false x.lv ⟨#[]⟩ [iV 0,.bool false,.bool x.lv,iV 0,.string ⟨#[]⟩,.slice none 0 0] [] [] [] none 0 0 h h) ⟨rfl,q1,hd,q2,hd,p1,p2,p3 _ KA,S0,Len _ KA,Llv _ KA,lb7,st7 _ _ _ _ _ B7_0 (by simp) rfl,Lin _ K_1,Len _ K_1,Lop _ K_1,ltF (by omega),aN B7_1 (by simp) rfl,st4 _ _ B4_1 rfl,aN (gE B4_1) (by simp) rfl,trivial⟩,K_1.setN (Nat.le_refl _) _,.inl ⟨rfl,rfl,rfl⟩⟩
     | some oo =>
      rw[hop] at Lop
      simp only[tkV,hinn,hen,lkN,if_true,if_false,Bool.false_eq_true]
      have B7_0:=B7
      have B4_0:=B4
      have K_0:=KB
      have K_1:=K_0.setN (show h.length<=h.length+1 by omega) (AObj.cells [iV 0,.bool false,.bool x.lv,iV 0,.string ⟨#[]⟩,.slice none 0 0] true)
      have B7_1:=gE (x:=AObj.cells [iV 0,.bool false,.bool x.lv,iV 0,.string ⟨#[]⟩,.slice none 0 0] true) B7_0
      have B4_1:=gNq (x:=AObj.cells [iV 0,.bool false,.bool x.lv,iV 0,.string ⟨#[]⟩,.slice none 0 0] true) B4_0 (show h.length+1≠h.length by omega)
      obtain⟨E1,g',v',l1,l2,l3,l4,l5,l6⟩:=task_loop a hx hop (fun s hs=>ok.opn k x s hx hs) (by omega) x.opn.length 0 [(71,iV 0),(70,iV (Int.ofNat x.opn.length)),(69,.slice (some ⟨oo,0,none⟩) x.opn.length 1),(7,ptr (h.length+1)),(4,ptr h.length)] _ (.slice none 0 0) (by omega) (EnvLe.refl _) K_1 B4_1 B7_1 (.inl ⟨rfl,rfl,rfl⟩)
      obtain⟨oa,la,za,hv'⟩:∃ oa la za,v'=.slice oa la za:=by rcases l6 with⟨_,_,e⟩ | ⟨_,_,o,e,_⟩<;>exact⟨_,_,_,e⟩
      subst hv'
      exact⟨.slice oa la za,_,pvF 0 Try.func13 (r13p.ta_001 r h.length (h.length+1) to t.tks.length k i 0 oo x.opn.length n (n-1) 0 0 false x.lv ⟨#[]⟩ [iV 0,.bool false,.bool x.lv,iV 0,.string ⟨#[]⟩,.slice none 0 0] [] [] [] oa la za h g') ⟨rfl,q1,hd,q2,hd,p1,p2,p3 _ KA,S0,Len _ KA,Llv _ KA,lb7,st7 _ _ _ _ _ B7_0 (by simp) rfl,Lin _ K_1,Len _ K_1,Lop _ K_1,a_loop (by kernel_rfl) (.add (.add (.add (.add (.add (.nil _) rfl) rfl) rfl) rfl) rfl) l1 l2,aN l5 (by simp) rfl,st4 _ _ l4 rfl,aN (gE l4) (by simp) rfl,trivial⟩,l3.setN (Nat.le_refl _) _,l6.keep (Keep.set (fp:=fun q=>q=h.length) rfl _) (fun q e=>by omega)⟩
    | true =>
     rw[hen] at Len
     cases hop:ρ (.op k) with
     | none =>
      have h0:=a.sh.op k x hx hop
      rw[hop,h0] at Lop
      simp only[tkV,hinn,hen,lkN,if_true,if_false,Bool.false_eq_true,h0]
      have B7_0:=B7
      have B4_0:=B4
      have K_0:=KB
      have K_1:=K_0.setN (show h.length<=h.length+1 by omega) (AObj.cells [iV 0,.bool true,.bool x.lv,iV 0,.string ⟨#[]⟩,.slice none 0 0] true)
      have B7_1:=gE (x:=AObj.cells [iV 0,.bool true,.bool x.lv,iV 0,.string ⟨#[]⟩,.slice none 0 0] true) B7_0
      have B4_1:=gNq (x:=AObj.cells [iV 0,.bool true,.bool x.lv,iV 0,.string ⟨#[]⟩,.slice none 0 0] true) B4_0 (show h.length+1≠h.length by omega)
      have K_2:=K_1.setN (show h.length<=h.length+1 by omega) (AObj.cells [iV 0,.bool true,.bool x.lv,iV x.fk,.string x.ft,.slice none 0 0] true)
      have B7_2:=gE (x:=AObj.cells [iV 0,.bool true,.bool x.lv,iV x.fk,.string x.ft,.slice none 0 0] true) B7_1
      have B4_2:=gNq (x:=AObj.cells [iV 0,.bool true,.bool x.lv,iV x.fk,.string x.ft,.slice none 0 0] true) B4_1 (show h.length+1≠h.length by omega)
      exact⟨.slice none 0 0,_,pvF 0 Try.func13 (r13p.ta_010 r h.length (h.length+1) to t.tks.length k i 0 0 0 n (n-1) 0 x.fk true x.lv x.ft [iV 0,.bool true,.bool x.lv,iV 0,.string ⟨#[]⟩,.slice none 0 0] [] [iV 0,.bool true,.bool x.lv,iV x.fk,.string x.ft,.slice none 0 0] [] none 0 0 h h) ⟨rfl,q1,hd,q2,hd,p1,p2,p3 _ KA,S0,Len _ KA,Llv _ KA,lb7,st7 _ _ _ _ _ B7_0 (by simp) rfl,Lin _ K_1,Len _ K_1,Lft _ K_1,st7 _ _ _ _ _ B7_1 (by simp) rfl,Lop _ K_2,ltF (by omega),aN B7_2 (by simp) rfl,st4 _ _ B4_2 rfl,aN (gE B4_2) (by simp) rfl,trivial⟩,K_2.setN (Nat.le_refl _) _,.inl ⟨rfl,rfl,rfl⟩⟩
     | some oo =>
      rw[hop] at Lop
      simp only[tkV,hinn,hen,lkN,if_true,if_false,Bool.false_eq_true]
      have B7_0:=B7
      have B4_0:=B4
      have K_0:=KB
      have K_1:=K_0.setN (show h.length<=h.length+1 by omega) (AObj.cells [iV 0,.bool true,.bool x.lv,iV 0,.string ⟨#[]⟩,.slice none 0 0] true)
      have B7_1:=gE (x:=AObj.cells [iV 0,.bool true,.bool x.lv,iV 0,.string ⟨#[]⟩,.slice none 0 0] true) B7_0
      have B4_1:=gNq (x:=AObj.cells [iV 0,.bool true,.bool x.lv,iV 0,.string ⟨#[]⟩,.slice none 0 0] true) B4_0 (show h.length+1≠h.length by omega)
      have K_2:=K_1.setN (show h.length<=h.length+1 by omega) (AObj.cells [iV 0,.bool true,.bool x.lv,iV x.fk,.string x.ft,.slice none 0 0] true)
      have B7_2:=gE (x:=AObj.cells [iV 0,.bool true,.bool x.lv,iV x.fk,.string x.ft,.slice none 0 0] true) B7_1
      have B4_2:=gNq (x:=AObj.cells [iV 0,.bool true,.bool x.lv,iV x.fk,.string x.ft,.slice none 0 0] true) B4_1 (show h.length+1≠h.length by omega)
      obtain⟨E1,g',v',l1,l2,l3,l4,l5,l6⟩:=task_loop a hx hop (fun s hs=>ok.opn k x s hx hs) (by omega) x.opn.length 0 [(71,iV 0),(70,iV (Int.ofNat x.opn.length)),(69,.slice (some ⟨oo,0,none⟩) x.opn.length 1),(7,ptr (h.length+1)),(4,ptr h.length)] _ (.slice none 0 0) (by omega) (EnvLe.refl _) K_2 B4_2 B7_2 (.inl ⟨rfl,rfl,rfl⟩)
      obtain⟨oa,la,za,hv'⟩:∃ oa la za,v'=.slice oa la za:=by rcases l6 with⟨_,_,e⟩ | ⟨_,_,o,e,_⟩<;>exact⟨_,_,_,e⟩
      subst hv'
      exact⟨.slice oa la za,_,pvF 0 Try.func13 (r13p.ta_011 r h.length (h.length+1) to t.tks.length k i 0 oo x.opn.length n (n-1) 0 x.fk true x.lv x.ft [iV 0,.bool true,.bool x.lv,iV 0,.string ⟨#[]⟩,.slice none 0 0] [] [iV 0,.bool true,.bool x.lv,iV x.fk,.string x.ft,.slice none 0 0] [] oa la za h g') ⟨rfl,q1,hd,q2,hd,p1,p2,p3 _ KA,S0,Len _ KA,Llv _ KA,lb7,st7 _ _ _ _ _ B7_0 (by simp) rfl,Lin _ K_1,Len _ K_1,Lft _ K_1,st7 _ _ _ _ _ B7_1 (by simp) rfl,Lop _ K_2,a_loop (by kernel_rfl) (.add (.add (.add (.add (.add (.nil _) rfl) rfl) rfl) rfl) rfl) l1 l2,aN l5 (by simp) rfl,st4 _ _ l4 rfl,aN (gE l4) (by simp) rfl,trivial⟩,l3.setN (Nat.le_refl _) _,l6.keep (Keep.set (fp:=fun q=>q=h.length) rfl _) (fun q e=>by omega)⟩
   | some s =>
    have hsl:=ok.inn k x s hx hinn
    obtain⟨si,hsi⟩:=a.sh.sc s hsl
    obtain⟨y,hy⟩:∃ y,t.scs[s]?=some y:=⟨_,List.getElem?_eq_getElem hsl⟩
    rw[hinn] at Lin
    simp only[inP,hsi,pvv] at Lin
    have Ls:∀ (s':SH),Keep (fun _=>False) h s'.den->(Asm.ld1 s' si 0 (iV ((s+1:Nat):Int))).holds Try.prog:=fun s' K=>(a.grow K).ld1 rfl hsi (by rw[cSq hy];rfl)
    cases hen:x.en with
    | false =>
     rw[hen] at Len
     cases hop:ρ (.op k) with
     | none =>
      have h0:=a.sh.op k x hx hop
      rw[hop,h0] at Lop
      simp only[tkV,hinn,hen,lkN,if_true,if_false,Bool.false_eq_true,h0]
      have B7_0:=B7
      have B4_0:=B4
      have K_0:=KB
      have K_1:=K_0.setN (show h.length<=h.length+1 by omega) (AObj.cells [iV 0,.bool false,.bool x.lv,iV 0,.string ⟨#[]⟩,.slice none 0 0] true)
      have B7_1:=gE (x:=AObj.cells [iV 0,.bool false,.bool x.lv,iV 0,.string ⟨#[]⟩,.slice none 0 0] true) B7_0
      have B4_1:=gNq (x:=AObj.cells [iV 0,.bool false,.bool x.lv,iV 0,.string ⟨#[]⟩,.slice none 0 0] true) B4_0 (show h.length+1≠h.length by omega)
      have K_2:=K_1.setN (show h.length<=h.length+1 by omega) (AObj.cells [iV ((s+1:Nat):Int),.bool false,.bool x.lv,iV 0,.string ⟨#[]⟩,.slice none 0 0] true)
      have B7_2:=gE (x:=AObj.cells [iV ((s+1:Nat):Int),.bool false,.bool x.lv,iV 0,.string ⟨#[]⟩,.slice none 0 0] true) B7_1
      have B4_2:=gNq (x:=AObj.cells [iV ((s+1:Nat):Int),.bool false,.bool x.lv,iV 0,.string ⟨#[]⟩,.slice none 0 0] true) B4_1 (show h.length+1≠h.length by omega)
      exact⟨.slice none 0 0,_,pvF 0 Try.func13 (r13p.ta_100 r h.length (h.length+1) to t.tks.length k i si 0 0 n (n-1) ((s+1:Nat):Int) 0 false x.lv ⟨#[]⟩ [iV 0,.bool false,.bool x.lv,iV 0,.string ⟨#[]⟩,.slice none 0 0] [iV ((s+1:Nat):Int),.bool false,.bool x.lv,iV 0,.string ⟨#[]⟩,.slice none 0 0] [] [] none 0 0 h h) ⟨rfl,q1,hd,q2,hd,p1,p2,p3 _ KA,S0,Len _ KA,Llv _ KA,lb7,st7 _ _ _ _ _ B7_0 (by simp) rfl,Lin _ K_1,Lin _ K_1,Ls _ K_1,st7 _ _ _ _ _ B7_1 (by simp) rfl,Len _ K_2,Lop _ K_2,ltF (by omega),aN B7_2 (by simp) rfl,st4 _ _ B4_2 rfl,aN (gE B4_2) (by simp) rfl,trivial⟩,K_2.setN (Nat.le_refl _) _,.inl ⟨rfl,rfl,rfl⟩⟩
     | some oo =>
      rw[hop] at Lop
      simp only[tkV,hinn,hen,lkN,if_true,if_false,Bool.false_eq_true]
      have B7_0:=B7
      have B4_0:=B4
      have K_0:=KB
      have K_1:=K_0.setN (show h.length<=h.length+1 by omega) (AObj.cells [iV 0,.bool false,.bool x.lv,iV 0,.string ⟨#[]⟩,.slice none 0 0] true)
      have B7_1:=gE (x:=AObj.cells [iV 0,.bool false,.bool x.lv,iV 0,.string ⟨#[]⟩,.slice none 0 0] true) B7_0
      have B4_1:=gNq (x:=AObj.cells [iV 0,.bool false,.bool x.lv,iV 0,.string ⟨#[]⟩,.slice none 0 0] true) B4_0 (show h.length+1≠h.length by omega)
      have K_2:=K_1.setN (show h.length<=h.length+1 by omega) (AObj.cells [iV ((s+1:Nat):Int),.bool false,.bool x.lv,iV 0,.string ⟨#[]⟩,.slice none 0 0] true)
      have B7_2:=gE (x:=AObj.cells [iV ((s+1:Nat):Int),.bool false,.bool x.lv,iV 0,.string ⟨#[]⟩,.slice none 0 0] true) B7_1
      have B4_2:=gNq (x:=AObj.cells [iV ((s+1:Nat):Int),.bool false,.bool x.lv,iV 0,.string ⟨#[]⟩,.slice none 0 0] true) B4_1 (show h.length+1≠h.length by omega)
      obtain⟨E1,g',v',l1,l2,l3,l4,l5,l6⟩:=task_loop a hx hop (fun s hs=>ok.opn k x s hx hs) (by omega) x.opn.length 0 [(71,iV 0),(70,iV (Int.ofNat x.opn.length)),(69,.slice (some ⟨oo,0,none⟩) x.opn.length 1),(7,ptr (h.length+1)),(4,ptr h.length)] _ (.slice none 0 0) (by omega) (EnvLe.refl _) K_2 B4_2 B7_2 (.inl ⟨rfl,rfl,rfl⟩)
      obtain⟨oa,la,za,hv'⟩:∃ oa la za,v'=.slice oa la za:=by rcases l6 with⟨_,_,e⟩ | ⟨_,_,o,e,_⟩<;>exact⟨_,_,_,e⟩
      subst hv'
      exact⟨.slice oa la za,_,pvF 0 Try.func13 (r13p.ta_101 r h.length (h.length+1) to t.tks.length k i si oo x.opn.length n (n-1) ((s+1:Nat):Int) 0 false x.lv ⟨#[]⟩ [iV 0,.bool false,.bool x.lv,iV 0,.string ⟨#[]⟩,.slice none 0 0] [iV ((s+1:Nat):Int),.bool false,.bool x.lv,iV 0,.string ⟨#[]⟩,.slice none 0 0] [] [] oa la za h g') ⟨rfl,q1,hd,q2,hd,p1,p2,p3 _ KA,S0,Len _ KA,Llv _ KA,lb7,st7 _ _ _ _ _ B7_0 (by simp) rfl,Lin _ K_1,Lin _ K_1,Ls _ K_1,st7 _ _ _ _ _ B7_1 (by simp) rfl,Len _ K_2,Lop _ K_2,a_loop (by kernel_rfl) (.add (.add (.add (.add (.add (.nil _) rfl) rfl) rfl) rfl) rfl) l1 l2,aN l5 (by simp) rfl,st4 _ _ l4 rfl,aN (gE l4) (by simp) rfl,trivial⟩,l3.setN (Nat.le_refl _) _,l6.keep (Keep.set (fp:=fun q=>q=h.length) rfl _) (fun q e=>by omega)⟩
    | true =>
     rw[hen] at Len
     cases hop:ρ (.op k) with
     | none =>
      have h0:=a.sh.op k x hx hop
      rw[hop,h0] at Lop
      simp only[tkV,hinn,hen,lkN,if_true,if_false,Bool.false_eq_true,h0]
      have B7_0:=B7
      have B4_0:=B4
      have K_0:=KB
      have K_1:=K_0.setN (show h.length<=h.length+1 by omega) (AObj.cells [iV 0,.bool true,.bool x.lv,iV 0,.string ⟨#[]⟩,.slice none 0 0] true)
      have B7_1:=gE (x:=AObj.cells [iV 0,.bool true,.bool x.lv,iV 0,.string ⟨#[]⟩,.slice none 0 0] true) B7_0
      have B4_1:=gNq (x:=AObj.cells [iV 0,.bool true,.bool x.lv,iV 0,.string ⟨#[]⟩,.slice none 0 0] true) B4_0 (show h.length+1≠h.length by omega)
      have K_2:=K_1.setN (show h.length<=h.length+1 by omega) (AObj.cells [iV ((s+1:Nat):Int),.bool true,.bool x.lv,iV 0,.string ⟨#[]⟩,.slice none 0 0] true)
      have B7_2:=gE (x:=AObj.cells [iV ((s+1:Nat):Int),.bool true,.bool x.lv,iV 0,.string ⟨#[]⟩,.slice none 0 0] true) B7_1
      have B4_2:=gNq (x:=AObj.cells [iV ((s+1:Nat):Int),.bool true,.bool x.lv,iV 0,.string ⟨#[]⟩,.slice none 0 0] true) B4_1 (show h.length+1≠h.length by omega)
      have K_3:=K_2.setN (show h.length<=h.length+1 by omega) (AObj.cells [iV ((s+1:Nat):Int),.bool true,.bool x.lv,iV x.fk,.string x.ft,.slice none 0 0] true)
      have B7_3:=gE (x:=AObj.cells [iV ((s+1:Nat):Int),.bool true,.bool x.lv,iV x.fk,.string x.ft,.slice none 0 0] true) B7_2
      have B4_3:=gNq (x:=AObj.cells [iV ((s+1:Nat):Int),.bool true,.bool x.lv,iV x.fk,.string x.ft,.slice none 0 0] true) B4_2 (show h.length+1≠h.length by omega)
      exact⟨.slice none 0 0,_,pvF 0 Try.func13 (r13p.ta_110 r h.length (h.length+1) to t.tks.length k i si 0 0 n (n-1) ((s+1:Nat):Int) x.fk true x.lv x.ft [iV 0,.bool true,.bool x.lv,iV 0,.string ⟨#[]⟩,.slice none 0 0] [iV ((s+1:Nat):Int),.bool true,.bool x.lv,iV 0,.string ⟨#[]⟩,.slice none 0 0] [iV ((s+1:Nat):Int),.bool true,.bool x.lv,iV x.fk,.string x.ft,.slice none 0 0] [] none 0 0 h h) ⟨rfl,q1,hd,q2,hd,p1,p2,p3 _ KA,S0,Len _ KA,Llv _ KA,lb7,st7 _ _ _ _ _ B7_0 (by simp) rfl,Lin _ K_1,Lin _ K_1,Ls _ K_1,st7 _ _ _ _ _ B7_1 (by simp) rfl,Len _ K_2,Lft _ K_2,st7 _ _ _ _ _ B7_2 (by simp) rfl,Lop _ K_3,ltF (by omega),aN B7_3 (by simp) rfl,st4 _ _ B4_3 rfl,aN (gE B4_3) (by simp) rfl,trivial⟩,K_3.setN (Nat.le_refl _) _,.inl ⟨rfl,rfl,rfl⟩⟩
     | some oo =>
      rw[hop] at Lop
      simp only[tkV,hinn,hen,lkN,if_true,if_false,Bool.false_eq_true]
      have B7_0:=B7
      have B4_0:=B4
      have K_0:=KB
      have K_1:=K_0.setN (show h.length<=h.length+1 by omega) (AObj.cells [iV 0,.bool true,.bool x.lv,iV 0,.string ⟨#[]⟩,.slice none 0 0] true)
      have B7_1:=gE (x:=AObj.cells [iV 0,.bool true,.bool x.lv,iV 0,.string ⟨#[]⟩,.slice none 0 0] true) B7_0
      have B4_1:=gNq (x:=AObj.cells [iV 0,.bool true,.bool x.lv,iV 0,.string ⟨#[]⟩,.slice none 0 0] true) B4_0 (show h.length+1≠h.length by omega)
      have K_2:=K_1.setN (show h.length<=h.length+1 by omega) (AObj.cells [iV ((s+1:Nat):Int),.bool true,.bool x.lv,iV 0,.string ⟨#[]⟩,.slice none 0 0] true)
      have B7_2:=gE (x:=AObj.cells [iV ((s+1:Nat):Int),.bool true,.bool x.lv,iV 0,.string ⟨#[]⟩,.slice none 0 0] true) B7_1
      have B4_2:=gNq (x:=AObj.cells [iV ((s+1:Nat):Int),.bool true,.bool x.lv,iV 0,.string ⟨#[]⟩,.slice none 0 0] true) B4_1 (show h.length+1≠h.length by omega)
      have K_3:=K_2.setN (show h.length<=h.length+1 by omega) (AObj.cells [iV ((s+1:Nat):Int),.bool true,.bool x.lv,iV x.fk,.string x.ft,.slice none 0 0] true)
      have B7_3:=gE (x:=AObj.cells [iV ((s+1:Nat):Int),.bool true,.bool x.lv,iV x.fk,.string x.ft,.slice none 0 0] true) B7_2
      have B4_3:=gNq (x:=AObj.cells [iV ((s+1:Nat):Int),.bool true,.bool x.lv,iV x.fk,.string x.ft,.slice none 0 0] true) B4_2 (show h.length+1≠h.length by omega)
      obtain⟨E1,g',v',l1,l2,l3,l4,l5,l6⟩:=task_loop a hx hop (fun s hs=>ok.opn k x s hx hs) (by omega) x.opn.length 0 [(71,iV 0),(70,iV (Int.ofNat x.opn.length)),(69,.slice (some ⟨oo,0,none⟩) x.opn.length 1),(7,ptr (h.length+1)),(4,ptr h.length)] _ (.slice none 0 0) (by omega) (EnvLe.refl _) K_3 B4_3 B7_3 (.inl ⟨rfl,rfl,rfl⟩)
      obtain⟨oa,la,za,hv'⟩:∃ oa la za,v'=.slice oa la za:=by rcases l6 with⟨_,_,e⟩ | ⟨_,_,o,e,_⟩<;>exact⟨_,_,_,e⟩
      subst hv'
      exact⟨.slice oa la za,_,pvF 0 Try.func13 (r13p.ta_111 r h.length (h.length+1) to t.tks.length k i si oo x.opn.length n (n-1) ((s+1:Nat):Int) x.fk true x.lv x.ft [iV 0,.bool true,.bool x.lv,iV 0,.string ⟨#[]⟩,.slice none 0 0] [iV ((s+1:Nat):Int),.bool true,.bool x.lv,iV 0,.string ⟨#[]⟩,.slice none 0 0] [iV ((s+1:Nat):Int),.bool true,.bool x.lv,iV x.fk,.string x.ft,.slice none 0 0] [] oa la za h g') ⟨rfl,q1,hd,q2,hd,p1,p2,p3 _ KA,S0,Len _ KA,Llv _ KA,lb7,st7 _ _ _ _ _ B7_0 (by simp) rfl,Lin _ K_1,Lin _ K_1,Ls _ K_1,st7 _ _ _ _ _ B7_1 (by simp) rfl,Len _ K_2,Lft _ K_2,st7 _ _ _ _ _ B7_2 (by simp) rfl,Lop _ K_3,a_loop (by kernel_rfl) (.add (.add (.add (.add (.add (.nil _) rfl) rfl) rfl) rfl) rfl) l1 l2,aN l5 (by simp) rfl,st4 _ _ l4 rfl,aN (gE l4) (by simp) rfl,trivial⟩,l3.setN (Nat.le_refl _) _,l6.keep (Keep.set (fp:=fun q=>q=h.length) rfl _) (fun q e=>by omega)⟩
end
end Go.Proofs.Ytahomnlkkafbjaa.tr
namespace Go.Proofs.Ytahomnlkkafbjaa.tr
open Go Go.Ev
def nmL(l:List Nat):List Value:=l.map fun j=>iV ((j+1:Nat):Int)
theorem nmL_len(l:List Nat):(nmL l).length=l.length:=by simp[nmL]
theorem stat14(k:Nat)(hk:k=0\/k=1):(Asm.stat (drawN Try.f14 k)).holds Try.prog:=by
 rcases hk with rfl | rfl
 ·exact show statOk (drawN Try.f14 0)=true by kernel_rfl
 ·exact show statOk (drawN Try.f14 1)=true by kernel_rfl
section
variable {h:Hp} {ρ:Lay} {t:TS} {c r:Nat}
theorem scope_loop(a:TAt h ρ t){kk:Nat}{x:Sc}{oo:Nat}(hx:t.scs[kk]?=some x)(ho:ρ (.st kk)=some oo)(hin:∀ j,j∈x.tks->j<t.tks.length)(hlen:x.tks.length<=1000000){e0 e1 e2 e4 e5:Value}{z4:List Value} :
  ∀ (j i:Nat) (E:Env) (g:Hp) (v:Value),i+j=x.tks.length->EnvLe [(46,iV (i:Int)),(45,iV (Int.ofNat x.tks.length)),(44,.slice (some ⟨oo,0,none⟩) x.tks.length 1),(8,ptr (h.length+1)),(4,ptr h.length)] E ->
   Keep (fun _=>False) h g->g[h.length]?=some (.cells z4 true)->g[h.length+1]?=some (.cells [e0,e1,e2,v,e4,e5] true)->SlV g (h.length+2) v i 1 (nmL (x.tks.take i)) ->
   ∃ E1 g' v',EnvLe [(8,ptr (h.length+1)),(4,ptr h.length)] E1/\LRun Try.prog 61 false (loopN Try.f14 0) E g (.exit 0) E1 g'/\Keep (fun _=>False) h g'/\g'[h.length]?=some (.cells z4 true)/\g'[h.length+1]?=some (.cells [e0,e1,e2,v',e4,e5] true)/\SlV g' (h.length+2) v' x.tks.length 1 (nmL x.tks):=by
 intro j
 induction j with
 | zero =>
  intro i E g v hi hE K h4 h7 hv
  have e:i=x.tks.length:=by omega
  subst e
  rw[List.take_length] at hv
  obtain⟨E2,q1,q2⟩:=pvC 0 hE (r13p.sl_out (h.length+1) h.length oo x.tks.length 0 0 0 0 0 0 _ 0 0 [] [] [] g g) ⟨ltF (by simp),trivial⟩
  exact⟨E2,g,v,tR q1,.last q2 (by simp),K,h4,h7,hv⟩
 | succ j ih =>
  intro i E g v hi hE K h4 h7 hv
  obtain⟨w,hw⟩:∃ w,x.tks[i]?=some w:=⟨_,List.getElem?_eq_getElem (by omega)⟩
  have ag:=a.grow K
  have hgl:=K.1
  have hwl:=hin w (List.mem_of_getElem? hw)
  obtain⟨wi,hwi⟩:=a.sh.tk w hwl
  obtain⟨y,hy⟩:∃ y,t.tks[w]?=some y:=⟨_,List.getElem?_eq_getElem hwl⟩
  have h7l:=get_lt h7
  have g1:(Asm.cmp .lss (i:Int) (Int.ofNat x.tks.length) true).holds Try.prog:=ltT (by simp;omega)
  have g2':(Asm.off i 0 (i:Int) x.tks.length 1).holds Try.prog:=offI (q:=i) rfl (by omega) (by omega)
  have g3:(Asm.ld1 (.is g) oo i (ptr wi)).holds Try.prog:=by
   have:=ag.ld1 (P:=Try.prog) (s:=.is g) rfl ho (d:=i) (v:=pvv (ρ (.tk w))) (by rw[cont_st hx,List.getElem?_map,hw];rfl)
   rwa [hwi] at this
  have g4:(Asm.arith .add .i64 (i:Int) 1 ((i+1:Nat):Int)).holds Try.prog:=addI rfl (by omega) (by omega)
  have gk:(Asm.ld1 (.is g) wi 0 (iV ((w+1:Nat):Int))).holds Try.prog:=ag.ld1 rfl hwi (by rw[cT hy];rfl)
  have gl:(Asm.ld1 (.is g) (h.length+1) 3 v).holds Try.prog:=aL h7 rfl
  rcases hv with⟨e0',e1',rfl⟩ | ⟨hn,hl,o,rfl,hob,hol⟩
  ·subst e0'
   obtain⟨E2,q1,q2⟩:=pvK 0 hE (r13p.sl_gon (h.length+1) h.length oo x.tks.length 0 wi 0 g.length (g.length+1) 0 _ ((0+1:Nat):Int) ((w+1:Nat):Int) [] [iV ((w+1:Nat):Int)] [e0,e1,e2,.slice (some ⟨g.length+1,0,none⟩) 1 1,e4,e5] g g)
    ⟨g1,g2',g3,stat14 1 (.inr rfl),gl,gk,rfl,a_appGN rfl rfl (by omega) (gW _ _) (pL _ _),a_st (gP (gP h7)) (by simp) rfl,g4,trivial⟩
   obtain⟨E3,g5,v',s1,s2,s3⟩:=ih 1 E2 ((g++[AObj.cells [iV ((w+1:Nat):Int)] true]++[AObj.cells [iV ((w+1:Nat):Int)] true]).set (h.length+1) (AObj.cells [e0,e1,e2,.slice (some ⟨g.length+1,0,none⟩) 1 1,e4,e5] true)) (.slice (some ⟨g.length+1,0,none⟩) 1 1) (by omega)
    (tR q1) (((K.pushN _).pushN _).setN (by omega) _) (gNq (gP (gP h4)) (by omega)) (gE (gP (gP h7)))
    (.inr ⟨by omega,by rw[take_one hw];simp[nmL],g.length+1,rfl,by rw[take_one hw];exact gNq (by simp[nmL]) (by omega),by omega⟩)
   exact⟨E3,g5,v',s1,.step q2 s2,s3⟩
  ·have hol2:=get_lt hob
   obtain⟨E2,q1,q2⟩:=pvK 0 hE (r13p.sl_gos (h.length+1) h.length oo x.tks.length i wi o g.length (g.length+1) i _ ((i+1:Nat):Int) ((w+1:Nat):Int) (nmL (x.tks.take i)++[iV ((w+1:Nat):Int)]) [iV ((w+1:Nat):Int)] [e0,e1,e2,.slice (some ⟨g.length+1,0,none⟩) (i+1) 1,e4,e5] g g)
    ⟨g1,g2',g3,stat14 1 (.inr rfl),gl,gk,rfl,a_appGS (b:=8) (z:=1) rfl rfl (by omega) (by omega) hl (gP hob) (gW _ _) (pL _ _),a_st (gP (gNq (gP h7) (by omega))) (by simp) rfl,g4,trivial⟩
   obtain⟨E3,g5,v',s1,s2,s3⟩:=ih (i+1) E2 (((g++[AObj.cells [iV ((w+1:Nat):Int)] true]).set o .dead++[AObj.cells (nmL (x.tks.take i)++[iV ((w+1:Nat):Int)]) true]).set (h.length+1) (AObj.cells [e0,e1,e2,.slice (some ⟨g.length+1,0,none⟩) (i+1) 1,e4,e5] true)) (.slice (some ⟨g.length+1,0,none⟩) (i+1) 1) (by omega)
    (tR q1) ((((K.pushN _).setN (by omega) _).pushN _).setN (by omega) _) (gNq (gP (gNq (gP h4) (by omega))) (by omega)) (gE (gP (gNq (gP h7) (by omega))))
    (.inr ⟨by omega,by rw[nmL_len,List.length_take];omega,g.length+1,rfl,by
     rw[take_one hw]
     refine gNq ?_ (by omega)
     rw[show nmL (x.tks.take i++[w])=nmL (x.tks.take i)++[iV ((w+1:Nat):Int)] by simp[nmL]]
     exact gV _ (by simp),by omega⟩)
   exact⟨E3,g5,v',s1,.step q2 s2,s3⟩
structure ScV where
 ow:Int
 su:Bool
 ov:Bool
 tk:List Nat
 fk:Int
 ft:ByteArray
def ScV.zero:ScV:=⟨0,false,false,[],0,⟨#[]⟩⟩
def scV(x:Sc):ScV:=⟨((x.ow+1:Nat):Int),x.su,x.ov,x.tks,x.fk,x.ft⟩
def ScV.C(w:ScV)(v:Value):List Value:=[iV w.ow,.bool w.su,.bool w.ov,v,iV w.fk,.string w.ft]
def TS.sco(t:TS)(n:Int):ScV×Int:=match t.scope n with
 | (some s,_)=>match t.scs[s]? with
  | some y=>(scV y,0)
  | none=>(.zero,6)
 | (none,_)=>(.zero,6)
theorem sco_run(a:TAt h ρ t)(ok:TOk c t)(hc:c<=100000)(hr:ρ .root=some r)(n:Int) :
  ∃ v h',Run Try.prog 14 [ptr r,iV n] h (.tuple #[.agg ((t.sco n).1.C v).toArray,iV (t.sco n).2]) h'/\Keep (fun _=>False) h h'/\SlV h' (h.length+2) v (t.sco n).1.tk.length 1 (nmL (t.sco n).1.tk):=by
 obtain⟨g1,hg1⟩:∃ g1,g1=h++[AObj.cells [iV 0,.bool false,.bool false,.slice none 0 0,iV 0,.string ⟨#[]⟩] true]:=⟨_,rfl⟩
 have K1:Keep (fun _=>False) h g1:=by rw[hg1];exact (Keep.refl (fun _=>False) h).pushN _
 have B4:g1[h.length]?=some (.cells [iV 0,.bool false,.bool false,.slice none 0 0,iV 0,.string ⟨#[]⟩] true):=by rw[hg1];exact gW _ _
 have l1:g1.length=h.length+1:=by rw[hg1];simp
 have R:=scope_run (a.grow K1) ok hr n
 have R':∀ v,Run Try.prog 41 [ptr r,iV n] g1 v g1->(Asm.call 41 [ptr r,iV n] (.push (.is h) (.cells [iV 0,.bool false,.bool false,.slice none 0 0,iV 0,.string ⟨#[]⟩] true)) v (.is g1)).holds Try.prog:=fun v hv=>by rw[hg1] at hv ⊢;exact hv
 have st4:∀ (s:SH) (l:List Value),s.den[h.length]?=some (.cells [iV 0,.bool false,.bool false,.slice none 0 0,iV 0,.string ⟨#[]⟩] true)->l.length=6->(Asm.st s h.length 0 l l).holds Try.prog:=fun s l e hl=>a_st e (by simp[hl]) (by simp[hl])
 rcases hq:t.scope n with⟨k | k,e⟩
 ·have e6:=scope_none hq
  subst e6
  rw[hq] at R
  have e':t.sco n=(.zero,6):=by simp only[TS.sco,hq]
  rw[e']
  exact⟨.slice none 0 0,_,pvF 0 Try.func14 (r13p.sc_err r h.length 0 0 0 0 0 n 6 0 0 false false ⟨#[]⟩ [] [] none 0 0 h g1 h) ⟨rfl,R' _ R,neT (by omega),st4 _ _ B4 rfl,aN (gE B4) (by simp) rfl,trivial⟩,K1.setN (Nat.le_refl _) _,.inl ⟨rfl,rfl,rfl⟩⟩
 ·obtain⟨rfl,hn,hk⟩:=scope_some hq
  obtain⟨y,hy⟩:∃ y,t.scs[k]?=some y:=⟨_,List.getElem?_eq_getElem hk⟩
  obtain⟨si,hs⟩:=a.sh.sc k hk
  have how:=ok.ow k y hy
  obtain⟨i,hi⟩:=a.sh.tk _ how
  obtain⟨x,hx⟩:∃ x,t.tks[y.ow]?=some x:=⟨_,List.getElem?_eq_getElem how⟩
  rw[hq] at R
  simp only[inP,hs,pvv] at R
  have e':t.sco n=(scV y,0):=by simp only[TS.sco,hq,hy]
  rw[e']
  have hml:=ok.mlen k y hy
  have ag:=a.grow K1
  have c8:∀ v,(Asm.st (.push (.is g1) (.cells [iV 0,.bool false,.bool false,.slice none 0 0,iV 0,.string ⟨#[]⟩] true)) (h.length+1) 0 [iV ((y.ow+1:Nat):Int),.bool y.su,.bool y.ov,v,iV y.fk,.string y.ft] [iV ((y.ow+1:Nat):Int),.bool y.su,.bool y.ov,v,iV y.fk,.string y.ft]).holds Try.prog:=fun v=>a_st (gV _ l1) (by simp) rfl
  have q1:(Asm.ld1 (.is g1) si 1 (ptr i)).holds Try.prog:=ag.ld1 rfl hs (by rw[cSq hy,scC,hi];rfl)
  have q2:(Asm.ld1 (.is g1) i 0 (iV ((y.ow+1:Nat):Int))).holds Try.prog:=ag.ld1 rfl hi (by rw[cT hx];rfl)
  have q3:(Asm.ld1 (.is g1) si 2 (.bool y.su)).holds Try.prog:=ag.ld1 rfl hs (by rw[cSq hy];rfl)
  have q4:(Asm.ld1 (.is g1) si 3 (.bool y.ov)).holds Try.prog:=ag.ld1 rfl hs (by rw[cSq hy];rfl)
  have q5:(Asm.ldn (.is g1) si 6 2 (fltC y.fk y.ft)).holds Try.prog:=ag.ldn rfl hs (by rw[cSq hy];simp[scC]) (by rw[cSq hy];rfl)
  obtain⟨g2,hg2⟩:∃ g2,g2=(g1++[AObj.cells [iV 0,.bool false,.bool false,.slice none 0 0,iV 0,.string ⟨#[]⟩] true]).set (h.length+1) (.cells [iV ((y.ow+1:Nat):Int),.bool y.su,.bool y.ov,.slice none 0 0,iV y.fk,.string y.ft] true):=⟨_,rfl⟩
  have K2:Keep (fun _=>False) h g2:=by rw[hg2];exact (K1.pushN _).setN (by omega) _
  have B8:g2[h.length+1]?=some (.cells [iV ((y.ow+1:Nat):Int),.bool y.su,.bool y.ov,.slice none 0 0,iV y.fk,.string y.ft] true):=by rw[hg2];exact gE (gV _ l1)
  have B42:g2[h.length]?=some (.cells [iV 0,.bool false,.bool false,.slice none 0 0,iV 0,.string ⟨#[]⟩] true):=by rw[hg2];exact gNq (gP B4) (by omega)
  have q6:(Asm.ld1 (.set (.push (.is g1) (.cells [iV 0,.bool false,.bool false,.slice none 0 0,iV 0,.string ⟨#[]⟩] true)) (h.length+1) (.cells [iV ((y.ow+1:Nat):Int),.bool y.su,.bool y.ov,.slice none 0 0,iV y.fk,.string y.ft] true)) si 4 (slv (ρ (.st k)) y.tks.length)).holds Try.prog:=(a.grow K2).ld1 (by rw[hg2];rfl) hs (by rw[cSq hy];rfl)
  cases hst:ρ (.st k) with
  | none =>
   have h0:=a.sh.st k y hy hst
   rw[hst,h0] at q6
   simp only[scV,h0]
   refine⟨.slice none 0 0,_,pvF 0 Try.func14 (r13p.sc_0 r h.length (h.length+1) si i 0 0 n 0 ((y.ow+1:Nat):Int) y.fk y.su y.ov y.ft [iV ((y.ow+1:Nat):Int),.bool y.su,.bool y.ov,.slice none 0 0,iV y.fk,.string y.ft] [] none 0 0 h g1 h) ⟨rfl,R' _ R,neF rfl,stat14 0 (.inl rfl),q1,q2,q3,q4,q5,l1,c8 _,q6,ltF (by omega),
    aN (gE (gV _ l1)) (by simp) rfl,st4 _ _ (gNq (gP B4) (by omega)) rfl,aN (gE (gNq (gP B4) (by omega))) (by simp) rfl,trivial⟩,((K1.pushN _).setN (by omega) _).setN (Nat.le_refl _) _,.inl ⟨rfl,rfl,rfl⟩⟩
  | some oo =>
   rw[hst] at q6
   obtain⟨E1,g',v',m1,m2,m3,m4,m5,m6⟩:=scope_loop a hy hst (fun j hj=>ok.mem k y j hy hj) (by omega) y.tks.length 0 [(46,iV 0),(45,iV (Int.ofNat y.tks.length)),(44,.slice (some ⟨oo,0,none⟩) y.tks.length 1),(8,ptr (h.length+1)),(4,ptr h.length)] g2 (.slice none 0 0) (by omega) (EnvLe.refl _) K2 B42 B8 (.inl ⟨rfl,rfl,rfl⟩)
   obtain⟨oa,la,za,hv'⟩:∃ oa la za,v'=.slice oa la za:=by rcases m6 with⟨_,_,e⟩ | ⟨_,_,o,e,_⟩<;>exact⟨_,_,_,e⟩
   subst hv'
   rw[hg2] at m2
   exact⟨.slice oa la za,_,pvF 0 Try.func14 (r13p.sc_1 r h.length (h.length+1) si i oo y.tks.length n 0 ((y.ow+1:Nat):Int) y.fk y.su y.ov y.ft [iV ((y.ow+1:Nat):Int),.bool y.su,.bool y.ov,.slice none 0 0,iV y.fk,.string y.ft] [] oa la za h g1 g') ⟨rfl,R' _ R,neF rfl,stat14 0 (.inl rfl),q1,q2,q3,q4,q5,l1,c8 _,q6,
    a_loop (by kernel_rfl) (.add (.add (.add (.add (.add (.nil _) rfl) rfl) rfl) rfl) rfl) m1 m2,aN m5 (by simp) rfl,st4 _ _ m4 rfl,aN (gE m4) (by simp) rfl,trivial⟩,m3.setN (Nat.le_refl _) _,m6.keep (Keep.set (fp:=fun q=>q=h.length) rfl _) (fun q e=>by omega)⟩
end
end Go.Proofs.Ytahomnlkkafbjaa.tr
namespace Go.Proofs.Ytahomnlkkafbjaa.tr
open Go Go.Ev
theorem awake_run(h:Hp):Run Try.prog 12 [] h (.bool true) h:=Run.of_ev (k:=60) (by kernel_rfl)
structure OpV where
 k:Int
 n:Int
 y:Bool
 fk:Int
 ft:ByteArray
def OpV.cells(o:OpV):List Value:=[iV o.k,iV o.n,.bool o.y,iV o.fk,.string o.ft]
def opC:List OpV->List Value
 | []=>[]
 | o::l=>o.cells++opC l
theorem opC_len:∀ l:List OpV,(opC l).length=l.length*5
 | []=>rfl
 | o::l=>by simp[opC,OpV.cells,opC_len l];omega
theorem opC_at:∀ {l:List OpV} {k:Nat} {o:OpV},l[k]?=some o->((opC l).drop (k*5)).take 5=o.cells
 | [],k,o,h=>by simp at h
 | x::l,0,o,h=>by
  simp at h;subst h
  simp[opC,OpV.cells]
 | x::l,k+1,o,h=>by
  have:=opC_at (l:=l) (k:=k) (o:=o) (by simpa using h)
  rw[opC,List.drop_append,List.drop_of_length_le (by simp[OpV.cells];omega),show (k+1)*5-x.cells.length=k*5 by simp[OpV.cells];omega,List.nil_append]
  exact this
def TS.run(t:TS)(o:OpV):TS×List Ef :=
 if o.k=0 then ((t.open o.n o.y).1,[]) else if o.k=1 then ((t.spawn o.n).1,[]) else if o.k=2 then ((t.end o.n o.fk o.ft).1,(t.end o.n o.fk o.ft).2.1) else
 if o.k=3 then ((t.leave o.n o.fk o.ft).1,(t.leave o.n o.fk o.ft).2.1) else if o.k=4 then ((t.shield o.n).1,[]) else if o.k=5 then ((t.unveil o.n).1,[]) else
 if o.k=6 then ((t.fail o.n o.fk o.ft).1,(t.fail o.n o.fk o.ft).2.1) else if o.k=7 then (t.root.1,[]) else (t,[])
theorem TOk.run{t:TS}{c:Nat}{o:OpV}(ok:TOk c t):TOk (c+1) (t.run o).1:=by
 unfold TS.run
 repeat' split
 ·exact ok.open
 ·exact ok.spawn
 ·exact ok.end
 ·exact ok.leave
 ·exact ok.shield
 ·exact ok.unveil
 ·exact ok.fail
 ·exact ok.root
 ·exact ok.mono (Nat.le_succ c)
section
variable {h:Hp} {ρ:Lay} {t:TS} {c r:Nat}
def TS.told(t:TS)(o:OpV):TS×List Ef×Bool :=
 if o.k=2 then ((t.end o.n o.fk o.ft).1,(t.end o.n o.fk o.ft).2.1,decide ((t.end o.n o.fk o.ft).2.2=0)) else
 if o.k=3 then ((t.leave o.n o.fk o.ft).1,(t.leave o.n o.fk o.ft).2.1,decide ((t.leave o.n o.fk o.ft).2.2=0)) else
 if o.k=6 then ((t.fail o.n o.fk o.ft).1,(t.fail o.n o.fk o.ft).2.1,decide ((t.fail o.n o.fk o.ft).2.2=0)) else ((t.run o).1,(t.run o).2,true)
theorem told_run'{t:TS}{o:OpV}:(t.told o).1=(t.run o).1/\(t.told o).2.1=(t.run o).2:=by
 unfold TS.told
 by_cases c2:o.k=2
 ·simp[TS.run,c2]
 ·by_cases c3:o.k=3
  ·simp[TS.run,c3]
  ·by_cases c6:o.k=6
   ·simp[TS.run,c6]
   ·simp[c2,c3,c6]
end
end Go.Proofs.Ytahomnlkkafbjaa.tr
namespace Go.Proofs.Ytahomnlkkafbjaa.tr
open Go Go.Ev
def TS.runL(t:TS)(l:List OpV):TS:=l.foldl (fun t o=>(t.run o).1) t
theorem runL_app(t:TS)(l m:List OpV):t.runL (l++m)=(t.runL l).runL m:=List.foldl_append
theorem runL_one(t:TS)(o:OpV):t.runL [o]=(t.run o).1:=rfl
theorem TOk.runL{c:Nat}:∀ {l:List OpV} {t:TS},TOk c t->TOk (c+l.length) (t.runL l):=by
 intro l
 induction l generalizing c with
 | nil=>intro t ok;exact ok
 | cons o l ih =>
  intro t ok
  have:=ih ok.run (t:=(t.run o).1)
  rw[List.length_cons,show c+(l.length+1)=c+1+l.length by omega]
  exact this
def OpsAt(h:Hp)(v:Value)(l:List OpV):Prop:=(l=[]/\v=.slice none 0 0)\/∃ o rw,v=.slice (some ⟨o,0,none⟩) l.length 5/\h[o]?=some (.cells (opC l) rw)
end Go.Proofs.Ytahomnlkkafbjaa.tr
namespace Go.Proofs.Ytahomnlkkafbjaa.tr
open Go Go.Ev
structure Ft where
 k:Int
 t:ByteArray
end Go.Proofs.Ytahomnlkkafbjaa.tr
namespace Go.Proofs.Ytahomnlkkafbjaa.tr
open Go Go.Ev
section
variable {first block:List Ft} {t:TS} {c k:Nat}
theorem upT_inv{f:Tk->Tk}{j:Nat}{z:Tk}(h:(t.upT k f).tks[j]?=some z):∃ x,t.tks[j]?=some x/\((k=j/\z=f x)\/(k≠j/\z=x)):=by
 rw[upT_get] at h
 cases e:t.tks[j]? with
 | none=>rw[e] at h;cases h
 | some x =>
  rw[e] at h
  simp only[Option.map_some,Option.some.injEq] at h
  split at h
  ·rename_i e';exact⟨x,rfl,.inl ⟨e',h.symm⟩⟩
  ·rename_i e';exact⟨x,rfl,.inr ⟨e',h.symm⟩⟩
theorem upS_inv{f:Sc->Sc}{j:Nat}{z:Sc}(h:(t.upS k f).scs[j]?=some z):∃ x,t.scs[j]?=some x/\((k=j/\z=f x)\/(k≠j/\z=x)):=by
 rw[upS_get] at h
 cases e:t.scs[j]? with
 | none=>rw[e] at h;cases h
 | some x =>
  rw[e] at h
  simp only[Option.map_some,Option.some.injEq] at h
  split at h
  ·rename_i e';exact⟨x,rfl,.inl ⟨e',h.symm⟩⟩
  ·rename_i e';exact⟨x,rfl,.inr ⟨e',h.symm⟩⟩
end
end Go.Proofs.Ytahomnlkkafbjaa.tr
namespace Go.Proofs.Ytahomnlkkafbjaa.tr
open Go Go.Ev
section
variable {first block:List Ft} {t:TS} {c k:Nat}
end
end Go.Proofs.Ytahomnlkkafbjaa.tr
namespace Go.Proofs.Ytahomnlkkafbjaa.tr
open Go Go.Ev
section
variable {g g':Hp} {ρ ρ':Lay} {t t':TS} {b o f1 f2:Nat} {ops:List OpV} {first block:List Ft} {c:Nat}
end
end Go.Proofs.Ytahomnlkkafbjaa.tr
namespace Go.Proofs.Ytahomnlkkafbjaa.tr
open Go Go.Ev
section
variable {g g':Hp} {ρ ρ':Lay} {t t':TS} {b o f1 f2:Nat} {ops:List OpV} {first block:List Ft} {c:Nat}
end
end Go.Proofs.Ytahomnlkkafbjaa.tr
namespace Go.Proofs.Ytahomnlkkafbjaa.tr
open Go Go.Ev
section
variable {g g':Hp} {ρ ρ':Lay} {t t':TS} {b o f1 f2:Nat} {ops:List OpV} {first block:List Ft} {c:Nat}
end
end Go.Proofs.Ytahomnlkkafbjaa.tr
namespace Go.Proofs.Ytahomnlkkafbjaa.tr
open Go Go.Ev
theorem efC_at:∀ {l:List Ef} {k:Nat} {e:Ef},l[k]?=some e->((efC l).drop (k*5)).take 5=e.cells
 | [],k,e,h=>by simp at h
 | x::l,0,e,h=>by
  simp at h;subst h
  simp[efC,Ef.cells]
 | x::l,k+1,e,h=>by
  have:=efC_at (l:=l) (k:=k) (e:=e) (by simpa using h)
  rw[efC,List.drop_append,List.drop_of_length_le (by simp[Ef.cells];omega),show (k+1)*5-x.cells.length=k*5 by simp[Ef.cells];omega,List.nil_append]
  exact this
theorem leaves30:leaves Try.prog 8 30=some (2,[(0,.int .i64),(1,.string)]):=by kernel_rfl
theorem guard30:Try.prog.eqGuardType Try.prog.depth 30=false:=by kernel_rfl
theorem aeqF(k:Int)(s:ByteArray):(Asm.aeq .neq 30 #[iV k,.string s] #[iV k,.string s] false).holds Try.prog:=by
 refine⟨rfl,rfl,.inr ⟨rfl,?_⟩⟩
 simp[aggEq,leaves30,guard30,eqOffs,leafEq]
section
variable {g g':Hp} {ρ ρ':Lay} {t t':TS} {b o f1 f2:Nat} {ops:List OpV} {first block:List Ft} {c:Nat}
end
end Go.Proofs.Ytahomnlkkafbjaa.tr
namespace Go.Proofs.Ytahomnlkkafbjaa.tr
open Go Go.Ev
section
variable {g g':Hp} {ρ ρ':Lay} {t t':TS} {b o f1 f2:Nat} {ops:List OpV} {first block:List Ft} {c:Nat}
theorem saidE_len(s:Nat)(z:Bool):(saidE s z).length<=1:=by cases z<;>simp[saidE]
theorem liveE_len(s:Nat)(fk:Int)(y:Sc):(liveE s fk y).length<=1:=by unfold liveE;split<;>simp
theorem told_len(t:TS)(x:OpV):(t.told x).2.1.length<=1000:=by
 have hf:=fun (t:TS) s=>fin_len t s
 have h1:∀ n fk ft,(t.end n fk ft).2.1.length<=1000:=fun n fk ft=>by
  unfold TS.end
  repeat' split
  all_goals first | exact Nat.zero_le _ | (show List.length (HAppend.hAppend (α:=List Ef) (β:=List Ef) (γ:=List Ef) _ _)<=_;rw[List.length_append];exact Nat.le_trans (Nat.add_le_add (saidE_len _ _) (hf _ _)) (by omega))
 have h2:∀ n fk ft,(t.leave n fk ft).2.1.length<=1000:=fun n fk ft=>by
  unfold TS.leave
  repeat' split
  all_goals first | exact Nat.zero_le _ | (show List.length (HAppend.hAppend (α:=List Ef) (β:=List Ef) (γ:=List Ef) _ _)<=_;rw[List.length_append];exact Nat.le_trans (Nat.add_le_add (liveE_len _ _ _) (hf _ _)) (by omega))
 have h3:∀ n fk ft,(t.fail n fk ft).2.1.length<=1000:=fun n fk ft=>by
  unfold TS.fail
  repeat' split
  all_goals simp
 rw[told_run'.2]
 unfold TS.run
 repeat' split
 all_goals first | exact h1 _ _ _ | exact h2 _ _ _ | exact h3 _ _ _ | simp
end
end Go.Proofs.Ytahomnlkkafbjaa.tr
namespace Go.Proofs.Ytahomnlkkafbjaa.tr
open Go Go.Ev
end Go.Proofs.Ytahomnlkkafbjaa.tr
namespace Go.Proofs.Ytahomnlkkafbjaa.tr
open Go Go.Ev
theorem chunks{α:Type}(f:α->List Value){z:Nat}(hz:∀ x,(f x).length=z):∀ (n:Nat) (c:List Value),c.length=n*z->(∀ k,k<n->∃ x,(c.drop (k*z)).take z=f x) ->
  ∃ l:List α,l.length=n/\c=l.flatMap f/\∀ k x,l[k]?=some x->(c.drop (k*z)).take z=f x
 | 0,c,hl,_=>⟨[],rfl,List.length_eq_zero_iff.1 (by simpa using hl),fun k x h=>by simp at h⟩
 | n+1,c,hl,hc=>by
  have hs:(n+1)*z=n*z+z:=by rw[Nat.add_mul,Nat.one_mul]
  obtain⟨x,hx⟩:=hc 0 (by omega)
  obtain⟨l,h1,h2,h3⟩:=chunks f hz n (c.drop z) (by rw[List.length_drop,hl,hs];omega) (fun k hk=>by
   obtain⟨y,hy⟩:=hc (k+1) (by omega)
   refine⟨y,?_⟩
   rw[List.drop_drop,<- hy,Nat.add_mul,Nat.one_mul,Nat.add_comm])
  refine⟨x::l,by simp[h1],?_,fun k y hy=>?_⟩
  ·rw[List.flatMap_cons,<- h2,<- hx,Nat.zero_mul,List.drop_zero,List.take_append_drop]
  ·cases k with
   | zero=>simp at hy;subst hy;exact hx
   | succ k =>
    have:=h3 k y (by simpa using hy)
    rw[List.drop_drop,Nat.add_comm z] at this
    rw[Nat.add_mul,Nat.one_mul];exact this
theorem opC_flat:∀ l:List OpV,l.flatMap OpV.cells=opC l
 | []=>rfl
 | x::l=>by rw[List.flatMap_cons,opC_flat l];rfl
section
variable {h:Hp} {F:Nat}
theorem c3:Try.prog.cellsOf 3=1:=by kernel_rfl
theorem c4:Try.prog.cellsOf 4=1:=by kernel_rfl
theorem c9:Try.prog.cellsOf 9=1:=by kernel_rfl
theorem c30:Try.prog.cellsOf 30=2:=by kernel_rfl
theorem c32:Try.prog.cellsOf 32=5:=by kernel_rfl
theorem u3:Try.prog.underlying 3=some (.int .i64):=by kernel_rfl
theorem u4:Try.prog.underlying 4=some .bool:=by kernel_rfl
theorem u9:Try.prog.underlying 9=some .string:=by kernel_rfl
theorem u22:Try.prog.underlying 22=some (.slice 32):=by kernel_rfl
theorem op_cells{cs:List Value}(hc:ATyped Try.prog h F 32 cs):∃ x:OpV,cs=x.cells:=by
 obtain⟨G,rfl,hl,hf⟩:=hc.asStruct Try.underlying32
 rw[c32] at hl
 match cs,hl with
 | [a,b,c,d,e],_ =>
  simp only[List.forall_mem_cons,c3,c4,c30] at hf
  obtain⟨k,h1,_⟩:=hf.1.asInt u3
  obtain⟨n,h2,_⟩:=hf.2.1.asInt u3
  obtain⟨t,h3⟩:=hf.2.2.1.asBool u4
  obtain⟨G,rfl,hl,hg⟩:=hf.2.2.2.1.asStruct Try.underlying30
  simp only[List.forall_mem_cons,c3,c9] at hg
  obtain⟨f,h4,_⟩:=hg.1.asInt u3
  obtain⟨s,h5,_⟩:=hg.2.1.asString u9
  simp at h1 h2 h3 h4 h5
  subst h1;subst h2;subst h3;subst h4;subst h5
  exact⟨⟨k,n,t,f,s⟩,rfl⟩
theorem ops_arg{a:Value}(ht:ArgTyped Try.prog h F 22 a):∃ l:List OpV,OpsAt h a l:=by
 obtain⟨G,rfl,rfl | ⟨i,len,c,rfl,hi,hl,_,hk⟩⟩:=ht.asSlice u22
 ·exact⟨[],.inl ⟨rfl,rfl⟩⟩
 ·rw[c32] at hl hk
  obtain⟨l,h1,h2,_⟩:=chunks OpV.cells (z:=5) (fun _=>rfl) len c hl (fun k hlt=>op_cells (hk k hlt))
  rw[opC_flat] at h2
  exact⟨l,.inr ⟨i,false,by rw[c32,h1],by rw[<- h2];exact hi⟩⟩
end
end Go.Proofs.Ytahomnlkkafbjaa.tr
namespace Go.Proofs.Ytahomnlkkafbjaa.tr
open Go Go.Ev
structure Ob(lo:Nat)(h:Hp)(σ:Lay)(C:Rl->List Value):Prop where
 inj:∀ r r' i,σ r=some i->σ r'=some i->r=r'
 obj:∀ r i,σ r=some i->h[i]?=some (.cells (C r) true)
 lo:∀ r i,σ r=some i->lo<=i
theorem Ob.lt{lo:Nat}{h:Hp}{σ:Lay}{C:Rl->List Value}(a:Ob lo h σ C){r:Rl}{i:Nat}(e:σ r=some i):i<h.length:=get_lt (a.obj r i e)
theorem Ob.keep{lo:Nat}{h h':Hp}{σ:Lay}{C:Rl->List Value}{fp:Nat->Prop}(a:Ob lo h σ C)(K:Keep fp h h')(hf:∀ q,fp q->¬ fpT σ q):Ob lo h' σ C :=
 ⟨a.inj,fun r i e=>K.2 _ _ (a.obj r i e) fun q=>hf i q ⟨r,e⟩,a.lo⟩
theorem Ob.grow{lo:Nat}{h h':Hp}{σ:Lay}{C:Rl->List Value}(a:Ob lo h σ C)(K:Keep (fun _=>False) h h'):Ob lo h' σ C:=a.keep K fun _ e=>e.elim
theorem Ob.upd{lo:Nat}{h h':Hp}{σ σ':Lay}{C C':Rl->List Value}{fp:Nat->Prop}(a:Ob lo h σ C)(D:Rl->Prop)(K:Keep fp h h')(hfp:∀ r q,σ r=some q->fp q->D r)
  (same:∀ r,¬ D r->σ' r=σ r/\(σ r≠none->C r=C' r))
  (new:∀ r i,D r->σ' r=some i->h'[i]?=some (.cells (C' r) true)/\lo<=i/\∀ r',σ' r'=some i->r'=r):Ob lo h' σ' C':=by
 refine⟨fun r r' i e e'=>?_,fun r i e=>?_,fun r i e=>?_⟩
 ·by_cases d:D r
  ·exact ((new r i d e).2.2 r' e').symm
  ·by_cases d':D r'
   ·exact (new r' i d' e').2.2 r e
   ·rw[(same r d).1] at e
    rw[(same r' d').1] at e'
    exact a.inj r r' i e e'
 ·by_cases d:D r
  ·exact (new r i d e).1
  ·obtain⟨s1,s2⟩:=same r d
   rw[s1] at e
   rw[<- s2 (by rw[e];simp)]
   exact K.2 _ _ (a.obj r i e) fun f=>d (hfp r i e f)
 ·by_cases d:D r
  ·exact (new r i d e).2.1
  ·rw[(same r d).1] at e
   exact a.lo r i e
theorem slv_ex(o:Option Nat)(n:Nat)(h:o=none->n=0):∃ oa za,slv o n=.slice oa n za/\∀ i,o=some i->oa=some ⟨i,0,none⟩/\za=1:=by
 cases o with
 | none=>rw[h rfl];exact⟨none,0,rfl,fun i e=>by cases e⟩
 | some i=>exact⟨_,1,rfl,fun j e=>by cases e;exact⟨rfl,rfl⟩⟩
theorem slv_any(o:Option Nat)(n:Nat):∃ oa la za,slv o n=.slice oa la za:=by cases o<;>exact⟨_,_,_,rfl⟩
theorem inP_any(ρ:Lay)(v:Option Nat):∃ p,inP ρ v=.pointer p:=by
 cases v with
 | none=>exact⟨_,rfl⟩
 | some s=>simp only[inP];cases ρ (.sc s)<;>exact⟨_,rfl⟩
def cL(ρ σ:Lay)(t:TS)(i j m:Nat):Rl->List Value
 | .root=>[slv (σ .ts) i,slv (σ .ss) j]
 | .ts=>(List.range i).map fun k=>pvv (σ (.tk k))
 | .ss=>(List.range j).map fun k=>pvv (σ (.sc k))
 | .tk k=>match t.tks[k]? with
  | some x=>if k<m then tkC σ k x else tkC ρ k x
  | none=>[]
 | .op k=>match t.tks[k]? with
  | some x=>x.opn.map (inP σ)
  | none=>[]
 | .sc k=>match t.scs[k]? with
  | some x=>scC σ k x
  | none=>[]
 | .st k=>match t.scs[k]? with
  | some x=>x.tks.map fun j=>pvv (σ (.tk j))
  | none=>[]
structure Dm(σ:Lay)(t:TS)(i j m:Nat):Prop where
 tk:∀ k,k<i->∃ q,σ (.tk k)=some q
 sc:∀ k,k<j->∃ q,σ (.sc k)=some q
 ts:σ .ts=none->i=0
 ss:σ .ss=none->j=0
 op:∀ (k:Nat) x,k<m->t.tks[k]?=some x->σ (.op k)=none->x.opn=[]
 st:∀ (k:Nat) x,k<j->t.scs[k]?=some x->σ (.st k)=none->x.tks=[]
 otk:∀ k,i<=k->σ (.tk k)=none
 oop:∀ k,m<=k->σ (.op k)=none
 osc:∀ k,j<=k->σ (.sc k)=none/\σ (.st k)=none
section
variable {h:Hp} {ρ:Lay} {t:TS} {c r b:Nat} {oa:Option Addr} {za:Nat}
theorem copy0(a:TAt h ρ t)(ok:TOk c t)(hr:ρ .root=some r)(hts:∀ i,ρ .ts=some i->oa=some ⟨i,0,none⟩/\za=1) :
  ∀ (j i:Nat) (E:Env) (g:Hp) (σ:Lay),i+j=t.tks.length->EnvLe [(25,iV (i:Int)),(24,iV (Int.ofNat t.tks.length)),(23,.slice oa t.tks.length za),(3,ptr b),(0,ptr r)] E ->
   Keep (fun _=>False) h g->Ob h.length g σ (cL ρ σ t i 0 0)->Dm σ t i 0 0->σ .root=some b ->
   ∃ E1 g' σ',EnvLe [(3,ptr b),(0,ptr r)] E1/\LRun Try.prog 177 false (loopN Try.f20 0) E g (.exit 0) E1 g'/\Keep (fun _=>False) h g'/\Ob h.length g' σ' (cL ρ σ' t t.tks.length 0 0)/\Dm σ' t t.tks.length 0 0/\σ' .root=some b:=by
 intro j
 induction j with
 | zero =>
  intro i E g σ hi hE K O D hb
  have e:i=t.tks.length:=by omega
  subst e
  obtain⟨E2,q1,q2⟩:=pvC 0 hE (r27p.c0_out none none 0 0 0 false false 0 ⟨#[]⟩ r b 0 0 0 0 0 0 0 oa t.tks.length za 0 t.tks.length 0 [] [] [] [] g) ⟨ltF (by simp),trivial⟩
  exact⟨E2,g,σ,tR q1,.last q2 (by simp),K,O,D,hb⟩
 | succ j ih =>
  intro i E g σ hi hE K O D hb
  have n64:=ok.n64
  have il:i<t.tks.length:=by omega
  obtain⟨x,hx⟩:∃ x,t.tks[i]?=some x:=⟨_,List.getElem?_eq_getElem il⟩
  obtain⟨xi,hxi⟩:=a.sh.tk i il
  obtain⟨to,hto⟩:=a.sh.ts' il
  obtain⟨rfl,rfl⟩:=hts to hto
  obtain⟨pin,hpin⟩:=inP_any ρ x.inn
  obtain⟨op,lp,zp,hop⟩:=slv_any (ρ (.op i)) x.opn.length
  have hC:tkC ρ i x=[iV ((i+1:Nat):Int),.pointer pin,.slice op lp zp,.bool x.lv,.bool x.en,iV x.fk,.string x.ft]:=by rw[tkC,hpin,hop]
  have bl:=O.lt hb
  have blo:=O.lo _ _ hb
  have Ki:=K.1
  have ag:=a.grow K
  have ob:=O.obj _ _ hb
  have A1:(Asm.cmp .lss (i:Int) (Int.ofNat t.tks.length) true).holds Try.prog:=ltT (by simp;omega)
  have A2:(Asm.off i 0 (i:Int) t.tks.length 1).holds Try.prog:=offI (q:=i) rfl il (by omega)
  have A3:(Asm.ld1 (.is g) to i (ptr xi)).holds Try.prog:=by
   have:=ag.ld1 (P:=Try.prog) (s:=.is g) rfl hto (cont_ts il)
   rwa [hxi] at this
  have A4:(Asm.ldn (.is g) xi 0 7 (tkC ρ i x)).holds Try.prog:=ag.ldn rfl hxi (by rw[cT hx];simp[tkC]) (by rw[cT hx];rfl)
  have A9:(Asm.arith .add .i64 (i:Int) 1 ((i+1:Nat):Int)).holds Try.prog:=addI rfl (by omega) (by omega)
  rw[hC] at A4
  cases ht:σ .ts with
  | none =>
   have i0:=D.ts ht
   subst i0
   have hd:=ob
   rw[show cL ρ σ t 0 0 0 .root=[.slice none 0 0,slv (σ .ss) 0] by simp only[cL,ht,slv]] at hd
   obtain⟨g',hg'⟩:∃ g',g'=((((g++[AObj.cells [iV 0,.pointer none,.slice none 0 0,.bool false,.bool false,iV 0,.string ⟨#[]⟩] true]).set g.length (.cells (tkC ρ 0 x) true))++[AObj.cells [ptr g.length] true])++[AObj.cells [ptr g.length] true]).set b (.cells [.slice (some ⟨g.length+2,0,none⟩) 1 1,slv (σ .ss) 0] true):=⟨_,rfl⟩
   have Kg:Keep (fun q=>q=b) g g':=by
    rw[hg']
    exact (((((Keep.refl (fun _=>False) g).pushN _).setN (Nat.le_refl _) _).pushN _).pushN _ |>.mono fun _ _ e=>e.elim).trans (Keep.set (fp:=fun q=>q=b) rfl _)
   obtain⟨E2,q1,q2⟩:=pvK 0 hE (r27p.c0_gon pin op lp zp ((0+1:Nat):Int) x.lv x.en x.fk x.ft r b to 0 xi g.length (g.length+1) (g.length+2) 0 none t.tks.length 1 0 (0:Nat) ((0+1:Nat):Int) (tkC ρ 0 x) [ptr g.length] [] [.slice (some ⟨g.length+2,0,none⟩) 1 1,slv (σ .ss) 0] g)
    ⟨A1,A2,A3,A4,rfl,a_st (gW _ _) (by simp) (by rw[hC];rfl),aL (gNq (gP hd) (by omega)) rfl,by simp[Asm.holds,SH.den],a_appGN rfl rfl (by omega) (gV _ (by simp[SH.den])) (by simp[SH.den]),a_st (gP (gP (gNq (gP hd) (by omega)))) (by simp) rfl,A9,trivial⟩
   obtain⟨σ',hσ⟩:∃ σ',σ'=put2 σ .ts (g.length+2) (.tk 0) g.length:=⟨_,rfl⟩
   have s1:σ' .ts=some (g.length+2):=by rw[hσ];exact put2_1
   have s2:σ' (.tk 0)=some g.length:=by rw[hσ];exact put2_2 (by simp)
   have so:∀ r,r≠.ts->r≠.tk 0->σ' r=σ r:=fun r h1 h2=>by rw[hσ];exact put2_o h1 h2
   have sb:σ' .root=some b:=by rw[so _ (by simp) (by simp)];exact hb
   have inv:∀ r q,σ' r=some q->r≠.ts->r≠.tk 0->q<g.length:=fun r q e h1 h2=>by rw[so r h1 h2] at e;exact O.lt e
   have O':Ob h.length g' σ' (cL ρ σ' t (0+1) 0 0):=by
    refine O.upd (fun r=>r=.root\/r=.ts\/r=.tk 0) Kg (fun r q e f=>by subst f;exact .inl (O.inj _ _ _ e hb)) (fun r d=>?_) (fun r q d e=>?_)
    ·have d1:r≠.root:=fun e=>d (.inl e)
     have d2:r≠.ts:=fun e=>d (.inr (.inl e))
     have d3:r≠.tk 0:=fun e=>d (.inr (.inr e))
     refine⟨so r d2 d3,fun hn=>?_⟩
     cases r with
     | root=>exact absurd rfl d1
     | ts=>exact absurd rfl d2
     | ss=>rfl
     | tk k=>simp[cL]
     | op k=>exact absurd (D.oop k (Nat.zero_le _)) hn
     | sc k=>exact absurd (D.osc k (Nat.zero_le _)).1 hn
     | st k=>exact absurd (D.osc k (Nat.zero_le _)).2 hn
    ·rcases d with rfl | rfl | rfl
     ·rw[sb] at e;cases e
      refine⟨?_,blo,fun r' e'=>?_⟩
      ·rw[show cL ρ σ' t (0+1) 0 0 .root=[.slice (some ⟨g.length+2,0,none⟩) 1 1,slv (σ .ss) 0] by simp only[cL,s1,so .ss (by simp) (by simp),slv]]
       rw[hg']
       exact gE (gP (gP (gNq (gP hd) (by omega))))
      ·by_cases r1:r'=.ts
       ·subst r1;rw[s1] at e';cases e';omega
       ·by_cases r2:r'=.tk 0
        ·subst r2;rw[s2] at e';cases e';omega
        ·rw[so r' r1 r2] at e';exact O.inj _ _ _ e' hb
     ·rw[s1] at e;cases e
      refine⟨?_,by omega,fun r' e'=>?_⟩
      ·rw[show cL ρ σ' t (0+1) 0 0 .ts=[ptr g.length] by simp[cL,s2,pvv]]
       rw[hg']
       exact gNq (gV _ (by simp)) (by omega)
      ·by_cases r1:r'=.ts
       ·exact r1
       ·by_cases r2:r'=.tk 0
        ·subst r2;rw[s2] at e';simp at e'
        ·have:=inv r' _ e' r1 r2;omega
     ·rw[s2] at e;cases e
      refine⟨?_,by omega,fun r' e'=>?_⟩
      ·rw[show cL ρ σ' t (0+1) 0 0 (.tk 0)=tkC ρ 0 x by simp[cL,hx]]
       rw[hg']
       exact gNq (gP (gP (gE (gW _ _)))) (by omega)
      ·by_cases r1:r'=.ts
       ·subst r1;rw[s1] at e';simp at e'
       ·by_cases r2:r'=.tk 0
        ·exact r2
        ·have:=inv r' _ e' r1 r2;omega
   have D':Dm σ' t (0+1) 0 0:=by
    refine⟨fun k hk=>?_,fun k hk=>absurd hk (Nat.not_lt_zero _),fun e=>(by rw[s1] at e;cases e),fun e=>rfl,fun k x hk=>absurd hk (Nat.not_lt_zero _),fun k x hk=>absurd hk (Nat.not_lt_zero _),fun k hk=>?_,fun k hk=>?_,fun k hk=>?_⟩
    ·have:k=0:=by omega
     subst this;exact⟨_,s2⟩
    ·rw[so _ (by simp) (by intro e;cases e;omega)];exact D.otk k (by omega)
    ·rw[so _ (by simp) (by simp)];exact D.oop k hk
    ·rw[so _ (by simp) (by simp),so _ (by simp) (by simp)];exact D.osc k hk
   obtain⟨E3,g3,σ3,w1,w2,w3,w4,w5,w6⟩:=ih (0+1) E2 g' σ' (by omega) (tR q1) (K.trans_new Kg fun q hq e=>by omega) O' D' sb
   refine⟨E3,g3,σ3,w1,.step q2 ?_,w3,w4,w5,w6⟩
   rw[hg'] at w2
   exact w2
  | some to' =>
   have tl:=O.lt ht
   have tlo:=O.lo _ _ ht
   have ot:=O.obj _ _ ht
   have ntb:to'≠b:=fun e=>by subst e;cases O.inj _ _ _ ht hb
   obtain⟨cs,hcs⟩:∃ cs,cs=(List.range i).map fun k=>pvv (σ (.tk k)):=⟨_,rfl⟩
   have csl:cs.length=i*1:=by rw[hcs];simp
   rw[show cL ρ σ t i 0 0 .ts=cs by rw[hcs];rfl] at ot
   have hd:=ob
   rw[show cL ρ σ t i 0 0 .root=[.slice (some ⟨to',0,none⟩) i 1,slv (σ .ss) 0] by simp only[cL,ht,slv]] at hd
   obtain⟨g',hg'⟩:∃ g',g'=((((g++[AObj.cells [iV 0,.pointer none,.slice none 0 0,.bool false,.bool false,iV 0,.string ⟨#[]⟩] true]).set g.length (.cells (tkC ρ i x) true))++[AObj.cells [ptr g.length] true]).set to' .dead++[AObj.cells (cs++[ptr g.length]) true]).set b (.cells [.slice (some ⟨g.length+2,0,none⟩) (i+1) 1,slv (σ .ss) 0] true):=⟨_,rfl⟩
   have Kg:Keep (fun q=>q=b\/q=to') g g':=by
    rw[hg']
    exact ((((((Keep.refl (fun _=>False) g).pushN _).setN (Nat.le_refl _) _).pushN _ |>.mono fun _ _ e=>e.elim).trans (Keep.set (fp:=fun q=>q=b\/q=to') (.inr rfl) _)).trans (Keep.push _ _ _)).trans (Keep.set (.inl rfl) _)
   obtain⟨E2,q1,q2⟩:=pvK 0 hE (r27p.c0_gos pin op lp zp ((i+1:Nat):Int) x.lv x.en x.fk x.ft r b to i xi g.length (g.length+1) (g.length+2) to' none t.tks.length 1 i i ((i+1:Nat):Int) (tkC ρ i x) [ptr g.length] (cs++[ptr g.length]) [.slice (some ⟨g.length+2,0,none⟩) (i+1) 1,slv (σ .ss) 0] g)
    ⟨A1,A2,A3,A4,rfl,a_st (gW _ _) (by simp) (by rw[hC];rfl),aL (gNq (gP hd) (by omega)) rfl,by simp[Asm.holds,SH.den],a_appGS rfl rfl (by omega) (by omega) csl (gP (gNq (gP ot) (by omega))) (gV _ (by simp[SH.den])) (by simp[SH.den]),a_st (gP (gNq (gP (gNq (gP hd) (by omega))) ntb)) (by simp) rfl,A9,trivial⟩
   obtain⟨σ',hσ⟩:∃ σ',σ'=put2 σ .ts (g.length+2) (.tk i) g.length:=⟨_,rfl⟩
   have s1:σ' .ts=some (g.length+2):=by rw[hσ];exact put2_1
   have s2:σ' (.tk i)=some g.length:=by rw[hσ];exact put2_2 (by simp)
   have so:∀ r,r≠.ts->r≠.tk i->σ' r=σ r:=fun r h1 h2=>by rw[hσ];exact put2_o h1 h2
   have sb:σ' .root=some b:=by rw[so _ (by simp) (by simp)];exact hb
   have inv:∀ r q,σ' r=some q->r≠.ts->r≠.tk i->q<g.length:=fun r q e h1 h2=>by rw[so r h1 h2] at e;exact O.lt e
   have O':Ob h.length g' σ' (cL ρ σ' t (i+1) 0 0):=by
    refine O.upd (fun r=>r=.root\/r=.ts\/r=.tk i) Kg (fun r q e f=>by
     rcases f with rfl | rfl
     ·exact .inl (O.inj _ _ _ e hb)
     ·exact .inr (.inl (O.inj _ _ _ e ht))) (fun r d=>?_) (fun r q d e=>?_)
    ·have d1:r≠.root:=fun e=>d (.inl e)
     have d2:r≠.ts:=fun e=>d (.inr (.inl e))
     have d3:r≠.tk i:=fun e=>d (.inr (.inr e))
     refine⟨so r d2 d3,fun hn=>?_⟩
     cases r with
     | root=>exact absurd rfl d1
     | ts=>exact absurd rfl d2
     | ss=>rfl
     | tk k=>simp[cL]
     | op k=>exact absurd (D.oop k (Nat.zero_le _)) hn
     | sc k=>exact absurd (D.osc k (Nat.zero_le _)).1 hn
     | st k=>exact absurd (D.osc k (Nat.zero_le _)).2 hn
    ·rcases d with rfl | rfl | rfl
     ·rw[sb] at e;cases e
      refine⟨?_,blo,fun r' e'=>?_⟩
      ·rw[show cL ρ σ' t (i+1) 0 0 .root=[.slice (some ⟨g.length+2,0,none⟩) (i+1) 1,slv (σ .ss) 0] by simp only[cL,s1,so .ss (by simp) (by simp),slv]]
       rw[hg']
       exact gE (gP (gNq (gP (gNq (gP hd) (by omega))) ntb))
      ·by_cases r1:r'=.ts
       ·subst r1;rw[s1] at e';cases e';omega
       ·by_cases r2:r'=.tk i
        ·subst r2;rw[s2] at e';cases e';omega
        ·rw[so r' r1 r2] at e';exact O.inj _ _ _ e' hb
     ·rw[s1] at e;cases e
      refine⟨?_,by omega,fun r' e'=>?_⟩
      ·rw[show cL ρ σ' t (i+1) 0 0 .ts=cs++[ptr g.length] by
        simp only[cL,List.range_succ,List.map_append,List.map_cons,List.map_nil,s2,pvv]
        rw[hcs]
        congr 1
        refine List.map_congr_left fun k hk=>?_
        rw[List.mem_range] at hk
        rw[so (.tk k) (by simp) (by intro e;cases e;omega)]
        rfl]
       rw[hg']
       exact gNq (gV _ (by simp)) (by omega)
      ·by_cases r1:r'=.ts
       ·exact r1
       ·by_cases r2:r'=.tk i
        ·subst r2;rw[s2] at e';simp at e'
        ·have:=inv r' _ e' r1 r2;omega
     ·rw[s2] at e;cases e
      refine⟨?_,by omega,fun r' e'=>?_⟩
      ·rw[show cL ρ σ' t (i+1) 0 0 (.tk i)=tkC ρ i x by simp[cL,hx]]
       rw[hg']
       exact gNq (gP (gNq (gP (gE (gW _ _))) (by omega))) (by omega)
      ·by_cases r1:r'=.ts
       ·subst r1;rw[s1] at e';simp at e'
       ·by_cases r2:r'=.tk i
        ·exact r2
        ·have:=inv r' _ e' r1 r2;omega
   have D':Dm σ' t (i+1) 0 0:=by
    refine⟨fun k hk=>?_,fun k hk=>absurd hk (Nat.not_lt_zero _),fun e=>(by rw[s1] at e;cases e),fun e=>rfl,fun k x hk=>absurd hk (Nat.not_lt_zero _),fun k x hk=>absurd hk (Nat.not_lt_zero _),fun k hk=>?_,fun k hk=>?_,fun k hk=>?_⟩
    ·by_cases e:k=i
     ·subst e;exact⟨_,s2⟩
     ·rw[so _ (by simp) (by intro e';cases e';exact e rfl)];exact D.tk k (by omega)
    ·rw[so _ (by simp) (by intro e;cases e;omega)];exact D.otk k (by omega)
    ·rw[so _ (by simp) (by simp)];exact D.oop k hk
    ·rw[so _ (by simp) (by simp),so _ (by simp) (by simp)];exact D.osc k hk
   obtain⟨E3,g3,σ3,w1,w2,w3,w4,w5,w6⟩:=ih (i+1) E2 g' σ' (by omega) (tR q1) (K.trans_new Kg fun q hq e=>by omega) O' D' sb
   refine⟨E3,g3,σ3,w1,.step q2 ?_,w3,w4,w5,w6⟩
   rw[hg'] at w2
   exact w2
end
end Go.Proofs.Ytahomnlkkafbjaa.tr
namespace Go.Proofs.Ytahomnlkkafbjaa.tr
open Go Go.Ev
theorem stat20(k:Nat)(hk:k=0\/k=1\/k=2\/k=3):(Asm.stat (drawN Try.f20 k)).holds Try.prog:=by
 rcases hk with rfl | rfl | rfl | rfl
 ·exact show statOk (drawN Try.f20 0)=true by kernel_rfl
 ·exact show statOk (drawN Try.f20 1)=true by kernel_rfl
 ·exact show statOk (drawN Try.f20 2)=true by kernel_rfl
 ·exact show statOk (drawN Try.f20 3)=true by kernel_rfl
section
variable {h:Hp} {ρ:Lay} {t:TS} {c r b:Nat} {oa:Option Addr} {za:Nat}
def cpS(σ:Lay)(l:List Nat):List Value:=l.map fun w=>pvv (σ (.tk w))
theorem copy2(a:TAt h ρ t)(ok:TOk c t)(hc:c<=100000){jj d:Nat}{y:Sc}{g0:Hp}{σ:Lay}{u47 u46 u45 e0 e1 e2 e3 e5 e6 e7:Value}(hy:t.scs[jj]?=some y)(hst:∀ i,ρ (.st jj)=some i->oa=some ⟨i,0,none⟩/\za=1)(hst0:ρ (.st jj)=none->y.tks.length=0)
  (O:Ob h.length g0 σ (cL ρ σ t t.tks.length jj 0)) (D:Dm σ t t.tks.length jj 0) (hb:σ .root=some b) (K0:Keep (fun _=>False) h g0) (hd:d=g0.length) :
  ∀ (j i:Nat) (E:Env) (g:Hp) (v:Value),i+j=y.tks.length->EnvLe [(75,iV (i:Int)),(74,iV (Int.ofNat y.tks.length)),(73,.slice oa y.tks.length za),(9,ptr d),(47,u47),(46,u46),(45,u45),(3,ptr b),(0,ptr r)] E ->
   Keep (fun _=>False) g0 g->g[d]?=some (.cells [e0,e1,e2,e3,v,e5,e6,e7] true)->SlV g (d+1) v i 1 (cpS σ (y.tks.take i)) ->
   ∃ E1 g' v',EnvLe [(9,ptr d),(47,u47),(46,u46),(45,u45),(3,ptr b),(0,ptr r)] E1/\LRun Try.prog 177 false (loopN Try.f20 2) E g (.exit 4) E1 g'/\Keep (fun _=>False) g0 g'/\g'[d]?=some (.cells [e0,e1,e2,e3,v',e5,e6,e7] true)/\SlV g' (d+1) v' y.tks.length 1 (cpS σ y.tks):=by
 intro j
 induction j with
 | zero =>
  intro i E g v hi hE K hgd hv
  have e:i=y.tks.length:=by omega
  subst e
  rw[List.take_length] at hv
  obtain⟨E2,q1,q2⟩:=pvC 0 hE (r27p.c2_out r b 0 0 d 0 0 0 0 0 0 0 0 oa y.tks.length za 0 y.tks.length 0 0 0 u47 u46 u45 [] [] [] g) ⟨ltF (by simp),trivial⟩
  exact⟨E2,g,v,tR q1,.last q2 (by simp),K,hgd,hv⟩
 | succ j ih =>
  intro i E g v hi hE K hgd hv
  have n64:=ok.n64
  obtain⟨w,hw⟩:∃ w,y.tks[i]?=some w:=⟨_,List.getElem?_eq_getElem (by omega)⟩
  have hml:=ok.mlen jj y hy
  have hwl:=ok.mem jj y w hy (List.mem_of_getElem? hw)
  obtain⟨x,hx⟩:∃ x,t.tks[w]?=some x:=⟨_,List.getElem?_eq_getElem hwl⟩
  obtain⟨wi,hwi⟩:=a.sh.tk w hwl
  obtain⟨ci,hci⟩:=D.tk w hwl
  cases hs:ρ (.st jj) with
  | none=>have:=hst0 hs;omega
  | some so =>
  obtain⟨rfl,rfl⟩:=hst so hs
  cases hts:σ .ts with
  | none=>have:=D.ts hts;omega
  | some to =>
  have ag:=a.grow (K0.trans K)
  have Og:=O.grow K
  have ob:=Og.obj _ _ hb
  rw[show cL ρ σ t t.tks.length jj 0 .root=[.slice (some ⟨to,0,none⟩) t.tks.length 1,slv (σ .ss) jj] by simp only[cL,hts,slv]] at ob
  have ot:=Og.obj _ _ hts
  have K0l:=K0.1
  have Kl:=K.1
  have dl:=get_lt hgd
  have ctl:(cL ρ σ t t.tks.length jj 0 .ts)[w]?=some (ptr ci):=by simp[cL,hwl,hci,pvv]
  have A1:(Asm.cmp .lss (i:Int) (Int.ofNat y.tks.length) true).holds Try.prog:=ltT (by simp;omega)
  have A2:(Asm.off i 0 (i:Int) y.tks.length 1).holds Try.prog:=offI (q:=i) rfl (by omega) (by omega)
  have A3:(Asm.ld1 (.is g) so i (ptr wi)).holds Try.prog:=by
   have:=ag.ld1 (P:=Try.prog) (s:=.is g) rfl hs (d:=i) (v:=pvv (ρ (.tk w))) (by rw[cont_st hy,List.getElem?_map,hw];rfl)
   rwa [hwi] at this
  have A5:(Asm.ld1 (.is g) d 4 v).holds Try.prog:=aL hgd rfl
  have A6:(Asm.ld1 (.is g) b 0 (.slice (some ⟨to,0,none⟩) t.tks.length 1)).holds Try.prog:=aL ob rfl
  have A7:(Asm.ld1 (.is g) wi 0 (iV ((w+1:Nat):Int))).holds Try.prog:=ag.ld1 rfl hwi (by rw[cT hx];rfl)
  have A8:(Asm.arith .sub .i64 ((w+1:Nat):Int) 1 (w:Int)).holds Try.prog:=subI (by omega) (by omega) (by omega)
  have A9:(Asm.off w 0 (w:Int) t.tks.length 1).holds Try.prog:=offI (q:=w) rfl hwl (by omega)
  have A10:(Asm.ld1 (.is g) to w (ptr ci)).holds Try.prog:=aL ot ctl
  have A11:(Asm.arith .add .i64 (i:Int) 1 ((i+1:Nat):Int)).holds Try.prog:=addI rfl (by omega) (by omega)
  rcases hv with⟨e0',e1',rfl⟩ | ⟨hn,hl,o,rfl,hob,hol⟩
  ·subst e0'
   obtain⟨E2,q1,q2⟩:=pvK 0 hE (r27p.c2_gon r b so 0 d g.length (g.length+1) 0 wi ci w to t.tks.length none y.tks.length 1 0 (0:Nat) ((0+1:Nat):Int) ((w+1:Nat):Int) w u47 u46 u45 [ptr ci] [] [e0,e1,e2,e3,.slice (some ⟨g.length+1,0,none⟩) 1 1,e5,e6,e7] g)
    ⟨A1,A2,A3,stat20 1 (by simp),A5,A6,A7,A8,A9,A10,rfl,a_appGN rfl rfl (by omega) (gW _ _) (pL _ _),a_st (gP (gP hgd)) (by simp) rfl,A11,trivial⟩
   obtain⟨E3,g5,v',s1,s2,s3⟩:=ih 1 E2 ((g++[AObj.cells [ptr ci] true]++[AObj.cells [ptr ci] true]).set d (AObj.cells [e0,e1,e2,e3,.slice (some ⟨g.length+1,0,none⟩) 1 1,e5,e6,e7] true)) (.slice (some ⟨g.length+1,0,none⟩) 1 1) (by omega)
    (tR q1) (((K.pushN _).pushN _).setN (by omega) _) (gE (gP (gP hgd)))
    (.inr ⟨by omega,by rw[take_one hw];simp[cpS],g.length+1,rfl,by rw[take_one hw];refine gNq ?_ (by omega);rw[show cpS σ (y.tks.take 0++[w])=[ptr ci] by simp[cpS,hci,pvv]];exact gV _ (pL _ _),by omega⟩)
   exact⟨E3,g5,v',s1,.step q2 s2,s3⟩
  ·have hol2:=get_lt hob
   obtain⟨E2,q1,q2⟩:=pvK 0 hE (r27p.c2_gos r b so i d g.length (g.length+1) o wi ci w to t.tks.length none y.tks.length 1 i i ((i+1:Nat):Int) ((w+1:Nat):Int) w u47 u46 u45 [ptr ci] (cpS σ (y.tks.take i)++[ptr ci]) [e0,e1,e2,e3,.slice (some ⟨g.length+1,0,none⟩) (i+1) 1,e5,e6,e7] g)
    ⟨A1,A2,A3,stat20 1 (by simp),A5,A6,A7,A8,A9,A10,rfl,a_appGS (b:=8) (z:=1) rfl rfl (by omega) (by omega) hl (gP hob) (gW _ _) (pL _ _),a_st (gP (gNq (gP hgd) (by omega))) (by simp) rfl,A11,trivial⟩
   obtain⟨E3,g5,v',s1,s2,s3⟩:=ih (i+1) E2 (((g++[AObj.cells [ptr ci] true]).set o .dead++[AObj.cells (cpS σ (y.tks.take i)++[ptr ci]) true]).set d (AObj.cells [e0,e1,e2,e3,.slice (some ⟨g.length+1,0,none⟩) (i+1) 1,e5,e6,e7] true)) (.slice (some ⟨g.length+1,0,none⟩) (i+1) 1) (by omega)
    (tR q1) ((((K.pushN _).setN (by omega) _).pushN _).setN (by omega) _) (gE (gP (gNq (gP hgd) (by omega))))
    (.inr ⟨by omega,by rw[take_one hw];simp[cpS];omega,g.length+1,rfl,by
     rw[take_one hw]
     refine gNq ?_ (by omega)
     rw[show cpS σ (y.tks.take i++[w])=cpS σ (y.tks.take i)++[ptr ci] by simp[cpS,hci,pvv]]
     exact gV _ (by simp),by omega⟩)
   exact⟨E3,g5,v',s1,.step q2 s2,s3⟩
theorem copy1(a:TAt h ρ t)(ok:TOk c t)(hc:c<=100000)(hr:ρ .root=some r)(hss:∀ i,ρ .ss=some i->oa=some ⟨i,0,none⟩/\za=1) :
  ∀ (j i:Nat) (E:Env) (g:Hp) (σ:Lay),i+j=t.scs.length->EnvLe [(47,iV (i:Int)),(46,iV (Int.ofNat t.scs.length)),(45,.slice oa t.scs.length za),(3,ptr b),(0,ptr r)] E ->
   Keep (fun _=>False) h g->Ob h.length g σ (cL ρ σ t t.tks.length i 0)->Dm σ t t.tks.length i 0->σ .root=some b ->
   ∃ E1 g' σ',EnvLe [(3,ptr b),(0,ptr r)] E1/\LRun Try.prog 177 false (loopN Try.f20 1) E g (.exit 2) E1 g'/\Keep (fun _=>False) h g'/\Ob h.length g' σ' (cL ρ σ' t t.tks.length t.scs.length 0)/\Dm σ' t t.tks.length t.scs.length 0/\σ' .root=some b:=by
 intro j
 induction j with
 | zero =>
  intro i E g σ hi hE K O D hb
  have e:i=t.scs.length:=by omega
  subst e
  obtain⟨E2,q1,q2⟩:=pvC 0 hE (r27p.c1_out none none 0 0 0 false false 0 ⟨#[]⟩ r b 0 0 0 0 0 0 0 0 0 0 0 0 oa none t.scs.length za 0 0 0 t.scs.length 0 0 0 0 [] [] [] [] [] [] g g) ⟨ltF (by simp),trivial⟩
  exact⟨E2,g,σ,tR q1,.last q2 (by simp),K,O,D,hb⟩
 | succ j ih =>
  intro i E g σ hi hE K O D hb
  have n64:=ok.n64
  have n200:=ok.n200
  have il:i<t.scs.length:=by omega
  obtain⟨y,hy⟩:∃ y,t.scs[i]?=some y:=⟨_,List.getElem?_eq_getElem il⟩
  obtain⟨xi,hxi⟩:=a.sh.sc i il
  obtain⟨to,hto⟩:=a.sh.ss' il
  obtain⟨rfl,rfl⟩:=hss to hto
  have how:=ok.ow i y hy
  obtain⟨oi,hoi⟩:=a.sh.tk _ how
  obtain⟨ox,hox⟩:∃ x,t.tks[y.ow]?=some x:=⟨_,List.getElem?_eq_getElem how⟩
  obtain⟨ci,hci⟩:=D.tk _ how
  cases hts:σ .ts with
  | none=>have:=D.ts hts;omega
  | some nt =>
  obtain⟨ob,zb,hst,hst2⟩:=slv_ex (ρ (.st i)) y.tks.length (fun e=>by rw[a.sh.st i y hy e];rfl)
  have hC:scC ρ i y=[iV ((i+1:Nat):Int),ptr oi,.bool y.su,.bool y.ov,.slice ob y.tks.length zb,iV y.live,iV y.fk,.string y.ft]:=by rw[scC,hoi,hst];rfl
  have bl:=O.lt hb
  have blo:=O.lo _ _ hb
  have Ki:=K.1
  have ag:=a.grow K
  have obj:=O.obj _ _ hb
  have ot:=O.obj _ _ hts
  rw[show cL ρ σ t t.tks.length i 0 .root=[.slice (some ⟨nt,0,none⟩) t.tks.length 1,slv (σ .ss) i] by simp only[cL,hts,slv]] at obj
  have ctl:(cL ρ σ t t.tks.length i 0 .ts)[y.ow]?=some (ptr ci):=by simp[cL,how,hci,pvv]
  have A1:(Asm.cmp .lss (i:Int) (Int.ofNat t.scs.length) true).holds Try.prog:=ltT (by simp;omega)
  have A2:(Asm.off i 0 (i:Int) t.scs.length 1).holds Try.prog:=offI (q:=i) rfl il (by omega)
  have A3:(Asm.ld1 (.is g) to i (ptr xi)).holds Try.prog:=by
   have:=ag.ld1 (P:=Try.prog) (s:=.is g) rfl hto (cont_ss il)
   rwa [hxi] at this
  have A4:(Asm.ldn (.is g) xi 0 8 (scC ρ i y)).holds Try.prog:=ag.ldn rfl hxi (by rw[cSq hy];simp[scC]) (by rw[cSq hy];rfl)
  rw[hC] at A4
  obtain⟨c80,hc80⟩:∃ c80:List Value,c80=[iV 0,.pointer none,.bool false,.bool false,.slice none 0 0,iV 0,iV 0,.string ⟨#[]⟩]:=⟨_,rfl⟩
  obtain⟨c81,hc81⟩:∃ c81:List Value,c81=[iV ((i+1:Nat):Int),ptr ci,.bool y.su,.bool y.ov,.slice ob y.tks.length zb,iV y.live,iV y.fk,.string y.ft]:=⟨_,rfl⟩
  obtain⟨c82,hc82⟩:∃ c82:List Value,c82=[iV ((i+1:Nat):Int),ptr ci,.bool y.su,.bool y.ov,.slice none 0 0,iV y.live,iV y.fk,.string y.ft]:=⟨_,rfl⟩
  have K1:Keep (fun _=>False) g ((g++[AObj.cells c80 true]).set g.length (.cells (scC ρ i y) true)):=((Keep.refl (fun _=>False) g).pushN _).setN (Nat.le_refl _) _
  have d1:((g++[AObj.cells c80 true]).set g.length (.cells (scC ρ i y) true))[g.length]?=some (.cells (scC ρ i y) true):=gE (gW _ _)
  have K2:=K1.setN (Nat.le_refl _) (.cells c81 true)
  have d2:=gE (x:=AObj.cells c81 true) d1
  have K3:=K2.setN (Nat.le_refl _) (.cells c82 true)
  have d3:=gE (x:=AObj.cells c82 true) d2
  obtain⟨g3,hg3⟩:∃ g3,g3=(((g++[AObj.cells c80 true]).set g.length (.cells (scC ρ i y) true)).set g.length (.cells c81 true)).set g.length (.cells c82 true):=⟨_,rfl⟩
  rw[<- hg3] at K3 d3
  obtain⟨F1,g4,v,l1,l2,l3,l4,l5⟩:=copy2 (r:=r) (oa:=ob) (za:=zb) (b:=b) a ok hc (u47:=iV i) (u46:=iV (Int.ofNat t.scs.length)) (u45:=.slice (some ⟨to,0,none⟩) t.scs.length 1) hy hst2 (fun e=>by rw[a.sh.st i y hy e];rfl) O D hb K rfl y.tks.length 0
   [(75,iV (0:Nat)),(74,iV (Int.ofNat y.tks.length)),(73,.slice ob y.tks.length zb),(9,ptr g.length),(47,iV i),(46,iV (Int.ofNat t.scs.length)),(45,.slice (some ⟨to,0,none⟩) t.scs.length 1),(3,ptr b),(0,ptr r)] g3 (.slice none 0 0) (by omega) (EnvLe.refl _) K3 (by rw[d3,hc82]) (.inl ⟨rfl,rfl,rfl⟩)
  have B1:(Asm.ld1 (.set (.push (.is g) (.cells c80 true)) g.length (.cells (scC ρ i y) true)) b 0 (.slice (some ⟨nt,0,none⟩) t.tks.length 1)).holds Try.prog:=aL (K1.2 _ _ obj id) rfl
  have B2:(Asm.ld1 (.set (.push (.is g) (.cells c80 true)) g.length (.cells (scC ρ i y) true)) xi 1 (ptr oi)).holds Try.prog:=by
   have:=(ag.grow K1).ld1 (P:=Try.prog) (s:=.set (.push (.is g) (.cells c80 true)) g.length (.cells (scC ρ i y) true)) rfl hxi (d:=1) (v:=pvv (ρ (.tk y.ow))) (by rw[cSq hy];rfl)
   rwa [hoi] at this
  have B3:(Asm.ld1 (.set (.push (.is g) (.cells c80 true)) g.length (.cells (scC ρ i y) true)) oi 0 (iV ((y.ow+1:Nat):Int))).holds Try.prog:=(ag.grow K1).ld1 rfl hoi (by rw[cT hox];rfl)
  have B4:(Asm.arith .sub .i64 ((y.ow+1:Nat):Int) 1 (y.ow:Int)).holds Try.prog:=subI (by omega) (by omega) (by omega)
  have B5:(Asm.off y.ow 0 (y.ow:Int) t.tks.length 1).holds Try.prog:=offI (q:=y.ow) rfl how (by omega)
  have B6:(Asm.ld1 (.set (.push (.is g) (.cells c80 true)) g.length (.cells (scC ρ i y) true)) nt y.ow (ptr ci)).holds Try.prog:=aL (K1.2 _ _ ot id) ctl
  have B7:(Asm.ld1 (.set (.set (.set (.push (.is g) (.cells c80 true)) g.length (.cells (scC ρ i y) true)) g.length (.cells c81 true)) g.length (.cells c82 true)) xi 4 (.slice ob y.tks.length zb)).holds Try.prog:=by
   rw[<- hst]
   exact (ag.grow K3).ld1 (by rw[hg3];rfl) hxi (by rw[cSq hy];rfl)
  have A9:(Asm.arith .add .i64 (i:Int) 1 ((i+1:Nat):Int)).holds Try.prog:=addI rfl (by omega) (by omega)
  rw[hg3] at l2
  have L:(Asm.loop 177 false (loopN Try.f20 2) _ (.set (.set (.set (.push (.is g) (.cells c80 true)) g.length (.cells (scC ρ i y) true)) g.length (.cells c81 true)) g.length (.cells c82 true)) (.exit 4) [(9,ptr g.length),(47,iV i),(46,iV (Int.ofNat t.scs.length)),(45,.slice (some ⟨to,0,none⟩) t.scs.length 1),(3,ptr b),(0,ptr r)] (.is g4)).holds Try.prog:=a_loop (by kernel_rfl) (EnvLe.refl _) l1 l2
  have O4:=O.grow l3
  have ob4:=O4.obj _ _ hb
  have l3l:=l3.1
  have l4l:=get_lt l4
  obtain⟨os,ls,zs,hvs⟩:∃ os ls zs,v=.slice os ls zs:=by rcases l5 with⟨_,_,e⟩ | ⟨_,_,o,e,_⟩<;>exact⟨_,_,_,e⟩
  obtain⟨so,hso,hso2⟩:∃ so:Option Nat,v=slv so y.tks.length/\(∀ q,so=some q->g4[q]?=some (.cells (cpS σ y.tks) true)/\g.length+1<=q):=by
   rcases l5 with⟨e1,e2,e3⟩ | ⟨_,_,o,e,e2,e3⟩
   ·exact⟨none,by rw[e3];rfl,fun q e=>by cases e⟩
   ·exact⟨some o,e,fun q e=>by cases e;exact⟨e2,e3⟩⟩
  have hso3:so=none->y.tks=[]:=fun e=>by
   rcases l5 with⟨e1,e2,e3⟩ | ⟨_,_,o,e',e2,e3⟩
   ·exact List.length_eq_zero_iff.1 e1
   ·rw[hso,e] at e';simp[slv] at e'
  have main:∀ (z zz:Nat) (g':Hp),z=g4.length+1->Keep (fun q=>q=b\/σ .ss=some q) g4 g'->g'[z]?=some (.cells ((List.range i).map (fun k=>pvv (σ (.sc k)))++[ptr g.length]) true)->g'[b]?=some (.cells [.slice (some ⟨nt,0,none⟩) t.tks.length 1,.slice (some ⟨z,0,none⟩) (i+1) 1] true) ->
    ∃ σ',Keep (fun _=>False) h g'/\Ob h.length g' σ' (cL ρ σ' t t.tks.length (i+1) 0)/\Dm σ' t t.tks.length (i+1) 0/\σ' .root=some b:=by
   intro z zz g' hz Kg hgz hgb
   obtain⟨σ',hσ⟩:∃ σ':Lay,σ'=fun r=>if r=.st i then so else put2 σ .ss z (.sc i) g.length r:=⟨_,rfl⟩
   have s0:σ' (.st i)=so:=by rw[hσ];simp
   have s1:σ' .ss=some z:=by rw[hσ];simp[put2_1]
   have s2:σ' (.sc i)=some g.length:=by rw[hσ];simp[put2_2]
   have sn:∀ r,r≠.st i->r≠.ss->r≠.sc i->σ' r=σ r:=fun r h0 h1 h2=>by rw[hσ];simp only[if_neg h0];exact put2_o h1 h2
   have sb:σ' .root=some b:=by rw[sn _ (by simp) (by simp) (by simp)];exact hb
   have inv:∀ r q,σ' r=some q->r≠.st i->r≠.ss->r≠.sc i->q<g.length/\σ r=some q:=fun r q e h0 h1 h2=>by rw[sn r h0 h1 h2] at e;exact⟨O.lt e,e⟩
   have hsl:∀ q,so=some q->q<g4.length:=fun q e=>get_lt (hso2 q e).1
   have Kg':Keep (fun q=>q=b\/σ .ss=some q) g g':=(l3.mono fun _ _ e=>e.elim).trans Kg
   have fpl:∀ q,(q=b\/σ .ss=some q)->q<g.length:=fun q e=>by
    rcases e with rfl | e
    ·exact bl
    ·exact O.lt e
   have tksame:∀ k,σ' (.tk k)=σ (.tk k):=fun k=>sn _ (by simp) (by simp) (by simp)
   refine⟨σ',K.trans_new Kg' fun q hq e=>?_,O.upd (fun r=>r=.root\/r=.ss\/r=.sc i\/r=.st i) Kg' (fun r q e f=>by
     rcases f with rfl | f
     ·exact .inl (O.inj _ _ _ e hb)
     ·exact .inr (.inl (O.inj _ _ _ e f))) (fun r d=>?_) (fun r q d e=>?_),?_,sb⟩
   ·rcases e with rfl | e
    ·omega
    ·have:=O.lo _ _ e;omega
   ·have e1:r≠.root:=fun e=>d (.inl e)
    have e2:r≠.ss:=fun e=>d (.inr (.inl e))
    have e3:r≠.sc i:=fun e=>d (.inr (.inr (.inl e)))
    have e4:r≠.st i:=fun e=>d (.inr (.inr (.inr e)))
    refine⟨sn r e4 e2 e3,fun hn=>?_⟩
    cases r with
    | root=>exact absurd rfl e1
    | ts=>simp only[cL,tksame]
    | ss=>exact absurd rfl e2
    | tk k=>simp[cL]
    | op k=>exact absurd (D.oop k (Nat.zero_le _)) hn
    | sc k =>
     have n1:Rl.st k≠.st i:=fun e=>e3 (by cases e;rfl)
     simp only[cL,scC,tksame,sn (.st k) n1 (by simp) (by simp)]
    | st k=>simp only[cL,tksame]
   ·rcases d with rfl | rfl | rfl | rfl
    ·rw[sb] at e;cases e
     refine⟨?_,blo,fun r' e'=>?_⟩
     ·rw[show cL ρ σ' t t.tks.length (i+1) 0 .root=[.slice (some ⟨nt,0,none⟩) t.tks.length 1,.slice (some ⟨z,0,none⟩) (i+1) 1] by simp only[cL,s1,sn .ts (by simp) (by simp) (by simp),hts,slv]]
      exact hgb
     ·by_cases r0:r'=.st i
      ·subst r0;rw[s0] at e';have:=hso2 _ e';omega
      ·by_cases r1:r'=.ss
       ·subst r1;rw[s1] at e';cases e';omega
       ·by_cases r2:r'=.sc i
        ·subst r2;rw[s2] at e';cases e';omega
        ·exact O.inj _ _ _ (inv r' _ e' r0 r1 r2).2 hb
    ·rw[s1] at e;cases e
     refine⟨?_,by omega,fun r' e'=>?_⟩
     ·rw[show cL ρ σ' t t.tks.length (i+1) 0 .ss=(List.range i).map (fun k=>pvv (σ (.sc k)))++[ptr g.length] by
       simp only[cL,List.range_succ,List.map_append,List.map_cons,List.map_nil,s2,pvv]
       congr 1
       refine List.map_congr_left fun k hk=>?_
       rw[List.mem_range] at hk
       rw[sn (.sc k) (by simp) (by simp) (by intro e;cases e;omega)]]
      exact hgz
     ·by_cases r0:r'=.st i
      ·subst r0;rw[s0] at e';have:=hsl _ e';omega
      ·by_cases r1:r'=.ss
       ·exact r1
       ·by_cases r2:r'=.sc i
        ·subst r2;rw[s2] at e';simp at e';omega
        ·have:=(inv r' _ e' r0 r1 r2).1;omega
    ·rw[s2] at e;cases e
     refine⟨?_,by omega,fun r' e'=>?_⟩
     ·rw[show cL ρ σ' t t.tks.length (i+1) 0 (.sc i)=[iV ((i+1:Nat):Int),ptr ci,.bool y.su,.bool y.ov,v,iV y.live,iV y.fk,.string y.ft] by simp only[cL,hy,scC,tksame,hci,pvv,s0,hso]]
      exact Kg.2 _ _ l4 fun e=>by have:=fpl _ e;omega
     ·by_cases r0:r'=.st i
      ·subst r0;rw[s0] at e';have:=hso2 _ e';omega
      ·by_cases r1:r'=.ss
       ·subst r1;rw[s1] at e';simp at e';omega
       ·by_cases r2:r'=.sc i
        ·exact r2
        ·have:=(inv r' _ e' r0 r1 r2).1;omega
    ·rw[s0] at e
     have hq:=hso2 q e
     have hq3:=hsl q e
     refine⟨?_,by omega,fun r' e'=>?_⟩
     ·rw[show cL ρ σ' t t.tks.length (i+1) 0 (.st i)=cpS σ y.tks by simp only[cL,hy,tksame,cpS]]
      exact Kg.2 _ _ hq.1 fun e=>by have:=fpl _ e;omega
     ·by_cases r0:r'=.st i
      ·exact r0
      ·by_cases r1:r'=.ss
       ·subst r1;rw[s1] at e';cases e';omega
       ·by_cases r2:r'=.sc i
        ·subst r2;rw[s2] at e';cases e';omega
        ·have:=(inv r' _ e' r0 r1 r2).1;omega
   ·refine⟨fun k hk=>?_,fun k hk=>?_,fun e=>?_,fun e=>(by rw[s1] at e;cases e),fun k x hk=>absurd hk (Nat.not_lt_zero _),fun k x hk hx e=>?_,fun k hk=>?_,fun k hk=>?_,fun k hk=>?_⟩
    ·rw[tksame];exact D.tk k hk
    ·by_cases e:k=i
     ·subst e;exact⟨_,s2⟩
     ·rw[sn _ (by simp) (by simp) (by intro e';cases e';exact e rfl)];exact D.sc k (by omega)
    ·rw[sn _ (by simp) (by simp) (by simp)] at e;exact D.ts e
    ·by_cases e1:k=i
     ·subst e1
      rw[hy] at hx;cases hx
      rw[s0] at e
      exact hso3 e
     ·rw[sn _ (by intro e';cases e';exact e1 rfl) (by simp) (by simp)] at e;exact D.st k x (by omega) hx e
    ·rw[tksame];exact D.otk k hk
    ·rw[sn _ (by simp) (by simp) (by simp)];exact D.oop k hk
    ·rw[sn _ (by simp) (by simp) (by intro e;cases e;omega),sn _ (by intro e;cases e;omega) (by simp) (by simp)];exact D.osc k (by omega)
  rw[show cL ρ σ t t.tks.length i 0 .root=[.slice (some ⟨nt,0,none⟩) t.tks.length 1,slv (σ .ss) i] by simp only[cL,hts,slv]] at ob4
  cases hs:σ .ss with
  | none =>
   have i0:=D.ss hs
   subst i0
   rw[hs] at ob4
   obtain⟨g',hg'⟩:∃ g',g'=((g4++[AObj.cells [ptr g.length] true])++[AObj.cells [ptr g.length] true]).set b (.cells [.slice (some ⟨nt,0,none⟩) t.tks.length 1,.slice (some ⟨g4.length+1,0,none⟩) 1 1] true):=⟨_,rfl⟩
   obtain⟨σ',m1,m2,m3,m4⟩:=main (g4.length+1) 0 g' rfl (by
     rw[hg']
     exact (((Keep.push _ _ _).trans (Keep.push _ _ _)).trans (Keep.set (fp:=fun q=>q=b\/σ .ss=some q) (.inl rfl) _))) (by rw[hg'];exact gNq (gV _ (by simp)) (by omega)) (by rw[hg'];exact gE (gP (gP ob4)))
   obtain⟨E2,q1,q2⟩:=pvK 0 hE (r27p.c1_gon (some ⟨oi,0,none⟩) ob y.tks.length zb ((0+1:Nat):Int) y.su y.ov y.fk y.ft r b to 0 xi g.length g4.length (g4.length+1) 0 oi ci y.ow nt t.tks.length none ob t.scs.length 1 y.tks.length zb 0 (0:Nat) ((0+1:Nat):Int) y.live ((y.ow+1:Nat):Int) y.ow (scC ρ 0 y) c81 c82 [ptr g.length] [] [.slice (some ⟨nt,0,none⟩) t.tks.length 1,.slice (some ⟨g4.length+1,0,none⟩) 1 1] g g4)
    ⟨A1,A2,A3,A4,rfl,by rw[<- hc80];exact a_st (gW _ _) (by simp[hc80]) (by rw[hC,hc80];rfl),stat20 0 (by simp),by rw[<- hc80];exact B1,by rw[<- hc80];exact B2,by rw[<- hc80];exact B3,B4,B5,by rw[<- hc80];exact B6,by rw[<- hc80];exact a_st d1 (by simp[scC]) (by rw[hC,hc81];rfl),by rw[<- hc80];exact a_st d2 (by simp[hc81]) (by rw[hc81,hc82];rfl),by rw[<- hc80];exact B7,by rw[<- hc80];exact a_loop (by kernel_rfl) (.add (.add (.add (.add (.add (.add (.add (.add (.add (.nil _) rfl) rfl) rfl) rfl) rfl) rfl) rfl) rfl) rfl) l1 l2,aL ob4 rfl,rfl,a_appGN rfl rfl (by omega) (gW _ _) (pL _ _),a_st (gP (gP ob4)) (by simp) rfl,A9,trivial⟩
   ·obtain⟨E3,g9,σ3,w1,w2,w3,w4,w5,w6⟩:=ih (0+1) E2 g' σ' (by omega) (tR q1) m1 m2 m3 m4
    refine⟨E3,g9,σ3,w1,.step q2 ?_,w3,w4,w5,w6⟩
    rw[hg'] at w2
    exact w2
  | some so' =>
   have os:=O4.obj _ _ hs
   have osl:=O4.lt hs
   have nsb:so'≠b:=fun e=>by subst e;cases O.inj _ _ _ hs hb
   rw[hs] at ob4
   obtain⟨cs,hcs⟩:∃ cs,cs=(List.range i).map fun k=>pvv (σ (.sc k)):=⟨_,rfl⟩
   have csl:cs.length=i*1:=by rw[hcs];simp
   rw[show cL ρ σ t t.tks.length i 0 .ss=cs by rw[hcs];rfl] at os
   obtain⟨g',hg'⟩:∃ g',g'=((g4++[AObj.cells [ptr g.length] true]).set so' .dead++[AObj.cells (cs++[ptr g.length]) true]).set b (.cells [.slice (some ⟨nt,0,none⟩) t.tks.length 1,.slice (some ⟨g4.length+1,0,none⟩) (i+1) 1] true):=⟨_,rfl⟩
   obtain⟨σ',m1,m2,m3,m4⟩:=main (g4.length+1) 0 g' rfl (by
     rw[hg']
     exact ((((Keep.push _ _ _).trans (Keep.set (fp:=fun q=>q=b\/σ .ss=some q) (.inr hs) _)).trans (Keep.push _ _ _)).trans (Keep.set (.inl rfl) _))) (by rw[hg',hcs];exact gNq (gV _ (by simp)) (by omega)) (by rw[hg'];exact gE (gP (gNq (gP ob4) nsb)))
   obtain⟨E2,q1,q2⟩:=pvK 0 hE (r27p.c1_gos (some ⟨oi,0,none⟩) ob y.tks.length zb ((i+1:Nat):Int) y.su y.ov y.fk y.ft r b to i xi g.length g4.length (g4.length+1) so' oi ci y.ow nt t.tks.length none ob t.scs.length 1 y.tks.length zb i i ((i+1:Nat):Int) y.live ((y.ow+1:Nat):Int) y.ow (scC ρ i y) c81 c82 [ptr g.length] (cs++[ptr g.length]) [.slice (some ⟨nt,0,none⟩) t.tks.length 1,.slice (some ⟨g4.length+1,0,none⟩) (i+1) 1] g g4)
    ⟨A1,A2,A3,A4,rfl,by rw[<- hc80];exact a_st (gW _ _) (by simp[hc80]) (by rw[hC,hc80];rfl),stat20 0 (by simp),by rw[<- hc80];exact B1,by rw[<- hc80];exact B2,by rw[<- hc80];exact B3,B4,B5,by rw[<- hc80];exact B6,by rw[<- hc80];exact a_st d1 (by simp[scC]) (by rw[hC,hc81];rfl),by rw[<- hc80];exact a_st d2 (by simp[hc81]) (by rw[hc81,hc82];rfl),by rw[<- hc80];exact B7,by rw[<- hc80];exact a_loop (by kernel_rfl) (.add (.add (.add (.add (.add (.add (.add (.add (.add (.nil _) rfl) rfl) rfl) rfl) rfl) rfl) rfl) rfl) rfl) l1 l2,aL ob4 rfl,rfl,a_appGS (b:=8) rfl rfl (by omega) (by omega) csl (gP os) (gW _ _) (pL _ _),a_st (gP (gNq (gP ob4) nsb)) (by simp) rfl,A9,trivial⟩
   ·obtain⟨E3,g9,σ3,w1,w2,w3,w4,w5,w6⟩:=ih (i+1) E2 g' σ' (by omega) (tR q1) m1 m2 m3 m4
    refine⟨E3,g9,σ3,w1,.step q2 ?_,w3,w4,w5,w6⟩
    rw[hg'] at w2
    exact w2
end
end Go.Proofs.Ytahomnlkkafbjaa.tr
