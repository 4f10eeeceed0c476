import Derived.Test.YtlonjogfeidgfaaSbEvLaw
namespace Go.Ev
variable {P : Program} {C C' : CallF}

/-- More fuel, the same answer. -/
def CLe (C C' : CallF) : Prop := ∀ t args h r, C t args h = some r → C' t args h = some r

theorem evStep_mono (hC : CLe C C') {h : Hp} {E : Env} {o : Oper} {r : Value × Hp} (he : evStep P C h E o = some r) : evStep P C' h E o = some r := by
  unfold evStep at he ⊢
  split
  · rename_i h1; simpa only [h1] using he
  · rename_i h1; simp only [h1] at he; exact hC _ _ _ _ he
  · rename_i h1; simp only [h1] at he; exact hC _ _ _ _ he
  · rename_i h1; simp only [h1] at he; cases he

theorem evOps_mono (hC : CLe C C') {n : Nat} {ops : Array Oper} : ∀ {l : List Oper} {E : Env} {h : Hp} {r : Env × Hp}, evOps P C n ops l E h = some r → evOps P C' n ops l E h = some r
  | [], E, h, r, he => he
  | o :: l, E, h, r, he => by
    unfold evOps at he ⊢
    split
    · rename_i hw
      simp only [hw] at he
      split at he
      · rename_i v h1 hs
        rw [evStep_mono hC hs]
        try simp only
        split at he
        · rename_i E' hp; (try simp only); exact evOps_mono hC he
        · cases he
      · cases he
    · rename_i hw
      simp only [hw] at he
      split at he
      · rename_i E' hp; (try simp only); exact evOps_mono hC he
      · cases he
    · rename_i hw; simp only [hw] at he; cases he

theorem traceO_mono (hC : CLe C C') {n : Nat} {ops : Array Oper} : ∀ {l : List Oper} {E : Env} {h : Hp} {r : List (Env × Hp)}, traceO P C n ops l E h = some r → traceO P C' n ops l E h = some r
  | [], E, h, r, he => he
  | o :: l, E, h, r, he => by
    unfold traceO at he ⊢
    have st : ∀ x, stepO P C ops o E h = some x → stepO P C' ops o E h = some x := fun x hx => by
      unfold stepO at hx ⊢
      split
      · rename_i hw; simp only [hw] at hx; exact evStep_mono hC hx
      · rename_i hw; simpa only [hw] using hx
      · rename_i hw; simp only [hw] at hx; cases hx
    split at he
    · rename_i v h1 hs
      rw [st _ hs]
      try simp only
      split at he
      · rename_i E' hp
        try simp only
        split at he
        · rename_i tr ht; rw [traceO_mono hC ht]; exact he
        · cases he
      · cases he
    · cases he

theorem evDraw_mono (hC : CLe C C') {n : Nat} {ops : Array Oper} {E : Env} {h : Hp} {r : Env × Hp} (he : evDraw P C n ops E h = some r) : evDraw P C' n ops E h = some r := by
  unfold evDraw at he ⊢
  split
  · rename_i h1
    simp only [h1] at he
    split
    · rename_i h2; simp only [h2] at he; exact evOps_mono hC he
    · rename_i ps hps
      split at he
      · rename_i h2; exact absurd h2 (by simpa using hps)
      · split at he
        · rename_i tr ht; rw [traceO_mono hC ht]; exact he
        · cases he
  · rename_i h1; simp only [h1] at he; cases he

theorem evLoop_mono {b b' : Env → Hp → Option (Ex × Env × Hp)} (hb : ∀ E h r, b E h = some r → b' E h = some r) : ∀ {k k' : Nat} {E : Env} {h : Hp} {r : Ex × Env × Hp}, k ≤ k' → evLoop b k E h = some r → evLoop b' k' E h = some r
  | 0, k', E, h, r, _, he => by simp [evLoop] at he
  | k + 1, 0, E, h, r, hk, _ => by omega
  | k + 1, k' + 1, E, h, r, hk, he => by
    unfold evLoop at he ⊢
    split at he
    · rename_i E' h' h1
      rw [hb _ _ _ h1]
      exact evLoop_mono hb (by omega) he
    · rename_i hx
      rw [hb _ _ _ he]
      split
      · rename_i E' h' h1
        simp only [Option.some.injEq] at h1
        subst h1
        exact absurd he (hx _ _)
      · rfl

theorem evRange_mono (hC : CLe C C') {n : Nat} {E : Env} {h : Hp} {g : Operand} {ps : Array Tmp} {assign body : Code} {r : Ex × Env × Hp} (he : evRange C n E h g ps assign body = some r) : evRange C' n E h g ps assign body = some r := by
  unfold evRange at he ⊢
  split at he
  · rename_i gv h1
    split at he
    · rename_i f args h2
      split at he
      · rename_i v h3 h4
        simp only [hC _ _ _ _ h4]
        exact he
      · cases he
    · cases he
  · cases he

theorem evCode_mono (hC : CLe C C') {n k k' : Nat} {rd : Bool} (hk : k ≤ k') : ∀ {c : Code} {E : Env} {h : Hp} {r : Ex × Env × Hp}, evCode P C k n rd c E h = some r → evCode P C' k' n rd c E h = some r := by
  intro c
  induction c with
  | seq a b iha ihb =>
    intro E h r he
    simp only [evCode] at he ⊢
    split at he
    · rename_i E' h' h1
      rw [iha h1]
      exact ihb he
    · rename_i hx
      rw [iha he]
      split
      · rename_i E' h' h1
        simp only [Option.some.injEq] at h1
        subst h1
        exact absurd he (hx _ _)
      · rfl
  | cond c x y ihx ihy =>
    intro E h r he
    simp only [evCode] at he ⊢
    split at he
    · exact ihx he
    · exact ihy he
    · cases he
  | block id b ih =>
    intro E h r he
    simp only [evCode] at he ⊢
    split at he
    · rename_i j E' h' h1
      rw [ih h1]
      exact he
    · rename_i hx
      rw [ih he]
      split
      · rename_i j E' h' h1
        simp only [Option.some.injEq] at h1
        subst h1
        exact absurd he (hx _ _ _)
      · rfl
  | loop b ih =>
    intro E h r he
    simp only [evCode] at he ⊢
    exact evLoop_mono (fun E h r => ih) hk he
  | region id ops d =>
    intro E h r he
    cases d with
    | false =>
      simp only [evCode] at he ⊢
      split at he
      · rename_i E' h' h1; rw [evOps_mono hC h1]; exact he
      · cases he
    | true =>
      simp only [evCode] at he ⊢
      split at he
      · rename_i E' h' h1; rw [evDraw_mono hC h1]; exact he
      · cases he
  | rangeFunc g ps assign body _ _ =>
    intro E h r he
    simp only [evCode] at he ⊢
    split
    · simp only at he; exact evRange_mono hC he
    · simp only at he; cases he
  | _ =>
    intro E h r he
    simp only [evCode] at he ⊢
    first | exact he | cases he

theorem evBody_mono (hC : CLe C C') {k k' : Nat} (hk : k ≤ k') {f : FuncId} {args : List Value} {h : Hp} {r : Value × Hp} (he : evBody P C k f args h = some r) : evBody P C' k' f args h = some r := by
  unfold evBody at he ⊢
  split at he
  · rename_i fn hf
    try simp only
    split at he
    · rename_i c hc
      try simp only
      split at he
      · rename_i E h' h1; rw [evCode_mono hC hk h1]; exact he
      · rename_i E h' h1; rw [evCode_mono hC hk h1]; exact he
      · cases he
    · cases he
  · cases he

theorem evRound_mono (hC : CLe C C') {k k' : Nat} (hk : k ≤ k') {i : Nat} {args : List Value} {h : Hp} {r : Value × Hp} (he : evRound P C k i args h = some r) : evRound P C' k' i args h = some r := by
  unfold evRound at he ⊢
  split at he
  · rename_i st0 pd0 E n ps assign body hi
    try simp only
    split at he
    · rename_i h1 h2
      try simp only
      split at he
      · rename_i E2 h2 h3
        rw [evCode_mono hC hk h3]
        try simp only
        split at he
        · rename_i q1 q2 q3 q4 q5 q6 h4
          try simp only
          split at he
          · rename_i h5 h6
            try simp only
            split at he
            · rename_i E4 h4 h7; rw [evCode_mono hC hk h7]; exact he
            · rename_i E4 h4 h7; rw [evCode_mono hC hk h7]; exact he
            · rename_i id E4 h4 h7; rw [evCode_mono hC hk h7]; exact he
            · cases he
          · cases he
        · cases he
      · cases he
    · cases he
  · cases he

theorem evCall_mono : ∀ {k k' : Nat}, k ≤ k' → CLe (evCall P k) (evCall P k')
  | 0, _, _ => fun t args h r he => by simp [evCall] at he
  | k + 1, 0, hk => by omega
  | k + 1, k' + 1, hk => fun t args h r he => by
    cases t with
    | fn f =>
      simp only [evCall] at he ⊢
      split at he
      · rename_i hc
        try simp only [hc]
        unfold closedO at he
        split at he
        · rename_i v h1 hb
          rw [evBody_mono (evCall_mono (by omega)) (by omega) hb]
          exact he
        · cases he
      · rename_i hc
        try simp only [hc]
        exact evBody_mono (evCall_mono (by omega)) (by omega) he
    | round i => exact evRound_mono (evCall_mono (by omega)) (by omega) he

end Go.Ev
