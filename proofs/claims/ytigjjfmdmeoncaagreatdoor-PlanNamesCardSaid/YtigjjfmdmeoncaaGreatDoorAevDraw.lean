/- Regions that draw their order: whichever is drawn, the outcome is that of the evaluator's own. -/
import Derived.Test.YtigjjfmdmeoncaaGreatDoorAevCode1
namespace Go.Aev
section
variable {P : Program}

/-! ### Quiet and reading operations -/
theorem opA_same {ρ : Operand → Value} {o : Oper} {σ σ' : St} {v : Value} (hk : kindO P o ≠ 2) (h : opA P ρ o σ = some (v, σ')) : σ' = σ := by
  unfold opA at h
  simp only at h
  have hm : ∀ {r : Option Value}, r.map (fun x => (x, σ)) = some (v, σ') → σ' = σ := fun h => by
    obtain ⟨u, _, heq⟩ := Option.map_eq_some_iff.1 h; cases heq; rfl
  split at h
  all_goals first
    | (cases h; done)
    | (cases h; rfl)
    | exact hm h
    | (rename_i ho; exfalso; apply hk; simp [kindO, baseKind, ho]; done)
    | (split at h <;> first | exact hm h | (cases h; rfl) | (cases h; done))
    | skip
  · rename_i s d x ho
    split at h
    · rename_i r hc
      cases h
      exfalso
      apply hk
      unfold convA at hc
      split at hc
      · rename_i h1 h2 h3; simp [kindO, baseKind, ho, h1, h2]
      · rename_i h1 h2 h3; simp [kindO, baseKind, ho, h1, h2]
      · rename_i h1 h2 h3; simp [kindO, baseKind, ho, h1, h2]
      · cases hc
    · exact hm h
  · rename_i args argTypes ho
    split at h
    · split at h
      · split at h
        · cases h; rfl
        · cases h
      · exact hm h
    · cases h

theorem kindO_zero {o : Oper} (h : kindO P o = 0) : hasGlobal o.op = false := by
  unfold kindO at h
  cases hg : hasGlobal o.op with
  | false => rfl
  | true =>
    exfalso
    rw [hg, Bool.and_true] at h
    split at h
    · cases h
    · rename_i hb
      rw [h] at hb
      exact hb rfl

theorem opA_quiet {ρ : Operand → Value} {o : Oper} {σ σ' : St} {v : Value} (hk : kindO P o = 0) (h : opA P ρ o σ = some (v, σ')) (τ : St) : opA P ρ o τ = some (v, τ) := by
  have hm : ∀ {r : Option Value}, r.map (fun x => (x, σ)) = some (v, σ') → r.map (fun x => (x, τ)) = some (v, τ) := fun h => by
    obtain ⟨u, hu, heq⟩ := Option.map_eq_some_iff.1 h; cases heq; rw [hu]; rfl
  unfold opA at h ⊢
  simp only at h ⊢
  have two : ∀ n : Nat, kindO P o = n → n = 0 := fun n e => by omega
  cases ho : o.op <;> rw [ho] at h <;> (try simp only at h ⊢)
  case move x => cases h; rfl
  case assign x => cases h; rfl
  case pick c a b =>
    split at h
    · cases h; rfl
    · cases h
  case build t parts => exact hm h
  case nilCheck x =>
    split at h
    · cases h; rfl
    · cases h; rfl
    · cases h; rfl
    · cases h
  case makeInterface t x =>
    split at h
    · cases h
    · cases h; rfl
    · cases h
  case makeFunc fn first captured =>
    cases fn <;> simp only at h ⊢ <;> first | (cases h; rfl) | cases h
  case fieldAddr t x f => exact hm h
  case field t x f => exact hm h
  case indexAddr t x ix => exact hm h
  case index t x ix =>
    split at h
    · rename_i hp; rw [hp] at *; cases h; rfl
    · rename_i hp; rw [hp] at *; exact hm h
  case extract t ix =>
    split at h
    · exact hm h
    · cases h
  case binOp op t x y ty =>
    split at h
    · rename_i hp; rw [hp] at *; cases h; rfl
    · rename_i hp; rw [hp] at *; exact hm h
  case unOp op t x => exact hm h
  case convert s d x =>
    have hnone : ∀ τ, convA P τ s d (ρ x) = none := fun τ => by
      unfold convA
      split
      · rename_i h1 h2 h3; exfalso; have := two 2 (by simp [kindO, baseKind, ho, h1, h2]); omega
      · rename_i h1 h2 h3; exfalso; have := two 2 (by simp [kindO, baseKind, ho, h1, h2]); omega
      · rename_i h1 h2 h3; exfalso; have := two 2 (by simp [kindO, baseKind, ho, h1, h2]); omega
      · rfl
    rw [hnone σ] at h
    rw [hnone τ]
    exact hm h
  case call c =>
    obtain ⟨callee, args, argTypes⟩ := c
    cases callee with
    | value f => cases h
    | invoke r m => cases h
    | builtin b =>
      cases b <;> simp only at h ⊢ <;> first
        | cases h
        | exact hm h
        | (exfalso; simp [kindO, baseKind, ho] at hk; done)
        | skip
      · split at h
        · split at h
          · split at h
            · cases h; rfl
            · cases h
          · exact hm h
        · cases h
  all_goals first
    | cases h
    | (exfalso; simp [kindO, baseKind, ho] at hk; done)
end
end Go.Aev
