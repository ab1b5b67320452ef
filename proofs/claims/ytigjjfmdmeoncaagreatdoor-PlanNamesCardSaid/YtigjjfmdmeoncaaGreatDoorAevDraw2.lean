/- Regions that draw their order, the second part: what must come ahead of what; what the evaluator's own run gives. -/
import Derived.Test.YtigjjfmdmeoncaaGreatDoorAevDraw
namespace Go.Aev

/-! ### Masks -/
theorem edgeMask_bit (acc : List Nat) : ∀ (es : List Edge) (m j : Nat), bit (es.foldl (fun m e => if Region.binds .any e then m ||| (2 ^ e.on ||| acc.getD e.on 0) else m) m) j = true →
    bit m j = true ∨ ∃ e ∈ es, Region.binds .any e = true ∧ (e.on = j ∨ bit (acc.getD e.on 0) j = true) := by
  intro es
  induction es with
  | nil => intro m j h; exact .inl h
  | cons e es ih =>
    intro m j h
    simp only [List.foldl_cons] at h
    rcases ih _ j h with h | ⟨e', he', hb, hj⟩
    · split at h
      · rename_i hb
        unfold bit at h
        rw [Nat.testBit_or, Nat.testBit_or, Bool.or_eq_true, Bool.or_eq_true] at h
        rcases h with h | h | h
        · exact .inl h
        · rw [Nat.testBit_two_pow] at h
          exact .inr ⟨e, List.mem_cons_self .., hb, .inl (by simpa using h)⟩
        · exact .inr ⟨e, List.mem_cons_self .., hb, .inr h⟩
      · exact .inl h
    · exact .inr ⟨e', List.mem_cons_of_mem _ he', hb, hj⟩

theorem masksGo_spec : ∀ (ops : List Oper) (acc : List Nat), (∀ i, i < acc.length → (masksGo acc ops)[i]? = acc[i]?) ∧
    (∀ k o, ops[k]? = some o → ∃ pre : List Nat, pre.length = acc.length + k ∧ (∀ i, i < pre.length → (masksGo acc ops)[i]? = pre[i]?) ∧ (masksGo acc ops)[acc.length + k]? = some (edgeMask pre o.after.toList)) := by
  intro ops
  induction ops with
  | nil => intro acc; exact ⟨fun i _ => rfl, fun k o h => by simp at h⟩
  | cons o r ih =>
    intro acc
    obtain ⟨h1, h2⟩ := ih (acc ++ [edgeMask acc o.after.toList])
    refine ⟨fun i hi => ?_, fun k o' hk => ?_⟩
    · rw [masksGo, h1 i (by simp; omega), List.getElem?_append_left hi]
    · cases k with
      | zero =>
        simp at hk; subst hk
        refine ⟨acc, by simp, fun i hi => ?_, ?_⟩
        · rw [masksGo, h1 i (by simp; omega), List.getElem?_append_left hi]
        · rw [masksGo, h1 _ (by simp)]
          simp
      | succ k =>
        obtain ⟨pre, hl, hp, hm⟩ := h2 k o' (by simpa using hk)
        simp at hl hm
        refine ⟨pre, by omega, fun i hi => by rw [masksGo]; exact hp i hi, ?_⟩
        rw [masksGo, show acc.length + (k + 1) = acc.length + 1 + k by omega]
        exact hm

/-- Whatever stands in a mask comes by an edge. -/
theorem masks_bit {ops : List Oper} {i j : Nat} {o : Oper} (ho : ops[i]? = some o) (h : bit ((masks ops).getD i 0) j = true) :
    ∃ e ∈ o.after.toList, Region.binds .any e = true ∧ (e.on = j ∨ (e.on < i ∧ bit ((masks ops).getD e.on 0) j = true)) := by
  obtain ⟨pre, hl, hp, hm⟩ := (masksGo_spec ops []).2 i o ho
  simp at hl hm
  have hg : (masks ops).getD i 0 = edgeMask pre o.after.toList := by
    rw [List.getD_eq_getElem?_getD]; unfold masks; rw [hm]; rfl
  rw [hg] at h
  rcases edgeMask_bit pre o.after.toList 0 j h with h | ⟨e, he, hb, hj⟩
  · simp [bit] at h
  · refine ⟨e, he, hb, ?_⟩
    rcases hj with hj | hj
    · exact .inl hj
    · refine .inr ?_
      by_cases hlt : e.on < i
      · refine ⟨hlt, ?_⟩
        have : (masks ops).getD e.on 0 = pre.getD e.on 0 := by
          rw [List.getD_eq_getElem?_getD, List.getD_eq_getElem?_getD]; unfold masks; rw [hp e.on (by omega)]
        rw [this]; exact hj
      · have : pre.getD e.on 0 = 0 := by rw [List.getD_eq_getElem?_getD, List.getElem?_eq_none (by omega)]; rfl
        rw [this] at hj
        simp [bit] at hj

/-- A set that holds, with an operation, all that its edges name, holds all of its mask. -/
theorem masks_closed {ops : List Oper} (D : Nat → Prop) (hD : ∀ i o, D i → ops[i]? = some o → ∀ e ∈ o.after.toList, Region.binds .any e = true → D e.on) : ∀ (i : Nat) (o : Oper), ops[i]? = some o →
    (∀ e ∈ o.after.toList, Region.binds .any e = true → D e.on) → ∀ j, bit ((masks ops).getD i 0) j = true → D j := by
  intro i
  induction i using Nat.strongRecOn with
  | _ i ih =>
    intro o ho hall j hj
    obtain ⟨e, he, hb, h | ⟨hlt, h⟩⟩ := masks_bit ho hj
    · exact h ▸ hall e he hb
    · have hi : i < ops.length := (List.getElem?_eq_some_iff.1 ho).1
      have heo : ops[e.on]? = some ops[e.on] := List.getElem?_eq_getElem (by omega)
      exact ih e.on hlt _ heo (fun e' he' hb' => hD e.on _ (hall e he hb) heo e' he' hb') j h

/-! ### The checks, as propositions -/
structure Checked1 (ops : List Oper) (ks ms : List Nat) (i : Nat) (o : Oper) (done : List Nat) : Prop where
  topo : ∀ j, j < ops.length → bit (ms.getD i 0) j = true → j ∈ done
  loud : ∀ e ∈ done, ks.getD e 2 = 2 → bit (ms.getD i 0) e = true
  new : i ∉ done
  reads : ∀ t, Operand.tmp t ∈ o.op.operands → ∀ j, j < ops.length → dstAt ops j = some t → bit (ms.getD i 0) j = true
  guard : ∀ g b, o.guard = some (g, b) → bit (ms.getD i 0) g = true
  edges : ∀ e ∈ o.after.toList, Region.binds .any e = true → e.on < ops.length

theorem checkGo_cons {ops : List Oper} {ks ms : List Nat} {i : Nat} {rest done : List Nat} (h : checkGo ops ks ms (i :: rest) done = true) :
    ∃ o, ops[i]? = some o ∧ Checked1 ops ks ms i o done ∧ checkGo ops ks ms rest (i :: done) = true := by
  rw [checkGo, Bool.and_eq_true] at h
  obtain ⟨h, h2⟩ := h
  split at h
  · cases h
  · rename_i o ho
    simp only [Bool.and_eq_true] at h
    obtain ⟨⟨⟨⟨⟨a, b⟩, c⟩, d⟩, e⟩, f⟩ := h
    refine ⟨o, ho, ⟨fun j hj hb => ?_, fun x hx hk => ?_, ?_, fun t ht j hj hd => ?_, fun g b' hg => ?_, fun x hx hb => ?_⟩, h2⟩
    · have := List.all_eq_true.1 a j (List.mem_range.2 hj)
      rw [hb] at this
      simpa using this
    · have := List.all_eq_true.1 b x hx
      rw [hk] at this
      simpa [Nat.beq] using this
    · simpa using c
    · have hm : t ∈ tmpsOf o.op := List.mem_filterMap.2 ⟨_, Array.mem_toList_iff.2 ht, rfl⟩
      have := List.all_eq_true.1 (List.all_eq_true.1 d t hm) j (List.mem_range.2 hj)
      rw [hd] at this
      simpa using this
    · rw [hg] at e; exact e
    · have := List.all_eq_true.1 f x hx
      rw [hb] at this
      simp at this
      exact this

theorem uniqueDst_spec {ops : List Oper} (h : uniqueDst ops = true) {i j : Nat} {t : Tmp} (hi : dstAt ops i = some t) (hj : dstAt ops j = some t) : i = j := by
  have lt : ∀ {k : Nat}, dstAt ops k = some t → k < ops.length := fun {k} hk => by
    rcases Nat.lt_or_ge k ops.length with q | q
    · exact q
    · simp [dstAt, List.getElem?_eq_none q] at hk
  have := List.all_eq_true.1 (List.all_eq_true.1 h i (List.mem_range.2 (lt hi))) j (List.mem_range.2 (lt hj))
  rw [hi, hj] at this
  simp at this
  exact this

section
variable {P : Program} {rec : Task → Option Res}

theorem stepA_same {fr : Fr} {o : Oper} {σ σ' : St} {v : Value} (hk : kindO P o ≠ 2) (h : stepA P rec fr o σ = some (v, σ')) : σ' = σ := by
  unfold stepA at h
  split at h
  · split at h
    · rename_i f args hc
      exfalso
      unfold calleeA at hc
      split at hc
      · rename_i ho; exact hk (by simp [kindO, baseKind, ho])
      · cases hc
    · exact opA_same hk h
  · cases h

theorem okO_quiet {G : Nat} {o : Op} (h : hasGlobal o = false) (σ τ : St) : o.operands.toList.all (okO G σ) = o.operands.toList.all (okO G τ) := by
  have hg : ∀ x ∈ o.operands.toList, okO G σ x = okO G τ x := fun x hx => by
    cases x with
    | global g =>
      exfalso
      have : hasGlobal o = true := List.any_eq_true.2 ⟨_, hx, rfl⟩
      rw [this] at h; cases h
    | _ => rfl
  rw [Bool.eq_iff_iff, List.all_eq_true, List.all_eq_true]
  exact ⟨fun k x hx => hg x hx ▸ k x hx, fun k x hx => (hg x hx).symm ▸ k x hx⟩

theorem stepA_quiet {fr : Fr} {o : Oper} {σ σ' : St} {v : Value} (hk : kindO P o = 0) (h : stepA P rec fr o σ = some (v, σ')) (τ : St) : stepA P rec fr o τ = some (v, τ) := by
  unfold stepA at h ⊢
  rw [okO_quiet (kindO_zero hk) τ σ]
  split at h
  · rename_i hall
    rw [if_pos hall]
    split at h
    · rename_i f args hc
      exfalso
      unfold calleeA at hc
      split at hc
      · rename_i ho
        have : kindO P o = 2 := by simp [kindO, baseKind, ho]
        omega
      · cases hc
    · rename_i hc
      exact opA_quiet hk h τ
  · cases h

/-! ### The same value -/
theorem same0_eq {a b : Value} (h : same0 a b = true) : a = b := by
  unfold same0 at h
  split at h
  · simpa using h
  · simp at h; rw [h.1, h.2]
  · rw [(MapKept.bytes_beq _ _).1 h]
  · simp at h; rw [h]
  · simp at h; rw [h.1.1, h.1.2, h.2]
  · rfl
  · rfl
  · simp at h; rw [h]
  · cases h

theorem sameAll_eq : ∀ {l m : List Value}, sameAll l m = true → l = m
  | [], [], _ => rfl
  | [], _ :: _, h => by cases h
  | _ :: _, [], h => by cases h
  | a :: r, b :: s, h => by
    simp only [sameAll, Bool.and_eq_true] at h
    rw [same0_eq h.1, sameAll_eq h.2]

theorem sameV_eq {a b : Value} (h : sameV a b = true) : a = b := by
  unfold sameV at h
  split at h
  · rw [Array.toList_inj.1 (sameAll_eq h)]
  · rw [Array.toList_inj.1 (sameAll_eq h)]
  · exact same0_eq h

/-! ### The run -/
theorem Fr.put_get {fr fr' : Fr} {d : Option Tmp} {v : Value} (h : fr.put d v = some fr') :
    (∀ t, d ≠ some t → fr'.tm.get t = fr.tm.get t) ∧ (∀ t, d = some t → fr'.tm.get t = some v ∧ t < fr.n) ∧ fr'.n = fr.n ∧ fr'.marks = fr.marks ∧ fr'.round = fr.round := by
  unfold Fr.put at h
  cases d with
  | none => cases h; exact ⟨fun _ _ => rfl, ⟨fun t e => (by cases e), rfl, rfl, rfl⟩⟩
  | some d =>
    simp only at h
    split at h
    · rename_i hb
      cases h
      refine ⟨fun t ht => ?_, fun t ht => ?_, rfl, rfl, rfl⟩
      · show (fr.tm.put d v).get t = _
        rw [Tr.get_put, if_neg (fun e => ht (by rw [e]))]
      · cases ht
        exact ⟨by show (fr.tm.put d v).get d = _; rw [Tr.get_put, if_pos rfl], blt_lt hb⟩
    · cases h

/-- What a run leaves alone. -/
theorem drawGo_keeps {ops : Array Oper} {ks ms : List Nat} : ∀ (rest rd : List Nat) (fr fr' : Fr) (σ σ' : St), drawGo P rec ops ks ms rest rd fr σ = some (fr', σ') →
    (∀ t, (∀ j ∈ rest, dstAt ops.toList j ≠ some t) → fr'.tm.get t = fr.tm.get t) ∧ fr'.n = fr.n ∧ fr'.marks = fr.marks ∧ fr'.round = fr.round := by
  intro rest
  induction rest with
  | nil => intro rd fr fr' σ σ' h; cases h; exact ⟨fun _ _ => rfl, rfl, rfl, rfl⟩
  | cons i rest ih =>
    intro rd fr fr' σ σ' h
    simp only [drawGo] at h
    split at h
    · cases h
    · rename_i o ho
      have hd : dstAt ops.toList i = o.dst := by simp [dstAt, ho]
      have fin : ∀ {d : Option Tmp} {v : Value} {fr₁ : Fr} {rd' : List Nat} {σ₁ : St}, d = o.dst → fr.put d v = some fr₁ → drawGo P rec ops ks ms rest rd' fr₁ σ₁ = some (fr', σ') →
          (∀ t, (∀ j ∈ i :: rest, dstAt ops.toList j ≠ some t) → fr'.tm.get t = fr.tm.get t) ∧ fr'.n = fr.n ∧ fr'.marks = fr.marks ∧ fr'.round = fr.round := by
        intro d v fr₁ rd' σ₁ hdo hput hgo
        obtain ⟨a, b, c, e⟩ := ih _ _ _ _ _ hgo
        obtain ⟨a', _, b', c', e'⟩ := Fr.put_get hput
        refine ⟨fun t ht => ?_, b.trans b', c.trans c', e.trans e'⟩
        rw [a t (fun j hj => ht j (List.mem_cons_of_mem _ hj)), a' t (by rw [hdo, ← hd]; exact ht i (List.mem_cons_self ..))]
      split at h
      · split at h
        · split at h
          · split at h
            · rename_i hput
              exact fin rfl hput h
            · cases h
          · cases h
        · cases h
      · split at h
        · rename_i hput
          exact fin rfl hput h
        · cases h

/-- The operands of an operation mean the same in both maps of slots. -/
def Agree (fr : Fr) (T : Tm) (o : Oper) : Prop := ∀ x ∈ o.op.operands, evO fr.tm x = evO T x

/-- What the evaluator's run tells of the operations that it has gone through, T being the slots at its end. -/
structure Facts (P : Program) (rec : Task → Option Res) (ops : Array Oper) (ks ms : List Nat) (T : Tm) (n : Nat) (rest rd : List Nat) (σ σ' : St) (Es : List Nat) (Ss : List St) : Prop where
  len : Ss.length = Es.length + 1
  first : Ss[0]? = some σ
  last : Ss[Es.length]? = some σ'
  loud : ∀ (k e : Nat), Es[k]? = some e → e ∈ rest ∧ ks.getD e 2 = 2 ∧ ∃ (o : Oper) (fr : Fr) (s s' : St) (v : Value), ops[e]? = some o ∧ Region.wanted o (yieldedA ops T) = true ∧ Ss[k]? = some s ∧ Ss[k + 1]? = some s' ∧ Agree fr T o ∧
    stepA P rec fr o s = some (v, s') ∧ ∀ d, o.dst = some d → T.get d = some v
  all : ∀ e ∈ rest, ∀ o, ops[e]? = some o → ks.getD e 2 = 2 → Region.wanted o (yieldedA ops T) = true → e ∈ Es
  order : ∀ (q k a b : Nat), q < k → Es[q]? = some a → Es[k]? = some b → bit (ms.getD b 0) a = true
  quiet : ∀ i ∈ rest, ∀ o, ops[i]? = some o → ks.getD i 2 ≠ 2 → Region.wanted o (yieldedA ops T) = true → ∃ klo, klo ≤ Es.length ∧ (∀ q, q < klo → ∀ e, Es[q]? = some e → bit (ms.getD i 0) e = true) ∧
    ∀ (k : Nat) (s : St), klo ≤ k → Ss[k]? = some s → (∀ q, klo ≤ q → q < k → ∀ e, Es[q]? = some e → bit (ms.getD e 0) i = false) → ∃ (fr : Fr) (v : Value), Agree fr T o ∧ stepA P rec fr o s = some (v, s) ∧ ∀ d, o.dst = some d → T.get d = some v
  read : ∀ i ∈ rd, ∃ o, ops[i]? = some o ∧ ∀ (k : Nat) (s : St), 0 < k → Ss[k]? = some s → (∀ q, q < k → ∀ e, Es[q]? = some e → bit (ms.getD e 0) i = false) → ∃ (fr : Fr) (v : Value), Agree fr T o ∧ stepA P rec fr o s = some (v, s) ∧ ∀ d, o.dst = some d → T.get d = some v
  skipped : ∀ i ∈ rest, ∀ o, ops[i]? = some o → Region.wanted o (yieldedA ops T) = false → ∀ d, o.dst = some d → T.get d = some undef
  fits : ∀ i ∈ rest, ∀ o d, ops[i]? = some o → o.dst = some d → d < n
end
end Go.Aev
