/- The evaluator is sound: the steps of the main proof. -/
import Derived.Test.YtigjjfmdmeoncaaGreatDoorAevDraw4
import Derived.LoopNIn
import Derived.RangeFuncNested
namespace Go.Aev

/-- A block whose object is forgotten, whatever becomes of it. -/
theorem HRel.retire {G : Nat} {β : Ren} {σ : St} {w : World} (h : HRel G β σ w) {id : Nat} {o : AObj} {L : Loc} (hg : σ.heap.get id = some o) (hw : o.wr = true) (hL : β id = some L)
    (w' : World) (hos : w'.os = w.os) (ht : w'.tape = w.tape) (hout : w'.output = w.output) (hsz : w'.heap.size = w.heap.size)
    (hoth : ∀ b, b ≠ L.blk → w'.heap[b]? = w.heap[b]?) : Step G β σ w β { σ with heap := σ.heap.del id } w' := by
  have hget : ∀ i, (σ.heap.del id).get i = if i = id then none else σ.heap.get i := fun i => Tr.get_del _ _ _
  have sub : ∀ i p, (σ.heap.del id).get i = some p → σ.heap.get i = some p ∧ i ≠ id := fun i p hp => by
    rw [hget] at hp; split at hp
    · cases hp
    · exact ⟨hp, by assumption⟩
  refine ⟨Ren.le_refl β, ⟨fun i p hp => ?_, fun i j oi oj A B hi hj => h.inj i j oi oj A B (sub _ _ hi).1 (sub _ _ hj).1, h.fresh, h.low, h.gnext, h.facts⟩, hos, ht, hout, Nat.le_of_eq hsz.symm,
    fun i p M hp hw hM => .inr ⟨i, p, M, (sub _ _ hp).1, hw, hM, rfl⟩, fun b _ hn => ?_⟩
  · obtain ⟨hp', hne⟩ := sub i p hp
    obtain ⟨M, hM, hO⟩ := h.obj i p hp'
    exact ⟨M, hM, by rw [hoth _ (fun e' => h.inj i id p o M L hp' hg hne hM hL e')]; exact hO⟩
  · exact hoth b (fun e => hn id o L hg hw hL e.symm)

section
variable {P : Program}

theorem wpIn_scope_plain {F : Fence} {n : Nat} {Q : Exit → Act → World → Prop} {a : Act} {w : World} {c : Code} (h : c.wpIn F n P (fun e a w => match e with | .goto _ => False | e => Q e a w) a w) : (Code.scope c).wpIn F n P Q a w := by
  intro b k cs hro hb hr
  have h0 : (lone (b.atR a (.code (.scope c) :: k)) cs w).fenced P F := fenced_calm hb hr rfl
  have s0 : step P (lone (b.atR a (.code (.scope c) :: k)) cs w) = .next (lone (b.atR a (.code c :: .inScope c :: k)) cs w) := step_lone_go (by simp [stepG, stepG.exec, Frame.atR])
  obtain ⟨e, a₁, w₁, hq, harr⟩ := h b (.inScope c :: k) cs hro hb hr
  cases e with
  | normal =>
    have s1 : step P (lone (b.atR a₁ (.inScope c :: k)) cs w₁) = .next (lone (b.atR a₁ k) cs w₁) := step_lone_go (by simp [stepG, stepG.exec, Frame.atR])
    exact ⟨.normal, a₁, w₁, hq, .head h0 s0 (StepsIn.trans harr (.one (fenced_calm (fr := b.atR a₁ (.inScope c :: k)) hb hr rfl) s1))⟩
  | exit id => exact ⟨_, a₁, w₁, hq, ⟨fun k' hk => .head h0 s0 (harr.1 k' (by simpa [exitTo] using hk)), fun hr' hk => let ⟨k₁, h1, h2⟩ := harr.2 hr' (by simpa [exitTo] using hk); ⟨k₁, h1, .head h0 s0 h2⟩⟩⟩
  | goto l => exact hq.elim
  | ret => exact ⟨_, a₁, w₁, hq, ⟨fun hn => let ⟨t, h2⟩ := harr.1 hn; ⟨t, .head h0 s0 h2⟩, fun hn => let ⟨t, h2⟩ := harr.2 hn; ⟨t, .head h0 s0 h2⟩⟩⟩
  | panic ch => obtain ⟨t, h2⟩ := harr; exact ⟨_, a₁, w₁, hq, t, .head h0 s0 h2⟩
  | outgrown => exact ⟨.outgrown, a₁, w₁, hq, harr.imp id (Outgrown.of_steps (.one s0))⟩

/-! ### Calls -/
theorem callSem_func (f : FuncId) (a c args : Array Value) : callSem (.func (.func f) a c) args = callFunc f (a ++ args ++ c) := rfl
theorem callSem_yield (l : Nat) (a c args : Array Value) : callSem (.func (.yield l) a c) args = Instr.yield l (a ++ args) := rfl

theorem bodyOf_some {f : FuncId} {fn : Func} {c : Code} (h : bodyOf P f = some (fn, c)) : P.funcs[f]? = some fn ∧ fn.body = some c := by
  unfold bodyOf at h
  obtain ⟨g, hg, h⟩ := Option.bind_eq_some_iff.1 h
  obtain ⟨d, hd, heq⟩ := Option.map_eq_some_iff.1 h
  cases heq
  exact ⟨hg, hd⟩

theorem paramsGo_val : ∀ (l : List Value) (i : Nat) (t : Tm) (k : Nat), Tm.val (paramsGo i l t) k = if i ≤ k then (match l[k - i]? with | some v => v | none => Tm.val t k) else Tm.val t k := by
  intro l
  induction l with
  | nil => intro i t k; simp [paramsGo]
  | cons v l ih =>
    intro i t k
    rw [paramsGo, ih, Tm.val_put]
    by_cases h1 : i + 1 ≤ k
    · have e1 : ¬ k = i := by omega
      have e2 : i ≤ k := by omega
      rw [if_pos h1, if_neg e1, if_pos e2, show k - i = (k - (i + 1)) + 1 by omega, List.getElem?_cons_succ]
    · rw [if_neg h1]
      by_cases h2 : k = i
      · subst h2; simp
      · rw [if_neg h2, if_neg (by omega)]

theorem params_rel {β : Ren} {all all' : List Value} (h : LRel β all all') (n : Nat) : TRel β (paramsGo 0 all .leaf) (all'.toArray ++ Array.replicate (n - all'.length) undef) := by
  intro t
  rw [paramsGo_val]
  simp only [Nat.zero_le, if_true, Nat.sub_zero]
  have hleaf : Tm.val (.leaf : Tm) t = undef := by unfold Tm.val; rw [Tr.get_leaf]; rfl
  rw [hleaf]
  rw [Array.getD_eq_getD_getElem?]
  cases ht : all[t]? with
  | some v =>
    obtain ⟨v', hv', hrel⟩ := h.get ht
    have hlt : t < all'.length := (List.getElem?_eq_some_iff.1 hv').1
    rw [Array.getElem?_append_left (by simpa using hlt)]
    simp only [List.getElem?_toArray, hv', Option.getD_some]
    exact hrel
  | none =>
    have hge : all'.length ≤ t := by
      rw [← h.1]; exact List.getElem?_eq_none_iff.1 ht
    rw [Array.getElem?_append_right (by simpa using hge)]
    simp only [List.size_toArray, Array.getElem?_replicate]
    split <;> exact VRel.undef β

theorem putAll_rel {β : Ren} : ∀ (ps : List Tmp) (vs vs' : List Value) (tm : Tm) (tmps : Array Value), LRel β vs vs' → TRel β tm tmps → (∀ p ∈ ps, p < tmps.size) →
    TRel β (putAll ps vs tm) ((ps.zip vs').foldl (fun tmps (t, a) => tmps.setIfInBounds t a) tmps) ∧ ((ps.zip vs').foldl (fun tmps (t, a) => tmps.setIfInBounds t a) tmps).size = tmps.size := by
  intro ps
  induction ps with
  | nil => intro vs vs' tm tmps _ ht _; cases vs <;> exact ⟨ht, rfl⟩
  | cons p ps ih =>
    intro vs vs' tm tmps hv ht hp
    cases vs with
    | nil => rw [hv.nil_left]; exact ⟨ht, rfl⟩
    | cons v vs =>
      obtain ⟨v', r, rfl, h1, h2⟩ := hv.cons_left
      simp only [putAll, List.zip_cons_cons, List.foldl_cons]
      obtain ⟨a, b⟩ := ih vs r (tm.put p v) (tmps.setIfInBounds p v') h2 (ht.put (hp p (List.mem_cons_self ..)) h1) (fun q hq => by simp; exact hp q (List.mem_cons_of_mem _ hq))
      exact ⟨a, by rw [b]; simp⟩

/-! ### Results -/
theorem result_one {G : Nat} {β : Ren} {σ : St} {w : World} (hr : HRel G β σ w) {tm : Tm} {tmps : Array Value} (k : TRel β tm tmps) {x : ResultVar} {v : Value}
    (h : (match x with | .tmp t => some (Tm.val tm t) | .cell a t => loadA P σ t (Tm.val tm a)) = some v) :
    ∃ v', ((match x with | .tmp t => pure (tmps.getD t undef) | .cell a t => do loadVar t (← asAddr (tmps.getD a undef))) : Sem Value).run P w = .ok v' w ∧ VRel β v v' := by
  cases x with
  | tmp t => cases h; exact ⟨_, rfl, k t⟩
  | cell a t =>
    obtain ⟨v', h1, h2⟩ := loadA_sound hr h (k a)
    refine ⟨v', ?_, h2⟩
    have hp : ∃ ad, tmps.getD a undef = .pointer (some ad) := by
      have hk := k a
      simp only at h
      unfold loadA at h
      split at h
      · rename_i id off hv
        rw [hv] at hk
        obtain ⟨_, _, L, _, _, he⟩ := hk.ptr_left
        exact ⟨_, he⟩
      · cases h
    obtain ⟨ad, he⟩ := hp
    rw [he] at h1
    simp only [he]
    simpa [Instr.loadAt, Instr.sureAddr, asAddr] using h1

theorem results_list {G : Nat} {β : Ren} {σ : St} {w : World} (hr : HRel G β σ w) {tm : Tm} {tmps : Array Value} (k : TRel β tm tmps) : ∀ (rs : List ResultVar) (vs : List Value),
    (rs.mapM fun | .tmp t => some (Tm.val tm t) | .cell a t => loadA P σ t (Tm.val tm a)) = some vs →
    ∃ vs', ((rs.mapM fun | .tmp t => pure (tmps.getD t undef) | .cell a t => do loadVar t (← asAddr (tmps.getD a undef))) : Sem (List Value)).run P w = .ok vs' w ∧ LRel β vs vs' := by
  intro rs
  induction rs with
  | nil => intro vs h; simp at h; subst h; exact ⟨[], by simp, LRel.nil β⟩
  | cons r rs ih =>
    intro vs h
    rw [List.mapM_cons] at h
    simp only [Option.bind_eq_bind, Option.pure_def, Option.bind_eq_some_iff] at h
    obtain ⟨v, hv, vs₁, hvs, heq⟩ := h
    cases heq
    obtain ⟨v', h1, h2⟩ := result_one (P := P) hr k hv
    obtain ⟨vs', h3, h4⟩ := ih vs₁ hvs
    refine ⟨v' :: vs', ?_, LRel.cons h2 h4⟩
    rw [List.mapM_cons]
    simp only [Sem.run_bind, h1, Result.andThen_ok, h3, Sem.run_pure]

def tupleOf : List Value → Value
  | [v] => v
  | vs => .tuple vs.toArray

theorem resultsA_sound {G : Nat} {β : Ren} {σ : St} {w : World} (hr : HRel G β σ w) {fn : Func} {tm : Tm} {tmps : Array Value} (k : TRel β tm tmps) {vs : List Value} (h : resultsA P fn tm σ = some vs) :
    ∃ v', (results fn tmps).run P w = .ok v' w ∧ VRel β (tupleOf vs) v' := by
  obtain ⟨vs', h1, h2⟩ := results_list (P := P) hr k fn.results.toList vs h
  refine ⟨if h : vs'.toArray.size = 1 then vs'.toArray[0] else .tuple vs'.toArray, ?_, ?_⟩
  · unfold results
    rw [Array.mapM_eq_mapM_toList]
    simp only [Sem.run_bind, Sem.run_map, Sem.run_pure]
    exact congrArg (fun r : Result (List Value) => (r.andThen fun a w' => Result.ok a.toArray w').andThen fun a w' => Result.ok (if h : a.size = 1 then a[0] else Value.tuple a) w') h1
  · cases vs with
    | nil =>
      have : vs' = [] := h2.nil_left
      subst this
      exact .tuple rfl (fun i v v' h => by simp at h)
    | cons v vs =>
      obtain ⟨v', r, rfl, hv, hr'⟩ := h2.cons_left
      cases vs with
      | nil =>
        have : r = [] := hr'.nil_left
        subst this
        exact hv
      | cons u us =>
        obtain ⟨u', r', rfl, hu, hr''⟩ := hr'.cons_left
        have hne : ¬ ((v' :: u' :: r').toArray.size = 1) := by simp
        rw [dif_neg hne]
        exact .tuple (by simpa using h2.1) (fun i a b ha hb => h2.2 i a b (by simpa using ha) (by simpa using hb))

/-! ### The marks among a frame's deferred calls -/
theorem leaves_marks {β : Ren} {r : Option Nat} {fn : Func} {tmps : Array Value} {R : Ending → World → Prop} : ∀ (ms : List Nat) (ds : List Deferred) (σ σ' : St) (w : World), delAll ms σ = some σ' → HRel P.globals.size β σ w → MRel β ms ds →
    (∀ w', Step P.globals.size β σ w β σ' w' → ∃ v, (results fn tmps).run P w' = .ok v w' ∧ R (.returned v) w') → LeavesInM (fence r) 0 P fn tmps R ds .returning w := by
  intro ms
  induction ms with
  | nil =>
    intro ds σ σ' w h hr hm hR
    cases h
    have : ds = [] := List.length_eq_zero_iff.1 hm.1
    subst this
    exact hR w (Step.refl hr)
  | cons m ms ih =>
    intro ds σ σ' w h hr hm hR
    cases ds with
    | nil => have := hm.1; simp at this
    | cons d ds =>
      simp only [delAll] at h
      split at h
      · rename_i hg
        obtain ⟨M, hM, hd⟩ := hm.2 0 m rfl
        simp at hd
        obtain ⟨L, hL, hx⟩ := hr.obj m _ hg
        obtain rfl : M = L := Option.some.inj (hM.symm.trans hL)
        have hx' : w.heap[M.blk]? = some (.deferred (some [])) := hx
        have hst := hr.retire hg rfl hM (w.putObj M.blk (.deferred none)) rfl rfl rfl (by simp) (fun b hb => World.putObj_heap_other hb)
        refine ⟨by simp, .inl ⟨M.blk, _, by rw [hd], run_takeDeferred hx', ?_⟩⟩
        refine ih ds _ σ' _ h hst.rel ⟨by have := hm.1; simpa using this, fun i m' hi => ?_⟩ fun w' hs' => hR w' (hst.trans hs')
        obtain ⟨M', a, b⟩ := hm.2 (i + 1) m' (by simpa using hi)
        exact ⟨M', a, by simpa using b⟩
      · cases h
end
end Go.Aev
