/- The evaluator is sound. -/
import Derived.Test.YtigjjfmdmeoncaaGreatDoorAevCode2
namespace Go.Aev
section
variable {P : Program}

def SoundCode (P : Program) (rec : Task → Option Res) : Prop :=
  ∀ c fr σ x fr' σ', rec (.code c fr σ) = some (.code x fr' σ') → ∀ β a w r, HRel P.globals.size β σ w → FRel β fr a r → ∀ Q : Exit → Act → World → Prop,
    (∀ β' a' w', Step P.globals.size β σ w β' σ' w' → FRel β' fr' a' r → Q x.conv a' w') → c.wpIn (fence r) 0 P Q a w

/-- No function of the program is the one that counts goroutines. -/
def NamesOk (P : Program) : Prop := ∀ (f : FuncId) (fn : Func), P.funcs[f]? = some fn → (fn.name == "runtime.NumGoroutine") = false

def SoundLoop (P : Program) (m : Nat) (rec : Task → Option Res) : Prop :=
  ∀ b fr σ x fr' σ', rec (.code (.loop b) fr σ) = some (.code x fr' σ') → ∀ β a w r, HRel P.globals.size β σ w → FRel β fr a r → ∀ Q : Exit → Act → World → Prop,
    (∀ β' a' w', Step P.globals.size β σ w β' σ' w' → FRel β' fr' a' r → Q x.conv a' w') → Code.roundsIn (fence r) 0 P b Q m a w

/-- A summary that may stand for a function. -/
def SumOk (P : Program) (f : FuncId) (s : List Value → St → Option (Value × St)) : Prop :=
  (∃ fn c, bodyOf P f = some (fn, c)) ∧ ∀ args σ v σ', s args σ = some (v, σ') → ∀ β w (args' : Array Value), HRel P.globals.size β σ w → LRel β args args'.toList →
    CallsIn (fence none) 0 P f args' w fun e w' => ∃ v', e = .returned v' ∧ ∃ β', Step P.globals.size β σ w β' σ' w' ∧ VRel β' v v'

/-- What may stand for a function without a body. -/
def ExtOk (P : Program) (f : FuncId) (x : List Value → Option Value) : Prop :=
  ∀ args v, x args = some v → args.all flat0 = true → ∀ w, (callFunc f args.toArray).run P w = .ok (.value v) w ∧ flat1 v = true

theorem run_enter (hname : NamesOk P) {f : FuncId} {fn : Func} {c : Code} (hf : P.funcs[f]? = some fn) (hb : fn.body = some c) (args : Array Value) (w : World) : (callFunc f args).run P w = .ok (.enter f args) w := by
  have h1 : fn.name ≠ "runtime.NumGoroutine" := by simpa using hname f fn hf
  simp [callFunc, hf, h1, hb]

variable {S : FuncId → Option (List Value → St → Option (Value × St))} {X : FuncId → Option (List Value → Option Value)} {rec : Task → Option Res}

theorem F_code (hm : P.follows .mixedOrders = true) (hname : NamesOk P) {m : Nat}
    (hc : SoundCode P rec) (hk : SoundCall P P.globals.size rec) (hl : SoundLoop P m rec) : SoundCode P (F P S X rec) ∧ SoundLoop P (m + 1) (F P S X rec) := by
  have loop : SoundLoop P (m + 1) (F P S X rec) := by
    intro b fr σ x fr' σ' h β a w r hr hf Q hQ
    simp only [F] at h
    split at h
    · rename_i fr₁ σ₁ hb
      refine hc b fr σ .normal fr₁ σ₁ hb β a w r hr hf _ fun β' a' w' hs hf' => ?_
      exact hl b fr₁ σ₁ x fr' σ' h β' a' w' r hs.rel hf' Q fun β'' a'' w'' hs' hf'' => hQ β'' a'' w'' (hs.trans hs') hf''
    · rename_i hno
      refine hc b fr σ x fr' σ' h β a w r hr hf _ fun β' a' w' hs hf' => ?_
      have hx : x ≠ .normal := fun e => by subst e; exact hno _ _ h
      cases x with
      | normal => exact absurd rfl hx
      | exit id => exact hQ β' a' w' hs hf'
      | ret => exact hQ β' a' w' hs hf'
  refine ⟨?_, loop⟩
  intro c fr σ x fr' σ' h β a w r hr hf Q hQ
  cases c with
  | skip => simp only [F] at h; cases h; exact wpIn_skip (hQ β a w (Step.refl hr) hf)
  | label l => simp only [F] at h; cases h; exact wpIn_label (hQ β a w (Step.refl hr) hf)
  | exit id => simp only [F] at h; cases h; exact wpIn_exit (hQ β a w (Step.refl hr) hf)
  | ret => simp only [F] at h; cases h; exact wpIn_ret (hQ β a w (Step.refl hr) hf)
  | goto l => simp only [F] at h; cases h
  | refuse s => simp only [F] at h; cases h
  | region id ops draw =>
    simp only [F] at h
    split at h
    · rename_i hd
      subst hd
      split at h
      · rename_i p hp
        obtain ⟨⟨fr₁, σ₁⟩, hgo, heq⟩ := Option.map_eq_some_iff.1 h
        cases heq
        exact draw_sound hm hk hp hgo hr hf fun β' a' w' hs hf' => hQ β' a' w' hs hf'
      · cases h
    · rename_i hd
      have hd' : draw = false := by simpa using hd
      subst hd'
      obtain ⟨⟨fr₁, σ₁⟩, hgo, heq⟩ := Option.map_eq_some_iff.1 h
      cases heq
      refine wpIn_region ?_
      rw [List.range_eq_range', ← Array.length_toList]
      exact opsA_sound hk ops.toList 0 rfl fr _ σ _ β a w hgo hr hf fun β' a' w' hs hf' => hQ β' a' w' hs hf'
  | seq b d =>
    simp only [F] at h
    split at h
    · rename_i fr₁ σ₁ hb
      refine wpIn_seq (hc b fr σ .normal fr₁ σ₁ hb β a w r hr hf _ fun β' a' w' hs hf' => ?_)
      exact hc d fr₁ σ₁ x fr' σ' h β' a' w' r hs.rel hf' Q fun β'' a'' w'' hs' hf'' => hQ β'' a'' w'' (hs.trans hs') hf''
    · rename_i hno
      refine wpIn_seq (hc b fr σ x fr' σ' h β a w r hr hf _ fun β' a' w' hs hf' => ?_)
      have hx : x ≠ .normal := fun e => by subst e; exact hno _ _ h
      cases x with
      | normal => exact absurd rfl hx
      | exit id => exact hQ β' a' w' hs hf'
      | ret => exact hQ β' a' w' hs hf'
  | cond y b d =>
    simp only [F] at h
    split at h
    · rename_i t tv he
      have hk' := hf.tm t
      have he' : Tm.val fr.tm t = .bool tv := he
      rw [he'] at hk'
      exact wpIn_cond (t := tv) hk'.bool_left (hc _ fr σ x fr' σ' h β a w r hr hf Q hQ)
    · cases h
  | block id b =>
    simp only [F] at h
    split at h
    · rename_i id' fr₁ σ₁ hb
      cases h
      refine wpIn_block (hc b fr σ (.exit id') _ _ hb β a w r hr hf _ fun β' a' w' hs hf' => ?_)
      have := hQ β' a' w' hs hf'
      show (if id' = id then Q .normal a' w' else Q (.exit id') a' w')
      split
      · rename_i e; rw [if_pos e] at this; exact this
      · rename_i e; rw [if_neg e] at this; exact this
    · rename_i hno
      refine wpIn_block (hc b fr σ x fr' σ' h β a w r hr hf _ fun β' a' w' hs hf' => ?_)
      cases x with
      | normal => exact hQ β' a' w' hs hf'
      | exit id' => exact absurd h (hno id' fr' σ')
      | ret => exact hQ β' a' w' hs hf'
  | loop b => exact wpIn_loop_rounds (m + 1) (loop b fr σ x fr' σ' h β a w r hr hf Q hQ)
  | scope b =>
    simp only [F] at h
    refine wpIn_scope_plain (hc b fr σ x fr' σ' h β a w r hr hf _ fun β' a' w' hs hf' => ?_)
    cases x <;> exact hQ β' a' w' hs hf'
  | rangeFunc f params assign body =>
    simp only [F] at h
    split at h
    · rename_i t g first captured he
      have he' : Tm.val fr.tm t = .func (.func g) first captured := he
      have hfun := hf.tm t
      rw [he'] at hfun
      obtain ⟨f', first', captured', hval, hfn, hfirst, hcap⟩ := hfun.func_left
      cases hfn
      split at h
      · cases h
      · rename_i fnc hbody
        obtain ⟨hgf, hgb⟩ := bodyOf_some (fn := fnc.1) (c := fnc.2) hbody
        split at h
        · cases h
        · rename_i pre d marks σ₁ hpre
          -- what is laid at the loop's head
          have head : ∀ fn, ∃ (l : Nat) (mark : List Deferred) (w₁ : World) (β₁ : Ren) (L : Loc), (Instr.enterLoop fn a.tmps params assign body r).run P w = .ok (l, mark) w₁ ∧ β₁ σ₁.next = some L ∧ L.blk = l ∧
              Step P.globals.size β σ w β₁ (σ₁.new (.loop .ready none fr.tm fr.n params assign body d)).2 w₁ ∧ MRel β₁ marks (mark ++ a.defers) := by
            intro fn
            have hrd := hf.round
            cases hround : fr.round with
            | none =>
              rw [hround] at hpre hrd
              cases hpre
              cases r with
              | some l => exact hrd.elim
              | none =>
                obtain ⟨β₀, h1, h2⟩ := hr.new .marks (.deferred (some [])) { blk := w.heap.size, base := 0, tot := 0, sz := 0 } rfl (fun _ _ _ => rfl)
                obtain ⟨β₁, h3, h4⟩ := h2.rel.new (.loop .ready none fr.tm fr.n params assign body σ.next) (.loop { state := .ready, pending := none, fn, tmps := a.tmps, params, assign, body, defers := w.heap.size })
                  { blk := w.heap.size + 1, base := 0, tot := 0, sz := 0 } (by simp) (fun β' hle _ => ⟨fn, a.tmps, { blk := w.heap.size, base := 0, tot := 0, sz := 0 }, rfl, hf.size, hf.tm.mono (Ren.le_trans h2.le hle), hle _ _ h1⟩)
                refine ⟨_, _, _, β₁, { blk := w.heap.size + 1, base := 0, tot := 0, sz := 0 }, run_enterLoop_outer fn a.tmps params assign body, h3, rfl, h2.trans h4, ?_⟩
                refine ⟨by simp [hf.marks.1], fun i m' hi => ?_⟩
                cases i with
                | zero => simp at hi; subst hi; exact ⟨{ blk := w.heap.size, base := 0, tot := 0, sz := 0 }, h4.le _ _ h1, rfl⟩
                | succ i =>
                  obtain ⟨M, p1, p2⟩ := hf.marks.2 i m' (by simpa using hi)
                  exact ⟨M, (h2.trans h4).le _ _ p1, by simpa using p2⟩
            | some l₀ =>
              rw [hround] at hpre hrd
              simp only at hpre
              split at hpre
              · rename_i st₀ pd₀ tm₀ n₀ ps₀ as₀ bd₀ d₀ hg
                cases hpre
                cases r with
                | none => exact hrd.elim
                | some l' =>
                  obtain ⟨L₀, hL₀, rfl⟩ := hrd
                  obtain ⟨L₀', hL₀', fn₀, tmps₀, D, hx, _, _, hD⟩ := hr.obj l₀ _ hg
                  obtain rfl : L₀ = L₀' := Option.some.inj (hL₀.symm.trans hL₀')
                  obtain ⟨β₁, h3, h4⟩ := hr.new (.loop .ready none fr.tm fr.n params assign body d) (.loop { state := .ready, pending := none, fn, tmps := a.tmps, params, assign, body, defers := D.blk })
                    { blk := w.heap.size, base := 0, tot := 0, sz := 0 } rfl (fun β' hle _ => ⟨fn, a.tmps, D, rfl, hf.size, hf.tm.mono hle, hle _ _ hD⟩)
                  refine ⟨_, _, _, β₁, { blk := w.heap.size, base := 0, tot := 0, sz := 0 }, run_enterLoop_inner hx fn a.tmps params assign body, h3, rfl, h4, ?_⟩
                  exact hf.marks.mono h4.le
              · cases hpre
          split at h
          · rename_i v₃ σ₃ hcall
            split at h
            · rename_i st pend tm₃ n₃ ps₃ as₃ bd₃ d₃ hg₃
              split at h
              · cases h
              · rename_i hbusy
                refine wpIn_rangeFunc fun fn _ => ?_
                obtain ⟨l, mark, w₁, β₁, L, hent, hL, hLl, hs₁, hmk⟩ := head fn
                have hevf : a.eval (.tmp t) = .func (.func g) first' captured' := hval
                have hrun : (callSem (.func (.func g) first' captured') #[.func (.yield l) #[] #[]]).run P w₁ = .ok (.enter g (first' ++ #[.func (.yield l) #[] #[]] ++ captured')) w₁ := by
                  rw [callSem_func]
                  exact run_enter hname hgf hgb _ _
                have hinv := hk _ _ _ _ _ hcall β₁ w₁ (.func (.func g) first' captured') #[.func (.yield l) #[] #[]] hs₁.rel
                  (.func (.func g) hfirst.1 (fun i v v' p q => (hfirst.2 i v v' p q).mono hs₁.le) hcap.1 (fun i v v' p q => (hcap.2 i v v' p q).mono hs₁.le))
                  (LRel.cons (by
                    have := FnRel.yield (β := β₁) hL
                    rw [hLl] at this
                    exact .func this rfl (fun i v v' h => by simp at h) rfl (fun i v v' h => by simp at h)) (LRel.nil _))
                unfold Inv at hinv
                rw [hrun] at hinv
                simp only at hinv
                refine ⟨l, mark, w₁, { target := .fn (.func g) captured', args := first' ++ #[.func (.yield l) #[] #[]] }, w₁, g, first' ++ #[.func (.yield l) #[] #[]] ++ captured', w₁, hent, ?_, fun _ _ => trivial, ?_, fun hh => by simp [fence, Fence.wide] at hh, ?_⟩
                · show (Deferred.ofValue (a.eval (.tmp t)) ((#[.const (.func (.yield l) #[] #[])] : Array Operand).map a.eval)).run P w₁ = _
                  rw [hevf]
                  simp [Deferred.ofValue, Act.eval]
                · exact run_enter hname hgf hgb _ _
                · refine CallsIn.mono (CallsIn.inRound (F := fence none) 0 hinv) fun e w₃ hpost => ?_
                  obtain ⟨v', rfl, β₃, hs₃, _⟩ := hpost
                  obtain ⟨L', hL', fn', tmps', D', hx', _, _, _⟩ := hs₃.rel.obj _ _ hg₃
                  obtain rfl : L = L' := Option.some.inj ((hs₃.le _ _ hL).symm.trans hL')
                  rw [hLl] at hx'
                  have hlp := run_endLoop (P := P) hx' hbusy
                  have hret := hs₃.rel.retire hg₃ rfl hL' (w₃.putObj l (.loop { state := .exhausted, pending := pend, fn := fn', tmps := tmps', params := ps₃, assign := as₃, body := bd₃, defers := D'.blk })) rfl rfl rfl (by simp)
                    (fun b hb => World.putObj_heap_other (by rw [← hLl]; exact hb))
                  have hst := (hs₁.trans hs₃).trans hret
                  have hfr : ∀ β', Ren.le β₃ β' → FRel β' { fr with marks } { a with defers := mark ++ a.defers } r := fun β' hle =>
                    ⟨hf.tm.mono (Ren.le_trans (hs₁.trans hs₃).le hle), hf.size, hmk.mono (Ren.le_trans hs₃.le hle), hf.round.mono (Ren.le_trans (hs₁.trans hs₃).le hle)⟩
                  refine ⟨pend, _, hlp, ?_⟩
                  split at h
                  · cases h; exact hQ β₃ _ _ hst (hfr β₃ (Ren.le_refl _))
                  · cases h; exact wpIn_ret (hQ β₃ _ _ hst (hfr β₃ (Ren.le_refl _)))
                  · cases h; exact wpIn_exit (hQ β₃ _ _ hst (hfr β₃ (Ren.le_refl _)))
                  · cases h
            · cases h
          · cases h
    · cases h

theorem F_call (hname : NamesOk P) (hS : ∀ f s, S f = some s → SumOk P f s) (hX : ∀ f x, X f = some x → ExtOk P f x)
    (hc : SoundCode P rec) : SoundCall P P.globals.size (F P S X rec) := by
  intro fv args σ v σ' h β w fv' args' hr hfv hargs
  simp only [F] at h
  split at h
  · rename_i f first captured
    obtain ⟨f', first', captured', rfl, hfn, hfirst, hcap⟩ := hfv.func_left
    cases hfn
    have hall : LRel β (first.toList ++ args ++ captured.toList) (first' ++ args' ++ captured').toList := by
      rw [Array.toList_append, Array.toList_append]
      exact (hfirst.append hargs).append hcap
    rw [callSem_func]
    split at h
    · rename_i s hs
      obtain ⟨⟨v₁, σ₁⟩, hrun, heq⟩ := Option.map_eq_some_iff.1 h
      cases heq
      obtain ⟨⟨fn, c, hb⟩, hsum⟩ := hS f s hs
      obtain ⟨hf, hbody⟩ := bodyOf_some hb
      unfold Inv
      rw [run_enter hname hf hbody]
      exact hsum _ _ _ _ hrun β w _ hr hall
    · split at h
      · rename_i hb
        split at h
        · rename_i x hx
          split at h
          · rename_i hflat
            obtain ⟨v₁, hrun, heq⟩ := Option.map_eq_some_iff.1 h
            cases heq
            obtain ⟨h1, h2⟩ := hX f x hx _ _ hrun hflat w
            have he : (first' ++ args' ++ captured') = (first.toList ++ args ++ captured.toList).toArray := by
              rw [← hall.of_flat hflat]
            unfold Inv
            rw [he, h1]
            exact ⟨β, Step.refl hr, VRel.flat1 h2⟩
          · cases h
        · cases h
      · rename_i fn c hb
        obtain ⟨hf, hbody⟩ := bodyOf_some hb
        split at h
        · rename_i hle
          have fin : ∀ (x : AExit) (fr' : Fr) (σ₁ : St), rec (.code c { tm := paramsGo 0 (first.toList ++ args ++ captured.toList) .leaf, n := fn.ntmps, marks := [], round := none } σ) = some (.code x fr' σ₁) → (∀ id, x ≠ .exit id) →
              ∀ σ₂, delAll fr'.marks σ₁ = some σ₂ → ∀ vs, resultsA P fn fr'.tm σ₂ = some vs → ∀ u, u = tupleOf vs →
              Inv P w (callFunc f (first' ++ args' ++ captured')) fun v' w' => ∃ β', Step P.globals.size β σ w β' σ₂ w' ∧ VRel β' u v' := by
            intro x fr' σ₁ hrec hx σ₂ hdel vs hres u hu
            unfold Inv
            rw [run_enter hname hf hbody]
            simp only
            generalize hR : (fun (e : Ending) (w'' : World) => ∃ v, e = .returned v ∧ ∃ β', Step P.globals.size β σ w β' σ₂ w'' ∧ VRel β' u v) = R
            refine callsIn_of_wp_marks (R := R) hf hbody trivial (hc _ _ _ _ _ _ hrec β _ _ none hr ⟨?_, ?_, ?_, trivial⟩ _ fun β' a' w' hs hf' => ?_) rfl
            · have := params_rel hall fn.ntmps
              rw [Array.toArray_toList, Array.length_toList] at this
              exact this
            · have hl : (first.toList ++ args ++ captured.toList).length = (first' ++ args' ++ captured').size := by rw [hall.1]; exact Array.length_toList
              show ((first' ++ args' ++ captured') ++ Array.replicate (fn.ntmps - (first' ++ args' ++ captured').size) undef).size = fn.ntmps
              rw [Array.size_append, Array.size_replicate, ← hl]
              omega
            · exact ⟨rfl, fun i m hi => by simp at hi⟩
            · have hleave : LeavesInM (fence none) 0 P fn a'.tmps R a'.defers .returning w' := by
                refine leaves_marks fr'.marks a'.defers σ₁ σ₂ w' hdel hs.rel hf'.marks fun w'' hs' => ?_
                obtain ⟨v', h1, h2⟩ := resultsA_sound hs'.rel hf'.tm hres
                refine ⟨v', h1, ?_⟩
                rw [← hR]
                exact ⟨v', rfl, β', hs.trans hs', by rw [hu]; exact h2⟩
              cases x with
              | normal => exact hleave
              | ret => exact hleave
              | exit id => exact absurd rfl (hx id)
          split at h
          · cases h
          · rename_i x fr' σ₁ hno hrec
            split at h
            · cases h
            · rename_i σ₂ hdel
              have hx : ∀ id, x ≠ .exit id := fun id e => by subst e; first | exact hno _ _ _ rfl | exact hno _ _ rfl | exact hno _ rfl
              split at h
              · rename_i u hres
                cases h
                exact fin x fr' σ₁ hrec hx _ hdel _ hres _ rfl
              · rename_i vs hne hres
                cases h
                refine fin x fr' σ₁ hrec hx _ hdel _ hres _ ?_
                cases vs with
                | nil => rfl
                | cons a r => cases r with
                  | nil => exact absurd rfl (hne a)
                  | cons b r => rfl
              · cases h
          · cases h
        · cases h
  · rename_i l
    obtain ⟨f', first', captured', rfl, hfn, hfirst, hcap⟩ := hfv.func_left
    cases hfn
    rename_i L hL
    have hf0 : first' = #[] := by
      have := hfirst.nil_left
      exact Array.toList_eq_nil_iff.1 this
    subst hf0
    rw [callSem_yield]
    split at h
    · rename_i pd tm n params assign body dd hg
      split at h
      · rename_i hcond
        obtain ⟨hlen, hall⟩ := hcond
        split at h
        · rename_i fr₁ σ₁ hassign
          split at h
          · rename_i pend₁ tm₁ n₁ params₁ assign₁ body₁ d₁ hg₁
            split at h
            · rename_i x fr₂ σ₂ hbody
              split at h
              · rename_i st₂ pd₂ tm₂ n₂ params₂ assign₂ body₂ d₂ hg₂
                cases h
                obtain ⟨L', hL', fn, tmps, D, hx, hsz, htm, hD⟩ := hr.obj l _ hg
                obtain rfl : L = L' := Option.some.inj (hL.symm.trans hL')
                have hargsz : (#[] ++ args').size = params.size := by
                  have := hargs.1; simp at this ⊢; omega
                have hy := run_yield (P := P) hx hargsz
                unfold Inv
                rw [hy]
                have hput := putAll_rel params.toList args args'.toList tm tmps hargs htm (fun p hp => by
                  rw [hsz]; exact blt_lt (List.all_eq_true.1 hall p hp))
                have htmps : ((params.zip (#[] ++ args')).foldl (fun tmps (t, a) => tmps.setIfInBounds t a) tmps) = ((params.toList.zip args'.toList).foldl (fun tmps (t, a) => tmps.setIfInBounds t a) tmps) := by
                  rw [← Array.foldl_toList, Array.toList_zip]; simp
                refine roundIn_of_wpIn trivial ?_
                simp only
                rw [htmps]
                refine hc assign _ σ .normal fr₁ σ₁ hassign β _ w (some L.blk) hr ⟨hput.1, by rw [hput.2, hsz], ⟨rfl, fun i m hi => by simp at hi⟩, L, hL, rfl⟩ _ fun β₁ a₁ w₁ hs₁ hf₁ => ?_
                obtain ⟨L₁, hL₁, fn₁, tmps₁, D₁, hx₁, hsz₁, htm₁, hD₁⟩ := hs₁.rel.obj l _ hg₁
                obtain rfl : L = L₁ := Option.some.inj ((hs₁.le _ _ hL).symm.trans hL₁)
                have hlt₁ := ORel.lt (β := β₁) (o := .loop .ready pend₁ tm₁ n₁ params₁ assign₁ body₁ d₁) ⟨fn₁, tmps₁, D₁, hx₁, hsz₁, htm₁, hD₁⟩
                have hbusy := hs₁.rel.put (.loop .busy pend₁ tm₁ n₁ params₁ assign₁ body₁ d₁) hg₁ rfl hL₁ (w₁.putObj L.blk (.loop { state := .busy, pending := pend₁, fn := fn₁, tmps := tmps₁, params := params₁, assign := assign₁, body := body₁, defers := D₁.blk }))
                  rfl rfl rfl (by simp) (fun b hb => World.putObj_heap_other hb) ⟨fn₁, tmps₁, D₁, World.putObj_heap_same hlt₁, hsz₁, htm₁, hD₁⟩
                refine ⟨_, run_beginRound hx₁ rfl, ?_⟩
                refine hc body fr₁ _ x fr₂ σ₂ hbody β₁ a₁ _ (some L.blk) hbusy.rel hf₁ _ fun β₂ a₂ w₂ hs₂ hf₂ => ?_
                obtain ⟨L₂, hL₂, fn₂, tmps₂, D₂, hx₂, hsz₂, htm₂, hD₂⟩ := hs₂.rel.obj l _ hg₂
                obtain rfl : L = L₂ := Option.some.inj ((hs₂.le _ _ hL₁).symm.trans hL₂)
                have hlt₂ := ORel.lt (β := β₂) (o := .loop st₂ pd₂ tm₂ n₂ params₂ assign₂ body₂ d₂) ⟨fn₂, tmps₂, D₂, hx₂, hsz₂, htm₂, hD₂⟩
                have hend : ∀ jump : Option Code, ∃ v' w', (Instr.endRound L.blk jump).run P w₂ = .ok v' w' ∧ ∃ v, Ending.returned v' = .returned v ∧ ∃ β', Step P.globals.size β σ w β' { σ₂ with heap := σ₂.heap.put l (.loop (if jump.isNone then .ready else .done) jump tm₂ n₂ params₂ assign₂ body₂ d₂) } w' ∧ VRel β' (.bool jump.isNone) v := fun jump => by
                  refine ⟨_, _, run_endRound jump hx₂, _, rfl, β₂, ((hs₁.trans hbusy).trans hs₂).trans ?_, .flat rfl⟩
                  exact hs₂.rel.put _ hg₂ rfl hL₂ _ rfl rfl rfl (by simp) (fun b hb => World.putObj_heap_other hb) ⟨fn₂, tmps₂, D₂, World.putObj_heap_same hlt₂, hsz₂, htm₂, hD₂⟩
                cases x with
                | normal => exact hend none
                | exit id => exact hend (some (.exit id))
                | ret => exact hend (some .ret)
              · cases h
            · cases h
          · cases h
        · cases h
      · cases h
    · cases h
  · cases h

/-- **THE EVALUATOR IS SOUND.** -/
theorem sound (hm : P.follows .mixedOrders = true) (hname : NamesOk P) (hS : ∀ f s, S f = some s → SumOk P f s) (hX : ∀ f x, X f = some x → ExtOk P f x) :
    ∀ n, SoundCode P (ev P S X n) ∧ SoundCall P P.globals.size (ev P S X n) ∧ SoundLoop P n (ev P S X n) := by
  intro n
  induction n with
  | zero =>
    refine ⟨fun c fr σ x fr' σ' h => ?_, fun fv args σ v σ' h => ?_, fun b fr σ x fr' σ' h => ?_⟩
    · cases h
    · cases h
    · cases h
  | succ n ih =>
    obtain ⟨h1, h2, h3⟩ := ih
    obtain ⟨g1, g2⟩ := F_code (S := S) (X := X) hm hname h1 h2 h3
    exact ⟨g1, F_call hname hS hX h1, g2⟩
end
end Go.Aev
