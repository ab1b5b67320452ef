/- Frames; one operation, calls too; regions whose order is fixed. -/
import Derived.Test.YtigjjfmdmeoncaaGreatDoorAevOps5
import Derived.OwnWalkIn
namespace Go.Aev
section
variable {P : Program} {G : Nat} {β : Ren} {σ : St} {w : World}

def fence (r : Option Nat) : Fence := { Fence.wide with round := r }

def MRel (β : Ren) (ms : List Nat) (ds : List Deferred) : Prop :=
  ds.length = ms.length ∧ ∀ (i m : Nat), ms[i]? = some m → ∃ M : Loc, β m = some M ∧ ds[i]? = some { target := .collected M.blk, args := #[] }

def RRel (β : Ren) : Option Nat → Option Nat → Prop
  | none, none => True
  | some l, some l' => ∃ L, β l = some L ∧ l' = L.blk
  | _, _ => False

structure FRel (β : Ren) (fr : Fr) (a : Act) (r : Option Nat) : Prop where
  tm : TRel β fr.tm a.tmps
  size : a.tmps.size = fr.n
  marks : MRel β fr.marks a.defers
  round : RRel β fr.round r

theorem TRel.mono {β β' : Ren} (h : Ren.le β β') {tm : Tm} {tmps : Array Value} (k : TRel β tm tmps) : TRel β' tm tmps := fun t => (k t).mono h
theorem MRel.mono {β β' : Ren} (h : Ren.le β β') {ms : List Nat} {ds : List Deferred} (k : MRel β ms ds) : MRel β' ms ds :=
  ⟨k.1, fun i m x => let ⟨M, a, b⟩ := k.2 i m x; ⟨M, h _ _ a, b⟩⟩
theorem RRel.mono {β β' : Ren} (h : Ren.le β β') {r r' : Option Nat} (k : RRel β r r') : RRel β' r r' := by
  cases r <;> cases r' <;> first | exact k | exact (let ⟨L, a, b⟩ := k; ⟨L, h _ _ a, b⟩)
theorem FRel.mono {β β' : Ren} (h : Ren.le β β') {fr : Fr} {a : Act} {r : Option Nat} (k : FRel β fr a r) : FRel β' fr a r :=
  ⟨k.tm.mono h, k.size, k.marks.mono h, k.round.mono h⟩

theorem Tm.val_put (tm : Tm) (d : Nat) (v : Value) (t : Nat) : Tm.val (tm.put d v) t = if t = d then v else Tm.val tm t := by
  unfold Tm.val
  rw [Tr.get_put]
  split <;> rfl

theorem TRel.put {tm : Tm} {tmps : Array Value} (k : TRel β tm tmps) {d : Nat} (hd : d < tmps.size) {v v' : Value} (hv : VRel β v v') : TRel β (tm.put d v) (tmps.setIfInBounds d v') := by
  intro t
  rw [Tm.val_put, Array.getD_eq_getD_getElem?, Array.getElem?_setIfInBounds]
  by_cases h : t = d
  · subst h
    simp only [if_true, hd]
    exact hv
  · rw [if_neg h, if_neg (fun e => h e.symm), ← Array.getD_eq_getD_getElem?]
    exact k t

theorem blt_lt {a b : Nat} (h : Nat.blt a b = true) : a < b := by
  exact Nat.lt_of_succ_le (Nat.le_of_ble_eq_true h)

theorem FRel.put {fr fr' : Fr} {a : Act} {r : Option Nat} (k : FRel β fr a r) {d : Option Tmp} {v v' : Value} (hv : VRel β v v') (h : fr.put d v = some fr') : FRel β fr' (a.put d v') r := by
  unfold Fr.put at h
  cases d with
  | none => cases h; exact k
  | some d =>
    simp only at h
    split at h
    · rename_i hd
      cases h
      have hlt : d < a.tmps.size := by rw [k.size]; exact blt_lt hd
      exact ⟨k.tm.put hlt hv, by simp [Act.put, k.size], k.marks, k.round⟩
    · cases h

theorem yielded_eq {tm : Tm} {tmps : Array Value} (k : TRel β tm tmps) (ops : Array Oper) (j : Nat) : yielded ops tmps j = yieldedA ops tm j := by
  unfold yielded yieldedA
  cases (ops[j]?).bind (·.dst) with
  | none => rfl
  | some d =>
    have hk := k d
    rw [Array.getD_eq_getD_getElem?] at hk
    simp only [Option.bind_some]
    unfold Tm.val at hk
    cases hg : tm.get d with
    | none =>
      rw [hg] at hk
      cases ht : tmps[d]? with
      | none => rfl
      | some u =>
        rw [ht] at hk
        simp only [Option.getD_none, Option.getD_some] at hk
        obtain ⟨c', rfl, _⟩ := VRel.tuple_left (c := #[]) hk
        rfl
    | some x =>
      rw [hg] at hk
      simp only [Option.getD_some] at hk
      cases ht : tmps[d]? with
      | none =>
        rw [ht] at hk
        simp only [Option.getD_none] at hk
        cases x <;> first | rfl | (have := hk.bool_left; cases this)
      | some u =>
        rw [ht] at hk
        simp only [Option.getD_some] at hk
        cases x <;> first
          | (rw [hk.bool_left])
          | (cases u <;> first | rfl | (have := hk.bool_right; cases this))

/-- What an operand stands for. -/
theorem evO_rel (hr : HRel G β σ w) {tm : Tm} {tmps : Array Value} {ds : List Deferred} (k : TRel β tm tmps) {x : Operand} (h : okO G σ x = true) : VRel β (evO tm x) (({ tmps := tmps, defers := ds } : Act).eval x) := by
  cases x with
  | tmp t => exact k t
  | const v => exact VRel.flat1 h
  | global g =>
    simp only [okO, Bool.and_eq_true] at h
    obtain ⟨hlt, hm⟩ := h
    split at hm
    · rename_i c sz hg
      obtain ⟨L, hL, _⟩ := hr.obj g _ hg
      obtain ⟨h1, h2⟩ := hr.low g L (blt_lt hlt) hL
      have := VRel.ptr (off := 0) hL
      rw [h1, h2] at this
      exact this
    · cases hm
  | func f => exact .func (.func f) rfl (fun i v v' h => by simp at h) rfl (fun i v v' h => by simp at h)

theorem evO_rel' (hr : HRel G β σ w) {fr : Fr} {a : Act} {r : Option Nat} (k : FRel β fr a r) {o : Op} (h : o.operands.toList.all (okO G σ) = true) : ∀ x ∈ o.operands, VRel β (evO fr.tm x) (a.eval x) :=
  fun x hx => evO_rel (ds := a.defers) hr k.tm (List.all_eq_true.1 h x (Array.mem_toList_iff.2 hx))

/-- A call, as the model begins it. -/
def callSem (fv : Value) (args : Array Value) : Sem Next := do
  let d ← Deferred.ofValue fv args
  invoke d.target d.args

def Inv (P : Program) (w : World) (s : Sem Next) (R : Value → World → Prop) : Prop :=
  match s.run P w with
  | .ok (.value v) w' => R v w'
  | .ok (.enter f args) w' => CallsIn (fence none) 0 P f args w' fun e w'' => ∃ v, e = .returned v ∧ R v w''
  | .ok (.round l f tmps as b) w' => RoundIn (fence none) 0 P l f tmps as b w' fun e w'' => ∃ v, e = .returned v ∧ R v w''
  | _ => False

def SoundCall (P : Program) (G : Nat) (rec : Task → Option Res) : Prop :=
  ∀ fv args σ v σ', rec (.call fv args σ) = some (.call v σ') → ∀ β w fv' (args' : Array Value), HRel G β σ w → VRel β fv fv' → LRel β args args'.toList →
    Inv P w (callSem fv' args') fun v' w' => ∃ β', Step G β σ w β' σ' w' ∧ VRel β' v v'

def AExit.conv : AExit → Exit
  | .normal => .normal
  | .exit id => .exit id
  | .ret => .ret

/-- The operations' law. -/
theorem stepA_sound {rec : Task → Option Res} (hc : SoundCall P P.globals.size rec) {fr : Fr} {a : Act} {r : Option Nat} {o : Oper} {v : Value} {σ' : St} (h : stepA P rec fr o σ = some (v, σ'))
    (hr : HRel P.globals.size β σ w) (k : ∀ x ∈ o.op.operands, VRel β (evO fr.tm x) (a.eval x)) {K : Act → World → Prop} {Q : Exit → Act → World → Prop}
    (hK : ∀ β' w' v', Step P.globals.size β σ w β' σ' w' → VRel β' v v' → K (a.put o.dst v') w') : o.wpIn (fence r) 0 P a w K Q := by
  refine ⟨fun _ _ => trivial, ?_⟩
  unfold stepA at h
  split at h
  · rename_i hall
    split at h
    · rename_i f args hcal
      split at h
      · rename_i v₁ σ₁ hrec
        cases h
        unfold calleeA at hcal
        split at hcal
        · rename_i fo as ats ho
          cases hcal
          have hf : VRel β (evO fr.tm fo) (a.eval fo) := k fo (by rw [ho]; simp [Op.operands, Call.operands])
          have has : LRel β (as.toList.map (evO fr.tm)) (as.map a.eval).toList := by
            rw [Array.toList_map]
            exact LRel_map fun x hx => k x (by rw [ho]; simp [Op.operands, Call.operands]; exact .inr (Array.mem_toList_iff.1 hx))
          have hi := hc _ _ _ _ _ hrec β w _ _ hr hf has
          have hsem : o.semAt (fence r).round a.eval = callSem (a.eval fo) (as.map a.eval) := by
            rw [Oper.semAt_plain (fence r) a.eval o (by rw [ho]; simp)]
            simp [execOp, ho, resolve, callSem]
          rw [hsem]
          unfold Inv at hi
          split at hi
          · rename_i v' w' hrun
            obtain ⟨β', hs, hv⟩ := hi
            rw [hrun]
            exact hK β' w' v' hs hv
          · rename_i f' args' w' hrun
            rw [hrun]
            refine ⟨fun hh => by simp [fence, Fence.wide] at hh, CallsIn.mono hi fun e w'' he => ?_⟩
            obtain ⟨v', rfl, β', hs, hv⟩ := he
            exact hK β' w'' v' hs hv
          · rename_i l f' tmps as' b w' hrun
            rw [hrun]
            refine ⟨fun hh => by simp [fence, Fence.wide] at hh, RoundIn.mono hi fun e w'' he => ?_⟩
            obtain ⟨v', rfl, β', hs, hv⟩ := he
            exact hK β' w'' v' hs hv
          · exact hi.elim
        · cases hcal
      · cases h
    · have hnd : ∀ c, o.op ≠ .defer c := fun c hd => by
        unfold opA at h
        rw [hd] at h
        cases h
      obtain ⟨β', w', v', hrun, hs, hv⟩ := opA_sound h hr k
      rw [Oper.semAt_plain (fence r) a.eval o hnd]
      rcases hrun with hrun | ⟨hrun, rfl⟩
      · rw [hrun]; exact hK β' w' v' hs hv
      · rw [hrun]; exact hK β' w' undef hs hv
  · cases h

theorem stepF_ok {rec : Task → Option Res} {fr : Fr} {o : Oper} {σ σ' : St} {v : Value} (h : stepF P rec fr o σ = some (v, σ')) : o.op.operands.toList.all (okO P.globals.size σ) = true := by
  unfold stepF at h
  split at h
  · rename_i r hs
    unfold stepA at hs
    split at hs
    · assumption
    · cases hs
  · obtain ⟨u, hu, _⟩ := Option.map_eq_some_iff.1 h
    unfold factA at hu
    split at hu
    · split at hu
      · assumption
      · cases hu
    · cases hu

theorem stepF_sound {rec : Task → Option Res} (hc : SoundCall P P.globals.size rec) {fr : Fr} {a : Act} {r : Option Nat} {o : Oper} {v : Value} {σ' : St} (h : stepF P rec fr o σ = some (v, σ'))
    (hr : HRel P.globals.size β σ w) (k : ∀ x ∈ o.op.operands, VRel β (evO fr.tm x) (a.eval x)) {K : Act → World → Prop} {Q : Exit → Act → World → Prop}
    (hK : ∀ β' w' v', Step P.globals.size β σ w β' σ' w' → VRel β' v v' → K (a.put o.dst v') w') : o.wpIn (fence r) 0 P a w K Q := by
  unfold stepF at h
  split at h
  · rename_i r' hs
    cases h
    exact stepA_sound hc hs hr k hK
  · obtain ⟨u, hu, heq⟩ := Option.map_eq_some_iff.1 h
    cases heq
    unfold factA at hu
    split at hu
    · rename_i op t x y ty ho
      split at hu
      · obtain ⟨b, hb, rfl⟩ := Option.map_eq_some_iff.1 hu
        obtain ⟨h1, h2, x', y', hx, hy, hrun⟩ := hr.facts op _ _ b hb
        have ex := VRel.unique h1 hx (k x (by rw [ho]; simp [Op.operands]))
        have ey := VRel.unique h2 hy (k y (by rw [ho]; simp [Op.operands]))
        subst ex; subst ey
        refine ⟨fun _ _ => trivial, ?_⟩
        rw [Oper.semAt_plain (fence r) a.eval o (by rw [ho]; simp)]
        have := hrun P t x y w
        have hd : (execOp a.eval o).run P w = .ok (.value (.bool b)) w := by
          simp only [execOp, ho]
          simp only [Sem.run_bind] at this ⊢
          simp [this]
        rw [hd]
        exact hK β w (.bool b) (Step.refl hr) (.flat rfl)
      · cases hu
    · cases hu

theorem opsA_sound {rec : Task → Option Res} (hc : SoundCall P P.globals.size rec) {ops : Array Oper} {Q : Exit → Act → World → Prop} {r : Option Nat} : ∀ (l : List Oper) (i : Nat), ops.toList.drop i = l →
    ∀ (fr fr' : Fr) (σ σ' : St) (β : Ren) (a : Act) (w : World), opsA P rec ops l fr σ = some (fr', σ') → HRel P.globals.size β σ w → FRel β fr a r →
    (∀ β' a' w', Step P.globals.size β σ w β' σ' w' → FRel β' fr' a' r → Q .normal a' w') → wpOpsIn (fence r) 0 P ops Q (List.range' i l.length) a w := by
  intro l
  induction l with
  | nil =>
    intro i _ fr fr' σ σ' β a w h hr k hQ
    cases h
    exact hQ β a w (Step.refl hr) k
  | cons o rest ih =>
    intro i hi fr fr' σ σ' β a w h hr k hQ
    have ho : ops[i]? = some o := by
      have : (ops.toList.drop i)[0]? = some o := by rw [hi]; rfl
      rw [List.getElem?_drop] at this
      simpa using this
    have hrest : ops.toList.drop (i + 1) = rest := by
      have : (ops.toList.drop i).drop 1 = rest := by rw [hi]; rfl
      rwa [List.drop_drop] at this
    simp only [List.length_cons, List.range'_succ, wpOpsIn, ho]
    have hwant : Region.wanted o (yielded ops a.tmps) = Region.wanted o (yieldedA ops fr.tm) := by
      rw [show yielded ops a.tmps = yieldedA ops fr.tm from funext fun j => yielded_eq k.tm ops j]
    simp only [opsA] at h
    rw [hwant]
    split at h
    · rename_i hw
      rw [if_pos hw]
      split at h
      · rename_i v σ₁ hstep
        split at h
        · rename_i fr₁ hput
          have hall := stepF_ok hstep
          refine stepF_sound hc hstep hr (evO_rel' hr k hall) fun β' w' v' hs hv => ?_
          exact ih (i + 1) hrest fr₁ fr' σ₁ σ' β' _ w' h hs.rel ((k.mono hs.le).put hv hput) fun β'' a'' w'' hs' hk' => hQ β'' a'' w'' (hs.trans hs') hk'
        · cases h
      · cases h
    · rename_i hw
      rw [if_neg hw]
      split at h
      · rename_i fr₁ hput
        exact ⟨fun _ _ => trivial, ih (i + 1) hrest fr₁ fr' σ σ' β _ w h hr (k.put (VRel.undef β) hput) hQ⟩
      · cases h
end
end Go.Aev
