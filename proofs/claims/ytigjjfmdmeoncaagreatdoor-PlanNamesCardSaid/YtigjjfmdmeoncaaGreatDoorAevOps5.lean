/- What an operation does that calls nothing. -/
import Derived.Test.YtigjjfmdmeoncaaGreatDoorAevOps4
namespace Go.Aev
section
variable {P : Program} {G : Nat} {β : Ren} {σ : St} {w : World}

theorem pureRun_run {α : Type} : ∀ (s : Sem α) (a : α), pureRun P s = some a → ∀ w, s.run P w = .ok a w := by
  intro s
  induction s with
  | pure a => intro b h w; cases h; rfl
  | program k ih => intro b h w; exact ih P b h w
  | _ => intro b h; cases h

theorem pureOp_sound {ρ ρ' : Operand → Value} {o : Oper} {v : Value} (h : pureOp P ρ o = some v) (hρ : ∀ x ∈ o.op.operands, VRel β (ρ x) (ρ' x)) (hs : ∀ cs b, o.op ≠ .select cs b) (w : World) :
    (execOp ρ' o).run P w = .ok (.value v) w ∧ VRel β v v := by
  unfold pureOp at h
  split at h
  · rename_i hall
    split at h
    · rename_i u hr
      split at h
      · rename_i hf
        cases h
        have he : execOp ρ' o = execOp ρ o := execOp_congr o hs fun x hx => (hρ x hx).of_flat1 (List.all_eq_true.1 hall x (Array.mem_toList_iff.2 hx))
        rw [he]
        exact ⟨pureRun_run _ _ hr w, VRel.flat1 hf⟩
      · cases h
    · cases h
  · cases h

/-- What is shown of an operation. -/
def Did (P : Program) (G : Nat) (β : Ren) (σ : St) (w : World) (s : Sem Next) (v : Value) (σ' : St) : Prop :=
  ∃ β' w' v', (s.run P w = .ok (.value v') w' ∨ (s.run P w = .ok .skip w' ∧ v' = undef)) ∧ Step G β σ w β' σ' w' ∧ VRel β' v v'

theorem Did.value {s : Sem Value} {v v' : Value} {σ' : St} {β' : Ren} {w' : World} (h : s.run P w = .ok v' w') (hs : Step G β σ w β' σ' w') (hv : VRel β' v v') :
    Did P G β σ w (do pure (Next.value (← s))) v σ' := ⟨β', w', v', .inl (by simp [h]), hs, hv⟩
theorem Did.quiet (hr : HRel G β σ w) {s : Sem Value} {v : Value} (h : ∃ v', s.run P w = .ok v' w ∧ VRel β v v') : Did P G β σ w (do pure (Next.value (← s))) v σ := by
  obtain ⟨v', h1, h2⟩ := h
  exact Did.value h1 (Step.refl hr) h2
theorem Did.some' {s : Sem Value} {v : Value} {σ' : St} (h : ∃ β' w' v', s.run P w = .ok v' w' ∧ Step G β σ w β' σ' w' ∧ VRel β' v v') : Did P G β σ w (do pure (Next.value (← s))) v σ' := by
  obtain ⟨β', w', v', h1, h2, h3⟩ := h
  exact Did.value h1 h2 h3
theorem Did.unit {s : Sem Unit} {σ' : St} (h : ∃ w', s.run P w = .ok () w' ∧ Step G β σ w β σ' w') : Did P G β σ w (do s; pure .skip) undef σ' := by
  obtain ⟨w', h1, h2⟩ := h
  exact ⟨β, w', undef, .inr ⟨by simp [h1], rfl⟩, h2, VRel.undef β⟩
theorem Did.pure' (hr : HRel G β σ w) {ρ ρ' : Operand → Value} {o : Oper} {v : Value} (h : pureOp P ρ o = some v) (hρ : ∀ x ∈ o.op.operands, VRel β (ρ x) (ρ' x)) (hs : ∀ cs b, o.op ≠ .select cs b) :
    Did P G β σ w (execOp ρ' o) v σ := by
  obtain ⟨h1, h2⟩ := pureOp_sound h hρ hs w
  exact ⟨β, w, v, .inl h1, Step.refl hr, h2⟩

theorem optRel_map {ρ ρ' : Operand → Value} {x : Option Operand} (h : ∀ y, x = some y → VRel β (ρ y) (ρ' y)) : optRel β (x.map ρ) (x.map ρ') := by
  cases x with
  | none => trivial
  | some y => exact h y rfl

theorem PRel_map {ρ ρ' : Operand → Value} {ps : Array (Nat × Operand)} (h : ∀ p ∈ ps, VRel β (ρ p.2) (ρ' p.2)) : PRel β (ps.map fun (i, x) => (i, ρ x)).toList (ps.map fun (i, x) => (i, ρ' x)).toList := by
  refine ⟨by simp, fun i k v k' v' h1 h2 => ?_⟩
  simp only [Array.toList_map, List.getElem?_map, Option.map_eq_some_iff] at h1 h2
  obtain ⟨p, hp, he⟩ := h1
  obtain ⟨q, hq, he'⟩ := h2
  rw [hp] at hq; cases hq
  cases he; cases he'
  exact ⟨rfl, h p (Array.mem_toList_iff.1 (List.mem_of_getElem? hp))⟩

theorem LRel_map {ρ ρ' : Operand → Value} {xs : List Operand} (h : ∀ x ∈ xs, VRel β (ρ x) (ρ' x)) : LRel β (xs.map ρ) (xs.map ρ') := by
  refine ⟨by simp, fun i v v' h1 h2 => ?_⟩
  simp only [List.getElem?_map, Option.map_eq_some_iff] at h1 h2
  obtain ⟨p, hp, rfl⟩ := h1
  obtain ⟨q, hq, rfl⟩ := h2
  rw [hp] at hq; cases hq
  exact h p (List.mem_of_getElem? hp)

theorem opA_sound {ρ ρ' : Operand → Value} {o : Oper} {v : Value} {σ' : St} (h : opA P ρ o σ = some (v, σ')) (hr : HRel G β σ w) (hρ : ∀ x ∈ o.op.operands, VRel β (ρ x) (ρ' x)) :
    Did P G β σ w (execOp ρ' o) v σ' := by
  unfold opA at h
  simp only at h
  split at h
  · -- move
    rename_i x ho
    cases h
    have := hρ x (by rw [ho]; simp [Op.operands])
    exact ⟨β, w, ρ' x, .inl (by simp [execOp, ho]), Step.refl hr, this⟩
  · -- assign
    rename_i x ho
    cases h
    have := hρ x (by rw [ho]; simp [Op.operands])
    exact ⟨β, w, ρ' x, .inl (by simp [execOp, ho]), Step.refl hr, this⟩
  · -- pick
    rename_i c a b ho
    split at h
    · rename_i t hc
      cases h
      have h1 := hρ c (by rw [ho]; simp [Op.operands])
      have h2 := hρ a (by rw [ho]; simp [Op.operands])
      have h3 := hρ b (by rw [ho]; simp [Op.operands])
      rw [hc] at h1
      refine ⟨β, w, if t then ρ' a else ρ' b, .inl (by simp [execOp, ho, h1.bool_left, asBool]), Step.refl hr, ?_⟩
      cases t
      · exact h3
      · exact h2
    · cases h
  · -- alloc
    rename_i e ho
    split at h
    · rename_i i s hi hs
      split at h
      · rename_i z hz
        split at h
        · rename_i hf
          obtain ⟨⟨id, σ₁⟩, hnew, heq⟩ := Option.map_eq_some_iff.1 h
          cases heq
          obtain ⟨β', L, w', hrun, h1, h2, h3, h4, h5⟩ := newRow_sound (P := P) hr hnew (LRel.flat hf) e
          simp only [Array.toArray_toList] at hrun
          simp only [execOp, ho]
          refine Did.value (v' := .pointer (some ⟨L.blk, 0, none⟩)) ?_ h5 (VRel.ptr0 h1 h2)
          simp [Instr.alloc, zeroValue, typeInfo, hi, hz, newVar, hrun]
        · cases h
      · cases h
    · cases h
  · -- box
    rename_i e x ho
    split at h
    · rename_i s hs
      obtain ⟨⟨id, σ₁⟩, hnew, heq⟩ := Option.map_eq_some_iff.1 h
      cases heq
      have hx := hρ x (by rw [ho]; simp [Op.operands])
      obtain ⟨β', L, w', hrun, h1, h2, h3, h4, h5⟩ := newRow_sound (P := P) hr hnew hx.cells e
      simp only [Array.toArray_toList] at hrun
      simp only [execOp, ho]
      refine Did.value (v' := .pointer (some ⟨L.blk, 0, none⟩)) ?_ h5 (VRel.ptr0 h1 h2)
      simp [Instr.box, newVar, hrun]
    · cases h
  · -- build
    rename_i t parts ho
    obtain ⟨u, hu, heq⟩ := Option.map_eq_some_iff.1 h
    cases heq
    simp only [execOp, ho]
    refine Did.quiet hr (buildA_sound hu (PRel_map fun p hp => hρ p.2 ?_))
    rw [ho]
    simp only [Op.operands, List.mem_toArray, List.mem_map]
    exact ⟨p, Array.mem_toList_iff.2 hp, rfl⟩
  · -- buildSlice
    rename_i t len parts ho
    simp only [execOp, ho]
    refine Did.some' (buildSliceA_sound hr h (PRel_map fun p hp => hρ p.2 ?_))
    rw [ho]
    simp only [Op.operands, List.mem_toArray, List.mem_map]
    exact ⟨p, Array.mem_toList_iff.2 hp, rfl⟩
  · -- load
    rename_i t a ho
    obtain ⟨u, hu, heq⟩ := Option.map_eq_some_iff.1 h
    cases heq
    simp only [execOp, ho]
    exact Did.quiet hr (loadA_sound hr hu (hρ a (by rw [ho]; simp [Op.operands])))
  · -- store
    rename_i t a x ho
    obtain ⟨u, hu, heq⟩ := Option.map_eq_some_iff.1 h
    cases heq
    simp only [execOp, ho]
    exact Did.unit (storeA_sound hr hu (hρ a (by rw [ho]; simp [Op.operands])) (hρ x (by rw [ho]; simp [Op.operands])))
  · -- nilCheck
    rename_i x ho
    have hx := hρ x (by rw [ho]; simp [Op.operands])
    split at h
    · rename_i a hv
      cases h
      rw [hv] at hx
      obtain ⟨id, off, L, rfl, hL, he⟩ := hx.ptr_left
      rw [he] at hx
      exact ⟨β, w, _, .inl (by simp [execOp, ho, he]), Step.refl hr, hx⟩
    · rename_i f a b hv
      cases h
      rw [hv] at hx
      obtain ⟨f', a', c', he, hf, _⟩ := hx.func_left
      rw [he] at hx
      cases hf
      exact ⟨β, w, _, .inl (by simp [execOp, ho, he]), Step.refl hr, hx⟩
    · rename_i f a b hv
      cases h
      rw [hv] at hx
      obtain ⟨f', a', c', he, hf, _⟩ := hx.func_left
      rw [he] at hx
      cases hf
      exact ⟨β, w, _, .inl (by simp [execOp, ho, he]), Step.refl hr, hx⟩
    · cases h
  · -- makeInterface
    rename_i t x ho
    have hx := hρ x (by rw [ho]; simp [Op.operands])
    split at h
    · cases h
    · rename_i d hd hno
      cases h
      refine ⟨β, w, .iface t (ρ' x), .inl ?_, Step.refl hr, .iface hx⟩
      simp only [execOp, ho, Instr.makeInterface, Sem.run_bind, run_underlying hno, Result.andThen_ok]
      cases d <;> first | rfl | exact (hd _ rfl).elim
    · cases h
  · -- makeFunc
    rename_i f first captured ho
    cases h
    refine ⟨β, w, .func (.func f) (first.map ρ') (captured.map ρ'), .inl (by simp [execOp, ho, Instr.makeFunc]), Step.refl hr, ?_⟩
    have h1 : LRel β (first.toList.map ρ) (first.toList.map ρ') := LRel_map fun x hx => hρ x (by rw [ho]; simp [Op.operands]; exact .inl (Array.mem_toList_iff.1 hx))
    have h2 : LRel β (captured.toList.map ρ) (captured.toList.map ρ') := LRel_map fun x hx => hρ x (by rw [ho]; simp [Op.operands]; exact .inr (Array.mem_toList_iff.1 hx))
    exact .func (.func f) (by simp) (fun i a b ha hb => h1.2 i a b (by simpa using ha) (by simpa using hb)) (by simp) (fun i a b ha hb => h2.2 i a b (by simpa using ha) (by simpa using hb))
  · -- makeMap
    rename_i t ho
    cases h
    obtain ⟨β', h1, h2⟩ := hr.new (.map [] 0) (.map #[] 0) { blk := w.heap.size, base := 0, tot := 0, sz := 0 } rfl (fun _ _ _ => ⟨#[], rfl, rfl, fun i k v b e x => by simp at x⟩)
    simp only [execOp, ho]
    refine Did.value (v' := .map (some w.heap.size)) ?_ h2 (.map h1)
    simp only [Instr.makeMap, Option.map_none]
    rfl
  · -- lookup
    rename_i t m k ok ho
    obtain ⟨u, hu, heq⟩ := Option.map_eq_some_iff.1 h
    cases heq
    simp only [execOp, ho]
    exact Did.quiet hr (lookupA_sound hr hu (hρ m (by rw [ho]; simp [Op.operands])) (hρ k (by rw [ho]; simp [Op.operands])))
  · -- mapUpdate
    rename_i t m k x ho
    obtain ⟨u, hu, heq⟩ := Option.map_eq_some_iff.1 h
    cases heq
    simp only [execOp, ho]
    exact Did.unit (mapUpdateA_sound hr hu (hρ m (by rw [ho]; simp [Op.operands])) (hρ k (by rw [ho]; simp [Op.operands])) (hρ x (by rw [ho]; simp [Op.operands])))
  · -- insert
    rename_i t m k x ho
    obtain ⟨u, hu, heq⟩ := Option.map_eq_some_iff.1 h
    cases heq
    simp only [execOp, ho]
    exact Did.unit (mapUpdateA_sound hr hu (hρ m (by rw [ho]; simp [Op.operands])) (hρ k (by rw [ho]; simp [Op.operands])) (hρ x (by rw [ho]; simp [Op.operands])))
  · -- range
    rename_i t x ho
    simp only [execOp, ho]
    exact Did.some' (rangeA_sound hr h (hρ x (by rw [ho]; simp [Op.operands])))
  · -- next
    rename_i it ho
    simp only [execOp, ho]
    exact Did.some' (nextA_sound hr h (hρ it (by rw [ho]; simp [Op.operands])))
  · -- slice
    rename_i t x lo hi ho
    split at h
    · rename_i r hp
      cases h
      exact Did.pure' hr hp hρ (by rw [ho]; simp)
    · obtain ⟨u, hu, heq⟩ := Option.map_eq_some_iff.1 h
      cases heq
      simp only [execOp, ho]
      refine Did.quiet hr (sliceA_sound hr hu (hρ x (by rw [ho]; simp [Op.operands])) (optRel_map fun y hy => hρ y ?_) (optRel_map fun y hy => hρ y ?_))
      · rw [ho, hy]; simp [Op.operands]
      · rw [ho, hy]; simp [Op.operands]
  · -- fieldAddr
    rename_i t x f ho
    obtain ⟨u, hu, heq⟩ := Option.map_eq_some_iff.1 h
    cases heq
    simp only [execOp, ho]
    exact Did.quiet hr (fieldAddrA_sound hu (hρ x (by rw [ho]; simp [Op.operands])))
  · -- field
    rename_i t x f ho
    obtain ⟨u, hu, heq⟩ := Option.map_eq_some_iff.1 h
    cases heq
    simp only [execOp, ho]
    exact Did.quiet hr (fieldA_sound hu (hρ x (by rw [ho]; simp [Op.operands])))
  · -- indexAddr
    rename_i t x ix ho
    obtain ⟨u, hu, heq⟩ := Option.map_eq_some_iff.1 h
    cases heq
    simp only [execOp, ho]
    exact Did.quiet hr (indexAddrA_sound hu (hρ x (by rw [ho]; simp [Op.operands])) (hρ ix (by rw [ho]; simp [Op.operands])))
  · -- index
    rename_i t x ix ho
    split at h
    · rename_i r hp
      cases h
      exact Did.pure' hr hp hρ (by rw [ho]; simp)
    · obtain ⟨u, hu, heq⟩ := Option.map_eq_some_iff.1 h
      cases heq
      simp only [execOp, ho]
      exact Did.quiet hr (indexA_sound hu (hρ x (by rw [ho]; simp [Op.operands])) (hρ ix (by rw [ho]; simp [Op.operands])))
  · -- extract
    rename_i t ix ho
    have ht := hρ t (by rw [ho]; simp [Op.operands])
    split at h
    · rename_i vs hv
      obtain ⟨u, hu, heq⟩ := Option.map_eq_some_iff.1 h
      cases heq
      rw [hv] at ht
      obtain ⟨vs', he, hl⟩ := ht.tuple_left
      obtain ⟨u', hu', hrel⟩ := hl.get (i := ix) (v := v) (by simpa using hu)
      have hu'' : vs'[ix]? = some u' := by simpa using hu'
      simp only [execOp, ho]
      exact Did.quiet hr ⟨u', by simp [Instr.extract, he, hu''], hrel⟩
    · cases h
  · -- binOp
    rename_i op t x y ty ho
    split at h
    · rename_i r hp
      cases h
      exact Did.pure' hr hp hρ (by rw [ho]; simp)
    · obtain ⟨u, hu, heq⟩ := Option.map_eq_some_iff.1 h
      cases heq
      simp only [execOp, ho]
      refine Did.value (s := do eqGuard op t x y (ρ' x) (ρ' y); binOp op t (ρ' x) (ρ' y)) (binA_sound hu (hρ x (by rw [ho]; simp [Op.operands])) (hρ y (by rw [ho]; simp [Op.operands])) x y w) (Step.refl hr) ?_
      unfold binA at hu
      split at hu
      · obtain ⟨b, _, rfl⟩ := Option.map_eq_some_iff.1 hu; exact .flat rfl
      · obtain ⟨b, _, rfl⟩ := Option.map_eq_some_iff.1 hu; exact .flat rfl
      · cases hu
  · -- unOp
    rename_i op t x ho
    obtain ⟨u, hu, heq⟩ := Option.map_eq_some_iff.1 h
    cases heq
    exact Did.pure' hr hu hρ (by rw [ho]; simp)
  · -- convert
    rename_i s d x ho
    split at h
    · rename_i r hc
      cases h
      simp only [execOp, ho]
      exact Did.some' (convA_sound hr hc (hρ x (by rw [ho]; simp [Op.operands])))
    · obtain ⟨u, hu, heq⟩ := Option.map_eq_some_iff.1 h
      cases heq
      exact Did.pure' hr hu hρ (by rw [ho]; simp)
  · -- len
    rename_i args argTypes ho
    split at h
    · rename_i t x ht hx
      split at h
      · rename_i e hu
        split at h
        · rename_i a n c hv
          cases h
          have hx' := hρ x (by rw [ho]; simp [Op.operands, Call.operands]; exact Array.mem_of_getElem? hx)
          rw [hv] at hx'
          have hs : ∃ a' c', ρ' x = .slice a' n c' := by
            cases a with
            | none => exact ⟨none, c, hx'.nil_left⟩
            | some ad => obtain ⟨id, off, o, c', L, _, _, he, _⟩ := hx'.slice_left; exact ⟨_, _, he⟩
          obtain ⟨a', c', he⟩ := hs
          refine ⟨β, w, goInt n, .inl ?_, Step.refl hr, .flat rfl⟩
          have hx2 : (args.map ρ')[0]? = some (.slice a' n c') := by rw [Array.getElem?_map, hx]; simp [he]
          simp [execOp, ho, resolve, invoke, builtin, Builtin.len_, ht, hx2, run_underlying hu]
        · cases h
      · obtain ⟨u, hu, heq⟩ := Option.map_eq_some_iff.1 h
        cases heq
        exact Did.pure' hr hu hρ (by rw [ho]; simp)
    · cases h
  · -- append
    rename_i args argTypes ho
    split at h
    · rename_i t u s x
      split at h
      · cases h
      · rename_i d hd hu
        have hs := hρ s (by rw [ho]; simp [Op.operands, Call.operands])
        have hx := hρ x (by rw [ho]; simp [Op.operands, Call.operands])
        obtain ⟨β', w', v', h1, h2, h3⟩ := appendA_sound (P := P) (ty := o.type) hr hu (fun k e => hd k e) h hs hx
        refine ⟨β', w', v', .inl ?_, h2, h3⟩
        simp only [execOp, ho, resolve, invoke, builtin, Sem.run_bind, Sem.run_pure, Result.andThen_ok]
        have h1' : (Builtin.append_ ⟨[t, u]⟩ o.type (Array.map ρ' ⟨[s, x]⟩)).run P w = .ok v' w' := by simpa using h1
        simp only [h1', Result.andThen_ok]
      · cases h
    · cases h
  · -- copy
    rename_i args argTypes ho
    split at h
    · rename_i t u s x
      have hs := hρ s (by rw [ho]; simp [Op.operands, Call.operands])
      have hx := hρ x (by rw [ho]; simp [Op.operands, Call.operands])
      obtain ⟨β', w', v', h1, h2, h3⟩ := copyA_sound (P := P) (u := u) (ty := o.type) hr h hs hx
      refine ⟨β', w', v', .inl ?_, h2, h3⟩
      have h1' : (Builtin.copy_ ⟨[t, u]⟩ o.type (Array.map ρ' ⟨[s, x]⟩)).run P w = .ok v' w' := by simpa using h1
      simp only [execOp, ho, resolve, invoke, builtin, Sem.run_bind, Sem.run_pure, Result.andThen_ok, h1']
    · cases h
  · -- min
    rename_i args argTypes ho
    obtain ⟨u, hu, heq⟩ := Option.map_eq_some_iff.1 h
    cases heq
    exact Did.pure' hr hu hρ (by rw [ho]; simp)
  · -- max
    rename_i args argTypes ho
    obtain ⟨u, hu, heq⟩ := Option.map_eq_some_iff.1 h
    cases heq
    exact Did.pure' hr hu hρ (by rw [ho]; simp)
  · cases h
end
end Go.Aev
