/- What the evaluator is used for: a closed call's contract. -/
import Derived.Test.YtigjjfmdmeoncaaGreatDoorAevSound
import Derived.Laws.StandIn
import Derived.Lib.Bytealg
import Derived.Below
import Derived.RowKit3
import Derived.ChangeSame
namespace Go.Aev
open Go.RowKit Go.WideShapes Go.ChangeShapes
section
variable {P : Program}

/-- Where a run begins: no memory, and the symbols. -/
def startA (G k : Nat) (facts : BinOp → Value → Value → Option Bool) : St := { heap := .leaf, next := G + k, facts := facts }

def symRen (G : Nat) (vs : List Value) : Ren := fun i => if i < G then none else (vs[i - G]?).map fun v => { blk := 0, base := 0, tot := 0, sz := 0, val := some v }

theorem symRel {G : Nat} {vs : List Value} {j : Nat} {v : Value} (h : vs[j]? = some v) (hv : symOk v = true) : VRel (symRen G vs) (symb (G + j)) v := by
  have : symRen G vs (G + j) = some { blk := 0, base := 0, tot := 0, sz := 0, val := some v } := by
    unfold symRen
    rw [if_neg (by omega)]
    simp [h]
  exact .sym this rfl hv

theorem leaf_get {α : Type} (n : Nat) : Tr.get (.leaf : Tr α) n = none := by
  cases n <;> rfl

theorem noFacts_ok (β : Ren) : FactsOk β noFacts := fun op x y b h => by cases h

theorem hrel_start {G : Nat} {vs : List Value} {facts : BinOp → Value → Value → Option Bool} (hf : FactsOk (symRen G vs) facts) (w : World) : HRel G (symRen G vs) (startA G vs.length facts) w where
  obj := fun id o h => by simp [startA, leaf_get] at h
  inj := fun i j oi oj L M h => by simp [startA, leaf_get] at h
  fresh := fun id h => by
    have h' : G + vs.length ≤ id := h
    unfold symRen
    rw [if_neg (by omega), List.getElem?_eq_none (by omega)]
    rfl
  low := fun g L hg h => by
    unfold symRen at h
    rw [if_pos hg] at h
    cases h
  gnext := by show G ≤ G + vs.length; omega
  facts := hf

/-- Nothing of the world but what is new. -/
theorem Step.below {G : Nat} {β β' : Ren} {k : Nat} {facts : BinOp → Value → Value → Option Bool} {σ' : St} {w w' : World} (h : Step G β (startA G k facts) w β' σ' w') : Below w.heap.size w w' :=
  ⟨h.os, h.tape, h.output, h.size, fun b hb => h.same b hb fun id o L hg => by simp [startA, leaf_get] at hg⟩

variable {S : FuncId → Option (List Value → St → Option (Value × St))} {X : FuncId → Option (List Value → Option Value)}

/-- A run of a call, as a contract. -/
theorem closed (hm : P.follows .mixedOrders = true) (hname : NamesOk P) (hS : ∀ f s, S f = some s → SumOk P f s) (hX : ∀ f x, X f = some x → ExtOk P f x) {n : Nat}
    {f : FuncId} {args : List Value} {args' : Array Value} {β : Ren} {σ σ' : St} {v : Value} {w : World} (hb : (bodyOf P f).isSome = true)
    (h : ev P S X n (.call (.func (.func f) #[] #[]) args σ) = some (.call v σ')) (hr : HRel P.globals.size β σ w) (ha : LRel β args args'.toList) :
    CallsIn (fence none) 0 P f args' w fun e w' => ∃ v', e = .returned v' ∧ ∃ β', Step P.globals.size β σ w β' σ' w' ∧ VRel β' v v' := by
  have hi := (sound hm hname hS hX n).2.1 _ _ _ _ _ h β w _ args' hr (.func (.func f) rfl (fun i v v' h => by simp at h) rfl (fun i v v' h => by simp at h)) ha
  obtain ⟨⟨fn, c⟩, hfc⟩ := Option.isSome_iff_exists.1 hb
  obtain ⟨hf, hc⟩ := bodyOf_some hfc
  unfold Inv at hi
  rw [callSem_func] at hi
  rw [run_enter hname hf hc] at hi
  simp only [Array.empty_append, Array.append_empty] at hi
  refine CallsIn.mono hi fun e w' he => ?_
  obtain ⟨v', rfl, β', hs, hv⟩ := he
  exact ⟨v', rfl, β', hs, hv⟩

/-- A run's result is this. -/
def gives (r : Option Res) (b : Bool) : Bool :=
  match r with
  | some (.call (.bool c) _) => c == b
  | _ => false

theorem gives_eq {r : Option Res} {b : Bool} (h : gives r b = true) : ∃ σ', r = some (.call (.bool b) σ') := by
  unfold gives at h
  split at h
  · rename_i c σ'
    obtain rfl : c = b := by simpa using h
    exact ⟨σ', rfl⟩
  · cases h

/-- A law's run: it answers 'true', whatever the world; nothing that was is turned. -/
theorem closed_true (hm : P.follows .mixedOrders = true) (hname : NamesOk P) (hS : ∀ f s, S f = some s → SumOk P f s) (hX : ∀ f x, X f = some x → ExtOk P f x) {n : Nat}
    {f : FuncId} {args : List Value} {args' : Array Value} {vs : List Value} {facts : BinOp → Value → Value → Option Bool} {b : Bool} (hb : (bodyOf P f).isSome = true)
    (h : gives (ev P S X n (.call (.func (.func f) #[] #[]) args (startA P.globals.size vs.length facts))) b = true) (hf : FactsOk (symRen P.globals.size vs) facts) (ha : LRel (symRen P.globals.size vs) args args'.toList) (w : World) :
    Calls P f args' w fun e w' => e = .returned (.bool b) ∧ Below w.heap.size w w' := by
  obtain ⟨σ', h⟩ := gives_eq h
  have hc := closed hm hname hS hX hb h (hrel_start hf w) ha
  refine callsIn_wide.1 (CallsIn.mono hc fun e w' he => ?_)
  obtain ⟨v', rfl, β', hs, hv⟩ := he
  obtain rfl := hv.of_flat0 rfl
  exact ⟨rfl, hs.below⟩

/-- What was shown of a closed call serves in every other run. -/
theorem sumOk_closed (hm : P.follows .mixedOrders = true) (hname : NamesOk P) (hS : ∀ f s, S f = some s → SumOk P f s) (hX : ∀ f x, X f = some x → ExtOk P f x) {n : Nat}
    {f : FuncId} {b : Bool} (hb : (bodyOf P f).isSome = true) (h : gives (ev P S X n (.call (.func (.func f) #[] #[]) [] (startA P.globals.size 0 noFacts))) b = true) :
    SumOk P f fun args σ => match args with | [] => some (.bool b, σ) | _ => none := by
  obtain ⟨⟨fn, c⟩, hfc⟩ := Option.isSome_iff_exists.1 hb
  refine ⟨⟨fn, c, hfc⟩, fun args σ v σ' he β w args' hr ha => ?_⟩
  simp only at he
  split at he
  · cases he
    obtain ⟨σ₁, h⟩ := gives_eq h
    have hc := closed hm hname hS hX hb h (hrel_start (vs := []) (noFacts_ok _) w) (args' := args') ⟨ha.1, fun i v v' h => by simp at h⟩
    refine CallsIn.mono hc fun e w' he => ?_
    obtain ⟨v', rfl, β', hs, hv⟩ := he
    obtain rfl := hv.of_flat0 rfl
    refine ⟨_, rfl, β, ?_, .flat rfl⟩
    have hbl := hs.below
    refine ⟨Ren.le_refl β, ⟨fun id o hg => ?_, hr.inj, hr.fresh, hr.low, hr.gnext, hr.facts⟩, hs.os, hs.tape, hs.output, hs.size, fun id o L hg hw hL => .inr ⟨id, o, L, hg, hw, hL, rfl⟩, fun b hb' _ => hbl.block b hb'⟩
    obtain ⟨L, hL, ho⟩ := hr.obj id o hg
    refine ⟨L, hL, ?_⟩
    rw [hbl.block _ (ORel.lt ho)]
    exact ho
  · cases he

/-! ### What has no body -/
theorem extOk_indexByte {f : FuncId}
    (hrun : ∀ (args : Array Value) (w : World), (callFunc f args).run P w = ((Extern.BytealgIndexByte.indexByte args).run P w).andThen fun v w' => .ok (.value v) w') :
    ExtOk P f fun | [.string s, .int .u8 c] => some (.int .i64 (Lib.indexByte s.data.toList c.toNat.toUInt8)) | _ => none := by
  intro args v h _ w
  simp only at h
  split at h
  · rename_i s c _
    cases h
    refine ⟨?_, rfl⟩
    rw [hrun]
    have := Lib.run_indexByteString (P := P) s c w
    show Result.andThen (Sem.run P (Extern.BytealgIndexByte.indexByte #[.string s, .int .u8 c]) w) _ = _
    rw [this]; rfl
  · cases h

theorem extOk_count {f : FuncId}
    (hrun : ∀ (args : Array Value) (w : World), (callFunc f args).run P w = ((Extern.BytealgCount.count args).run P w).andThen fun v w' => .ok (.value v) w') :
    ExtOk P f fun | [.string s, .int .u8 c] => some (.int .i64 (Lib.countByte s.data.toList c.toNat.toUInt8)) | _ => none := by
  intro args v h _ w
  simp only at h
  split at h
  · rename_i s c _
    cases h
    refine ⟨?_, rfl⟩
    rw [hrun]
    have := Lib.run_countString (P := P) s c w
    show Result.andThen (Sem.run P (Extern.BytealgCount.count #[.string s, .int .u8 c]) w) _ = _
    rw [this]; rfl
  · cases h

/-! ### What a row asks of a call that turned nothing -/
theorem kept_of_below {w w' : World} (h : Below w.heap.size w w') (may : MemPlace → Prop) : w.keptBut w' may := by
  refine ⟨h.os, h.output, fun i hi => ?_⟩
  rw [h.block i hi]
  cases w.heap[i]? with
  | none => rfl
  | some o => cases o <;> simp

theorem frozen_of_below {w w' : World} (h : Below w.heap.size w w') {a : Addr} (ha : a.block < w.heap.size) : w'.frozen? a = w.frozen? a := by
  unfold World.frozen?
  rw [h.block _ ha]

theorem post_of_below {H : Type} {enc : TypeId × Value → H} {f : Func} {s : ChangeSpec} {apart fresh handsOn again : Bool} {W W' : World} {args : Array Value} {v : Value} {ds gs : List (DataW H)} {before pa pv : List MemPlace}
    (hW : DataW.Whole enc P f.params.toList s.vars apart W args.toList ds gs before)
    (hres : ∀ (b : Nat) (sp : Nat → Bool) (hd : Bool), DataW.TrodAll enc P W' b sp hd f.resultTypes.toList (v.resultList f.resultTypes.size) (s.fn H (ds ++ gs)).results [])
    (hargs : ∀ sp : Nat → Bool, (∀ p ∈ before, sp p.block = true) → DataW.TrodAll enc P W' 0 sp true f.params.toList args.toList (s.fn H (ds ++ gs)).args pa)
    (hvars : ∀ sp : Nat → Bool, (∀ p ∈ before, sp p.block = true) → DataW.TrodVars enc P W' sp s.vars (s.fn H (ds ++ gs)).vars pv)
    (hps : before = pa ++ pv) (hb : Below W.heap.size W W')
    (hok : ∀ (j : Nat) (t : TypeId) (r : Value), f.resultTypes[j]? = some t → (v.resultList f.resultTypes.size)[j]? = some r → Value.okWide P W' .any 0 t r) :
    s.post enc P f apart fresh handsOn again W args v W' := by
  have hold : ∀ p ∈ before, (fun b => decide (b < W.heap.size)) p.block = true := fun p hp => by simpa using hW.lt p hp
  refine ⟨ds, gs, before, [], pa, pv, hW, hres _ _ _, hargs _ hold, hvars _ hold, World.keptBut_mono (fun p hp => ⟨hp, ?_⟩) (kept_of_below hb (· ∈ before)), fun _ => ?_⟩
  · rw [hps, List.mem_append] at hp
    exact Or.inr hp
  · have hlt := hW.lt
    obtain ⟨_, _, _, _, _, hz, hn⟩ := hW
    refine ⟨hok, _, _, ([] ++ pa) ++ pv, ⟨[] ++ pa, pv, trodAll_append (hargs _ (fun _ _ => rfl)) (hres _ _ _), hvars _ (fun _ _ => rfl), rfl, ?_, ?_⟩, ?_⟩
    · intro b off hp
      have hp' : MemPlace.cell b off ∈ before := by rw [hps]; simpa using hp
      rw [frozen_of_below hb (hlt _ hp')]
      exact hz b off hp'
    · intro ha
      have := hn ha
      rw [hps] at this
      simpa using this
    · intro p hp _
      rw [hps]
      simpa using hp
end
end Go.Aev
