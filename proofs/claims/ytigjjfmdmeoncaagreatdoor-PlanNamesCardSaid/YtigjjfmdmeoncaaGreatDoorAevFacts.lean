/- Facts as a list. -/
import Derived.Test.YtigjjfmdmeoncaaGreatDoorAevUse
import Derived.Laws.Strings
namespace Go.Aev

def sameS : Value → Value → Bool
  | .int j a, .int k b => j == k && a == b
  | .string a, .string b => a.data == b.data
  | .complex .f32 i 0, .complex .f32 j 0 => Nat.beq i j
  | _, _ => false

theorem sameS_eq {x y : Value} (h : sameS x y = true) : x = y := by
  unfold sameS at h
  split at h
  · simp at h; rw [h.1, h.2]
  · rw [ByteArray.ext (eq_of_beq h)]
  · rw [Nat.eq_of_beq_eq_true h]
  · cases h

structure Fact where
  op : BinOp
  x : Value
  y : Value
  b : Bool

def factsOf : List Fact → BinOp → Value → Value → Option Bool
  | [], _, _, _ => none
  | f :: fs, op, x, y => bif decide (op = f.op) && sameS x f.x && sameS y f.y then some f.b else factsOf fs op x y

/-- The comparison's run, whatever the program. -/
def Says (op : BinOp) (x y : Value) (b : Bool) : Prop :=
  ∀ (P : Program) (t : TypeId) (ox oy : Operand) (w : World), (do eqGuard op t ox oy x y; binOp op t x y : Sem Value).run P w = .ok (.bool b) w

def FactOk (β : Ren) (f : Fact) : Prop := simple f.x = true ∧ simple f.y = true ∧ ∃ x' y', VRel β f.x x' ∧ VRel β f.y y' ∧ Says f.op x' y' f.b

theorem factsOf_ok {β : Ren} : ∀ {l : List Fact}, (∀ f ∈ l, FactOk β f) → FactsOk β (factsOf l)
  | [], _ => fun op x y b h => by cases h
  | f :: fs, hl => fun op x y b h => by
    unfold factsOf at h
    cases hc : (decide (op = f.op) && sameS x f.x && sameS y f.y) with
    | true =>
      rw [hc] at h
      simp only [cond_true, Option.some.injEq] at h
      simp only [Bool.and_eq_true, decide_eq_true_eq] at hc
      obtain ⟨⟨h1, h2⟩, h3⟩ := hc
      rw [h1, sameS_eq h2, sameS_eq h3, ← h]
      exact hl f (List.mem_cons_self ..)
    | false =>
      rw [hc] at h
      exact factsOf_ok (fun g hg => hl g (List.mem_cons_of_mem _ hg)) op x y b h

theorem toList_inj {a c : ByteArray} : a.toList = c.toList ↔ a = c := by
  constructor
  · intro h
    rw [ByteArray.toList_eq, ByteArray.toList_eq] at h
    exact ByteArray.ext (Array.ext' h)
  · intro h; rw [h]

theorem says_lss {k : IntKind} {a c : Int} : Says .lss (.int k a) (.int k c) (decide (a < c)) := fun P t ox oy w => by simp [eqGuard, binOp, Op.intCmp]
theorem says_leq {k : IntKind} {a c : Int} : Says .leq (.int k a) (.int k c) (decide (a ≤ c)) := fun P t ox oy w => by simp [eqGuard, binOp, Op.intCmp]
theorem says_gtr {k : IntKind} {a c : Int} : Says .gtr (.int k a) (.int k c) (decide (c < a)) := fun P t ox oy w => by simp [eqGuard, binOp, Op.intCmp]
theorem says_geq {k : IntKind} {a c : Int} : Says .geq (.int k a) (.int k c) (decide (c ≤ a)) := fun P t ox oy w => by simp [eqGuard, binOp, Op.intCmp]
theorem says_eql {k : IntKind} {a c : Int} : Says .eql (.int k a) (.int k c) (decide (a = c)) := fun P t ox oy w => by
  simp [eqGuard, binOp, Op.intCmp]; rw [Bool.eq_iff_iff]; simp
theorem says_neq {k : IntKind} {a c : Int} : Says .neq (.int k a) (.int k c) (decide (a ≠ c)) := fun P t ox oy w => by
  simp [eqGuard, binOp, Op.intCmp]; rw [Bool.eq_iff_iff]; simp
theorem says_eqlS {a c : ByteArray} : Says .eql (.string a) (.string c) (decide (a = c)) := fun P t ox oy w => by
  simp [eqGuard, binOp, Op.stringOp]; rw [Bool.eq_iff_iff]; simp [toList_inj]
theorem says_neqS {a c : ByteArray} : Says .neq (.string a) (.string c) (decide (a ≠ c)) := fun P t ox oy w => by
  simp [eqGuard, binOp, Op.stringOp]; rw [Bool.eq_iff_iff]; simp [toList_inj]

theorem Says.of {op : BinOp} {x y : Value} {b c : Bool} (h : Says op x y b) (e : b = c) : Says op x y c := e ▸ h

theorem simple_symb (i : Nat) : simple (symb i) = true := rfl
end Go.Aev
