/- A part of the proof of PlanNames: see the card's text. -/
import Derived.Test.YtigjjfmdmeoncaaGreatDoorProg
import Derived.Test.YtigjjfmdmeoncaaGreatDoorAevFacts
import Derived.KernelRfl
namespace Go.Proofs.YtigjjfmdmeoncaaGreatDoor
open Go.Aev

theorem mixed : Tryz.prog.follows .mixedOrders = true := by kernel_rfl
theorem namesOk_of {P : Program} (h : (P.funcs.toList.all fun fn => !(fn.name == "runtime.NumGoroutine")) = true) : NamesOk P := by
  intro f fn hf
  have := List.all_eq_true.1 h fn (Array.mem_toList_iff.2 (Array.mem_of_getElem? hf))
  simpa using this
theorem names : NamesOk Tryz.prog := namesOk_of (by kernel_rfl)

def X1 : FuncId → Option (List Value → Option Value) := fun f =>
  bif Nat.beq f 483 then some fun
      | [.string s, .int .u8 c] => some (.int .i64 (Lib.indexByte s.data.toList c.toNat.toUInt8))
      | _ => none
  else bif Nat.beq f 373 then some fun
      | [.string s, .int .u8 c] => some (.int .i64 (Lib.countByte s.data.toList c.toNat.toUInt8))
      | _ => none
  else none
theorem X1_ok : ∀ f x, X1 f = some x → ExtOk Tryz.prog f x := by
  intro f x h
  unfold X1 at h
  cases h1 : Nat.beq f 483 with
  | true =>
    rw [h1] at h
    obtain rfl := Nat.eq_of_beq_eq_true h1
    cases h
    exact extOk_indexByte (run_callFunc_indexByte Tryz.func483 (by kernel_rfl) (by kernel_rfl) (by kernel_rfl) (by kernel_rfl))
  | false =>
    rw [h1] at h
    cases h2 : Nat.beq f 373 with
    | true =>
      rw [h2] at h
      obtain rfl := Nat.eq_of_beq_eq_true h2
      cases h
      exact extOk_count (run_callFunc_standIn Tryz.func373 (by kernel_rfl) (by kernel_rfl) (by kernel_rfl) (by kernel_rfl))
    | false =>
      rw [h2] at h
      cases h

def S0 : FuncId → Option (List Value → St → Option (Value × St)) := fun _ => none
theorem S0_ok : ∀ f s, S0 f = some s → SumOk Tryz.prog f s := fun _ _ h => by cases h

set_option maxRecDepth 100000
theorem livesRun : gives (ev Tryz.prog S0 X1 3000 (.call (.func (.func 8) #[] #[]) [] (startA Tryz.prog.globals.size 0 noFacts))) true = true := by kernel_rfl
theorem lives_sum : SumOk Tryz.prog 8 fun args σ => match args with | [] => some (.bool true, σ) | _ => none :=
  sumOk_closed mixed names S0_ok X1_ok (by kernel_rfl) livesRun

def S1 : FuncId → Option (List Value → St → Option (Value × St)) := fun f =>
  bif Nat.beq f 8 then some fun args σ => match args with | [] => some (.bool true, σ) | _ => none
  else none
theorem S1_ok : ∀ f s, S1 f = some s → SumOk Tryz.prog f s := by
  intro f s h
  unfold S1 at h
  cases h1 : Nat.beq f 8 with
  | true =>
    rw [h1] at h
    obtain rfl := Nat.eq_of_beq_eq_true h1
    cases h
    exact lives_sum
  | false => rw [h1] at h; cases h
end Go.Proofs.YtigjjfmdmeoncaaGreatDoor
