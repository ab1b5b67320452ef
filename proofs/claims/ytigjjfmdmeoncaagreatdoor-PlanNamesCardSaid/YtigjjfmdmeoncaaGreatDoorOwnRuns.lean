/- A part of the proof of PlanNames: see the card's text. -/
import Derived.Test.YtigjjfmdmeoncaaGreatDoorOwnRun
namespace Go.Proofs.YtigjjfmdmeoncaaGreatDoor
open Go.Aev

def bCron : ByteArray := ⟨#[99, 114, 111, 110]⟩
def bCal : ByteArray := ⟨#[99, 97, 108]⟩
def bRule : ByteArray := ⟨#[114, 117, 108, 101]⟩
noncomputable def G0 : Nat := Tryz.prog.globals.size
noncomputable def langV : Nat → Value
  | 0 => .int .i64 0
  | 1 => .int .i64 1
  | 2 => .int .i64 2
  | _ => symb (G0 + 0)
noncomputable def strV : Nat → Value
  | 0 => .string bCron
  | 1 => .string bCal
  | 2 => .string bRule
  | _ => symb (G0 + 1)
noncomputable def langF : Nat → List Fact
  | 3 => [⟨.lss, symb (G0 + 0), .int .i64 0, true⟩, ⟨.eql, .int .i64 0, symb (G0 + 0), false⟩, ⟨.eql, .int .i64 1, symb (G0 + 0), false⟩, ⟨.eql, .int .i64 2, symb (G0 + 0), false⟩]
  | 4 => [⟨.lss, symb (G0 + 0), .int .i64 0, false⟩, ⟨.geq, symb (G0 + 0), .int .i64 3, true⟩, ⟨.eql, .int .i64 0, symb (G0 + 0), false⟩, ⟨.eql, .int .i64 1, symb (G0 + 0), false⟩, ⟨.eql, .int .i64 2, symb (G0 + 0), false⟩]
  | _ => []
noncomputable def strF : Nat → List Fact
  | 3 => [⟨.eql, .string bCron, symb (G0 + 1), false⟩, ⟨.eql, .string bCal, symb (G0 + 1), false⟩, ⟨.eql, .string bRule, symb (G0 + 1), false⟩]
  | _ => []
noncomputable def pnRun (a b : Nat) : Bool := gives (ev Tryz.prog S1 X1 3000 (.call (.func (.func 3) #[] #[]) [langV a, strV b] (startA Tryz.prog.globals.size 2 (factsOf (langF a ++ strF b))))) true

set_option maxRecDepth 100000
theorem run_0_0 : pnRun 0 0 = true := by kernel_rfl
theorem run_0_1 : pnRun 0 1 = true := by kernel_rfl
theorem run_0_2 : pnRun 0 2 = true := by kernel_rfl
theorem run_0_3 : pnRun 0 3 = true := by kernel_rfl
theorem run_1_0 : pnRun 1 0 = true := by kernel_rfl
theorem run_1_1 : pnRun 1 1 = true := by kernel_rfl
theorem run_1_2 : pnRun 1 2 = true := by kernel_rfl
theorem run_1_3 : pnRun 1 3 = true := by kernel_rfl
theorem run_2_0 : pnRun 2 0 = true := by kernel_rfl
theorem run_2_1 : pnRun 2 1 = true := by kernel_rfl
theorem run_2_2 : pnRun 2 2 = true := by kernel_rfl
theorem run_2_3 : pnRun 2 3 = true := by kernel_rfl
theorem run_3_0 : pnRun 3 0 = true := by kernel_rfl
theorem run_3_1 : pnRun 3 1 = true := by kernel_rfl
theorem run_3_2 : pnRun 3 2 = true := by kernel_rfl
theorem run_3_3 : pnRun 3 3 = true := by kernel_rfl
theorem run_4_0 : pnRun 4 0 = true := by kernel_rfl
theorem run_4_1 : pnRun 4 1 = true := by kernel_rfl
theorem run_4_2 : pnRun 4 2 = true := by kernel_rfl
theorem run_4_3 : pnRun 4 3 = true := by kernel_rfl
end Go.Proofs.YtigjjfmdmeoncaaGreatDoor
