/- A part of the proof of PlanNames: see the card's text. -/
import Derived.Test.YtigjjfmdmeoncaaGreatDoorOwnRuns
import Derived.Test.YtigjjfmdmeoncaaGreatDoorCards
import Derived.Test.YtigjjfmdmeoncaaGreatDoorTie
import Derived.ProofKit
import Derived.OpenShut
import Derived.LaidMore
import Derived.Lay
import Derived.SevenTiedAt
import Derived.Stop.Joined
import Derived.Deep.DeepHandedRow
import Derived.Lib.LaidTab
import Derived.ChangeMaps5
namespace Go.Proofs.YtigjjfmdmeoncaaGreatDoor
open Go.ChangeShapes Go.WideShapes Go.ChangeAt Go.RowKit Go.Aev Go.ChangeMaps

set_option maxRecDepth 100000
theorem runs : ∀ a < 5, ∀ b < 4, pnRun a b = true := by
  intro a ha b hb
  have ha' : a = 0 ∨ a = 1 ∨ a = 2 ∨ a = 3 ∨ a = 4 := by omega
  have hb' : b = 0 ∨ b = 1 ∨ b = 2 ∨ b = 3 := by omega
  rcases ha' with rfl | rfl | rfl | rfl | rfl <;> rcases hb' with rfl | rfl | rfl | rfl
  · exact run_0_0
  · exact run_0_1
  · exact run_0_2
  · exact run_0_3
  · exact run_1_0
  · exact run_1_1
  · exact run_1_2
  · exact run_1_3
  · exact run_2_0
  · exact run_2_1
  · exact run_2_2
  · exact run_2_3
  · exact run_3_0
  · exact run_3_1
  · exact run_3_2
  · exact run_3_3
  · exact run_4_0
  · exact run_4_1
  · exact run_4_2
  · exact run_4_3

section
variable (n : Int) (s : ByteArray)
abbrev vals : List Value := [.int .i64 n, .string s]
theorem sym_lang : VRel (symRen G0 (vals n s)) (symb (G0 + 0)) (.int .i64 n) := symRel rfl rfl
theorem sym_str : VRel (symRen G0 (vals n s)) (symb (G0 + 1)) (.string s) := symRel rfl rfl

theorem fact_left (op : BinOp) (c : Int) (b : Bool) (h : Says op (.int .i64 n) (.int .i64 c) b) : FactOk (symRen G0 (vals n s)) ⟨op, symb (G0 + 0), .int .i64 c, b⟩ :=
  ⟨rfl, rfl, _, _, sym_lang n s, .flat rfl, h⟩
theorem fact_right (op : BinOp) (c : Int) (b : Bool) (h : Says op (.int .i64 c) (.int .i64 n) b) : FactOk (symRen G0 (vals n s)) ⟨op, .int .i64 c, symb (G0 + 0), b⟩ :=
  ⟨rfl, rfl, _, _, .flat rfl, sym_lang n s, h⟩
theorem fact_str (c : ByteArray) (h : c ≠ s) : FactOk (symRen G0 (vals n s)) ⟨.eql, .string c, symb (G0 + 1), false⟩ :=
  ⟨rfl, rfl, _, _, .flat rfl, sym_str n s, says_eqlS.of (by simp [h])⟩

theorem lang_class : ∃ a, a < 5 ∧ VRel (symRen G0 (vals n s)) (langV a) (.int .i64 n) ∧ ∀ f ∈ langF a, FactOk (symRen G0 (vals n s)) f := by
  by_cases h0 : n = 0
  · subst h0; exact ⟨0, by omega, .flat rfl, fun f h => by cases h⟩
  by_cases h1 : n = 1
  · subst h1; exact ⟨1, by omega, .flat rfl, fun f h => by cases h⟩
  by_cases h2 : n = 2
  · subst h2; exact ⟨2, by omega, .flat rfl, fun f h => by cases h⟩
  by_cases h3 : n < 0
  · refine ⟨3, by omega, sym_lang n s, fun f h => ?_⟩
    simp only [langF, List.mem_cons, List.not_mem_nil, or_false] at h
    rcases h with rfl | rfl | rfl | rfl
    · exact fact_left n s _ _ _ (says_lss.of (by simpa using h3))
    · exact fact_right n s _ _ _ (says_eql.of (by simp; omega))
    · exact fact_right n s _ _ _ (says_eql.of (by simp; omega))
    · exact fact_right n s _ _ _ (says_eql.of (by simp; omega))
  · refine ⟨4, by omega, sym_lang n s, fun f h => ?_⟩
    simp only [langF, List.mem_cons, List.not_mem_nil, or_false] at h
    rcases h with rfl | rfl | rfl | rfl | rfl
    · exact fact_left n s _ _ _ (says_lss.of (by simpa using h3))
    · exact fact_left n s _ _ _ (says_geq.of (by simp; omega))
    · exact fact_right n s _ _ _ (says_eql.of (by simp; omega))
    · exact fact_right n s _ _ _ (says_eql.of (by simp; omega))
    · exact fact_right n s _ _ _ (says_eql.of (by simp; omega))

theorem str_class : ∃ b, b < 4 ∧ VRel (symRen G0 (vals n s)) (strV b) (.string s) ∧ ∀ f ∈ strF b, FactOk (symRen G0 (vals n s)) f := by
  by_cases h0 : bCron = s
  · subst h0; exact ⟨0, by omega, .flat rfl, fun f h => by cases h⟩
  by_cases h1 : bCal = s
  · subst h1; exact ⟨1, by omega, .flat rfl, fun f h => by cases h⟩
  by_cases h2 : bRule = s
  · subst h2; exact ⟨2, by omega, .flat rfl, fun f h => by cases h⟩
  refine ⟨3, by omega, sym_str n s, fun f h => ?_⟩
  simp only [strF, List.mem_cons, List.not_mem_nil, or_false] at h
  rcases h with rfl | rfl | rfl
  · exact fact_str n s _ h0
  · exact fact_str n s _ h1
  · exact fact_str n s _ h2

/-- THE LAW'S CALL, WHATEVER ITS ARGUMENTS. -/
theorem calls (w : World) : Calls Tryz.prog 3 #[.int .i64 n, .string s] w fun e w' => e = .returned (.bool true) ∧ Below w.heap.size w w' := by
  obtain ⟨a, ha, va, fa⟩ := lang_class n s
  obtain ⟨b, hb, vb, fb⟩ := str_class n s
  refine closed_true (vs := vals n s) (n := 3000) (args := [langV a, strV b]) (facts := factsOf (langF a ++ strF b)) mixed names S1_ok X1_ok (by kernel_rfl) (runs a ha b hb) ?_ ?_ w
  · exact factsOf_ok fun f hf => (List.mem_append.1 hf).elim (fa f) (fb f)
  · refine ⟨rfl, fun i v v' h h' => ?_⟩
    match i with
    | 0 => cases h; cases h'; exact va
    | 1 => cases h; cases h'; exact vb
    | i + 2 => cases h
end

theorem own : ownKnob Tryz.prog.godebug = none := by kernel_rfl

theorem contract (H : Type) (enc : TypeId × Value → H) (W : World) (base : Nat) (args : Array Value) (ds gs : List (DataW H)) (before : List MemPlace)
    (hval : ∀ (j : Nat) t v, Tryz.f3.params[j]? = some t → args[j]? = some v → Value.okWide Tryz.prog W .any base t v)
    (hW : DataW.Whole enc Tryz.prog Tryz.f3.params.toList Rows.planNamesSpec.vars false W args.toList ds gs before) :
    Calls Tryz.prog 3 args W fun e W' => ∃ v, e = .returned v ∧ Rows.planNamesSpec.post enc Tryz.prog Tryz.f3 false true false false W args v W' := by
  have hW' := hW
  obtain ⟨p, q, hA0, hV, rfl, hfz, hnd⟩ := hW
  have hA : DataW.TrodAll enc Tryz.prog W 0 (fun _ => true) true Tryz.f3.params.toList args.toList ds p := hA0
  rw [Tryz.params3] at hA hval
  obtain ⟨v0, vs0, d0, ds0, p0, q0, hargs, rfl, rfl, h0, r0⟩ := trodAll_cons hA
  obtain ⟨v1, vs1, d1, ds1, p1, q1, hargs1, rfl, rfl, h1, r1⟩ := trodAll_cons r0
  obtain ⟨rfl, rfl, rfl⟩ := trodAll_nil r1
  obtain rfl : args = #[v0, v1] := by cases args; simp_all
  obtain ⟨rfl, rfl⟩ := trodVars_none hV
  obtain ⟨n, rfl, rfl, rfl, wn⟩ := open_int Tryz.underlying3 (hval 0 3 v0 rfl rfl) h0
  obtain ⟨s, rfl, rfl, rfl, ws⟩ := open_string Tryz.underlying9 (hval 1 9 v1 rfl rfl) h1
  clear hA0
  simp only [List.append_nil] at hW'
  refine (calls n s W).mono fun e W' ⟨he, hg⟩ => ?_
  subst he
  exact ⟨_, rfl, post_of_below (pa := []) (pv := []) hW' (fun _ _ _ => trodAll_cons_mk (shut_bool Tryz.underlying4 _) trodAll_mk0)
    (fun _ _ => trodAll_cons_mk (shut_int Tryz.underlying3 wn) (trodAll_cons_mk (shut_string Tryz.underlying9 ws) trodAll_mk0)) (fun _ _ => rfl) rfl
    hg (ok_one (by kernel_rfl) rfl (okWide_bool_mk Tryz.underlying4 _))⟩
end Go.Proofs.YtigjjfmdmeoncaaGreatDoor
