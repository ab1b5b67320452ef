/- Operations on memory: what the evaluator says of them is so. -/
import Derived.Test.YtigjjfmdmeoncaaGreatDoorAevRel
namespace Go.Aev
section
variable {P : Program} {G : Nat} {β : Ren} {σ : St} {w : World}

theorem run_isAggT {t : TypeId} {b : Bool} (h : isAggT P t = some b) (w : World) : (isAgg t).run P w = .ok b w := by
  unfold isAggT at h
  cases hu : P.underlying t with
  | none => rw [hu] at h; cases h
  | some d =>
    rw [hu] at h
    simp only [isAgg, Sem.run_bind, run_underlying hu, Result.andThen_ok]
    cases d <;> simp_all

theorem run_sizeT {t : TypeId} {s : Nat} (h : sizeT P t = some s) (w : World) : (sizeOf t).run P w = .ok s w := by
  unfold sizeT at h
  cases hi : P.info? t with
  | none => rw [hi] at h; cases h
  | some i => rw [hi] at h; cases h; simp [sizeOf, typeInfo, hi]

theorem HRel.row (h : HRel G β σ w) {id : Nat} {c : List Value} {sz : Nat} {ro : Bool} (hg : σ.heap.get id = some (.cells c sz ro)) :
    ∃ L arr e fr, β id = some L ∧ w.heap[L.blk]? = some (.cells arr e fr) ∧ arr.size = L.tot ∧ sz = L.sz ∧ L.base + c.length ≤ L.tot ∧
      LRel β c ((arr.toList.drop L.base).take c.length) ∧ (ro = false → fr = (0, 0)) ∧
      (∀ k v, ((arr.toList.drop L.base).take c.length)[k]? = some v → w.cell? ⟨L.blk, L.base + k, none⟩ = some v) := by
  obtain ⟨L, hL, arr, e, fr, hx, hs, hz, hl, hr, hf⟩ := h.obj id _ hg
  refine ⟨L, arr, e, fr, hL, hx, hs, hz, hl, hr, hf, fun k v hk => ?_⟩
  rw [List.getElem?_take] at hk
  split at hk
  · rw [List.getElem?_drop] at hk
    simp [World.cell?, hx]
    simpa using hk
  · cases hk

theorem loadA_sound (hr : HRel G β σ w) {t : TypeId} {a a' v : Value} (h : loadA P σ t a = some v) (ha : VRel β a a') :
    ∃ v', (Instr.loadAt t a').run P w = .ok v' w ∧ VRel β v v' := by
  unfold loadA at h
  split at h
  · rename_i id off
    split at h
    · rename_i c sz ro hg
      obtain ⟨id', off', L', hid, hL', rfl⟩ := ha.ptr_left
      cases hid
      obtain ⟨L, arr, e, fr, hL, hx, hs, hz, hl, hrow, hf, hcell⟩ := hr.row hg
      obtain rfl : L = L' := Option.some.inj (hL.symm.trans hL')
      split at h
      · rename_i hagg
        split at h
        · rename_i s hsz
          split at h
          · rename_i hle
            cases h
            have hsub : LRel β ((c.drop off).take s) ((((arr.toList.drop L.base).take c.length).drop off).take s) := (hrow.drop off).take s
            have hlen : ((((arr.toList.drop L.base).take c.length).drop off).take s).length = s := by
              rw [← hsub.1]; simp; omega
            have hload := run_loadCells_list (P := P) w ⟨L.blk, L.base + off, none⟩ ((((arr.toList.drop L.base).take c.length).drop off).take s) (fun j u hu => by
              have hadd : (⟨L.blk, L.base + off, none⟩ : Addr).add j = ⟨L.blk, L.base + (off + j), none⟩ := by unfold Addr.add; split <;> simp_all [Nat.add_assoc]
              rw [hadd]
              refine hcell (off + j) u ?_
              rw [List.getElem?_take] at hu
              split at hu
              · rw [List.getElem?_drop] at hu; exact hu
              · cases hu)
            rw [hlen] at hload
            refine ⟨.agg ((((arr.toList.drop L.base).take c.length).drop off).take s).toArray, ?_, .agg (by simpa using hsub.1) (by simpa using hsub.2)⟩
            simp only [Instr.loadAt, Instr.sureAddr, Sem.run_bind, Sem.run_pure, Result.andThen_ok, loadVar, run_isAggT hagg, if_true, run_sizeT hsz, hload]
          · cases h
        · cases h
      · rename_i hagg
        obtain ⟨v', hv', hrel⟩ := hrow.get h
        refine ⟨v', ?_, hrel⟩
        simp only [Instr.loadAt, Instr.sureAddr, Sem.run_bind, Sem.run_pure, Result.andThen_ok, loadVar, run_isAggT hagg, Bool.false_eq_true, if_false, run_load, hcell off v' hv']
      · cases h
    · cases h
  · cases h

theorem splice_row (arr vs : List Value) (b m off : Nat) (h1 : off + vs.length ≤ m) (h2 : b + m ≤ arr.length) :
    (((arr.take (b + off) ++ vs ++ arr.drop (b + off + vs.length)).drop b).take m) = splice ((arr.drop b).take m) off vs := by
  unfold splice
  apply List.ext_getElem?
  intro i
  simp only [List.getElem?_take, List.getElem?_drop, List.getElem?_append, List.length_append, List.length_take, List.length_drop]
  grind

theorem splice_length (c vs : List Value) (off : Nat) (h : off + vs.length ≤ c.length) : (splice c off vs).length = c.length := by
  simp [splice]; omega

theorem LRel.splice {c c' vs vs' : List Value} (h : LRel β c c') (k : LRel β vs vs') (off : Nat) : LRel β (splice c off vs) (splice c' off vs') := by
  unfold Aev.splice
  have := k.1
  rw [← this]
  exact ((h.take off).append k).append (h.drop _)

theorem LRel.oneCells {l l' : List Value} (h : LRel β l l') (k : l.all Value.oneCell' = true) : ∀ v ∈ l', v.oneCell' = true := by
  intro v hv
  obtain ⟨i, hi⟩ := List.getElem?_of_mem hv
  obtain ⟨u, hu, hr⟩ := h.get' hi
  rw [hr.oneCell]
  exact List.all_eq_true.1 k u (List.mem_of_getElem? hu)

theorem storeCellsA_sound (hr : HRel G β σ w) {id off : Nat} {vs vs' : List Value} {σ' : St} (h : storeCellsA σ id off vs = some σ') (hv : LRel β vs vs') {L : Loc} (hL : β id = some L)
    {o : Nat} (ho : 0 < vs.length → o = L.base + off) :
    ∃ w', (storeCells ⟨L.blk, o, none⟩ vs').run P w = .ok () w' ∧ Step G β σ w β σ' w' := by
  unfold storeCellsA at h
  split at h
  · rename_i c sz hg
    split at h
    · rename_i hc
      obtain ⟨hlen, hone⟩ := hc
      cases h
      obtain ⟨L', arr, e, fr, hL', hx, hs, hz, hl, hrow, hf, hcell⟩ := hr.row hg
      obtain rfl : L = L' := Option.some.inj (hL.symm.trans hL')
      have hfr := hf rfl
      subst hfr
      have hput : ∀ new : Array Value, new.size = arr.size → (new.toList.drop L.base).take c.length = splice ((arr.toList.drop L.base).take c.length) off vs' →
          Step G β σ w β { σ with heap := σ.heap.put id (.cells (splice c off vs) sz false) } (w.setRow L.blk new) := fun new hn he => by
        refine hr.put _ hg rfl hL (w.setRow L.blk new) rfl rfl rfl (by simp) (fun b hb => setRow_other w L.blk b _ hb) ?_
        rw [setRow_heap w L.blk arr new e (0, 0) hx]
        refine ⟨new, e, (0, 0), rfl, by rw [hn, hs], hz, by rw [splice_length _ _ _ hlen]; exact hl, ?_, fun _ => rfl⟩
        rw [splice_length _ _ _ hlen, he]
        exact hrow.splice hv off
      cases hvs : vs' with
      | nil =>
        have : vs = [] := List.length_eq_zero_iff.1 (by rw [hv.1, hvs]; rfl)
        subst this
        refine ⟨w, rfl, ?_⟩
        have := hput arr rfl (by rw [hvs]; unfold splice; simp)
        rwa [setRow_self w L.blk arr e (0, 0) hx] at this
      | cons v0 r0 =>
        have ho' := ho (by rw [hv.1, hvs]; simp)
        subst ho'
        rw [← hvs]
        have hlv := hv.1
        have hst := run_storeCells_at P L.blk (L.base + off) e vs' 0 arr w hx (by omega) (hv.oneCells hone)
        simp only [Nat.add_zero] at hst
        refine ⟨_, hst, hput _ ?_ ?_⟩
        · simp; omega
        · exact splice_row arr.toList vs' L.base c.length off (by omega) (by simp; omega)
    · cases h
  · cases h

theorem storeA_sound (hr : HRel G β σ w) {t : TypeId} {a a' v v' : Value} {σ' : St} (h : storeA P σ t a v = some σ') (ha : VRel β a a') (hv : VRel β v v') :
    ∃ w', (Instr.storeAt t a' v').run P w = .ok () w' ∧ Step G β σ w β σ' w' := by
  unfold storeA at h
  split at h
  · rename_i id off
    split at h
    · rename_i hsz
      obtain ⟨id', off', L, hid, hL, rfl⟩ := ha.ptr_left
      cases hid
      obtain ⟨w', hw', hstep⟩ := storeCellsA_sound (P := P) hr h hv.cells hL (o := L.base + off) (fun _ => rfl)
      refine ⟨w', ?_, hstep⟩
      have hs' : v'.cells.size = v.cells.size := by have := hv.cells.1; simpa using this.symm
      simp only [Instr.storeAt, Instr.sureAddr, Sem.run_bind, Sem.run_pure, Result.andThen_ok, storeVar, run_sizeT hsz, hs', ne_eq, not_true_eq_false, if_false]
      exact hw'
    · cases h
  · cases h

/-- A new row of cells. -/
theorem new_cells (hr : HRel G β σ w) {c c' : List Value} {sz : Nat} (hc : LRel β c c') (e : TypeId) (more : List Value) :
    ∃ β' L, β' σ.next = some L ∧ L.blk = w.heap.size ∧ L.base = 0 ∧ L.tot = c'.length + more.length ∧ L.sz = sz ∧
      Step G β σ w β' (σ.new (.cells c sz false)).2 (w.alloc (.cells (c' ++ more).toArray e)) := by
  obtain ⟨β', h1, h2⟩ := hr.new (.cells c sz false) (.cells (c' ++ more).toArray e) { blk := w.heap.size, base := 0, tot := c'.length + more.length, sz := sz } rfl (fun β' hle _ => by
    refine ⟨_, e, (0, 0), rfl, by simp, rfl, by simp [hc.1], ?_, fun _ => rfl⟩
    simp only [List.drop_zero]
    rw [show ((c' ++ more).take c.length) = c' by rw [hc.1]; simp]
    exact hc.mono hle)
  exact ⟨β', _, h1, rfl, rfl, rfl, rfl, h2⟩

theorem newRow_some {σ σ' : St} {c : List Value} {sz id : Nat} (h : newRow σ c sz = some (id, σ')) : id = σ.next ∧ σ' = (σ.new (.cells c sz false)).2 ∧ c.all Value.oneCell' = true := by
  unfold newRow at h
  split at h
  · rename_i hc; cases h; exact ⟨rfl, rfl, hc⟩
  · cases h

theorem run_newRow (e : TypeId) (c : Array Value) (w : World) : (Go.newRow e c).run P w = .ok ⟨w.heap.size, 0, none⟩ (w.alloc (.cells c e)) := by
  rfl

theorem newRow_sound (hr : HRel G β σ w) {c c' : List Value} {sz id : Nat} {σ' : St} (h : newRow σ c sz = some (id, σ')) (hc : LRel β c c') (e : TypeId) :
    ∃ β' L w', (Go.newRow e c'.toArray).run P w = .ok ⟨L.blk, 0, none⟩ w' ∧ β' id = some L ∧ L.base = 0 ∧ L.tot = c'.length ∧ L.sz = sz ∧ Step G β σ w β' σ' w' := by
  obtain ⟨rfl, rfl, _⟩ := newRow_some h
  obtain ⟨β', L, h1, h2, h3, h4, h5, h6⟩ := new_cells hr hc e [] (sz := sz)
  exact ⟨β', L, w.alloc (.cells c'.toArray e), by rw [run_newRow, h2], h1, h3, by simpa using h4, h5, by simpa using h6⟩

theorem VRel.ptr0 {β : Ren} {id : Nat} {L : Loc} (h : β id = some L) (hb : L.base = 0) : VRel β (Aev.ptr id 0) (.pointer (some ⟨L.blk, 0, none⟩)) := by
  have := VRel.ptr (off := 0) h
  rwa [hb] at this
end
end Go.Aev
