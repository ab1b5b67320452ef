/- Operations on memory, the third part. -/
import Derived.Test.YtigjjfmdmeoncaaGreatDoorAevOps2
import Derived.Laws.Slices
namespace Go.Aev
section
variable {P : Program} {G : Nat} {β : Ren} {σ : St} {w : World}

theorem natOf_some {v : Value} {n : Nat} (h : natOf v = some n) : ∃ k i, v = .int k i ∧ 0 ≤ i ∧ i.toNat = n := by
  unfold natOf at h
  split at h
  · split at h
    · cases h; exact ⟨_, _, rfl, by assumption, rfl⟩
    · cases h
  · cases h

theorem natOf_rel {v v' : Value} {n : Nat} (h : natOf v = some n) (hv : VRel β v v') : v' = v := by
  obtain ⟨k, i, rfl, _, _⟩ := natOf_some h
  exact hv.int_left

theorem run_sliceBound' {v : Value} {n y : Nat} (h : natOf v = some n) (hy : n ≤ y) (code : BoundsCode) (w : World) : (Instr.sliceBound v y code).run P w = .ok n w := by
  obtain ⟨k, i, rfl, h0, h1⟩ := natOf_some h
  rw [run_sliceBound w k i y code h0 (by omega), h1]

def optRel (β : Ren) : Option Value → Option Value → Prop
  | none, none => True
  | some a, some b => VRel β a b
  | _, _ => False

theorem bound_rel {d n : Nat} {v v' : Option Value} (h : bound d v = some n) (hv : optRel β v v') : v' = v := by
  cases v with
  | none => cases v' with
    | none => rfl
    | some x => exact hv.elim
  | some a => cases v' with
    | none => exact hv.elim
    | some b => rw [natOf_rel (by simpa [bound] using h) hv]

theorem run_sliceBounds' {isSlice : Bool} {len cap l h : Nat} {lo hi : Option Value} (hl : bound 0 lo = some l) (hh : bound len hi = some h) (h1 : l ≤ h) (h2 : h ≤ len) (h3 : len ≤ cap) (w : World) :
    (Instr.sliceBounds isSlice len cap lo hi none).run P w = .ok (l, h, cap) w := by
  cases lo with
  | none =>
    cases hl
    cases hi with
    | none => cases hh; simp [Instr.sliceBounds]
    | some b =>
      have hb := run_sliceBound' (P := P) (v := b) (n := h) (y := cap) (by simpa [bound] using hh) (by omega)
      simp [Instr.sliceBounds, hb]
  | some a =>
    have ha := fun code w => run_sliceBound' (P := P) (v := a) (n := l) (y := h) (by simpa [bound] using hl) h1 code w
    cases hi with
    | none => cases hh; simp [Instr.sliceBounds, ha]
    | some b =>
      have hb := run_sliceBound' (P := P) (v := b) (n := h) (y := cap) (by simpa [bound] using hh) (by omega)
      simp [Instr.sliceBounds, ha, hb]

theorem sliceA_sound (hr : HRel G β σ w) {t : TypeId} {x x' v : Value} {lo hi lo' hi' : Option Value} (h : sliceA P σ t x lo hi = some v) (hx : VRel β x x') (hlo : optRel β lo lo') (hhi : optRel β hi hi') :
    ∃ v', (Instr.sliceAt t x' lo' hi' none).run P w = .ok v' w ∧ VRel β v v' := by
  unfold sliceA at h
  split at h
  · rename_i e a n c ht
    split at h
    · rename_i s l u hs hl hu
      rw [bound_rel hl hlo, bound_rel hu hhi]
      split at h
      · rename_i hle
        cases a with
        | none =>
          simp only at h
          split at h
          · rename_i hnc
            cases h
            obtain ⟨rfl, rfl⟩ := hnc
            rw [hx.nil_left]
            refine ⟨.slice none 0 0, ?_, .flat rfl⟩
            have hb := run_sliceBounds' (P := P) (isSlice := true) (cap := 0) hl hu hle.1 hle.2 (Nat.le_refl _) w
            simp only [Instr.sliceAt, Instr.slice, Sem.run_bind, run_underlying ht, Result.andThen_ok, hb, run_sizeT hs, Sem.run_pure]
            have : l = 0 := by omega
            have : u = 0 := by omega
            subst_vars
            rfl
          · cases h
        | some ad =>
          obtain ⟨id, off, o, c', L, rfl, hL, rfl, hn, ho, hro⟩ := hx.slice_left
          simp only at h
          split at h
          · rename_i cc sz ro hg
            split at h
            · rename_i hsz
              cases h
              obtain ⟨L', arr, et, fr, hL', hxx, hss, hz, _⟩ := hr.row hg
              obtain rfl : L = L' := Option.some.inj (hL.symm.trans hL')
              subst hsz
              have hb := run_sliceBounds' (P := P) (isSlice := true) (cap := c') hl hu hle.1 hle.2 hn w
              refine ⟨_, by
                simp only [Instr.sliceAt, Instr.slice, Sem.run_bind, run_underlying ht, Result.andThen_ok, hb, run_sizeT hs, Sem.run_pure]
                rfl, ?_⟩
              by_cases hcl : c' = l
              · simp only [hcl, if_true]
                exact .slice hL (by omega) (fun hp => by omega) (by simpa using Nat.le_trans (Nat.le_add_right o _) (hz ▸ hro))
              · simp only [hcl, if_false, Option.map_some]
                have hadd : (⟨L.blk, o, none⟩ : Addr).add (l * sz) = ⟨L.blk, o + l * sz, none⟩ := by unfold Addr.add; split <;> simp_all
                rw [hadd]
                refine .slice hL (by omega) (fun hp => by rw [ho (by omega)]; omega) ?_
                have : l * sz + (c' - l) * sz = c' * sz := by rw [← Nat.add_mul]; congr 1; omega
                rw [← hz] at hro ⊢
                omega
            · cases h
          · cases h
      · cases h
    · cases h
  · rename_i m e id off ht
    obtain ⟨id', off', L, hid, hL, rfl⟩ := hx.ptr_left
    cases hid
    split at h
    · rename_i s l u cc sz ro hs hl hu hg
      rw [bound_rel hl hlo, bound_rel hu hhi]
      split at h
      · rename_i hle
        obtain ⟨h1, h2, h3, h4⟩ := hle
        cases h
        obtain ⟨L', arr, et, fr, hL', hxx, hss, hz, hll, _⟩ := hr.row hg
        obtain rfl : L = L' := Option.some.inj (hL.symm.trans hL')
        subst h3
        have hb := run_sliceBounds' (P := P) (isSlice := false) (cap := m) hl hu h1 h2 (Nat.le_refl _) w
        refine ⟨_, by
          simp only [Instr.sliceAt, Sem.run_bind, run_underlying ht, Result.andThen_ok, Instr.sureAddr, Sem.run_pure, hb, run_sizeT hs]
          rfl, ?_⟩
        by_cases hcl : m = l
        · simp only [hcl, if_true]
          refine .slice hL (by omega) (fun hp => by omega) ?_
          have := Nat.le_add_right (L.base + off) (m * sz)
          simp; omega
        · simp only [hcl, if_false]
          have hadd : (⟨L.blk, L.base + off, none⟩ : Addr).add (l * sz) = ⟨L.blk, L.base + (off + l * sz), none⟩ := by unfold Addr.add; split <;> simp_all [Nat.add_assoc]
          rw [hadd]
          refine .slice hL (by omega) (fun _ => rfl) ?_
          have : l * sz + (m - l) * sz = m * sz := by rw [← Nat.add_mul]; congr 1; omega
          rw [← hz]
          omega
      · cases h
    · cases h
  · cases h

theorem indexAddrA_sound {t : TypeId} {x x' ix ix' v : Value} (h : indexAddrA P t x ix = some v) (hx : VRel β x x') (hi : VRel β ix ix') :
    ∃ v', (Instr.indexAt t x' ix').run P w = .ok v' w ∧ VRel β v v' := by
  unfold indexAddrA at h
  split at h
  · cases h
  · rename_i i hn
    rw [natOf_rel hn hi]
    obtain ⟨k, j, rfl, h0, h1⟩ := natOf_some hn
    split at h
    · rename_i e id off n c ht
      obtain ⟨id', off', o, c', L, hid, hL, rfl, hnc, ho, hro⟩ := hx.slice_left
      cases hid
      split at h
      · rename_i s hs
        split at h
        · rename_i hlt
          cases h
          refine ⟨.pointer (some ⟨L.blk, L.base + (off + i * s), none⟩), ?_, .ptr hL⟩
          have hin : 0 ≤ j ∧ j < (n : Int) := ⟨h0, by omega⟩
          have hadd : (⟨L.blk, o, none⟩ : Addr).add (i * s) = ⟨L.blk, L.base + (off + i * s), none⟩ := by rw [ho (by omega)]; unfold Addr.add; split <;> simp_all [Nat.add_assoc]
          simp [Instr.indexAt, asIntOf, run_underlying ht, hin, run_sizeT hs, h1, hadd]
        · cases h
      · cases h
    · rename_i m e id off ht
      obtain ⟨id', off', L, hid, hL, rfl⟩ := hx.ptr_left
      cases hid
      split at h
      · rename_i s hs
        split at h
        · rename_i hlt
          cases h
          refine ⟨.pointer (some ⟨L.blk, L.base + (off + i * s), none⟩), ?_, .ptr hL⟩
          have hin : 0 ≤ j ∧ j < (m : Int) := ⟨h0, by omega⟩
          have hadd : (⟨L.blk, L.base + off, none⟩ : Addr).add (i * s) = ⟨L.blk, L.base + (off + i * s), none⟩ := by unfold Addr.add; split <;> simp_all [Nat.add_assoc]
          simp [Instr.indexAt, asIntOf, run_underlying ht, Instr.sureAddr, hin, run_sizeT hs, h1, hadd]
        · cases h
      · cases h
    · cases h

theorem fieldAddrA_sound {t : TypeId} {x x' v : Value} {f : Nat} (h : fieldAddrA P t x f = some v) (hx : VRel β x x') :
    ∃ v', (Instr.fieldAt t x' f).run P w = .ok v' w ∧ VRel β v v' := by
  unfold fieldAddrA at h
  split at h
  · rename_i fs id off ht
    obtain ⟨id', off', L, hid, hL, rfl⟩ := hx.ptr_left
    cases hid
    split at h
    · rename_i fd hf
      split at h
      · rename_i s hs
        split at h
        · cases h
        · rename_i h0
          cases h
          refine ⟨.pointer (some ⟨L.blk, L.base + (off + fd.offset), none⟩), ?_, .ptr hL⟩
          have hadd : (⟨L.blk, L.base + off, none⟩ : Addr).add fd.offset = ⟨L.blk, L.base + (off + fd.offset), none⟩ := by unfold Addr.add; split <;> simp_all [Nat.add_assoc]
          simp [Instr.fieldAt, run_underlying ht, hf, Instr.sureAddr, fieldPlace, run_sizeT hs, h0, hadd]
      · cases h
    · cases h
  · cases h

theorem partA_sound {t : TypeId} {cs cs' : Array Value} {off : Nat} {v : Value} (h : partA P t cs off = some v) (hc : LRel β cs.toList cs'.toList) :
    ∃ v', (part t cs' off).run P w = .ok v' w ∧ VRel β v v' := by
  unfold partA at h
  split at h
  · rename_i ha
    split at h
    · rename_i s hs
      cases h
      refine ⟨.agg (cs'.extract off (off + s)), by simp [part, run_isAggT ha, run_sizeT hs], ?_⟩
      have := (hc.drop off).take s
      exact .agg (by simpa using this.1) (fun i a b ha hb => this.2 i a b (by simpa using ha) (by simpa using hb))
    · cases h
  · rename_i ha
    obtain ⟨v', hv', hrel⟩ := hc.get (i := off) (v := v) (by simpa using h)
    refine ⟨v', ?_, hrel⟩
    have hv'' : cs'[off]? = some v' := by simpa using hv'
    simp [part, run_isAggT ha, hv'']
  · cases h

theorem fieldA_sound {t : TypeId} {x x' v : Value} {f : Nat} (h : fieldA P t x f = some v) (hx : VRel β x x') :
    ∃ v', (Instr.field t x' f).run P w = .ok v' w ∧ VRel β v v' := by
  unfold fieldA at h
  split at h
  · rename_i fs cs ht
    obtain ⟨cs', rfl, hc⟩ := hx.agg_left
    split at h
    · rename_i fd hf
      obtain ⟨v', hv', hrel⟩ := partA_sound (w := w) h hc
      exact ⟨v', by simp [Instr.field, run_underlying ht, hf, asAgg, hv'], hrel⟩
    · cases h
  · cases h

theorem indexA_sound {t : TypeId} {x x' ix ix' v : Value} (h : indexA P t x ix = some v) (hx : VRel β x x') (hi : VRel β ix ix') :
    ∃ v', (Instr.index t x' ix').run P w = .ok v' w ∧ VRel β v v' := by
  unfold indexA at h
  split at h
  · rename_i m e cs i ht hn
    rw [natOf_rel hn hi]
    obtain ⟨k, j, rfl, h0, h1⟩ := natOf_some hn
    obtain ⟨cs', rfl, hc⟩ := hx.agg_left
    split at h
    · rename_i s hs
      split at h
      · rename_i hlt
        obtain ⟨v', hv', hrel⟩ := partA_sound (w := w) h hc
        refine ⟨v', ?_, hrel⟩
        have hin : 0 ≤ j ∧ j < (m : Int) := ⟨h0, by omega⟩
        simp [Instr.index, asIntOf, run_underlying ht, hin, run_sizeT hs, h1, hv']
      · cases h
    · cases h
  · cases h

/-! ### Literals -/
theorem LRel.set {l l' : List Value} (h : LRel β l l') (i : Nat) {v v' : Value} (hv : VRel β v v') : LRel β (l.set i v) (l'.set i v') := by
  refine ⟨by simp [h.1], fun j a b ha hb => ?_⟩
  rw [List.getElem?_set] at ha hb
  split at ha
  · rename_i e
    rw [if_pos e] at hb
    have hl := h.1
    split at ha
    · rw [if_pos (by omega)] at hb; cases ha; cases hb; exact hv
    · cases ha
  · rename_i e
    rw [if_neg e] at hb
    exact h.2 j a b ha hb

theorem fill_one (off : Nat) : ∀ (vs vs' : List Value) (k : Nat) (cs cs' : Array Value), LRel β vs vs' → LRel β cs.toList cs'.toList →
    LRel β ((vs.zipIdx k).foldl (fun cs (c, j) => cs.setIfInBounds (off + j) c) cs).toList ((vs'.zipIdx k).foldl (fun cs (c, j) => cs.setIfInBounds (off + j) c) cs').toList := by
  intro vs
  induction vs with
  | nil => intro vs' k cs cs' h hc; rw [h.nil_left]; exact hc
  | cons v vs ih =>
    intro vs' k cs cs' h hc
    obtain ⟨v', r, rfl, hv, hr⟩ := h.cons_left
    simp only [List.zipIdx_cons, List.foldl_cons]
    refine ih r (k + 1) _ _ hr ?_
    rw [Array.toList_setIfInBounds, Array.toList_setIfInBounds]
    exact hc.set _ hv

def PRel (β : Ren) (ps ps' : List (Nat × Value)) : Prop := ps.length = ps'.length ∧ ∀ (i : Nat) k v k' v', ps[i]? = some (k, v) → ps'[i]? = some (k', v') → k = k' ∧ VRel β v v'

theorem PRel.cons_left {p : Nat × Value} {ps ps' : List (Nat × Value)} (h : PRel β (p :: ps) ps') : ∃ v' r, ps' = (p.1, v') :: r ∧ VRel β p.2 v' ∧ PRel β ps r := by
  cases ps' with
  | nil => have := h.1; simp at this
  | cons q r =>
    obtain ⟨k, v⟩ := p
    obtain ⟨k', v'⟩ := q
    obtain ⟨e, hv⟩ := h.2 0 k v k' v' rfl rfl
    subst e
    exact ⟨v', r, rfl, hv, by have := h.1; simpa using this, fun i a b c d x y => h.2 (i + 1) a b c d (by simpa using x) (by simpa using y)⟩

theorem fill_rel (place : Nat → Option (Nat × Nat)) : ∀ (ps ps' : List (Nat × Value)) (cs cs' : Array Value) (r : Array Value), PRel β ps ps' → LRel β cs.toList cs'.toList →
    Instr.fill place cs ps = some r → ∃ r', Instr.fill place cs' ps' = some r' ∧ LRel β r.toList r'.toList := by
  intro ps
  induction ps with
  | nil =>
    intro ps' cs cs' r h hc hf
    have : ps' = [] := List.length_eq_zero_iff.1 h.1.symm
    subst this
    cases hf
    exact ⟨cs', rfl, hc⟩
  | cons p ps ih =>
    intro ps' cs cs' r h hc hf
    obtain ⟨v', q, rfl, hv, hq⟩ := h.cons_left
    obtain ⟨k, v⟩ := p
    simp only [Instr.fill] at hf ⊢
    cases hp : place k with
    | none => rw [hp] at hf; cases hf
    | some os =>
      obtain ⟨off, size⟩ := os
      rw [hp] at hf
      simp only at hf ⊢
      have hsz : v'.cells.size = v.cells.size := by have := hv.cells.1; simpa using this.symm
      have hcs : cs'.size = cs.size := by have := hc.1; simpa using this.symm
      split at hf
      · cases hf
      · rename_i hcond
        rw [hsz, hcs, if_neg hcond]
        refine ih q _ _ r hq ?_ hf
        have := fill_one (β := β) off v.cells.toList v'.cells.toList 0 cs cs' hv.cells hc
        rw [← Array.foldl_toList, ← Array.foldl_toList, Array.toList_zipIdx, Array.toList_zipIdx]
        exact this

theorem built_rel {t : TypeId} {ps ps' : List (Nat × Value)} {r : Array Value} (h : P.built t ps = some r) (hp : PRel β ps ps') {z : Value} (hz : (P.info? t).bind (·.zero) = some z) (hf : z.cells.toList.all flat0 = true) :
    ∃ r', P.built t ps' = some r' ∧ LRel β r.toList r'.toList := by
  unfold Program.built at h ⊢
  cases hit : P.info? t with
  | none => simp [hit] at h
  | some it =>
    have hz' : it.zero = some z := by simpa [hit] using hz
    cases hu : P.underlying t with
    | none => simp [hit, hu] at h
    | some d =>
      cases d <;> try (simp [hit, hu] at h; done)
      case array n e =>
        cases hie : P.info? e with
        | none => simp [hit, hu, hz', hie] at h
        | some ie =>
          simp only [hit, hu, hz', hie] at h ⊢
          exact fill_rel _ ps ps' _ _ r hp (LRel.flat hf) h
      case struct fields =>
        cases hp' : fields.toList.mapM (fun f => (P.info? f.type).map fun i => (f.offset, i.size)) with
        | none => simp [hit, hu, hz', hp'] at h
        | some places =>
          simp only [hit, hu, hz', hp'] at h ⊢
          exact fill_rel _ ps ps' _ _ r hp (LRel.flat hf) h

theorem buildA_sound {t : TypeId} {ps : List (Nat × Value)} {ps' : Array (Nat × Value)} {v : Value} (h : buildA P t ps = some v) (hp : PRel β ps ps'.toList) :
    ∃ v', (Instr.build t ps').run P w = .ok v' w ∧ VRel β v v' := by
  unfold buildA at h
  split at h
  · rename_i z hz
    split at h
    · rename_i hf
      obtain ⟨r, hr, rfl⟩ := Option.map_eq_some_iff.1 h
      obtain ⟨r', hr', hrel⟩ := built_rel hr hp hz hf
      exact ⟨.agg r', run_build w t ps' r' hr', .agg hrel.1 hrel.2⟩
    · cases h
  · cases h

theorem zeros_flat {z : Value} (hf : z.cells.toList.all flat0 = true) (n : Nat) (hn : 0 < n → 0 < z.cells.size) : (((Array.range n).map (z.cells[· % z.cells.size]!)).toList).all flat0 = true := by
  refine List.all_eq_true.2 fun v hv => ?_
  have hv' : v ∈ (Array.range n).map (z.cells[· % z.cells.size]!) := Array.mem_toList_iff.1 hv
  obtain ⟨i, hi, rfl⟩ := Array.mem_map.1 hv'
  have hi' : i < n := by simpa using hi
  have hpos := hn (by omega)
  have hlt : i % z.cells.size < z.cells.size := Nat.mod_lt _ hpos
  rw [getElem!_pos z.cells _ hlt]
  exact List.all_eq_true.1 hf _ (by simp)

theorem buildSliceA_sound (hr : HRel G β σ w) {t : TypeId} {len : Nat} {ps : List (Nat × Value)} {ps' : Array (Nat × Value)} {v : Value} {σ' : St} (h : buildSliceA P σ t len ps = some (v, σ')) (hp : PRel β ps ps'.toList) :
    ∃ β' w' v', (Instr.buildSlice t len ps').run P w = .ok v' w' ∧ Step G β σ w β' σ' w' ∧ VRel β' v v' := by
  unfold buildSliceA at h
  split at h
  · rename_i e ht
    split at h
    · rename_i i hi
      split at h
      · rename_i z hz
        split at h
        · rename_i hc
          obtain ⟨hf, hzs, hlim⟩ := hc
          split at h
          · rename_i cells hfill
            obtain ⟨⟨id, σ₁⟩, hnew, heq⟩ := Option.map_eq_some_iff.1 h
            cases heq
            have hflat := zeros_flat hf (len * i.size) (fun h0 => by rw [hzs]; exact Nat.pos_of_mul_pos_left h0)
            obtain ⟨r', hr', hrel⟩ := fill_rel (β := β) _ ps ps'.toList _ _ cells hp (LRel.flat hflat) hfill
            obtain ⟨β', L, w', hrun, h1, h2, h3, h4, h5⟩ := newRow_sound (P := P) hr hnew hrel e
            refine ⟨β', w', .slice (some ⟨L.blk, 0, none⟩) len len, ?_, h5, ?_⟩
            · have hlim' : ¬ (2 ^ 24 < len * i.size) := by omega
              by_cases h0 : len * i.size = 0
              · have hzero : ∀ f : Nat → Value, (Array.range 0).map f = #[] := fun f => Array.ext' (by simp)
                rw [h0, hzero] at hr'
                simp [Instr.buildSlice, run_underlying ht, sizeOf, typeInfo, hi, h0, hzero, hr']
                have := hrun
                simp only [Array.toArray_toList] at this
                rw [this]; rfl
              · simp [Instr.buildSlice, run_underlying ht, sizeOf, typeInfo, zeroValue, hi, hz, h0, hlim', hr']
                have := hrun
                simp only [Array.toArray_toList] at this
                rw [this]; rfl
            · have hl : r'.toList.length = len * i.size := by
                rw [← hrel.1]
                have : ∀ (ps : List (Nat × Value)) (cs r : Array Value), Instr.fill (fun j => some (j * i.size, i.size)) cs ps = some r → r.size = cs.size := by
                  intro ps
                  induction ps with
                  | nil => intro cs r h; cases h; rfl
                  | cons p ps ih =>
                    intro cs r h
                    obtain ⟨k, v⟩ := p
                    simp only [Instr.fill] at h
                    split at h
                    · cases h
                    · rw [ih _ _ h]
                      have : ∀ (l : List (Value × Nat)) (a : Array Value), (l.foldl (fun cs (c, j) => cs.setIfInBounds (k * i.size + j) c) a).size = a.size := by
                        intro l
                        induction l with
                        | nil => intro a; rfl
                        | cons x l ih2 => intro a; simp only [List.foldl_cons]; rw [ih2]; simp
                      rw [← Array.foldl_toList]
                      exact this _ _
                have := this _ _ _ hfill
                simpa using this
              exact .slice h1 (Nat.le_refl _) (fun _ => by rw [h2]) (by rw [h3, h4, hl]; omega)
          · cases h
        · cases h
      · cases h
    · cases h
  · cases h
end
end Go.Aev
