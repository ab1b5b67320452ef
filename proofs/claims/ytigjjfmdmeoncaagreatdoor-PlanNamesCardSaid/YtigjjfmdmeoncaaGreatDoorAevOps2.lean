/- Operations on memory, the second part: append, slices, elements, fields, literals. -/
import Derived.Test.YtigjjfmdmeoncaaGreatDoorAevOps1
namespace Go.Aev
section
variable {P : Program} {G : Nat} {β : Ren} {σ : St} {w : World}

theorem info_sizeT {t : TypeId} {i : TypeInfo} (h : P.info? t = some i) : sizeT P t = some i.size := by simp [sizeT, h]

theorem rowOf_sound (hr : HRel G β σ w) {id off n : Nat} {l : List Value} {sz : Nat} (h : rowOf σ id off n = some (l, sz)) :
    ∃ L l', β id = some L ∧ sz = L.sz ∧ LRel β l l' ∧ l.length = n * sz ∧ L.base + off + n * sz ≤ L.tot ∧ (∀ k v, l'[k]? = some v → w.cell? ((⟨L.blk, L.base + off, none⟩ : Addr).add k) = some v) := by
  unfold rowOf at h
  split at h
  · rename_i c sz' ro hg
    split at h
    · rename_i hle
      cases h
      obtain ⟨L, arr, e, fr, hL, hx, hs, hz, hl, hrow, hf, hcell⟩ := hr.row hg
      refine ⟨L, _, hL, hz, (hrow.drop off).take (n * sz), by simp; omega, by omega, fun k v hk => ?_⟩
      have hadd : (⟨L.blk, L.base + off, none⟩ : Addr).add k = ⟨L.blk, L.base + (off + k), none⟩ := by unfold Addr.add; split <;> simp_all [Nat.add_assoc]
      rw [hadd]
      refine hcell (off + k) v ?_
      rw [List.getElem?_take] at hk
      split at hk
      · rw [List.getElem?_drop] at hk; exact hk
      · cases hk
    · cases h
  · cases h

theorem bytesVals_flat (b : ByteArray) : (bytesVals b).all flat0 = true := by
  refine List.all_eq_true.2 fun v hv => ?_
  obtain ⟨b', _, rfl⟩ := List.mem_map.1 hv
  rfl

theorem sourceA_sound (hr : HRel G β σ w) {s : Nat} {x x' : Value} {l : List Value} {m : Nat} (h : sourceA σ s x = some (l, m)) (hx : VRel β x x') :
    ∃ l', LRel β l l' ∧ l.length = m * s ∧ (∀ w', (Builtin.lenOf x').run P w' = .ok m w') ∧ ∀ w' : World, w'.heap = w.heap → (Builtin.firstCells s m x').run P w' = .ok l'.toArray w' := by
  unfold sourceA at h
  split at h
  · rename_i n _
    split at h
    · rename_i hn
      cases h; subst hn
      rw [hx.nil_left]
      exact ⟨[], LRel.nil β, by simp, fun _ => rfl, fun _ _ => rfl⟩
    · cases h
  · rename_i id off n _
    obtain ⟨id', off', o, c', L, hid, hL, rfl, hn, ho, hro⟩ := hx.slice_left
    cases hid
    split at h
    · rename_i hz
      cases h; subst hz
      exact ⟨[], LRel.nil β, by simp, fun _ => rfl, fun _ _ => by simp [Builtin.firstCells, loadCells, loadCellsFrom]⟩
    · rename_i hz
      split at h
      · rename_i l₁ sz₁ hrow
        split at h
        · rename_i hsz
          cases h; subst hsz
          obtain ⟨L', l', hL', hz', hrel, hlen, _, hcell⟩ := rowOf_sound hr hrow
          obtain rfl : L = L' := Option.some.inj (hL.symm.trans hL')
          rw [ho (by omega)]
          refine ⟨l', hrel, hlen, fun _ => rfl, fun w' hw' => ?_⟩
          exact run_firstCells_some w' sz₁ m ⟨L.blk, L.base + off, none⟩ m c' l' (by rw [← hrel.1, hlen]) (fun j v hv => by
            have := hcell j v hv
            simpa [World.cell?, hw'] using this)
        · cases h
      · cases h
  · rename_i b
    split at h
    · rename_i hs
      cases h; subst hs
      rw [hx.string_left]
      refine ⟨bytesVals b, LRel.flat (bytesVals_flat b), by simp [bytesVals], fun _ => rfl, fun w' _ => ?_⟩
      simp [Builtin.firstCells, bytesVals]
      apply Array.ext'
      simp
    · cases h
  · cases h

/-- A block's cells handed on to a new name. -/
theorem HRel.move (h : HRel G β σ w) {id : Nat} {o : AObj} {L : Loc} (hg : σ.heap.get id = some o) (hw : o.wr = true) (hL : β id = some L) (o' : AObj) (L' : Loc) (hb : L'.blk = L.blk)
    (w' : World) (hos : w'.os = w.os) (ht : w'.tape = w.tape) (hout : w'.output = w.output) (hsz : w'.heap.size = w.heap.size)
    (hoth : ∀ b, b ≠ L.blk → w'.heap[b]? = w.heap[b]?) (hO : ORel β o' L' w'.heap[L.blk]?) :
    ∃ β', β' σ.next = some L' ∧ Step G β σ w β' (St.new { σ with heap := σ.heap.del id } o').2 w' := by
  let β' : Ren := fun i => if i = σ.next then some L' else β i
  have hle : Ren.le β β' := fun i M hM => by
    have : i ≠ σ.next := fun e => by rw [e, h.fresh σ.next (Nat.le_refl _)] at hM; cases hM
    simp [β', this, hM]
  have hnew : β' σ.next = some L' := by simp [β']
  have hβ : ∀ id, id ≠ σ.next → β' id = β id := fun id e => by simp [β', e]
  have hget : ∀ i, (St.new { σ with heap := σ.heap.del id } o').2.heap.get i = if i = σ.next then some o' else if i = id then none else σ.heap.get i := fun i => by simp [St.new, Tr.get_put, Tr.get_del]
  have old : ∀ i p, i ≠ σ.next → (St.new { σ with heap := σ.heap.del id } o').2.heap.get i = some p → σ.heap.get i = some p ∧ i ≠ id := fun i p e hp => by
    rw [hget, if_neg e] at hp
    split at hp
    · cases hp
    · exact ⟨hp, by assumption⟩
  refine ⟨β', hnew, hle, ⟨fun i p hp => ?_, fun i j oi oj A B hi hj hij hA hB => ?_, fun i hi => ?_, fun g M hg' hM => ?_, ?_, h.facts.mono hle⟩, hos, ht, hout, Nat.le_of_eq hsz.symm, fun i p M hp hwp hM => ?_, fun b _ hn => ?_⟩
  · by_cases e : i = σ.next
    · subst e
      rw [hget, if_pos rfl] at hp; cases hp
      exact ⟨L', hnew, by rw [hb]; exact hO.mono hle⟩
    · obtain ⟨hp', hne⟩ := old i p e hp
      obtain ⟨M, hM, hOM⟩ := h.obj i p hp'
      exact ⟨M, hle _ _ hM, by rw [hoth _ (fun e' => h.inj i id p o M L hp' hg hne hM hL e')]; exact hOM.mono hle⟩
  · by_cases e1 : i = σ.next
    · subst e1
      rw [hnew] at hA; cases hA
      obtain ⟨hj', hne⟩ := old j oj (fun e => hij e.symm) hj
      rw [hβ j (fun e => hij e.symm)] at hB
      rw [hb]
      exact fun e => h.inj j id oj o B L hj' hg hne hB hL e.symm
    · obtain ⟨hi', hnei⟩ := old i oi e1 hi
      rw [hβ i e1] at hA
      by_cases e2 : j = σ.next
      · subst e2
        rw [hnew] at hB; cases hB
        rw [hb]
        exact fun e => h.inj i id oi o A L hi' hg hnei hA hL e
      · obtain ⟨hj', _⟩ := old j oj e2 hj
        rw [hβ j e2] at hB
        exact h.inj i j oi oj A B hi' hj' hij hA hB
  · have : σ.next + 1 ≤ i := hi
    rw [hβ i (by omega)]; exact h.fresh i (by omega)
  · rw [hβ g (by have := h.gnext; omega)] at hM; exact h.low g M hg' hM
  · have := h.gnext; show G ≤ σ.next + 1; omega
  · by_cases e : i = σ.next
    · subst e; rw [hnew] at hM; cases hM; exact .inr ⟨id, o, L, hg, hw, hL, hb.symm⟩
    · obtain ⟨hp', _⟩ := old i p e hp
      rw [hβ i e] at hM
      exact .inr ⟨i, p, M, hp', hwp, hM, rfl⟩
  · exact hoth b (fun e => hn id o L hg hw hL e.symm)

theorem run_append_in (t u ty e : TypeId) (i : TypeInfo) (d : TypeDesc) (ht : P.underlying t = some (.slice e)) (hu : P.underlying u = some d) (hd : ∀ k, d ≠ .int k) (hi : P.info? e = some i)
    (base : Option Addr) (n c m : Nat) (x : Value) (news : List Value) (hlen : ∀ w', (Builtin.lenOf x).run P w' = .ok m w') (hf : (Builtin.firstCells i.size m x).run P w = .ok news.toArray w) (hroom : n + m ≤ c) :
    (Builtin.append_ #[t, u] ty #[.slice base n c, x]).run P w =
      ((match base with | some a => (storeCells (a.add (n * i.size)) news).run P w | none => .ok () w).andThen fun _ w' => .ok (.slice base (n + m) c) w') := by
  cases base with
  | none => simp [Builtin.append_, run_underlying ht, run_underlying hu, sizeOf, typeInfo, hi, hlen, hroom, hf]
  | some a =>
    simp [Builtin.append_, run_underlying ht, run_underlying hu, sizeOf, typeInfo, hi, hlen, hroom, hf]

theorem run_append_out (t u ty e : TypeId) (i : TypeInfo) (z : Value) (d : TypeDesc) (ht : P.underlying t = some (.slice e)) (hu : P.underlying u = some d) (hd : ∀ k, d ≠ .int k) (hi : P.info? e = some i) (hz : i.zero = some z)
    (base : Option Addr) (n c m : Nat) (x : Value) (olds news : List Value) (hlen : ∀ w', (Builtin.lenOf x).run P w' = .ok m w') (hf : (Builtin.firstCells i.size m x).run P w.drew = .ok news.toArray w.drew)
    (hfo : (Builtin.firstCells i.size n (.slice base n c)).run P w.drew = .ok olds.toArray w.drew)
    (hroom : c < n + m) (h63 : n + m ≤ roomA) (hb : (n + m) * i.bytes ≤ roomA) :
    (Builtin.append_ #[t, u] ty #[.slice base n c, x]).run P w =
      .ok (.slice (some ⟨w.heap.size, 0, none⟩) (n + m) (grownCap w (n + m) c e)) (w.drew.alloc (.cells (olds ++ news ++ (Builtin.zeroCells z.cells (grownCap w (n + m) c e - (n + m))).toList).toArray e)) := by
  have hn : ¬ (n + m ≤ c) := by omega
  have h63' : ¬ (9223372036854775807 < ((n : Int) + (m : Int))) := by simp only [roomA] at h63; omega
  have h48 := growslice_fits (need := n + m) (old := c) (bytes := i.bytes) hroom (by simp only [roomA] at hb; omega)
  have h48' : ¬ (281474976710656 < Builtin.nextslicecap (n + m) c * i.bytes) := by omega
  simp [Builtin.append_, run_underlying ht, run_underlying hu, sizeOf, typeInfo, zeroValue, hi, hz, hlen, hn, h63', h48', Question.forced, hf, hfo, Go.newRow, grownCap]
  congr 2
  apply Array.ext'
  simp

theorem appendA_sound (hr : HRel G β σ w) {t u ty : TypeId} {d : TypeDesc} (hu : P.underlying u = some d) (hd : ∀ k, d ≠ .int k) {s s' x x' v : Value} {σ' : St} (h : appendA P σ t s x = some (v, σ')) (hs : VRel β s s') (hx : VRel β x x') :
    ∃ β' w' v', (Builtin.append_ #[t, u] ty #[s', x']).run P w = .ok v' w' ∧ Step G β σ w β' σ' w' ∧ VRel β' v v' := by
  unfold appendA at h
  split at h
  · rename_i e ht
    split at h
    · cases h
    · rename_i i hi
      split at h
      · cases h
      · rename_i z hz
        split at h
        · rename_i hsz
          obtain ⟨hzs, hpos⟩ := hsz
          split at h
          · cases h
          · rename_i news m hsrc
            obtain ⟨news', hnr, hnl, hlen, hfirst⟩ := sourceA_sound (P := P) hr hsrc hx
            split at h
            · rename_i n c
              split at h
              · rename_i hnc
                obtain ⟨rfl, rfl⟩ := hnc
                rw [hs.nil_left]
                split at h
                · rename_i hm
                  cases h; subst hm
                  refine ⟨β, w, .slice none 0 0, ?_, Step.refl hr, .flat rfl⟩
                  rw [run_append_in t u ty e i d ht hu hd hi none 0 0 0 x' news' hlen (hfirst w rfl) (by omega)]
                  rfl
                · rename_i hm
                  split at h
                  · rename_i hb
                    obtain ⟨⟨id, σ₁⟩, hnew, heq⟩ := Option.map_eq_some_iff.1 h
                    cases heq
                    obtain ⟨rfl, rfl, _⟩ := newRow_some hnew
                    have hrun := run_append_out (P := P) (w := w) t u ty e i z d ht hu hd hi hz none 0 0 m x' [] news' hlen (hfirst _ rfl) rfl (by omega) (by omega) (by simpa using hb.1)
                    obtain ⟨β', L, h1, h2, h3, h4, h5, h6⟩ := new_cells (Step.drew hr).rel hnr e (Builtin.zeroCells z.cells (grownCap w (0 + m) 0 e - (0 + m))).toList (sz := i.size)
                    refine ⟨β', _, _, hrun, (Step.drew hr).trans h6, ?_⟩
                    have hge := grownCap_ge w (0 + m) 0 e
                    have h2' : L.blk = w.heap.size := h2
                    have := VRel.slice (β := β') (id := σ.next) (off := 0) (n := 0 + m) (c := m) (o := 0) (c' := grownCap w (0 + m) 0 e) h1 hge (fun _ => by rw [h3]) (by
                      rw [h4, h5, ← hnr.1, hnl]
                      simp only [Array.length_toList, size_zeroCells, hzs]
                      rw [← Nat.add_mul]
                      simp only [Nat.zero_add] at hge ⊢
                      exact Nat.le_of_eq (by congr 1; omega))
                    rw [h2'] at this
                    simpa using this
                  · cases h
              · cases h
            · rename_i id off n c
              split at h
              · rename_i old sz csz₁ csz₂ hrow hget
                split at h
                · rename_i hcond
                  obtain ⟨hsz, hb, h63⟩ := hcond
                  subst hsz
                  obtain ⟨⟨id', σ₁⟩, hnew, heq⟩ := Option.map_eq_some_iff.1 h
                  cases heq
                  obtain ⟨rfl, rfl, hone⟩ := newRow_some hnew
                  obtain ⟨id', off', o, c', L, hid, hL, rfl, hn, ho, hro⟩ := hs.slice_left
                  cases hid
                  obtain ⟨L₁, old', hL₁, hz₁, hor, hol, hfit, hocell⟩ := rowOf_sound hr hrow
                  obtain rfl : L = L₁ := Option.some.inj (hL.symm.trans hL₁)
                  have hocell' : ∀ j v, old'[j]? = some v → w.cell? ((⟨L.blk, o, none⟩ : Addr).add j) = some v := fun j v hv => by
                    by_cases h0 : 0 < n
                    · rw [ho h0]; exact hocell j v hv
                    · have : old'.length = 0 := by rw [← hor.1, hol, show n = 0 by omega, Nat.zero_mul]
                      have : old' = [] := List.length_eq_zero_iff.1 this
                      rw [this] at hv; simp at hv
                  have hlo : old'.length = n * i.size := by rw [← hor.1, hol]
                  by_cases hroom : n + m ≤ c'
                  · obtain ⟨L₂, arr, et, fr, hL₂, hxx, hss, hzz, hll, hrow₂, hf₂, hcell₂⟩ := hr.row hget
                    obtain rfl : L = L₂ := Option.some.inj (hL.symm.trans hL₂)
                    have hfr := hf₂ rfl
                    subst hfr
                    have hn' : news'.length = m * i.size := by rw [← hnr.1, hnl]
                    have hlim : o + n * i.size + m * i.size ≤ arr.size := by
                      have h1 : (n + m) * i.size ≤ c' * i.size := Nat.mul_le_mul_right _ hroom
                      rw [Nat.add_mul] at h1
                      rw [← hz₁] at hro
                      omega
                    have hadd : (⟨L.blk, o, none⟩ : Addr).add (n * i.size) = ⟨L.blk, o + n * i.size, none⟩ := by unfold Addr.add; split <;> simp_all
                    have hst := run_storeCells_at P L.blk (o + n * i.size) et news' 0 arr w hxx (by omega) (hnr.oneCells (by
                      have h2 := hone
                      rw [List.all_append, Bool.and_eq_true] at h2
                      exact h2.2))
                    have hrun := run_append_in (P := P) (w := w) t u ty e i d ht hu hd hi (some ⟨L.blk, o, none⟩) n c' m x' news' hlen (hfirst w rfl) hroom
                    simp only [hadd, hst, Result.andThen_ok] at hrun
                    simp only [Nat.add_zero] at hrun
                    obtain ⟨β', h1, h2⟩ := hr.move hget rfl hL (.cells (old ++ news) i.size false) { blk := L.blk, base := o, tot := L.tot, sz := i.size } rfl
                      (w.setRow L.blk (arr.toList.take (o + n * i.size) ++ news' ++ arr.toList.drop (o + n * i.size + news'.length)).toArray) rfl rfl rfl (by simp) (fun b hb' => setRow_other w L.blk b _ hb')
                      (by
                        rw [setRow_heap w L.blk arr _ et (0, 0) hxx]
                        refine ⟨_, et, (0, 0), rfl, ?_, rfl, ?_, ?_, fun _ => rfl⟩
                        · simp; omega
                        · rw [List.length_append, hol, hnl]; show o + _ ≤ L.tot; omega
                        · have hl : (old ++ news).length = n * i.size + m * i.size := by rw [List.length_append, hol, hnl]
                          rw [hl]
                          refine (hor.append hnr).mono (Ren.le_refl β) |> fun k => ?_
                          have he : (((arr.toList.take (o + n * i.size) ++ news' ++ arr.toList.drop (o + n * i.size + news'.length)).toArray.toList.drop o).take (n * i.size + m * i.size)) = old' ++ news' := by
                            apply List.ext_getElem?
                            intro j
                            have hc : j < n * i.size → arr.toList[o + j]? = old'[j]? := fun hj => by
                              have hj' : j < old'.length := by omega
                              have := hocell' j old'[j] (List.getElem?_eq_getElem hj')
                              have hadd2 : (⟨L.blk, o, none⟩ : Addr).add j = ⟨L.blk, o + j, none⟩ := by unfold Addr.add; split <;> simp_all
                              rw [hadd2] at this
                              simp only [World.cell?, hxx] at this
                              rw [List.getElem?_eq_getElem hj']
                              simpa using this
                            simp only [List.getElem?_take, List.getElem?_drop, List.getElem?_append, List.length_append, List.length_take, Array.length_toList]
                            by_cases hj : j < n * i.size
                            · have := hc hj; grind
                            · grind
                          show LRel β _ _
                          rw [he]; exact k)
                    refine ⟨β', _, _, hrun, h2, ?_⟩
                    have := VRel.slice (β := β') (id := σ.next) (off := 0) (n := n + m) (c := n + m) (o := o) (c' := c') h1 hroom (fun _ => by simp) (by simpa [← hz₁] using hro)
                    simpa using this
                  · have hrun := run_append_out (P := P) (w := w) t u ty e i z d ht hu hd hi hz (some ⟨L.blk, o, none⟩) n c' m x' old' news' hlen (hfirst _ rfl)
                      (run_firstCells_some w.drew i.size n ⟨L.blk, o, none⟩ n c' old' hlo (fun j v hv => by simpa using hocell' j v hv)) (by omega) h63 hb
                    have hd' := (Step.drew hr).trans ((Step.drew hr).rel.del id)
                    obtain ⟨β', M, h1, h2, h3, h4, h5, h6⟩ := new_cells hd'.rel (hor.append hnr) e (Builtin.zeroCells z.cells (grownCap w (n + m) c' e - (n + m))).toList (sz := i.size)
                    refine ⟨β', _, _, hrun, hd'.trans h6, ?_⟩
                    have hge := grownCap_ge w (n + m) c' e
                    have h2' : M.blk = w.heap.size := h2
                    have := VRel.slice (β := β') (id := σ.next) (off := 0) (n := n + m) (c := n + m) (o := 0) (c' := grownCap w (n + m) c' e) h1 hge (fun _ => by rw [h3]) (by
                      rw [h4, h5]
                      simp only [List.length_append, ← hnr.1, hnl, hlo, Array.length_toList, size_zeroCells, hzs]
                      rw [← Nat.add_mul, ← Nat.add_mul]
                      simp only [Nat.zero_add]
                      exact Nat.le_of_eq (by congr 1; omega))
                    rw [h2'] at this
                    exact this
                · cases h
              · cases h
            · cases h
        · cases h
  · cases h
end
end Go.Aev
