/- Operations on memory, the fourth part: conversions, copies, maps, iterators, tests against nil. -/
import Derived.Test.YtigjjfmdmeoncaaGreatDoorAevOps3
import Derived.Laws.IdiomStrings
import Derived.WalkSpells
import Derived.MapKept
namespace Go.Aev
section
variable {P : Program} {G : Nat} {β : Ren} {σ : St} {w : World}

theorem toBytes_spec : ∀ (l : List Value) (acc b : ByteArray), toBytes l acc = some b → ∃ ns : List Int, l = ns.map (Value.int .u8) ∧ b = ns.foldl (fun r n => r.push (UInt8.ofNat n.toNat)) acc := by
  intro l
  induction l with
  | nil => intro acc b h; cases h; exact ⟨[], rfl, rfl⟩
  | cons v l ih =>
    intro acc b h
    unfold toBytes at h
    split at h
    · cases h; exact ⟨[], by simp_all, rfl⟩
    · rename_i n r acc' heq
      injection heq with h1 h2
      subst h1; subst h2
      obtain ⟨ns, rfl, rfl⟩ := ih _ _ h
      exact ⟨_ :: ns, rfl, rfl⟩
    · cases h

theorem bytesVals_length (s : ByteArray) : (bytesVals s).length = s.size := by
  rw [bytesVals, List.length_map, Array.length_toList]; rfl
theorem bytesRow_toList (s : ByteArray) (cap : Nat) : (bytesRow s cap).toList = bytesVals s ++ List.replicate (cap - s.size) (.int .u8 0) := by
  unfold bytesRow bytesVals
  rw [Array.toList_append, Array.toList_map, Array.toList_replicate]
theorem bytesRow_size (s : ByteArray) (cap : Nat) : (bytesRow s cap).size = s.size + (cap - s.size) := by
  rw [← Array.length_toList, bytesRow_toList, List.length_append, bytesVals_length, List.length_replicate]
theorem bytesRow_take (s : ByteArray) (cap : Nat) : (bytesRow s cap).toList.take (bytesVals s).length = bytesVals s := by
  rw [bytesRow_toList, List.take_left]

theorem convA_sound (hr : HRel G β σ w) {src dst : TypeId} {x x' v : Value} {σ' : St} (h : convA P σ src dst x = some (v, σ')) (hx : VRel β x x') :
    ∃ β' w' v', (convert src dst x').run P w = .ok v' w' ∧ Step G β σ w β' σ' w' ∧ VRel β' v v' := by
  unfold convA at h
  split at h
  · rename_i e n c hs hd
    rw [hx.nil_left]
    split at h
    · rename_i he
      cases h
      refine ⟨β, w, _, ?_, Step.refl hr, .flat rfl⟩
      rw [run_convert_bytes_string w src dst e none n c hs he hd]
      rfl
    · cases h
  · rename_i e id off n c hs hd
    split at h
    · rename_i l he hrow
      obtain ⟨b, hb, heq⟩ := Option.map_eq_some_iff.1 h
      cases heq
      obtain ⟨id', off', o, c', L, hid, hL, rfl, hn, ho, hro⟩ := hx.slice_left
      cases hid
      obtain ⟨ns, rfl, rfl⟩ := toBytes_spec _ _ _ hb
      obtain ⟨L', l', hL', hz, hrel, hlen, _, hcell⟩ := rowOf_sound hr hrow
      obtain rfl : L = L' := Option.some.inj (hL.symm.trans hL')
      have hflat : (ns.map (Value.int .u8)).all flat0 = true := List.all_eq_true.2 fun v hv => by
        obtain ⟨n, _, rfl⟩ := List.mem_map.1 hv; rfl
      have hl' := hrel.of_flat hflat
      subst hl'
      refine ⟨β, w, _, ?_, Step.refl hr, .flat rfl⟩
      rw [run_convert_bytes_string w src dst e _ n c' hs he hd]
      refine run_bytesToString w _ n c' ns ?_
      have hn' : n = (ns.map (Value.int .u8)).length := by rw [hlen]; simp
      by_cases h0 : 0 < n
      · rw [ho h0]
        have := run_loadCells_list (P := P) w ⟨L.blk, L.base + off, none⟩ (ns.map (Value.int .u8)) hcell
        rwa [← hn'] at this
      · have hn0 : n = 0 := by omega
        have : ns = [] := by
          cases ns with
          | nil => rfl
          | cons a r => simp at hn'; omega
        subst this; subst hn0
        rfl
    · cases h
  · rename_i e s hs hd
    split at h
    · rename_i he
      split at h
      · rename_i hle
        cases h
        rw [hx.string_left]
        have hrun := run_bytes_of_string (P := P) w src dst e s hs hd he
        have hge := grownCap_ge w s.size 0 e
        obtain ⟨β', h1, h2⟩ := (Step.drew hr).rel.new (.cells (bytesVals s) 1 true)
          (.cells (bytesRow s (grownCap w s.size 0 e)) e ((bytesRow s (grownCap w s.size 0 e)).size, (bytesRow s (grownCap w s.size 0 e)).size + 1))
          { blk := w.heap.size, base := 0, tot := (bytesRow s (grownCap w s.size 0 e)).size, sz := 1 } rfl (fun β' hle _ => by
            refine ⟨_, e, _, rfl, rfl, rfl, ?_, ?_, fun hf => by cases hf⟩
            · show 0 + (bytesVals s).length ≤ (bytesRow s (grownCap w s.size 0 e)).size
              rw [bytesRow_size, bytesVals_length]; omega
            · rw [List.drop_zero, bytesRow_take]
              exact LRel.flat (bytesVals_flat s))
        refine ⟨β', _, _, hrun, (Step.drew hr).trans h2, ?_⟩
        have := VRel.slice (β := β') (id := σ.next) (off := 0) (n := s.size) (c := s.size) (o := 0) (c' := grownCap w s.size 0 e) h1 hge (fun _ => rfl) (by
          show 0 + grownCap w s.size 0 e * 1 ≤ (bytesRow s (grownCap w s.size 0 e)).size
          rw [bytesRow_size]; omega)
        exact this
      · cases h
    · cases h
  · cases h

theorem copyA_sound (hr : HRel G β σ w) {t u ty : TypeId} {d d' x x' v : Value} {σ' : St} (h : copyA P σ t d x = some (v, σ')) (hd : VRel β d d') (hx : VRel β x x') :
    ∃ β' w' v', (Builtin.copy_ #[t, u] ty #[d', x']).run P w = .ok v' w' ∧ Step G β σ w β' σ' w' ∧ VRel β' v v' := by
  unfold copyA at h
  split at h
  · rename_i e ht
    split at h
    · rename_i s base dn dc hs
      split at h
      · rename_i l m hsrc
        have hsrc' := hsrc
        obtain ⟨l', hnr, hnl, hlen, hfirst⟩ := sourceA_sound (P := P) hr hsrc hx
        have hpre : ∀ k, k ≤ m → (Builtin.firstCells s k x').run P w = .ok (l'.take (k * s)).toArray w := fun k hk => by
          unfold sourceA at hsrc'
          split at hsrc'
          · split at hsrc'
            · cases hsrc'
              rw [hx.nil_left]
              have : l' = [] := hnr.nil_left
              subst this
              simp [Builtin.firstCells]
            · cases hsrc'
          · rename_i id off n _
            obtain ⟨id', off', o, c', L, hid, hL, rfl, hn, ho, hro⟩ := hx.slice_left
            split at hsrc'
            · cases hsrc'
              have : l' = [] := hnr.nil_left
              subst this
              have hk0 : k = 0 := by omega
              subst hk0
              simp [Builtin.firstCells, loadCells, loadCellsFrom]
            · have hall := hfirst w rfl
              have hl : l'.length = m * s := by rw [← hnr.1, hnl]
              split at hsrc'
              · rename_i l₁ sz₁ hrow
                split at hsrc'
                · rename_i hsz
                  cases hsrc'; subst hsz
                  cases hid
                  obtain ⟨L', l₂, hL', hz', hrel, hlen2, _, hcell⟩ := rowOf_sound hr hrow
                  obtain rfl : L = L' := Option.some.inj (hL.symm.trans hL')
                  have hl2 : l₂.length = m * sz₁ := by rw [← hrel.1, hlen2]
                  have hall2 := run_firstCells_some (P := P) w sz₁ m ⟨L.blk, L.base + off, none⟩ m c' l₂ hl2 hcell
                  rw [ho (by omega)] at hall ⊢
                  rw [hall] at hall2
                  have he : l' = l₂ := by
                    have := hall2
                    injection this with h1
                    exact List.toArray_inj h1
                  subst he
                  exact run_firstCells_some w sz₁ k ⟨L.blk, L.base + off, none⟩ m c' (l'.take (k * sz₁)) (by
                    rw [List.length_take, hl2]; exact Nat.min_eq_left (Nat.mul_le_mul_right _ hk)) (fun j v hv => by
                    rw [List.getElem?_take] at hv
                    split at hv
                    · exact hcell j v hv
                    · cases hv)
                · cases hsrc'
              · cases hsrc'
          · rename_i b
            split at hsrc'
            · rename_i hs1
              cases hsrc'; subst hs1
              rw [hx.string_left]
              have : l' = bytesVals b := hnr.of_flat (bytesVals_flat b)
              subst this
              simp [Builtin.firstCells, bytesVals]
              apply Array.ext'
              simp
            · cases hsrc'
          · cases hsrc'
        simp only at h
        split at h
        · cases h
          rw [hd.nil_left]
          refine ⟨β, w, goInt (Nat.min m dn), ?_, Step.refl hr, .flat rfl⟩
          simp [Builtin.copy_, run_underlying ht, hlen, run_sizeT hs, hpre _ (Nat.min_le_left m dn)]
        · rename_i id off
          split at h
          · rename_i cc sz hrow
            split at h
            · rename_i hsz
              subst hsz
              obtain ⟨σ₁, hst, heq⟩ := Option.map_eq_some_iff.1 h
              cases heq
              obtain ⟨id', off', o, c', L, hid, hL, rfl, hn, ho, hro⟩ := hd.slice_left
              cases hid
              obtain ⟨w', hw', hstep⟩ := storeCellsA_sound (P := P) hr hst (hnr.take (Nat.min m dn * sz)) hL (o := o) (fun hp => ho (by
                rcases Nat.eq_zero_or_pos dn with h0 | h0
                · subst h0; simp at hp
                · exact h0))
              refine ⟨β, w', goInt (Nat.min m dn), ?_, hstep, .flat rfl⟩
              simp [Builtin.copy_, run_underlying ht, hlen, run_sizeT hs, hpre _ (Nat.min_le_left m dn), hw']
            · cases h
          · cases h
        · cases h
      · cases h
    · cases h
  · cases h

/-! ### Maps -/
theorem keyKind_flat {t : TypeId} {k : Value} (h : keyKind P t k = true) : flat0 k = true := by
  unfold keyKind at h; split at h <;> first | rfl | cases h

theorem run_checkKey {b : Bool} {n : Nat} {t : TypeId} {k : Value} (h : keyKind P t k = true) (w : World) : (Instr.checkKey b (n + 1) t k).run P w = .ok () w := by
  unfold keyKind at h
  split at h
  · rename_i ht; simp [Instr.checkKey, run_underlying ht]
  · rename_i ht; simp [Instr.checkKey, run_underlying ht]
  · rename_i ht; simp [Instr.checkKey, run_underlying ht]
  · cases h

theorem sameNow_eq {t : TypeId} {d : TypeDesc} {k k' : Value} (h : keyKind P t k = true) (hd : P.underlying t = some d) : Instr.sameNow d k k' = sameKey k k' := by
  unfold keyKind at h
  split at h
  · rename_i ht; rw [hd] at ht; cases ht; cases k' <;> rfl
  · rename_i ht; rw [hd] at ht; cases ht; cases k' <;> rfl
  · rename_i ht; rw [hd] at ht; cases ht; cases k' <;> rfl
  · cases h

theorem findNow_rel {t : TypeId} {d : TypeDesc} {k : Value} (h : keyKind P t k = true) (hd : P.underlying t = some d) : ∀ (es : List (Value × Value × Nat)) (ents : List MapEntry) (i : Nat), ERel β es ents →
    match findA k es i, Instr.findNow d k ents i with
    | none, none => True
    | some none, some none => True
    | some (some (j, v)), some (some (j', v')) => j = j' ∧ VRel β v v' ∧ i ≤ j ∧ (∃ k₀ b, es[j - i]? = some (k₀, v, b) ∧ sameKey k k₀ = some true)
    | _, _ => False := by
  intro es
  induction es with
  | nil =>
    intro ents i he
    have : ents = [] := List.length_eq_zero_iff.1 he.1.symm
    subst this
    simp [findA, Instr.findNow]
  | cons x es ih =>
    intro ents i he
    obtain ⟨k₀, v₀, b₀⟩ := x
    cases ents with
    | nil => have := he.1; simp at this
    | cons e ents =>
      obtain ⟨hk, hf, hv, hb⟩ := he.2 0 k₀ v₀ b₀ e rfl rfl
      have htail : ERel β es ents := ⟨by have := he.1; simpa using this, fun j a c d f x y => he.2 (j + 1) a c d f (by simpa using x) (by simpa using y)⟩
      simp only [findA, Instr.findNow, hk, sameNow_eq h hd]
      cases hs : sameKey k k₀ with
      | none => simp
      | some b =>
        cases b with
        | true => exact ⟨rfl, hv, Nat.le_refl _, k₀, b₀, by simp, hs⟩
        | false =>
          simp only
          have := ih ents (i + 1) htail
          generalize findA k es (i + 1) = r at this ⊢
          generalize Instr.findNow d k ents (i + 1) = r' at this ⊢
          match r, r', this with
          | none, none, _ => trivial
          | some none, some none, _ => trivial
          | some (some (j, v)), some (some (j', v')), ⟨h1, h2, h3, k1, b1, h4, h5⟩ =>
            refine ⟨h1, h2, by omega, k1, b1, ?_, h5⟩
            rw [show j - i = (j - (i + 1)) + 1 by omega, List.getElem?_cons_succ]
            exact h4

theorem mapObj_sound (hr : HRel G β σ w) {m m' : Value} {r clock : Nat} {es : List (Value × Value × Nat)} (h : mapObj σ m = some (r, es, clock)) (hm : VRel β m m') :
    ∃ L ents, β r = some L ∧ m' = .map (some L.blk) ∧ w.heap[L.blk]? = some (.map ents clock) ∧ ERel β es ents.toList ∧ σ.heap.get r = some (.map es clock) := by
  unfold mapObj at h
  split at h
  · split at h
    · rename_i hg
      cases h
      obtain ⟨L, hL, rfl⟩ := hm.map_left
      obtain ⟨L', hL', ents, he, hrel⟩ := hr.obj _ _ hg
      obtain rfl : L = L' := Option.some.inj (hL.symm.trans hL')
      exact ⟨L, ents, hL, rfl, he, hrel, hg⟩
    · cases h
  · cases h

theorem run_findKey {t : TypeId} {k : Value} {es : List (Value × Value × Nat)} {ents : List MapEntry} (h : keyKind P t k = true) (he : ERel β es ents) {r : Option (Nat × Value)} (hf : findA k es 0 = some r) (w : World) :
    ∃ r', (Instr.findKey t k ents).run P w = .ok r' w ∧ (match r, r' with
      | none, none => True
      | some (j, v), some (j', v') => j = j' ∧ VRel β v v' ∧ (∃ k₀ b, es[j]? = some (k₀, v, b) ∧ sameKey k k₀ = some true)
      | _, _ => False) := by
  have hd : ∃ d, P.underlying t = some d := by
    unfold keyKind at h
    cases hu : P.underlying t with
    | none => rw [hu] at h; cases h
    | some d => exact ⟨d, rfl⟩
  obtain ⟨d, hd⟩ := hd
  have := findNow_rel h hd es ents 0 he
  rw [hf] at this
  cases hn : Instr.findNow d k ents 0 with
  | none => rw [hn] at this; cases r with | none => exact this.elim | some p => exact this.elim
  | some r' =>
    rw [hn] at this
    refine ⟨r', by simp [Instr.findKey, run_underlying hd, hn], ?_⟩
    cases r with
    | none => cases r' with
      | none => trivial
      | some q => exact this.elim
    | some p => cases r' with
      | none => exact this.elim
      | some q => obtain ⟨a, b, _, k1, b1, c, e⟩ := this; exact ⟨a, b, k1, b1, by simpa using c, e⟩

theorem lookupA_sound (hr : HRel G β σ w) {t : TypeId} {m m' k k' v : Value} {ok : Bool} (h : lookupA P σ t m k ok = some v) (hm : VRel β m m') (hk : VRel β k k') :
    ∃ v', (Instr.lookup t m' k' ok).run P w = .ok v' w ∧ VRel β v v' := by
  unfold lookupA at h
  split at h
  · rename_i key elem ht
    split at h
    · rename_i r es clock hmo hkk
      obtain ⟨L, ents, hL, rfl, hx, he, hg⟩ := mapObj_sound hr hmo hm
      rw [hk.of_flat0 (keyKind_flat hkk)]
      have two : ∀ {a a' : Value} {b : Bool}, VRel β a a' → VRel β (if ok then .tuple #[a, .bool b] else a) (if ok then .tuple #[a', .bool b] else a') := fun {a a' b} ha => by
        cases ok with
        | false => simpa using ha
        | true =>
          have := LRel.cons ha (LRel.cons (.flat (v := .bool b) rfl) (LRel.nil β))
          simpa using VRel.tuple (c := #[a, .bool b]) (c' := #[a', .bool b]) this.1 this.2
      split at h
      · rename_i j u hf
        cases h
        obtain ⟨r', hr', hrel⟩ := run_findKey (P := P) hkk he hf w
        cases r' with
        | none => exact hrel.elim
        | some q =>
          refine ⟨_, ?_, two hrel.2.1 (b := true)⟩
          simp [Instr.lookup, run_underlying ht, getObj, Sem.run, hx, run_checkKey (n := 9999) hkk, hr']
      · rename_i hf
        split at h
        · rename_i z hz
          split at h
          · rename_i hflat
            cases h
            obtain ⟨r', hr', hrel⟩ := run_findKey (P := P) hkk he hf w
            cases r' with
            | some q => exact hrel.elim
            | none =>
              refine ⟨_, ?_, two (VRel.flat1 hflat) (b := false)⟩
              obtain ⟨i, hi, hiz⟩ := Option.bind_eq_some_iff.1 hz
              simp [Instr.lookup, run_underlying ht, getObj, Sem.run, hx, run_checkKey (n := 9999) hkk, hr', zeroValue, typeInfo, hi, hiz]
          · cases h
        · cases h
      · cases h
    · cases h
  · cases h

theorem sameBits_of {k k₀ : Value} (h : sameKey k k₀ = some true) : Instr.sameBits 10000 k₀ k = true ∧ k₀ = k := by
  unfold sameKey at h
  split at h
  · split at h
    · rename_i e; subst e
      simp at h; subst h
      exact ⟨by simp [Instr.sameBits], rfl⟩
    · cases h
  · have e := (MapKept.bytes_beq _ _).1 (Option.some.inj h); subst e; exact ⟨by simp [Instr.sameBits, MapKept.bytes_beq], rfl⟩
  · have e := eq_of_beq (Option.some.inj h); subst e; exact ⟨by simp [Instr.sameBits], rfl⟩
  · cases h

theorem mapUpdateA_sound (hr : HRel G β σ w) {t : TypeId} {m m' k k' x x' : Value} {σ' : St} (h : mapUpdateA P σ t m k x = some σ') (hm : VRel β m m') (hk : VRel β k k') (hx : VRel β x x') :
    ∃ w', (Instr.mapUpdate t m' k' x').run P w = .ok () w' ∧ Step G β σ w β σ' w' := by
  unfold mapUpdateA at h
  split at h
  · rename_i key elem ht
    split at h
    · rename_i r es clock hmo hkk
      obtain ⟨L, ents, hL, rfl, hob, he, hg⟩ := mapObj_sound hr hmo hm
      rw [hk.of_flat0 (keyKind_flat hkk)]
      have hlt : L.blk < w.heap.size := by
        rcases Nat.lt_or_ge L.blk w.heap.size with q | q
        · exact q
        · rw [Array.getElem?_eq_none q] at hob; cases hob
      have hput : ∀ (es' : List (Value × Value × Nat)) (ents' : Array MapEntry) (c' : Nat), ERel β es' ents'.toList →
          Step G β σ w β { σ with heap := σ.heap.put r (.map es' c') } (w.putObj L.blk (.map ents' c')) := fun es' ents' c' he' =>
        hr.put _ hg rfl hL _ rfl rfl rfl (by simp) (fun b hb => World.putObj_heap_other hb) ⟨ents', World.putObj_heap_same hlt, he'⟩
      split at h
      · rename_i j u hf
        obtain ⟨r', hr', hrel⟩ := run_findKey (P := P) hkk he hf w
        cases r' with
        | none => exact hrel.elim
        | some q =>
          obtain ⟨rfl, hv, k₀, b, hes, hsame⟩ := hrel
          split at h
          · rename_i k1 v1 b1 hes1
            cases h
            rw [hes] at hes1; cases hes1
            obtain ⟨hbits, rfl⟩ := sameBits_of hsame
            have hj : q.1 < es.length := (List.getElem?_eq_some_iff.1 hes).1
            have hj' : q.1 < ents.size := by have := he.1; simp at this; omega
            have hent : ents[q.1]? = some ents[q.1] := Array.getElem?_eq_getElem hj'
            obtain ⟨hkey, _, _, hborn⟩ := he.2 q.1 k₀ u b ents[q.1] hes (by simp)
            refine ⟨_, ?_, hput (es.set q.1 (k₀, x, b)) (ents.modify q.1 fun e => { e with key := k₀, val := x' }) clock ?_⟩
            · simp [Instr.mapUpdate, run_underlying ht, getObj, setObj, Sem.run, hob, run_checkKey (n := 9999) hkk, hr', hent, hkey, Instr.keyThatStays, hbits, World.putObj]
            · refine ⟨by have := he.1; simp at this ⊢; exact this, fun i a c d e h1 h2 => ?_⟩
              rw [List.getElem?_set] at h1
              have h2' : (ents.modify q.1 fun e => { e with key := k₀, val := x' })[i]? = some e := by rw [← Array.getElem?_toList]; exact h2
              rw [Array.getElem?_modify] at h2'
              split at h1
              · rename_i ei
                subst ei
                cases h1
                rw [if_pos rfl, hent] at h2'
                cases h2'
                exact ⟨rfl, keyKind_flat hkk, hx, hborn⟩
              · rename_i ei
                rw [if_neg ei] at h2'
                exact he.2 i a c d e h1 (by simpa using h2')
          · cases h
      · rename_i hf
        cases h
        obtain ⟨r', hr', hrel⟩ := run_findKey (P := P) hkk he hf w
        cases r' with
        | some q => exact hrel.elim
        | none =>
          refine ⟨_, ?_, hput (es ++ [(k, x, clock)]) (ents.push { key := k, val := x', born := clock }) (clock + 1) ?_⟩
          · simp [Instr.mapUpdate, run_underlying ht, getObj, setObj, Sem.run, hob, run_checkKey (n := 9999) hkk, hr', World.putObj]
          · have hl := he.1
            simp at hl
            refine ⟨by simp [hl], fun i a c d e h1 h2 => ?_⟩
            rw [Array.toList_push] at h2
            by_cases hi : i < es.length
            · rw [List.getElem?_append_left hi] at h1
              rw [List.getElem?_append_left (by simp; omega)] at h2
              exact he.2 i a c d e h1 h2
            · rw [List.getElem?_append_right (by omega)] at h1
              rw [List.getElem?_append_right (by simp; omega)] at h2
              have hi0 : i - es.length = 0 := by
                have := (List.getElem?_eq_some_iff.1 h1).1
                simp at this; omega
              rw [hi0] at h1
              rw [show i - ents.toList.length = 0 by simp; omega] at h2
              simp at h1 h2
              obtain ⟨rfl, rfl, rfl⟩ := h1
              subst h2
              exact ⟨rfl, keyKind_flat hkk, hx, rfl⟩
      · cases h
    · cases h
  · cases h

/-! ### Iterators over strings -/
theorem rangeA_sound (hr : HRel G β σ w) {t : TypeId} {x x' v : Value} {σ' : St} (h : rangeA P σ t x = some (v, σ')) (hx : VRel β x x') :
    ∃ β' w' v', (Instr.range t x').run P w = .ok v' w' ∧ Step G β σ w β' σ' w' ∧ VRel β' v v' := by
  unfold rangeA at h
  split at h
  · rename_i s ht
    cases h
    rw [hx.string_left]
    obtain ⟨β', h1, h2⟩ := hr.new (.iter s 0) (.stringIter s 0) { blk := w.heap.size, base := 0, tot := 0, sz := 0 } rfl (fun _ _ _ => ⟨rfl, rfl⟩)
    refine ⟨β', _, .pointer (some ⟨w.heap.size, 0, none⟩), ?_, h2, VRel.ptr0 h1 rfl⟩
    simp only [Instr.range, Sem.run_bind, run_underlying ht, Result.andThen_ok, Sem.run_pure]
    rfl
  · cases h

theorem nextA_sound (hr : HRel G β σ w) {it it' v : Value} {σ' : St} {ty : TypeId} (h : nextA σ it = some (v, σ')) (hit : VRel β it it') :
    ∃ β' w' v', (Instr.next it' true ty).run P w = .ok v' w' ∧ Step G β σ w β' σ' w' ∧ VRel β' v v' := by
  unfold nextA at h
  split at h
  · rename_i id
    split at h
    · rename_i s pos hg
      obtain ⟨id', off', L, hid, hL, rfl⟩ := hit.ptr_left
      cases hid
      obtain ⟨L', hL', hx⟩ := hr.obj _ _ hg
      obtain rfl : L = L' := Option.some.inj (hL.symm.trans hL')
      have hlt := ORel.lt (o := .iter s pos) hx
      obtain ⟨hob, hb⟩ := hx
      rw [hb, Nat.zero_add]
      split at h
      · rename_i hp
        cases h
        refine ⟨β, w.putObj L.blk (.stringIter s (pos + (Utf8.decode s pos).2)), .tuple #[.bool true, goInt pos, .int .i32 (Utf8.decode s pos).1], ?_, ?_, VRel.flat1 (by simp [flat1, flat0, goInt])⟩
        · simp [Instr.next, getObj, setObj, Sem.run, hob, hp, World.putObj]
        · exact hr.put _ hg rfl hL _ rfl rfl rfl (by simp) (fun b hb' => World.putObj_heap_other hb') ⟨World.putObj_heap_same hlt, hb⟩
      · rename_i hp
        cases h
        refine ⟨β, w, .tuple #[.bool false], ?_, Step.refl hr, VRel.flat1 (by simp [flat1, flat0])⟩
        simp [Instr.next, getObj, Sem.run, hob, hp]
    · cases h
  · cases h

/-! ### Tests against nil -/
theorem nilEq_equal {t : TypeId} {x x' y y' : Value} {b : Bool} (h : nilEq P t x y = some b) (hx : VRel β x x') (hy : VRel β y y') (d : Nat) (w : World) :
    (Op.equalIn (d + 1) t x' y').run P w = .ok b w ∧ (∀ op ox oy, (eqGuard op t ox oy x' y').run P w = .ok () w) ∧
      (binOp .eql t x' y' = do pure (.bool (← Op.equal t x' y'))) ∧ (binOp .neq t x' y' = do pure (.bool (!(← Op.equal t x' y')))) := by
  have guard : ∀ op ox oy, (match x', y' with | .nilIface, .nilIface => False | .agg _, .agg _ => False | _, _ => True) → (eqGuard op t ox oy x' y').run P w = .ok () w := fun op ox oy hh => by
    cases op <;> first | rfl | (unfold eqGuard; rw [if_neg (by decide)]; split <;> first | exact hh.elim | rfl)
  unfold nilEq at h
  split at h
  · rename_i e n c b' n' c' ht
    cases h
    rw [hx.nil_left] at guard ⊢
    cases b' with
    | none =>
      rw [hy.nil_left] at guard ⊢
      exact ⟨by simp [Op.equalIn, run_underlying ht], fun op ox oy => guard op ox oy trivial, rfl, rfl⟩
    | some a =>
      obtain ⟨id, off, o, c'', L, rfl, hL, rfl, _⟩ := hy.slice_left
      exact ⟨by simp [Op.equalIn, run_underlying ht], fun op ox oy => guard op ox oy trivial, rfl, rfl⟩
  · rename_i e a n c n' c' hno ht
    cases h
    rw [hy.nil_left] at guard ⊢
    cases a with
    | none => exact (hno rfl).elim
    | some a =>
      obtain ⟨id, off, o, c'', L, rfl, hL, rfl, _⟩ := hx.slice_left
      exact ⟨by simp [Op.equalIn, run_underlying ht], fun op ox oy => guard op ox oy trivial, rfl, rfl⟩
  · rename_i p r v ht
    cases h
    rw [hx.of_flat0 rfl, hy.of_flat0 rfl] at guard ⊢
    exact ⟨by simp [Op.equalIn, run_underlying ht], fun op ox oy => guard op ox oy trivial, rfl, rfl⟩
  · rename_i p r v f a c ht
    cases h
    obtain ⟨f', a', c', rfl, _⟩ := hy.func_left
    rw [hx.of_flat0 rfl] at guard ⊢
    exact ⟨by simp [Op.equalIn, run_underlying ht], fun op ox oy => guard op ox oy trivial, rfl, rfl⟩
  · rename_i p r v f a c ht
    cases h
    obtain ⟨f', a', c', rfl, _⟩ := hx.func_left
    rw [hy.of_flat0 rfl] at guard ⊢
    exact ⟨by simp [Op.equalIn, run_underlying ht], fun op ox oy => guard op ox oy trivial, rfl, rfl⟩
  · rename_i e b' ht
    cases h
    rw [hx.of_flat0 rfl] at guard ⊢
    cases b' with
    | none =>
      rw [hy.of_flat0 rfl] at guard ⊢
      exact ⟨by simp [Op.equalIn, run_underlying ht], fun op ox oy => guard op ox oy trivial, rfl, rfl⟩
    | some a =>
      obtain ⟨id, off, L, rfl, hL, rfl⟩ := hy.ptr_left
      exact ⟨by simp [Op.equalIn, run_underlying ht], fun op ox oy => guard op ox oy trivial, rfl, rfl⟩
  · rename_i e b' hno ht
    cases h
    rw [hy.of_flat0 rfl] at guard ⊢
    cases b' with
    | none => exact (hno rfl).elim
    | some a =>
      obtain ⟨id, off, L, rfl, hL, rfl⟩ := hx.ptr_left
      exact ⟨by simp [Op.equalIn, run_underlying ht], fun op ox oy => guard op ox oy trivial, rfl, rfl⟩
  · cases h

theorem binA_sound {op : BinOp} {t : TypeId} {x x' y y' v : Value} (h : binA P op t x y = some v) (hx : VRel β x x') (hy : VRel β y y') (ox oy : Operand) (w : World) :
    (do eqGuard op t ox oy x' y'; binOp op t x' y').run P w = .ok v w := by
  unfold binA at h
  split at h
  · obtain ⟨b, hb, rfl⟩ := Option.map_eq_some_iff.1 h
    obtain ⟨h1, h2, h3, _⟩ := nilEq_equal hb hx hy 9999 w
    rw [h3]
    simp [h2, Op.equal, Op.maxDepth, h1]
  · obtain ⟨b, hb, rfl⟩ := Option.map_eq_some_iff.1 h
    obtain ⟨h1, h2, _, h4⟩ := nilEq_equal hb hx hy 9999 w
    rw [h4]
    simp [h2, Op.equal, Op.maxDepth, h1]
  · cases h
end
end Go.Aev
