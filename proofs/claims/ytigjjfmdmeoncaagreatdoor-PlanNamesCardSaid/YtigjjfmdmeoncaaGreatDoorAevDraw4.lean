/- Regions that draw their order, the last part: whichever order is drawn. -/
import Derived.Test.YtigjjfmdmeoncaaGreatDoorAevDraw3
namespace Go.Aev

theorem countP_lt {α : Type} {p q : α → Bool} (h : ∀ x, q x = true → p x = true) : ∀ {l : List α} {a : α}, a ∈ l → p a = true → q a = false → l.countP q < l.countP p := by
  intro l
  induction l with
  | nil => intro a ha; cases ha
  | cons x l ih =>
    intro a ha hp hq
    rw [List.countP_cons, List.countP_cons]
    have hm : l.countP q ≤ l.countP p := List.countP_mono_left fun y _ hy => h y hy
    rcases List.mem_cons.1 ha with e | ha
    · subst e
      rw [hp, hq]; simp; omega
    · have := ih ha hp hq
      cases hqx : q x with
      | false => simp; split <;> omega
      | true => rw [h x hqx]; simp; omega

theorem edgeMask_has (acc : List Nat) : ∀ (es : List Edge) (m : Nat), (∀ j, bit m j = true → bit (es.foldl (fun m e => if Region.binds .any e then m ||| (2 ^ e.on ||| acc.getD e.on 0) else m) m) j = true) ∧
    ∀ e ∈ es, Region.binds .any e = true → bit (es.foldl (fun m e => if Region.binds .any e then m ||| (2 ^ e.on ||| acc.getD e.on 0) else m) m) e.on = true := by
  intro es
  induction es with
  | nil => intro m; exact ⟨fun j h => h, fun e h => by cases h⟩
  | cons e es ih =>
    intro m
    simp only [List.foldl_cons]
    refine ⟨fun j h => (ih _).1 j ?_, fun x hx hb => ?_⟩
    · split
      · unfold bit at h ⊢; rw [Nat.testBit_or, h, Bool.true_or]
      · exact h
    · rcases List.mem_cons.1 hx with e' | hx
      · subst e'
        rw [if_pos hb]
        refine (ih _).1 _ ?_
        unfold bit
        rw [Nat.testBit_or, Nat.testBit_or, Nat.testBit_two_pow]; simp
      · exact (ih _).2 x hx hb

theorem masks_has {ops : List Oper} {i : Nat} {o : Oper} (ho : ops[i]? = some o) {e : Edge} (he : e ∈ o.after.toList) (hb : Region.binds .any e = true) : bit ((masks ops).getD i 0) e.on = true := by
  obtain ⟨pre, hl, hp, hm⟩ := (masksGo_spec ops []).2 i o ho
  simp at hl hm
  have hg : (masks ops).getD i 0 = edgeMask pre o.after.toList := by
    rw [List.getD_eq_getElem?_getD]; unfold masks; rw [hm]; rfl
  rw [hg]
  exact (edgeMask_has pre o.after.toList 0).2 e he hb

theorem getD_set {l : Array Bool} {i j : Nat} (hi : i < l.size) : (l.setIfInBounds i true).getD j false = (if j = i then true else l.getD j false) := by
  rw [Array.getD_eq_getD_getElem?, Array.getD_eq_getD_getElem?, Array.getElem?_setIfInBounds]
  by_cases h : j = i
  · subst h; simp [hi]
  · rw [if_neg (fun e => h e.symm), if_neg h]

theorem getD_tf {l : Array Bool} {i : Nat} (hi : i < l.size) : l.getD i true = l.getD i false := by
  rw [Array.getD_eq_getD_getElem?, Array.getD_eq_getD_getElem?, Array.getElem?_eq_getElem hi]; rfl

theorem mem_ready {ops : Array Oper} {listed : Array Bool} {i : Nat} : i ∈ Region.ready .any ops listed ↔
    i < ops.size ∧ listed.getD i true = false ∧ ∃ o, ops[i]? = some o ∧ ∀ e ∈ o.after.toList, Region.binds .any e = true → listed.getD e.on false = true := by
  unfold Region.ready
  rw [List.mem_filter, List.mem_range]
  constructor
  · rintro ⟨h1, h2⟩
    rw [Bool.and_eq_true] at h2
    refine ⟨h1, by simpa using h2.1, ops[i], Array.getElem?_eq_getElem h1, fun e he hb => ?_⟩
    have h3 := h2.2
    rw [Array.getElem?_eq_getElem h1] at h3
    simp only [Option.map_some, Option.getD_some, Array.all_eq_true'] at h3
    have := h3 e (Array.mem_toList_iff.1 he)
    rw [hb] at this
    simpa using this
  · rintro ⟨h1, h2, o, ho, h3⟩
    refine ⟨h1, ?_⟩
    rw [h2, ho]
    simp only [Bool.not_false, Bool.true_and, Option.map_some, Option.getD_some, Array.all_eq_true']
    intro e he
    cases hb : Region.binds .any e with
    | false => rfl
    | true => rw [h3 e (Array.mem_toList_iff.2 he) hb]; rfl

section
variable {P : Program} {rec : Task → Option Res}

theorem yielded_eq1 {β : Ren} {ops : Array Oper} {tm : Tm} {tmps : Array Value} {j : Nat} (k : ∀ t, dstAt ops.toList j = some t → VRel β (Tm.val tm t) (tmps.getD t undef)) : yielded ops tmps j = yieldedA ops tm j := by
  unfold yielded yieldedA
  have e : (ops[j]?).bind (·.dst) = dstAt ops.toList j := by simp [dstAt]
  rw [e]
  cases hd : dstAt ops.toList j with
  | none => rfl
  | some d =>
    have hk := k d hd
    rw [Array.getD_eq_getD_getElem?] at hk
    simp only [Option.bind_some]
    unfold Tm.val at hk
    cases hg : tm.get d with
    | none =>
      rw [hg] at hk
      cases ht : tmps[d]? with
      | none => rfl
      | some u =>
        rw [ht] at hk
        simp only [Option.getD_none, Option.getD_some] at hk
        obtain ⟨c', rfl, _⟩ := VRel.tuple_left (c := #[]) hk
        rfl
    | some x =>
      rw [hg] at hk
      simp only [Option.getD_some] at hk
      cases ht : tmps[d]? with
      | none =>
        rw [ht] at hk
        simp only [Option.getD_none] at hk
        cases x <;> first | rfl | (have := hk.bool_left; cases this)
      | some u =>
        rw [ht] at hk
        simp only [Option.getD_some] at hk
        cases x <;> first
          | (rw [hk.bool_left])
          | (cases u <;> first | rfl | (have := hk.bool_right; cases this))

theorem wanted_rel {β : Ren} {ops : Array Oper} {tm : Tm} {tmps : Array Value} {o : Oper} (k : ∀ g b, o.guard = some (g, b) → ∀ t, dstAt ops.toList g = some t → VRel β (Tm.val tm t) (tmps.getD t undef)) :
    Region.wanted o (yielded ops tmps) = Region.wanted o (yieldedA ops tm) := by
  unfold Region.wanted
  cases hg : o.guard with
  | none => rfl
  | some gb =>
    obtain ⟨g, b⟩ := gb
    simp only
    rw [yielded_eq1 (k g b hg)]

theorem planOf_some {ops : List Oper} {p : Plan} (h : planOf P ops = some p) : p.ks = ops.map (kindO P) ∧ p.ms = masks ops ∧ checkGo ops p.ks p.ms p.ord [] = true ∧ uniqueDst ops = true ∧ ∀ i, i < ops.length → i ∈ p.ord := by
  unfold planOf at h
  simp only at h
  split at h
  · rename_i hc
    cases h
    rw [Bool.and_eq_true, Bool.and_eq_true] at hc
    exact ⟨rfl, rfl, hc.1.1, hc.1.2, fun i hi => by simpa using List.all_eq_true.1 hc.2 i (List.mem_range.2 hi)⟩
  · cases h

theorem checkGo_nodup {ops : List Oper} {ks ms : List Nat} : ∀ (l d : List Nat), checkGo ops ks ms l d = true → l.Nodup ∧ ∀ x ∈ l, x ∉ d := by
  intro l
  induction l with
  | nil => intro d _; exact ⟨List.nodup_nil, fun x h => by cases h⟩
  | cons i l ih =>
    intro d h
    obtain ⟨o, ho, hc, h'⟩ := checkGo_cons h
    obtain ⟨h1, h2⟩ := ih _ h'
    refine ⟨List.nodup_cons.2 ⟨fun hm => h2 i hm (List.mem_cons_self ..), h1⟩, fun x hx => ?_⟩
    rcases List.mem_cons.1 hx with e | hx
    · subst e; exact hc.new
    · exact fun hd => h2 x hx (List.mem_cons_of_mem _ hd)

/-- What an operand stands for, slot by slot. -/
theorem evO_rel1 {β : Ren} {σ : St} {w : World} (hr : HRel P.globals.size β σ w) {tm : Tm} {a : Act} {x : Operand} (k : ∀ t, x = .tmp t → VRel β (Tm.val tm t) (a.tmps.getD t undef)) (h : okO P.globals.size σ x = true) : VRel β (evO tm x) (a.eval x) := by
  cases x with
  | tmp t => exact k t rfl
  | const v => exact VRel.flat1 h
  | global g =>
    simp only [okO, Bool.and_eq_true] at h
    obtain ⟨hlt, hm⟩ := h
    split at hm
    · rename_i c sz hg
      obtain ⟨L, hL, _⟩ := hr.obj g _ hg
      obtain ⟨h1, h2⟩ := hr.low g L (blt_lt hlt) hL
      have := VRel.ptr (off := 0) hL
      rw [h1, h2] at this
      exact this
    · cases hm
  | func f => exact .func (.func f) rfl (fun i v v' h => by simp at h) rfl (fun i v v' h => by simp at h)

theorem stepA_ok {fr : Fr} {o : Oper} {σ σ' : St} {v : Value} (h : stepA P rec fr o σ = some (v, σ')) : o.op.operands.toList.all (okO P.globals.size σ) = true := by
  unfold stepA at h
  split at h
  · assumption
  · cases h

open Classical in
theorem draw_sound (hm : P.follows .mixedOrders = true) (hc : SoundCall P P.globals.size rec) {ops : Array Oper} {p : Plan} (hp : planOf P ops.toList = some p) {fr fr' : Fr} {σ σ' : St}
    (h : drawGo P rec ops p.ks p.ms p.ord [] fr σ = some (fr', σ')) {β : Ren} {a : Act} {w : World} {r : Option Nat} {Q : Exit → Act → World → Prop} {id : Nat}
    (hr : HRel P.globals.size β σ w) (k : FRel β fr a r) (hQ : ∀ β' a' w', Step P.globals.size β σ w β' σ' w' → FRel β' fr' a' r → Q .normal a' w') : (Code.region id ops true).wpIn (fence r) 0 P Q a w := by
  obtain ⟨hks, hms, hchk, hun, hcov⟩ := planOf_some hp
  obtain ⟨hnd, _⟩ := checkGo_nodup p.ord [] hchk
  obtain ⟨Es, Ss, f⟩ := drawGo_facts hks hun p.ord [] [] fr fr' σ σ' h hchk hnd (fun x _ hx => by cases hx) (fun r hr => by cases hr) (fun r hr => by cases hr)
  obtain ⟨hkeep, hn', hmk', hrd'⟩ := drawGo_keeps p.ord [] fr fr' σ σ' h
  have hlen : ops.toList.length = ops.size := Array.length_toList
  have lt_of_dst : ∀ {j : Nat} {t : Tmp}, dstAt ops.toList j = some t → j < ops.size := fun {j t} hd => by
    rcases Nat.lt_or_ge j ops.size with q | q
    · exact q
    · simp only [dstAt, List.getElem?_eq_none (show ops.toList.length ≤ j by omega)] at hd; cases hd
  -- what is checked of any operation
  have chk : ∀ i o, ops[i]? = some o → i ∈ p.ord → ∃ done, Checked1 ops.toList p.ks p.ms i o done := fun i o ho hi => by
    have : ∀ (l d : List Nat), checkGo ops.toList p.ks p.ms l d = true → i ∈ l → ∃ done, Checked1 ops.toList p.ks p.ms i o done := by
      intro l
      induction l with
      | nil => intro d _ hi; cases hi
      | cons x l ih =>
        intro d hcx hi
        obtain ⟨o', ho', hck, hcx'⟩ := checkGo_cons hcx
        rcases List.mem_cons.1 hi with e | hi
        · subst e
          have : o' = o := Option.some.inj (ho'.symm.trans (by simpa using ho))
          exact ⟨d, this ▸ hck⟩
        · exact ih _ hcx' hi
    exact this p.ord [] hchk hi
  refine wpIn_region_any hm ?_
  -- no operation is ready: all are listed, and the end is reached
  have fin : ∀ (listed : Array Bool) (a₁ : Act) (w₁ : World), listed.size = ops.size → Region.ready .any ops listed = [] →
      (∃ (kk : Nat) (β₁ : Ren) (s : St), Ss[kk]? = some s ∧ (∀ (q e : Nat), Es[q]? = some e → (listed.getD e false = true ↔ q < kk)) ∧ Step P.globals.size β σ w β₁ s w₁ ∧
        (∀ t, VRel β₁ (if ∃ j, listed.getD j false = true ∧ dstAt ops.toList j = some t then Tm.val fr'.tm t else Tm.val fr.tm t) (a₁.tmps.getD t undef))) →
      a₁.tmps.size = fr.n → a₁.defers = a.defers → Q .normal a₁ w₁ := by
    intro listed a₁ w₁ hsz hready ⟨kk, β₁, s, hs, hiff, hst, htm⟩ hts hds
    have hnr : ∀ i, i ∉ Region.ready .any ops listed := fun i hi => by rw [hready] at hi; cases hi
    have hall : ∀ (l d : List Nat), checkGo ops.toList p.ks p.ms l d = true → (∀ x ∈ d, listed.getD x false = true) → ∀ x ∈ l, listed.getD x false = true := by
      intro l
      induction l with
      | nil => intro d _ _ x hx; cases hx
      | cons i l ihl =>
        intro d hcx hd
        obtain ⟨o, ho, hck, hcx'⟩ := checkGo_cons hcx
        have hi : i < ops.size := by have := (List.getElem?_eq_some_iff.1 ho).1; omega
        have hli : listed.getD i false = true := by
          cases hl : listed.getD i false with
          | true => rfl
          | false =>
            refine absurd (mem_ready.2 ⟨hi, by rw [getD_tf (by omega)]; exact hl, o, by simpa using ho, fun e he hb => ?_⟩) (hnr i)
            exact hd _ (hck.topo e.on (hck.edges e he hb) (hms ▸ masks_has ho he hb))
        intro x hx
        have hd' : ∀ x ∈ i :: d, listed.getD x false = true := fun y hy => by
          rcases List.mem_cons.1 hy with e | hy
          · subst e; exact hli
          · exact hd y hy
        rcases List.mem_cons.1 hx with e | hx
        · subst e; exact hli
        · exact ihl _ hcx' hd' x hx
    have hall' : ∀ i, i < ops.size → listed.getD i false = true := fun i hi => hall p.ord [] hchk (fun x hx => by cases hx) i (hcov i (by omega))
    have hkk : kk = Es.length := by
      have h1 : kk < Ss.length := (List.getElem?_eq_some_iff.1 hs).1
      rw [f.len] at h1
      rcases Nat.lt_or_ge kk Es.length with q | q
      · exfalso
        have he : Es[kk]? = some Es[kk] := List.getElem?_eq_getElem q
        obtain ⟨hmem, _, o, fr2, s1, s2, v, ho, _⟩ := f.loud kk _ he
        have hlt : Es[kk] < ops.size := (Array.getElem?_eq_some_iff.1 ho).1
        have := (hiff kk _ he).1 (hall' _ hlt)
        omega
      · omega
    subst hkk
    rw [f.last] at hs; cases hs
    refine hQ β₁ a₁ w₁ hst ⟨fun t => ?_, by rw [hts, hn'], by rw [hds, hmk']; exact k.marks.mono hst.le, by rw [hrd']; exact k.round.mono hst.le⟩
    have := htm t
    split at this
    · exact this
    · rename_i hno
      have e : fr'.tm.get t = fr.tm.get t := hkeep t fun j hj hd => hno ⟨j, hall' j (lt_of_dst hd), hd⟩
      unfold Tm.val at this ⊢
      rw [e]; exact this
  have main : ∀ (fuel : Nat) (listed : Array Bool) (a₁ : Act) (w₁ : World), listed.size = ops.size → (List.range ops.size).countP (fun j => !listed.getD j true) ≤ fuel →
      (∀ i o, listed.getD i false = true → ops.toList[i]? = some o → ∀ e ∈ o.after.toList, Region.binds .any e = true → listed.getD e.on false = true) →
      (∃ (kk : Nat) (β₁ : Ren) (s : St), Ss[kk]? = some s ∧ (∀ (q e : Nat), Es[q]? = some e → (listed.getD e false = true ↔ q < kk)) ∧ Step P.globals.size β σ w β₁ s w₁ ∧
        (∀ t, VRel β₁ (if ∃ j, listed.getD j false = true ∧ dstAt ops.toList j = some t then Tm.val fr'.tm t else Tm.val fr.tm t) (a₁.tmps.getD t undef))) →
      a₁.tmps.size = fr.n → a₁.defers = a.defers → wpAnyIn (fence r) 0 P .any ops Q fuel listed a₁ w₁ := by
    intro fuel
    induction fuel with
    | zero =>
      intro listed a₁ w₁ hsz hcnt hcl hinv hts hds
      have hall : ∀ i, i < ops.size → listed.getD i true = true := fun i hi => by
        cases hl : listed.getD i true with
        | true => rfl
        | false =>
          have := List.countP_eq_zero.1 (Nat.le_zero.1 hcnt) i (List.mem_range.2 hi)
          rw [hl] at this; simp at this
      refine ⟨?_, ?_⟩
      · rw [List.eq_nil_iff_forall_not_mem]
        intro i hi
        obtain ⟨h1, h2, _⟩ := mem_ready.1 hi
        rw [hall i h1] at h2; cases h2
      · exact fin listed a₁ w₁ hsz (List.eq_nil_iff_forall_not_mem.2 fun i hi => by
          obtain ⟨h1, h2, _⟩ := mem_ready.1 hi
          rw [hall i h1] at h2; cases h2) hinv hts hds
    | succ fuel ih =>
      intro listed a₁ w₁ hsz hcnt hcl hinv hts hds
      refine ⟨fun hready => fin listed a₁ w₁ hsz hready hinv hts hds, fun i hi => ?_⟩
      obtain ⟨hi1, hi2, o, ho, hedge⟩ := mem_ready.1 hi
      have hi2' : listed.getD i false = false := by rw [← getD_tf (by omega)]; exact hi2
      have hol : ops.toList[i]? = some o := by simpa using ho
      obtain ⟨kk, β₁, s, hs, hiff, hst, htm⟩ := hinv
      have hmask : ∀ j, bit (p.ms.getD i 0) j = true → listed.getD j false = true := fun j hj =>
        masks_closed (fun j => listed.getD j false = true) hcl i o hol hedge j (hms ▸ hj)
      have hmaskD : ∀ e, listed.getD e false = true → ∀ j, bit (p.ms.getD e 0) j = true → listed.getD j false = true := fun e he j hj => by
        have hlt : e < ops.size := by
          rcases Nat.lt_or_ge e ops.size with q | q
          · exact q
          · rw [Array.getD_eq_getD_getElem?, Array.getElem?_eq_none (by omega)] at he; cases he
        have heo : ops.toList[e]? = some ops.toList[e] := List.getElem?_eq_getElem (by omega)
        exact masks_closed (fun j => listed.getD j false = true) hcl e _ heo (hcl e _ he heo) j (hms ▸ hj)
      have hiord : i ∈ p.ord := hcov i (by omega)
      obtain ⟨done, hck⟩ := chk i o ho hiord
      -- slots that the operation looks at
      have look : ∀ t, (∀ j, dstAt ops.toList j = some t → bit (p.ms.getD i 0) j = true) → VRel β₁ (Tm.val fr'.tm t) (a₁.tmps.getD t undef) := fun t ht => by
        have := htm t
        split at this
        · exact this
        · rename_i hno
          have e : fr'.tm.get t = fr.tm.get t := hkeep t fun j hj hd => hno ⟨j, hmask j (ht j hd), hd⟩
          unfold Tm.val at this ⊢
          rw [e]; exact this
      have hwant : Region.wanted o (yielded ops a₁.tmps) = Region.wanted o (yieldedA ops fr'.tm) := wanted_rel fun g b hg t ht => by
        refine look t fun j hj => ?_
        rw [uniqueDst_spec hun hj ht]
        exact hck.guard g b hg
      have hopd : ∀ {fr₁ : Fr} {σ₁ : St}, Agree fr₁ fr'.tm o → o.op.operands.toList.all (okO P.globals.size s) = true → ∀ x ∈ o.op.operands, VRel β₁ (evO fr₁.tm x) (a₁.eval x) := fun {fr₁ σ₁} hag hok x hx => by
        rw [hag x hx]
        refine evO_rel1 hst.rel (fun t e => look t fun j hj => ?_) (List.all_eq_true.1 hok x (Array.mem_toList_iff.2 hx))
        subst e
        exact hck.reads t hx j (by have := lt_of_dst hj; omega) hj
      -- listing the operation
      have hcnt' : (List.range ops.size).countP (fun j => !(listed.setIfInBounds i true).getD j true) ≤ fuel := by
        have hsz' : (listed.setIfInBounds i true).size = ops.size := by simp [hsz]
        have hlt := countP_lt (p := fun j => !listed.getD j true) (q := fun j => !(listed.setIfInBounds i true).getD j true) (l := List.range ops.size) (a := i) (fun x hx => by
          by_cases hxs : x < ops.size
          · have h1 : (listed.setIfInBounds i true).getD x true = (listed.setIfInBounds i true).getD x false := getD_tf (by omega)
            rw [h1, getD_set (by omega)] at hx
            have h2 : listed.getD x true = listed.getD x false := getD_tf (by omega)
            rw [h2]
            split at hx
            · cases hx
            · exact hx
          · exfalso
            rw [Array.getD_eq_getD_getElem?, Array.getElem?_eq_none (by omega)] at hx
            cases hx) (List.mem_range.2 hi1) (by rw [hi2]; rfl) (by
            have h1 : (listed.setIfInBounds i true).getD i true = (listed.setIfInBounds i true).getD i false := getD_tf (by omega)
            rw [h1, getD_set (by omega), if_pos rfl]; rfl)
        omega
      have hcl' : ∀ j o', (listed.setIfInBounds i true).getD j false = true → ops.toList[j]? = some o' → ∀ e ∈ o'.after.toList, Region.binds .any e = true → (listed.setIfInBounds i true).getD e.on false = true := fun j o' hj ho' e he hb => by
        rw [getD_set (by omega)] at hj ⊢
        split
        · rfl
        · split at hj
          · rename_i e'
            subst e'
            rw [hol] at ho'; cases ho'
            exact hedge e he hb
          · exact hcl j o' hj ho' e he hb
      -- what becomes of the slots
      have next : ∀ (β' : Ren) (s' : St) (w' : World) (v' : Value) (kk' : Nat), Step P.globals.size β σ w β' s' w' → Ren.le β₁ β' → Ss[kk']? = some s' → (∀ d, o.dst = some d → VRel β' (Tm.val fr'.tm d) v') →
          (∀ (q e : Nat), Es[q]? = some e → ((listed.setIfInBounds i true).getD e false = true ↔ q < kk')) → wpAnyIn (fence r) 0 P .any ops Q fuel (listed.setIfInBounds i true) (a₁.put o.dst v') w' := fun β' s' w' v' kk' hst' hle hs' hv hiff' => by
        refine ih _ _ _ (by simp [hsz]) hcnt' hcl' ⟨kk', β', s', hs', hiff', hst', fun t => ?_⟩ ?_ ?_
        · have hdi : dstAt ops.toList i = o.dst := by simp [dstAt, ho]
          by_cases ht : o.dst = some t
          · rw [if_pos ⟨i, by rw [getD_set (by omega), if_pos rfl], by rw [hdi]; exact ht⟩]
            have hfit : t < a₁.tmps.size := by rw [hts]; exact f.fits i hiord o t ho ht
            have : (a₁.put o.dst v').tmps.getD t undef = v' := by
              rw [ht]; simp [Act.put, Array.getD_eq_getD_getElem?, hfit]
            rw [this]
            exact hv t ht
          · have : (a₁.put o.dst v').tmps.getD t undef = a₁.tmps.getD t undef := by
              cases hdd : o.dst with
              | none => rfl
              | some d =>
                have hne : d ≠ t := fun e => ht (by rw [hdd, e])
                simp [Act.put, Array.getD_eq_getD_getElem?, hne]
            rw [this]
            have h1 := (htm t).mono hle
            have hiffs : (∃ j, (listed.setIfInBounds i true).getD j false = true ∧ dstAt ops.toList j = some t) ↔ (∃ j, listed.getD j false = true ∧ dstAt ops.toList j = some t) := by
              constructor
              · rintro ⟨j, hj, hd⟩
                rw [getD_set (by omega)] at hj
                split at hj
                · rename_i e; subst e; rw [hdi] at hd; exact absurd hd ht
                · exact ⟨j, hj, hd⟩
              · rintro ⟨j, hj, hd⟩
                exact ⟨j, by rw [getD_set (by omega)]; split <;> first | rfl | exact hj, hd⟩
            by_cases hex : ∃ j, listed.getD j false = true ∧ dstAt ops.toList j = some t
            · rw [if_pos (hiffs.2 hex)]; rw [if_pos hex] at h1; exact h1
            · rw [if_neg (fun hx => hex (hiffs.1 hx))]; rw [if_neg hex] at h1; exact h1
        · cases hdd : o.dst <;> simp [Act.put, hts]
        · cases hdd : o.dst <;> simp [Act.put, hds]
      have hiff0 : p.ks.getD i 2 ≠ 2 ∨ Region.wanted o (yieldedA ops fr'.tm) = false → ∀ (q e : Nat), Es[q]? = some e → ((listed.setIfInBounds i true).getD e false = true ↔ q < kk) := fun hno q e he => by
        have hne : e ≠ i := fun e' => by
          subst e'
          obtain ⟨_, hk2, o', fr2, s1, s2, v, ho', hw', _⟩ := f.loud q _ he
          rw [ho] at ho'; cases ho'
          rcases hno with h | h
          · exact h hk2
          · rw [h] at hw'; cases hw'
        rw [getD_set (by omega), if_neg hne]
        exact hiff q e he
      unfold wpOpIn
      rw [ho]
      simp only
      rw [hwant]
      cases hw : Region.wanted o (yieldedA ops fr'.tm) with
      | false =>
        simp only [Bool.false_eq_true, if_false]
        refine ⟨fun _ _ => trivial, next β₁ s w₁ undef kk hst (Ren.le_refl _) hs (fun d hd => ?_) (hiff0 (.inr hw))⟩
        have := f.skipped i hiord o ho hw d hd
        unfold Tm.val; rw [this]; exact VRel.undef β₁
      | true =>
        simp only [if_true]
        by_cases hk2 : p.ks.getD i 2 = 2
        · -- loud
          obtain ⟨q, hq⟩ := List.getElem?_of_mem (f.all i hiord o ho hk2 hw)
          have place : ∀ q, Es[q]? = some i → q = kk := fun q hq => by
            have h1 : ¬ q < kk := fun hlt => by
              have := (hiff q i hq).2 hlt
              rw [hi2'] at this; cases this
            rcases Nat.lt_or_ge kk q with h2 | h2
            · exfalso
              have hlt : kk < Es.length := by have := (List.getElem?_eq_some_iff.1 hq).1; omega
              have he : Es[kk]? = some Es[kk] := List.getElem?_eq_getElem hlt
              have hb := f.order kk q _ _ h2 he hq
              have := (hiff kk _ he).1 (hmask _ hb)
              omega
            · omega
          have hqk := place q hq
          subst hqk
          obtain ⟨_, _, o', fr₁, s1, s2, v, ho', _, hs1, hs2, hag, hstep, hdv⟩ := f.loud q i hq
          rw [ho] at ho'; cases ho'
          rw [hs] at hs1; cases hs1
          refine stepA_sound hc hstep hst.rel (hopd (σ₁ := s) hag (stepA_ok hstep)) fun β' w' v' hst' hv => ?_
          refine next β' s2 w' v' (q + 1) (hst.trans hst') hst'.le hs2 (fun d hd => ?_) fun q' e he => ?_
          · unfold Tm.val; rw [hdv d hd]; exact hv
          · rw [getD_set (by omega)]
            split
            · rename_i e'
              subst e'
              have := place q' he
              simp; omega
            · rename_i hne
              rw [hiff q' e he]
              constructor
              · intro hlt; omega
              · intro hlt
                rcases Nat.lt_or_ge q' q with h2 | h2
                · exact h2
                · exfalso
                  have : q' = q := by omega
                  subst this
                  rw [hq] at he; cases he; exact hne rfl
        · -- quiet, or a read
          obtain ⟨klo, hkl, hpre, hall⟩ := f.quiet i hiord o ho hk2 hw
          have hge : klo ≤ kk := by
            rcases Nat.lt_or_ge kk klo with q | q
            · exfalso
              have he : Es[kk]? = some Es[kk] := List.getElem?_eq_getElem (by omega)
              have := (hiff kk _ he).1 (hmask _ (hpre kk q _ he))
              omega
            · exact q
          obtain ⟨fr₁, v, hag, hstep, hdv⟩ := hall kk s hge hs fun q _ hq2 e he => by
            cases hb : bit (p.ms.getD e 0) i with
            | false => rfl
            | true =>
              have := hmaskD e ((hiff q e he).2 hq2) i hb
              rw [hi2'] at this; cases this
          refine stepA_sound hc hstep hst.rel (hopd (σ₁ := s) hag (stepA_ok hstep)) fun β' w' v' hst' hv => ?_
          refine next β' s w' v' kk (hst.trans hst') hst'.le hs (fun d hd => ?_) (hiff0 (.inl hk2))
          unfold Tm.val; rw [hdv d hd]; exact hv
  refine main ops.size (Array.replicate ops.size false) a _ (by simp) ?_ ?_ ⟨0, β, σ, f.first, fun q e he => ?_, Step.drew hr, fun t => ?_⟩ k.size rfl
  · exact Nat.le_trans List.countP_le_length (by simp)
  · intro i o hl
    simp [Array.getD_eq_getD_getElem?, Array.getElem?_replicate] at hl
    split at hl <;> simp at hl
  · constructor
    · intro hl
      simp [Array.getD_eq_getD_getElem?, Array.getElem?_replicate] at hl
      split at hl <;> simp at hl
    · intro hl; omega
  · rw [if_neg]
    · exact k.tm t
    · rintro ⟨j, hl, _⟩
      simp [Array.getD_eq_getD_getElem?, Array.getElem?_replicate] at hl
      split at hl <;> simp at hl
end
end Go.Aev
