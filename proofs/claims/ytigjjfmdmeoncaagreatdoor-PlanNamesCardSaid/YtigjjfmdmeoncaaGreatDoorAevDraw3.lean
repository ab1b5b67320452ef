/- Regions that draw their order, the third part: the facts of the evaluator's run; any order comes to the same. -/
import Derived.Test.YtigjjfmdmeoncaaGreatDoorAevDraw2
namespace Go.Aev
section
variable {P : Program} {rec : Task → Option Res}

theorem yieldedA_get {ops : Array Oper} {tm T : Tm} {j : Nat} (h : ∀ t, dstAt ops.toList j = some t → tm.get t = T.get t) : yieldedA ops tm j = yieldedA ops T j := by
  unfold yieldedA
  have e : (ops[j]?).bind (·.dst) = dstAt ops.toList j := by simp [dstAt]
  rw [e]
  cases hd : dstAt ops.toList j with
  | none => rfl
  | some t => simp only; rw [h t hd]

theorem wanted_get {ops : Array Oper} {tm T : Tm} {o : Oper} (h : ∀ g b, o.guard = some (g, b) → ∀ t, dstAt ops.toList g = some t → tm.get t = T.get t) :
    Region.wanted o (yieldedA ops tm) = Region.wanted o (yieldedA ops T) := by
  unfold Region.wanted
  cases hg : o.guard with
  | none => rfl
  | some gb =>
    obtain ⟨g, b⟩ := gb
    simp only
    rw [yieldedA_get (h g b hg)]

theorem kind_cases (o : Oper) : kindO P o = 0 ∨ kindO P o = 1 ∨ kindO P o = 2 := by
  unfold kindO
  split
  · exact .inr (.inl rfl)
  · unfold baseKind
    repeat' split
    all_goals simp

theorem drawGo_facts {ops : Array Oper} {ks ms : List Nat} (hks : ks = ops.toList.map (kindO P)) (hun : uniqueDst ops.toList = true) : ∀ (rest done rd : List Nat) (fr fr' : Fr) (σ σ' : St),
    drawGo P rec ops ks ms rest rd fr σ = some (fr', σ') → checkGo ops.toList ks ms rest done = true → rest.Nodup → (∀ x ∈ rest, x ∉ done) → (∀ r ∈ rd, r ∈ done ∧ ks.getD r 2 = 1) →
    (∀ r ∈ rd, ∃ o, ops[r]? = some o ∧ Agree fr fr'.tm o ∧ ∀ d, o.dst = some d → ∃ u, fr'.tm.get d = some u) →
    ∃ Es Ss, Facts P rec ops ks ms fr'.tm fr.n rest rd σ σ' Es Ss := by
  intro rest
  induction rest with
  | nil =>
    intro done rd fr fr' σ σ' h _ _ _ _ hrd
    cases h
    refine ⟨[], [σ], rfl, rfl, rfl, fun k e h => by simp at h, fun e h => by simp at h, fun q k a b _ h => by simp at h, fun i h => by simp at h, fun i hi => ?_, fun i h => by simp at h, fun i h => by simp at h⟩
    obtain ⟨o, ho, _⟩ := hrd i hi
    exact ⟨o, ho, fun k s hk hs => by
      have : k < 1 := (List.getElem?_eq_some_iff.1 hs).1
      omega⟩
  | cons i rest ih =>
    intro done rd fr fr' σ σ' h hchk hnd hdis hrd hrda
    have hfull := h
    obtain ⟨o, ho, hck, hchk'⟩ := checkGo_cons hchk
    have hoa : ops[i]? = some o := by simpa using ho
    have hi : i < ops.toList.length := (List.getElem?_eq_some_iff.1 ho).1
    have hki : ks.getD i 2 = kindO P o := by rw [hks, List.getD_eq_getElem?_getD, List.getElem?_map, ho]; rfl
    have hnd' := List.nodup_cons.1 hnd
    have hdi : dstAt ops.toList i = o.dst := by simp [dstAt, hoa]
    -- what stands still from here on
    have still : ∀ t, (∀ j, j < ops.toList.length → dstAt ops.toList j = some t → bit (ms.getD i 0) j = true) → fr'.tm.get t = fr.tm.get t := fun t ht => by
      refine (drawGo_keeps (i :: rest) rd fr fr' σ σ' h).1 t fun j hj hd => ?_
      have hlt : j < ops.toList.length := by
        rcases Nat.lt_or_ge j ops.toList.length with q | q
        · exact q
        · simp only [dstAt, List.getElem?_eq_none q] at hd; cases hd
      exact hdis j hj (hck.topo j hlt (ht j hlt hd))
    have hagree : Agree fr fr'.tm o := fun x hx => by
      cases x with
      | tmp t => show Tm.val fr.tm t = Tm.val fr'.tm t; unfold Tm.val; rw [still t (hck.reads t hx)]
      | _ => rfl
    have hwant : Region.wanted o (yieldedA ops fr.tm) = Region.wanted o (yieldedA ops fr'.tm) := wanted_get fun g b hg t ht => by
      refine (still t fun j hj hd => ?_).symm
      rw [uniqueDst_spec hun hd ht]
      exact hck.guard g b hg
    -- the value that was put is there at the end
    have stays : ∀ {v : Value} {fr₁ : Fr} {rd' : List Nat} {σ₁ : St}, fr.put o.dst v = some fr₁ → drawGo P rec ops ks ms rest rd' fr₁ σ₁ = some (fr', σ') →
        (∀ d, o.dst = some d → fr'.tm.get d = some v ∧ d < fr.n) ∧ fr₁.n = fr.n ∧ (∀ o', Agree fr fr'.tm o' → Agree fr₁ fr'.tm o') := fun {v fr₁ rd' σ₁} hput hgo => by
      obtain ⟨p1, p2, p3, _⟩ := Fr.put_get hput
      have hk := (drawGo_keeps rest rd' fr₁ fr' σ₁ σ' hgo).1
      have hd : ∀ d, o.dst = some d → fr'.tm.get d = fr₁.tm.get d := fun d hd => hk d fun j hj hdj => by
        have : j = i := uniqueDst_spec hun hdj (by rw [hdi]; exact hd)
        exact hnd'.1 (this ▸ hj)
      refine ⟨fun d hd' => ⟨by rw [hd d hd']; exact (p2 d hd').1, (p2 d hd').2⟩, p3, fun o' ha x hx => ?_⟩
      cases x with
      | tmp t =>
        have := ha _ hx
        show Tm.val fr₁.tm t = Tm.val fr'.tm t
        by_cases ht : o.dst = some t
        · unfold Tm.val; rw [hd t ht]
        · unfold Tm.val; rw [p1 t ht]; exact this
      | _ => rfl
    have hrdo : ∀ r ∈ rd, r ∈ i :: done ∧ ks.getD r 2 = 1 := fun r hr => ⟨List.mem_cons_of_mem _ (hrd r hr).1, (hrd r hr).2⟩
    have hdis' : ∀ x ∈ rest, x ∉ i :: done := fun x hx hm => by
      rcases List.mem_cons.1 hm with e | hm
      · exact hnd'.1 (e ▸ hx)
      · exact hdis x (List.mem_cons_of_mem _ hx) hm
    simp only [drawGo, hoa] at h
    split at h
    · rename_i hw
      split at h
      · rename_i v σ₁ hstep
        split at h
        · rename_i hagain
          split at h
          · rename_i fr₁ hput
            by_cases hk2 : ks.getD i 2 = 2
            · -- loud
              have hrd1 : (bif Nat.beq (ks.getD i 2) 1 then i :: rd else rd) = rd := by rw [hk2]; rfl
              rw [hrd1] at h
              obtain ⟨hstay, hn, hag⟩ := stays hput h
              obtain ⟨Es, Ss, f⟩ := ih (i :: done) rd fr₁ fr' σ₁ σ' h hchk' hnd'.2 hdis' hrdo (fun r hr => let ⟨o', a, b, c⟩ := hrda r hr; ⟨o', a, hag o' b, c⟩)
              have hag2 : ∀ r ∈ rd, bit (ms.getD i 0) r = true ∨ again P rec ops fr σ₁ r = true := fun r hr => by
                rw [hk2] at hagain
                have h1 : (rd.all fun r => bit (ms.getD i 0) r || again P rec ops fr σ₁ r) = true := by simpa only [Nat.beq, Bool.not_true, Bool.false_or] using hagain
                have := List.all_eq_true.1 h1 r hr
                rwa [Bool.or_eq_true] at this
              refine ⟨i :: Es, σ :: Ss, by simp [f.len], rfl, by simpa using f.last, fun k e he => ?_, fun e he o' ho' hk hw' => ?_, fun q k a b hqk ha hb => ?_, fun j hj o' ho' hk hw' => ?_, fun r hr => ?_, fun j hj o' ho' hw' d hd => ?_, fun j hj o' d ho' hd => ?_⟩
              · cases k with
                | zero =>
                  simp at he; subst he
                  exact ⟨List.mem_cons_self .., hk2, o, fr, σ, σ₁, v, hoa, hwant ▸ hw, rfl, by simpa using f.first, hagree, hstep, fun d hd => (hstay d hd).1⟩
                | succ k =>
                  obtain ⟨a, b, o', fr2, s, s', v', c⟩ := f.loud k e (by simpa using he)
                  exact ⟨List.mem_cons_of_mem _ a, b, o', fr2, s, s', v', by simpa using c⟩
              · rcases List.mem_cons.1 he with e' | he
                · subst e'; exact List.mem_cons_self ..
                · exact List.mem_cons_of_mem _ (f.all e he o' ho' hk hw')
              · cases k with
                | zero => omega
                | succ k =>
                  simp at hb
                  cases q with
                  | zero =>
                    simp at ha; subst ha
                    obtain ⟨hm, hk, _⟩ := f.loud k b hb
                    -- b comes behind i: its check names i
                    have : ∀ (l d : List Nat), checkGo ops.toList ks ms l d = true → i ∈ d → b ∈ l → bit (ms.getD b 0) i = true := by
                      intro l
                      induction l with
                      | nil => intro d _ _ hb'; cases hb'
                      | cons x l ihl =>
                        intro d hc hid hb'
                        obtain ⟨ox, hox, hcx, hc'⟩ := checkGo_cons hc
                        rcases List.mem_cons.1 hb' with e | hb'
                        · subst e; exact hcx.loud i hid hk2
                        · exact ihl _ hc' (List.mem_cons_of_mem _ hid) hb'
                    exact this rest (i :: done) hchk' (List.mem_cons_self ..) hm
                  | succ q => exact f.order q k a b (by omega) (by simpa using ha) hb
              · rcases List.mem_cons.1 hj with e' | hj
                · subst e'; exact absurd hk2 hk
                · obtain ⟨klo, h1, h2, h3⟩ := f.quiet j hj o' ho' hk hw'
                  refine ⟨klo + 1, by simp; omega, fun q hq e he => ?_, fun k s hks' hs hall => ?_⟩
                  · cases q with
                    | zero =>
                      simp at he; subst he
                      have : ∀ (l d : List Nat), checkGo ops.toList ks ms l d = true → i ∈ d → j ∈ l → bit (ms.getD j 0) i = true := by
                        intro l
                        induction l with
                        | nil => intro d _ _ hb'; cases hb'
                        | cons x l ihl =>
                          intro d hc hid hb'
                          obtain ⟨ox, hox, hcx, hc'⟩ := checkGo_cons hc
                          rcases List.mem_cons.1 hb' with e | hb'
                          · subst e; exact hcx.loud i hid hk2
                          · exact ihl _ hc' (List.mem_cons_of_mem _ hid) hb'
                      exact this rest (i :: done) hchk' (List.mem_cons_self ..) hj
                    | succ q => exact h2 q (by omega) e (by simpa using he)
                  · cases k with
                    | zero => omega
                    | succ k => exact h3 k s (by omega) (by simpa using hs) fun q h1' h2' e he => hall (q + 1) (by omega) (by omega) e (by simpa using he)
              · obtain ⟨o', ho', hread⟩ := f.read r hr
                refine ⟨o', ho', fun k s hk hs hall => ?_⟩
                cases k with
                | zero => omega
                | succ k =>
                  simp at hs
                  by_cases hk0 : k = 0
                  · subst hk0
                    rw [f.first] at hs; cases hs
                    have hnb := hall 0 (by omega) i (by simp)
                    rcases hag2 r hr with hb | hb
                    · rw [hnb] at hb; cases hb
                    · obtain ⟨o'', ho'', hagr, hsome⟩ := hrda r hr
                      obtain rfl : o'' = o' := Option.some.inj (ho''.symm.trans ho')
                      unfold again at hb
                      rw [ho''] at hb
                      simp only at hb
                      split at hb
                      · rename_i d v' s' hd hst
                        have hks1 : kindO P o'' ≠ 2 := fun e => by
                          have h1 := (hrd r hr).2
                          rw [hks, List.getD_eq_getElem?_getD, List.getElem?_map, show ops.toList[r]? = some o'' by simpa using ho''] at h1
                          simp at h1; omega
                        have := stepA_same hks1 hst
                        subst this
                        have hv := sameV_eq hb
                        refine ⟨fr, v', hagr, hst, fun d' hd' => ?_⟩
                        rw [hd] at hd'; cases hd'
                        -- the slot of r holds what it held
                        have hr' : fr'.tm.get d = fr.tm.get d := by
                          refine (drawGo_keeps (i :: rest) rd fr fr' σ σ' hfull).1 d fun j hj hdj => ?_
                          have : j = r := uniqueDst_spec hun hdj (by simp [dstAt, ho'', hd])
                          exact hdis j hj (this ▸ (hrd r hr).1)
                        obtain ⟨u, hu⟩ := hsome d hd
                        rw [hu] at hr'
                        unfold Tm.val at hv
                        rw [← hr'] at hv
                        rw [hu, hv]; rfl
                      · cases hb
                  · exact hread k s (by omega) hs fun q hq e he => hall (q + 1) (by omega) e (by simpa using he)
              · rcases List.mem_cons.1 hj with e' | hj
                · subst e'; rw [hoa] at ho'; cases ho'; rw [← hwant, hw] at hw'; cases hw'
                · exact f.skipped j hj o' ho' hw' d hd
              · rcases List.mem_cons.1 hj with e' | hj
                · subst e'; rw [hoa] at ho'; cases ho'; exact (hstay d hd).2
                · have := f.fits j hj o' d ho' hd; rwa [hn] at this
            · -- quiet, or a read
              have hko : kindO P o ≠ 2 := hki ▸ hk2
              have hs1 := stepA_same hko hstep
              subst hs1
              obtain ⟨hstay, hn, hag⟩ := stays hput h
              obtain ⟨Es, Ss, f⟩ := ih (i :: done) _ fr₁ fr' σ₁ σ' h hchk' hnd'.2 hdis' (fun r hr => by
                  cases hb : Nat.beq (ks.getD i 2) 1 with
                  | false => rw [hb] at hr; exact hrdo r hr
                  | true =>
                    rw [hb] at hr
                    rcases List.mem_cons.1 hr with e | hr
                    · subst e; exact ⟨List.mem_cons_self .., Nat.eq_of_beq_eq_true hb⟩
                    · exact hrdo r hr) (fun r hr => by
                  have old : r ∈ rd → ∃ o, ops[r]? = some o ∧ Agree fr₁ fr'.tm o ∧ ∀ d, o.dst = some d → ∃ u, fr'.tm.get d = some u := fun hr => let ⟨o', a, b, c⟩ := hrda r hr; ⟨o', a, hag o' b, c⟩
                  cases hb : Nat.beq (ks.getD i 2) 1 with
                  | false => rw [hb] at hr; exact old hr
                  | true =>
                    rw [hb] at hr
                    rcases List.mem_cons.1 hr with e | hr
                    · subst e; exact ⟨o, hoa, hag o hagree, fun d hd => ⟨v, (hstay d hd).1⟩⟩
                    · exact old hr)
              refine ⟨Es, Ss, f.len, f.first, f.last, fun k e he => ?_, fun e he o' ho' hk hw' => ?_, f.order, fun j hj o' ho' hk hw' => ?_, fun r hr => f.read r ?_, fun j hj o' ho' hw' d hd => ?_, fun j hj o' d ho' hd => ?_⟩
              · obtain ⟨a, b⟩ := f.loud k e he; exact ⟨List.mem_cons_of_mem _ a, b⟩
              · rcases List.mem_cons.1 he with e' | he
                · subst e'; exact absurd hk hk2
                · exact f.all e he o' ho' hk hw'
              · rcases List.mem_cons.1 hj with e' | hj
                · subst e'
                  rw [hoa] at ho'; cases ho'
                  refine ⟨0, Nat.zero_le _, fun q hq => by omega, fun k s _ hs hall => ?_⟩
                  rcases kind_cases (P := P) o with h0 | h1 | h2
                  · exact ⟨fr, v, hagree, stepA_quiet h0 hstep s, fun d hd => (hstay d hd).1⟩
                  · cases k with
                    | zero => rw [f.first] at hs; cases hs; exact ⟨fr, v, hagree, hstep, fun d hd => (hstay d hd).1⟩
                    | succ k =>
                      obtain ⟨o', ho', hread⟩ := f.read j (by rw [hki, h1]; exact List.mem_cons_self ..)
                      rw [hoa] at ho'; cases ho'
                      exact hread (k + 1) s (by omega) hs fun q hq e he => hall q (by omega) hq e he
                  · exact absurd h2 hko
                · exact f.quiet j hj o' ho' hk hw'
              · cases hb : Nat.beq (ks.getD i 2) 1 with
                | false => exact hr
                | true => exact List.mem_cons_of_mem _ hr
              · rcases List.mem_cons.1 hj with e' | hj
                · subst e'; rw [hoa] at ho'; cases ho'; rw [← hwant, hw] at hw'; cases hw'
                · exact f.skipped j hj o' ho' hw' d hd
              · rcases List.mem_cons.1 hj with e' | hj
                · subst e'; rw [hoa] at ho'; cases ho'; exact (hstay d hd).2
                · have := f.fits j hj o' d ho' hd; rwa [hn] at this
          · cases h
        · cases h
      · cases h
    · -- not wanted
      rename_i hw
      split at h
      · rename_i fr₁ hput
        obtain ⟨hstay, hn, hag⟩ := stays hput h
        obtain ⟨Es, Ss, f⟩ := ih (i :: done) rd fr₁ fr' σ σ' h hchk' hnd'.2 hdis' hrdo (fun r hr => let ⟨o', a, b, c⟩ := hrda r hr; ⟨o', a, hag o' b, c⟩)
        have hnw : Region.wanted o (yieldedA ops fr'.tm) ≠ true := hwant ▸ hw
        refine ⟨Es, Ss, f.len, f.first, f.last, fun k e he => ?_, fun e he o' ho' hk hw' => ?_, f.order, fun j hj o' ho' hk hw' => ?_, f.read, fun j hj o' ho' hw' d hd => ?_, fun j hj o' d ho' hd => ?_⟩
        · obtain ⟨a, b⟩ := f.loud k e he; exact ⟨List.mem_cons_of_mem _ a, b⟩
        · rcases List.mem_cons.1 he with e' | he
          · subst e'; rw [hoa] at ho'; cases ho'; exact absurd hw' hnw
          · exact f.all e he o' ho' hk hw'
        · rcases List.mem_cons.1 hj with e' | hj
          · subst e'; rw [hoa] at ho'; cases ho'; exact absurd hw' hnw
          · exact f.quiet j hj o' ho' hk hw'
        · rcases List.mem_cons.1 hj with e' | hj
          · subst e'; rw [hoa] at ho'; cases ho'; exact (hstay d hd).1
          · exact f.skipped j hj o' ho' hw' d hd
        · rcases List.mem_cons.1 hj with e' | hj
          · subst e'; rw [hoa] at ho'; cases ho'; exact (hstay d hd).2
          · have := f.fits j hj o' d ho' hd; rwa [hn] at this
      · cases h
end
end Go.Aev
