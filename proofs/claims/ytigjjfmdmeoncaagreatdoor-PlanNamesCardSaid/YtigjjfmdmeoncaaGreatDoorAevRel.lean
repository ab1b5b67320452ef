/- The relation between the evaluator's memory and the model's. -/
import Derived.Test.YtigjjfmdmeoncaaGreatDoorAevDefs
import Derived.RangeFuncLeaves
import Derived.RangeFuncRecord
import Derived.RangeFuncCalls
import Derived.OrdersIn
import Derived.Laws.AppendOwn
namespace Go.Aev

/-! ### The trie -/
theorem beqF {a b : Nat} (h : a ≠ b) : Nat.beq a b = false := by
  cases e : Nat.beq a b with
  | false => rfl
  | true => exact absurd (Nat.eq_of_beq_eq_true e) h

theorem Tr.get_leaf {α : Type} (n : Nat) : (Tr.leaf : Tr α).get n = none := by cases n <;> rfl

theorem Tr.get_set {α : Type} : ∀ (d : Nat) (t : Tr α) (n : Nat) (x : Option α) (m : Nat), n < d → (Tr.set d t n x).get m = if m = n then x else t.get m := by
  intro d
  induction d with
  | zero => intro t n x m h; omega
  | succ d ih =>
    intro t n x m h
    cases t with
    | leaf =>
      cases n with
      | zero => cases m <;> simp [Tr.set, Tr.get]
      | succ n =>
        simp only [Tr.set]
        by_cases hp : n % 2 = 0
        · simp only [hp, Nat.beq, cond_true]
          cases m with
          | zero => simp [Tr.get]
          | succ m =>
            simp only [Tr.get]
            by_cases hm : m % 2 = 0
            · simp only [hm, Nat.beq, cond_true, ih _ (n / 2) x (m / 2) (by omega), Tr.get_leaf]
              by_cases e : m = n
              · subst e; simp
              · rw [if_neg (by omega), if_neg (by omega)]
            · have : Nat.beq (m % 2) 0 = false := beqF hm
              simp only [this, cond_false]
              rw [if_neg (by omega)]
        · have hb : Nat.beq (n % 2) 0 = false := beqF hp
          simp only [hb, cond_false]
          cases m with
          | zero => simp [Tr.get]
          | succ m =>
            simp only [Tr.get]
            by_cases hm : m % 2 = 0
            · simp only [hm, Nat.beq, cond_true]
              rw [if_neg (by omega)]
            · have : Nat.beq (m % 2) 0 = false := beqF hm
              simp only [this, cond_false, ih _ (n / 2) x (m / 2) (by omega), Tr.get_leaf]
              by_cases e : m = n
              · subst e; simp
              · rw [if_neg (by omega), if_neg (by omega)]
    | node v l r =>
      cases n with
      | zero => cases m <;> simp [Tr.set, Tr.get]
      | succ n =>
        simp only [Tr.set]
        by_cases hp : n % 2 = 0
        · simp only [hp, Nat.beq, cond_true]
          cases m with
          | zero => simp [Tr.get]
          | succ m =>
            simp only [Tr.get]
            by_cases hm : m % 2 = 0
            · simp only [hm, Nat.beq, cond_true, ih _ (n / 2) x (m / 2) (by omega)]
              by_cases e : m = n
              · subst e; simp
              · rw [if_neg (by omega), if_neg (by omega)]
            · have : Nat.beq (m % 2) 0 = false := beqF hm
              simp only [this, cond_false]
              rw [if_neg (by omega)]
        · have hb : Nat.beq (n % 2) 0 = false := beqF hp
          simp only [hb, cond_false]
          cases m with
          | zero => simp [Tr.get]
          | succ m =>
            simp only [Tr.get]
            by_cases hm : m % 2 = 0
            · simp only [hm, Nat.beq, cond_true]
              rw [if_neg (by omega)]
            · have : Nat.beq (m % 2) 0 = false := beqF hm
              simp only [this, cond_false, ih _ (n / 2) x (m / 2) (by omega)]
              by_cases e : m = n
              · subst e; simp
              · rw [if_neg (by omega), if_neg (by omega)]

theorem Tr.get_put {α : Type} (t : Tr α) (n : Nat) (x : α) (m : Nat) : (t.put n x).get m = if m = n then some x else t.get m := Tr.get_set _ t n _ m (Nat.lt_succ_self n)
theorem Tr.get_del {α : Type} (t : Tr α) (n : Nat) (m : Nat) : (t.del n).get m = if m = n then none else t.get m := Tr.get_set _ t n _ m (Nat.lt_succ_self n)

/-! ### Values -/
/-- Where a block of the abstract memory lies: the block, where in it, how many cells that block has, and how many an element has. -/
structure Loc where
  (blk base tot sz : Nat)
  val : Option Value := none

/-- What a symbol may stand for. -/
def symOk : Value → Bool
  | .int _ _ | .string _ => true
  | _ => false

abbrev Ren := Nat → Option Loc
def Ren.le (β β' : Ren) : Prop := ∀ i L, β i = some L → β' i = some L
theorem Ren.le_refl (β : Ren) : Ren.le β β := fun _ _ h => h
theorem Ren.le_trans {a b c : Ren} (h : Ren.le a b) (k : Ren.le b c) : Ren.le a c := fun i L x => k i L (h i L x)

inductive FnRel (β : Ren) : Fn → Fn → Prop where
  | func (f : FuncId) : FnRel β (.func f) (.func f)
  | yield {l : Nat} {L : Loc} (h : β l = some L) : FnRel β (.yield l) (.yield L.blk)

inductive VRel (β : Ren) : Value → Value → Prop where
  | flat {v : Value} (h : flat0 v = true) : VRel β v v
  | ptr {id off : Nat} {L : Loc} (h : β id = some L) : VRel β (.pointer (some ⟨id, off, none⟩)) (.pointer (some ⟨L.blk, L.base + off, none⟩))
  | slice {id off n c o c' : Nat} {L : Loc} (h : β id = some L) (hn : n ≤ c') (ho : 0 < n → o = L.base + off) (hr : o + c' * L.sz ≤ L.tot) :
      VRel β (.slice (some ⟨id, off, none⟩) n c) (.slice (some ⟨L.blk, o, none⟩) n c')
  | map {r : Nat} {L : Loc} (h : β r = some L) : VRel β (.map (some r)) (.map (some L.blk))
  | sym {i : Nat} {L : Loc} {v : Value} (h : β i = some L) (hv : L.val = some v) (hf : symOk v = true) : VRel β (.complex .f32 i 0) v
  | func {fn fn' : Fn} {a a' c c' : Array Value} (hf : FnRel β fn fn') (h1 : a.toList.length = a'.toList.length) (h2 : ∀ (i : Nat) (v v' : Value), a.toList[i]? = some v → a'.toList[i]? = some v' → VRel β v v')
      (h3 : c.toList.length = c'.toList.length) (h4 : ∀ (i : Nat) (v v' : Value), c.toList[i]? = some v → c'.toList[i]? = some v' → VRel β v v') : VRel β (.func fn a c) (.func fn' a' c')
  | iface {t : TypeId} {v v' : Value} (h : VRel β v v') : VRel β (.iface t v) (.iface t v')
  | agg {c c' : Array Value} (h3 : c.toList.length = c'.toList.length) (h4 : ∀ (i : Nat) (v v' : Value), c.toList[i]? = some v → c'.toList[i]? = some v' → VRel β v v') : VRel β (.agg c) (.agg c')
  | tuple {c c' : Array Value} (h3 : c.toList.length = c'.toList.length) (h4 : ∀ (i : Nat) (v v' : Value), c.toList[i]? = some v → c'.toList[i]? = some v' → VRel β v v') : VRel β (.tuple c) (.tuple c')

theorem FnRel.mono {β β' : Ren} (h : Ren.le β β') {f f' : Fn} (k : FnRel β f f') : FnRel β' f f' := by
  cases k with
  | func f => exact .func f
  | yield x => exact .yield (h _ _ x)

theorem VRel.mono {β β' : Ren} (h : Ren.le β β') {v v' : Value} (k : VRel β v v') : VRel β' v v' := by
  induction k with
  | flat x => exact .flat x
  | ptr x => exact .ptr (h _ _ x)
  | slice x hn ho hr => exact .slice (h _ _ x) hn ho hr
  | map x => exact .map (h _ _ x)
  | sym x hv hf => exact .sym (h _ _ x) hv hf
  | func hf h1 _ h3 _ i2 i4 => exact .func (hf.mono h) h1 i2 h3 i4
  | iface _ ih => exact .iface ih
  | agg h3 _ ih => exact .agg h3 ih
  | tuple h3 _ ih => exact .tuple h3 ih

/-- Lists of values. -/
def LRel (β : Ren) (l l' : List Value) : Prop := l.length = l'.length ∧ ∀ (i : Nat) (v v' : Value), l[i]? = some v → l'[i]? = some v' → VRel β v v'

theorem LRel.mono {β β' : Ren} (h : Ren.le β β') {l l' : List Value} (k : LRel β l l') : LRel β' l l' := ⟨k.1, fun i v v' a b => (k.2 i v v' a b).mono h⟩
theorem LRel.nil (β : Ren) : LRel β [] [] := ⟨rfl, fun i v v' h => by simp at h⟩
theorem LRel.get {β : Ren} {l l' : List Value} (k : LRel β l l') {i : Nat} {v : Value} (h : l[i]? = some v) : ∃ v', l'[i]? = some v' ∧ VRel β v v' := by
  have hi : i < l.length := (List.getElem?_eq_some_iff.1 h).1
  have hi' : i < l'.length := k.1 ▸ hi
  exact ⟨l'[i], List.getElem?_eq_getElem hi', k.2 i v _ h (List.getElem?_eq_getElem hi')⟩
theorem LRel.get' {β : Ren} {l l' : List Value} (k : LRel β l l') {i : Nat} {v' : Value} (h : l'[i]? = some v') : ∃ v, l[i]? = some v ∧ VRel β v v' := by
  have hi' : i < l'.length := (List.getElem?_eq_some_iff.1 h).1
  have hi : i < l.length := k.1 ▸ hi'
  exact ⟨l[i], List.getElem?_eq_getElem hi, k.2 i _ v' (List.getElem?_eq_getElem hi) h⟩
theorem LRel.cons {β : Ren} {v v' : Value} {l l' : List Value} (h : VRel β v v') (k : LRel β l l') : LRel β (v :: l) (v' :: l') := by
  refine ⟨by simp [k.1], fun i a b x y => ?_⟩
  cases i with
  | zero => simp at x y; subst x; subst y; exact h
  | succ i => simp at x y; exact k.2 i a b x y
theorem LRel.tail {β : Ren} {v v' : Value} {l l' : List Value} (k : LRel β (v :: l) (v' :: l')) : VRel β v v' ∧ LRel β l l' :=
  ⟨k.2 0 v v' rfl rfl, by have := k.1; simpa using this, fun i a b x y => k.2 (i + 1) a b (by simpa using x) (by simpa using y)⟩
theorem LRel.nil_left {β : Ren} {l' : List Value} (k : LRel β [] l') : l' = [] := List.length_eq_zero_iff.1 k.1.symm
theorem LRel.cons_left {β : Ren} {v : Value} {l l' : List Value} (k : LRel β (v :: l) l') : ∃ v' r, l' = v' :: r ∧ VRel β v v' ∧ LRel β l r := by
  cases l' with
  | nil => have := k.1; simp at this
  | cons v' r => exact ⟨v', r, rfl, k.tail.1, k.tail.2⟩
theorem LRel.append {β : Ren} {a a' b b' : List Value} (h : LRel β a a') (k : LRel β b b') : LRel β (a ++ b) (a' ++ b') := by
  refine ⟨by simp [h.1, k.1], fun i v v' x y => ?_⟩
  by_cases hi : i < a.length
  · rw [List.getElem?_append_left hi] at x
    rw [List.getElem?_append_left (h.1 ▸ hi)] at y
    exact h.2 i v v' x y
  · rw [List.getElem?_append_right (by omega)] at x
    rw [List.getElem?_append_right (by have := h.1; omega), ← h.1] at y
    exact k.2 _ v v' x y
theorem LRel.take {β : Ren} {a a' : List Value} (h : LRel β a a') (n : Nat) : LRel β (a.take n) (a'.take n) := by
  refine ⟨by simp [h.1], fun i v v' x y => ?_⟩
  rw [List.getElem?_take] at x y
  split at x
  · rw [if_pos (by assumption)] at y; exact h.2 i v v' x y
  · cases x
theorem LRel.drop {β : Ren} {a a' : List Value} (h : LRel β a a') (n : Nat) : LRel β (a.drop n) (a'.drop n) := by
  refine ⟨by simp [h.1], fun i v v' x y => ?_⟩
  rw [List.getElem?_drop] at x y
  exact h.2 _ v v' x y
theorem LRel.flat {β : Ren} {l : List Value} (h : l.all flat0 = true) : LRel β l l :=
  ⟨rfl, fun i v v' x y => by
    rw [x] at y; cases y
    exact .flat (List.all_eq_true.1 h v (List.mem_of_getElem? x))⟩

theorem VRel.flat1 {β : Ren} {v : Value} (h : flat1 v = true) : VRel β v v := by
  cases v with
  | agg cs => exact .agg rfl (LRel.flat (by simpa [Aev.flat1] using h)).2
  | tuple cs => exact .tuple rfl (LRel.flat (by simpa [Aev.flat1] using h)).2
  | _ => exact .flat h

/-- A value without an address stands for itself alone. -/
theorem VRel.of_flat0 {β : Ren} {v v' : Value} (k : VRel β v v') (h : flat0 v = true) : v' = v := by
  cases k <;> first | rfl | (simp [flat0] at h)

theorem LRel.of_flat {β : Ren} {l l' : List Value} (k : LRel β l l') (h : l.all flat0 = true) : l' = l := by
  apply List.ext_getElem?
  intro i
  cases hi : l[i]? with
  | none =>
    have : l.length ≤ i := List.getElem?_eq_none_iff.1 hi
    exact List.getElem?_eq_none_iff.2 (k.1 ▸ this)
  | some v =>
    obtain ⟨v', h1, h2⟩ := k.get hi
    rw [h1, h2.of_flat0 (List.all_eq_true.1 h v (List.mem_of_getElem? hi))]

theorem VRel.of_flat1 {β : Ren} {v v' : Value} (k : VRel β v v') (h : Aev.flat1 v = true) : v' = v := by
  cases k with
  | agg h3 h4 =>
    have := LRel.of_flat ⟨h3, h4⟩ (by simpa [Aev.flat1] using h)
    rw [Array.toList_inj.1 this]
  | tuple h3 h4 =>
    have := LRel.of_flat ⟨h3, h4⟩ (by simpa [Aev.flat1] using h)
    rw [Array.toList_inj.1 this]
  | flat x => rfl
  | ptr x => simp [Aev.flat1, flat0] at h
  | slice x _ _ _ => simp [Aev.flat1, flat0] at h
  | map x => simp [Aev.flat1, flat0] at h
  | sym _ _ _ => simp [Aev.flat1, flat0] at h
  | func _ _ _ _ _ => simp [Aev.flat1, flat0] at h
  | iface _ => simp [Aev.flat1, flat0] at h

theorem VRel.undef (β : Ren) : VRel β undef undef := .tuple rfl (fun i v v' h => by simp at h)

theorem VRel.bool_left {β : Ren} {b : Bool} {v' : Value} (k : VRel β (.bool b) v') : v' = .bool b := k.of_flat0 rfl
theorem VRel.int_left {β : Ren} {t : IntKind} {n : Int} {v' : Value} (k : VRel β (.int t n) v') : v' = .int t n := k.of_flat0 rfl
theorem VRel.string_left {β : Ren} {s : ByteArray} {v' : Value} (k : VRel β (.string s) v') : v' = .string s := k.of_flat0 rfl
theorem VRel.nil_left {β : Ren} {n c : Nat} {v' : Value} (k : VRel β (.slice none n c) v') : v' = .slice none n c := k.of_flat0 rfl
theorem VRel.bool_right {β : Ren} {b : Bool} {v : Value} (k : VRel β v (.bool b)) : v = .bool b := by
  cases k with
  | flat h => rfl
  | sym _ _ hf => cases hf
theorem VRel.agg_left {β : Ren} {c : Array Value} {v' : Value} (k : VRel β (.agg c) v') : ∃ c', v' = .agg c' ∧ LRel β c.toList c'.toList := by
  cases k with
  | flat h => simp [flat0] at h
  | agg h3 h4 => exact ⟨_, rfl, h3, h4⟩
theorem VRel.tuple_left {β : Ren} {c : Array Value} {v' : Value} (k : VRel β (.tuple c) v') : ∃ c', v' = .tuple c' ∧ LRel β c.toList c'.toList := by
  cases k with
  | flat h => simp [flat0] at h
  | tuple h3 h4 => exact ⟨_, rfl, h3, h4⟩
theorem VRel.ptr_left {β : Ren} {a : Addr} {v' : Value} (k : VRel β (.pointer (some a)) v') : ∃ id off L, a = ⟨id, off, none⟩ ∧ β id = some L ∧ v' = .pointer (some ⟨L.blk, L.base + off, none⟩) := by
  cases k with
  | flat h => simp [flat0] at h
  | ptr h => exact ⟨_, _, _, rfl, h, rfl⟩
theorem VRel.slice_left {β : Ren} {a : Addr} {n c : Nat} {v' : Value} (k : VRel β (.slice (some a) n c) v') :
    ∃ id off o c' L, a = ⟨id, off, none⟩ ∧ β id = some L ∧ v' = .slice (some ⟨L.blk, o, none⟩) n c' ∧ n ≤ c' ∧ (0 < n → o = L.base + off) ∧ o + c' * L.sz ≤ L.tot := by
  cases k with
  | flat h => simp [flat0] at h
  | slice h hn ho hr => exact ⟨_, _, _, _, _, rfl, h, rfl, hn, ho, hr⟩
theorem VRel.map_left {β : Ren} {r : Nat} {v' : Value} (k : VRel β (.map (some r)) v') : ∃ L, β r = some L ∧ v' = .map (some L.blk) := by
  cases k with
  | flat h => simp [flat0] at h
  | map h => exact ⟨_, h, rfl⟩
theorem VRel.func_left {β : Ren} {f : Fn} {a c : Array Value} {v' : Value} (k : VRel β (.func f a c) v') :
    ∃ f' a' c', v' = .func f' a' c' ∧ FnRel β f f' ∧ LRel β a.toList a'.toList ∧ LRel β c.toList c'.toList := by
  cases k with
  | flat h => simp [flat0] at h
  | func hf h1 h2 h3 h4 => exact ⟨_, _, _, rfl, hf, ⟨h1, h2⟩, ⟨h3, h4⟩⟩

theorem symOk_one {v : Value} (h : symOk v = true) : v.oneCell' = true ∧ v.cells = #[v] := by
  cases v <;> first | exact ⟨rfl, rfl⟩ | cases h

theorem VRel.oneCell {β : Ren} {v v' : Value} (k : VRel β v v') : v'.oneCell' = v.oneCell' := by
  cases k with
  | sym _ _ hf => rw [(symOk_one hf).1]; rfl
  | _ => rfl

theorem VRel.cells {β : Ren} {v v' : Value} (k : VRel β v v') : LRel β v.cells.toList v'.cells.toList := by
  have one : ∀ {a a' : Value}, VRel β a a' → LRel β [a] [a'] := fun h => LRel.cons h (LRel.nil β)
  cases k with
  | agg h3 h4 => exact ⟨h3, h4⟩
  | flat h =>
    cases v <;> first | (exact one (.flat h)) | (simp [flat0] at h)
  | ptr h => exact one (.ptr h)
  | slice h hn ho hr => exact one (.slice h hn ho hr)
  | map h => exact one (.map h)
  | sym h hv hf => rw [(symOk_one hf).2]; exact one (.sym h hv hf)
  | func hf h1 h2 h3 h4 => exact one (.func hf h1 h2 h3 h4)
  | iface h => exact one (.iface h)
  | tuple h3 h4 => exact one (.tuple h3 h4)

/-! ### Memory -/
/-- The slots of a frame. -/
def TRel (β : Ren) (tm : Tm) (tmps : Array Value) : Prop := ∀ t, VRel β (Tm.val tm t) (tmps.getD t undef)

def ERel (β : Ren) (es : List (Value × Value × Nat)) (ents : List MapEntry) : Prop :=
  es.length = ents.length ∧ ∀ (i : Nat) k v b e, es[i]? = some (k, v, b) → ents[i]? = some e → e.key = k ∧ flat0 k = true ∧ VRel β v e.val ∧ e.born = b

def ORel (β : Ren) (o : AObj) (L : Loc) (x : Option Obj) : Prop :=
  match o with
  | .cells c sz ro => ∃ arr e fr, x = some (.cells arr e fr) ∧ arr.size = L.tot ∧ sz = L.sz ∧ L.base + c.length ≤ L.tot ∧ LRel β c ((arr.toList.drop L.base).take c.length) ∧ (ro = false → fr = (0, 0))
  | .loop st pend tm n params assign body d => ∃ fn tmps D, x = some (.loop ⟨st, pend, fn, tmps, params, assign, body, D.blk⟩) ∧ tmps.size = n ∧ TRel β tm tmps ∧ β d = some D
  | .marks => x = some (.deferred (some []))
  | .iter s pos => x = some (.stringIter s pos) ∧ L.base = 0
  | .map es clock => ∃ ents, x = some (.map ents clock) ∧ ERel β es ents.toList

def AObj.wr : AObj → Bool
  | .cells _ _ ro => !ro
  | _ => true

/-- Of these a related value is known. -/
def simple : Value → Bool
  | .complex .f32 _ 0 => true
  | v => flat0 v

theorem VRel.unique {β : Ren} {v a b : Value} (h : simple v = true) (x : VRel β v a) (y : VRel β v b) : a = b := by
  by_cases hf : flat0 v = true
  · rw [x.of_flat0 hf, y.of_flat0 hf]
  · cases x with
    | sym h1 hv1 _ =>
      cases y with
      | sym h2 hv2 _ => rw [h1] at h2; cases h2; rw [hv1] at hv2; cases hv2; rfl
      | flat h2 => exact absurd h2 hf
    | flat h1 => exact absurd h1 hf
    | _ => first | exact absurd h hf | (simp [simple] at h; exact absurd h hf)

/-- What the facts say of symbols is so. -/
def FactsOk (β : Ren) (facts : BinOp → Value → Value → Option Bool) : Prop :=
  ∀ op x y b, facts op x y = some b → simple x = true ∧ simple y = true ∧ ∃ x' y', VRel β x x' ∧ VRel β y y' ∧
    ∀ (P : Program) (t : TypeId) (ox oy : Operand) (w : World), (do eqGuard op t ox oy x' y'; binOp op t x' y' : Sem Value).run P w = .ok (.bool b) w

theorem FactsOk.mono {β β' : Ren} (h : Ren.le β β') {facts : BinOp → Value → Value → Option Bool} (k : FactsOk β facts) : FactsOk β' facts :=
  fun op x y b e => let ⟨a, c, x', y', p, q, r⟩ := k op x y b e; ⟨a, c, x', y', p.mono h, q.mono h, r⟩

structure HRel (G : Nat) (β : Ren) (σ : St) (w : World) : Prop where
  obj : ∀ id o, σ.heap.get id = some o → ∃ L, β id = some L ∧ ORel β o L w.heap[L.blk]?
  inj : ∀ i j oi oj L M, σ.heap.get i = some oi → σ.heap.get j = some oj → i ≠ j → β i = some L → β j = some M → L.blk ≠ M.blk
  fresh : ∀ id, σ.next ≤ id → β id = none
  low : ∀ g L, g < G → β g = some L → L.blk = g ∧ L.base = 0
  gnext : G ≤ σ.next
  facts : FactsOk β σ.facts

structure Step (G : Nat) (β : Ren) (σ : St) (w : World) (β' : Ren) (σ' : St) (w' : World) : Prop where
  le : Ren.le β β'
  rel : HRel G β' σ' w'
  os : w'.os = w.os
  tape : w'.tape = w.tape
  output : w'.output = w.output
  size : w.heap.size ≤ w'.heap.size
  img : ∀ id o L, σ'.heap.get id = some o → o.wr = true → β' id = some L → w.heap.size ≤ L.blk ∨ ∃ id₀ o₀ L₀, σ.heap.get id₀ = some o₀ ∧ o₀.wr = true ∧ β id₀ = some L₀ ∧ L₀.blk = L.blk
  same : ∀ b, b < w.heap.size → (∀ id o L, σ.heap.get id = some o → o.wr = true → β id = some L → L.blk ≠ b) → w'.heap[b]? = w.heap[b]?

section
variable {G : Nat} {β β' β'' : Ren} {σ σ' σ'' : St} {w w' w'' : World}

theorem Step.refl (h : HRel G β σ w) : Step G β σ w β σ w :=
  ⟨Ren.le_refl β, h, rfl, rfl, rfl, Nat.le_refl _, fun id o L a b c => .inr ⟨id, o, L, a, b, c, rfl⟩, fun _ _ _ => rfl⟩

theorem Step.trans (h : Step G β σ w β' σ' w') (k : Step G β' σ' w' β'' σ'' w'') : Step G β σ w β'' σ'' w'' where
  le := Ren.le_trans h.le k.le
  rel := k.rel
  os := k.os.trans h.os
  tape := k.tape.trans h.tape
  output := k.output.trans h.output
  size := Nat.le_trans h.size k.size
  img := fun id o L a b c => by
    rcases k.img id o L a b c with x | ⟨id₀, o₀, L₀, a₀, b₀, c₀, e₀⟩
    · exact .inl (Nat.le_trans h.size x)
    · rcases h.img id₀ o₀ L₀ a₀ b₀ c₀ with x | ⟨id₁, o₁, L₁, a₁, b₁, c₁, e₁⟩
      · exact .inl (e₀ ▸ x)
      · exact .inr ⟨id₁, o₁, L₁, a₁, b₁, c₁, e₁.trans e₀⟩
  same := fun b hb hn => by
    rw [k.same b (Nat.lt_of_lt_of_le hb h.size) (fun id o L a bb c e => ?_), h.same b hb hn]
    rcases h.img id o L a bb c with x | ⟨id₀, o₀, L₀, a₀, b₀, c₀, e₀⟩
    · omega
    · exact hn id₀ o₀ L₀ a₀ b₀ c₀ (e₀.trans e)

theorem Step.drew (h : HRel G β σ w) : Step G β σ w β σ { w with drawn := w.drawn + 1 } :=
  ⟨Ren.le_refl β, ⟨h.obj, h.inj, h.fresh, h.low, h.gnext, h.facts⟩, rfl, rfl, rfl, Nat.le_refl _, fun id o L a b c => .inr ⟨id, o, L, a, b, c, rfl⟩, fun _ _ _ => rfl⟩

theorem ERel.mono (h : Ren.le β β') {es : List (Value × Value × Nat)} {ents : List MapEntry} (k : ERel β es ents) : ERel β' es ents :=
  ⟨k.1, fun i a v b e x y => let ⟨p, q, r, s⟩ := k.2 i a v b e x y; ⟨p, q, r.mono h, s⟩⟩

theorem ORel.mono (h : Ren.le β β') {o : AObj} {L : Loc} {x : Option Obj} (k : ORel β o L x) : ORel β' o L x := by
  cases o with
  | cells c sz ro => obtain ⟨arr, e, fr, a, b, s, d, l, f⟩ := k; exact ⟨arr, e, fr, a, b, s, d, l.mono h, f⟩
  | loop st pend tm n params assign body d => obtain ⟨fn, tmps, D, a, b, c, e⟩ := k; exact ⟨fn, tmps, D, a, b, fun t => (c t).mono h, h _ _ e⟩
  | marks => exact k
  | iter s pos => exact k
  | map es clock => obtain ⟨ents, a, b⟩ := k; exact ⟨ents, a, b.mono h⟩

theorem ORel.lt {o : AObj} {L : Loc} (k : ORel β o L w.heap[L.blk]?) : L.blk < w.heap.size := by
  rcases Nat.lt_or_ge L.blk w.heap.size with h | h
  · exact h
  · exfalso
    have hn : w.heap[L.blk]? = none := Array.getElem?_eq_none h
    rw [hn] at k
    cases o with
    | cells c sz ro => obtain ⟨arr, e, fr, a, _⟩ := k; cases a
    | loop st pend tm n params assign body d => obtain ⟨fn, tmps, D, a, _⟩ := k; cases a
    | marks => cases k
    | iter s pos => cases k.1
    | map es clock => obtain ⟨ents, a, _⟩ := k; cases a

theorem HRel.lt (h : HRel G β σ w) {id : Nat} {o : AObj} (k : σ.heap.get id = some o) : id < σ.next := by
  rcases Nat.lt_or_ge id σ.next with x | x
  · exact x
  · obtain ⟨L, hL, _⟩ := h.obj id o k
    rw [h.fresh id x] at hL; cases hL

/-- Making a new block. -/
theorem HRel.new (h : HRel G β σ w) (o : AObj) (ob : Obj) (L : Loc) (hb : L.blk = w.heap.size)
    (ho : ∀ β', Ren.le β β' → β' σ.next = some L → ORel β' o L (some ob)) :
    ∃ β', β' σ.next = some L ∧ Step G β σ w β' (σ.new o).2 (w.alloc ob) := by
  let β' : Ren := fun i => if i = σ.next then some L else β i
  have hle : Ren.le β β' := fun i M hM => by
    have : i ≠ σ.next := fun e => by rw [e, h.fresh σ.next (Nat.le_refl _)] at hM; cases hM
    simp [β', this, hM]
  have hnew : β' σ.next = some L := by simp [β']
  have hget : ∀ id, (σ.new o).2.heap.get id = if id = σ.next then some o else σ.heap.get id := fun id => by simp [St.new, Tr.get_put]
  have hold : ∀ b, b < w.heap.size → (w.alloc ob).heap[b]? = w.heap[b]? := fun b hb => heap_alloc_old w ob b hb
  have hat : (w.alloc ob).heap[w.heap.size]? = some ob := heap_alloc_new w ob
  have hβ : ∀ id, id ≠ σ.next → β' id = β id := fun id e => by simp [β', e]
  refine ⟨β', hnew, hle, ?_, rfl, rfl, rfl, by simp, ?_, fun b hb _ => hold b hb⟩
  · refine ⟨fun id o' hg => ?_, fun i j oi oj A B hi hj hij hA hB => ?_, fun id hid => ?_, fun g M hg hM => ?_, ?_, h.facts.mono hle⟩
    · rw [hget] at hg
      split at hg
      · rename_i e; cases hg; subst e
        exact ⟨L, hnew, by rw [hb, hat]; exact ho β' hle hnew⟩
      · rename_i e
        obtain ⟨M, hM, hO⟩ := h.obj id o' hg
        exact ⟨M, hle _ _ hM, by rw [hold _ hO.lt]; exact hO.mono hle⟩
    · rw [hget] at hi hj
      split at hi
      · rename_i e; cases hi; subst e
        rw [if_neg (fun e => hij e.symm)] at hj
        rw [hnew] at hA; cases hA
        obtain ⟨M, hM, hO⟩ := h.obj j oj hj
        rw [hβ j (fun e => hij e.symm), hM] at hB; cases hB
        have := hO.lt; omega
      · rename_i e1
        split at hj
        · rename_i e; cases hj; subst e
          rw [hnew] at hB; cases hB
          obtain ⟨M, hM, hO⟩ := h.obj i oi hi
          rw [hβ i e1, hM] at hA; cases hA
          have := hO.lt; omega
        · rename_i e2
          rw [hβ i e1] at hA; rw [hβ j e2] at hB
          exact h.inj i j oi oj A B hi hj hij hA hB
    · have : σ.next + 1 ≤ id := hid
      rw [hβ id (by omega)]; exact h.fresh id (by omega)
    · rw [hβ g (by have := h.gnext; omega)] at hM; exact h.low g M hg hM
    · have := h.gnext; show G ≤ σ.next + 1; omega
  · intro id o' M hg hw hM
    rw [hget] at hg
    split at hg
    · rename_i e; subst e; rw [hnew] at hM; cases hM; exact .inl (by omega)
    · rename_i e; rw [hβ id e] at hM; exact .inr ⟨id, o', M, hg, hw, hM, rfl⟩

/-- Writing an object anew in its place. -/
theorem HRel.put (h : HRel G β σ w) {id : Nat} {o : AObj} (o' : AObj) {L : Loc} (hg : σ.heap.get id = some o) (hw : o.wr = true) (hL : β id = some L)
    (w' : World) (hos : w'.os = w.os) (ht : w'.tape = w.tape) (hout : w'.output = w.output) (hsz : w'.heap.size = w.heap.size)
    (hoth : ∀ b, b ≠ L.blk → w'.heap[b]? = w.heap[b]?) (hO : ORel β o' L w'.heap[L.blk]?) :
    Step G β σ w β { σ with heap := σ.heap.put id o' } w' := by
  have hget : ∀ i, (σ.heap.put id o').get i = if i = id then some o' else σ.heap.get i := fun i => Tr.get_put _ _ _ _
  refine ⟨Ren.le_refl β, ⟨fun i p hp => ?_, fun i j oi oj A B hi hj hij hA hB => ?_, h.fresh, h.low, h.gnext, h.facts⟩, hos, ht, hout, Nat.le_of_eq hsz.symm, fun i p M hp _ hM => ?_, fun b _ hn => ?_⟩
  · simp only [hget] at hp
    split at hp
    · rename_i e; cases hp; subst e; exact ⟨L, hL, hO⟩
    · rename_i e
      obtain ⟨M, hM, hOM⟩ := h.obj i p hp
      exact ⟨M, hM, by rw [hoth _ (fun e' => h.inj i id p o M L hp hg e hM hL e')]; exact hOM⟩
  · have fix : ∀ k ok, (σ.heap.put id o').get k = some ok → ∃ ok', σ.heap.get k = some ok' := fun k ok hk => by
      rw [hget] at hk; split at hk
      · rename_i e; exact ⟨o, e ▸ hg⟩
      · exact ⟨ok, hk⟩
    obtain ⟨a, ha⟩ := fix i oi hi
    obtain ⟨b, hb⟩ := fix j oj hj
    exact h.inj i j a b A B ha hb hij hA hB
  · simp only [hget] at hp
    split at hp
    · rename_i e; subst e; rw [hL] at hM; cases hM; exact .inr ⟨i, o, L, hg, hw, hL, rfl⟩
    · exact .inr ⟨i, p, M, hp, by assumption, hM, rfl⟩
  · exact hoth b (fun e => hn id o L hg hw hL e.symm)

/-- Forgetting a block. -/
theorem HRel.del (h : HRel G β σ w) (id : Nat) : Step G β σ w β { σ with heap := σ.heap.del id } w := by
  have hget : ∀ i, (σ.heap.del id).get i = if i = id then none else σ.heap.get i := fun i => Tr.get_del _ _ _
  have sub : ∀ i p, (σ.heap.del id).get i = some p → σ.heap.get i = some p := fun i p hp => by
    rw [hget] at hp; split at hp
    · cases hp
    · exact hp
  exact ⟨Ren.le_refl β, ⟨fun i p hp => h.obj i p (sub i p hp), fun i j oi oj A B hi hj => h.inj i j oi oj A B (sub _ _ hi) (sub _ _ hj), h.fresh, h.low, h.gnext, h.facts⟩, rfl, rfl, rfl, Nat.le_refl _,
    fun i p M hp hw hM => .inr ⟨i, p, M, sub _ _ hp, hw, hM, rfl⟩, fun _ _ _ => rfl⟩
end
end Go.Aev
