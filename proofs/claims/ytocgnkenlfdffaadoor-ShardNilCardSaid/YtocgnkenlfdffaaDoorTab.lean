/- The plain side of package table: texts in order; rows by their keys. -/
import Derived.Test.YtocgnkenlfdffaaDoorNest
import Derived.Lib.Bytealg
namespace Go.Wap
open Go
abbrev blt (a b : Bytes) : Bool := Op.bytesLess a b
theorem blt_irrefl (a : Bytes) : blt a a = false := by
  induction a with
  | nil => rfl
  | cons c l ih => simp [Op.bytesLess]; exact ih
theorem blt_trans {a : Bytes} : ∀ {b c : Bytes}, blt a b = true → blt b c = true → blt a c = true := by
  induction a with
  | nil =>
    intro b c h1 h2
    cases c with
    | nil => cases b <;> simp [Op.bytesLess] at h2
    | cons z c => rfl
  | cons x a ih =>
    intro b c h1 h2
    cases b with
    | nil => simp [Op.bytesLess] at h1
    | cons y b =>
      cases c with
      | nil => simp [Op.bytesLess] at h2
      | cons z c =>
        simp only [Op.bytesLess, Bool.or_eq_true, decide_eq_true_eq, Bool.and_eq_true, beq_iff_eq] at h1 h2 ⊢
        rcases h1 with h1 | ⟨rfl, h1⟩ <;> rcases h2 with h2 | ⟨rfl, h2⟩
        · exact .inl (UInt8.lt_trans h1 h2)
        · exact .inl h1
        · exact .inl h2
        · exact .inr ⟨rfl, ih h1 h2⟩
theorem cmp_spec : ∀ (a b : Bytes), (Lib.compareBytes a b = -1 ∧ blt a b = true ∧ blt b a = false ∧ a ≠ b) ∨ (Lib.compareBytes a b = 0 ∧ a = b) ∨ (Lib.compareBytes a b = 1 ∧ blt b a = true ∧ blt a b = false ∧ a ≠ b)
  | [], [] => .inr (.inl ⟨rfl, rfl⟩)
  | [], _ :: _ => .inl ⟨rfl, rfl, rfl, by simp⟩
  | _ :: _, [] => .inr (.inr ⟨rfl, rfl, rfl, by simp⟩)
  | x :: a, y :: b => by
    simp only [Lib.compareBytes, Op.bytesLess]
    by_cases h1 : x < y
    · left
      have h2 : ¬ y < x := fun h => absurd (UInt8.lt_trans h1 h) (UInt8.lt_irrefl x)
      have h3 : x ≠ y := fun h => by subst h; exact UInt8.lt_irrefl x h1
      simp [h1, h2, h3, Ne.symm h3]
    · by_cases h2 : y < x
      · right; right
        have h3 : x ≠ y := fun h => by subst h; exact UInt8.lt_irrefl x h2
        simp [h1, h2, h3]
      · have h3 : x = y := by
          apply UInt8.toNat_inj.1
          have a1 : ¬ x.toNat < y.toNat := fun h => h1 (UInt8.lt_iff_toNat_lt.2 h)
          have a2 : ¬ y.toNat < x.toNat := fun h => h2 (UInt8.lt_iff_toNat_lt.2 h)
          omega
        subst h3
        have ih := cmp_spec a b
        simpa [h1, UInt8.lt_irrefl] using ih
theorem cmp_lt {a b : Bytes} : Lib.compareBytes a b < 0 ↔ blt a b = true := by
  rcases cmp_spec a b with ⟨h, h2, _⟩ | ⟨h, rfl⟩ | ⟨h, _, h2, _⟩
  · simp [h, h2]
  · simp [h, blt_irrefl]
  · simp [h, h2]
theorem cmp_eq {a b : Bytes} : Lib.compareBytes a b = 0 ↔ a = b := by
  rcases cmp_spec a b with ⟨h, _, _, h2⟩ | ⟨h, rfl⟩ | ⟨h, _, _, h2⟩
  · simp [h, h2]
  · simp [h]
  · simp [h, h2]
theorem blt_total {a b : Bytes} (h : a ≠ b) (h1 : blt a b = false) : blt b a = true := by
  rcases cmp_spec a b with ⟨_, h2, _⟩ | ⟨_, h2⟩ | ⟨_, h2, _⟩
  · rw [h1] at h2; cases h2
  · exact absurd h2 h
  · exact h2
theorem blt_ne {a b : Bytes} (h : blt a b = true) : a ≠ b := fun e => by subst e; rw [blt_irrefl] at h; cases h
theorem blt_asymm {a b : Bytes} (h : blt a b = true) : blt b a = false := by
  cases h2 : blt b a with
  | false => rfl
  | true => have := blt_trans h h2; rw [blt_irrefl] at this; cases this
abbrev Tab := List (Bytes × Bytes)
/-- rows in order of their keys -/
def Ord (t : Tab) : Prop := t.Pairwise fun a b => blt a.1 b.1 = true
/-- how many rows stand aheadT of a key -/
def aheadT (k : Bytes) : Tab → Nat
  | [] => 0
  | r :: t => if blt r.1 k = true then aheadT k t + 1 else 0
theorem ahead_le (k : Bytes) (t : Tab) : aheadT k t ≤ t.length := by
  induction t with
  | nil => exact Nat.le_refl _
  | cons r t ih => unfold aheadT; split <;> simp; omega
theorem ahead_lt {k : Bytes} {t : Tab} : ∀ {j : Nat} (h : j < t.length), j < aheadT k t → blt t[j].1 k = true := by
  induction t with
  | nil => intro j h; simp at h
  | cons r t ih =>
    intro j h hj
    unfold aheadT at hj
    split at hj
    · cases j with
      | zero => assumption
      | succ j => simp only [List.getElem_cons_succ]; exact ih (by simpa using h) (by omega)
    · omega
theorem ahead_ge {k : Bytes} {t : Tab} (ho : Ord t) : ∀ {j : Nat} (h : j < t.length), aheadT k t ≤ j → blt t[j].1 k = false := by
  induction t with
  | nil => intro j h; simp at h
  | cons r t ih =>
    intro j h hj
    obtain ⟨hr, ht⟩ := List.pairwise_cons.1 ho
    unfold aheadT at hj
    split at hj
    · cases j with
      | zero => omega
      | succ j => simp only [List.getElem_cons_succ]; exact ih ht (by simpa using h) (by omega)
    · rename_i hn
      have hn : blt r.1 k = false := by simpa using hn
      cases j with
      | zero => exact hn
      | succ j =>
        have hj' : j < t.length := by simpa using h
        simp only [List.getElem_cons_succ]
        have h1 := hr _ (List.getElem_mem hj' : t[j] ∈ t)
        cases hb : blt t[j].1 k with
        | false => rfl
        | true => have := blt_trans h1 hb; rw [hn] at this; cases this
/-- an index that parts the rows is where a key stands -/
theorem ahead_unique {k : Bytes} {t : Tab} (ho : Ord t) {i : Nat} (hi : i ≤ t.length) (h1 : ∀ j (h : j < t.length), j < i → blt t[j].1 k = true) (h2 : ∀ j (h : j < t.length), i ≤ j → blt t[j].1 k = false) : i = aheadT k t := by
  have hl := ahead_le k t
  rcases Nat.lt_trichotomy i (aheadT k t) with h | h | h
  · have a := h2 i (by omega) (Nat.le_refl _); rw [ahead_lt (by omega) h] at a; cases a
  · exact h
  · have a := h1 (aheadT k t) (by omega) h; rw [ahead_ge ho (by omega) (Nat.le_refl _)] at a; cases a
/-- a key's value -/
def lookT (t : Tab) (k : Bytes) : Option Bytes :=
  match t[aheadT k t]? with
  | some r => if r.1 = k then some r.2 else none
  | none => none
theorem look_some {t : Tab} {k v : Bytes} (h : lookT t k = some v) : t[aheadT k t]? = some (k, v) := by
  unfold lookT at h
  split at h
  · rename_i r hr
    split at h
    · rename_i e; cases h; rw [hr, ← e]
    · cases h
  · cases h
theorem look_none {t : Tab} {k : Bytes} (h : lookT t k = none) : ∀ r, t[aheadT k t]? = some r → r.1 ≠ k := by
  intro r hr e
  unfold lookT at h
  rw [hr] at h
  simp only [] at h
  rw [if_pos e] at h
  cases h
theorem look_mem {t : Tab} (ho : Ord t) {k v : Bytes} : lookT t k = some v ↔ (k, v) ∈ t := by
  constructor
  · intro h; exact List.mem_of_getElem? (look_some h)
  · intro h
    obtain ⟨j, hj, e⟩ := List.getElem_of_mem h
    have hk : j = aheadT k t := by
      have h1 : ¬ j < aheadT k t := fun hh => by have := ahead_lt hj hh; rw [e] at this; rw [show (k, v).1 = k from rfl, blt_irrefl] at this; cases this
      have h2 : ¬ aheadT k t < j := fun hh => by
        have hl : aheadT k t < t.length := by omega
        have a := (List.pairwise_iff_getElem.1 ho) (aheadT k t) j hl hj hh
        rw [e] at a
        rw [ahead_ge ho hl (Nat.le_refl _)] at a; cases a
      omega
    subst hk
    unfold lookT
    rw [List.getElem?_eq_getElem hj, e]
    simp
/-- an operation -/
structure OpT where
  kind : Int
  key : Bytes
  value : Bytes
  old : Bytes
def checkT (o : OpT) : Int :=
  if o.kind < 1 ∨ 5 < o.kind then 1
  else if o.key = [] ∨ 16 < o.key.length ∨ 64 < o.value.length ∨ 64 < o.old.length then 130
  else if (o.value ≠ [] ∧ (o.kind = 1 ∨ o.kind = 4)) ∨ (o.old ≠ [] ∧ o.kind ≠ 5) then 4
  else 0
def setT (t : Tab) (k v : Bytes) : Tab := if (lookT t k).isSome = true then t.set (aheadT k t) (k, v) else t.take (aheadT k t) ++ (k, v) :: t.drop (aheadT k t)
def delT (t : Tab) (k : Bytes) : Tab := t.take (aheadT k t) ++ t.drop (aheadT k t + 1)
/-- what an operation does: the rows behind it, the answer, the error -/
def doT (t : Tab) (o : OpT) : Tab × Bytes × Int :=
  if checkT o ≠ 0 then (t, [], checkT o)
  else if o.kind = 2 then
    if lookT t o.key = none ∧ t.length = 16 then (t, [], 5) else (setT t o.key o.value, (lookT t o.key).getD [], 0)
  else if o.kind = 3 then
    if lookT t o.key = none ∧ t.length = 16 then (t, [], 5)
    else if 64 < ((lookT t o.key).getD [] ++ o.value).length then (t, [], 2)
    else (setT t o.key ((lookT t o.key).getD [] ++ o.value), (lookT t o.key).getD [] ++ o.value, 0)
  else if lookT t o.key = none then (t, [], 6)
  else if o.kind = 4 then (delT t o.key, (lookT t o.key).getD [], 0)
  else if o.kind = 5 then
    if (lookT t o.key).getD [] ≠ o.old then (t, [], 7) else (setT t o.key o.value, (lookT t o.key).getD [], 0)
  else (t, (lookT t o.key).getD [], 0)
/-- what a table is -/
structure TabOk (t : Tab) : Prop where
  ord : Ord t
  few : t.length ≤ 16
  rows : ∀ r ∈ t, r.1 ≠ [] ∧ r.1.length ≤ 16 ∧ r.2.length ≤ 64
theorem tabOk_nil : TabOk [] := ⟨List.Pairwise.nil, by simp, by simp⟩
theorem setT_some {t : Tab} {k v u : Bytes} (h : lookT t k = some u) : setT t k v = t.set (aheadT k t) (k, v) := by unfold setT; rw [h]; rfl
theorem setT_none {t : Tab} {k v : Bytes} (h : lookT t k = none) : setT t k v = t.take (aheadT k t) ++ (k, v) :: t.drop (aheadT k t) := by unfold setT; rw [h]; rfl
theorem setT_length {t : Tab} {k v : Bytes} : (setT t k v).length = if (lookT t k).isSome = true then t.length else t.length + 1 := by
  unfold setT
  split
  · simp
  · have := ahead_le k t; simp; omega
theorem setT_ord {t : Tab} (ho : Ord t) (k v : Bytes) : Ord (setT t k v) := by
  unfold Ord
  have hp := List.pairwise_iff_getElem.1 ho
  have hl := ahead_le k t
  cases hk : lookT t k with
  | some u =>
    have hs := look_some hk
    obtain ⟨hlt, e⟩ := List.getElem?_eq_some_iff.1 hs
    rw [setT_some hk, List.pairwise_iff_getElem]
    intro i j hi hj hij
    simp only [List.length_set] at hi hj
    rw [List.getElem_set, List.getElem_set]
    split
    · rename_i e1
      rw [if_neg (by omega)]
      have := hp i j hi hj hij
      subst e1; rw [e] at this; exact this
    · split
      · rename_i e1
        have := hp i j hi hj hij
        subst e1; rw [e] at this; exact this
      · exact hp i j hi hj hij
  | none =>
    have hn := look_none hk
    rw [setT_none hk, List.pairwise_append]
    refine ⟨List.Pairwise.sublist (List.take_sublist _ _) ho, ?_, ?_⟩
    · rw [List.pairwise_cons]
      refine ⟨?_, List.Pairwise.sublist (List.drop_sublist _ _) ho⟩
      intro r hr
      obtain ⟨j, hj, rfl⟩ := List.getElem_of_mem hr
      rw [List.length_drop] at hj
      rw [List.getElem_drop]
      have h1 := ahead_ge (k := k) ho (j := aheadT k t + j) (by omega) (by omega)
      refine blt_total ?_ h1
      intro e
      cases j with
      | zero => exact hn _ (List.getElem?_eq_getElem (by omega)) e
      | succ j =>
        have a := hp (aheadT k t) (aheadT k t + (j + 1)) (by omega) (by omega) (by omega)
        rw [e] at a
        rw [ahead_ge ho (by omega) (Nat.le_refl _)] at a; cases a
    · intro r hr s hs
      obtain ⟨j, hj, rfl⟩ := List.getElem_of_mem hr
      rw [List.length_take] at hj
      rw [List.getElem_take]
      have h1 := ahead_lt (k := k) (t := t) (j := j) (by omega) (by omega)
      rcases List.mem_cons.1 hs with rfl | hs
      · exact h1
      · obtain ⟨i, hi, rfl⟩ := List.getElem_of_mem hs
        rw [List.length_drop] at hi
        rw [List.getElem_drop]
        exact hp j _ (by omega) (by omega) (by omega)
theorem setT_mem {t : Tab} {k v : Bytes} {r : Bytes × Bytes} (h : r ∈ setT t k v) : r = (k, v) ∨ r ∈ t := by
  unfold setT at h
  split at h
  · rcases List.mem_or_eq_of_mem_set h with h | h
    · exact .inr h
    · exact .inl h
  · rcases List.mem_append.1 h with h | h
    · exact .inr (List.mem_of_mem_take h)
    · rcases List.mem_cons.1 h with h | h
      · exact .inl h
      · exact .inr (List.mem_of_mem_drop h)
theorem delT_ord {t : Tab} (ho : Ord t) (k : Bytes) : Ord (delT t k) := by
  unfold delT Ord
  rw [List.pairwise_append]
  refine ⟨List.Pairwise.sublist (List.take_sublist _ _) ho, List.Pairwise.sublist (List.drop_sublist _ _) ho, ?_⟩
  have hp := List.pairwise_iff_getElem.1 ho
  intro r hr s hs
  obtain ⟨j, hj, rfl⟩ := List.getElem_of_mem hr
  obtain ⟨i, hi, rfl⟩ := List.getElem_of_mem hs
  rw [List.length_take] at hj
  rw [List.length_drop] at hi
  rw [List.getElem_take, List.getElem_drop]
  exact hp j _ (by omega) (by omega) (by omega)
theorem delT_mem {t : Tab} {k : Bytes} {r : Bytes × Bytes} (h : r ∈ delT t k) : r ∈ t := by
  rcases List.mem_append.1 h with h | h
  · exact List.mem_of_mem_take h
  · exact List.mem_of_mem_drop h
theorem checkT_zero {o : OpT} (h : checkT o = 0) : 1 ≤ o.kind ∧ o.kind ≤ 5 ∧ o.key ≠ [] ∧ o.key.length ≤ 16 ∧ o.value.length ≤ 64 ∧ o.old.length ≤ 64 ∧ (o.value ≠ [] → o.kind ≠ 1 ∧ o.kind ≠ 4) ∧ (o.old ≠ [] → o.kind = 5) := by
  unfold checkT at h
  split at h
  · cases h
  · rename_i h1
    split at h
    · cases h
    · rename_i h2
      split at h
      · cases h
      · rename_i h3
        refine ⟨by omega, by omega, fun e => h2 (.inl e), ?_, ?_, ?_, fun hv => ⟨fun e => h3 (.inl ⟨hv, .inl e⟩), fun e => h3 (.inl ⟨hv, .inr e⟩)⟩, fun hv => ?_⟩
        · exact Nat.le_of_not_lt fun hh => h2 (.inr (.inl hh))
        · exact Nat.le_of_not_lt fun hh => h2 (.inr (.inr (.inl hh)))
        · exact Nat.le_of_not_lt fun hh => h2 (.inr (.inr (.inr hh)))
        · by_cases e : o.kind = 5
          · exact e
          · exact absurd (.inr ⟨hv, e⟩) h3
theorem setT_ok {t : Tab} (h : TabOk t) {k v : Bytes} (hk : k ≠ []) (hkl : k.length ≤ 16) (hv : v.length ≤ 64) (hf : ¬ (lookT t k = none ∧ t.length = 16)) : TabOk (setT t k v) := by
  refine ⟨setT_ord h.ord k v, ?_, ?_⟩
  · rw [setT_length]
    have := h.few
    split
    · exact this
    · rename_i hn
      have : lookT t k = none := by cases hh : lookT t k <;> simp_all
      have : t.length ≠ 16 := fun e => hf ⟨this, e⟩
      omega
  · intro r hr
    rcases setT_mem hr with rfl | hr
    · exact ⟨hk, hkl, hv⟩
    · exact h.rows r hr
theorem delT_ok {t : Tab} (h : TabOk t) (k : Bytes) : TabOk (delT t k) := by
  refine ⟨delT_ord h.ord k, ?_, fun r hr => h.rows r (delT_mem hr)⟩
  have := h.few
  unfold delT
  simp
  omega
theorem look_len {t : Tab} (h : TabOk t) (k : Bytes) : ((lookT t k).getD []).length ≤ 64 := by
  cases hk : lookT t k with
  | none => simp
  | some v => exact (h.rows _ (List.mem_of_getElem? (look_some hk))).2.2
theorem doT_ok {t : Tab} (h : TabOk t) (o : OpT) : TabOk (doT t o).1 ∧ (doT t o).2.1.length ≤ 64 ∧ 0 ≤ (doT t o).2.2 ∧ (doT t o).2.2 ≤ 130 := by
  have hlk := look_len h o.key
  unfold doT
  by_cases hc : checkT o ≠ 0
  · rw [if_pos hc]
    refine ⟨h, by simp, ?_⟩
    unfold checkT; repeat' split
    all_goals simp
  rw [if_neg hc]
  have hc : checkT o = 0 := by simpa using hc
  obtain ⟨h1, h2, h3, h4, h5, h6, _, _⟩ := checkT_zero hc
  split
  · split
    · exact ⟨h, by simp, by simp, by simp⟩
    · exact ⟨setT_ok h h3 h4 h5 (by assumption), hlk, by simp, by simp⟩
  · split
    · split
      · exact ⟨h, by simp, by simp, by simp⟩
      · split
        · exact ⟨h, by simp, by simp, by simp⟩
        · exact ⟨setT_ok h h3 h4 (by omega) (by assumption), by simp only []; omega, by simp, by simp⟩
    · split
      · exact ⟨h, by simp, by simp, by simp⟩
      · rename_i hn
        split
        · exact ⟨delT_ok h _, hlk, by simp, by simp⟩
        · split
          · split
            · exact ⟨h, by simp, by simp, by simp⟩
            · exact ⟨setT_ok h h3 h4 h5 (fun hh => hn hh.1), hlk, by simp, by simp⟩
          · exact ⟨h, hlk, by simp, by simp⟩
/-- its text -/
def flatT (t : Tab) : List Bytes := t.flatMap fun r => [r.1, r.2]
def textT (t : Tab) : Bytes := pack (flatT t)
theorem flatT_length (t : Tab) : (flatT t).length = 2 * t.length := by
  unfold flatT; induction t with
  | nil => rfl
  | cons r t ih => rw [List.flatMap_cons, List.length_append, ih]; simp; omega
theorem flatT_append (a b : Tab) : flatT (a ++ b) = flatT a ++ flatT b := by simp [flatT]
theorem flatT_take (t : Tab) (j : Nat) : flatT (t.take j) = (flatT t).take (2 * j) := by
  unfold flatT
  induction t generalizing j with
  | nil => simp
  | cons r t ih =>
    cases j with
    | zero => simp
    | succ j => rw [List.take_succ_cons, List.flatMap_cons, List.flatMap_cons, ih, show 2 * (j + 1) = 2 * j + 2 by omega]; simp
/-- a row's being one -/
def rowB (k v : Bytes) : Bool := decide (k ≠ [] ∧ k.length ≤ 16 ∧ v.length ≤ 64)
theorem rowB_check (k v : Bytes) : rowB k v = decide (checkT ⟨2, k, v, []⟩ = 0) := by
  unfold rowB checkT
  by_cases h1 : k = []
  · simp [h1]
  · by_cases h2 : k.length ≤ 16
    · by_cases h3 : v.length ≤ 64
      · simp [h1, h2, h3, Nat.not_lt.2 h2, Nat.not_lt.2 h3]
      · simp [h1, h2, h3, Nat.lt_of_not_le h3]
    · simp [h1, h2, Nat.lt_of_not_le h2]
/-- the rows that a list of texts is, behind a key -/
def rowsF : Option Bytes → List Bytes → Option Tab
  | _, [] => some []
  | _, [_] => none
  | b, k :: v :: l => if rowB k v = true ∧ (∀ p, b = some p → blt p k = true) then (rowsF (some k) l).map ((k, v) :: ·) else none
def loadT (s : Bytes) : Option Tab :=
  match unpack s with
  | none => none
  | some l => if l.length % 2 ≠ 0 ∨ 32 < l.length then none else rowsF none l
theorem rowsF_some : ∀ (n : Nat) (l : List Bytes) (b : Option Bytes) (t : Tab), l.length ≤ n → rowsF b l = some t → flatT t = l ∧ Ord t ∧ (∀ r ∈ t, rowB r.1 r.2 = true) ∧ (∀ p, b = some p → ∀ r ∈ t, blt p r.1 = true) := by
  intro n
  induction n with
  | zero =>
    intro l b t hl h
    have : l = [] := List.eq_nil_of_length_eq_zero (by omega)
    subst this
    simp only [rowsF] at h; cases h
    exact ⟨rfl, List.Pairwise.nil, by simp, by simp⟩
  | succ n ih =>
    intro l b t hl h
    match l, h with
    | [], h => simp only [rowsF] at h; cases h; exact ⟨rfl, List.Pairwise.nil, by simp, by simp⟩
    | [_], h => simp only [rowsF] at h; cases h
    | k :: v :: l, h =>
      simp only [rowsF] at h
      split at h
      · rename_i hc
        cases hr : rowsF (some k) l with
        | none => rw [hr] at h; cases h
        | some u =>
          rw [hr] at h; cases h
          obtain ⟨a1, a2, a3, a4⟩ := ih l (some k) u (by simp at hl; omega) hr
          refine ⟨by simp [flatT] at a1 ⊢; exact a1, List.pairwise_cons.2 ⟨fun r hr => a4 k rfl r hr, a2⟩, ?_, ?_⟩
          · intro r hr
            rcases List.mem_cons.1 hr with rfl | hr
            · exact hc.1
            · exact a3 r hr
          · intro p hp r hr
            rcases List.mem_cons.1 hr with rfl | hr
            · exact hc.2 p hp
            · exact blt_trans (hc.2 p hp) (a4 k rfl r hr)
      · cases h
theorem rowsF_flat : ∀ (t : Tab) (b : Option Bytes), Ord t → (∀ r ∈ t, rowB r.1 r.2 = true) → (∀ p, b = some p → ∀ r ∈ t, blt p r.1 = true) → rowsF b (flatT t) = some t := by
  intro t
  induction t with
  | nil => intro b _ _ _; rfl
  | cons r t ih =>
    intro b ho hr hb
    obtain ⟨h1, h2⟩ := List.pairwise_cons.1 ho
    have e : flatT (r :: t) = r.1 :: r.2 :: flatT t := by simp [flatT]
    rw [e]
    simp only [rowsF]
    rw [if_pos ⟨hr r (by simp), fun p hp => hb p hp r (by simp)⟩, ih (some r.1) h2 (fun x hx => hr x (by simp [hx])) (fun p hp x hx => by cases hp; exact h1 x hx)]
    rfl
theorem rowB_true {k v : Bytes} : rowB k v = true ↔ k ≠ [] ∧ k.length ≤ 16 ∧ v.length ≤ 64 := by unfold rowB; simp
theorem loadT_some {s : Bytes} {t : Tab} (h : loadT s = some t) : textT t = s ∧ TabOk t := by
  unfold loadT at h
  split at h
  · cases h
  · rename_i l hl
    split at h
    · cases h
    · rename_i hn
      obtain ⟨a1, a2, a3, _⟩ := rowsF_some _ l none t (Nat.le_refl _) h
      have hlen := flatT_length t
      rw [a1] at hlen
      refine ⟨by unfold textT; rw [a1]; exact (unpack_some.1 hl).1, a2, by omega, fun r hr => rowB_true.1 (a3 r hr)⟩
theorem loadT_text {t : Tab} (h : TabOk t) : loadT (textT t) = some t := by
  have hl := flatT_length t
  have hf := h.few
  unfold loadT textT
  rw [unpack_pack _ (by
    intro s hs
    unfold flatT at hs
    rw [List.mem_flatMap] at hs
    obtain ⟨r, hr, hs⟩ := hs
    have := h.rows r hr
    simp at hs
    rcases hs with rfl | rfl <;> omega)]
  simp only []
  rw [if_neg (by omega)]
  exact rowsF_flat t none h.ord (fun r hr => rowB_true.2 (h.rows r hr)) (by simp)
end Go.Wap
