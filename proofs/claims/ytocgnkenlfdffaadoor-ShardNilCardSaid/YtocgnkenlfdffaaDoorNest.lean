/- The plain side of package nest: numbers and lists of texts as texts. -/
import Derived.Lib.ItoaNum
import Derived.Lib.AtoiAll
namespace Go.Wap
open Go
abbrev Bytes := List UInt8
def MinI : Int := -9223372036854775808
def MaxI : Int := 9223372036854775807
abbrev InI (n : Int) : Prop := -9223372036854775808 ≤ n ∧ n ≤ 9223372036854775807
def num (n : Int) : Bytes := Lib.itoa n
def toNum (l : Bytes) : Option Int :=
  match Lib.atoiAll l with
  | .ok v => if num v = l then some v else none
  | _ => none
/-- the digits' value -/
def dval (acc : Nat) (l : Bytes) : Nat := l.foldl (fun a c => a * 10 + (c.toNat - 48)) acc
def isD (c : UInt8) : Prop := 48 ≤ c.toNat ∧ c.toNat ≤ 57

theorem decDigits_small {u : Nat} (h : u < 10) : Lib.decDigits u = [UInt8.ofNat (48 + u)] := Lib.decDigits_one h
theorem decDigits_big {u : Nat} (h : ¬ u < 10) : Lib.decDigits u = Lib.decDigits (u / 10) ++ [UInt8.ofNat (48 + u % 10)] := by
  rw [Lib.decDigits, dif_neg h]
theorem dig_toNat {d : Nat} (h : d < 10) : (UInt8.ofNat (48 + d)).toNat = 48 + d := by
  simp only [UInt8.toNat_ofNat']; omega
theorem decDigits_isD (u : Nat) : ∀ c ∈ Lib.decDigits u, isD c := by
  induction u using Nat.strongRecOn with
  | _ u ih =>
    by_cases h : u < 10
    · rw [decDigits_small h]; intro c hc; rw [List.mem_singleton] at hc; subst hc
      unfold isD; rw [dig_toNat h]; omega
    · rw [decDigits_big h]; intro c hc
      rw [List.mem_append] at hc
      rcases hc with hc | hc
      · exact ih (u / 10) (by omega) c hc
      · rw [List.mem_singleton] at hc; subst hc; unfold isD; rw [dig_toNat (by omega)]; omega
theorem decDigits_ne (u : Nat) : Lib.decDigits u ≠ [] := by
  by_cases h : u < 10
  · rw [decDigits_small h]; simp
  · rw [decDigits_big h]; simp
theorem dval_snoc (a : Nat) (l : Bytes) (c : UInt8) : dval a (l ++ [c]) = dval a l * 10 + (c.toNat - 48) := by simp [dval]
theorem dval_dec (u : Nat) : dval 0 (Lib.decDigits u) = u := by
  induction u using Nat.strongRecOn with
  | _ u ih =>
    by_cases h : u < 10
    · rw [decDigits_small h]; simp only [dval, List.foldl]; rw [dig_toNat h]; omega
    · rw [decDigits_big h, dval_snoc, ih (u / 10) (by omega), dig_toNat (by omega)]; omega
theorem dval_mono (l : Bytes) : ∀ a, a ≤ dval a l := by
  induction l with
  | nil => intro a; exact Nat.le_refl _
  | cons c l ih => intro a; have := ih (a * 10 + (c.toNat - 48)); simp only [dval, List.foldl] at this ⊢; omega
theorem parse_dval (l : Bytes) (hd : ∀ c ∈ l, isD c) : ∀ a, dval a l < 18446744073709551616 → Lib.parseUint10 a l = .ok (dval a l) := by
  induction l with
  | nil => intro a _; rfl
  | cons c l ih =>
    intro a h
    have hc := hd c (by simp)
    unfold isD at hc
    have hm := dval_mono l (a * 10 + (c.toNat - 48))
    have e : dval a (c :: l) = dval (a * 10 + (c.toNat - 48)) l := rfl
    rw [e] at h ⊢
    simp only [Lib.parseUint10]
    rw [if_pos hc, if_neg (by omega), if_neg (by omega)]
    exact ih (fun c h => hd c (by simp [h])) _ h
theorem parseMag_dec (u : Nat) (h : u < 18446744073709551616) : Lib.parseMag (Lib.decDigits u) = .ok u := by
  unfold Lib.parseMag
  rw [if_neg (decDigits_ne u), parse_dval _ (decDigits_isD u) 0 (by rw [dval_dec]; exact h), dval_dec]
theorem atoi_itoa (n : Int) (h : InI n) : Lib.atoiAll (num n) = .ok n := by
  obtain ⟨h0, h1⟩ := h
  unfold num Lib.itoa
  by_cases hn : n < 0
  · rw [if_pos hn]
    simp only [Lib.atoiAll]
    rw [if_pos (by right; decide), parseMag_dec _ (by omega)]
    simp only []
    rw [if_neg (by intro h; exact h.1 (by decide)), if_neg (by omega), if_pos (by decide)]
    congr 1; omega
  · rw [if_neg hn]
    cases hc : Lib.decDigits n.toNat with
    | nil => exact absurd hc (decDigits_ne _)
    | cons c r =>
      have hd := decDigits_isD n.toNat c (by rw [hc]; simp)
      unfold isD at hd
      simp only [Lib.atoiAll]
      rw [if_neg (by omega), ← hc, parseMag_dec _ (by omega)]
      simp only []
      rw [if_neg (by omega), if_neg (by omega), if_neg (by omega)]
      congr 1; omega
theorem toNum_num (n : Int) (h : InI n) : toNum (num n) = some n := by
  unfold toNum; rw [atoi_itoa n h]; simp
theorem atoi_range {l : Bytes} {v : Int} (h : Lib.atoiAll l = .ok v) : InI v := by
  unfold Lib.atoiAll at h
  cases l with
  | nil => cases h
  | cons c r =>
    simp only [] at h
    split at h
    · cases h
    · cases h
    · split at h
      · cases h
      · split at h
        · cases h
        · injection h with h; subst h; constructor <;> split <;> omega
theorem toNum_some {l : Bytes} {v : Int} : toNum l = some v ↔ InI v ∧ num v = l := by
  constructor
  · intro h
    unfold toNum at h
    split at h
    · rename_i u hu
      split at h
      · cases h; exact ⟨atoi_range hu, by assumption⟩
      · cases h
    · cases h
  · rintro ⟨h, rfl⟩; exact toNum_num v h
theorem num_inj {a b : Int} (ha : InI a) (hb : InI b) (h : num a = num b) : a = b := by
  have := toNum_num a ha; rw [h, toNum_num b hb] at this; cases this; rfl
theorem toNum_range {l : Bytes} {v : Int} (h : toNum l = some v) : InI v := (toNum_some.1 h).1

/-- a list's text -/
def pack1 (s : Bytes) : Bytes := num s.length ++ 58 :: s ++ [44]
def pack (l : List Bytes) : Bytes := (l.map pack1).flatten
theorem pack_nil : pack [] = [] := rfl
theorem pack_cons (s : Bytes) (l : List Bytes) : pack (s :: l) = pack1 s ++ pack l := by simp [pack]
theorem pack_snoc (l : List Bytes) (s : Bytes) : pack (l ++ [s]) = pack l ++ pack1 s := by simp [pack]
theorem pack_append (a b : List Bytes) : pack (a ++ b) = pack a ++ pack b := by simp [pack]
/-- the first ':' parts a text -/
def cut : Bytes → Option (Bytes × Bytes)
  | [] => none
  | c :: l => if c = 58 then some ([], l) else (cut l).map fun p => (c :: p.1, p.2)
theorem cut_spec {s h r : Bytes} : cut s = some (h, r) ↔ s = h ++ 58 :: r ∧ 58 ∉ h := by
  induction s generalizing h with
  | nil => simp [cut]
  | cons c l ih =>
    simp only [cut]
    by_cases hc : c = 58
    · subst hc
      simp only [if_pos]
      constructor
      · intro e; cases e; simp
      · rintro ⟨e, hn⟩
        cases h with
        | nil => simp at e; simp [e]
        | cons a h => simp at e; exact absurd e.1 (by intro hh; subst hh; simp at hn)
    · rw [if_neg hc]
      constructor
      · intro e
        cases hl : cut l with
        | none => simp [hl] at e
        | some p =>
          simp [hl] at e
          obtain ⟨rfl, rfl⟩ := e
          have := (ih (h := p.1)).1 (by rw [hl])
          refine ⟨by simp [this.1], ?_⟩
          intro hm
          simp at hm
          rcases hm with hm | hm
          · exact hc hm.symm
          · exact this.2 hm
      · rintro ⟨e, hn⟩
        cases h with
        | nil => simp at e; exact absurd e.1 hc
        | cons a h =>
          simp at e
          obtain ⟨rfl, rfl⟩ := e
          rw [(ih (h := h)).2 ⟨rfl, fun hm => hn (by simp [hm])⟩]
          rfl
/-- the first text, and what is behind -/
def take1 (s : Bytes) : Option (Bytes × Bytes) :=
  match cut s with
  | none => none
  | some (h, r) =>
    match toNum h with
    | none => none
    | some n => if h.length ≤ 9 ∧ 0 ≤ n ∧ n < r.length ∧ r[n.toNat]? = some 44 then some (r.take n.toNat, r.drop (n.toNat + 1)) else none
theorem take1_len {s t r : Bytes} (h : take1 s = some (t, r)) : r.length < s.length := by
  unfold take1 at h
  split at h
  · cases h
  · rename_i hd rr hc
    split at h
    · cases h
    · split at h
      · rename_i n _ hcond
        cases h
        have := (cut_spec.1 hc).1
        rw [this]; simp; omega
      · cases h
def unpack (s : Bytes) : Option (List Bytes) :=
  if s = [] then some [] else
  match _h : take1 s with
  | none => none
  | some (t, r) => (unpack r).map (t :: ·)
termination_by s.length
decreasing_by exact take1_len _h
theorem unpack_nil : unpack [] = some [] := by rw [unpack]; simp
theorem unpack_step {s t r : Bytes} (h : take1 s = some (t, r)) : unpack s = (unpack r).map (t :: ·) := by
  have hs : s ≠ [] := by rintro rfl; simp [take1, cut] at h
  rw [unpack, if_neg hs]
  split
  · rename_i h'; rw [h] at h'; cases h'
  · rename_i h'; rw [h] at h'; cases h'; rfl
theorem unpack_none {s : Bytes} (hs : s ≠ []) (h : take1 s = none) : unpack s = none := by
  rw [unpack, if_neg hs]
  split
  · rfl
  · rename_i h'; rw [h] at h'; cases h'
theorem num_nocolon (n : Int) : (58 : UInt8) ∉ num n := by
  unfold num Lib.itoa
  have hd : ∀ u, (58 : UInt8) ∉ Lib.decDigits u := fun u hm => by
    have := decDigits_isD u _ hm; unfold isD at this; simp at this
  split
  · intro h; simp at h; exact hd _ h
  · exact hd _
theorem nDigits_le (k : Nat) : ∀ u, u < 10 ^ (k + 1) → Lib.nDigits u ≤ k + 1 := by
  induction k with
  | zero => intro u h; rw [Lib.nDigits_small (by omega)]; omega
  | succ k ih =>
    intro u h
    by_cases h1 : u < 10
    · rw [Lib.nDigits_small h1]; omega
    · rw [Lib.nDigits_big h1]
      have := ih (u / 10) (by rw [Nat.pow_succ] at h; omega)
      omega
theorem nDigits_ge (k : Nat) : ∀ u, 10 ^ k ≤ u → k + 1 ≤ Lib.nDigits u := by
  induction k with
  | zero => intro u _; have := Lib.nDigits_pos u; omega
  | succ k ih =>
    intro u h
    have h1 : ¬ u < 10 := by rw [Nat.pow_succ] at h; have := Nat.pow_pos (n := k) (show 0 < 10 by omega); omega
    rw [Lib.nDigits_big h1]
    have := ih (u / 10) (by rw [Nat.pow_succ] at h; omega)
    omega
theorem num_len_le (n : Nat) (h : n < 1000000000) : (num n).length ≤ 9 := by
  unfold num Lib.itoa
  rw [if_neg (by omega), Lib.decDigits_length]
  exact nDigits_le 8 _ (by simpa using h)
theorem num_len (n : Int) (h : InI n) : (num n).length ≤ 20 := by
  unfold num Lib.itoa
  split
  · rw [List.length_cons, Lib.decDigits_length]
    have := nDigits_le 18 n.natAbs (by omega)
    omega
  · rw [Lib.decDigits_length]
    have := nDigits_le 18 n.toNat (by omega)
    omega
theorem num_ne (n : Int) : num n ≠ [] := by
  unfold num Lib.itoa
  split
  · simp
  · exact decDigits_ne _
/-- what is packed is taken -/
theorem take1_pack (s r : Bytes) (h : s.length < 1000000000) : take1 (pack1 s ++ r) = some (s, r) := by
  unfold take1 pack1
  have e : num s.length ++ 58 :: s ++ [44] ++ r = num s.length ++ 58 :: (s ++ 44 :: r) := by simp
  rw [e, cut_spec.2 ⟨rfl, num_nocolon _⟩]
  simp only []
  rw [toNum_num _ ⟨by omega, by omega⟩]
  simp only []
  rw [if_pos ⟨num_len_le _ h, by omega, by simp; omega, by simp⟩]
  simp
theorem take1_some {s t r : Bytes} (h : take1 s = some (t, r)) : s = pack1 t ++ r ∧ t.length < 1000000000 := by
  unfold take1 at h
  split at h
  · cases h
  · rename_i hd rr hc
    split at h
    · cases h
    · rename_i n hn
      split at h
      · rename_i hcond
        obtain ⟨h9, h0, hl, hk⟩ := hcond
        cases h
        have e := (cut_spec.1 hc).1
        have e2 := (toNum_some.1 hn).2
        have hlen : (rr.take n.toNat).length = n.toNat := by simp; omega
        have hn2 : ((rr.take n.toNat).length : Int) = n := by rw [hlen]; omega
        refine ⟨?_, ?_⟩
        · unfold pack1
          rw [hn2, e2, e]
          have hr : rr = rr.take n.toNat ++ 44 :: rr.drop (n.toNat + 1) := by
            obtain ⟨hlt, hv⟩ := List.getElem?_eq_some_iff.1 hk
            conv => lhs; rw [← List.take_append_drop n.toNat rr]
            rw [List.drop_eq_getElem_cons hlt, hv]
          conv => lhs; rw [hr]
          simp
        · rw [hlen]
          by_cases hlt : n.toNat < 1000000000
          · exact hlt
          · exfalso
            have : 10 ≤ hd.length := by
              rw [← e2]; unfold num Lib.itoa
              rw [if_neg (by omega), Lib.decDigits_length]
              exact nDigits_ge 9 _ (by omega)
            omega
      · cases h
theorem unpack_pack (l : List Bytes) (h : ∀ s ∈ l, s.length < 1000000000) : unpack (pack l) = some l := by
  induction l with
  | nil => exact unpack_nil
  | cons s l ih =>
    rw [pack_cons, unpack_step (take1_pack s _ (h s (by simp))), ih (fun t ht => h t (by simp [ht]))]
    rfl
theorem pack_unpack : ∀ (n : Nat) (s : Bytes), s.length ≤ n → ∀ l, unpack s = some l → pack l = s ∧ ∀ t ∈ l, t.length < 1000000000 := by
  intro n
  induction n with
  | zero =>
    intro s hs l h
    have : s = [] := List.eq_nil_of_length_eq_zero (by omega)
    subst this
    rw [unpack_nil] at h; cases h
    exact ⟨rfl, by simp⟩
  | succ n ih =>
    intro s hs l h
    by_cases h0 : s = []
    · subst h0; rw [unpack_nil] at h; cases h; exact ⟨rfl, by simp⟩
    · cases ht : take1 s with
      | none => rw [unpack_none h0 ht] at h; cases h
      | some p =>
        obtain ⟨t, r⟩ := p
        rw [unpack_step ht] at h
        cases hu : unpack r with
        | none => rw [hu] at h; cases h
        | some m =>
          rw [hu] at h; cases h
          have hl := take1_len ht
          obtain ⟨h1, h2⟩ := ih r (by omega) m hu
          obtain ⟨h3, h4⟩ := take1_some ht
          refine ⟨by rw [pack_cons, h1]; exact h3.symm, ?_⟩
          intro x hx
          simp at hx
          rcases hx with rfl | hx
          · exact h4
          · exact h2 x hx
theorem unpack_some {s : Bytes} {l : List Bytes} : unpack s = some l ↔ pack l = s ∧ ∀ t ∈ l, t.length < 1000000000 :=
  ⟨fun h => pack_unpack _ s (Nat.le_refl _) l h, fun ⟨h, hl⟩ => by rw [← h]; exact unpack_pack l hl⟩
end Go.Wap
