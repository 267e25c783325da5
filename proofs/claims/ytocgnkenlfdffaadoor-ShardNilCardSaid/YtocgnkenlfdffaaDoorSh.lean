/- The plain side of package shard: a status, rows, what is known of clients. -/
import Derived.Test.YtocgnkenlfdffaaDoorTab
namespace Go.Wap
open Go
/-- a client's last number, its error, its answer -/
structure Cl where
  n : Int
  e : Int
  v : Bytes
abbrev cl0 : Cl := ⟨0, 0, []⟩
abbrev cls0 : List Cl := [cl0, cl0, cl0, cl0, cl0, cl0, cl0, cl0]
abbrev Big : Int := 1099511627776
structure Sh where
  st : Int
  tab : Tab
  cl : List Cl
abbrev sh0 : Sh := ⟨0, [], cls0⟩
/-- a client's operation: the shard behind it, the answer, whether it was done now, the error -/
def doS (h : Sh) (c n : Int) (o : OpT) : Sh × Cl × Bool × Int :=
  if c < 0 ∨ 8 ≤ c ∨ n < 1 ∨ Big < n then (h, cl0, false, 1)
  else if h.st ≠ 1 then (h, cl0, false, 7)
  else if n < (h.cl.getD c.toNat cl0).n then (h, cl0, false, 6)
  else if n = (h.cl.getD c.toNat cl0).n then (h, h.cl.getD c.toNat cl0, false, 0)
  else ({ h with tab := (doT h.tab o).1, cl := h.cl.set c.toNat ⟨n, (doT h.tab o).2.2, (doT h.tab o).2.1⟩ }, ⟨n, (doT h.tab o).2.2, (doT h.tab o).2.1⟩, true, 0)
/-- the clients that are known, as texts -/
def clL (i : Nat) : List Cl → List Bytes
  | [] => []
  | c :: l => (if 0 < c.n then [num i, num c.n, num c.e, c.v] else []) ++ clL (i + 1) l
def contS (t : Tab) (l : List Cl) : Bytes := pack (textT t :: clL 0 l)
def contentS (h : Sh) : Bytes := if h.st = 1 ∨ h.st = 2 then contS h.tab h.cl else []
def textS (h : Sh) : Bytes := pack [num h.st, contentS h]
/-- the clients that a list of texts is -/
def knownF : Int → List Cl → List Bytes → Option (List Cl)
  | _, out, [] => some out
  | b, out, x :: y :: z :: v :: l =>
    match toNum x, toNum y, toNum z with
    | some c, some n, some e => if c ≤ b ∨ 8 ≤ c ∨ n < 1 ∨ Big < n ∨ e < 0 ∨ 999 < e ∨ 64 < v.length then none else knownF c (out.set c.toNat ⟨n, e, v⟩) l
    | _, _, _ => none
  | _, _, _ => none
def fillS (s : Bytes) : Option (Tab × List Cl) :=
  match unpack s with
  | some (a :: l) => match loadT a, knownF (-1) cls0 l with
    | some t, some c => some (t, c)
    | _, _ => none
  | _ => none
def loadS (s : Bytes) : Option Sh :=
  match unpack s with
  | some [a, b] => match toNum a with
    | some n =>
      if n < 0 ∨ 3 < n then none
      else if n = 1 ∨ n = 2 then (fillS b).map fun p => ⟨n, p.1, p.2⟩
      else if b ≠ [] then none else some ⟨n, [], cls0⟩
    | none => none
  | _ => none
/-- what a client's record is -/
def ClOk (c : Cl) : Prop := c = cl0 ∨ (1 ≤ c.n ∧ c.n ≤ Big ∧ 0 ≤ c.e ∧ c.e ≤ 999 ∧ c.v.length ≤ 64)
structure ShOk (h : Sh) : Prop where
  st : 0 ≤ h.st ∧ h.st ≤ 3
  tab : TabOk h.tab
  eight : h.cl.length = 8
  cl : ∀ c ∈ h.cl, ClOk c
theorem shOk_new (n : Int) (h : 0 ≤ n ∧ n ≤ 3) : ShOk ⟨n, [], cls0⟩ := ⟨h, tabOk_nil, rfl, fun c hc => by simp at hc; exact .inl hc⟩
theorem clOk_range {c : Cl} (h : ClOk c) : 0 ≤ c.n ∧ c.n ≤ Big ∧ 0 ≤ c.e ∧ c.e ≤ 999 ∧ c.v.length ≤ 64 := by
  rcases h with rfl | h
  · simp
  · omega
theorem doS_ok {h : Sh} (ho : ShOk h) (c n : Int) (o : OpT) : ShOk (doS h c n o).1 := by
  unfold doS
  split
  · exact ho
  · rename_i hr
    split
    · exact ho
    · split
      · exact ho
      · split
        · exact ho
        · obtain ⟨d1, d2, d3, d4⟩ := doT_ok ho.tab o
          refine ⟨ho.st, d1, by simpa using ho.eight, fun x hx => ?_⟩
          rcases List.mem_or_eq_of_mem_set hx with hx | rfl
          · exact ho.cl x hx
          · refine .inr ⟨?_, ?_, d3, ?_, d2⟩ <;> simp only [] <;> omega
theorem knownF_len : ∀ (k : Nat) (l : List Bytes) (b : Int) (out cs : List Cl), l.length ≤ k → knownF b out l = some cs → cs.length = out.length := by
  intro k
  induction k with
  | zero =>
    intro l b out cs hl h
    have : l = [] := List.eq_nil_of_length_eq_zero (by omega)
    subst this
    rw [knownF] at h; cases h; rfl
  | succ k ih =>
    intro l b out cs hl h
    match l, h with
    | [], h => rw [knownF] at h; cases h; rfl
    | x :: y :: z :: v :: l, h =>
      rw [knownF] at h
      split at h
      · split at h
        · cases h
        · have := ih l _ _ cs (by simp at hl; omega) h
          simpa using this
      · cases h
    | [_], h => simp [knownF] at h
    | [_, _], h => simp [knownF] at h
    | [_, _, _], h => simp [knownF] at h
/-- clients from index i on are not known yet -/
def Fresh (i : Nat) (out : List Cl) : Prop := ∀ j, i ≤ j → out.getD j cl0 = cl0
theorem clL_fresh : ∀ (l : List Cl) (i : Nat), (∀ j, l.getD j cl0 = cl0) → clL i l = [] := by
  intro l
  induction l with
  | nil => intro i _; rfl
  | cons c l ih =>
    intro i h
    have h0 : c = cl0 := by have := h 0; simpa using this
    have ih' := ih (i + 1) (fun j => by have := h (j + 1); simpa using this)
    simp only [clL, ih', h0]
    simp
theorem clL_append : ∀ (a b : List Cl) (i : Nat), clL i (a ++ b) = clL i a ++ clL (i + a.length) b := by
  intro a
  induction a with
  | nil => intro b i; simp [clL]
  | cons c a ih => intro b i; simp only [List.cons_append, clL, ih, List.append_assoc, List.length_cons]; rw [show i + 1 + a.length = i + (a.length + 1) by omega]
/-- the texts of the first k clients -/
theorem clL_take_succ (l : List Cl) (k : Nat) (h : k < l.length) : clL 0 (l.take (k + 1)) = clL 0 (l.take k) ++ (if 0 < l[k].n then [num k, num l[k].n, num l[k].e, l[k].v] else []) := by
  rw [List.take_succ_eq_append_getElem h, clL_append]
  simp only [clL, List.append_nil, List.length_take, Nat.zero_add]
  rw [Nat.min_eq_left (by omega)]
theorem knownF_spec : ∀ (k : Nat) (l : List Bytes) (i : Nat) (out cs : List Cl), l.length ≤ k → out.length = 8 → Fresh i out → (∀ c ∈ out, ClOk c) → knownF (i - 1 : Int) out l = some cs →
    cs.length = 8 ∧ (∀ c ∈ cs, ClOk c) ∧ clL 0 cs = clL 0 (out.take i) ++ l := by
  intro k
  induction k with
  | zero =>
    intro l i out cs hl h8 hf hc h
    have : l = [] := List.eq_nil_of_length_eq_zero (by omega)
    subst this
    rw [knownF] at h; cases h
    refine ⟨h8, hc, ?_⟩
    conv => lhs; rw [← List.take_append_drop i out, clL_append, clL_fresh (out.drop i) _ (fun j => by have := hf (i + j) (by omega); simpa [List.getD] using this)]
  | succ k ih =>
    intro l i out cs hl h8 hf hc h
    match l, h with
    | [], h =>
      rw [knownF] at h; cases h
      refine ⟨h8, hc, ?_⟩
      conv => lhs; rw [← List.take_append_drop i out, clL_append, clL_fresh (out.drop i) _ (fun j => by have := hf (i + j) (by omega); simpa [List.getD] using this)]
    | [_], h => simp [knownF] at h
    | [_, _], h => simp [knownF] at h
    | [_, _, _], h => simp [knownF] at h
    | x :: y :: z :: v :: l, h =>
      rw [knownF] at h
      split at h
      · rename_i c n e hx hy hz
        split at h
        · cases h
        · rename_i hn
          have hn1 : (i : Int) - 1 < c ∧ c < 8 ∧ 1 ≤ n ∧ n ≤ Big ∧ 0 ≤ e ∧ e ≤ 999 ∧ v.length ≤ 64 := by
            refine ⟨?_, ?_, ?_, ?_, ?_, ?_, ?_⟩
            · exact Int.lt_of_not_ge fun hh => hn (.inl hh)
            · exact Int.lt_of_not_ge fun hh => hn (.inr (.inl hh))
            · exact Int.not_lt.1 fun hh => hn (.inr (.inr (.inl hh)))
            · exact Int.not_lt.1 fun hh => hn (.inr (.inr (.inr (.inl hh))))
            · exact Int.not_lt.1 fun hh => hn (.inr (.inr (.inr (.inr (.inl hh)))))
            · exact Int.not_lt.1 fun hh => hn (.inr (.inr (.inr (.inr (.inr (.inl hh))))))
            · exact Nat.le_of_not_lt fun hh => hn (.inr (.inr (.inr (.inr (.inr (.inr hh))))))
          obtain ⟨g1, g2, g3, g4, g5, g6, g7⟩ := hn1
          obtain ⟨j, rfl⟩ := Int.eq_ofNat_of_zero_le (show 0 ≤ c by omega)
          have hj : j < out.length := by omega
          simp only [Int.toNat_natCast] at h
          have ec : ((j + 1 : Nat) : Int) - 1 = (j : Int) := by omega
          rw [← ec] at h
          obtain ⟨a1, a2, a3⟩ := ih l (j + 1) (out.set j ⟨n, e, v⟩) cs (by simp at hl; omega) (by simpa using h8) (fun m hm => by
            have := hf m (by omega)
            rw [List.getD, List.getElem?_set_ne (by omega)]; exact this) (fun c hc' => by
            rcases List.mem_or_eq_of_mem_set hc' with hc' | rfl
            · exact hc c hc'
            · exact .inr ⟨g3, g4, g5, g6, g7⟩) h
          refine ⟨a1, a2, ?_⟩
          rw [a3, clL_take_succ _ j (by simpa using hj)]
          simp only [List.getElem_set_self]
          rw [if_pos (by omega), List.take_set_of_le (Nat.le_refl j)]
          have hmid : clL 0 (out.take j) = clL 0 (out.take i) := by
            have e1 : out.take j = out.take i ++ (out.drop i).take (j - i) := by
              have := List.take_add (l := out) (i := i) (j := j - i)
              rw [show i + (j - i) = j by omega] at this; exact this
            have hz : clL (0 + (out.take i).length) ((out.drop i).take (j - i)) = [] := clL_fresh _ _ (fun m => by
              by_cases hm : m < j - i
              · have := hf (i + m) (by omega)
                simpa [List.getD, List.getElem?_take, hm] using this
              · simp [List.getD, List.getElem?_take, hm])
            rw [e1, clL_append, hz, List.append_nil]
          rw [hmid, (toNum_some.1 hx).2, (toNum_some.1 hy).2, (toNum_some.1 hz).2]
          simp
      · cases h
theorem knownF_clL : ∀ (l : List Cl) (i : Nat) (out : List Cl) (b : Int), i + l.length = 8 → out.length = 8 → b < i → (∀ c ∈ l, ClOk c) → Fresh i out → knownF b out (clL i l) = some (out.take i ++ l) := by
  intro l
  induction l with
  | nil =>
    intro i out b h8 ho _ _ _
    simp only [clL, knownF]
    rw [List.take_of_length_le (by simp at h8; omega)]; simp
  | cons c l ih =>
    intro i out b h8 ho hb hc hf
    simp only [List.length_cons] at h8
    have hi : i < out.length := by omega
    rcases hc c (by simp) with rfl | ⟨g3, g4, g5, g6, g7⟩
    · have e : clL i (cl0 :: l) = clL (i + 1) l := by simp [clL]
      rw [e, ih (i + 1) out b (by omega) ho (by omega) (fun c h => hc c (by simp [h])) (fun j hj => hf j (by omega)), List.take_succ_eq_append_getElem hi]
      have := hf i (Nat.le_refl _)
      rw [List.getD, List.getElem?_eq_getElem hi] at this
      simp only [Option.getD_some] at this
      rw [this]; simp
    · have e : clL i (c :: l) = num i :: num c.n :: num c.e :: c.v :: clL (i + 1) l := by simp only [clL]; rw [if_pos (by omega)]; rfl
      rw [e, knownF, toNum_num i ⟨by omega, by omega⟩, toNum_num c.n ⟨by omega, by unfold Big at g4; omega⟩, toNum_num c.e ⟨by omega, by omega⟩]
      simp only []
      rw [if_neg (by omega)]
      simp only [Int.toNat_natCast]
      rw [ih (i + 1) (out.set i c) i (by omega) (by simpa using ho) (by omega) (fun c h => hc c (by simp [h])) (fun j hj => by
        have := hf j (by omega)
        rw [List.getD, List.getElem?_set_ne (by omega)]; exact this), List.take_succ_eq_append_getElem (by simpa using hi)]
      simp only [List.getElem_set_self]
      rw [List.take_set_of_le (Nat.le_refl i)]
      simp
theorem clL_bound : ∀ (l : List Cl) (i : Nat), (∀ c ∈ l, ClOk c) → i + l.length ≤ 8 → (∀ s ∈ clL i l, s.length ≤ 64) ∧ (clL i l).length ≤ 4 * l.length := by
  intro l
  induction l with
  | nil => intro i _ _; simp [clL]
  | cons c l ih =>
    intro i hc h8
    obtain ⟨a, b⟩ := ih (i + 1) (fun c h => hc c (by simp [h])) (by simp at h8; omega)
    have hr := clOk_range (hc c (by simp))
    simp only [clL, List.length_cons] at h8 ⊢
    constructor
    · intro s hs
      rcases List.mem_append.1 hs with hs | hs
      · split at hs
        · have n1 := num_len (i : Int) ⟨by omega, by omega⟩
          have n2 := num_len c.n ⟨by omega, by unfold Big at hr; omega⟩
          have n3 := num_len c.e ⟨by omega, by omega⟩
          simp at hs
          rcases hs with rfl | rfl | rfl | rfl <;> omega
        · simp at hs
      · exact a s hs
    · split <;> simp <;> omega
theorem pack1_len (s : Bytes) (h : s.length < 1000000000) : (pack1 s).length ≤ s.length + 11 := by
  unfold pack1
  have := num_len_le s.length h
  simp; omega
theorem pack_len_le : ∀ (l : List Bytes) (m : Nat), m < 1000000000 → (∀ s ∈ l, s.length ≤ m) → (pack l).length ≤ l.length * (m + 11) := by
  intro l
  induction l with
  | nil => intro m _ _; simp [pack]
  | cons s l ih =>
    intro m hm h
    have a := ih m hm (fun t ht => h t (by simp [ht]))
    have b := h s (by simp)
    have c := pack1_len s (by omega)
    rw [pack_cons]
    simp only [List.length_append, List.length_cons, Nat.add_mul, Nat.one_mul]
    omega
theorem textT_len {t : Tab} (h : TabOk t) : (textT t).length ≤ 2400 := by
  have hl := flatT_length t
  have hf := h.few
  have := pack_len_le (flatT t) 64 (by omega) (by
    intro s hs
    unfold flatT at hs
    rw [List.mem_flatMap] at hs
    obtain ⟨r, hr, hs⟩ := hs
    have := h.rows r hr
    simp at hs
    rcases hs with rfl | rfl <;> omega)
  unfold textT
  rw [hl] at this
  omega
theorem contS_parts {t : Tab} {l : List Cl} (ht : TabOk t) (h8 : l.length = 8) (hc : ∀ c ∈ l, ClOk c) : (∀ s ∈ textT t :: clL 0 l, s.length ≤ 2400) ∧ (textT t :: clL 0 l).length ≤ 33 ∧ (contS t l).length ≤ 5000 := by
  have a := textT_len ht
  obtain ⟨b, c⟩ := clL_bound l 0 hc (by omega)
  refine ⟨?_, by simp; omega, ?_⟩
  · intro s hs
    rcases List.mem_cons.1 hs with rfl | hs
    · exact a
    · have := b s hs; omega
  · unfold contS
    rw [pack_cons]
    have d := pack1_len (textT t) (by omega)
    have e := pack_len_le (clL 0 l) 64 (by omega) b
    have f : (clL 0 l).length * 75 ≤ 32 * 75 := Nat.mul_le_mul_right _ (by omega)
    simp only [List.length_append]
    omega
theorem fillS_contS {t : Tab} {l : List Cl} (ht : TabOk t) (h8 : l.length = 8) (hc : ∀ c ∈ l, ClOk c) : fillS (contS t l) = some (t, l) := by
  obtain ⟨a, _, _⟩ := contS_parts ht h8 hc
  unfold fillS contS
  rw [unpack_pack _ (fun s hs => by have := a s hs; omega)]
  simp only []
  rw [loadT_text ht, knownF_clL l 0 cls0 (-1) (by omega) rfl (by omega) hc (fun j _ => by
    match j with
    | 0 | 1 | 2 | 3 | 4 | 5 | 6 | 7 => rfl
    | j + 8 => rfl)]
  simp
theorem fillS_some {s : Bytes} {t : Tab} {l : List Cl} (h : fillS s = some (t, l)) : contS t l = s ∧ TabOk t ∧ l.length = 8 ∧ ∀ c ∈ l, ClOk c := by
  unfold fillS at h
  split at h
  · rename_i a r hu
    split at h
    · rename_i t' c' h1 h2
      cases h
      obtain ⟨e1, e2⟩ := loadT_some h1
      obtain ⟨k1, k2, k3⟩ := knownF_spec _ r 0 cls0 l (Nat.le_refl _) rfl (fun j _ => by
        match j with
        | 0 | 1 | 2 | 3 | 4 | 5 | 6 | 7 => rfl
        | j + 8 => rfl) (fun c hc => by simp at hc; exact .inl hc) h2
      refine ⟨?_, e2, k1, k2⟩
      unfold contS
      rw [e1, k3]
      exact (unpack_some.1 hu).1
    · cases h
  · cases h
theorem loadS_some {s : Bytes} {h : Sh} (hl : loadS s = some h) : textS h = s ∧ ShOk h := by
  unfold loadS at hl
  split at hl
  · rename_i a b hu
    have hp := (unpack_some.1 hu).1
    split at hl
    · rename_i n hn
      have hna := (toNum_some.1 hn).2
      split at hl
      · cases hl
      · split at hl
        · rename_i h12
          cases hf : fillS b with
          | none => rw [hf] at hl; cases hl
          | some p =>
            rw [hf] at hl; cases hl
            obtain ⟨e1, e2, e3, e4⟩ := fillS_some (t := p.1) (l := p.2) hf
            refine ⟨?_, ⟨by simp only []; omega, e2, e3, e4⟩⟩
            unfold textS contentS
            simp only []
            rw [if_pos h12, e1, hna]; exact hp
        · split at hl
          · cases hl
          · rename_i hb
            cases hl
            refine ⟨?_, shOk_new n (by omega)⟩
            unfold textS contentS
            simp only []
            have hb : b = [] := by simpa using hb
            rw [if_neg (by assumption), hna, ← hb]; exact hp
    · cases hl
  · cases hl
theorem contentS_len {h : Sh} (ho : ShOk h) : (contentS h).length ≤ 5000 := by
  unfold contentS
  split
  · exact (contS_parts ho.tab ho.eight ho.cl).2.2
  · simp
theorem textS_len {h : Sh} (ho : ShOk h) : (textS h).length ≤ 5100 := by
  have a := contentS_len ho
  have b := pack1_len (contentS h) (by omega)
  have c := num_len h.st ⟨by have := ho.st; omega, by have := ho.st; omega⟩
  have d := pack1_len (num h.st) (by omega)
  unfold textS
  rw [pack_cons, pack_cons, pack_nil]
  simp only [List.length_append, List.length_nil]
  omega
end Go.Wap
