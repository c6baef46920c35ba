/- Plain facts on orders: what an order is, one after another, the inverse, a space in another order. Conditions: as each theorem says. -/
import Derived.Test.YtknnelenmedonaaFar
namespace Go.Proofs.Ytknnelenmedonaa
set_option linter.unusedVariables false
set_option linter.unusedSimpArgs false
open Go.RowKit Go.Deep

/-- A row has each number from 0 on and less than its length once. -/
structure OrdP (o : List Int) : Prop where
  one : 1 ≤ o.length
  six : o.length ≤ 6
  bd : ∀ i, i < o.length → 0 ≤ iat o i ∧ iat o i < o.length
  ne : ∀ i j, j < i → i < o.length → iat o j ≠ iat o i
/-- The place that stands at i. -/
def pl (o : List Int) (i : Nat) : Nat := (iat o i).toNat
theorem OrdP.pl {o : List Int} (h : OrdP o) {i : Nat} (hi : i < o.length) : Go.Proofs.Ytknnelenmedonaa.pl o i < o.length := by have := h.bd i hi; unfold Go.Proofs.Ytknnelenmedonaa.pl; omega
theorem OrdP.cast {o : List Int} (h : OrdP o) {i : Nat} (hi : i < o.length) : ((Go.Proofs.Ytknnelenmedonaa.pl o i : Nat) : Int) = iat o i := by have := h.bd i hi; unfold Go.Proofs.Ytknnelenmedonaa.pl; omega
theorem OrdP.inj {o : List Int} (h : OrdP o) {i j : Nat} (hi : i < o.length) (hj : j < o.length) (e : Go.Proofs.Ytknnelenmedonaa.pl o i = Go.Proofs.Ytknnelenmedonaa.pl o j) : i = j := by
  have h1 := h.cast hi
  have h2 := h.cast hj
  rw [e] at h1
  by_cases a : i < j
  · exact absurd (h1.symm.trans h2) (h.ne j i a hj)
  · by_cases b : j < i
    · exact absurd (h2.symm.trans h1) (h.ne i j b hi)
    · omega

theorem nodup_len_le : ∀ (l m : List Nat), l.Nodup → (∀ x, x ∈ l → x ∈ m) → l.length ≤ m.length := by
  intro l
  induction l with
  | nil => intro m _ _; exact Nat.zero_le _
  | cons a l ih =>
    intro m hn hs
    have ha : a ∈ m := hs a (by simp)
    have hn' := List.nodup_cons.1 hn
    have h1 := ih (m.erase a) hn'.2 fun x hx => (List.mem_erase_of_ne (fun e => hn'.1 (by rw [← e]; exact hx))).2 (hs x (by simp [hx]))
    have h2 := List.length_erase_of_mem ha
    have h3 : 0 < m.length := List.length_pos_of_mem ha
    simp only [List.length_cons]
    omega
/-- Each number is met. -/
theorem OrdP.onto {o : List Int} (h : OrdP o) {x : Nat} (hx : x < o.length) : ∃ i, i < o.length ∧ Go.Proofs.Ytknnelenmedonaa.pl o i = x := by
  by_cases hex : ∃ i, i < o.length ∧ Go.Proofs.Ytknnelenmedonaa.pl o i = x
  · exact hex
  · exfalso
    have hl := nodup_len_le ((List.range o.length).map (Go.Proofs.Ytknnelenmedonaa.pl o)) ((List.range o.length).erase x) (by
      unfold List.Nodup
      rw [List.pairwise_map]
      refine List.Pairwise.imp_of_mem ?_ (List.nodup_range (n := o.length))
      intro a b ha hb hne e
      exact hne (h.inj (List.mem_range.1 ha) (List.mem_range.1 hb) e)) (by
      intro y hy
      obtain ⟨i, hi, rfl⟩ := List.mem_map.1 hy
      have hi := List.mem_range.1 hi
      refine (List.mem_erase_of_ne fun e => hex ⟨i, hi, e⟩).2 (List.mem_range.2 (h.pl hi)))
    rw [List.length_erase_of_mem (List.mem_range.2 hx)] at hl
    simp at hl
    omega

/-- One order after another. -/
def cmpO (p q : List Int) : List Int := genL (fun m => iat p (pl q m)) q.length
theorem cmpO_length (p q : List Int) : (cmpO p q).length = q.length := genL_length _ _
theorem iat_cmpO {p q : List Int} {m : Nat} (h : m < q.length) : iat (cmpO p q) m = iat p (pl q m) := iat_genL h
theorem pl_cmpO {p q : List Int} {m : Nat} (h : m < q.length) : pl (cmpO p q) m = pl p (pl q m) := by unfold pl; rw [iat_cmpO h]; rfl
theorem ord_cmp {p q : List Int} (hp : OrdP p) (hq : OrdP q) (hl : p.length = q.length) : OrdP (cmpO p q) := by
  refine ⟨by rw [cmpO_length]; exact hq.one, by rw [cmpO_length]; exact hq.six, fun i hi => ?_, fun i j hj hi => ?_⟩
  · rw [cmpO_length] at hi ⊢
    rw [iat_cmpO hi, ← hl]
    exact hp.bd _ (by rw [hl]; exact hq.pl hi)
  · rw [cmpO_length] at hi
    rw [iat_cmpO hi, iat_cmpO (by omega)]
    intro e
    have := hp.inj (i := pl q j) (j := pl q i) (by rw [hl]; exact hq.pl (by omega)) (by rw [hl]; exact hq.pl hi) (by unfold pl at e ⊢; rw [e])
    have := hq.inj (by omega) hi this
    omega
/-- All stand where they are. -/
def ownO (n : Nat) : List Int := genL (fun k => (k : Int)) n
theorem ownO_length (n : Nat) : (ownO n).length = n := genL_length _ _
theorem iat_ownO {n i : Nat} (h : i < n) : iat (ownO n) i = i := iat_genL h
theorem pl_ownO {n i : Nat} (h : i < n) : pl (ownO n) i = i := by unfold pl; rw [iat_ownO h]; rfl
theorem ord_own {n : Nat} (h1 : 1 ≤ n) (h6 : n ≤ 6) : OrdP (ownO n) := by
  refine ⟨by rw [ownO_length]; exact h1, by rw [ownO_length]; exact h6, fun i hi => ?_, fun i j hj hi => ?_⟩
  · rw [ownO_length] at hi ⊢
    rw [iat_ownO hi]; omega
  · rw [ownO_length] at hi
    rw [iat_ownO hi, iat_ownO (by omega)]; omega
theorem cmp_own {p : List Int} (hp : OrdP p) : cmpO (ownO p.length) p = p := ext_iat (cmpO_length _ _) fun i hi => by
  rw [cmpO_length] at hi
  rw [iat_cmpO hi, iat_ownO (hp.pl hi), hp.cast hi]
theorem own_cmp {p : List Int} : cmpO p (ownO p.length) = p := ext_iat (by rw [cmpO_length, ownO_length]) fun i hi => by
  rw [cmpO_length, ownO_length] at hi
  rw [iat_cmpO (by rw [ownO_length]; exact hi), pl_ownO hi]
theorem cmp_assoc {p q r : List Int} (hq : r.length = q.length) (hr : OrdP r) : cmpO (cmpO p q) r = cmpO p (cmpO q r) := ext_iat (by simp only [cmpO_length]) fun i hi => by
  rw [cmpO_length] at hi
  rw [iat_cmpO hi, iat_cmpO (by rw [← hq]; exact hr.pl hi), iat_cmpO (by rw [cmpO_length]; exact hi), pl_cmpO hi]
/-- The inverse. -/
theorem ord_inv {p : List Int} (hp : OrdP p) : ∃ r, OrdP r ∧ r.length = p.length ∧ cmpO p r = ownO p.length ∧ cmpO r p = ownO p.length := by
  have hex : ∀ x : Nat, ∃ i, x < p.length → i < p.length ∧ pl p i = x := fun x => by
    by_cases hx : x < p.length
    · obtain ⟨i, hi, e⟩ := hp.onto hx
      exact ⟨i, fun _ => ⟨hi, e⟩⟩
    · exact ⟨0, fun h => absurd h hx⟩
  obtain ⟨R, hR⟩ := Classical.skolem.1 hex
  have hpl : ∀ x, x < p.length → pl (genL (fun x => (R x : Int)) p.length) x = R x := fun x hx => by unfold pl; rw [iat_genL hx]; rfl
  have hpr : cmpO p (genL (fun x => (R x : Int)) p.length) = ownO p.length := ext_iat (by rw [cmpO_length, genL_length, ownO_length]) fun i hi => by
    rw [cmpO_length, genL_length] at hi
    have := hR i hi
    rw [iat_cmpO (by rw [genL_length]; exact hi), iat_ownO hi, hpl i hi, ← hp.cast this.1, this.2]
  refine ⟨genL (fun x => (R x : Int)) p.length, ⟨by rw [genL_length]; exact hp.one, by rw [genL_length]; exact hp.six, fun i hi => ?_, fun i j hj hi => ?_⟩, genL_length _ _, hpr, ?_⟩
  · rw [genL_length] at hi ⊢
    rw [iat_genL hi]
    have := (hR i hi).1
    omega
  · rw [genL_length] at hi
    rw [iat_genL hi, iat_genL (show j < p.length by omega)]
    intro e
    have e : R j = R i := by omega
    have h1 := (hR i hi).2
    have h2 := (hR j (by omega)).2
    rw [e] at h2
    omega
  · refine ext_iat (by rw [cmpO_length, ownO_length]) fun i hi => ?_
    rw [cmpO_length] at hi
    have h1 := hR _ (hp.pl hi)
    rw [iat_cmpO hi, iat_genL (hp.pl hi), iat_ownO hi, hp.inj h1.1 hi h1.2]

/-- A space in another order. -/
def genM (F : Nat → List Int) (k : Nat) : List (List Int) := (List.range k).map F
theorem genM_length (F : Nat → List Int) (k : Nat) : (genM F k).length = k := by simp [genM]
theorem row_genM {F : Nat → List Int} {k i : Nat} (h : i < k) : row (genM F k) i = F i := by simp [genM, row, h]
theorem genM_succ (F : Nat → List Int) (k : Nat) : genM F (k + 1) = genM F k ++ [F k] := by simp [genM, List.range_succ]
def ordR (d : List (List Int)) (o : List Int) (i : Nat) : List Int := genL (fun k => at2 d (pl o i) (pl o k)) o.length
def ordL (d : List (List Int)) (o : List Int) : List (List Int) := genM (ordR d o) o.length
theorem ordL_length (d : List (List Int)) (o : List Int) : (ordL d o).length = o.length := genM_length _ _
theorem row_ordL {d : List (List Int)} {o : List Int} {i : Nat} (h : i < o.length) : row (ordL d o) i = ordR d o i := row_genM h
theorem ordR_length (d : List (List Int)) (o : List Int) (i : Nat) : (ordR d o i).length = o.length := genL_length _ _
theorem at2_ordL {d : List (List Int)} {o : List Int} {i k : Nat} (hi : i < o.length) (hk : k < o.length) : at2 (ordL d o) i k = at2 d (pl o i) (pl o k) := by
  unfold at2
  rw [row_ordL hi]
  exact iat_genL hk
/-- Two spaces are equal if their distances are. -/
theorem ext_sq {a b : List (List Int)} {n : Nat} (ha : a.length = n) (hb : b.length = n) (ra : ∀ i, i < n → (row a i).length = n) (rb : ∀ i, i < n → (row b i).length = n) (h : ∀ i k, i < n → k < n → at2 a i k = at2 b i k) : a = b :=
  ext_row (by omega) fun i hi => ext_iat (by rw [ra i (by omega), rb i (by omega)]) fun k hk => h i k (by omega) (by rw [ra i (by omega)] at hk; exact hk)
theorem sq_ordL {d : List (List Int)} {o : List Int} {i : Nat} (h : i < o.length) : (row (ordL d o) i).length = o.length := by rw [row_ordL h, ordR_length]
theorem ordL_own {d : List (List Int)} (hs : ∀ i, i < d.length → (row d i).length = d.length) : ordL d (ownO d.length) = d :=
  ext_sq (n := d.length) (by rw [ordL_length, ownO_length]) rfl (fun i hi => by rw [sq_ordL (by rw [ownO_length]; exact hi), ownO_length]) hs fun i k hi hk => by
    rw [at2_ordL (by rw [ownO_length]; exact hi) (by rw [ownO_length]; exact hk), pl_ownO hi, pl_ownO hk]
theorem ordL_cmp {d : List (List Int)} {p q : List Int} (hq : OrdP q) (hl : p.length = q.length) : ordL d (cmpO p q) = ordL (ordL d p) q :=
  ext_sq (n := q.length) (by rw [ordL_length, cmpO_length]) (ordL_length _ _) (fun i hi => by rw [sq_ordL (by rw [cmpO_length]; exact hi), cmpO_length]) (fun i hi => sq_ordL hi) fun i k hi hk => by
    rw [at2_ordL (by rw [cmpO_length]; exact hi) (by rw [cmpO_length]; exact hk), pl_cmpO hi, pl_cmpO hk, at2_ordL hi hk, at2_ordL (by rw [hl]; exact hq.pl hi) (by rw [hl]; exact hq.pl hk)]
theorem space_ordL {d : List (List Int)} {o : List Int} (h : Space d) (ho : OrdP o) (hl : o.length = d.length) : Space (ordL d o) := by
  have hp : ∀ i, i < o.length → pl o i < d.length := fun i hi => by rw [← hl]; exact ho.pl hi
  refine ⟨⟨by rw [ordL_length]; exact ho.one, by rw [ordL_length]; exact ho.six, fun i hi => ?_, fun i k hi hk => ?_⟩, fun i j k hi hj hk => ?_⟩
  · rw [ordL_length] at hi ⊢
    exact sq_ordL hi
  · rw [ordL_length] at hi hk
    have h1 := h.ent _ _ (hp i hi) (hp k hk)
    unfold Ent at h1 ⊢
    rw [at2_ordL hi hk, at2_ordL hk hi]
    exact ⟨h1.1, h1.2.1, h1.2.2.1, fun e => ho.inj hi hk (h1.2.2.2.1 e), fun e => h1.2.2.2.2 (by rw [e])⟩
  · rw [ordL_length] at hi hj hk
    rw [at2_ordL hi hk, at2_ordL hi hj, at2_ordL hj hk]
    exact h.tri _ _ _ (hp i hi) (hp j hj) (hp k hk)

/-- Numbers put behind a row, those that it does not have. -/
def extX (l : List Int) : Nat → List (List Int)
  | 0 => []
  | x + 1 => extX l x ++ (if (x : Int) ∈ l then [] else [l ++ [(x : Int)]])
def extL (L : List (List Int)) (n : Nat) : Nat → List (List Int)
  | 0 => []
  | j + 1 => extL L n j ++ extX (row L j) n
/-- All rows of k different numbers below n, in order. -/
def ordK (n : Nat) : Nat → List (List Int)
  | 0 => [[]]
  | k + 1 => extL (ordK n k) n (ordK n k).length
theorem extX_len (l : List Int) (x : Nat) : (extX l x).length ≤ x := by
  induction x with
  | zero => exact Nat.le_refl _
  | succ x ih =>
    simp only [extX, List.length_append]
    split <;> simp <;> omega
theorem extL_len (L : List (List Int)) (n j : Nat) : (extL L n j).length ≤ j * n := by
  induction j with
  | zero => simp [extL]
  | succ j ih =>
    simp only [extL, List.length_append]
    have := extX_len (row L j) n
    rw [Nat.succ_mul]
    omega
theorem extX_mem {l r : List Int} {x : Nat} : r ∈ extX l x ↔ ∃ y : Nat, y < x ∧ (y : Int) ∉ l ∧ r = l ++ [(y : Int)] := by
  induction x with
  | zero => simp [extX]
  | succ x ih =>
    simp only [extX, List.mem_append, ih]
    constructor
    · rintro (⟨y, hy, h⟩ | h)
      · exact ⟨y, by omega, h⟩
      · split at h
        · simp at h
        · rename_i hx
          simp at h
          exact ⟨x, by omega, hx, h⟩
    · rintro ⟨y, hy, h1, h2⟩
      by_cases e : y < x
      · exact Or.inl ⟨y, e, h1, h2⟩
      · have : y = x := by omega
        subst this
        refine Or.inr ?_
        rw [if_neg h1]
        simp [h2]
theorem extL_mem {L : List (List Int)} {n j : Nat} {r : List Int} : r ∈ extL L n j ↔ ∃ i, i < j ∧ r ∈ extX (row L i) n := by
  induction j with
  | zero => simp [extL]
  | succ j ih =>
    simp only [extL, List.mem_append, ih]
    constructor
    · rintro (⟨i, hi, h⟩ | h)
      · exact ⟨i, by omega, h⟩
      · exact ⟨j, by omega, h⟩
    · rintro ⟨i, hi, h⟩
      by_cases e : i < j
      · exact Or.inl ⟨i, e, h⟩
      · have : i = j := by omega
        subst this
        exact Or.inr h
theorem row_mem {L : List (List Int)} {j : Nat} (h : j < L.length) : row L j ∈ L := by
  have : row L j = L[j] := by simp [row, h]
  rw [this]; exact List.getElem_mem h
theorem mem_row {L : List (List Int)} {r : List Int} (h : r ∈ L) : ∃ j, j < L.length ∧ row L j = r := by
  obtain ⟨j, hj, e⟩ := List.getElem_of_mem h
  exact ⟨j, hj, by simp [row, hj, e]⟩
theorem ordK_mem {n k : Nat} {r : List Int} : r ∈ ordK n (k + 1) ↔ ∃ l, l ∈ ordK n k ∧ ∃ y : Nat, y < n ∧ (y : Int) ∉ l ∧ r = l ++ [(y : Int)] := by
  show r ∈ extL (ordK n k) n (ordK n k).length ↔ _
  rw [extL_mem]
  constructor
  · rintro ⟨i, hi, h⟩
    exact ⟨_, row_mem hi, extX_mem.1 h⟩
  · rintro ⟨l, hl, h⟩
    obtain ⟨i, hi, e⟩ := mem_row hl
    exact ⟨i, hi, by rw [e]; exact extX_mem.2 h⟩
theorem ordK_len {n k : Nat} {r : List Int} (h : r ∈ ordK n k) : r.length = k := by
  induction k generalizing r with
  | zero => simp [ordK] at h; subst h; rfl
  | succ k ih =>
    obtain ⟨l, hl, y, hy, _, rfl⟩ := ordK_mem.1 h
    simp [ih hl]
/-- Rows of different numbers below n. -/
theorem ordK_iff {n k : Nat} {r : List Int} : r ∈ ordK n k ↔ r.length = k ∧ (∀ x, x ∈ r → 0 ≤ x ∧ x < (n : Int)) ∧ r.Nodup := by
  induction k generalizing r with
  | zero =>
    simp only [ordK, List.mem_singleton]
    constructor
    · rintro rfl; exact ⟨rfl, by simp, List.nodup_nil⟩
    · rintro ⟨h, _⟩; exact List.eq_nil_of_length_eq_zero h
  | succ k ih =>
    rw [ordK_mem]
    constructor
    · rintro ⟨l, hl, y, hy, hn, rfl⟩
      obtain ⟨h1, h2, h3⟩ := ih.1 hl
      refine ⟨by simp [h1], fun x hx => ?_, ?_⟩
      · rcases List.mem_append.1 hx with h | h
        · exact h2 x h
        · simp at h; omega
      · rw [List.nodup_append]
        refine ⟨h3, by simp, fun a ha b hb => ?_⟩
        simp at hb
        subst hb
        exact fun e => hn (by rw [← e]; exact ha)
    · rintro ⟨h1, h2, h3⟩
      have hne : r ≠ [] := fun e => by subst e; simp at h1
      have hsp := List.dropLast_concat_getLast hne
      have hm := h2 (r.getLast hne) (List.getLast_mem hne)
      refine ⟨r.dropLast, ih.2 ⟨by simp [h1], fun x hx => h2 x (List.dropLast_subset _ hx), ?_⟩, (r.getLast hne).toNat, by omega, ?_, ?_⟩
      · rw [← hsp] at h3
        exact (List.nodup_append.1 h3).1
      · rw [← hsp] at h3
        intro hx
        have e : ((r.getLast hne).toNat : Int) = r.getLast hne := by omega
        rw [e] at hx
        exact (List.nodup_append.1 h3).2.2 _ hx _ (by simp) rfl
      · have e : ((r.getLast hne).toNat : Int) = r.getLast hne := by omega
        rw [e]; exact hsp.symm
theorem mem_iat {o : List Int} {x : Int} : x ∈ o ↔ ∃ i, i < o.length ∧ iat o i = x := by
  constructor
  · intro h
    obtain ⟨i, hi, e⟩ := List.getElem_of_mem h
    exact ⟨i, hi, by simp [iat, hi, e]⟩
  · rintro ⟨i, hi, e⟩
    rw [← e]
    have : iat o i = o[i] := by simp [iat, hi]
    rw [this]; exact List.getElem_mem hi
theorem ordP_nodup {o : List Int} : o.Nodup ↔ ∀ i j, j < i → i < o.length → iat o j ≠ iat o i := by
  unfold List.Nodup
  rw [List.pairwise_iff_getElem]
  constructor
  · intro h i j hj hi
    have := h j i (by omega) hi hj
    simpa [iat, hi, show j < o.length by omega] using this
  · intro h i j hi hj hij
    have := h j i hij hj
    simpa [iat, hi, hj] using this
/-- All orders of n points. -/
theorem ordK_ord {n : Nat} (h1 : 1 ≤ n) (h6 : n ≤ 6) {o : List Int} : o ∈ ordK n n ↔ OrdP o ∧ o.length = n := by
  rw [ordK_iff, ordP_nodup]
  constructor
  · rintro ⟨a, b, c⟩
    exact ⟨⟨by omega, by omega, fun i hi => by have := b _ (mem_iat.2 ⟨i, hi, rfl⟩); omega, c⟩, a⟩
  · rintro ⟨h, a⟩
    exact ⟨a, fun x hx => by
      obtain ⟨i, hi, rfl⟩ := mem_iat.1 hx
      have := h.bd i hi; omega, h.ne⟩
theorem ordK_nodup (n : Nat) : ∀ k, (ordK n k).Nodup := by
  intro k
  induction k with
  | zero => simp [ordK]
  | succ k ih =>
    show (extL (ordK n k) n (ordK n k).length).Nodup
    have hX : ∀ (l : List Int) (x : Nat), (extX l x).Nodup := by
      intro l x
      induction x with
      | zero => simp [extX]
      | succ x ihx =>
        simp only [extX]
        rw [List.nodup_append]
        refine ⟨ihx, by split <;> simp, fun a ha b hb => ?_⟩
        obtain ⟨y, hy, _, rfl⟩ := extX_mem.1 ha
        split at hb
        · simp at hb
        · simp at hb
          subst hb
          intro e
          have := List.append_cancel_left e
          simp at this
          omega
    have hne : ∀ i j, i < (ordK n k).length → j < (ordK n k).length → i ≠ j → row (ordK n k) i ≠ row (ordK n k) j := by
      intro i j hi hj hij e
      have h1 : row (ordK n k) i = (ordK n k)[i] := by simp [row, hi]
      have h2 : row (ordK n k) j = (ordK n k)[j] := by simp [row, hj]
      rw [h1, h2] at e
      exact hij ((List.getElem_inj ih).1 e)
    have key : ∀ j, j ≤ (ordK n k).length → (extL (ordK n k) n j).Nodup := by
      intro j
      induction j with
      | zero => intro _; simp [extL]
      | succ j ihj =>
        intro hj
        simp only [extL]
        rw [List.nodup_append]
        refine ⟨ihj (by omega), hX _ _, fun a ha b hb e => ?_⟩
        subst e
        obtain ⟨i, hi, ha⟩ := extL_mem.1 ha
        obtain ⟨y, _, _, e1⟩ := extX_mem.1 ha
        obtain ⟨z, _, _, e2⟩ := extX_mem.1 hb
        have := (List.append_inj' (e1.symm.trans e2) rfl).1
        exact hne i j (by omega) (by omega) (by omega) this
    exact key _ (Nat.le_refl _)
theorem ordK_bound {n k : Nat} (h5 : n ≤ 5) (hk : k ≤ 5) : (ordK n k).length ≤ 3125 := by
  have step : ∀ k, (ordK n (k + 1)).length ≤ (ordK n k).length * 5 := fun k => by
    have := extL_len (ordK n k) n (ordK n k).length
    show (extL _ _ _).length ≤ _
    exact Nat.le_trans this (Nat.mul_le_mul_left _ h5)
  have h0 : (ordK n 0).length = 1 := rfl
  have h1 : (ordK n 1).length ≤ (ordK n 0).length * 5 := step 0
  have h2 : (ordK n 2).length ≤ (ordK n 1).length * 5 := step 1
  have h3 : (ordK n 3).length ≤ (ordK n 2).length * 5 := step 2
  have h4 : (ordK n 4).length ≤ (ordK n 3).length * 5 := step 3
  have h5 : (ordK n 5).length ≤ (ordK n 4).length * 5 := step 4
  have : k = 0 ∨ k = 1 ∨ k = 2 ∨ k = 3 ∨ k = 4 ∨ k = 5 := by omega
  rcases this with rfl | rfl | rfl | rfl | rfl | rfl <;> omega
/-- The first order: all stand where they are. -/
theorem ordK_first {n : Nat} (h1 : 1 ≤ n) (h5 : n ≤ 5) : 1 ≤ (ordK n n).length ∧ row (ordK n n) 0 = ownO n := by
  have : n = 1 ∨ n = 2 ∨ n = 3 ∨ n = 4 ∨ n = 5 := by omega
  rcases this with rfl | rfl | rfl | rfl | rfl <;> refine ⟨by decide +kernel, by decide +kernel⟩
def fac : Nat → Nat
  | 0 => 1
  | n + 1 => fac n * (n + 1)
theorem ordK_fac {n : Nat} (h1 : 1 ≤ n) (h5 : n ≤ 5) : (ordK n n).length = fac n := by
  have : n = 1 ∨ n = 2 ∨ n = 3 ∨ n = 4 ∨ n = 5 := by omega
  rcases this with rfl | rfl | rfl | rfl | rfl <;> decide +kernel

theorem tot_le_of {L : List (List Int)} {B n : Nat} (h : ∀ i, i < L.length → (row L i).length ≤ B) (hn : n ≤ L.length) : tot L n ≤ n * B := by
  induction n with
  | zero => simp [tot]
  | succ n ih =>
    have := ih (by omega)
    have := h n (by omega)
    simp only [tot]
    rw [Nat.succ_mul]
    omega

end Go.Proofs.Ytknnelenmedonaa
