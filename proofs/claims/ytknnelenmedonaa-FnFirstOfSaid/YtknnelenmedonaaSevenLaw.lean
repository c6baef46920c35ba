/- Plain facts on orders that keep spaces, and on what is the same in every order. Conditions: as each theorem says. -/
import Derived.Test.YtknnelenmedonaaSameS
import Derived.Test.YtknnelenmedonaaFirstS
import Derived.Test.YtknnelenmedonaaPlacesW
import Derived.Test.YtknnelenmedonaaRadius
namespace Go.Proofs.Ytknnelenmedonaa
set_option linter.unusedVariables false
set_option linter.unusedSimpArgs false
open Go.RowKit Go.Deep

theorem nodup_len_le' {α : Type} [DecidableEq α] : ∀ (l m : List α), l.Nodup → (∀ x, x ∈ l → x ∈ m) → l.length ≤ m.length := by
  intro l
  induction l with
  | nil => intro m _ _; exact Nat.zero_le _
  | cons a l ih =>
    intro m hn hs
    have ha : a ∈ m := hs a (by simp)
    have hn' := List.nodup_cons.1 hn
    have h1 := ih (m.erase a) hn'.2 fun x hx => (List.mem_erase_of_ne (fun e => hn'.1 (by rw [← e]; exact hx))).2 (hs x (by simp [hx]))
    have h2 := List.length_erase_of_mem ha
    have h3 : 0 < m.length := List.length_pos_of_mem ha
    simp only [List.length_cons]
    omega
theorem map_len_le {α : Type} [DecidableEq α] {l m : List α} (f : α → α) (hn : l.Nodup) (hi : ∀ x y, x ∈ l → y ∈ l → f x = f y → x = y) (hm : ∀ x, x ∈ l → f x ∈ m) : l.length ≤ m.length := by
  have h := nodup_len_le' (l.map f) m (by
    unfold List.Nodup
    rw [List.pairwise_map]
    refine List.Pairwise.imp_of_mem ?_ hn
    intro a b ha hb hne e
    exact hne (hi a b ha hb e)) (by
    intro y hy
    obtain ⟨x, hx, rfl⟩ := List.mem_map.1 hy
    exact hm x hx)
  simpa using h
theorem filter_split {α : Type} (f : α → Bool) (l : List α) : l.length = (l.filter f).length + (l.filter fun x => !f x).length := by
  induction l with
  | nil => rfl
  | cons a l ih =>
    cases h : f a <;> simp [List.filter, h] <;> omega
/-- Lots of one size each. -/
theorem dvd_fibres {β : Type} (g : List Int → β) (m : Nat) : ∀ (N : Nat) (L : List (List Int)), L.length ≤ N → (∀ o, o ∈ L → (L.filter fun x => decP (g x = g o)).length = m) → m ∣ L.length := by
  intro N
  induction N with
  | zero =>
    intro L hL _
    have : L.length = 0 := by omega
    rw [this]; exact Nat.dvd_zero m
  | succ N ih =>
    intro L hL h
    cases L with
    | nil => exact Nat.dvd_zero m
    | cons o t =>
      have ho := h o (by simp)
      have hsplit : (o :: t).length = ((o :: t).filter fun x => decP (g x = g o)).length + ((o :: t).filter fun x => !decP (g x = g o)).length := filter_split _ _
      have hpos : 1 ≤ ((o :: t).filter fun x => decP (g x = g o)).length := by
        refine List.length_pos_of_mem (a := o) ?_
        rw [List.mem_filter]
        exact ⟨by simp, decP_yes rfl⟩
      have hrest := ih ((o :: t).filter fun x => !decP (g x = g o)) (by omega) (fun o' ho' => by
        obtain ⟨h1, h2⟩ := List.mem_filter.1 ho'
        have hne : g o' ≠ g o := by
          intro e
          rw [decP_yes e] at h2
          simp at h2
        have := h o' h1
        rw [List.filter_filter]
        rw [← this]
        congr 1
        apply List.filter_congr
        intro x _
        by_cases e : g x = g o'
        · rw [decP_yes e, decP_no (p := g x = g o) (fun h => hne (e.symm.trans h))]; rfl
        · rw [decP_no e]; rfl)
      rw [hsplit, ho]
      exact Nat.dvd_add (Nat.dvd_refl m) hrest

section
variable {d e : List (List Int)}
/-- The order o makes e of d. -/
def Mk (d : List (List Int)) (o : List Int) (e : List (List Int)) : Prop := OrdP o ∧ o.length = d.length ∧ ordL d o = e
def Same (d e : List (List Int)) : Prop := ∃ o, Mk d o e
theorem same_refl (h : Space d) : Same d d := ⟨ownO d.length, ord_own h.one h.six, ownO_length _, ordL_own h.sq⟩
theorem same_len (h : Same d e) : e.length = d.length := by
  obtain ⟨o, _, h2, h3⟩ := h
  rw [← h3, ordL_length, h2]
theorem same_space (hS : Space d) (h : Same d e) : Space e := by
  obtain ⟨o, h1, h2, h3⟩ := h
  rw [← h3]; exact space_ordL hS h1 h2
theorem same_symm (hS : Space d) (h : Same d e) : Same e d := by
  obtain ⟨o, h1, h2, h3⟩ := h
  obtain ⟨r, r1, r2, r3, _⟩ := ord_inv h1
  refine ⟨r, r1, by rw [← h3, ordL_length, r2], ?_⟩
  rw [← h3, ← ordL_cmp r1 r2.symm, r3, h2]
  exact ordL_own hS.sq
theorem same_trans {f : List (List Int)} (h : Same d e) (k : Same e f) : Same d f := by
  obtain ⟨o, h1, h2, h3⟩ := h
  obtain ⟨p, k1, k2, k3⟩ := k
  have hl : o.length = p.length := by rw [k2, ← h3, ordL_length]
  refine ⟨cmpO o p, ord_cmp h1 k1 hl, by rw [cmpO_length, ← hl, h2], ?_⟩
  rw [ordL_cmp k1 hl, h3, k3]
theorem sam_some (h : SsOk d e) : (samV d e).isSome = decP (Same d e) := by
  rw [samV_yes h]
  by_cases hs : Same d e
  · rw [decP_yes hs]
    obtain ⟨o, h1, h2, h3⟩ := hs
    rw [List.find?_isSome]
    exact ⟨o, (ordK_ord h.a.one h.a.six).2 ⟨h1, h2⟩, decP_yes h3⟩
  · rw [decP_no hs]
    cases hf : (ordK d.length d.length).find? (fun o => decP (ordL d o = e)) with
    | none => rfl
    | some o =>
      exfalso
      have hm : samV d e = some o := by rw [samV_yes h]; exact hf
      obtain ⟨_, a, b, c⟩ := samV_mem hm
      exact hs ⟨o, a, b, c⟩
theorem ssOk_symm (h : SsOk d e) : SsOk e d := ⟨h.b, h.a, h.len.symm, by rw [← h.len]; exact h.five⟩
theorem ssOk_iff : SsOk d e ↔ SsOk e d := ⟨ssOk_symm, ssOk_symm⟩
/-- Told for both exchanged exactly if it is. -/
theorem sam_back (d e : List (List Int)) : (samV e d).isSome = (samV d e).isSome := by
  by_cases h : SsOk d e
  · rw [sam_some h, sam_some (ssOk_symm h)]
    exact decP_congr ⟨same_symm h.b, same_symm h.a⟩
  · rw [samV_no h, samV_no fun h' => h (ssOk_symm h')]
theorem sam_self (hS : Space d) (h5 : d.length ≤ 5) : samV d d = some (ownO d.length) := by
  obtain ⟨h1, h2⟩ := ordK_first hS.one h5
  rw [samV_yes ⟨hS, hS, rfl, h5⟩]
  have := find_hit (f := fun o => decP (ordL d o = d)) (L := ordK d.length d.length) (k := 0) (by omega) (fun j hj => absurd hj (by omega)) (by rw [h2]; exact decP_yes (ordL_own hS.sq))
  rw [this, h2]

/-- The first space of all. -/
theorem firstTo_min {L : List (List Int)} : ∀ k, ∀ j, j < k → ¬ lexM (ordL d (row L j)) (firstTo d L k) < 0 := by
  intro k
  induction k with
  | zero => intro j hj; omega
  | succ k ih =>
    intro j hj hlt
    by_cases hl : lexM (ordL d (row L k)) (firstTo d L k) < 0
    · rw [firstTo_less hl] at hlt
      by_cases e : j = k
      · subst e
        rw [lexM_zero.2 rfl] at hlt
        exact absurd hlt (by decide)
      · exact ih j (by omega) (lexM_trans hlt hl)
    · rw [firstTo_stay hl] at hlt
      by_cases e : j = k
      · subst e; exact hl hlt
      · exact ih j (by omega) hlt
theorem firstTo_same (hS : Space d) {L : List (List Int)} (hL : ∀ o, o ∈ L → OrdP o ∧ o.length = d.length) : ∀ k, k ≤ L.length → Same d (firstTo d L k) := by
  intro k
  induction k with
  | zero => intro _; exact same_refl hS
  | succ k ih =>
    intro hk
    obtain ⟨o1, o2⟩ := hL _ (row_mem (show k < L.length by omega))
    unfold firstTo
    split
    · exact ⟨_, o1, o2, rfl⟩
    · exact ih (by omega)
theorem fi_same (h : KeOk d) : Same d (fiV d) := by
  rw [fiV_yes h]
  exact firstTo_same h.sp (fun o ho => (ordK_ord h.sp.one h.sp.six).1 ho) _ (Nat.le_refl _)
theorem fi_min (h : KeOk d) {y : List (List Int)} (hy : Same d y) : ¬ lexM y (fiV d) < 0 := by
  obtain ⟨o, h1, h2, h3⟩ := hy
  obtain ⟨j, hj, e⟩ := mem_row ((ordK_ord h.sp.one h.sp.six).2 ⟨h1, h2⟩)
  rw [fiV_yes h, ← h3, ← e]
  exact firstTo_min _ j hj
theorem min_eq {a b : List (List Int)} (h1 : ¬ lexM a b < 0) (h2 : ¬ lexM b a < 0) : a = b := by
  have := lexM_neg a b
  exact lexM_zero.1 (by omega)
theorem keOk_same (h : KeOk d) (hs : Same d e) : KeOk e := ⟨same_space h.sp hs, by rw [same_len hs]; exact h.five⟩
/-- In whatever order the points stand the first one is the same. -/
theorem fi_of_same (h : KeOk d) (hs : Same d e) : fiV e = fiV d := by
  have he := keOk_same h hs
  have s1 := fi_same h
  have s2 := fi_same he
  have t := same_symm h.sp hs
  exact min_eq (fi_min h (same_trans hs s2)) (fi_min he (same_trans t s1))
theorem fi_fi (h : KeOk d) : fiV (fiV d) = fiV d := fi_of_same h (fi_same h)
theorem fi_iff (h : SsOk d e) : decP (Same d e) = sameMB (fiV d) (fiV e) := by
  have hd : KeOk d := ⟨h.a, h.five⟩
  have he : KeOk e := ⟨h.b, by rw [← h.len]; exact h.five⟩
  by_cases hs : Same d e
  · rw [decP_yes hs, sameMB_yes (fi_of_same hd hs).symm]
  · rw [decP_no hs, sameMB_no]
    intro eq
    have s1 := fi_same hd
    rw [eq] at s1
    exact hs (same_trans s1 (same_symm he.sp (fi_same he)))
theorem fi_ss (h : KeOk d) : SsOk d (fiV d) := ⟨h.sp, same_space h.sp (fi_same h), (same_len (fi_same h)).symm, h.five⟩

/-- The orders that keep a space are a group. -/
theorem keep_cmp (hS : Space d) {p q : List Int} (hp : p ∈ keepL d) (hq : q ∈ keepL d) : cmpO p q ∈ keepL d := by
  obtain ⟨p1, p2, p3⟩ := (keepL_mem hS).1 hp
  obtain ⟨q1, q2, q3⟩ := (keepL_mem hS).1 hq
  have hl : p.length = q.length := by omega
  exact (keepL_mem hS).2 ⟨ord_cmp p1 q1 hl, by rw [cmpO_length]; exact q2, by rw [ordL_cmp q1 hl, p3, q3]⟩
theorem filter_first {f : List Int → Bool} {L : List (List Int)} (h1 : 1 ≤ L.length) (hf : f (row L 0) = true) : row (L.filter f) 0 = row L 0 := by
  cases L with
  | nil => simp at h1
  | cons x t =>
    rw [row_cons_zero] at hf ⊢
    simp [List.filter, hf, row]
theorem keep_first (hS : Space d) (h5 : d.length ≤ 5) : row (keepL d) 0 = ownO d.length := by
  obtain ⟨h1, h2⟩ := ordK_first hS.one h5
  unfold keepL
  rw [filter_first h1 (by rw [h2]; exact decP_yes (ordL_own hS.sq)), h2]
theorem fibre_len (hS : Space d) (h5 : d.length ≤ 5) {o : List Int} (ho : o ∈ ordK d.length d.length) : ((ordK d.length d.length).filter fun x => decP (ordL d x = ordL d o)).length = (keepL d).length := by
  have hone := hS.one
  have hsix := hS.six
  obtain ⟨o1, o2⟩ := (ordK_ord hone hsix).1 ho
  obtain ⟨r, r1, r2, r3, r4⟩ := ord_inv o1
  have memF : ∀ x, x ∈ (ordK d.length d.length).filter (fun x => decP (ordL d x = ordL d o)) ↔ OrdP x ∧ x.length = d.length ∧ ordL d x = ordL d o := fun x => by
    rw [List.mem_filter, ordK_ord hone hsix]
    constructor
    · rintro ⟨⟨a, b⟩, c⟩; exact ⟨a, b, decP_iff.1 c⟩
    · rintro ⟨a, b, c⟩; exact ⟨⟨a, b⟩, decP_yes c⟩
  have back : ∀ k : List Int, k.length = d.length → cmpO (cmpO k o) r = k := fun k hk => by
    rw [cmp_assoc r2 r1, r3, show o.length = k.length by omega, own_cmp]
  have back2 : ∀ k : List Int, k.length = d.length → cmpO (cmpO k r) o = k := fun k hk => by
    rw [cmp_assoc r2.symm o1, r4, show o.length = k.length by omega, own_cmp]
  apply Nat.le_antisymm
  · refine map_len_le (fun x => cmpO x r) ((ordK_nodup _ _).filter _) (fun x y hx hy e => ?_) (fun x hx => ?_)
    · obtain ⟨_, x2, _⟩ := (memF x).1 hx
      obtain ⟨_, y2, _⟩ := (memF y).1 hy
      have e : cmpO x r = cmpO y r := e
      rw [← back2 x x2, e, back2 y y2]
    · obtain ⟨x1, x2, x3⟩ := (memF x).1 hx
      have hl : x.length = r.length := by omega
      refine (keepL_mem hS).2 ⟨ord_cmp x1 r1 hl, by rw [cmpO_length]; omega, ?_⟩
      rw [ordL_cmp r1 hl, x3, ← ordL_cmp r1 r2.symm, r3, o2]
      exact ordL_own hS.sq
  · refine map_len_le (fun x => cmpO x o) ((ordK_nodup _ _).filter _) (fun x y hx hy e => ?_) (fun x hx => ?_)
    · obtain ⟨_, x2, _⟩ := (keepL_mem hS).1 hx
      obtain ⟨_, y2, _⟩ := (keepL_mem hS).1 hy
      have e : cmpO x o = cmpO y o := e
      rw [← back x x2, e, back y y2]
    · obtain ⟨x1, x2, x3⟩ := (keepL_mem hS).1 hx
      have hl : x.length = o.length := by omega
      refine (memF _).2 ⟨ord_cmp x1 o1 hl, by rw [cmpO_length]; exact o2, ?_⟩
      rw [ordL_cmp o1 hl, x3]
/-- Their number divides the number of all orders. -/
theorem keep_dvd (hS : Space d) (h5 : d.length ≤ 5) : fac d.length % (keepL d).length = 0 := by
  have h := dvd_fibres (ordL d) (keepL d).length _ (ordK d.length d.length) (Nat.le_refl _) (fun o ho => fibre_len hS h5 ho)
  rw [ordK_fac hS.one h5] at h
  exact Nat.mod_eq_zero_of_dvd h

/-- Points that go over into each other. -/
theorem pl_is (hS : Space d) {i : Nat} (hi : i < d.length) : ∃ o, o ∈ keepL d ∧ plF d i = iat o i := by
  rcases minN_is (F := fun j => iat (row (keepL d) j) i) (m := (i : Int)) (n := (keepL d).length) with e | ⟨j, hj, e⟩
  · exact ⟨_, keepL_own hS, by rw [iat_ownO hi]; exact e⟩
  · exact ⟨_, row_mem hj, e⟩
theorem pl_le (d : List (List Int)) (i : Nat) : plF d i ≤ i := minN_le_start _ _ _
theorem pl_le_of {i : Nat} {o : List Int} (ho : o ∈ keepL d) : plF d i ≤ iat o i := by
  obtain ⟨j, hj, e⟩ := mem_row ho
  have : plF d i ≤ iat (row (keepL d) j) i := minN_le (F := fun j => iat (row (keepL d) j) i) hj
  rwa [e] at this
theorem pl_bd (hS : Space d) {i : Nat} (hi : i < d.length) : 0 ≤ plF d i ∧ plF d i < d.length := by
  obtain ⟨o, ho, e⟩ := pl_is hS hi
  obtain ⟨h1, h2, _⟩ := (keepL_mem hS).1 ho
  rw [e, ← h2]
  exact h1.bd i (by omega)
theorem pl_pl (hS : Space d) {i : Nat} (hi : i < d.length) : plF d (plF d i).toNat = plF d i := by
  have hb := pl_bd hS hi
  have hp : (plF d i).toNat < d.length := by omega
  obtain ⟨o, ho, e⟩ := pl_is hS hi
  obtain ⟨q, hq, e2⟩ := pl_is hS hp
  obtain ⟨o1, o2, _⟩ := (keepL_mem hS).1 ho
  have h1 := pl_le d (plF d i).toNat
  have h2 := pl_le_of (i := i) (keep_cmp hS hq ho)
  rw [iat_cmpO (by omega)] at h2
  have e3 : pl o i = (plF d i).toNat := by unfold pl; rw [e]
  rw [e3, ← e2] at h2
  omega
theorem keep_at (hS : Space d) {o : List Int} (ho : o ∈ keepL d) {i j : Nat} (hi : i < d.length) (hj : j < d.length) : at2 d (pl o i) (pl o j) = at2 d i j := by
  obtain ⟨o1, o2, o3⟩ := (keepL_mem hS).1 ho
  have := at2_ordL (d := d) (o := o) (i := i) (k := j) (by omega) (by omega)
  rw [o3] at this
  exact this.symm
theorem pl_far (hS : Space d) {i : Nat} (hi : i < d.length) : farF d (plF d i).toNat = farF d i := by
  obtain ⟨o, ho, e⟩ := pl_is hS hi
  obtain ⟨o1, o2, _⟩ := (keepL_mem hS).1 ho
  have e3 : (plF d i).toNat = pl o i := by unfold pl; rw [e]
  rw [e3]
  have h0 : ∀ q, 0 ≤ farF d q := fun q => le_maxN _ _ _
  apply Int.le_antisymm
  · refine maxN_le (h0 i) fun j' hj' => ?_
    obtain ⟨j, hj, ej⟩ := o1.onto (x := j') (by omega)
    rw [← ej, keep_at hS ho hi (by omega)]
    exact maxN_ge (F := at2 d i) (by omega)
  · refine maxN_le (h0 _) fun j hj => ?_
    rw [← keep_at hS ho hi hj]
    exact maxN_ge (F := at2 d (pl o i)) (by have := o1.pl (i := j) (by omega); omega)

/-- Orders keep how wide and how far. -/
theorem far_ord (hS : Space d) {o : List Int} (ho : OrdP o) (hl : o.length = d.length) {i : Nat} (hi : i < d.length) : farF (ordL d o) i = farF d (pl o i) := by
  have h0 : ∀ (d : List (List Int)) q, 0 ≤ farF d q := fun d q => le_maxN _ _ _
  apply Int.le_antisymm
  · refine maxN_le (h0 _ _) fun j hj => ?_
    rw [ordL_length] at hj
    rw [at2_ordL (by omega) hj]
    exact maxN_ge (F := at2 d (pl o i)) (by have := ho.pl hj; omega)
  · refine maxN_le (h0 _ _) fun j' hj' => ?_
    obtain ⟨j, hj, ej⟩ := ho.onto (x := j') (by omega)
    rw [← ej, ← at2_ordL (d := d) (i := i) (by omega) hj]
    exact maxN_ge (F := at2 (ordL d o) i) (by rw [ordL_length]; exact hj)
theorem wid_ord (hS : Space d) {o : List Int} (ho : OrdP o) (hl : o.length = d.length) : widF (ordL d o) (ordL d o).length = widF d d.length := by
  rw [ordL_length]
  apply Int.le_antisymm
  · refine maxN_le (le_maxN _ _ _) fun i hi => ?_
    rw [far_ord hS ho hl (by omega)]
    exact far_le_wid (by have := ho.pl hi; omega)
  · refine maxN_le (le_maxN _ _ _) fun i' hi' => ?_
    obtain ⟨i, hi, ei⟩ := ho.onto (x := i') (by omega)
    rw [← ei, ← far_ord hS ho hl (by omega)]
    exact maxN_ge (F := farF (ordL d o)) hi
theorem rad_ord (hS : Space d) {o : List Int} (ho : OrdP o) (hl : o.length = d.length) : radF (ordL d o) = radF d := by
  unfold radF
  rw [ordL_length]
  apply Int.le_antisymm
  · refine le_minN (minN_le_start _ _ _) fun i' hi' => ?_
    obtain ⟨i, hi, ei⟩ := ho.onto (x := i') (by omega)
    rw [← ei, ← far_ord hS ho hl (by omega)]
    exact minN_le (F := farF (ordL d o)) hi
  · refine le_minN (minN_le_start _ _ _) fun i hi => ?_
    rw [far_ord hS ho hl (by omega)]
    exact minN_le (F := farF d) (by have := ho.pl hi; omega)
end

/-- Turned round. -/
def revO (o : List Int) : List Int := genL (fun k => iat o (o.length - 1 - k)) o.length
theorem revO_length (o : List Int) : (revO o).length = o.length := genL_length _ _
theorem iat_revO {o : List Int} {k : Nat} (h : k < o.length) : iat (revO o) k = iat o (o.length - 1 - k) := iat_genL h
theorem rev_rev (o : List Int) : revO (revO o) = o := ext_iat (by rw [revO_length, revO_length]) fun i hi => by
  rw [revO_length, revO_length] at hi
  rw [iat_revO (by rw [revO_length]; exact hi), revO_length, iat_revO (by omega)]
  congr 1
  omega
theorem ord_rev {o : List Int} (h : OrdP o) : OrdP (revO o) := by
  refine ⟨by rw [revO_length]; exact h.one, by rw [revO_length]; exact h.six, fun i hi => ?_, fun i j hj hi => ?_⟩
  · rw [revO_length] at hi ⊢
    rw [iat_revO hi]
    exact h.bd _ (by omega)
  · rw [revO_length] at hi
    rw [iat_revO hi, iat_revO (by omega)]
    exact fun e => h.ne (o.length - 1 - j) (o.length - 1 - i) (by omega) (by omega) e.symm
theorem ord_rev_iff (o : List Int) : decP (OrdP (revO o)) = decP (OrdP o) := decP_congr ⟨fun h => by have := ord_rev h; rwa [rev_rev] at this, ord_rev⟩

end Go.Proofs.Ytknnelenmedonaa
