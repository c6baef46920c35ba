/- Plain facts on the gaps of four points. Conditions: as each theorem says. -/
import Derived.Test.YtclffncimaigfaaMade
namespace Go.Proofs.Ytclffncimaigfaa
set_option linter.unusedVariables false
set_option linter.unusedSimpArgs false
open Go.RowKit Go.Deep

/-- By how much the two greatest of three numbers differ. -/
def gap3 (x y z : Int) : Int := max (max x y) z - (x + y + z - max (max x y) z - min (min x y) z)
theorem gap3_pos (x y z : Int) : 0 ≤ gap3 x y z := by unfold gap3; omega
theorem gap3_12 (x y z : Int) : gap3 x y z = gap3 y x z := by unfold gap3; omega
theorem gap3_23 (x y z : Int) : gap3 x y z = gap3 x z y := by unfold gap3; omega
theorem gap3_zero {x y z : Int} : gap3 x y z = 0 ↔ x ≤ max y z ∧ y ≤ max x z ∧ z ≤ max x y := by unfold gap3; omega
def gapF (d : List (List Int)) (a b c e : Nat) : Int := gap3 (at2 d a b + at2 d c e) (at2 d a c + at2 d b e) (at2 d a e + at2 d b c)

/-- A loop with a number that is carried on. -/
def foldN (G : Nat → Int → Int) (m : Int) : Nat → Int
  | 0 => m
  | n + 1 => G n (foldN G m n)
theorem foldN_le {G : Nat → Int → Int} {P : Nat → Prop} {B m : Int} {n : Nat} (hG : ∀ i m, i < n → (G i m ≤ B ↔ m ≤ B ∧ P i)) : foldN G m n ≤ B ↔ m ≤ B ∧ ∀ i, i < n → P i := by
  induction n with
  | zero => exact ⟨fun h => ⟨h, fun i hi => by omega⟩, fun h => h.1⟩
  | succ n ih =>
    unfold foldN
    rw [hG n _ (by omega), ih fun i m hi => hG i m (by omega)]
    constructor
    · rintro ⟨⟨h1, h2⟩, h3⟩
      refine ⟨h1, fun i hi => ?_⟩
      by_cases e : i < n
      · exact h2 i e
      · have : i = n := by omega
        subst this; exact h3
    · rintro ⟨h1, h2⟩
      exact ⟨⟨h1, fun i hi => h2 i (by omega)⟩, h2 n (by omega)⟩

def wE (d : List (List Int)) (a b c : Nat) (m : Int) (k : Nat) : Int := foldN (fun e m => max m (gapF d a b c e)) m k
def wC (d : List (List Int)) (L : Nat → Nat) (a b : Nat) (m : Int) (k : Nat) : Int := foldN (fun c m => wE d a b c m (L c)) m k
def wB (d : List (List Int)) (L : Nat → Nat) (a : Nat) (m : Int) (k : Nat) : Int := foldN (fun b m => wC d L a b m (L b)) m k
def wA (d : List (List Int)) (L : Nat → Nat) (m : Int) (k : Nat) : Int := foldN (fun a m => wB d L a m (L a)) m k
section
variable {d : List (List Int)} {L : Nat → Nat}
theorem wE_le {a b c k : Nat} {m B : Int} : wE d a b c m k ≤ B ↔ m ≤ B ∧ ∀ e, e < k → gapF d a b c e ≤ B := foldN_le fun i m _ => by omega
theorem wC_le {a b k : Nat} {m B : Int} : wC d L a b m k ≤ B ↔ m ≤ B ∧ ∀ c, c < k → ∀ e, e < L c → gapF d a b c e ≤ B := foldN_le fun i m _ => wE_le
theorem wB_le {a k : Nat} {m B : Int} : wB d L a m k ≤ B ↔ m ≤ B ∧ ∀ b, b < k → ∀ c, c < L b → ∀ e, e < L c → gapF d a b c e ≤ B := foldN_le fun i m _ => wC_le
theorem wA_le {k : Nat} {m B : Int} : wA d L m k ≤ B ↔ m ≤ B ∧ ∀ a, a < k → ∀ b, b < L a → ∀ c, c < L b → ∀ e, e < L c → gapF d a b c e ≤ B := foldN_le fun i m _ => wB_le
end
/-- The greatest gap. -/
def wgF (d : List (List Int)) : Int := wA d (fun _ => d.length) 0 d.length
section
variable {d : List (List Int)}
theorem wg_le {B : Int} : wgF d ≤ B ↔ 0 ≤ B ∧ ∀ a, a < d.length → ∀ b, b < d.length → ∀ c, c < d.length → ∀ e, e < d.length → gapF d a b c e ≤ B := wA_le
theorem wg_pos : 0 ≤ wgF d := (wg_le.1 (Int.le_refl _)).1
theorem gap_le_wg {a b c e : Nat} (ha : a < d.length) (hb : b < d.length) (hc : c < d.length) (he : e < d.length) : gapF d a b c e ≤ wgF d := (wg_le.1 (Int.le_refl _)).2 a ha b hb c hc e he
variable (h : Space d)
include h
theorem gap_s1 {a b c e : Nat} (ha : a < d.length) (hb : b < d.length) (hc : c < d.length) (he : e < d.length) : gapF d a b c e = gapF d b a c e := by
  unfold gapF
  rw [(h.ent b a hb ha).2.2.1, gap3_23, Int.add_comm (at2 d a e) (at2 d b c), Int.add_comm (at2 d a c) (at2 d b e)]
theorem gap_s2 {a b c e : Nat} (ha : a < d.length) (hb : b < d.length) (hc : c < d.length) (he : e < d.length) : gapF d a b c e = gapF d a c b e := by
  unfold gapF
  rw [(h.ent b c hb hc).2.2.1, gap3_12]
theorem gap_s3 {a b c e : Nat} (ha : a < d.length) (hb : b < d.length) (hc : c < d.length) (he : e < d.length) : gapF d a b c e = gapF d a b e c := by
  unfold gapF
  rw [(h.ent e c he hc).2.2.1, gap3_23]
theorem gap_same {a c e : Nat} (ha : a < d.length) (hc : c < d.length) (he : e < d.length) : gapF d a a c e = 0 := by
  have h1 := h.tri c a e hc ha he
  have h2 := (h.ent c a hc ha).2.2.1
  have h3 := (h.ent a a ha ha).2.2.2.2 rfl
  have h4 := (h.ent a c ha hc).1
  have h5 := (h.ent a e ha he).1
  have h6 := (h.ent c e hc he).1
  unfold gapF
  rw [gap3_zero]
  omega
/-- The gaps of points in descending order bound all. -/
theorem gap_sorted {B : Int} (hB : 0 ≤ B) (hs : ∀ a, a < d.length → ∀ b, b < a → ∀ c, c < b → ∀ e, e < c → gapF d a b c e ≤ B) :
    ∀ a b c e, a < d.length → b < d.length → c < d.length → e < d.length → gapF d a b c e ≤ B := by
  have s4 : ∀ a b c e, a < d.length → b < d.length → c < d.length → e < d.length → b ≤ a → c ≤ b → e ≤ c → gapF d a b c e ≤ B := by
    intro a b c e ha hb hc he h1 h2 h3
    by_cases e1 : a = b
    · subst e1
      rw [gap_same h ha hc he]; exact hB
    · by_cases e2 : b = c
      · subst e2
        rw [gap_s1 h ha hb hb he, gap_s2 h hb ha hb he, gap_same h hb ha he]; exact hB
      · by_cases e3 : c = e
        · subst e3
          rw [gap_s2 h ha hb hc hc, gap_s3 h ha hc hb hc, gap_s1 h ha hc hc hb, gap_s2 h hc ha hc hb, gap_same h hc ha hb]; exact hB
        · exact hs a ha b (by omega) c (by omega) e (by omega)
  have s3 : ∀ a b c e, a < d.length → b < d.length → c < d.length → e < d.length → c ≤ b → e ≤ c → gapF d a b c e ≤ B := by
    intro a b c e ha hb hc he h2 h3
    by_cases e1 : b ≤ a
    · exact s4 a b c e ha hb hc he e1 h2 h3
    · rw [gap_s1 h ha hb hc he]
      by_cases e2 : c ≤ a
      · exact s4 b a c e hb ha hc he (by omega) e2 h3
      · rw [gap_s2 h hb ha hc he]
        by_cases e3 : e ≤ a
        · exact s4 b c a e hb hc ha he h2 (by omega) e3
        · rw [gap_s3 h hb hc ha he]
          exact s4 b c e a hb hc he ha h2 h3 (by omega)
  have s2 : ∀ a b c e, a < d.length → b < d.length → c < d.length → e < d.length → e ≤ c → gapF d a b c e ≤ B := by
    intro a b c e ha hb hc he h3
    by_cases e1 : c ≤ b
    · exact s3 a b c e ha hb hc he e1 h3
    · rw [gap_s2 h ha hb hc he]
      by_cases e2 : e ≤ b
      · exact s3 a c b e ha hc hb he (by omega) e2
      · rw [gap_s3 h ha hc hb he]
        exact s3 a c e b ha hc he hb h3 (by omega)
  intro a b c e ha hb hc he
  by_cases e1 : e ≤ c
  · exact s2 a b c e ha hb hc he e1
  · rw [gap_s3 h ha hb hc he]
    exact s2 a b e c ha hb he hc (by omega)
/-- It is enough to look at points in descending order. -/
theorem wg_down : wA d id 0 d.length = wgF d := by
  have h1 : wA d id 0 d.length ≤ wgF d := wA_le.2 ⟨wg_pos, fun a ha b hb c hc e he => by
    simp only [id] at hb hc he
    exact gap_le_wg ha (by omega) (by omega) (by omega)⟩
  have h2 : wgF d ≤ wA d id 0 d.length := by
    obtain ⟨p, q⟩ := (wA_le (d := d) (L := id) (k := d.length) (m := 0)).1 (Int.le_refl _)
    exact wg_le.2 ⟨p, fun a ha b hb c hc e he => gap_sorted h p q a b c e ha hb hc he⟩
  omega
/-- Three points at most: no gap. -/
theorem wg_three (h3 : d.length ≤ 3) : wgF d = 0 := by
  have h1 : wA d id 0 d.length ≤ 0 := wA_le.2 ⟨Int.le_refl _, fun a ha b hb c hc e he => by
    simp only [id] at hb hc he
    omega⟩
  rw [wg_down h] at h1
  have := wg_pos (d := d)
  omega
/-- A gap is no greater than the width. -/
theorem gap_le_width {B : Int} (hB : ∀ i k, i < d.length → k < d.length → at2 d i k ≤ B) {a b c e : Nat} (ha : a < d.length) (hb : b < d.length) (hc : c < d.length) (he : e < d.length) : gapF d a b c e ≤ B := by
  have y1 := (h.ent b a hb ha).2.2.1
  have y2 := (h.ent c a hc ha).2.2.1
  have y3 := (h.ent e a he ha).2.2.1
  have y4 := (h.ent c b hc hb).2.2.1
  have y5 := (h.ent e b he hb).2.2.1
  have y6 := (h.ent e c he hc).2.2.1
  have t1 := h.tri a c b ha hc hb
  have t2 := h.tri a e b ha he hb
  have t3 := h.tri a b c ha hb hc
  have t4 := h.tri a e c ha he hc
  have t5 := h.tri a b e ha hb he
  have t6 := h.tri a c e ha hc he
  have b1 := hB c e hc he
  have b2 := hB b e hb he
  have b3 := hB b c hb hc
  unfold gapF gap3
  omega
theorem wg_le_width {B : Int} (hB0 : 0 ≤ B) (hB : ∀ i k, i < d.length → k < d.length → at2 d i k ≤ B) : wgF d ≤ B :=
  wg_le.2 ⟨hB0, fun a ha b hb c hc e he => gap_le_width h hB ha hb hc he⟩
end
theorem four {ab ce ac be ae bc : Int} (h1 : ab ≤ max ac bc) (h2 : ab ≤ max ae be) (h3 : ce ≤ max bc be) (h4 : ce ≤ max ac ae) : ab + ce ≤ max (ac + be) (ae + bc) := by omega
/-- A space in which no distance is greater than the greater one of those over a third point. -/
structure Ultra (d : List (List Int)) : Prop where
  sp : Space d
  ok : ∀ i k j, i < d.length → k < d.length → j < d.length → at2 d i k ≤ max (at2 d i j) (at2 d j k)
section
variable {d : List (List Int)}
theorem gap_ultra (u : Ultra d) {a b c e : Nat} (ha : a < d.length) (hb : b < d.length) (hc : c < d.length) (he : e < d.length) : gapF d a b c e = 0 := by
  have h := u.sp
  have y2 := (h.ent c a hc ha).2.2.1
  have y3 := (h.ent e a he ha).2.2.1
  have y1 := (h.ent b a hb ha).2.2.1
  have y4 := (h.ent c b hc hb).2.2.1
  have y5 := (h.ent e b he hb).2.2.1
  have y6 := (h.ent e c he hc).2.2.1
  have t1 := u.ok a b c ha hb hc
  have t2 := u.ok a b e ha hb he
  have t3 := u.ok c e b hc he hb
  have t4 := u.ok c e a hc he ha
  have t5 := u.ok a c b ha hc hb
  have t6 := u.ok a c e ha hc he
  have t7 := u.ok b e c hb he hc
  have t8 := u.ok b e a hb he ha
  have t9 := u.ok a e b ha he hb
  have t10 := u.ok a e c ha he hc
  have t11 := u.ok b c e hb hc he
  have t12 := u.ok b c a hb hc ha
  rw [y1] at t8 t12
  rw [y2] at t4
  rw [y4] at t1 t3
  rw [y5] at t2
  rw [y6] at t6 t11
  unfold gapF
  rw [gap3_zero]
  exact ⟨four t1 t2 t3 t4, four t5 t6 t7 t8, four t9 t10 t11 t12⟩
theorem wg_ultra (u : Ultra d) : wgF d = 0 := by
  have h1 : wgF d ≤ 0 := wg_le.2 ⟨Int.le_refl _, fun a ha b hb c hc e he => by rw [gap_ultra u ha hb hc he]; exact Int.le_refl _⟩
  have := wg_pos (d := d)
  omega
end
/-- In a tree the two least of three are equal. -/
theorem together {d : List (List Int)} (h : Space d) (hw : wgF d = 0) {f a b c : Nat} (hf : f < d.length) (ha : a < d.length) (hb : b < d.length) (hc : c < d.length) {n x y : Int}
    (hn : n = at2 d f a + at2 d f b - at2 d a b) (hx : x = at2 d f a + at2 d f c - at2 d a c) (hy : y = at2 d f b + at2 d f c - at2 d b c) : n + x + y - max (max n x) y - min (min n x) y = min (min n x) y := by
  have g := gap_le_wg (d := d) hf ha hb hc
  have g0 := gap3_pos (at2 d f a + at2 d b c) (at2 d f b + at2 d a c) (at2 d f c + at2 d a b)
  have g1 : gap3 (at2 d f a + at2 d b c) (at2 d f b + at2 d a c) (at2 d f c + at2 d a b) = 0 := by
    have : gapF d f a b c = gap3 (at2 d f a + at2 d b c) (at2 d f b + at2 d a c) (at2 d f c + at2 d a b) := rfl
    omega
  rw [gap3_zero] at g1
  omega

end Go.Proofs.Ytclffncimaigfaa
