/- What impl.WithoutPoint hands back. Conditions: as each theorem says. -/
import Derived.Test.YtclffncimaigfaaDel
import Derived.Test.YtclffncimaigfaaTreeLaw
namespace Go.Proofs.Ytclffncimaigfaa
set_option linter.unusedVariables false
set_option linter.unusedSimpArgs false
open Go.RowKit Go.Deep

/-- A space without a point. -/
def woR (d : List (List Int)) (p q : Nat) : List Int := genL (fun i => at2 d (sk p q) (sk p i)) (d.length - 1)
def woL (d : List (List Int)) (p : Nat) : List (List Int) := genM (woR d p) (d.length - 1)
theorem woL_length (d : List (List Int)) (p : Nat) : (woL d p).length = d.length - 1 := genM_length _ _
theorem at2_woL {d : List (List Int)} {p a b : Nat} (ha : a < d.length - 1) (hb : b < d.length - 1) : at2 (woL d p) a b = at2 d (sk p a) (sk p b) := by
  unfold at2 woL
  rw [row_genM ha]
  unfold woR
  rw [iat_genL hb]
  rfl
theorem sk_inj {p a b : Nat} : sk p a = sk p b ↔ a = b := by
  unfold sk
  constructor
  · intro h
    split at h <;> split at h <;> omega
  · intro h
    rw [h]
theorem woL_space {d : List (List Int)} (h : Space d) (h2 : 2 ≤ d.length) (p : Nat) : Space (woL d p) := by
  have hl := woL_length d p
  have h6 := h.six
  refine ⟨⟨by omega, by omega, fun i hi => ?_, fun i j hi hj => ?_⟩, fun i j k hi hj hk => ?_⟩
  · rw [hl] at hi ⊢
    unfold woL
    rw [row_genM hi]
    exact genL_length _ _
  · rw [hl] at hi hj
    obtain ⟨e1, e2, e3, e4⟩ := h.ent (sk p i) (sk p j) (sk_lt hi) (sk_lt hj)
    refine ⟨by rw [at2_woL hi hj]; exact e1, by rw [at2_woL hi hj]; exact e2, by rw [at2_woL hi hj, at2_woL hj hi]; exact e3, by rw [at2_woL hi hj, e4]; exact sk_inj⟩
  · rw [hl] at hi hj hk
    rw [at2_woL hi hk, at2_woL hi hj, at2_woL hj hk]
    exact h.tri _ _ _ (sk_lt hi) (sk_lt hj) (sk_lt hk)
/-- How many rows there are when i rows were looked at. -/
def cnt (p i : Nat) : Nat := if i ≤ p then i else i - 1
theorem cnt_skip {p : Nat} : cnt p (p + 1) = cnt p p := by unfold cnt; rw [if_neg (by omega), if_pos (Nat.le_refl _)]; omega
theorem cnt_step {p i : Nat} (h : i ≠ p) : cnt p (i + 1) = cnt p i + 1 ∧ sk p (cnt p i) = i := by
  unfold cnt sk
  by_cases e : i < p
  · rw [if_pos (by omega), if_pos (by omega), if_pos e]; exact ⟨rfl, rfl⟩
  · rw [if_neg (by omega), if_neg (by omega), if_neg (by omega)]; omega
theorem cnt_end {p n : Nat} (h : p < n) : cnt p n = n - 1 := by unfold cnt; rw [if_neg (by omega)]
theorem cnt_le {p i : Nat} : cnt p i ≤ i := by unfold cnt; split <;> omega

def WoP (d : List (List Int)) (p : Nat) (w : World) (e : Ending) (w' : World) : Prop := ∃ r, e = .returned (.tuple #[r, .bool true]) ∧ MMem w.heap.size w'.heap.size w' r (woL d p) ∧ Below w.heap.size w w'

set_option maxRecDepth 100000 in
set_option maxHeartbeats 2000000 in
theorem implWithout_in (lo hi : Nat) (v : Value) (d : List (List Int)) (p : Nat) (w : World) (hd : MMem lo hi w v d) (hS : Space d) (hp : p < d.length) (h2 : 2 ≤ d.length) :
    Calls Try.prog 42 #[v, .int .i64 p] w (WoP d p w) := by
  have call := hasPoint_any lo hi v d p w hd
  have hpt : Pt d (p : Int) := ⟨hS, by omega, by omega⟩
  rw [decP_yes hpt] at call
  clear hpt
  obtain ⟨db, dc, BB, CC, rfl, hO⟩ := hd.space hS
  have h6 := hS.six
  have h2i : decide (d.length < 2) = false := decide_eq_false (by omega)
  have h2n : decide ((d.length : Int) < 2) = false := decide_eq_false (by omega)
  have hpi : (p : Int) < (d.length : Int) := by omega
  have HC := Lib.hid <| call
  have HO := Lib.hid <| hO
  clear call hO hd hS
  go_enter Try.func42, Try.ntmps42
  go_wp2_with fail
  refine HC.out.mono ?_
  rintro e w1 ⟨rfl, hd1⟩
  have hs1 : w1.heap.size = w.heap.size := by rw [hd1.heap]
  have HB1 : Hid (Below w.heap.size w (w1.alloc (.cells #[] 37))) := (hd1.below _).alloc (by omega) _
  have HM1 : Hid (MMem w.heap.size (w1.alloc (.cells #[] 37)).heap.size (w1.alloc (.cells #[] 37)) (.slice (some ⟨w1.heap.size, 0, none⟩) 0 0) (genM (woR d p) (cnt p 0))) := by
    have : cnt p 0 = 0 := by unfold cnt; rw [if_pos (by omega)]
    rw [this]
    exact (MMem.empty w1).widen (by omega) (by simp)
  clear hd1 HC hs1
  go_wp2
  go_loopw [6, 21] (fun ov iv wr => ∃ i : Nat, i ≤ d.length ∧ iv = .int .i64 i ∧ Hid (MMem w.heap.size wr.heap.size wr ov (genM (woR d p) (cnt p i))) ∧ Hid (Below w.heap.size w wr)) (fun _ iv _ => d.length - (intOf iv).toNat)
  case atStart => exact ⟨0, Nat.zero_le _, rfl, HM1, HB1⟩
  case round =>
    clear HM1 HB1 h2i h2n
    obtain ⟨i, hi, rfl, HM, HB⟩ := hrel
    by_cases hil : i < d.length
    · have hii : (i : Int) < (d.length : Int) := by omega
      have HOr := Lib.hid (HO.out.keep HB.out)
      have c1 := HOr.out.top i hil
      by_cases hip : i = p
      · have hb : ((i : Int) != (p : Int)) = false := by rw [hip]; simp
        have hm := HM.out
        rw [show cnt p i = cnt p (i + 1) by rw [hip, cnt_skip]] at hm
        have HM2 := Lib.hid hm
        clear hip HM HOr hm
        go_wp2
        go_roundw
        case rel => exact ⟨i + 1, by omega, by go_num, HM2, HB⟩
        case measure => simp [intOf]; omega
      · have hb : ((i : Int) != (p : Int)) = true := by simpa using (show ¬ (i : Int) = (p : Int) by omega)
        obtain ⟨hc1, hc2⟩ := cnt_step hip
        have hcl := cnt_le (p := p) (i := i)
        have HC1 := Lib.hid hc1
        have HC2 := Lib.hid hc2
        have hs := HB.out.size
        have hrl := HOr.out.len i hil
        have HRL := Lib.hid hrl
        clear hip hc1 hc2 hrl
        go_wp2_with (at_builtin; refine wp_app _ rfl _ _ rfl wr.heap.size (wr.heap.size + 1) _ [] rfl (IMem.empty _) (BB i) 0 d.length _ (row d i) rfl HRL.out (fun q hq => by rw [Nat.zero_add]; exact (HOr.out.keep ((Below.refl _ _).alloc (Nat.le_refl _) _)).cell i q hil hq) (by simp; omega) (by simp) ?_; intro v4 w4 hI4 hB4 _; rw [List.nil_append] at hI4; obtain ⟨rb, rc, rfl, hr0, hr1, -⟩ := id hI4.open; rw [HRL.out] at hI4 ⊢; have HI4 := Lib.hid hI4; have HR0 : Hid (wr.heap.size ≤ rb ∧ rb < w4.heap.size) := ⟨hr0, hr1⟩; have HB4 : Hid (Below wr.heap.size wr w4) := (((Below.refl wr.heap.size wr).alloc (Nat.le_refl _) _).trans hB4); clear hI4 hB4 hr0 hr1)
        refine (delete_any _ _ rb d.length rc p (p + 1) (row d i) w4 HI4.out HRL.out hp rfl (by omega)).mono ?_
        rintro e w5 ⟨rfl, ⟨L, l1, l2, l3⟩, hch⟩
        have hL : L = woR d p (cnt p i) := ext_iat (by rw [l1]; exact (genL_length _ _).symm) (fun q hq => by
          rw [l1] at hq
          rw [l2 q hq]
          unfold woR
          rw [iat_genL hq, HC2.out]
          rfl)
        subst hL
        have HL5 := Lib.hid l3.top
        have HB5 : Hid (Below wr.heap.size wr w5) := HB4.out.trans (hch.below HB4.out.size HR0.out.1)
        have HM5 := Lib.hid (HM.out.fresh HB5.out)
        have hml : (genM (woR d p) (cnt p i)).length = cnt p i := genM_length _ _
        have hs5 := HB5.out.size
        clear l1 l2 l3 hch HI4 HB4 HM HOr HR0 c1
        go_wp2_with (at_builtin; refine wp_appM _ rfl _ _ rfl w.heap.size wr.heap.size _ _ _ _ (woR d p (cnt p i)) rfl (HM5.out.alloc _) (HL5.out.alloc _) hs w5.heap.size 1 rfl new_cell (by omega) (by simp; omega) ?_; intro v6 w6 hI6 hB6; rw [← genM_succ (woR d p), ← HC1.out] at hI6; have HM6 := Lib.hid hI6; have HB6 := Lib.hid (((below_chain HB.out HB5.out).alloc (by omega) _).trans hB6); clear hI6 hB6 HL5 HM5 hs5)
        go_wp2
        go_roundw
        case rel => exact ⟨i + 1, by omega, by go_num, HM6, HB6⟩
        case measure => simp [intOf]; omega
    · have hie : d.length = i := by omega
      have h := HM.out
      rw [← hie, cnt_end hp] at h
      have HM2 := Lib.hid h
      clear h
      clear hie HM
      go_wp2
      go_ret2
      exact ⟨_, rfl, HM2.out, HB.out⟩

theorem gap_woL {d : List (List Int)} {p a b c e : Nat} (ha : a < d.length - 1) (hb : b < d.length - 1) (hc : c < d.length - 1) (he : e < d.length - 1) : gapF (woL d p) a b c e = gapF d (sk p a) (sk p b) (sk p c) (sk p e) := by
  unfold gapF
  rw [at2_woL ha hb, at2_woL hc he, at2_woL ha hc, at2_woL hb he, at2_woL ha he, at2_woL hb hc]
theorem wg_woL (d : List (List Int)) (p : Nat) : wgF (woL d p) ≤ wgF d :=
  wg_le.2 ⟨wg_pos, fun a ha b hb c hc e he => by
    rw [woL_length] at ha hb hc he
    rw [gap_woL ha hb hc he]
    exact gap_le_wg (sk_lt ha) (sk_lt hb) (sk_lt hc) (sk_lt he)⟩

end Go.Proofs.Ytclffncimaigfaa
