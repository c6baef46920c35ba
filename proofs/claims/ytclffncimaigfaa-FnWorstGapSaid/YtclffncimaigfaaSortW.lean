/- Three numbers sorted by the library's sort; the gap of four points. Conditions: as each theorem says. -/
import Derived.Test.YtclffncimaigfaaFar
import Derived.Test.YtclffncimaigfaaDraw2
import Derived.Test.YtclffncimaigfaaTreeLaw
import Derived.Lib.Strings
import Derived.Lib.Slices
import Derived.Lib.Small
import Derived.Lib.Walk
import Derived.Lib.BitFns
import Derived.BigQuiet
namespace Go.Proofs.Ytclffncimaigfaa
set_option linter.unusedVariables false
set_option linter.unusedSimpArgs false
open Go.RowKit Go.Deep

set_option maxHeartbeats 4000000 in
set_option maxRecDepth 100000 in
theorem bitsLen64_three (w : World) : Calls Try.prog 100 #[.int .u64 3] w fun e w' => (∃ l : Int, e = .returned (.int .i64 l)) ∧ w' = w := by
  go_enter Try.func100, Try.ntmps100
  go_wp2
  go_ret
  exact ⟨⟨_, rfl⟩, rfl⟩
set_option maxHeartbeats 400000 in
theorem bitsLen_three (w : World) : Calls Try.prog 89 #[.int .u64 3] w fun e w' => (∃ l : Int, e = .returned (.int .i64 l)) ∧ w' = w := by
  go_enter Try.func89, Try.ntmps89
  go_wp2_with (go_at_call 100; refine (bitsLen64_three _).mono ?_; rintro e w' ⟨⟨l, rfl⟩, rfl⟩)
  go_ret
  exact ⟨⟨l, rfl⟩, rfl⟩
set_option maxHeartbeats 400000 in
theorem isNaN_any (x : Int) (w : World) : Calls Try.prog 106 #[.int .i64 x] w (Quiet (.bool false) w) := by
  have hx : (x != x) = false := by simp
  go_enter Try.func106, Try.ntmps106
  go_wp2
  go_ret
  exact ⟨rfl, Dr.refl _⟩
set_option maxHeartbeats 400000 in
theorem cmpLess_any (x y : Int) (w : World) : Calls Try.prog 96 #[.int .i64 x, .int .i64 y] w (Quiet (.bool (decide (x < y))) w) := by
  have hx : (x != x) = false := by simp
  have hy : (y != y) = false := by simp
  by_cases h : x < y
  · have HV : Hid (decide (x < y) = true) := by show _ = _; simpa using h
    go_enter Try.func96, Try.ntmps96
    go_wp2
    go_ret
    exact ⟨by rw [HV.out]; rfl, Dr.refl _⟩
  · have hd : decide (x < y) = false := by simpa using h
    go_enter Try.func96, Try.ntmps96
    go_wp2
    go_ret
    exact ⟨rfl, Dr.refl _⟩

/-- Three numbers in some order. -/
def T3 (x y z : Int) (zs : List Int) : Prop :=
  ∃ a b c, zs = [a, b, c] ∧ a + b + c = x + y + z ∧ max (max a b) c = max (max x y) z ∧ min (min a b) c = min (min x y) z
theorem T3.len {x y z : Int} {zs : List Int} (h : T3 x y z zs) : zs.length = 3 := by
  obtain ⟨a, b, c, rfl, _⟩ := h
  rfl
def Kin (i j : Nat) (zs : List Int) : Prop := ∀ p q, p < q → q ≤ i → q ≠ j → iat zs p ≤ iat zs q
theorem kin_out {i j : Nat} {zs : List Int} (h : Kin i j zs) (hj : j = 0 ∨ ¬ iat zs j < iat zs (j - 1)) : ∀ p q, p < q → q < i + 1 → iat zs p ≤ iat zs q := by
  intro p q hpq hqi
  by_cases e : q = j
  · subst e
    rcases hj with rfl | hj
    · omega
    · by_cases e2 : p = q - 1
      · subst e2; omega
      · have := h p (q - 1) (by omega) (by omega) (by omega)
        omega
  · exact h p q hpq (by omega) e
theorem swap3 {x y z : Int} {i j : Nat} {zs : List Int} (hT : T3 x y z zs) (hj : 0 < j) (hji : j ≤ i) (hi : i ≤ 2) (hK : Kin i j zs) (hlt : iat zs j < iat zs (j - 1)) :
    T3 x y z ((zs.set j (iat zs (j - 1))).set (j - 1) (iat zs j)) ∧ Kin i (j - 1) ((zs.set j (iat zs (j - 1))).set (j - 1) (iat zs j)) := by
  obtain ⟨a, b, c, rfl, h1, h2, h3⟩ := hT
  have hjc : j = 1 ∨ j = 2 := by omega
  rcases hjc with rfl | rfl
  · have hlt' : b < a := hlt
    refine ⟨⟨b, a, c, rfl, by omega, by omega, by omega⟩, ?_⟩
    show Kin i 0 [b, a, c]
    intro p q hpq hqi hne
    have hc : (p = 0 ∧ q = 1) ∨ (p = 0 ∧ q = 2) ∨ (p = 1 ∧ q = 2) := by omega
    rcases hc with ⟨rfl, rfl⟩ | ⟨rfl, rfl⟩ | ⟨rfl, rfl⟩
    · show b ≤ a; omega
    · have : iat [a, b, c] 1 ≤ iat [a, b, c] 2 := hK 1 2 (by omega) hqi (by omega)
      exact this
    · have : iat [a, b, c] 0 ≤ iat [a, b, c] 2 := hK 0 2 (by omega) hqi (by omega)
      exact this
  · have hlt' : c < b := hlt
    refine ⟨⟨a, c, b, rfl, by omega, by omega, by omega⟩, ?_⟩
    show Kin i 1 [a, c, b]
    intro p q hpq hqi hne
    have hc : (p = 0 ∧ q = 2) ∨ (p = 1 ∧ q = 2) := by omega
    rcases hc with ⟨rfl, rfl⟩ | ⟨rfl, rfl⟩
    · have : iat [a, b, c] 0 ≤ iat [a, b, c] 1 := hK 0 1 (by omega) (by omega) (by omega)
      exact this
    · show c ≤ b; omega

def Ins3 (lo hi b n c : Nat) (x y z : Int) (w : World) (i : Nat) (wr : World) : Prop :=
  (∃ zs, T3 x y z zs ∧ (∀ p q, p < q → q < i → iat zs p ≤ iat zs q) ∧ IMem lo hi wr (.slice (some ⟨b, 0, none⟩) n c) zs) ∧ Chg b (b + 1) w wr
def InsJ (lo hi b n c : Nat) (x y z : Int) (w : World) (i j : Nat) (wr : World) : Prop :=
  (∃ zs, T3 x y z zs ∧ Kin i j zs ∧ IMem lo hi wr (.slice (some ⟨b, 0, none⟩) n c) zs) ∧ Chg b (b + 1) w wr

set_option maxHeartbeats 2000000 in
theorem ins3_any (lo hi b n c : Nat) (hn3 : n = 3) (x y z : Int) (w : World) (h : IMem lo hi w (.slice (some ⟨b, 0, none⟩) n c) [x, y, z]) :
    Calls Try.prog 90 #[.slice (some ⟨b, 0, none⟩) n c, .int .i64 0, .int .i64 3] w fun e w' => e = .returned (.tuple #[]) ∧ Ins3 lo hi b n c x y z w 3 w' := by
  have HN3 := Lib.hid hn3
  clear hn3
  have H0 : Hid (Ins3 lo hi b n c x y z w 1 w) := ⟨⟨_, ⟨x, y, z, rfl, rfl, rfl, rfl⟩, fun p q h1 h2 => by omega, h⟩, Chg.refl _ _ _⟩
  clear h
  go_enter Try.func90, Try.ntmps90
  go_wp2
  go_loopw [6] (fun iv wr => ∃ i : Nat, 1 ≤ i ∧ i ≤ 3 ∧ iv = .int .i64 i ∧ Hid (Ins3 lo hi b n c x y z w i wr)) (fun iv _ => 3 - (intOf iv).toNat)
  case atStart => exact ⟨1, by omega, by omega, rfl, H0⟩
  case round =>
    clear H0
    obtain ⟨i, hi1, hi3, rfl, HI⟩ := hrel
    by_cases hlt : i < 3
    · have hii : (i : Int) < 3 := by omega
      have HJ0 : Hid (InsJ lo hi b n c x y z w i i wr) := by
        obtain ⟨⟨zs, h1, h2, h3⟩, h4⟩ := HI.out
        exact ⟨⟨zs, h1, fun p q hpq hqi hne => h2 p q hpq (by omega), h3⟩, h4⟩
      clear HI
      go_wp2
      go_loopw [7] (fun jv wr => ∃ j : Nat, j ≤ i ∧ jv = .int .i64 j ∧ Hid (InsJ lo hi b n c x y z w i j wr)) (fun jv _ => (intOf jv).toNat)
      case atStart => exact ⟨i, Nat.le_refl _, rfl, HJ0⟩
      case round =>
        clear HJ0
        obtain ⟨j, hji, rfl, HJ⟩ := hrel
        by_cases hj0 : 0 < j
        · have hj0' : (0 : Int) < (j : Int) := by omega
          obtain ⟨⟨zs, hT, hK, hM⟩, hC⟩ := id HJ.out
          have hz3 := hT.len
          have c1 := hM.cellAt (i := j) (by rw [hT.len]; omega)
          have c2 := hM.cellAt (i := j - 1) (by rw [hT.len]; omega)
          have z1 := hM.frozenAt j
          have z2 := hM.frozenAt (j - 1)
          have hm3 : (j : Int) < (n : Int) := by have := HN3.out; omega
          have hm4 : (j : Int) - 1 < (n : Int) := by have := HN3.out; omega
          have hm5 : (j : Int) ≤ 2 := by omega
          by_cases hless : iat zs j < iat zs (j - 1)
          · have hv : ∀ W, Calls Try.prog 96 #[.int .i64 (iat zs j), .int .i64 (iat zs (j - 1))] W (Quiet (.bool true) W) := fun W => by
              have := cmpLess_any (iat zs j) (iat zs (j - 1)) W
              rwa [decide_eq_true hless] at this
            have HV := Lib.hid <| hv
            have HN : Hid (∀ q, InsJ lo hi b n c x y z w i (j - 1) (((wr.drewN q).setCell ⟨b, j, none⟩ (.int .i64 (iat zs (j - 1)))).setCell ⟨b, j - 1, none⟩ (.int .i64 (iat zs j)))) := by
              intro q
              have hs := swap3 hT hj0 hji (by omega) hK hless
              refine ⟨⟨_, hs.1, hs.2, ?_⟩, ((hC.trans (Dr.chg ⟨q, rfl⟩)).setCell (p := ⟨b, j, none⟩) (Nat.le_refl _) (Nat.lt_succ_self _) _).setCell (p := ⟨b, j - 1, none⟩) (Nat.le_refl _) (Nat.lt_succ_self _) _⟩
              have k1 := (hM.drewN q).set (ys := zs.set j (iat zs (j - 1))) (by simp) j (by rw [iat_set (by omega), if_pos rfl]) (fun j hj hne => by rw [iat_set hj, if_neg (fun e => hne e.symm)])
              exact k1.set (by simp) (j - 1) (by rw [iat_set (by rw [List.length_set]; omega), if_pos rfl]) (fun j hj hne => by rw [iat_set hj, if_neg (fun e => hne e.symm)])
            clear hv hless hT hK hM hC HJ hz3
            generalize iat zs (j - 1) = u0 at *
            generalize iat zs j = u1 at *
            go_wp2
            go_quiet (first | (go_at_call 96; exact quiet_in (HV.out _)))
            go_wp2
            go_region
            all_goals go_wp2
            go_roundw
            case rel => exact ⟨j - 1, by omega, by congr 1; omega, HN.out (nq + 1)⟩
            case measure => simp [intOf]; omega
          · have hv : ∀ W, Calls Try.prog 96 #[.int .i64 (iat zs j), .int .i64 (iat zs (j - 1))] W (Quiet (.bool false) W) := fun W => by
              have := cmpLess_any (iat zs j) (iat zs (j - 1)) W
              rwa [decide_eq_false hless] at this
            have HV := Lib.hid <| hv
            have HN : Hid (∀ q, Ins3 lo hi b n c x y z w (i + 1) (wr.drewN q)) := fun q => ⟨⟨zs, hT, kin_out hK (Or.inr hless), hM.drewN q⟩, hC.trans (Dr.chg ⟨q, rfl⟩)⟩
            clear hv hless hT hK hM hC HJ hz3
            generalize iat zs (j - 1) = u0 at *
            generalize iat zs j = u1 at *
            go_wp2
            go_quiet (first | (go_at_call 96; exact quiet_in (HV.out _)))
            go_wp2
            go_roundw
            case rel => exact ⟨i + 1, by omega, by omega, by go_num, HN.out nq⟩
            case measure => simp [intOf]; omega
        · have hje : j = 0 := by omega
          subst hje
          have HN : Hid (∀ q, Ins3 lo hi b n c x y z w (i + 1) (wr.drewN q)) := by
            intro q
            obtain ⟨⟨zs, hT, hK, hM⟩, hC⟩ := HJ.out
            exact ⟨⟨zs, hT, kin_out hK (Or.inl rfl), hM.drewN q⟩, hC.trans (Dr.chg ⟨q, rfl⟩)⟩
          clear HJ
          go_wp2
          go_quiet (fail)
          go_wp2
          go_roundw
          case rel => exact ⟨i + 1, by omega, by omega, by go_num, HN.out nq⟩
          case measure => simp [intOf]; omega
    · have hi3e : i = 3 := by omega
      subst hi3e
      go_wp2
      go_end0
      exact ⟨rfl, HI.out⟩

set_option maxHeartbeats 1000000 in
theorem pdq3_any (lo hi b n c : Nat) (hn3 : n = 3) (x y z l : Int) (w : World) (h : IMem lo hi w (.slice (some ⟨b, 0, none⟩) n c) [x, y, z]) :
    Calls Try.prog 88 #[.slice (some ⟨b, 0, none⟩) n c, .int .i64 0, .int .i64 3, .int .i64 l] w fun e w' => e = .returned (.tuple #[]) ∧ Ins3 lo hi b n c x y z w 3 w' := by
  have HC := Lib.hid <| ins3_any lo hi b n c hn3 x y z w h
  clear h hn3
  go_enter Try.func88, Try.ntmps88
  go_wp2
  go_loopw [1, 2] (fun av bv wr => av = .int .i64 0 ∧ bv = .int .i64 3 ∧ wr = w) (fun _ _ _ => 0)
  case atStart => exact ⟨rfl, rfl, rfl⟩
  case round =>
    obtain ⟨rfl, rfl, rfl⟩ := hrel
    go_wp2_with fail
    refine HC.out.mono ?_
    rintro e w1 ⟨rfl, hd1⟩
    have H1 := Lib.hid hd1
    clear hd1
    go_wp2
    (try simp only [Exit.inBlock, Exit.then]); refine bodyPost_ret (results_none rfl _ _ _) rfl ?_
    exact ⟨rfl, H1.out⟩

set_option maxHeartbeats 1000000 in
theorem sort3_any (lo hi b n c : Nat) (hn3 : n = 3) (x y z : Int) (w : World) (h : IMem lo hi w (.slice (some ⟨b, 0, none⟩) n c) [x, y, z]) :
    Calls Try.prog 86 #[.slice (some ⟨b, 0, none⟩) n c] w fun e w' => e = .returned (.tuple #[]) ∧ Ins3 lo hi b n c x y z w 3 w' := by
  have hc : ∀ l : Int, Calls Try.prog 88 #[.slice (some ⟨b, 0, none⟩) n c, .int .i64 0, .int .i64 3, .int .i64 l] w fun e w' => e = .returned (.tuple #[]) ∧ Ins3 lo hi b n c x y z w 3 w' := fun l => pdq3_any lo hi b n c hn3 x y z l w h
  have HC := Lib.hid <| hc
  have hni : (n : Int) = 3 := by omega
  clear h hc hn3
  go_enter Try.func86, Try.ntmps86
  go_wp2_with fail
  refine (bitsLen_three _).mono ?_
  rintro e w1 ⟨⟨l, rfl⟩, rfl⟩
  go_wp2_with fail
  refine (HC.out l).mono ?_
  rintro e w2 ⟨rfl, hd2⟩
  have H2 := Lib.hid hd2
  clear hd2
  go_wp2
  go_end0
  exact ⟨rfl, H2.out⟩

theorem gap3_sorted {x y z : Int} {zs : List Int} (hT : T3 x y z zs) (h : ∀ p q, p < q → q < 3 → iat zs p ≤ iat zs q) : iat zs 2 - iat zs 1 = gap3 x y z := by
  obtain ⟨a, b, c, rfl, h1, h2, h3⟩ := hT
  have g1 : a ≤ b := h 0 1 (by omega) (by omega)
  have g2 : b ≤ c := h 1 2 (by omega) (by omega)
  show c - b = gap3 x y z
  unfold gap3
  omega
end Go.Proofs.Ytclffncimaigfaa
