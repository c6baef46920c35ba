/- The greatest gap, as the reference tells it; UltraOk. Conditions: as each theorem says. -/
import Derived.Test.YtclffncimaigfaaTreeX
namespace Go.Proofs.Ytclffncimaigfaa
set_option linter.unusedVariables false
set_option linter.unusedSimpArgs false
open Go.RowKit Go.Deep

set_option maxRecDepth 100000 in
set_option maxHeartbeats 2000000 in
theorem specWorstGap_in (lo hi db dc : Nat) (BB CC : Nat → Nat) (d : List (List Int)) (w : World) (hd : MMem lo hi w (.slice (some ⟨db, 0, none⟩) d.length dc) d) (hS : Space d) (hO : SOpen w db BB CC d) :
    Calls Try.prog 41 #[.slice (some ⟨db, 0, none⟩) d.length dc] w (WgP d w) := by
  have hn := hS.six
  have cs := specSpaceOk_any lo hi _ d w hd
  rw [decP_yes hS] at cs
  have HCS := Lib.hid <| cs
  have HW := Lib.hid (wg_down hS)
  have hg : ∀ (w' : World) (a b c e : Nat), Below w.heap.size w w' → a < d.length → b < d.length → c < d.length → e < d.length →
      Calls Try.prog 68 #[.slice (some ⟨db, 0, none⟩) d.length dc, .int .i64 a, .int .i64 b, .int .i64 c, .int .i64 e] w' (GapP d a b c e w') := fun w' a b c e h ha hb hc he => specGapOf_any lo hi db dc BB CC d a b c e w' (hd.fresh h) hS (hO.keep h) ha hb hc he
  have hbd : ∀ a b c e : Nat, a < d.length → b < d.length → c < d.length → e < d.length → 0 ≤ gapF d a b c e ∧ gapF d a b c e ≤ 120 := fun a b c e ha hb hc he => gap_bd hO ha hb hc he
  have HG := Lib.hid <| hg
  have HD := Lib.hid <| hbd
  have HGG : Hid (GG d 0) := by exact ⟨by omega, by omega⟩
  clear hg hbd hO cs hd hS
  go_enter Try.func41, Try.ntmps41
  go_wp2_with fail
  refine HCS.out.mono ?_
  rintro e w0 ⟨rfl, hd0⟩
  have H0 : Hid (Below w.heap.size w w0) := hd0.below _
  clear hd0 HCS
  go_wp2
  go_loopw [3, 4] (fun mv kv wr => ∃ k : Nat, k ≤ d.length ∧ kv = .int .i64 k ∧ mv = .int .i64 (wA d id 0 k) ∧ Hid (GG d (wA d id 0 k)) ∧ Hid (Below w.heap.size w wr)) (fun _ kv _ => d.length - (intOf kv).toNat)
  case atStart => exact ⟨0, Nat.zero_le _, rfl, rfl, HGG, H0⟩
  case round =>
    clear HGG H0
    obtain ⟨a, hak, rfl, rfl, HGG, H0⟩ := hrel
    by_cases hal : a < d.length
    · have hai : (a : Int) < (d.length : Int) := by omega
      go_wp2
      go_loopw [3, 5] (fun mv kv wr => ∃ k : Nat, k ≤ a ∧ kv = .int .i64 k ∧ mv = .int .i64 (wB d id a (wA d id 0 a) k) ∧ Hid (GG d (wB d id a (wA d id 0 a) k)) ∧ Hid (Below w.heap.size w wr)) (fun _ kv _ => a - (intOf kv).toNat)
      case atStart => exact ⟨0, Nat.zero_le _, rfl, rfl, HGG, H0⟩
      case round =>
        clear HGG H0
        obtain ⟨b, hbk, rfl, rfl, HGG, H0⟩ := hrel
        generalize hA : wA d id 0 a = mA at *
        by_cases hbl : b < a
        · have hbi : (b : Int) < (a : Int) := by omega
          go_wp2
          go_loopw [3, 6] (fun mv kv wr => ∃ k : Nat, k ≤ b ∧ kv = .int .i64 k ∧ mv = .int .i64 (wC d id a b (wB d id a mA b) k) ∧ Hid (GG d (wC d id a b (wB d id a mA b) k)) ∧ Hid (Below w.heap.size w wr)) (fun _ kv _ => b - (intOf kv).toNat)
          case atStart => exact ⟨0, Nat.zero_le _, rfl, rfl, HGG, H0⟩
          case round =>
            clear HGG H0
            obtain ⟨c, hck, rfl, rfl, HGG, H0⟩ := hrel
            generalize hB : wB d id a mA b = mB at *
            by_cases hcl : c < b
            · have hci : (c : Int) < (b : Int) := by omega
              go_wp2
              go_loopw [3, 7] (fun mv kv wr => ∃ k : Nat, k ≤ c ∧ kv = .int .i64 k ∧ mv = .int .i64 (wE d a b c (wC d id a b mB c) k) ∧ Hid (GG d (wE d a b c (wC d id a b mB c) k)) ∧ Hid (Below w.heap.size w wr)) (fun _ kv _ => c - (intOf kv).toNat)
              case atStart => exact ⟨0, Nat.zero_le _, rfl, rfl, HGG, H0⟩
              case round =>
                clear HGG H0
                obtain ⟨e, hek, rfl, rfl, HGG, H0⟩ := hrel
                generalize hC : wC d id a b mB c = mC at *
                by_cases hel : e < c
                · have hei : (e : Int) < (c : Int) := by omega
                  have hS : wE d a b c mC (e + 1) = max (wE d a b c mC e) (gapF d a b c e) := rfl
                  have HS := Lib.hid hS
                  have HN : Hid (GG d (wE d a b c mC (e + 1))) := by show GG _ _; rw [hS]; exact max_step HGG.out (HD.out a b c e hal (by omega) (by omega) (by omega))
                  obtain ⟨g1, g2⟩ := HD.out a b c e hal (by omega) (by omega) (by omega)
                  obtain ⟨g3, g4⟩ := HGG.out
                  have hcall := HG.out _ a b c e H0.out hal (by omega) (by omega) (by omega)
                  have HCA := Lib.hid <| hcall
                  clear hcall hS HGG
                  generalize wE d a b c mC e = mE at *
                  go_wp2_with fail
                  refine HCA.out.mono ?_
                  rintro x w2 ⟨rfl, hb2⟩
                  have H2 := Lib.hid (below_chain H0.out hb2)
                  clear hb2 H0 HCA
                  go_wp2
                  go_roundw
                  case rel => exact ⟨e + 1, by omega, by go_num, by rw [HS.out], HN, H2⟩
                  case measure => simp [intOf]; omega
                · have hke : c = e := by omega
                  subst hke
                  have hx : wE d a b c mC c = wC d id a b mB (c + 1) := by rw [← hC]; rfl
                  clear hel hC
                  have HGG2 : Hid (GG d (wC d id a b mB (c + 1))) := by rw [← hx]; exact HGG
                  clear HGG
                  go_wp2
                  go_roundw
                  case rel => exact ⟨c + 1, by omega, by go_num, by rw [hx], HGG2, H0⟩
                  case measure => simp [intOf]; omega
            · have hke : b = c := by omega
              subst hke
              have hx : wC d id a b mB b = wB d id a mA (b + 1) := by rw [← hB]; rfl
              clear hcl hB
              have HGG2 : Hid (GG d (wB d id a mA (b + 1))) := by rw [← hx]; exact HGG
              clear HGG
              go_wp2
              go_roundw
              case rel => exact ⟨b + 1, by omega, by go_num, by rw [hx], HGG2, H0⟩
              case measure => simp [intOf]; omega
        · have hke : a = b := by omega
          subst hke
          have hx : wB d id a mA a = wA d id 0 (a + 1) := by rw [← hA]; rfl
          clear hbl hA
          have HGG2 : Hid (GG d (wA d id 0 (a + 1))) := by rw [← hx]; exact HGG
          clear HGG
          go_wp2
          go_roundw
          case rel => exact ⟨a + 1, by omega, by go_num, by rw [hx], HGG2, H0⟩
          case measure => simp [intOf]; omega
    · have hke : a = d.length := by omega
      subst hke
      go_wp2
      go_ret
      exact ⟨by rw [← HW.out]; rfl, H0.out⟩


set_option maxHeartbeats 1000000 in
theorem specWorstGap_any (lo hi : Nat) (v : Value) (d : List (List Int)) (w : World) (hd : MMem lo hi w v d) : Calls Try.prog 41 #[v] w (Gives (.int .i64 (wgV d)) w) := by
  by_cases hS : Space d
  · obtain ⟨db, dc, BB, CC, rfl, hO⟩ := hd.space hS
    rw [wgV_yes hS]
    exact specWorstGap_in lo hi db dc BB CC d w hd hS hO
  · have cs := specSpaceOk_any lo hi v d w hd
    rw [decP_no hS] at cs
    obtain ⟨db, dc, _, _, rfl, -⟩ := hd.open
    have HCS := Lib.hid <| cs
    have HV := Lib.hid <| wgV_no hS
    clear cs hd hS
    go_enter Try.func41, Try.ntmps41
    go_wp2_with fail
    refine (HCS.out).mono ?_
    rintro e w1 ⟨rfl, hd_w1⟩
    have HW1 : Hid (Dr _ w1) := hd_w1
    clear hd_w1
    go_wp2
    go_ret
    exact ⟨by rw [HV.out]; rfl, HW1.out.below _⟩
set_option maxHeartbeats 1000000 in
theorem specTreeOk_any (lo hi : Nat) (v : Value) (d : List (List Int)) (w : World) (hd : MMem lo hi w v d) : Calls Try.prog 45 #[v] w (Gives (.bool (decP (TrOk d))) w) := by
  have HC := Lib.hid <| specWorstGap_any lo hi v d w hd
  obtain ⟨db, dc, _, _, rfl, -⟩ := hd.open
  have HV := Lib.hid <| wgV_tr d
  clear hd
  go_enter Try.func45, Try.ntmps45
  go_wp2_with fail
  refine HC.out.mono ?_
  rintro e w1 ⟨rfl, hb⟩
  have HB := Lib.hid hb
  clear hb HC
  generalize wgV d = m at *
  go_wp2
  go_ret
  exact ⟨by rw [← HV.out]; rfl, HB.out⟩

def UltK (d : List (List Int)) (i k j : Nat) : Prop := at2 d i k ≤ max (at2 d i j) (at2 d j k)
def UltTo (d : List (List Int)) (i k j : Nat) : Prop :=
  (∀ a b c, a < i → b < d.length → c < d.length → UltK d a b c) ∧ (∀ b c, b < k → c < d.length → UltK d i b c) ∧ ∀ c, c < j → UltK d i k c
theorem ultTo_j {d : List (List Int)} {i k j : Nat} (h : UltTo d i k j) (hk : UltK d i k j) : UltTo d i k (j + 1) :=
  ⟨h.1, h.2.1, fun c hc => by by_cases e : c < j; exact h.2.2 c e; have : c = j := by omega
                              subst this; exact hk⟩
theorem ultTo_k {d : List (List Int)} {i k : Nat} (h : UltTo d i k d.length) : UltTo d i (k + 1) 0 :=
  ⟨h.1, fun b c hb hc => by
    by_cases e : b < k
    · exact h.2.1 b c e hc
    · have : b = k := by omega
      subst this; exact h.2.2 c hc, fun c hc => absurd hc (by omega)⟩
theorem ultTo_i {d : List (List Int)} {i : Nat} (h : UltTo d i d.length 0) : UltTo d (i + 1) 0 0 :=
  ⟨fun a b c ha hb hc => by
    by_cases e : a < i
    · exact h.1 a b c e hb hc
    · have : a = i := by omega
      subst this; exact h.2.1 b c hb hc, fun b c hb _ => absurd hb (by omega), fun c hc => absurd hc (by omega)⟩

set_option maxRecDepth 100000 in
set_option maxHeartbeats 2000000 in
theorem implUltraOk_any (lo hi : Nat) (v : Value) (d : List (List Int)) (w : World) (hd : MMem lo hi w v d) : Calls Try.prog 46 #[v] w (Quiet (.bool (decP (Ultra d))) w) := by
  have cs := isSpace_any lo hi v d w hd
  by_cases hS : Space d
  · rw [decP_yes hS] at cs
    obtain ⟨b, cap, BB, CC, rfl, hO⟩ := hd.space hS
    have hsix := hS.six
    have HCS := Lib.hid <| cs
    have HO := Lib.hid <| hO
    have HSP := Lib.hid hS
    have HT : Hid (UltTo d 0 0 0) := by exact ⟨fun a _ _ ha => absurd ha (by omega), fun b _ hb => absurd hb (by omega), fun c hc => absurd hc (by omega)⟩
    clear cs hO hd hS
    go_enter Try.func46, Try.ntmps46
    go_wp2_with fail
    refine (HCS.out).mono ?_
    rintro e w1 ⟨rfl, hd_w1⟩
    have HW1 : Hid (Dr _ w1) := hd_w1
    clear hd_w1
    go_wp2
    go_loopw [11] (fun iv wr => ∃ i : Nat, i ≤ d.length ∧ iv = .int .i64 i ∧ Hid (UltTo d i 0 0) ∧ Hid (Dr w wr)) (fun iv _ => d.length - (intOf iv).toNat)
    case atStart => exact ⟨0, Nat.zero_le _, rfl, HT, HW1⟩
    case round =>
      clear HW1 HT
      obtain ⟨i, hi', rfl, HT, HW1⟩ := hrel
      by_cases hil : i < d.length
      · have hii : (i : Int) < (d.length : Int) := by omega
        go_wp2
        go_loopw [16] (fun kv wr => ∃ k : Nat, k ≤ d.length ∧ kv = .int .i64 k ∧ Hid (UltTo d i k 0) ∧ Hid (Dr w wr)) (fun kv _ => d.length - (intOf kv).toNat)
        case atStart => exact ⟨0, Nat.zero_le _, rfl, HT, HW1⟩
        case round =>
          clear HW1 HT
          obtain ⟨k, hk', rfl, HT, HW1⟩ := hrel
          by_cases hkl : k < d.length
          · have hki : (k : Int) < (d.length : Int) := by omega
            go_wp2
            go_loopw [21] (fun jv wr => ∃ j : Nat, j ≤ d.length ∧ jv = .int .i64 j ∧ Hid (UltTo d i k j) ∧ Hid (Dr w wr)) (fun jv _ => d.length - (intOf jv).toNat)
            case atStart => exact ⟨0, Nat.zero_le _, rfl, HT, HW1⟩
            case round =>
              clear HW1 HT
              obtain ⟨j, hj', rfl, HT, HW1⟩ := hrel
              by_cases hjl : j < d.length
              · have hji : (j : Int) < (d.length : Int) := by omega
                have HOr : Hid (SOpen wr b BB CC d) := HO.out.dr HW1.out
                have c1 := HOr.out.top i hil
                have c2 := HOr.out.top j hjl
                have c3 := HOr.out.cell i k hil hkl
                have c4 := HOr.out.cell i j hil hjl
                have c5 := HOr.out.cell j k hjl hkl
                by_cases hu : UltK d i k j
                · have HT2 := Lib.hid (ultTo_j HT.out hu)
                  have hu' : at2 d i k ≤ max (at2 d i j) (at2 d j k) := hu
                  have hq : decide (max (at2 d i j) (at2 d j k) < at2 d i k) = false := by simp only [decide_eq_false_iff_not]; omega
                  clear hu hu' HT
                  go_wp2_with fail
                  go_region
                  all_goals go_wp2
                  go_roundw
                  case rel => exact ⟨j + 1, by omega, by go_num, HT2, HW1.out.trans ⟨1, rfl⟩⟩
                  case measure => simp [intOf]; omega
                · have HNO : Hid (decP (Ultra d) = false) := decP_no fun u => hu (u.ok i k j hil hkl hjl)
                  have hu' : ¬ at2 d i k ≤ max (at2 d i j) (at2 d j k) := hu
                  have hq : max (at2 d i j) (at2 d j k) < at2 d i k := by omega
                  clear hu hu' HT
                  go_wp2_with fail
                  go_region
                  all_goals go_wp2
                  go_ret
                  exact ⟨by rw [HNO.out]; rfl, HW1.out.trans ⟨1, rfl⟩⟩
              · have hke : d.length = j := by omega
                have HT2 : Hid (UltTo d i (k + 1) 0) := ultTo_k (by have := HT.out; rw [← hke] at this; exact this)
                clear HT hke
                go_wp2
                go_roundw
                case rel => exact ⟨k + 1, by omega, by go_num, HT2, HW1⟩
                case measure => simp [intOf]; omega
          · have hke : d.length = k := by omega
            have HT2 : Hid (UltTo d (i + 1) 0 0) := ultTo_i (by have := HT.out; rw [← hke] at this; exact this)
            clear HT hke
            go_wp2
            go_roundw
            case rel => exact ⟨i + 1, by omega, by go_num, HT2, HW1⟩
            case measure => simp [intOf]; omega
      · have hke : d.length = i := by omega
        have HY : Hid (decP (Ultra d) = true) := decP_yes ⟨HSP.out, fun a b c ha hb hc => by have := HT.out; rw [← hke] at this; exact this.1 a b c ha hb hc⟩
        clear HT hke
        go_wp2
        go_ret
        exact ⟨by rw [HY.out]; rfl, HW1.out⟩
  · rw [decP_no hS] at cs
    obtain ⟨b, cap, _, _, rfl, -⟩ := hd.open
    have HCS := Lib.hid <| cs
    have HV : Hid (decP (Ultra d) = false) := decP_no fun u => hS u.sp
    clear cs hS hd
    go_enter Try.func46, Try.ntmps46
    go_wp2_with fail
    refine (HCS.out).mono ?_
    rintro e w1 ⟨rfl, hd_w1⟩
    have HW1 : Hid (Dr _ w1) := hd_w1
    clear hd_w1
    go_wp2
    go_ret
    exact ⟨by rw [HV.out]; rfl, HW1.out⟩

end Go.Proofs.Ytclffncimaigfaa
