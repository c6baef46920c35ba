/- The greatest gap, as the program and its reference tell it. Conditions: as each theorem says. -/
import Derived.Test.YtclffncimaigfaaSortW
import Derived.Test.YtclffncimaigfaaTogW
import Derived.StillTailTactics
namespace Go.Proofs.Ytclffncimaigfaa
set_option linter.unusedVariables false
set_option linter.unusedSimpArgs false
open Go.RowKit Go.Deep

def s1F (d : List (List Int)) (a b c e : Nat) : Int := at2 d a b + at2 d c e
def s2F (d : List (List Int)) (a b c e : Nat) : Int := at2 d a c + at2 d b e
def s3F (d : List (List Int)) (a b c e : Nat) : Int := at2 d a e + at2 d b c
def TripP (d : List (List Int)) (a b c e : Nat) (w : World) (x : Ending) (w' : World) : Prop :=
  ∃ v, x = .returned v ∧ IMem w.heap.size w'.heap.size w' v [s1F d a b c e, s2F d a b c e, s3F d a b c e] ∧ Below w.heap.size w w'

set_option maxRecDepth 100000 in
set_option maxHeartbeats 2000000 in
theorem pairSums_any (d : List (List Int)) (db dc : Nat) (BB CC : Nat → Nat) (a b c e : Nat) (w : World) (hO : SOpen w db BB CC d) (ha : a < d.length) (hb : b < d.length) (hc : c < d.length) (he : e < d.length) :
    Calls Try.prog 85 #[.slice (some ⟨db, 0, none⟩) d.length dc, .int .i64 a, .int .i64 b, .int .i64 c, .int .i64 e] w (TripP d a b c e w) := by
  have HO := Lib.hid <| hO
  have c1 := HO.out.top a ha
  have c2 := HO.out.top b hb
  have c3 := HO.out.top c hc
  have c4 := HO.out.cell a b ha hb
  have c5 := HO.out.cell c e hc he
  have c6 := HO.out.cell a c ha hc
  have c7 := HO.out.cell b e hb he
  have c8 := HO.out.cell a e ha he
  have c9 := HO.out.cell b c hb hc
  have b4 := HO.out.bd a b ha hb
  have b5 := HO.out.bd c e hc he
  have b6 := HO.out.bd a c ha hc
  have b7 := HO.out.bd b e hb he
  have b8 := HO.out.bd a e ha he
  have b9 := HO.out.bd b c hb hc
  have hai : (a : Int) < (d.length : Int) := by omega
  have hbi : (b : Int) < (d.length : Int) := by omega
  have hci : (c : Int) < (d.length : Int) := by omega
  have hei : (e : Int) < (d.length : Int) := by omega
  clear hO
  have HT : Hid (∀ wd, Dr w wd → TripP d a b c e w (.returned (.slice (some ⟨w.heap.size, 0, none⟩) 3 3)) (wd.alloc (.cells #[.int .i64 (at2 d a b + at2 d c e), .int .i64 (at2 d a c + at2 d b e), .int .i64 (at2 d a e + at2 d b c)] 3))) := by
    rintro wd hd
    have hs : wd.heap.size = w.heap.size := by rw [hd.heap]
    refine ⟨_, rfl, ?_, (hd.below _).alloc (by omega) _⟩
    have := IMem.triple wd (at2 d a b + at2 d c e) (at2 d a c + at2 d b e) (at2 d a e + at2 d b c)
    rw [hs] at this
    exact this.widen (Nat.le_refl _) (by simp [hs])
  go_enter Try.func85, Try.ntmps85
  go_wp2_with fail
  go_still_tail 45, (by kernel_rfl)
  change wpList _ _ _ _ _ w.drew
  have hd : Dr w w.drew := ⟨1, rfl⟩
  have hds : w.drew.heap.size = w.heap.size := rfl
  generalize w.drew = wd at hd hds ⊢
  clear c1 c2 c3 c4 c5 c6 c7 c8 c9
  go_wp2
  go_ret
  exact HT.out wd hd

theorem t3_bd {x y z : Int} {zs : List Int} (hT : T3 x y z zs) (hx : 0 ≤ x ∧ x ≤ 120) (hy : 0 ≤ y ∧ y ≤ 120) (hz : 0 ≤ z ∧ z ≤ 120) : (0 ≤ iat zs 1 ∧ iat zs 1 ≤ 120) ∧ (0 ≤ iat zs 2 ∧ iat zs 2 ≤ 120) := by
  obtain ⟨a, b, c, rfl, h1, h2, h3⟩ := hT
  show (0 ≤ b ∧ b ≤ 120) ∧ (0 ≤ c ∧ c ≤ 120)
  omega
theorem s_bd {w : World} {db : Nat} {BB CC : Nat → Nat} {d : List (List Int)} (hO : SOpen w db BB CC d) {a b c e : Nat} (ha : a < d.length) (hb : b < d.length) (hc : c < d.length) (he : e < d.length) :
    (0 ≤ s1F d a b c e ∧ s1F d a b c e ≤ 120) ∧ (0 ≤ s2F d a b c e ∧ s2F d a b c e ≤ 120) ∧ (0 ≤ s3F d a b c e ∧ s3F d a b c e ≤ 120) := by
  have b4 := hO.bd a b ha hb
  have b5 := hO.bd c e hc he
  have b6 := hO.bd a c ha hc
  have b7 := hO.bd b e hb he
  have b8 := hO.bd a e ha he
  have b9 := hO.bd b c hb hc
  unfold s1F s2F s3F
  omega
/-- What gapOf leaves. -/
def GapP (d : List (List Int)) (a b c e : Nat) (w : World) (x : Ending) (w' : World) : Prop := x = .returned (.int .i64 (gapF d a b c e)) ∧ Below w.heap.size w w'
set_option maxHeartbeats 1000000 in
theorem gapOf_any (d : List (List Int)) (db dc : Nat) (BB CC : Nat → Nat) (a b c e : Nat) (w : World) (hO : SOpen w db BB CC d) (ha : a < d.length) (hb : b < d.length) (hc : c < d.length) (he : e < d.length) :
    Calls Try.prog 79 #[.slice (some ⟨db, 0, none⟩) d.length dc, .int .i64 a, .int .i64 b, .int .i64 c, .int .i64 e] w (GapP d a b c e w) := by
  have HC := Lib.hid <| pairSums_any d db dc BB CC a b c e w hO ha hb hc he
  have HSB := Lib.hid (s_bd hO ha hb hc he)
  clear hO
  go_enter Try.func79, Try.ntmps79
  go_wp2_with fail
  refine HC.out.mono ?_
  rintro x w1 ⟨v, rfl, hI, hb1⟩
  obtain ⟨tb, tc, rfl, ht0, ht1, -⟩ := id hI.open
  have hsort := sort3_any _ _ tb 3 tc rfl _ _ _ w1 hI
  have HS := Lib.hid <| hsort
  have HB1 : Hid (Below w.heap.size w w1 ∧ w.heap.size ≤ tb) := ⟨hb1, ht0⟩
  clear hsort hI hb1 ht0 ht1 HC
  go_wp2_with fail
  refine HS.out.mono ?_
  rintro x w2 ⟨rfl, ⟨zs, hT, hK, hM⟩, hch⟩
  have c1 := hM.cellAt (i := 1) (by rw [hT.len]; omega)
  have c2 := hM.cellAt (i := 2) (by rw [hT.len]; omega)
  have hg := gap3_sorted hT hK
  have hbd := t3_bd hT HSB.out.1 HSB.out.2.1 HSB.out.2.2
  have HB2 : Hid (Below w.heap.size w w2) := HB1.out.1.trans (hch.below HB1.out.1.size HB1.out.2)
  have HG : Hid (iat zs 2 - iat zs 1 = gapF d a b c e) := hg
  clear HS hM hT hK hch HB1 hg
  generalize iat zs 1 = z1 at *
  generalize iat zs 2 = z2 at *
  go_wp2_with fail
  go_quiet (fail)
  go_wp2
  go_ret
  exact ⟨by rw [← HG.out]; rfl, below_drewN HB2.out _⟩

def WgP (d : List (List Int)) (w : World) (x : Ending) (w' : World) : Prop := x = .returned (.int .i64 (wgF d)) ∧ Below w.heap.size w w'
theorem gap_bd {w : World} {db : Nat} {BB CC : Nat → Nat} {d : List (List Int)} (hO : SOpen w db BB CC d) {a b c e : Nat} (ha : a < d.length) (hb : b < d.length) (hc : c < d.length) (he : e < d.length) : 0 ≤ gapF d a b c e ∧ gapF d a b c e ≤ 120 := by
  have h := s_bd hO ha hb hc he
  have h2 : gapF d a b c e = gap3 (s1F d a b c e) (s2F d a b c e) (s3F d a b c e) := rfl
  have h3 := h.1
  have h4 := h.2.1
  have h5 := h.2.2
  rw [h2]
  unfold gap3
  omega
def GG (d : List (List Int)) (m : Int) : Prop := 0 ≤ m ∧ m ≤ 120
theorem max_step {d : List (List Int)} {a b c e : Nat} {m : Int} (hm : GG d m) (hg : 0 ≤ gapF d a b c e ∧ gapF d a b c e ≤ 120) : GG d (max m (gapF d a b c e)) := by
  obtain ⟨h1, h2⟩ := hm
  exact ⟨by omega, by omega⟩

set_option maxRecDepth 100000 in
set_option maxHeartbeats 2000000 in
theorem worstGap_any (d : List (List Int)) (db dc : Nat) (BB CC : Nat → Nat) (w : World) (hO : SOpen w db BB CC d) (hn : d.length ≤ 6) :
    Calls Try.prog 66 #[.slice (some ⟨db, 0, none⟩) d.length dc] w (WgP d w) := by
  have hg : ∀ (w' : World) (a b c e : Nat), Below w.heap.size w w' → a < d.length → b < d.length → c < d.length → e < d.length →
      Calls Try.prog 79 #[.slice (some ⟨db, 0, none⟩) d.length dc, .int .i64 a, .int .i64 b, .int .i64 c, .int .i64 e] w' (GapP d a b c e w') := fun w' a b c e h ha hb hc he => gapOf_any d db dc BB CC a b c e w' (hO.keep h) ha hb hc he
  have hbd : ∀ a b c e : Nat, a < d.length → b < d.length → c < d.length → e < d.length → 0 ≤ gapF d a b c e ∧ gapF d a b c e ≤ 120 := fun a b c e ha hb hc he => gap_bd hO ha hb hc he
  have HG := Lib.hid <| hg
  have HD := Lib.hid <| hbd
  have H0 : Hid (Below w.heap.size w w) := Below.refl _ _
  have HGG : Hid (GG d 0) := by exact ⟨by omega, by omega⟩
  clear hg hbd hO
  go_enter Try.func66, Try.ntmps66
  go_wp2
  go_loopw [3, 10] (fun mv kv wr => ∃ k : Nat, k ≤ d.length ∧ kv = .int .i64 k ∧ mv = .int .i64 (wA d (fun _ => d.length) 0 k) ∧ Hid (GG d (wA d (fun _ => d.length) 0 k)) ∧ Hid (Below w.heap.size w wr)) (fun _ kv _ => d.length - (intOf kv).toNat)
  case atStart => exact ⟨0, Nat.zero_le _, rfl, rfl, HGG, H0⟩
  case round =>
    clear HGG H0
    obtain ⟨a, hak, rfl, rfl, HGG, H0⟩ := hrel
    by_cases hal : a < d.length
    · have hai : (a : Int) < (d.length : Int) := by omega
      go_wp2
      go_loopw [3, 15] (fun mv kv wr => ∃ k : Nat, k ≤ d.length ∧ kv = .int .i64 k ∧ mv = .int .i64 (wB d (fun _ => d.length) a (wA d (fun _ => d.length) 0 a) k) ∧ Hid (GG d (wB d (fun _ => d.length) a (wA d (fun _ => d.length) 0 a) k)) ∧ Hid (Below w.heap.size w wr)) (fun _ kv _ => d.length - (intOf kv).toNat)
      case atStart => exact ⟨0, Nat.zero_le _, rfl, rfl, HGG, H0⟩
      case round =>
        clear HGG H0
        obtain ⟨b, hbk, rfl, rfl, HGG, H0⟩ := hrel
        generalize hA : wA d (fun _ => d.length) 0 a = mA at *
        by_cases hbl : b < d.length
        · have hbi : (b : Int) < (d.length : Int) := by omega
          go_wp2
          go_loopw [3, 20] (fun mv kv wr => ∃ k : Nat, k ≤ d.length ∧ kv = .int .i64 k ∧ mv = .int .i64 (wC d (fun _ => d.length) a b (wB d (fun _ => d.length) a mA b) k) ∧ Hid (GG d (wC d (fun _ => d.length) a b (wB d (fun _ => d.length) a mA b) k)) ∧ Hid (Below w.heap.size w wr)) (fun _ kv _ => d.length - (intOf kv).toNat)
          case atStart => exact ⟨0, Nat.zero_le _, rfl, rfl, HGG, H0⟩
          case round =>
            clear HGG H0
            obtain ⟨c, hck, rfl, rfl, HGG, H0⟩ := hrel
            generalize hB : wB d (fun _ => d.length) a mA b = mB at *
            by_cases hcl : c < d.length
            · have hci : (c : Int) < (d.length : Int) := by omega
              go_wp2
              go_loopw [3, 25] (fun mv kv wr => ∃ k : Nat, k ≤ d.length ∧ kv = .int .i64 k ∧ mv = .int .i64 (wE d a b c (wC d (fun _ => d.length) a b mB c) k) ∧ Hid (GG d (wE d a b c (wC d (fun _ => d.length) a b mB c) k)) ∧ Hid (Below w.heap.size w wr)) (fun _ kv _ => d.length - (intOf kv).toNat)
              case atStart => exact ⟨0, Nat.zero_le _, rfl, rfl, HGG, H0⟩
              case round =>
                clear HGG H0
                obtain ⟨e, hek, rfl, rfl, HGG, H0⟩ := hrel
                generalize hC : wC d (fun _ => d.length) a b mB c = mC at *
                by_cases hel : e < d.length
                · have hei : (e : Int) < (d.length : Int) := by omega
                  have hS : wE d a b c mC (e + 1) = max (wE d a b c mC e) (gapF d a b c e) := rfl
                  have HS := Lib.hid hS
                  have HN : Hid (GG d (wE d a b c mC (e + 1))) := by show GG _ _; rw [hS]; exact max_step HGG.out (HD.out a b c e hal hbl hcl hel)
                  obtain ⟨g1, g2⟩ := HD.out a b c e hal hbl hcl hel
                  obtain ⟨g3, g4⟩ := HGG.out
                  have hcall := HG.out _ a b c e H0.out hal hbl hcl hel
                  have HCA := Lib.hid <| hcall
                  clear hcall hS HGG
                  generalize wE d a b c mC e = mE at *
                  go_wp2_with fail
                  refine HCA.out.mono ?_
                  rintro x w2 ⟨rfl, hb2⟩
                  have H2 := Lib.hid (below_chain H0.out hb2)
                  clear hb2 H0 HCA
                  go_wp2
                  go_roundw
                  case rel => exact ⟨e + 1, by omega, by go_num, by rw [HS.out], HN, H2⟩
                  case measure => simp [intOf]; omega
                · have hke : e = d.length := by omega
                  subst hke
                  have hx : wE d a b c mC d.length = wC d (fun _ => d.length) a b mB (c + 1) := by rw [← hC]; rfl
                  clear hel hC
                  have HGG2 : Hid (GG d (wC d (fun _ => d.length) a b mB (c + 1))) := by rw [← hx]; exact HGG
                  clear HGG
                  go_wp2
                  go_roundw
                  case rel => exact ⟨c + 1, by omega, by go_num, by rw [hx], HGG2, H0⟩
                  case measure => simp [intOf]; omega
            · have hke : c = d.length := by omega
              subst hke
              have hx : wC d (fun _ => d.length) a b mB d.length = wB d (fun _ => d.length) a mA (b + 1) := by rw [← hB]; rfl
              clear hcl hB
              have HGG2 : Hid (GG d (wB d (fun _ => d.length) a mA (b + 1))) := by rw [← hx]; exact HGG
              clear HGG
              go_wp2
              go_roundw
              case rel => exact ⟨b + 1, by omega, by go_num, by rw [hx], HGG2, H0⟩
              case measure => simp [intOf]; omega
        · have hke : b = d.length := by omega
          subst hke
          have hx : wB d (fun _ => d.length) a mA d.length = wA d (fun _ => d.length) 0 (a + 1) := by rw [← hA]; rfl
          clear hbl hA
          have HGG2 : Hid (GG d (wA d (fun _ => d.length) 0 (a + 1))) := by rw [← hx]; exact HGG
          clear HGG
          go_wp2
          go_roundw
          case rel => exact ⟨a + 1, by omega, by go_num, by rw [hx], HGG2, H0⟩
          case measure => simp [intOf]; omega
    · have hke : a = d.length := by omega
      subst hke
      go_wp2
      go_ret
      exact ⟨rfl, H0.out⟩

end Go.Proofs.Ytclffncimaigfaa
