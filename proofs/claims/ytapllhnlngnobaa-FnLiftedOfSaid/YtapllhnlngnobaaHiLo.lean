/- What impl.HighestOf, spec.HighestOf, impl.LowestOf and spec.LowestOf return. Conditions: as each theorem says. -/
import Derived.Test.YtapllhnlngnobaaLift
import Derived.Test.YtapllhnlngnobaaKnown
namespace Go.Proofs.Ytapllhnlngnobaa
set_option linter.unusedVariables false
set_option linter.unusedSimpArgs false
open Go.RowKit Go.Deep

theorem IMem.cellAt {lo hi b n cap : Nat} {w : World} {zs : List Int} (h : IMem lo hi w (.slice (some ⟨b, 0, none⟩) n cap) zs) {i : Nat} (hi : i < zs.length) : w.cell? ⟨b, i, none⟩ = some (.int .i64 (iat zs i)) := by
  obtain ⟨b', cap', hv, _, _, _, _, _, hc, _⟩ := h.open
  injection hv with e1
  injection e1 with e1
  injection e1 with e1
  subst e1
  exact hc i hi

def hiAt (d : List (List Int)) (kn f : List Int) (i k : Nat) : Int := if iat kn k = 1 then iat f k + at2 d i k else 200
def hiF (d : List (List Int)) (kn f : List Int) (i : Nat) : Int := minN (hiAt d kn f i) 200 d.length
def loAt (d : List (List Int)) (kn f : List Int) (i k : Nat) : Int := if iat kn k = 1 then iat f k - at2 d i k else -200
def loF (d : List (List Int)) (kn f : List Int) (i : Nat) : Int := maxN (loAt d kn f i) (-200) d.length

theorem Known.bd {d : List (List Int)} {kn f : List Int} (h : Known d kn f) {i : Nat} (hi : i < d.length) : -100 ≤ iat f i ∧ iat f i ≤ 100 := by
  rcases h.each i hi with ⟨_, e⟩ | ⟨_, e⟩
  · exact e
  · omega
theorem hiAt_bd {d : List (List Int)} {kn f : List Int} (h : Known d kn f) {i k : Nat} (hi : i < d.length) (hk : k < d.length) : -100 ≤ hiAt d kn f i k ∧ hiAt d kn f i k ≤ 200 := by
  have b1 := h.bd hk
  have b2 := h.sp.ent i k hi hk
  unfold hiAt
  split
  · have := b2.1; have := b2.2.1; omega
  · omega
theorem loAt_bd {d : List (List Int)} {kn f : List Int} (h : Known d kn f) {i k : Nat} (hi : i < d.length) (hk : k < d.length) : -200 ≤ loAt d kn f i k ∧ loAt d kn f i k ≤ 100 := by
  have b1 := h.bd hk
  have b2 := h.sp.ent i k hi hk
  unfold loAt
  split
  · have := b2.1; have := b2.2.1; omega
  · omega
noncomputable def hiV (d : List (List Int)) (kn f : List Int) : List Int := if decP (Known d kn f) then genL (hiF d kn f) d.length else []
noncomputable def loV (d : List (List Int)) (kn f : List Int) : List Int := if decP (Known d kn f) then genL (loF d kn f) d.length else []
theorem hiV_yes {d : List (List Int)} {kn f : List Int} (h : Known d kn f) : hiV d kn f = genL (hiF d kn f) d.length := by simp [hiV, decP_yes h]
theorem hiV_no {d : List (List Int)} {kn f : List Int} (h : ¬ Known d kn f) : hiV d kn f = [] := by simp [hiV, decP_no h]
theorem loV_yes {d : List (List Int)} {kn f : List Int} (h : Known d kn f) : loV d kn f = genL (loF d kn f) d.length := by simp [loV, decP_yes h]
theorem loV_no {d : List (List Int)} {kn f : List Int} (h : ¬ Known d kn f) : loV d kn f = [] := by simp [loV, decP_no h]
theorem hi_step {d : List (List Int)} {kn f : List Int} {i k : Nat} (h : iat kn k = 1) :
    (if iat f k + at2 d i k < minN (hiAt d kn f i) 200 k then iat f k + at2 d i k else minN (hiAt d kn f i) 200 k) = minN (hiAt d kn f i) 200 (k + 1) := by
  have := minN_step (hiAt d kn f i) 200 k
  have e : hiAt d kn f i k = iat f k + at2 d i k := by simp [hiAt, h]
  rwa [e] at this
theorem hi_skip {d : List (List Int)} {kn f : List Int} {i k : Nat} (h : iat kn k ≠ 1) : minN (hiAt d kn f i) 200 k = minN (hiAt d kn f i) 200 (k + 1) := by
  have e : hiAt d kn f i k = 200 := by simp [hiAt, h]
  have := minN_le_start (hiAt d kn f i) 200 k
  simp only [minN, e]; omega
theorem lo_step {d : List (List Int)} {kn f : List Int} {i k : Nat} (h : iat kn k = 1) :
    (if maxN (loAt d kn f i) (-200) k < iat f k - at2 d i k then iat f k - at2 d i k else maxN (loAt d kn f i) (-200) k) = maxN (loAt d kn f i) (-200) (k + 1) := by
  have := maxN_step (loAt d kn f i) (-200) k
  have e : loAt d kn f i k = iat f k - at2 d i k := by simp [loAt, h]
  rwa [e] at this
theorem lo_skip {d : List (List Int)} {kn f : List Int} {i k : Nat} (h : iat kn k ≠ 1) : maxN (loAt d kn f i) (-200) k = maxN (loAt d kn f i) (-200) (k + 1) := by
  have e : loAt d kn f i k = -200 := by simp [loAt, h]
  have := le_maxN (loAt d kn f i) (-200) k
  simp only [maxN, e]; omega

set_option maxHeartbeats 2000000 in
theorem implHighestOf_any (lo hi lo' hi' lo'' hi'' : Nat) (v u x : Value) (d : List (List Int)) (kn f : List Int) (w : World) (hd : MMem lo hi w v d) (hk : IMem lo' hi' w u kn) (hf : IMem lo'' hi'' w x f) :
    Calls Try.prog 58 #[v, u, x] w (GivesI (hiV d kn f) w) := by
  have cs := areKnown_any lo hi lo' hi' lo'' hi'' v u x d kn f w hd hk hf
  obtain ⟨kb, kc, rfl, _, _, _, hkm, hkm2, _⟩ := hk.open
  obtain ⟨fb, fc, rfl, _, _, _, hfm, hfm2, _⟩ := hf.open
  by_cases hK : Known d kn f
  · rw [decP_yes hK] at cs
    obtain ⟨b, cap, BB, CC, rfl, hO⟩ := hd.space hK.sp
    have hsix := hK.sp.six
    have hkl := hK.kl
    have hfl := hK.fl
    rw [hkl] at cs hk ⊢
    rw [hfl] at cs hf ⊢
    have HCS := Lib.hid <| cs
    have HO := Lib.hid <| hO
    have HKN := Lib.hid <| hK
    have HV := Lib.hid <| hiV_yes hK
    have HKI := Lib.hid <| hk
    have HFI := Lib.hid <| hf
    clear cs hK hd hO hk hf hkm hfm hkm2 hfm2
    have HKL := Lib.hid hkl
    have HFL := Lib.hid hfl
    clear hkl hfl
    go_enter Try.func58, Try.ntmps58
    go_wp2_with fail
    refine (HCS.out).mono ?_
    rintro e w1 ⟨rfl, hd_w1⟩
    have HW1 : Hid (Dr _ w1) := hd_w1
    clear hd_w1
    have HO1 : Hid (SOpen w1 b BB CC d) := HO.out.dr HW1.out
    have HK1 := Lib.hid (HKI.out.dr HW1.out)
    have HF1 := Lib.hid (HFI.out.dr HW1.out)
    go_wp2
    go_loopw [7, 20] (fun ov iv wr => ∃ i : Nat, i ≤ d.length ∧ iv = .int .i64 i ∧ Hid (IMem w1.heap.size wr.heap.size wr ov (genL (hiF d kn f) i)) ∧ Hid (Below w1.heap.size w1 wr)) (fun _ iv _ => d.length - (intOf iv).toNat)
    case atStart => exact ⟨0, Nat.zero_le _, rfl, (IMem.empty w1).top, (Below.refl _ _).alloc (Nat.le_refl _) _⟩
    case round =>
      obtain ⟨i, hi, rfl, HI, HB⟩ := hrel
      by_cases hilt : i < d.length
      · have HOr : Hid (SOpen wr b BB CC d) := HO1.out.keep HB.out
        have HKr := Lib.hid (HK1.out.fresh HB.out)
        have HFr := Lib.hid (HF1.out.fresh HB.out)
        obtain ⟨wo, rfl⟩ : ∃ wo : World, wo = wr := ⟨_, rfl⟩
        go_wp2
        go_loop [9, 25] (fun mv kv => ∃ k : Nat, k ≤ d.length ∧ kv = .int .i64 k ∧ mv = .int .i64 (minN (hiAt d kn f i) 200 k)) (fun _ kv => d.length - (intOf kv).toNat)
        case atStart => exact ⟨0, Nat.zero_le _, rfl, rfl⟩
        case round =>
          obtain ⟨k, hk, rfl, rfl⟩ := hrel
          by_cases hklt : k < d.length
          · have c1 := HKr.out.cellAt (i := k) (by rw [HKL.out]; exact hklt)
            have c2 := HFr.out.cellAt (i := k) (by rw [HFL.out]; exact hklt)
            by_cases h1 : iat kn k = 1
            · have hb1 : (iat kn k == 1) = true := by simpa using h1
              have c3 := HOr.out.top i hilt
              have c4 := HOr.out.cell i k hilt hklt
              have b1 := HKN.out.bd hklt
              have b2 := HOr.out.bd i k hilt hklt
              have HS := Lib.hid <| hi_step (d := d) (f := f) (i := i) h1
              clear h1
              go_wp2
              go_round
              case rel => exact ⟨k + 1, by omega, by go_num, by rw [← HS.out]⟩
              case measure => simp [intOf]; omega
            · have hb1 : (iat kn k == 1) = false := by simpa using h1
              have HS := Lib.hid <| hi_skip (d := d) (f := f) (i := i) h1
              clear h1
              go_wp2
              go_round
              case rel => exact ⟨k + 1, by omega, by go_num, by rw [← HS.out]⟩
              case measure => simp [intOf]; omega
          · have hke : k = d.length := by omega
            subst hke
            have hs2 : w1.heap.size ≤ wo.heap.size := HB.out.size
            have hfx : (minN (hiAt d kn f i) 200 d.length) = hiF d kn f i := rfl
            rw [hfx]
            go_wp2_with (at_builtin; refine wp_app _ rfl _ _ rfl w1.heap.size _ _ _ rfl (HI.out.alloc _) wo.heap.size 0 1 1 [hiF d kn f i] rfl rfl one_cell (by rw [genL_length]; omega) (by simp; omega) ?_; intro v' w' hI' hB' _)
            rw [← genL_succ] at hI'
            have HI3 : Hid (IMem w1.heap.size w'.heap.size w' v' (genL (hiF d kn f) (i + 1))) := hI'
            have HB3 : Hid (Below w1.heap.size w1 w') := ((HB.out.alloc hs2 _).trans hB')
            clear hI' hB' hfx
            go_wp2
            go_roundw
            case rel => exact ⟨i + 1, by omega, by go_num, HI3, HB3⟩
            case measure => simp [intOf]; omega
      · have hie : i = d.length := by omega
        subst hie
        go_wp2
        go_ret
        rw [HV.out]
        exact givesI_of (HW1.out.below _) HI.out HB.out
  · rw [decP_no hK] at cs
    have HCS := Lib.hid <| cs
    have HV := Lib.hid <| hiV_no hK
    obtain ⟨b, cap, _, _, rfl, _⟩ := hd.open
    clear cs hK hd hk hf
    go_enter Try.func58, Try.ntmps58
    go_wp2_with fail
    refine (HCS.out).mono ?_
    rintro e w1 ⟨rfl, hd_w1⟩
    have HW1 : Hid (Dr _ w1) := hd_w1
    clear hd_w1
    go_wp2
    go_ret
    rw [HV.out]
    exact givesI_nil (HW1.out.below _)

set_option maxHeartbeats 2000000 in
theorem specHighestOf_any (lo hi lo' hi' lo'' hi'' : Nat) (v u x : Value) (d : List (List Int)) (kn f : List Int) (w : World) (hd : MMem lo hi w v d) (hk : IMem lo' hi' w u kn) (hf : IMem lo'' hi'' w x f) :
    Calls Try.prog 59 #[v, u, x] w (GivesI (hiV d kn f) w) := by
  have cs : ∀ wx, Below w.heap.size w wx → Calls Try.prog 36 #[v, u, x] wx (Quiet (.bool (decP (Known d kn f))) wx) := fun wx hb => specKnownOk_any lo hi lo' hi' lo'' hi'' v u x d kn f wx (hd.fresh hb) (hk.fresh hb) (hf.fresh hb)
  obtain ⟨kb, kc, rfl, _, _, _, hkm, hkm2, _⟩ := hk.open
  obtain ⟨fb, fc, rfl, _, _, _, hfm, hfm2, _⟩ := hf.open
  obtain ⟨b, cap, BB, CC, rfl, _, _, _, hm1, hm2, _⟩ := hd.open
  rw [maxLen_val] at hm2
  by_cases hK : Known d kn f
  · rw [decP_yes hK] at cs
    obtain ⟨b', cap', BB, CC, hv, hO⟩ := hd.space hK.sp
    injection hv with e1 e2 e3
    injection e1 with e1
    injection e1 with e1
    subst e1 e3
    clear e2
    have hsix := hK.sp.six
    have hkl := hK.kl
    have hfl := hK.fl
    rw [hkl] at cs hk ⊢
    rw [hfl] at cs hf ⊢
    have HCS := Lib.hid <| cs
    have HO := Lib.hid <| hO
    have HKN := Lib.hid <| hK
    have HV := Lib.hid <| hiV_yes hK
    have HKI := Lib.hid <| hk
    have HFI := Lib.hid <| hf
    clear cs hK hd hO hk hf hkm hfm hkm2 hfm2
    have HKL := Lib.hid hkl
    have HFL := Lib.hid hfl
    clear hkl hfl
    go_enter Try.func59, Try.ntmps59
    go_wp2
    go_loopw [7, 8] (fun ov iv wr => ∃ i : Nat, i ≤ d.length ∧ iv = .int .i64 i ∧ Hid (IMem w.heap.size wr.heap.size wr ov (genL (hiF d kn f) i)) ∧ Hid (Below w.heap.size w wr)) (fun _ iv _ => d.length - (intOf iv).toNat)
    case atStart => exact ⟨0, Nat.zero_le _, rfl, (IMem.empty w).top, (Below.refl _ _).alloc (Nat.le_refl _) _⟩
    case round =>
      obtain ⟨i, hi, rfl, HI0, HB0⟩ := hrel
      by_cases hilt : i < d.length
      · go_wp2_with fail
        refine (HCS.out _ HB0.out).mono ?_
        rintro e w1 ⟨rfl, hd_w1⟩
        have HW1 : Hid (Dr _ w1) := hd_w1
        clear hd_w1
        have HB : Hid (Below w.heap.size w w1) := HB0.out.trans (HW1.out.below _)
        have HI := Lib.hid (HI0.out.dr HW1.out)
        have HOr : Hid (SOpen w1 b BB CC d) := HO.out.keep HB.out
        have HKr := Lib.hid (HKI.out.fresh HB.out)
        have HFr := Lib.hid (HFI.out.fresh HB.out)
        clear HI0 HB0
        go_wp2
        go_loopw [9, 10] (fun mv kv wr => ∃ k : Nat, k ≤ d.length ∧ kv = .int .i64 k ∧ mv = .int .i64 (minN (hiAt d kn f i) 200 k) ∧ Hid (Dr w1 wr)) (fun _ kv _ => d.length - (intOf kv).toNat)
        case atStart => exact ⟨0, Nat.zero_le _, rfl, rfl, Dr.refl _⟩
        case round =>
          obtain ⟨k, hk, rfl, rfl, HW⟩ := hrel
          by_cases hklt : k < d.length
          · have c1 := (HW.out.cell _).trans (HKr.out.cellAt (i := k) (by rw [HKL.out]; exact hklt))
            by_cases h1 : iat kn k = 1
            · have hb1 : (iat kn k == 1) = true := by simpa using h1
              have c2 := (HW.out.cell _).trans (HFr.out.cellAt (i := k) (by rw [HFL.out]; exact hklt))
              have c3 := (HOr.out.dr HW.out).top k hklt
              have c4 := (HOr.out.dr HW.out).cell k i hklt hilt
              rw [(HOr.out.sp.ent k i hklt hilt).2.2.1] at c4
              have b1 := HKN.out.bd hklt
              have b2 := HOr.out.bd i k hilt hklt
              have e1 : IntKind.i64.wrap (iat f k + at2 d i k) = iat f k + at2 d i k := IntWalk.i64_in _ (by omega)
              have HS := Lib.hid <| hi_step (d := d) (f := f) (i := i) h1
              clear h1
              go_wp2_with fail
              go_quiet (fail)
              clear e1
              go_wp2
              go_roundw
              case rel => exact ⟨k + 1, by omega, by go_num, by rw [← HS.out], HW.out.more _⟩
              case measure => simp [intOf]; omega
            · have hb1 : (iat kn k == 1) = false := by simpa using h1
              have HS := Lib.hid <| hi_skip (d := d) (f := f) (i := i) h1
              clear h1
              go_wp2
              go_roundw
              case rel => exact ⟨k + 1, by omega, by go_num, by rw [← HS.out], HW⟩
              case measure => simp [intOf]; omega
          · have hke : k = d.length := by omega
            subst hke
            have hs2 : w.heap.size ≤ wr.heap.size := by rw [HW.out.heap]; exact HB.out.size
            have hfx : (minN (hiAt d kn f i) 200 d.length) = hiF d kn f i := rfl
            rw [hfx]
            have HI2 := Lib.hid (HI.out.dr HW.out)
            go_wp2_with (at_builtin; refine wp_app _ rfl _ _ rfl w.heap.size _ _ _ rfl (HI2.out.alloc _) wr.heap.size 0 1 1 [hiF d kn f i] rfl rfl one_cell (by rw [genL_length]; omega) (by simp; omega) ?_; intro v' w' hI' hB' _)
            rw [← genL_succ] at hI'
            have HI3 : Hid (IMem w.heap.size w'.heap.size w' v' (genL (hiF d kn f) (i + 1))) := hI'
            have HB3 : Hid (Below w.heap.size w w') := (((HB.out.trans (HW.out.below _)).alloc hs2 _).trans hB')
            clear hI' hB' hfx
            go_wp2
            go_roundw
            case rel => exact ⟨i + 1, by omega, by go_num, HI3, HB3⟩
            case measure => simp [intOf]; omega
      · have hie : i = d.length := by omega
        subst hie
        go_wp2
        go_ret
        rw [HV.out]
        exact givesI_of (Below.refl _ _) HI0.out HB0.out
  · rw [decP_no hK] at cs
    have HCS := Lib.hid <| cs
    have HV := Lib.hid <| hiV_no hK
    clear cs hK hd hk hf
    go_enter Try.func59, Try.ntmps59
    go_wp2
    go_loopw [7, 8] (fun ov kv wr => kv = .int .i64 0 ∧ ov = .slice (some ⟨w.heap.size, 0, none⟩) 0 0 ∧ wr = w.alloc (.cells #[] 3)) (fun _ kv _ => 0)
    case atStart => exact ⟨rfl, rfl, rfl⟩
    case round =>
      obtain ⟨rfl, rfl, rfl⟩ := hrel
      by_cases h0 : 0 < d.length
      · have hb : Hid (Below w.heap.size w (w.alloc (.cells #[] 3))) := (Below.refl _ _).alloc (Nat.le_refl _) _
        go_wp2_with fail
        refine (HCS.out _ hb.out).mono ?_
        rintro e w2 ⟨rfl, hd_w2⟩
        have HW2 : Hid (Dr _ w2) := hd_w2
        clear hd_w2
        go_wp2
        go_ret
        rw [HV.out]
        exact givesI_of (Below.refl _ _) ((IMem.empty w).dr HW2.out) (hb.out.trans (HW2.out.below _))
      · go_wp2
        go_ret
        rw [HV.out]
        exact givesI_empty (Below.refl _ _)

set_option maxHeartbeats 2000000 in
theorem implLowestOf_any (lo hi lo' hi' lo'' hi'' : Nat) (v u x : Value) (d : List (List Int)) (kn f : List Int) (w : World) (hd : MMem lo hi w v d) (hk : IMem lo' hi' w u kn) (hf : IMem lo'' hi'' w x f) :
    Calls Try.prog 61 #[v, u, x] w (GivesI (loV d kn f) w) := by
  have cs := areKnown_any lo hi lo' hi' lo'' hi'' v u x d kn f w hd hk hf
  obtain ⟨kb, kc, rfl, _, _, _, hkm, hkm2, _⟩ := hk.open
  obtain ⟨fb, fc, rfl, _, _, _, hfm, hfm2, _⟩ := hf.open
  by_cases hK : Known d kn f
  · rw [decP_yes hK] at cs
    obtain ⟨b, cap, BB, CC, rfl, hO⟩ := hd.space hK.sp
    have hsix := hK.sp.six
    have hkl := hK.kl
    have hfl := hK.fl
    rw [hkl] at cs hk ⊢
    rw [hfl] at cs hf ⊢
    have HCS := Lib.hid <| cs
    have HO := Lib.hid <| hO
    have HKN := Lib.hid <| hK
    have HV := Lib.hid <| loV_yes hK
    have HKI := Lib.hid <| hk
    have HFI := Lib.hid <| hf
    clear cs hK hd hO hk hf hkm hfm hkm2 hfm2
    have HKL := Lib.hid hkl
    have HFL := Lib.hid hfl
    clear hkl hfl
    go_enter Try.func61, Try.ntmps61
    go_wp2_with fail
    refine (HCS.out).mono ?_
    rintro e w1 ⟨rfl, hd_w1⟩
    have HW1 : Hid (Dr _ w1) := hd_w1
    clear hd_w1
    have HO1 : Hid (SOpen w1 b BB CC d) := HO.out.dr HW1.out
    have HK1 := Lib.hid (HKI.out.dr HW1.out)
    have HF1 := Lib.hid (HFI.out.dr HW1.out)
    go_wp2
    go_loopw [7, 20] (fun ov iv wr => ∃ i : Nat, i ≤ d.length ∧ iv = .int .i64 i ∧ Hid (IMem w1.heap.size wr.heap.size wr ov (genL (loF d kn f) i)) ∧ Hid (Below w1.heap.size w1 wr)) (fun _ iv _ => d.length - (intOf iv).toNat)
    case atStart => exact ⟨0, Nat.zero_le _, rfl, (IMem.empty w1).top, (Below.refl _ _).alloc (Nat.le_refl _) _⟩
    case round =>
      obtain ⟨i, hi, rfl, HI, HB⟩ := hrel
      by_cases hilt : i < d.length
      · have HOr : Hid (SOpen wr b BB CC d) := HO1.out.keep HB.out
        have HKr := Lib.hid (HK1.out.fresh HB.out)
        have HFr := Lib.hid (HF1.out.fresh HB.out)
        obtain ⟨wo, rfl⟩ : ∃ wo : World, wo = wr := ⟨_, rfl⟩
        go_wp2
        go_loop [9, 25] (fun mv kv => ∃ k : Nat, k ≤ d.length ∧ kv = .int .i64 k ∧ mv = .int .i64 (maxN (loAt d kn f i) (-200) k)) (fun _ kv => d.length - (intOf kv).toNat)
        case atStart => exact ⟨0, Nat.zero_le _, rfl, rfl⟩
        case round =>
          obtain ⟨k, hk, rfl, rfl⟩ := hrel
          by_cases hklt : k < d.length
          · have c1 := HKr.out.cellAt (i := k) (by rw [HKL.out]; exact hklt)
            have c2 := HFr.out.cellAt (i := k) (by rw [HFL.out]; exact hklt)
            by_cases h1 : iat kn k = 1
            · have hb1 : (iat kn k == 1) = true := by simpa using h1
              have c3 := HOr.out.top i hilt
              have c4 := HOr.out.cell i k hilt hklt
              have b1 := HKN.out.bd hklt
              have b2 := HOr.out.bd i k hilt hklt
              have HS := Lib.hid <| lo_step (d := d) (f := f) (i := i) h1
              clear h1
              go_wp2
              go_round
              case rel => exact ⟨k + 1, by omega, by go_num, by rw [← HS.out]⟩
              case measure => simp [intOf]; omega
            · have hb1 : (iat kn k == 1) = false := by simpa using h1
              have HS := Lib.hid <| lo_skip (d := d) (f := f) (i := i) h1
              clear h1
              go_wp2
              go_round
              case rel => exact ⟨k + 1, by omega, by go_num, by rw [← HS.out]⟩
              case measure => simp [intOf]; omega
          · have hke : k = d.length := by omega
            subst hke
            have hs2 : w1.heap.size ≤ wo.heap.size := HB.out.size
            have hfx : (maxN (loAt d kn f i) (-200) d.length) = loF d kn f i := rfl
            rw [hfx]
            go_wp2_with (at_builtin; refine wp_app _ rfl _ _ rfl w1.heap.size _ _ _ rfl (HI.out.alloc _) wo.heap.size 0 1 1 [loF d kn f i] rfl rfl one_cell (by rw [genL_length]; omega) (by simp; omega) ?_; intro v' w' hI' hB' _)
            rw [← genL_succ] at hI'
            have HI3 : Hid (IMem w1.heap.size w'.heap.size w' v' (genL (loF d kn f) (i + 1))) := hI'
            have HB3 : Hid (Below w1.heap.size w1 w') := ((HB.out.alloc hs2 _).trans hB')
            clear hI' hB' hfx
            go_wp2
            go_roundw
            case rel => exact ⟨i + 1, by omega, by go_num, HI3, HB3⟩
            case measure => simp [intOf]; omega
      · have hie : i = d.length := by omega
        subst hie
        go_wp2
        go_ret
        rw [HV.out]
        exact givesI_of (HW1.out.below _) HI.out HB.out
  · rw [decP_no hK] at cs
    have HCS := Lib.hid <| cs
    have HV := Lib.hid <| loV_no hK
    obtain ⟨b, cap, _, _, rfl, _⟩ := hd.open
    clear cs hK hd hk hf
    go_enter Try.func61, Try.ntmps61
    go_wp2_with fail
    refine (HCS.out).mono ?_
    rintro e w1 ⟨rfl, hd_w1⟩
    have HW1 : Hid (Dr _ w1) := hd_w1
    clear hd_w1
    go_wp2
    go_ret
    rw [HV.out]
    exact givesI_nil (HW1.out.below _)

set_option maxHeartbeats 2000000 in
theorem specLowestOf_any (lo hi lo' hi' lo'' hi'' : Nat) (v u x : Value) (d : List (List Int)) (kn f : List Int) (w : World) (hd : MMem lo hi w v d) (hk : IMem lo' hi' w u kn) (hf : IMem lo'' hi'' w x f) :
    Calls Try.prog 62 #[v, u, x] w (GivesI (loV d kn f) w) := by
  have cs : ∀ wx, Below w.heap.size w wx → Calls Try.prog 36 #[v, u, x] wx (Quiet (.bool (decP (Known d kn f))) wx) := fun wx hb => specKnownOk_any lo hi lo' hi' lo'' hi'' v u x d kn f wx (hd.fresh hb) (hk.fresh hb) (hf.fresh hb)
  obtain ⟨kb, kc, rfl, _, _, _, hkm, hkm2, _⟩ := hk.open
  obtain ⟨fb, fc, rfl, _, _, _, hfm, hfm2, _⟩ := hf.open
  obtain ⟨b, cap, BB, CC, rfl, _, _, _, hm1, hm2, _⟩ := hd.open
  rw [maxLen_val] at hm2
  by_cases hK : Known d kn f
  · rw [decP_yes hK] at cs
    obtain ⟨b', cap', BB, CC, hv, hO⟩ := hd.space hK.sp
    injection hv with e1 e2 e3
    injection e1 with e1
    injection e1 with e1
    subst e1 e3
    clear e2
    have hsix := hK.sp.six
    have hkl := hK.kl
    have hfl := hK.fl
    rw [hkl] at cs hk ⊢
    rw [hfl] at cs hf ⊢
    have HCS := Lib.hid <| cs
    have HO := Lib.hid <| hO
    have HKN := Lib.hid <| hK
    have HV := Lib.hid <| loV_yes hK
    have HKI := Lib.hid <| hk
    have HFI := Lib.hid <| hf
    clear cs hK hd hO hk hf hkm hfm hkm2 hfm2
    have HKL := Lib.hid hkl
    have HFL := Lib.hid hfl
    clear hkl hfl
    go_enter Try.func62, Try.ntmps62
    go_wp2
    go_loopw [7, 8] (fun ov iv wr => ∃ i : Nat, i ≤ d.length ∧ iv = .int .i64 i ∧ Hid (IMem w.heap.size wr.heap.size wr ov (genL (loF d kn f) i)) ∧ Hid (Below w.heap.size w wr)) (fun _ iv _ => d.length - (intOf iv).toNat)
    case atStart => exact ⟨0, Nat.zero_le _, rfl, (IMem.empty w).top, (Below.refl _ _).alloc (Nat.le_refl _) _⟩
    case round =>
      obtain ⟨i, hi, rfl, HI0, HB0⟩ := hrel
      by_cases hilt : i < d.length
      · go_wp2_with fail
        refine (HCS.out _ HB0.out).mono ?_
        rintro e w1 ⟨rfl, hd_w1⟩
        have HW1 : Hid (Dr _ w1) := hd_w1
        clear hd_w1
        have HB : Hid (Below w.heap.size w w1) := HB0.out.trans (HW1.out.below _)
        have HI := Lib.hid (HI0.out.dr HW1.out)
        have HOr : Hid (SOpen w1 b BB CC d) := HO.out.keep HB.out
        have HKr := Lib.hid (HKI.out.fresh HB.out)
        have HFr := Lib.hid (HFI.out.fresh HB.out)
        clear HI0 HB0
        go_wp2
        go_loopw [9, 10] (fun mv kv wr => ∃ k : Nat, k ≤ d.length ∧ kv = .int .i64 k ∧ mv = .int .i64 (maxN (loAt d kn f i) (-200) k) ∧ Hid (Dr w1 wr)) (fun _ kv _ => d.length - (intOf kv).toNat)
        case atStart => exact ⟨0, Nat.zero_le _, rfl, rfl, Dr.refl _⟩
        case round =>
          obtain ⟨k, hk, rfl, rfl, HW⟩ := hrel
          by_cases hklt : k < d.length
          · have c1 := (HW.out.cell _).trans (HKr.out.cellAt (i := k) (by rw [HKL.out]; exact hklt))
            by_cases h1 : iat kn k = 1
            · have hb1 : (iat kn k == 1) = true := by simpa using h1
              have c2 := (HW.out.cell _).trans (HFr.out.cellAt (i := k) (by rw [HFL.out]; exact hklt))
              have c3 := (HOr.out.dr HW.out).top k hklt
              have c4 := (HOr.out.dr HW.out).cell k i hklt hilt
              rw [(HOr.out.sp.ent k i hklt hilt).2.2.1] at c4
              have b1 := HKN.out.bd hklt
              have b2 := HOr.out.bd i k hilt hklt
              have e1 : IntKind.i64.wrap (iat f k - at2 d i k) = iat f k - at2 d i k := IntWalk.i64_in _ (by omega)
              have HS := Lib.hid <| lo_step (d := d) (f := f) (i := i) h1
              clear h1
              go_wp2_with fail
              go_quiet (fail)
              clear e1
              go_wp2
              go_roundw
              case rel => exact ⟨k + 1, by omega, by go_num, by rw [← HS.out], HW.out.more _⟩
              case measure => simp [intOf]; omega
            · have hb1 : (iat kn k == 1) = false := by simpa using h1
              have HS := Lib.hid <| lo_skip (d := d) (f := f) (i := i) h1
              clear h1
              go_wp2
              go_roundw
              case rel => exact ⟨k + 1, by omega, by go_num, by rw [← HS.out], HW⟩
              case measure => simp [intOf]; omega
          · have hke : k = d.length := by omega
            subst hke
            have hs2 : w.heap.size ≤ wr.heap.size := by rw [HW.out.heap]; exact HB.out.size
            have hfx : (maxN (loAt d kn f i) (-200) d.length) = loF d kn f i := rfl
            rw [hfx]
            have HI2 := Lib.hid (HI.out.dr HW.out)
            go_wp2_with (at_builtin; refine wp_app _ rfl _ _ rfl w.heap.size _ _ _ rfl (HI2.out.alloc _) wr.heap.size 0 1 1 [loF d kn f i] rfl rfl one_cell (by rw [genL_length]; omega) (by simp; omega) ?_; intro v' w' hI' hB' _)
            rw [← genL_succ] at hI'
            have HI3 : Hid (IMem w.heap.size w'.heap.size w' v' (genL (loF d kn f) (i + 1))) := hI'
            have HB3 : Hid (Below w.heap.size w w') := (((HB.out.trans (HW.out.below _)).alloc hs2 _).trans hB')
            clear hI' hB' hfx
            go_wp2
            go_roundw
            case rel => exact ⟨i + 1, by omega, by go_num, HI3, HB3⟩
            case measure => simp [intOf]; omega
      · have hie : i = d.length := by omega
        subst hie
        go_wp2
        go_ret
        rw [HV.out]
        exact givesI_of (Below.refl _ _) HI0.out HB0.out
  · rw [decP_no hK] at cs
    have HCS := Lib.hid <| cs
    have HV := Lib.hid <| loV_no hK
    clear cs hK hd hk hf
    go_enter Try.func62, Try.ntmps62
    go_wp2
    go_loopw [7, 8] (fun ov kv wr => kv = .int .i64 0 ∧ ov = .slice (some ⟨w.heap.size, 0, none⟩) 0 0 ∧ wr = w.alloc (.cells #[] 3)) (fun _ kv _ => 0)
    case atStart => exact ⟨rfl, rfl, rfl⟩
    case round =>
      obtain ⟨rfl, rfl, rfl⟩ := hrel
      by_cases h0 : 0 < d.length
      · have hb : Hid (Below w.heap.size w (w.alloc (.cells #[] 3))) := (Below.refl _ _).alloc (Nat.le_refl _) _
        go_wp2_with fail
        refine (HCS.out _ hb.out).mono ?_
        rintro e w2 ⟨rfl, hd_w2⟩
        have HW2 : Hid (Dr _ w2) := hd_w2
        clear hd_w2
        go_wp2
        go_ret
        rw [HV.out]
        exact givesI_of (Below.refl _ _) ((IMem.empty w).dr HW2.out) (hb.out.trans (HW2.out.below _))
      · go_wp2
        go_ret
        rw [HV.out]
        exact givesI_empty (Below.refl _ _)

end Go.Proofs.Ytapllhnlngnobaa
