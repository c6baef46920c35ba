/- What PlacesOf returns. Conditions: as each theorem says. -/
import Derived.Test.YtknnelenmedonaaKeepS
import Derived.Test.YtknnelenmedonaaPut
namespace Go.Proofs.Ytknnelenmedonaa
set_option linter.unusedVariables false
set_option linter.unusedSimpArgs false
open Go.RowKit Go.Deep

def plTo (K : List (List Int)) (i : Nat) (k : Nat) : Int := minN (fun j => iat (row K j) i) i k
noncomputable def plF (d : List (List Int)) (i : Nat) : Int := plTo (keepL d) i (keepL d).length
noncomputable def plV (d : List (List Int)) : List Int := if decP (KeOk d) then genL (plF d) d.length else []
theorem plV_yes {d : List (List Int)} (h : KeOk d) : plV d = genL (plF d) d.length := by simp [plV, decP_yes h]
theorem plV_no {d : List (List Int)} (h : ¬ KeOk d) : plV d = [] := by simp [plV, decP_no h]
theorem plV_len (d : List (List Int)) : (plV d).length ≤ 6 := by
  by_cases h : KeOk d
  · rw [plV_yes h, genL_length]; exact h.sp.six
  · rw [plV_no h]; exact Nat.zero_le _
theorem plTo_step (K : List (List Int)) (i k : Nat) : (if iat (row K k) i < plTo K i k then iat (row K k) i else plTo K i k) = plTo K i (k + 1) := minN_step (fun j => iat (row K j) i) i k
theorem keepL_own {d : List (List Int)} (h : Space d) : ownO d.length ∈ keepL d := (keepL_mem h).2 ⟨ord_own h.one h.six, ownO_length _, ordL_own h.sq⟩
theorem keepL_one {d : List (List Int)} (h : Space d) : 1 ≤ (keepL d).length := List.length_pos_of_mem (keepL_own h)

set_option maxHeartbeats 1000000 in
theorem implPlacesOf_any (lo hi : Nat) (v : Value) (d : List (List Int)) (w : World) (hd : MMem lo hi w v d) : Calls Try.prog 47 #[v] w (GivesI (plV d) w) := by
  have cs := isSpace_any lo hi v d w hd
  obtain ⟨db, dc, _, _, rfl, -⟩ := id hd.open
  have HD := Lib.hid hd
  clear hd
  by_cases hS : Space d
  · rw [decP_yes hS] at cs
    have HCS := Lib.hid <| cs
    by_cases h5 : d.length ≤ 5
    · have hone := hS.one
      have h5b : decide (5 < (d.length : Int)) = false := by simp; omega
      have HV := Lib.hid <| plV_yes ⟨hS, h5⟩
      have HK1 := Lib.hid (keepL_one hS)
      have hkl : (keepL d).length ≤ 3125 := Nat.le_trans (keepL_len d) (ordK_bound h5 h5)
      have HKR : Hid (∀ k, k < (keepL d).length → (row (keepL d) k).length = d.length) := fun k hk => ((keepL_mem hS).1 (row_mem hk)).2.1
      have HCK : Hid (∀ w', Below w.heap.size w w' → Calls Try.prog 62 #[.slice (some ⟨db, 0, none⟩) d.length dc] w' (GivesM (keepL d) w')) := fun w' h => keepingOf_any _ _ _ _ _ (HD.out.fresh h) hS h5
      have HFD : Hid (∀ i, plTo (keepL d) i (keepL d).length = plF d i) := fun _ => rfl
      clear cs hS
      generalize keepL d = K at *
      go_enter Try.func47, Try.ntmps47
      go_wp2_with fail
      refine (HCS.out).mono ?_
      rintro e w1 ⟨rfl, hd_w1⟩
      have HW1 : Hid (Dr _ w1) := hd_w1
      clear hd_w1
      have hsz : w1.heap.size = w.heap.size := by rw [HW1.out.heap]
      have HI0 : Hid (IMem w.heap.size (w1.alloc (.cells #[] 3)).heap.size (w1.alloc (.cells #[] 3)) (.slice (some ⟨w1.heap.size, 0, none⟩) 0 0) (genL (plF d) 0)) := (IMem.empty w1).widen (by omega) (by simp)
      have HB0 : Hid (Below w.heap.size w (w1.alloc (.cells #[] 3))) := (HW1.out.below _).alloc (by omega) _
      clear HW1 hsz
      go_wp2
      go_loopw [3, 19] (fun ov iv wr => ∃ i : Nat, i ≤ d.length ∧ iv = .int .i64 i ∧ Hid (IMem w.heap.size wr.heap.size wr ov (genL (plF d) i)) ∧ Hid (Below w.heap.size w wr)) (fun _ iv _ => d.length - (intOf iv).toNat)
      case atStart => exact ⟨0, Nat.zero_le _, rfl, HI0, HB0⟩
      case round =>
        clear HI0 HB0
        obtain ⟨i, hi, rfl, HI, HB⟩ := hrel
        by_cases hilt : i < d.length
        · have HC := Lib.hid <| HCK.out wr HB.out
          go_wp2_with fail
          refine HC.out.mono ?_
          rintro e w2 ⟨r, rfl, hr, hb2⟩
          have hm := hr.mem HK1.out
          obtain ⟨kb, kc, BB, CC, rfl, _, _, _, _, hcap, hcell, hrow, -⟩ := id hm.open
          rw [maxLen_val] at hcap
          have HCL := Lib.hid hcell
          have HRL := Lib.hid fun q hq => (hrow q hq).2.2.2.2.2.2
          have HI2 := Lib.hid (HI.out.fresh hb2)
          have HB2 := Lib.hid (below_chain HB.out hb2)
          clear hr hm hcell hrow hb2 HI HB HC
          go_wp2
          go_loopw [5, 26] (fun lv kv wr => ∃ k : Nat, k ≤ K.length ∧ kv = .int .i64 k ∧ lv = .int .i64 (plTo K i k) ∧ Hid (Dr w2 wr)) (fun _ kv _ => K.length - (intOf kv).toNat)
          case atStart => exact ⟨0, Nat.zero_le _, rfl, rfl, Dr.refl _⟩
          case round =>
            obtain ⟨k, hk, rfl, rfl, HW⟩ := hrel
            by_cases hklt : k < K.length
            · have c1 := (HW.out.cell _).trans (HCL.out k hklt)
              have c2 := ((HRL.out k hklt).dr HW.out).cellAt (i := i) (by rw [HKR.out k hklt]; exact hilt)
              have hil : (i : Int) < ((row K k).length : Int) := by rw [HKR.out k hklt]; omega
              have HS := Lib.hid <| plTo_step K i k
              go_wp2
              go_roundw
              case rel => exact ⟨k + 1, by omega, by go_num, by rw [← HS.out], HW⟩
              case measure => simp [intOf]; omega
            · have hke : k = K.length := by omega
              subst hke
              rw [HFD.out i]
              have HI3 := Lib.hid ((HI2.out.dr HW.out).top)
              have HB3 : Hid (Below w.heap.size w wr) := HB2.out.trans (HW.out.below _)
              have hs := HB3.out.size
              have hlen : (genL (plF d) i).length = i := genL_length _ _
              clear HI2 HB2 HW
              go_wp2_with (at_builtin; refine wp_app _ rfl _ _ rfl w.heap.size _ _ _ rfl (HI3.out.alloc _) wr.heap.size 0 1 1 [plF d i] rfl rfl one_cell (by omega) (by simp; omega) ?_; intro v' w' hI' hB' _; rw [← genL_succ (plF d) i] at hI'; have HI5 := Lib.hid hI'; have HB5 := Lib.hid ((HB3.out.alloc hs _).trans hB'); clear hI' hB' HI3 HB3)
              go_wp2
              go_roundw
              case rel => exact ⟨i + 1, by omega, by go_num, HI5, HB5⟩
              case measure => simp [intOf]; omega
        · have hie : i = d.length := by omega
          subst hie
          go_wp2
          go_ret
          rw [HV.out]
          exact ⟨_, rfl, .inl HI.out, HB.out⟩
    · have h5b : decide (5 < (d.length : Int)) = true := by simp; omega
      have HV := Lib.hid <| plV_no (d := d) fun h => h5 h.five
      clear cs hS
      go_enter Try.func47, Try.ntmps47
      go_wp2_with fail
      refine (HCS.out).mono ?_
      rintro e w1 ⟨rfl, hd_w1⟩
      have HW1 : Hid (Dr _ w1) := hd_w1
      clear hd_w1
      go_wp2
      go_ret
      rw [HV.out]
      exact givesI_nil (HW1.out.below _)
  · rw [decP_no hS] at cs
    have HCS := Lib.hid <| cs
    have HV := Lib.hid <| plV_no (d := d) fun h => hS h.sp
    clear cs hS
    go_enter Try.func47, Try.ntmps47
    go_wp2_with fail
    refine (HCS.out).mono ?_
    rintro e w1 ⟨rfl, hd_w1⟩
    have HW1 : Hid (Dr _ w1) := hd_w1
    clear hd_w1
    go_wp2
    go_ret
    rw [HV.out]
    exact givesI_nil (HW1.out.below _)

theorem size_step {s lo : Nat} {w w' : World} {o : Obj} (h : s ≤ w.heap.size) (hb : Below lo (w.alloc o) w') : s ≤ w'.heap.size := by
  have := hb.size
  simp at this
  omega
/-- A row that lies in no block from lo to hi. -/
def Away (lo hi : Nat) (v : Value) : Prop := ∀ b, v.ownBlock = some b → b < lo ∨ hi ≤ b
theorem MMem.grown_away {lo hi : Nat} {w w' : World} {o : Obj} {v u : Value} {K : List (List Int)} (h : MMem lo hi w u K) (hg : (w.alloc o).grownBy w' v.ownBlock) (ha : Away lo hi v) : MMem lo hi w' u K :=
  (h.alloc o).keep fun k h1 h2 h3 => hg.block k h3 (fun e => by have := ha k e.symm; omega)
theorem Away.step {lo hi s : Nat} {v v' : Value} (h : Away lo hi v) (hat : v'.ownBlock = v.ownBlock ∨ v'.ownBlock = some s) (hs : hi ≤ s) : Away lo hi v' := fun b hb => by
  rcases hat with e | e
  · rw [e] at hb; exact h b hb
  · rw [e] at hb
    injection hb with hb
    omega

set_option maxHeartbeats 1000000 in
theorem specPlacesOf_any (lo hi : Nat) (v : Value) (d : List (List Int)) (w : World) (hd : MMem lo hi w v d) : Calls Try.prog 46 #[v] w (GivesI (plV d) w) := by
  have HA : Hid (Below w.heap.size w (w.alloc (.cells #[] 3))) := (Below.refl _ _).alloc (Nat.le_refl _) _
  have hE : IMem w.heap.size (w.alloc (.cells #[] 3)).heap.size (w.alloc (.cells #[] 3)) (.slice (some ⟨w.heap.size, 0, none⟩) 0 0) (genL (plF d) 0) := (IMem.empty w).widen (Nat.le_refl _) (by simp)
  have hk := specKeepingOf_any lo hi v d _ (hd.fresh HA.out)
  obtain ⟨db, dc, _, _, rfl, -⟩ := id hd.open
  have HE := Lib.hid hE
  clear hd hE
  by_cases hok : KeOk d
  · have hS := hok.sp
    have h5 := hok.five
    have HK1 := Lib.hid (keepL_one hS)
    have hkl : (keepL d).length ≤ 3125 := Nat.le_trans (keepL_len d) (ordK_bound h5 h5)
    have HKR : Hid (∀ k, k < (keepL d).length → (row (keepL d) k).length = d.length) := fun k hk => ((keepL_mem hS).1 (row_mem hk)).2.1
    have HV := Lib.hid <| plV_yes hok
    have HFD : Hid (∀ i, plTo (keepL d) i (keepL d).length = plF d i) := fun _ => rfl
    rw [keV_yes hok] at hk
    have HK := Lib.hid <| hk
    have hone := hS.one
    clear hk hok hS
    generalize keepL d = K at *
    go_enter Try.func46, Try.ntmps46
    go_wp2_with fail
    refine HK.out.mono ?_
    rintro e w2 ⟨r, rfl, hr, hb2⟩
    have hm := hr.mem HK1.out
    obtain ⟨kb, kc, BB, CC, rfl, _, _, _, _, hcap, hcell, hrow, -⟩ := id hm.open
    rw [maxLen_val] at hcap
    have HCL := Lib.hid hcell
    have HRL := Lib.hid fun q hq => (hrow q hq).2.2.2.2.2.2
    have HI2 := Lib.hid (HE.out.fresh hb2).top
    have HB2 : Hid (Below w.heap.size w w2) := HA.out.trans (hb2.mono HA.out.size)
    have hsz : (w.alloc (.cells #[] 3)).heap.size = w.heap.size + 1 := by simp
    rw [hsz] at hm
    have HM2 := Lib.hid hm
    have HAW : Hid (Away (w.heap.size + 1) w2.heap.size (.slice (some ⟨w.heap.size, 0, none⟩) 0 0)) := fun b hb => by
      simp only [Value.ownBlock] at hb
      injection hb with hb
      omega
    have hKp : decide (0 < (K.length : Int)) = true := by have := HK1.out; simp; omega
    clear hr hm hcell hrow hb2 HK HE HA HCL HRL hsz
    go_wp2
    go_loopw [3, 5] (fun ov iv wr => ∃ i : Nat, i ≤ d.length ∧ iv = .int .i64 i ∧ Hid (IMem w.heap.size wr.heap.size wr ov (genL (plF d) i)) ∧ Hid (Below w.heap.size w wr) ∧ Hid (MMem (w.heap.size + 1) w2.heap.size wr (.slice (some ⟨kb, 0, none⟩) K.length kc) K) ∧ Hid (Away (w.heap.size + 1) w2.heap.size ov) ∧ Hid (w2.heap.size ≤ wr.heap.size)) (fun _ iv _ => d.length - (intOf iv).toNat)
    case atStart => exact ⟨0, Nat.zero_le _, rfl, HI2, HB2, HM2, HAW, Nat.le_refl _⟩
    case round =>
      clear HI2 HB2 HM2 HAW
      obtain ⟨i, hi, rfl, HI, HB, HM, HAW, HSZ0⟩ := hrel
      by_cases hilt : i < d.length
      · obtain ⟨_, _, BB, CC, e, _, _, _, _, _, hcell, hrow, -⟩ := id HM.out.open
        injection e with e1 e2 e3
        injection e1 with e1
        injection e1 with e1
        subst e1 e3
        have HCL := Lib.hid hcell
        have HRL := Lib.hid fun q hq => (hrow q hq).2.2.2.2.2.2
        obtain ⟨w3, rfl⟩ : ∃ w3 : World, w3 = wr := ⟨_, rfl⟩
        clear hcell hrow
        go_wp2
        go_loopw [6, 7] (fun lv kv wr => ∃ k : Nat, k ≤ K.length ∧ kv = .int .i64 k ∧ lv = .int .i64 (plTo K i k) ∧ Hid (Dr w3 wr)) (fun _ kv _ => K.length - (intOf kv).toNat)
        case atStart => exact ⟨0, Nat.zero_le _, rfl, rfl, Dr.refl _⟩
        case round =>
          obtain ⟨k, hk, rfl, rfl, HW⟩ := hrel
          by_cases hklt : k < K.length
          · have c1 := (HW.out.cell _).trans (HCL.out k hklt)
            have c2 := ((HRL.out k hklt).dr HW.out).cellAt (i := i) (by rw [HKR.out k hklt]; exact hilt)
            have hil : (i : Int) < ((row K k).length : Int) := by rw [HKR.out k hklt]; omega
            have hki : (k : Int) < (K.length : Int) := by omega
            have HS := Lib.hid <| plTo_step K i k
            go_wp2
            go_roundw
            case rel => exact ⟨k + 1, by omega, by go_num, by rw [← HS.out], HW⟩
            case measure => simp [intOf]; omega
          · have hke : k = K.length := by omega
            subst hke
            rw [HFD.out i]
            have HI3 := Lib.hid ((HI.out.dr HW.out).top)
            have HB3 : Hid (Below w.heap.size w wr) := HB.out.trans (HW.out.below _)
            have HM3 := Lib.hid (HM.out.dr HW.out)
            have HSZ : Hid (w2.heap.size ≤ wr.heap.size) := by show _ ≤ _; rw [HW.out.heap]; exact HSZ0.out
            have hs := HB3.out.size
            have hlen : (genL (plF d) i).length = i := genL_length _ _
            clear HI HB HW HM
            go_wp2_with (at_builtin; refine wp_app_at _ rfl _ _ rfl w.heap.size _ _ _ rfl (HI3.out.alloc _) wr.heap.size 0 1 1 [plF d i] rfl rfl one_cell (by omega) (by simp; omega) ?_; intro v' w' hI' hB' hg' hat'; rw [← genL_succ (plF d) i] at hI'; have HI5 := Lib.hid hI'; have HB5 := Lib.hid ((HB3.out.alloc hs _).trans hB'); have HM5 := Lib.hid (HM3.out.grown_away hg' HAW.out); have HAW5 := Lib.hid (HAW.out.step hat' (by simp; have := HSZ.out; omega)); have HSZ5 := Lib.hid (size_step HSZ.out hB'); clear hI' hB' HI3 HB3 hg' hat')
            go_wp2
            go_roundw
            case rel => exact ⟨i + 1, by omega, by go_num, HI5, HB5, HM5, HAW5, HSZ5⟩
            case measure => simp [intOf]; omega
      · have hie : i = d.length := by omega
        subst hie
        go_wp2
        go_ret
        rw [HV.out]
        exact ⟨_, rfl, .inl HI.out, HB.out⟩
  · rw [keV_no hok] at hk
    have HK := Lib.hid <| hk
    have HV := Lib.hid <| plV_no (d := d) hok
    clear hk hok
    go_enter Try.func46, Try.ntmps46
    go_wp2_with fail
    refine HK.out.mono ?_
    rintro e w2 ⟨r, rfl, hr, hb2⟩
    have HI2 := Lib.hid (HE.out.fresh hb2).top
    have HB2 : Hid (Below w.heap.size w w2) := HA.out.trans (hb2.mono HA.out.size)
    obtain ⟨ao, cap, rfl, -⟩ := id hr.inn
    clear hr hb2 HK HE HA
    go_wp2
    go_loopw [3, 5] (fun ov iv wr => ov = .slice (some ⟨w.heap.size, 0, none⟩) 0 0 ∧ iv = .int .i64 0 ∧ Hid (Dr w2 wr)) (fun _ _ _ => 0)
    case atStart => exact ⟨rfl, rfl, Dr.refl _⟩
    case round =>
      obtain ⟨rfl, rfl, HW⟩ := hrel
      by_cases hd0 : d.length = 0
      · have hb : ¬ (0 : Int) < (d.length : Int) := by omega
        clear hd0
        go_wp2
        go_ret
        rw [HV.out]
        exact ⟨_, rfl, .inl (HI2.out.dr HW.out).top, HB2.out.trans (HW.out.below _)⟩
      · have hb : (0 : Int) < (d.length : Int) := by omega
        clear hd0
        go_wp2
        go_ret
        rw [HV.out]
        exact ⟨_, rfl, .inl (HI2.out.dr HW.out).top, HB2.out.trans (HW.out.below _)⟩

end Go.Proofs.Ytknnelenmedonaa
