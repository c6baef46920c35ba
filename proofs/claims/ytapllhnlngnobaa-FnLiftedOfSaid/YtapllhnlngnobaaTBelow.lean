/- What impl.TightBelow and spec.TightBelow return. Conditions: as each theorem says. -/
import Derived.Test.YtapllhnlngnobaaHiLo
import Derived.Test.YtapllhnlngnobaaCovers
namespace Go.Proofs.Ytapllhnlngnobaa
set_option linter.unusedVariables false
set_option linter.unusedSimpArgs false
open Go.RowKit Go.Deep

theorem IMem.frozenAt {lo hi b n cap : Nat} {w : World} {zs : List Int} (h : IMem lo hi w (.slice (some ⟨b, 0, none⟩) n cap) zs) (i : Nat) : w.frozen? ⟨b, i, none⟩ = false := by
  obtain ⟨b', cap', hv, _, _, _, _, _, _, hf⟩ := h.open
  injection hv with e1
  injection e1 with e1
  injection e1 with e1
  subst e1
  exact hf i
theorem IMem.lo_le {lo hi b n cap : Nat} {w : World} {zs : List Int} (h : IMem lo hi w (.slice (some ⟨b, 0, none⟩) n cap) zs) : lo ≤ b ∧ b < hi ∧ b < w.heap.size := by
  obtain ⟨b', cap', hv, h1, h2, h3, _⟩ := h.open
  injection hv with e1
  injection e1 with e1
  injection e1 with e1
  subst e1
  exact ⟨h1, h2, h3⟩

theorem iat_set {l : List Int} {i j : Nat} {x : Int} (h : j < l.length) : iat (l.set i x) j = if i = j then x else iat l j := by
  unfold iat
  simp only [List.getD_eq_getElem?_getD, List.getElem?_set]
  split
  · subst_vars; simp [h]
  · rfl

/-- What one value becomes, given all others. -/
def lowAt (d : List (List Int)) (out : List Int) (i k : Nat) : Int := if k = i then 0 else at2 d i k - iat out k
def lowF (d : List (List Int)) (out : List Int) (i : Nat) : Int := maxN (lowAt d out i) 0 d.length
def tbTo (d : List (List Int)) (f : List Int) : Nat → List Int
  | 0 => f
  | i + 1 => (tbTo d f i).set i (lowF d (tbTo d f i) i)
theorem tbTo_length (d : List (List Int)) (f : List Int) (i : Nat) : (tbTo d f i).length = f.length := by
  induction i with
  | zero => rfl
  | succ i ih => simp [tbTo, ih]
theorem iat_tbTo {d : List (List Int)} {f : List Int} {i j : Nat} (h : j < f.length) : iat (tbTo d f (i + 1)) j = if i = j then lowF d (tbTo d f i) i else iat (tbTo d f i) j := by
  simp only [tbTo]
  exact iat_set (by rw [tbTo_length]; exact h)
theorem tbTo_bd {d : List (List Int)} {f : List Int} (h : Cov d f) {i : Nat} (hi : i ≤ d.length) : ∀ k, k < d.length → 0 ≤ iat (tbTo d f i) k ∧ iat (tbTo d f i) k ≤ 200 := by
  have hl := h.vals.len
  induction i with
  | zero => intro k hk; exact ⟨h.pos k hk, (h.vals.bd hk).2⟩
  | succ i ih =>
    intro k hk
    have ih := ih (by omega)
    rw [iat_tbTo (by omega)]
    split
    · refine ⟨le_maxN _ _ _, maxN_le (by omega) fun q hq => ?_⟩
      unfold lowAt
      split
      · omega
      · have h1 := (h.sp.ent i q (by omega) hq).2.1
        have h2 := (ih q hq).1
        omega
    · exact ih k hk
theorem low_step {d : List (List Int)} {out : List Int} {i k : Nat} (h : k ≠ i) :
    (if maxN (lowAt d out i) 0 k < at2 d i k - iat out k then at2 d i k - iat out k else maxN (lowAt d out i) 0 k) = maxN (lowAt d out i) 0 (k + 1) := by
  have := maxN_step (lowAt d out i) 0 k
  have e : lowAt d out i k = at2 d i k - iat out k := by simp [lowAt, h]
  rwa [e] at this
theorem low_skip {d : List (List Int)} {out : List Int} {i : Nat} : maxN (lowAt d out i) 0 i = maxN (lowAt d out i) 0 (i + 1) := by
  have e : lowAt d out i i = 0 := by simp [lowAt]
  have := le_maxN (lowAt d out i) 0 i
  simp only [maxN, e]; omega
noncomputable def tbV (d : List (List Int)) (f : List Int) : List Int := if decP (Cov d f) then tbTo d f d.length else []
theorem tbV_yes {d : List (List Int)} {f : List Int} (h : Cov d f) : tbV d f = tbTo d f d.length := by simp [tbV, decP_yes h]
theorem tbV_no {d : List (List Int)} {f : List Int} (h : ¬ Cov d f) : tbV d f = [] := by simp [tbV, decP_no h]
theorem copy_cells {lo hi fb n fc : Nat} {w : World} {f : List Int} (h : IMem lo hi w (.slice (some ⟨fb, 0, none⟩) n fc) f) (hl : f.length = n) (o : Obj) :
    ∀ i, i < n → (w.alloc o).cell? ⟨fb, 0 + i, none⟩ = some (.int .i64 (iat f i)) := fun i hi => by
  rw [Nat.zero_add]
  exact (h.alloc o).cellAt (by omega)

set_option maxHeartbeats 2000000 in
theorem implTightBelow_any (lo hi lo' hi' : Nat) (v u : Value) (d : List (List Int)) (f : List Int) (w : World) (hd : MMem lo hi w v d) (hf : IMem lo' hi' w u f) :
    Calls Try.prog 40 #[v, u] w (GivesI (tbV d f) w) := by
  have cs := covers_any lo hi lo' hi' v u d f w hd hf
  obtain ⟨fb, fc, rfl, _⟩ := hf.open
  by_cases hC : Cov d f
  · rw [decP_yes hC] at cs
    obtain ⟨b, cap, BB, CC, rfl, hO⟩ := hd.space hC.sp
    have hsix := hC.sp.six
    have hl := hC.vals.len
    rw [hl] at cs hf ⊢
    have HCS := Lib.hid <| cs
    have HO := Lib.hid <| hO
    have HCV := Lib.hid <| hC
    have HV := Lib.hid <| tbV_yes hC
    have HFI := Lib.hid <| hf
    clear cs hC hd hO hf
    have HL := Lib.hid hl
    clear hl
    go_enter Try.func40, Try.ntmps40
    go_wp2_with fail
    refine (HCS.out).mono ?_
    rintro e w1 ⟨rfl, hd_w1⟩
    have HW1 : Hid (Dr _ w1) := hd_w1
    clear hd_w1
    have HO1 : Hid (SOpen w1 b BB CC d) := HO.out.dr HW1.out
    have HF1 := Lib.hid (HFI.out.dr HW1.out)
    go_wp2_with (at_builtin; refine wp_app _ rfl _ _ rfl w1.heap.size (w1.heap.size + 1) _ [] rfl (IMem.empty _) fb 0 d.length _ f rfl HL.out (copy_cells HF1.out HL.out _) (by simp; omega) (by simp) ?_; intro v' w' hI' hB' _; rw [List.nil_append] at hI'; obtain ⟨g, gc, rfl, hg1, _⟩ := id hI'.open; rw [HL.out] at hI' ⊢)
    have HB2 : Hid (Below w1.heap.size w1 w') := ((Below.refl _ _).alloc (Nat.le_refl _) _).trans hB'
    have HI2 := Lib.hid hI'
    have HG1 := Lib.hid hg1
    clear hI' hB' hg1
    go_wp2
    go_loopw [19] (fun iv wr => ∃ i : Nat, i ≤ d.length ∧ iv = .int .i64 i ∧ Hid (IMem w1.heap.size wr.heap.size wr (.slice (some ⟨g, 0, none⟩) d.length gc) (tbTo d f i)) ∧ Hid (Below w1.heap.size w1 wr)) (fun iv _ => d.length - (intOf iv).toNat)
    case atStart => exact ⟨0, Nat.zero_le _, rfl, HI2, HB2⟩
    case round =>
      clear HI2 HB2
      obtain ⟨i, hi, rfl, HI, HB⟩ := hrel
      by_cases hilt : i < d.length
      · have HOr : Hid (SOpen wr b BB CC d) := HO1.out.keep HB.out
        have HBD := Lib.hid (tbTo_bd HCV.out hi)
        obtain ⟨wo, rfl⟩ : ∃ wo : World, wo = wr := ⟨_, rfl⟩
        go_wp2
        go_loopw [7, 24] (fun mv kv wr => ∃ k : Nat, k ≤ d.length ∧ kv = .int .i64 k ∧ mv = .int .i64 (maxN (lowAt d (tbTo d f i) i) 0 k) ∧ Hid (Dr wo wr)) (fun _ kv _ => d.length - (intOf kv).toNat)
        case atStart => exact ⟨0, Nat.zero_le _, rfl, rfl, Dr.refl _⟩
        case round =>
          obtain ⟨k, hk, rfl, rfl, HW⟩ := hrel
          by_cases hklt : k < d.length
          · have c2 := (HW.out.cell _).trans (HI.out.cellAt (i := k) (by rw [tbTo_length, HL.out]; exact hklt))
            by_cases h1 : k = i
            · subst h1
              have HS := Lib.hid <| low_skip (d := d) (out := tbTo d f k) (i := k)
              go_wp2
              go_roundw
              case rel => exact ⟨k + 1, by omega, by go_num, by rw [← HS.out], HW⟩
              case measure => simp [intOf]; omega
            · have hne : ((k : Int) != (i : Int)) = true := by simpa using fun e => h1 (by omega)
              have c3 := (HOr.out.dr HW.out).top i hilt
              have c4 := (HOr.out.dr HW.out).cell i k hilt hklt
              have b1 := HBD.out k hklt
              have b2 := HOr.out.bd i k hilt hklt
              skip
              have HS := Lib.hid <| low_step (d := d) (out := tbTo d f i) h1
              clear h1
              skip
              skip
              skip
              go_wp2
              go_roundw
              case rel => exact ⟨k + 1, by omega, by go_num, by rw [← HS.out], HW.out⟩
              case measure => simp [intOf]; omega
          · have hke : k = d.length := by omega
            subst hke
            have hfx : maxN (lowAt d (tbTo d f i) i) 0 d.length = lowF d (tbTo d f i) i := rfl
            rw [hfx]
            have hcell := (HW.out.cell _).trans (HI.out.cellAt (i := i) (by rw [tbTo_length, HL.out]; exact hilt))
            have hfz := (HW.out.frozen _).trans (HI.out.frozenAt i)
            have HI0 := Lib.hid (HI.out.dr HW.out)
            have HI3 : Hid (IMem w1.heap.size (wr.setCell ⟨g, i, none⟩ (.int .i64 (lowF d (tbTo d f i) i))).heap.size (wr.setCell ⟨g, i, none⟩ (.int .i64 (lowF d (tbTo d f i) i))) (.slice (some ⟨g, 0, none⟩) d.length gc) (tbTo d f (i + 1))) :=
              (HI0.out.set (by rw [tbTo_length, tbTo_length]) i (by rw [iat_tbTo (by rw [HL.out]; exact hilt), if_pos rfl]) (fun j hj hne => by rw [iat_tbTo (by rw [tbTo_length] at hj; exact hj), if_neg (fun e => hne e.symm)])).top
            have HB3 : Hid (Below w1.heap.size w1 (wr.setCell ⟨g, i, none⟩ (.int .i64 (lowF d (tbTo d f i) i)))) := (HB.out.trans (HW.out.below _)).setCell (p := ⟨g, i, none⟩) HG1.out _
            clear hfx HI HB HW
            go_wp2
            go_roundw
            case rel => exact ⟨i + 1, by omega, by go_num, HI3, HB3⟩
            case measure => simp [intOf]; omega
      · have hie : i = d.length := by omega
        subst hie
        go_wp2
        go_ret
        rw [HV.out]
        exact givesI_of (HW1.out.below _) HI.out HB.out
  · rw [decP_no hC] at cs
    have HCS := Lib.hid <| cs
    have HV := Lib.hid <| tbV_no hC
    obtain ⟨b, cap, _, _, rfl, _⟩ := hd.open
    clear cs hC hd hf
    go_enter Try.func40, Try.ntmps40
    go_wp2_with fail
    refine (HCS.out).mono ?_
    rintro e w1 ⟨rfl, hd_w1⟩
    have HW1 : Hid (Dr _ w1) := hd_w1
    clear hd_w1
    go_wp2
    go_ret
    rw [HV.out]
    exact givesI_nil (HW1.out.below _)

set_option maxHeartbeats 2000000 in
theorem specTightBelow_any (lo hi lo' hi' : Nat) (v u : Value) (d : List (List Int)) (f : List Int) (w : World) (hd : MMem lo hi w v d) (hf : IMem lo' hi' w u f) :
    Calls Try.prog 51 #[v, u] w (GivesI (tbV d f) w) := by
  have cs := specCoversOk_any lo hi lo' hi' v u d f w hd hf
  obtain ⟨fb, fc, rfl, _⟩ := hf.open
  by_cases hC : Cov d f
  · rw [decP_yes hC] at cs
    obtain ⟨b, cap, BB, CC, rfl, hO⟩ := hd.space hC.sp
    have hsix := hC.sp.six
    have hl := hC.vals.len
    rw [hl] at cs hf ⊢
    have HCS := Lib.hid <| cs
    have HO := Lib.hid <| hO
    have HCV := Lib.hid <| hC
    have HV := Lib.hid <| tbV_yes hC
    have HFI := Lib.hid <| hf
    clear cs hC hd hO hf
    have HL := Lib.hid hl
    clear hl
    go_enter Try.func51, Try.ntmps51
    go_wp2_with fail
    refine (HCS.out).mono ?_
    rintro e w1 ⟨rfl, hd_w1⟩
    have HW1 : Hid (Dr _ w1) := hd_w1
    clear hd_w1
    have HO1 : Hid (SOpen w1 b BB CC d) := HO.out.dr HW1.out
    have HF1 := Lib.hid (HFI.out.dr HW1.out)
    go_wp2_with (at_builtin; refine wp_app _ rfl _ _ rfl w1.heap.size (w1.heap.size + 1) _ [] rfl (IMem.empty _) fb 0 d.length _ f rfl HL.out (copy_cells HF1.out HL.out _) (by simp; omega) (by simp) ?_; intro v' w' hI' hB' _; rw [List.nil_append] at hI'; obtain ⟨g, gc, rfl, hg1, _⟩ := id hI'.open; rw [HL.out] at hI' ⊢)
    have HB2 : Hid (Below w1.heap.size w1 w') := ((Below.refl _ _).alloc (Nat.le_refl _) _).trans hB'
    have HI2 := Lib.hid hI'
    have HG1 := Lib.hid hg1
    clear hI' hB' hg1
    go_wp2
    go_loopw [6] (fun iv wr => ∃ i : Nat, i ≤ d.length ∧ iv = .int .i64 i ∧ Hid (IMem w1.heap.size wr.heap.size wr (.slice (some ⟨g, 0, none⟩) d.length gc) (tbTo d f i)) ∧ Hid (Below w1.heap.size w1 wr)) (fun iv _ => d.length - (intOf iv).toNat)
    case atStart => exact ⟨0, Nat.zero_le _, rfl, HI2, HB2⟩
    case round =>
      clear HI2 HB2
      obtain ⟨i, hi, rfl, HI, HB⟩ := hrel
      by_cases hilt : i < d.length
      · have HOr : Hid (SOpen wr b BB CC d) := HO1.out.keep HB.out
        have HBD := Lib.hid (tbTo_bd HCV.out hi)
        obtain ⟨wo, rfl⟩ : ∃ wo : World, wo = wr := ⟨_, rfl⟩
        go_wp2
        go_loopw [7, 8] (fun mv kv wr => ∃ k : Nat, k ≤ d.length ∧ kv = .int .i64 k ∧ mv = .int .i64 (maxN (lowAt d (tbTo d f i) i) 0 k) ∧ Hid (Dr wo wr)) (fun _ kv _ => d.length - (intOf kv).toNat)
        case atStart => exact ⟨0, Nat.zero_le _, rfl, rfl, Dr.refl _⟩
        case round =>
          obtain ⟨k, hk, rfl, rfl, HW⟩ := hrel
          by_cases hklt : k < d.length
          · have c2 := (HW.out.cell _).trans (HI.out.cellAt (i := k) (by rw [tbTo_length, HL.out]; exact hklt))
            by_cases h1 : k = i
            · subst h1
              have HS := Lib.hid <| low_skip (d := d) (out := tbTo d f k) (i := k)
              go_wp2
              go_roundw
              case rel => exact ⟨k + 1, by omega, by go_num, by rw [← HS.out], HW⟩
              case measure => simp [intOf]; omega
            · have hne : ((k : Int) != (i : Int)) = true := by simpa using fun e => h1 (by omega)
              have c3 := (HOr.out.dr HW.out).top i hilt
              have c4 := (HOr.out.dr HW.out).cell i k hilt hklt
              have b1 := HBD.out k hklt
              have b2 := HOr.out.bd i k hilt hklt
              have e1 : IntKind.i64.wrap (at2 d i k - iat (tbTo d f i) k) = at2 d i k - iat (tbTo d f i) k := IntWalk.i64_in _ (by omega)
              have HS := Lib.hid <| low_step (d := d) (out := tbTo d f i) h1
              clear h1
              go_wp2_with fail
              go_quiet (fail)
              clear e1
              go_wp2
              go_roundw
              case rel => exact ⟨k + 1, by omega, by go_num, by rw [← HS.out], HW.out.more _⟩
              case measure => simp [intOf]; omega
          · have hke : k = d.length := by omega
            subst hke
            have hfx : maxN (lowAt d (tbTo d f i) i) 0 d.length = lowF d (tbTo d f i) i := rfl
            rw [hfx]
            have hcell := (HW.out.cell _).trans (HI.out.cellAt (i := i) (by rw [tbTo_length, HL.out]; exact hilt))
            have hfz := (HW.out.frozen _).trans (HI.out.frozenAt i)
            have HI0 := Lib.hid (HI.out.dr HW.out)
            have HI3 : Hid (IMem w1.heap.size (wr.setCell ⟨g, i, none⟩ (.int .i64 (lowF d (tbTo d f i) i))).heap.size (wr.setCell ⟨g, i, none⟩ (.int .i64 (lowF d (tbTo d f i) i))) (.slice (some ⟨g, 0, none⟩) d.length gc) (tbTo d f (i + 1))) :=
              (HI0.out.set (by rw [tbTo_length, tbTo_length]) i (by rw [iat_tbTo (by rw [HL.out]; exact hilt), if_pos rfl]) (fun j hj hne => by rw [iat_tbTo (by rw [tbTo_length] at hj; exact hj), if_neg (fun e => hne e.symm)])).top
            have HB3 : Hid (Below w1.heap.size w1 (wr.setCell ⟨g, i, none⟩ (.int .i64 (lowF d (tbTo d f i) i)))) := (HB.out.trans (HW.out.below _)).setCell (p := ⟨g, i, none⟩) HG1.out _
            clear hfx HI HB HW
            go_wp2
            go_roundw
            case rel => exact ⟨i + 1, by omega, by go_num, HI3, HB3⟩
            case measure => simp [intOf]; omega
      · have hie : i = d.length := by omega
        subst hie
        go_wp2
        go_ret
        rw [HV.out]
        exact givesI_of (HW1.out.below _) HI.out HB.out
  · rw [decP_no hC] at cs
    have HCS := Lib.hid <| cs
    have HV := Lib.hid <| tbV_no hC
    obtain ⟨b, cap, _, _, rfl, _⟩ := hd.open
    clear cs hC hd hf
    go_enter Try.func51, Try.ntmps51
    go_wp2_with fail
    refine (HCS.out).mono ?_
    rintro e w1 ⟨rfl, hd_w1⟩
    have HW1 : Hid (Dr _ w1) := hd_w1
    clear hd_w1
    go_wp2
    go_ret
    rw [HV.out]
    exact givesI_empty (HW1.out.below _)

end Go.Proofs.Ytapllhnlngnobaa
