/- What spec.ApartBy and impl.ApartBy return. Conditions: as each theorem says. -/
import Derived.Test.YtapllhnlngnobaaVals
namespace Go.Proofs.Ytapllhnlngnobaa
set_option linter.unusedVariables false
set_option linter.unusedSimpArgs false
open Go.RowKit Go.Deep

structure ApOk (f g : List Int) : Prop where
  len : f.length = g.length
  one : 1 ≤ f.length
  six : f.length ≤ 6
  fin : ∀ i, i < f.length → -200 ≤ iat f i ∧ iat f i ≤ 200
  gin : ∀ i, i < f.length → -200 ≤ iat g i ∧ iat g i ≤ 200

def apartAt (f g : List Int) (i : Nat) : Int := max (iat f i - iat g i) (iat g i - iat f i)
def apartF (f g : List Int) (n : Nat) : Int := maxN (apartAt f g) 0 n
theorem apartF_step (f g : List Int) (k : Nat) : (if (if apartF f g k < iat f k - iat g k then iat f k - iat g k else apartF f g k) < iat g k - iat f k then iat g k - iat f k else if apartF f g k < iat f k - iat g k then iat f k - iat g k else apartF f g k) = apartF f g (k + 1) := by
  simp only [apartF, maxN, apartAt]; (repeat' split) <;> omega
theorem apartF_zero (f g : List Int) : apartF f g 0 = 0 := rfl
theorem apartF_bound {f g : List Int} (h : ApOk f g) {k : Nat} (hk : k ≤ f.length) : 0 ≤ apartF f g k ∧ apartF f g k ≤ 400 :=
  ⟨le_maxN _ _ _, maxN_le (by omega) fun i hi => by
    have := h.fin i (by omega)
    have := h.gin i (by omega)
    simp only [apartAt]; omega⟩

noncomputable def apartV (f g : List Int) : Int := if decP (ApOk f g) then apartF f g f.length else -1
theorem apartV_yes {f g : List Int} (h : ApOk f g) : apartV f g = apartF f g f.length := by simp [apartV, decP_yes h]
theorem apartV_no {f g : List Int} (h : ¬ ApOk f g) : apartV f g = -1 := by simp [apartV, decP_no h]

set_option maxHeartbeats 1000000 in
theorem implApartBy_any (v u : Value) (f g : List Int) (w : World) (hf : IIn w v f) (hg : IIn w u g) :
    Calls Try.prog 17 #[v, u] w (Quiet (.int .i64 (apartV f g)) w) := by
  have cf : ∀ w', Dr w w' → Calls Try.prog 66 #[v, .int .i64 f.length] w' (Quiet (.bool (decP (Vals f f.length))) w') := fun w' hd => areValues_any _ _ _ _ (hf.dr hd)
  have cg : ∀ w', Dr w w' → Calls Try.prog 66 #[u, .int .i64 f.length] w' (Quiet (.bool (decP (Vals g f.length))) w') := fun w' hd => areValues_any _ _ _ _ (hg.dr hd)
  obtain ⟨ao, cap, rfl, hm, hc⟩ := hf
  obtain ⟨bo, bcap, rfl, hmb, hcb⟩ := hg
  rw [maxLen_val] at hm hmb
  have HC := Lib.hid hc
  have HD := Lib.hid hcb
  clear hc hcb
  by_cases h1 : 1 ≤ f.length
  · by_cases h6 : f.length ≤ 6
    · by_cases hvf : Vals f f.length
      · rw [decP_yes hvf] at cf
        by_cases hvg : Vals g f.length
        · have hok : ApOk f g := ⟨by have := hvg.1; omega, h1, h6, hvf.2, fun i hi => hvg.2 i (by have := hvg.1; omega)⟩
          have hgl : (f.length : Int) ≤ (g.length : Int) := by have := hvg.1; omega
          have HOK := Lib.hid hok
          have HV := Lib.hid (apartV_yes hok)
          rw [decP_yes hvg] at cg
          have HF := Lib.hid cf
          have HG := Lib.hid cg
          clear hok hvf hvg cf cg
          go_enter Try.func17, Try.ntmps17
          go_wp2_with fail
          refine (HF.out _ (Dr.refl _)).mono ?_
          rintro e w1 ⟨rfl, hd1⟩
          have HW1 : Hid (Dr w w1) := hd1
          clear hd1
          go_wp2_with fail
          refine (HG.out _ HW1.out).mono ?_
          rintro e w2 ⟨rfl, hd2⟩
          have HW2 : Hid (Dr w w2) := HW1.out.trans hd2
          clear hd2 HW1 HF HG
          go_wp2
          go_loopw [5, 31] (fun m i wr => ∃ k : Nat, k ≤ f.length ∧ i = .int .i64 k ∧ m = .int .i64 (apartF f g k) ∧ Hid (Dr w wr)) (fun _ i _ => f.length - (intOf i).toNat)
          case atStart => exact ⟨0, Nat.zero_le _, rfl, rfl, HW2⟩
          case round =>
            clear HW2
            obtain ⟨k, hk, rfl, rfl, HW⟩ := hrel
            by_cases hlt : k < f.length
            · obtain ⟨b, off, rfl, _, hcell0⟩ := HC.out k hlt
              obtain ⟨b', off', rfl, _, hcell0'⟩ := HD.out k (by omega)
              have hcell := (HW.out.cell _).trans hcell0
              have hcell' := (HW.out.cell _).trans hcell0'
              have hi2 : (k : Int) < (g.length : Int) := by omega
              have b1 := HOK.out.fin k hlt
              have b2 := HOK.out.gin k hlt
              have b3 := apartF_bound HOK.out hk
              have w1 : IntKind.i64.wrap (iat f k - iat g k) = iat f k - iat g k := IntWalk.i64_in _ (by omega)
              have w2 : IntKind.i64.wrap (iat g k - iat f k) = iat g k - iat f k := IntWalk.i64_in _ (by omega)
              have HS := Lib.hid (apartF_step f g k)
              clear hcell0 hcell0'
              go_wp2_with fail
              go_quiet (fail)
              clear w1 w2
              go_wp2
              go_roundw
              case rel => exact ⟨k + 1, by omega, by go_num, by rw [← HS.out], HW.out.more _⟩
              case measure => simp [intOf]; omega
            · have hke : k = f.length := by omega
              subst hke
              go_wp2
              go_ret
              exact ⟨by rw [HV.out]; rfl, HW.out⟩
        · have HV := Lib.hid (apartV_no (f := f) (g := g) fun h => hvg ⟨by rw [h.len], fun i hi => h.gin i (by rw [h.len]; exact hi)⟩)
          rw [decP_no hvg] at cg
          have HF := Lib.hid cf
          have HG := Lib.hid cg
          clear hvf hvg cf cg HC HD
          go_enter Try.func17, Try.ntmps17
          go_wp2_with fail
          refine (HF.out _ (Dr.refl _)).mono ?_
          rintro e w1 ⟨rfl, hd1⟩
          have HW1 : Hid (Dr w w1) := hd1
          clear hd1
          go_wp2_with fail
          refine (HG.out _ HW1.out).mono ?_
          rintro e w2 ⟨rfl, hd2⟩
          have HW2 : Hid (Dr w w2) := HW1.out.trans hd2
          clear hd2 HW1 HF HG
          go_wp2
          go_ret
          exact ⟨by rw [HV.out]; rfl, HW2.out⟩
      · have HV := Lib.hid (apartV_no (f := f) (g := g) fun h => hvf ⟨rfl, h.fin⟩)
        rw [decP_no hvf] at cf
        have HF := Lib.hid cf
        clear hvf cf cg HC HD
        go_enter Try.func17, Try.ntmps17
        go_wp2_with fail
        refine (HF.out _ (Dr.refl _)).mono ?_
        rintro e w1 ⟨rfl, hd1⟩
        have HW1 : Hid (Dr w w1) := hd1
        clear hd1 HF
        go_wp2
        go_ret
        exact ⟨by rw [HV.out]; rfl, HW1.out⟩
    · have HV := Lib.hid (apartV_no (f := f) (g := g) fun h => h6 h.six)
      have h7 : (6 : Int) < (f.length : Int) := by omega
      clear cf cg HC HD
      go_enter Try.func17, Try.ntmps17
      go_wp2_with fail
      go_ret
      exact ⟨by rw [HV.out]; rfl, Dr.refl _⟩
  · have HV := Lib.hid (apartV_no (f := f) (g := g) fun h => h1 h.one)
    have h7 : (f.length : Int) < 1 := by omega
    clear cf cg HC HD
    go_enter Try.func17, Try.ntmps17
    go_wp2_with fail
    go_ret
    exact ⟨by rw [HV.out]; rfl, Dr.refl _⟩

set_option maxHeartbeats 1000000 in
theorem specApartBy_any (v u : Value) (f g : List Int) (w : World) (hf : IIn w v f) (hg : IIn w u g) :
    Calls Try.prog 18 #[v, u] w (Quiet (.int .i64 (apartV f g)) w) := by
  obtain ⟨ao, cap, rfl, hm, hc⟩ := hf
  obtain ⟨bo, bcap, rfl, hmb, hcb⟩ := hg
  rw [maxLen_val] at hm hmb
  have HC := Lib.hid hc
  have HD := Lib.hid hcb
  clear hc hcb
  by_cases hl : f.length = g.length
  · have hl2 : ((f.length : Int) != (g.length : Int)) = false := by rw [hl]; simp
    have HL := Lib.hid hl
    by_cases h6 : 1 ≤ f.length ∧ f.length ≤ 6
    · obtain ⟨h1, h6⟩ := h6
      have hgl : (f.length : Int) ≤ (g.length : Int) := by omega
      clear hl
      go_enter Try.func18, Try.ntmps18
      go_wp2_with fail
      refine (l1In_yes _ _ _ _ (by omega) (by omega)).mono ?_
      rintro e w1 ⟨rfl, hd1⟩
      have HW1 : Hid (Dr w w1) := hd1
      clear hd1
      go_wp2
      go_loopw [5, 6] (fun m i wr => ∃ k : Nat, k ≤ f.length ∧ i = .int .i64 k ∧ m = .int .i64 (apartF f g k) ∧ Hid (Dr w wr) ∧ 0 ≤ apartF f g k ∧ apartF f g k ≤ 400 ∧
        Hid (∀ i, i < k → (-200 ≤ iat f i ∧ iat f i ≤ 200) ∧ (-200 ≤ iat g i ∧ iat g i ≤ 200))) (fun _ i _ => f.length - (intOf i).toNat)
      case atStart => exact ⟨0, Nat.zero_le _, rfl, rfl, HW1, by rw [apartF_zero]; omega, by rw [apartF_zero]; omega, none_yet⟩
      case round =>
        clear HW1
        obtain ⟨k, hk, rfl, rfl, HW, b1, b2, HJ⟩ := hrel
        by_cases hlt : k < f.length
        · obtain ⟨b, off, rfl, _, hcell0⟩ := HC.out k hlt
          obtain ⟨b', off', rfl, _, hcell0'⟩ := HD.out k (by omega)
          have hcell := (HW.out.cell _).trans hcell0
          have hcell' := (HW.out.cell _).trans hcell0'
          have hi2 : (k : Int) < (g.length : Int) := by omega
          clear hcell0 hcell0'
          by_cases hf1 : -200 ≤ iat f k ∧ iat f k ≤ 200
          · by_cases hg1 : -200 ≤ iat g k ∧ iat g k ≤ 200
            · have HJ2 := Lib.hid (all_step HJ.out ⟨hf1, hg1⟩)
              obtain ⟨f1, f2⟩ := hf1
              obtain ⟨g1, g2⟩ := hg1
              have ww1 : IntKind.i64.wrap (iat f k - iat g k) = iat f k - iat g k := IntWalk.i64_in _ (by omega)
              have ww2 : IntKind.i64.wrap (iat g k - iat f k) = iat g k - iat f k := IntWalk.i64_in _ (by omega)
              have hstep := apartF_step f g k
              have c1 : 0 ≤ apartF f g (k + 1) := by rw [← hstep]; (repeat' split) <;> omega
              have c2 : apartF f g (k + 1) ≤ 400 := by rw [← hstep]; (repeat' split) <;> omega
              have HS := Lib.hid hstep
              have HC1 := Lib.hid c1
              have HC2 := Lib.hid c2
              clear hstep c1 c2
              go_wp2_with fail
              refine (l1In_yes _ _ _ _ (by omega) (by omega)).mono ?_
              rintro e w1 ⟨rfl, hd1⟩
              have HW1 : Hid (Dr w w1) := HW.out.trans hd1
              have hcell1 := (hd1.cell _).trans hcell
              have hcell1' := (hd1.cell _).trans hcell'
              clear hd1 hcell hcell' HW
              go_wp2_with fail
              refine (l1In_yes _ _ _ _ (by omega) (by omega)).mono ?_
              rintro e w2 ⟨rfl, hd2⟩
              have HW2 : Hid (Dr w w2) := HW1.out.trans hd2
              have hcell := (hd2.cell _).trans hcell1
              have hcell' := (hd2.cell _).trans hcell1'
              clear hd2 hcell1 hcell1' HW1
              go_wp2_with fail
              go_quiet (fail)
              clear ww1 ww2
              go_wp2
              go_roundw
              case rel => exact ⟨k + 1, by omega, by go_num, by rw [← HS.out], HW2.out.more _, HC1.out, HC2.out, HJ2⟩
              case measure => simp [intOf]; omega
            · have HV := Lib.hid (apartV_no (f := f) (g := g) fun h => hg1 (h.gin k hlt))
              have HN := Lib.hid hg1
              clear hg1
              obtain ⟨f1, f2⟩ := hf1
              go_wp2_with fail
              refine (l1In_yes _ _ _ _ (by omega) (by omega)).mono ?_
              rintro e w1 ⟨rfl, hd1⟩
              have HW1 : Hid (Dr w w1) := HW.out.trans hd1
              have hcell1 := (hd1.cell _).trans hcell
              have hcell1' := (hd1.cell _).trans hcell'
              clear hd1 hcell hcell' HW
              go_wp2_with fail
              refine (l1In_no _ _ _ _ HN.out).mono ?_
              rintro e w2 ⟨rfl, hd2⟩
              have HW2 : Hid (Dr w w2) := HW1.out.trans hd2
              clear hd2
              go_wp2
              go_ret
              exact ⟨by rw [HV.out]; rfl, HW2.out⟩
          · have HV := Lib.hid (apartV_no (f := f) (g := g) fun h => hf1 (h.fin k hlt))
            have HN := Lib.hid hf1
            clear hf1
            go_wp2_with fail
            refine (l1In_no _ _ _ _ HN.out).mono ?_
            rintro e w1 ⟨rfl, hd1⟩
            have HW1 : Hid (Dr w w1) := HW.out.trans hd1
            clear hd1
            go_wp2
            go_ret
            exact ⟨by rw [HV.out]; rfl, HW1.out⟩
        · have hke : k = f.length := by omega
          subst hke
          have hok : ApOk f g := ⟨HL.out, h1, h6, fun i hi => (HJ.out i hi).1, fun i hi => (HJ.out i hi).2⟩
          have HV := Lib.hid (apartV_yes hok)
          clear hok
          go_wp2
          go_ret
          exact ⟨by rw [HV.out]; rfl, HW.out⟩
    · have HV := Lib.hid (apartV_no (f := f) (g := g) fun h => h6 ⟨h.one, h.six⟩)
      have HN : Hid (¬ ((1 : Int) ≤ f.length ∧ (f.length : Int) ≤ 6)) := fun h => h6 ⟨by omega, by omega⟩
      clear hl h6 HC HD
      go_enter Try.func18, Try.ntmps18
      go_wp2_with fail
      refine (l1In_no _ _ _ _ HN.out).mono ?_
      rintro e w1 ⟨rfl, hd1⟩
      have HW1 : Hid (Dr w w1) := hd1
      clear hd1
      go_wp2
      go_ret
      exact ⟨by rw [HV.out]; rfl, HW1.out⟩
  · have hl2 : ((f.length : Int) != (g.length : Int)) = true := by simpa using fun e => hl (by omega)
    have HV := Lib.hid (apartV_no (f := f) (g := g) fun h => hl h.len)
    clear hl HC HD
    go_enter Try.func18, Try.ntmps18
    go_wp2_with fail
    go_ret
    exact ⟨by rw [HV.out]; rfl, Dr.refl _⟩

end Go.Proofs.Ytapllhnlngnobaa
