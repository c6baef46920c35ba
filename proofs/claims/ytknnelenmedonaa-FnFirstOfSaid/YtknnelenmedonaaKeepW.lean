/- What keepingOf returns. Conditions: as each theorem says. -/
import Derived.Test.YtknnelenmedonaaDelSt
import Derived.Test.YtknnelenmedonaaCmp
import Derived.Test.YtknnelenmedonaaOrdX
import Derived.Test.YtknnelenmedonaaOrdZ
import Derived.Test.YtknnelenmedonaaLawKit
import Derived.Deep.RegionHeld3
import Derived.Lib.SliceRun
namespace Go.Proofs.Ytknnelenmedonaa
set_option linter.unusedVariables false
set_option linter.unusedSimpArgs false
open Go.RowKit Go.Deep

set_option maxHeartbeats 1000000 in
theorem keepFn_any (lo0 hi0 lo hi bx db dc : Nat) (u : Value) (d : List (List Int)) (o : List Int) (wb w : World) (hd : MMem lo0 hi0 wb (.slice (some ⟨db, 0, none⟩) d.length dc) d) (hS : Space d)
    (hbx : wb.cell? ⟨bx, 0, none⟩ = some (.slice (some ⟨db, 0, none⟩) d.length dc)) (hu : IMem lo hi w u o) (hO : OrdP o) (hl : o.length = d.length) (hb : Below wb.heap.size wb w) :
    Calls Try.prog 76 #[u, .pointer (some ⟨bx, 0, none⟩)] w (Gives (.bool (decP (ordL d o ≠ d))) w) := by
  obtain ⟨ub, uc, rfl, -⟩ := id hu.open
  have hbxl : bx < wb.heap.size := World.block_lt_of_cell? wb _ hbx
  have HCX : Hid (∀ w', Below wb.heap.size wb w' → w'.cell? ⟨bx, 0, none⟩ = some (.slice (some ⟨db, 0, none⟩) d.length dc)) := fun w' h => (h.cell (p := ⟨bx, 0, none⟩) hbxl).trans hbx
  have c1 := HCX.out _ hb
  have ho : Calls Try.prog 57 #[.slice (some ⟨db, 0, none⟩) d.length dc, .slice (some ⟨ub, 0, none⟩) o.length uc] w.drew (GivesM (ordL d o) w.drew) := ordered_any _ _ _ _ _ _ _ _ _ ((hd.fresh hb).drewN 1) (hu.drewN 1) hS hO hl
  have HB : Hid (Below wb.heap.size wb w.drew) := hb.drew
  have HD := Lib.hid hd
  have HO := Lib.hid <| ho
  by_cases he : ordL d o = d
  · have h0 : lexM (ordL d o) d = 0 := lexM_zero.2 he
    have HN := Lib.hid (decP_no (p := ordL d o ≠ d) fun h => h he)
    have H0 := Lib.hid h0
    clear ho hd hS hO hl hu hb hbx hbxl he h0
    go_enter Try.func76, Try.ntmps76
    go_wp2_with fail
    go_region_held3 (fun w' => w'.cell? ⟨bx, 0, none⟩ = some (.slice (some ⟨db, 0, none⟩) d.length dc))
      (first | exact c6 | exact c5 | exact c1)
      (first
        | (go_at_call 57; refine HO.out.mono ?_; rintro e w5 ⟨vr, rfl, hvr, hb5⟩; obtain ⟨rb, rc, rfl, -⟩ := id hvr.inn; have H5 := Lib.hid (below_chain HB.out hb5); have HW5 := Lib.hid hb5; have c5 := HCX.out _ H5.out; have HVR := Lib.hid hvr; clear hvr hb5)
        | (go_at_call 65; have ca := compareRows_any _ _ _ _ _ HVR.out.inn (HD.out.fresh H5.out).inn; rw [H0.out] at ca; refine ca.mono ?_; clear ca; rintro e w6 ⟨rfl, hd6⟩; have H6 := Lib.hid (HW5.out.trans (hd6.below _)); have c6 := HCX.out _ (H5.out.trans (hd6.below _)); clear hd6))
    go_wp2
    go_ret
    exact ⟨by rw [HN.out]; rfl, ((Dr.below (⟨1, rfl⟩ : Dr w w.drew) _).trans H6.out)⟩
  · have h0 : (lexM (ordL d o) d != 0) = true := by simpa using fun h => he (lexM_zero.1 h)
    have HN := Lib.hid (decP_yes (p := ordL d o ≠ d) he)
    clear ho hd hS hO hl hu hb hbx hbxl he
    go_enter Try.func76, Try.ntmps76
    go_wp2_with fail
    go_region_held3 (fun w' => w'.cell? ⟨bx, 0, none⟩ = some (.slice (some ⟨db, 0, none⟩) d.length dc))
      (first | exact c6 | exact c5 | exact c1)
      (first
        | (go_at_call 57; refine HO.out.mono ?_; rintro e w5 ⟨vr, rfl, hvr, hb5⟩; obtain ⟨rb, rc, rfl, -⟩ := id hvr.inn; have H5 := Lib.hid (below_chain HB.out hb5); have HW5 := Lib.hid hb5; have c5 := HCX.out _ H5.out; have HVR := Lib.hid hvr; clear hvr hb5)
        | (go_at_call 65; refine (compareRows_any _ _ _ _ _ HVR.out.inn (HD.out.fresh H5.out).inn).mono ?_; rintro e w6 ⟨rfl, hd6⟩; have H6 := Lib.hid (HW5.out.trans (hd6.below _)); have c6 := HCX.out _ (H5.out.trans (hd6.below _)); clear hd6))
    go_wp2
    go_ret
    exact ⟨by rw [HN.out]; rfl, ((Dr.below (⟨1, rfl⟩ : Dr w w.drew) _).trans H6.out)⟩

def IdxK (kp : Nat → Bool) (N : Nat) (w : World) (e : Ending) (w' : World) : Prop :=
  Below w.heap.size w w' ∧ ((e = .returned (.int .i64 (-1)) ∧ ∀ q, q < N → kp q = true) ∨ ∃ k : Nat, e = .returned (.int .i64 k) ∧ k < N ∧ kp k = false ∧ ∀ q, q < k → kp q = true)

set_option maxHeartbeats 1000000 in
theorem indexFunc_any (lo hi g cap bx : Nat) (wb w : World) (BB CC : Nat → Nat) (L : List (List Int)) (kp : Nat → Bool) (hL : L.length ≤ 3125)
    (hc : ∀ w' q, q < L.length → Below wb.heap.size wb w' → RowsAt lo hi w' BB CC L → Calls Try.prog 76 #[.slice (some ⟨BB q, 0, none⟩) (row L q).length (CC q), .pointer (some ⟨bx, 0, none⟩)] w' (Gives (.bool (!kp q)) w'))
    (hst : DelSt lo hi g cap wb BB CC L [] 0 w) :
    Calls Try.prog 80 #[.slice (some ⟨g, 0, none⟩) L.length cap, .func (.func 76) #[] #[.pointer (some ⟨bx, 0, none⟩)]] w (IdxK kp L.length w) := by
  have HS := Lib.hid hst
  have HC := Lib.hid <| hc
  clear hc hst
  go_enter Try.func80, Try.ntmps80
  go_wp2
  go_loopw [8] (fun i wr => ∃ k : Nat, k ≤ L.length ∧ i = .int .i64 k ∧ Hid (Below w.heap.size w wr) ∧ Hid (∀ q, q < k → kp q = true)) (fun i _ => L.length - (intOf i).toNat)
  case atStart => exact ⟨0, Nat.zero_le _, rfl, Below.refl _ _, fun j hj => absurd hj (by omega)⟩
  case round =>
    obtain ⟨k, hk, rfl, HW, HJ⟩ := hrel
    by_cases hlt : k < L.length
    · have hs := HS.out.fresh HW.out
      have c1 := hs.cell (Nat.zero_le k) hlt
      have hcall := HC.out wr k hlt hs.below hs.rows
      clear hs
      cases hkp : kp k
      · rw [hkp] at hcall
        have HCALL := Lib.hid <| hcall
        have HK := Lib.hid hkp
        clear hcall hkp
        go_wp2_with fail
        refine HCALL.out.mono ?_
        rintro e w3 ⟨rfl, hd3⟩
        have H3 := Lib.hid (below_chain HW.out hd3)
        clear hd3
        go_wp2
        go_ret
        exact ⟨H3.out, Or.inr ⟨k, rfl, hlt, HK.out, HJ.out⟩⟩
      · rw [hkp] at hcall
        have HCALL := Lib.hid <| hcall
        have HJ2 : Hid (∀ q, q < k + 1 → kp q = true) := all_step HJ.out hkp
        clear hcall hkp
        go_wp2_with fail
        refine HCALL.out.mono ?_
        rintro e w3 ⟨rfl, hd3⟩
        have H3 := Lib.hid (below_chain HW.out hd3)
        clear hd3 c1
        go_wp2
        go_roundw
        case rel => exact ⟨k + 1, by omega, by go_num, H3, HJ2⟩
        case measure => simp [intOf]; omega
    · have HJ2 : Hid (∀ q, q < L.length → kp q = true) := fun q hq => HJ.out q (by omega)
      go_wp2
      go_ret
      exact ⟨HW.out, Or.inl ⟨rfl, HJ2.out⟩⟩

end Go.Proofs.Ytknnelenmedonaa
