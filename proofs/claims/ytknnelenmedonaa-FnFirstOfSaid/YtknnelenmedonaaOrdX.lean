/- What ordered, Ordered, ordersOf and l7Orders return. Conditions: as each theorem says. -/
import Derived.Test.YtknnelenmedonaaOrdW
namespace Go.Proofs.Ytknnelenmedonaa
set_option linter.unusedVariables false
set_option linter.unusedSimpArgs false
open Go.RowKit Go.Deep

set_option maxHeartbeats 1000000 in
theorem ordered_any (lo hi lo' hi' : Nat) (v u : Value) (d : List (List Int)) (o : List Int) (w : World) (hd : MMem lo hi w v d) (ho : IMem lo' hi' w u o) (hS : Space d) (hO : OrdP o) (hl : o.length = d.length) :
    Calls Try.prog 57 #[v, u] w (GivesM (ordL d o) w) := by
  obtain ⟨b, cap, BB, CC, rfl, hO1⟩ := hd.space hS
  obtain ⟨ob, oc, rfl, -⟩ := id ho.open
  rw [hl] at ho ⊢
  have hsix := hS.six
  have HO := Lib.hid hO1
  have HI0 := Lib.hid ho
  have HPL : Hid (∀ i, i < d.length → pl o i < d.length ∧ ((pl o i : Nat) : Int) = iat o i) := fun i hi => ⟨by have := hO.pl (i := i) (by omega); omega, hO.cast (by omega)⟩
  have HL := Lib.hid hl
  clear hd ho hO1 hS hO hl
  go_enter Try.func57, Try.ntmps57
  go_wp2
  go_loopw [5, 14] (fun ov iv wr => ∃ i : Nat, i ≤ d.length ∧ iv = .int .i64 i ∧ Hid (MMem w.heap.size wr.heap.size wr ov (genM (ordR d o) i)) ∧ Hid (Below w.heap.size w wr)) (fun _ iv _ => d.length - (intOf iv).toNat)
  case atStart => exact ⟨0, Nat.zero_le _, rfl, (MMem.empty w).widen (Nat.le_refl _) (by simp), (Below.refl _ _).alloc (Nat.le_refl _) _⟩
  case round =>
    obtain ⟨i, hi, rfl, HI, HB⟩ := hrel
    by_cases hilt : i < d.length
    · obtain ⟨wo, rfl⟩ : ∃ wo : World, wo = wr := ⟨_, rfl⟩
      obtain ⟨p1, p2⟩ := HPL.out i hilt
      have c1 := (HI0.out.fresh HB.out).cellAt (i := i) (by rw [HL.out]; exact hilt)
      rw [← p2] at c1
      clear p2
      have HR0 : Hid (IMem wo.heap.size (wo.alloc (.cells #[] 3)).heap.size (wo.alloc (.cells #[] 3)) (.slice (some ⟨wo.heap.size, 0, none⟩) 0 0) (genL (fun k => at2 d (pl o i) (pl o k)) 0)) := (IMem.empty wo).widen (Nat.le_refl _) (by simp)
      have HBW0 : Hid (Below wo.heap.size wo (wo.alloc (.cells #[] 3))) := (Below.refl _ _).alloc (Nat.le_refl _) _
      go_wp2
      go_loopw [8, 21] (fun rv jv wr => ∃ j : Nat, j ≤ d.length ∧ jv = .int .i64 j ∧ Hid (IMem wo.heap.size wr.heap.size wr rv (genL (fun k => at2 d (pl o i) (pl o k)) j)) ∧ Hid (Below wo.heap.size wo wr)) (fun _ jv _ => d.length - (intOf jv).toNat)
      case atStart => exact ⟨0, Nat.zero_le _, rfl, HR0, HBW0⟩
      case round =>
        clear HR0 HBW0
        obtain ⟨j, hj, rfl, HR, HBW⟩ := hrel
        by_cases hjlt : j < d.length
        · have hall := below_chain HB.out HBW.out
          obtain ⟨q1, q2⟩ := HPL.out j hjlt
          have c2 := (HI0.out.fresh hall).cellAt (i := j) (by rw [HL.out]; exact hjlt)
          rw [← q2] at c2
          clear q2
          have c3 := (HO.out.keep hall).top (pl o i) p1
          have c4 := (HO.out.keep hall).cell (pl o i) (pl o j) p1 q1
          have p1' : ((pl o i : Nat) : Int) < (d.length : Int) := by omega
          have q1' : ((pl o j : Nat) : Int) < (d.length : Int) := by omega
          have hs := HBW.out.size
          have hjl : (genL (fun k => at2 d (pl o i) (pl o k)) j).length = j := genL_length _ _
          go_wp2_with (at_builtin; refine wp_app _ rfl _ _ rfl wo.heap.size _ _ _ rfl (HR.out.alloc _) wr.heap.size 0 1 1 [at2 d (pl o i) (pl o j)] rfl rfl one_cell (by omega) (by simp; omega) ?_; intro v' w' hI' hB' _; rw [← genL_succ (fun k => at2 d (pl o i) (pl o k)) j] at hI'; have HR5 := Lib.hid hI'; have HB5 := Lib.hid ((HBW.out.alloc hs _).trans hB'); clear hI' hB' HR HBW hall c2 c3 c4)
          go_wp2
          go_roundw
          case rel => exact ⟨j + 1, by omega, by go_num, HR5, HB5⟩
          case measure => simp [intOf]; omega
        · have hje : j = d.length := by omega
          subst hje
          have hrw : genL (fun k => at2 d (pl o i) (pl o k)) d.length = ordR d o i := by unfold ordR; rw [HL.out]
          rw [hrw] at HR
          have hs := HB.out.size
          have hs2 := HBW.out.size
          obtain ⟨rb, rc, rfl, -⟩ := id HR.out.open
          have hml : (genM (ordR d o) i).length = i := genM_length _ _
          have HM2 := Lib.hid (HI.out.fresh HBW.out)
          go_wp2_with (at_builtin; refine wp_appM _ rfl _ _ rfl w.heap.size wo.heap.size _ _ _ _ (ordR d o i) rfl (HM2.out.alloc _) (HR.out.alloc _) hs wr.heap.size 1 rfl new_cell (by omega) (by simp; omega) ?_; intro v' w' hI' hB'; rw [← genM_succ (ordR d o) i] at hI'; have HI5 := Lib.hid hI'; have HB5 := Lib.hid (((below_chain HB.out HBW.out).alloc (by omega) _).trans hB'); clear hI' hB' HR HBW HM2 HI HB)
          go_wp2
          go_roundw
          case rel => exact ⟨i + 1, by omega, by go_num, HI5, HB5⟩
          case measure => simp [intOf]; omega
    · have hie : i = d.length := by omega
      subst hie
      have hrw : genM (ordR d o) d.length = ordL d o := by unfold ordL; rw [HL.out]
      rw [hrw] at HI
      go_wp2
      go_ret
      exact givesM_of (Below.refl _ _) HI.out HB.out

/-- What Ordered asks. -/
structure OdOk (d : List (List Int)) (o : List Int) : Prop where
  sp : Space d
  od : OrdP o
  len : o.length = d.length
noncomputable def odV (d : List (List Int)) (o : List Int) : List (List Int) := if decP (OdOk d o) then ordL d o else []
theorem odV_yes {d : List (List Int)} {o : List Int} (h : OdOk d o) : odV d o = ordL d o := by simp [odV, decP_yes h]
theorem odV_no {d : List (List Int)} {o : List Int} (h : ¬ OdOk d o) : odV d o = [] := by simp [odV, decP_no h]
theorem odV_small (d : List (List Int)) (o : List Int) : (odV d o).length ≤ 6 ∧ tot (odV d o) (odV d o).length ≤ 36 := by
  by_cases h : OdOk d o
  · have h6 := h.od.six
    rw [odV_yes h, ordL_length]
    refine ⟨h6, ?_⟩
    have := tot_le_of (L := ordL d o) (B := 6) (n := o.length) (fun i hi => by rw [ordL_length] at hi; rw [sq_ordL hi]; exact h6) (by rw [ordL_length]; exact Nat.le_refl _)
    omega
  · rw [odV_no h]
    exact ⟨Nat.zero_le _, Nat.zero_le _⟩

set_option maxHeartbeats 1000000 in
theorem implOrdered_any (lo hi lo' hi' : Nat) (v u : Value) (d : List (List Int)) (o : List Int) (w : World) (hd : MMem lo hi w v d) (ho : IMem lo' hi' w u o) :
    Calls Try.prog 24 #[v, u] w (GivesM (odV d o) w) := by
  have cs := isSpace_any lo hi v d w hd
  have co : ∀ w', Dr w w' → Calls Try.prog 51 #[u] w' (Quiet (.bool (decP (OrdP o))) w') := fun w' h => isOrder_any lo' hi' u o w' (ho.dr h)
  obtain ⟨b, cap, _, _, rfl, -⟩ := id hd.open
  obtain ⟨ob, oc, rfl, -⟩ := id ho.open
  have HD := Lib.hid hd
  have HI := Lib.hid ho
  clear hd ho
  by_cases hS : Space d
  · rw [decP_yes hS] at cs
    have HCS := Lib.hid <| cs
    by_cases hO : OrdP o
    · rw [decP_yes hO] at co
      have HCO := Lib.hid <| co
      by_cases hl : o.length = d.length
      · have HV := Lib.hid <| odV_yes ⟨hS, hO, hl⟩
        have hlb : ((o.length : Int) != (d.length : Int)) = false := by rw [hl]; simp
        have cc : ∀ w', Dr w w' → Calls Try.prog 57 #[.slice (some ⟨b, 0, none⟩) d.length cap, .slice (some ⟨ob, 0, none⟩) o.length oc] w' (GivesM (ordL d o) w') := fun w' h => ordered_any _ _ _ _ _ _ _ _ _ (HD.out.dr h) (HI.out.dr h) hS hO hl
        have HCC := Lib.hid <| cc
        clear cs co cc hS hO hl
        go_enter Try.func24, Try.ntmps24
        go_wp2_with fail
        refine (HCS.out).mono ?_
        rintro e w1 ⟨rfl, hd_w1⟩
        have HW1 : Hid (Dr _ w1) := hd_w1
        clear hd_w1
        go_wp2_with fail
        refine (HCO.out _ HW1.out).mono ?_
        rintro e w2 ⟨rfl, hd_w2⟩
        have HW2 : Hid (Dr _ w2) := HW1.out.trans hd_w2
        clear hd_w2 HW1
        go_wp2_with fail
        refine (HCC.out _ HW2.out).mono ?_
        rintro e w3 ⟨r, rfl, hr, hb⟩
        have HR := Lib.hid hr
        have HB := Lib.hid hb
        clear hr hb
        go_wp2
        go_ret
        rw [HV.out]
        have hsz : w2.heap.size = w.heap.size := by rw [HW2.out.heap]
        refine ⟨r, rfl, ?_, (HW2.out.below _).trans (by have := HB.out; rw [hsz] at this; exact this)⟩
        have := HR.out
        rw [hsz] at this
        exact this
      · have hlb : ((o.length : Int) != (d.length : Int)) = true := by simpa using fun e => hl (by omega)
        have HV := Lib.hid <| odV_no (d := d) (o := o) fun h => hl h.len
        clear cs co hS hO hl
        go_enter Try.func24, Try.ntmps24
        go_wp2_with fail
        refine (HCS.out).mono ?_
        rintro e w1 ⟨rfl, hd_w1⟩
        have HW1 : Hid (Dr _ w1) := hd_w1
        clear hd_w1
        go_wp2_with fail
        refine (HCO.out _ HW1.out).mono ?_
        rintro e w2 ⟨rfl, hd_w2⟩
        have HW2 : Hid (Dr _ w2) := HW1.out.trans hd_w2
        clear hd_w2 HW1
        go_wp2
        go_ret
        rw [HV.out]
        exact givesM_nil (HW2.out.below _)
    · rw [decP_no hO] at co
      have HCO := Lib.hid <| co
      have HV := Lib.hid <| odV_no (d := d) (o := o) fun h => hO h.od
      clear cs co hS hO
      go_enter Try.func24, Try.ntmps24
      go_wp2_with fail
      refine (HCS.out).mono ?_
      rintro e w1 ⟨rfl, hd_w1⟩
      have HW1 : Hid (Dr _ w1) := hd_w1
      clear hd_w1
      go_wp2_with fail
      refine (HCO.out _ HW1.out).mono ?_
      rintro e w2 ⟨rfl, hd_w2⟩
      have HW2 : Hid (Dr _ w2) := HW1.out.trans hd_w2
      clear hd_w2 HW1
      go_wp2
      go_ret
      rw [HV.out]
      exact givesM_nil (HW2.out.below _)
  · rw [decP_no hS] at cs
    have HCS := Lib.hid <| cs
    have HV := Lib.hid <| odV_no (d := d) (o := o) fun h => hS h.sp
    clear cs co hS
    go_enter Try.func24, Try.ntmps24
    go_wp2_with fail
    refine (HCS.out).mono ?_
    rintro e w1 ⟨rfl, hd_w1⟩
    have HW1 : Hid (Dr _ w1) := hd_w1
    clear hd_w1
    go_wp2
    go_ret
    rw [HV.out]
    exact givesM_nil (HW1.out.below _)

end Go.Proofs.Ytknnelenmedonaa
