/- What spec.Ordered, ordersOf and l7Orders return. Conditions: as each theorem says. -/
import Derived.Test.YtknnelenmedonaaOrdX
import Derived.Test.YtknnelenmedonaaStepApp
import Derived.Deep.RegionHeld3
namespace Go.Proofs.Ytknnelenmedonaa
set_option linter.unusedVariables false
set_option linter.unusedSimpArgs false
open Go.RowKit Go.Deep

/-- Rows that are handed back, not nil. -/
def GivesN (d : List (List Int)) (w : World) (e : Ending) (w' : World) : Prop := ∃ r, e = .returned r ∧ MMem w.heap.size w'.heap.size w' r d ∧ Below w.heap.size w w'
set_option maxHeartbeats 1000000 in
theorem specOrdered_mem (lo hi lo' hi' : Nat) (v u : Value) (d : List (List Int)) (o : List Int) (w : World) (hd : MMem lo hi w v d) (ho : IMem lo' hi' w u o) :
    Calls Try.prog 22 #[v, u] w (GivesN (odV d o) w) := by
  have cs : ∀ w', Below w.heap.size w w' → Calls Try.prog 45 #[v] w' (Quiet (.bool (decP (Space d))) w') := fun w' h => specSpaceOk_any lo hi v d w' (hd.fresh h)
  have co : ∀ w', Below w.heap.size w w' → Calls Try.prog 15 #[u] w' (Quiet (.bool (decP (OrdP o))) w') := fun w' h => specOrderOk_any lo' hi' u o w' (ho.fresh h)
  obtain ⟨b, cap, _, _, rfl, -⟩ := id hd.open
  obtain ⟨ob, oc, rfl, -⟩ := id ho.open
  have HD := Lib.hid hd
  have HI := Lib.hid ho
  clear hd ho
  have HA : Hid (Below w.heap.size w (w.alloc (.cells #[] 22))) := (Below.refl _ _).alloc (Nat.le_refl _) _
  have HE : Hid (MMem w.heap.size (w.alloc (.cells #[] 22)).heap.size (w.alloc (.cells #[] 22)) (.slice (some ⟨w.heap.size, 0, none⟩) 0 0) []) := (MMem.empty w).widen (Nat.le_refl _) (by simp)
  by_cases hS : Space d
  · rw [decP_yes hS] at cs
    have HCS := Lib.hid <| cs
    by_cases hO : OrdP o
    · rw [decP_yes hO] at co
      have HCO := Lib.hid <| co
      by_cases hl : o.length = d.length
      · have HV := Lib.hid <| odV_yes ⟨hS, hO, hl⟩
        have hlb : ((o.length : Int) != (d.length : Int)) = false := by rw [hl]; simp
        obtain ⟨_, _, BB, CC, e, hO1⟩ := HD.out.space hS
        injection e with e1 e2 e3
        injection e1 with e1
        injection e1 with e1
        subst e1 e3
        have hsix := hS.six
        have HO := Lib.hid hO1
        have HPL : Hid (∀ i, i < d.length → pl o i < d.length ∧ ((pl o i : Nat) : Int) = iat o i) := fun i hi => ⟨by have := hO.pl (i := i) (by omega); omega, hO.cast (by omega)⟩
        rw [hl] at HI HCO hlb ⊢
        have HL := Lib.hid hl
        clear cs co hS hO hl hO1 HD
        go_enter Try.func22, Try.ntmps22
        go_wp2_with fail
        refine (HCS.out _ HA.out).mono ?_
        rintro e w1 ⟨rfl, hd1⟩
        have HB1 : Hid (Below w.heap.size w w1) := HA.out.trans (hd1.below _)
        have HE1 := Lib.hid (HE.out.dr hd1)
        clear hd1 HE HA
        go_wp2_with fail
        refine (HCO.out _ HB1.out).mono ?_
        rintro e w2 ⟨rfl, hd2⟩
        have HB2 : Hid (Below w.heap.size w w2) := HB1.out.trans (hd2.below _)
        have HE2 : Hid (MMem w.heap.size w2.heap.size w2 (.slice (some ⟨w.heap.size, 0, none⟩) 0 0) (genM (ordR d o) 0)) := (HE1.out.dr hd2).top
        clear hd2 HE1 HB1 HCS HCO
        go_wp2
        go_loopw [5, 6] (fun ov iv wr => ∃ i : Nat, i ≤ d.length ∧ iv = .int .i64 i ∧ Hid (MMem w.heap.size wr.heap.size wr ov (genM (ordR d o) i)) ∧ Hid (Below w.heap.size w wr)) (fun _ iv _ => d.length - (intOf iv).toNat)
        case atStart => exact ⟨0, Nat.zero_le _, rfl, HE2, HB2⟩
        case round =>
          clear HE2 HB2
          obtain ⟨i, hi, rfl, HI1, HB⟩ := hrel
          by_cases hilt : i < d.length
          · obtain ⟨wo, rfl⟩ : ∃ wo : World, wo = wr := ⟨_, rfl⟩
            obtain ⟨p1, p2⟩ := HPL.out i hilt
            have HP2 := Lib.hid p2
            clear p2
            have HR0 : Hid (IMem wo.heap.size (wo.alloc (.cells #[] 3)).heap.size (wo.alloc (.cells #[] 3)) (.slice (some ⟨wo.heap.size, 0, none⟩) 0 0) (genL (fun k => at2 d (pl o i) (pl o k)) 0)) := (IMem.empty wo).widen (Nat.le_refl _) (by simp)
            have HBW0 : Hid (Below wo.heap.size wo (wo.alloc (.cells #[] 3))) := (Below.refl _ _).alloc (Nat.le_refl _) _
            go_wp2
            go_loopw [7, 8] (fun rv jv wr => ∃ j : Nat, j ≤ d.length ∧ jv = .int .i64 j ∧ Hid (IMem wo.heap.size wr.heap.size wr rv (genL (fun k => at2 d (pl o i) (pl o k)) j)) ∧ Hid (Below wo.heap.size wo wr)) (fun _ jv _ => d.length - (intOf jv).toNat)
            case atStart => exact ⟨0, Nat.zero_le _, rfl, HR0, HBW0⟩
            case round =>
              clear HR0 HBW0
              obtain ⟨j, hj, rfl, HR, HBW⟩ := hrel
              by_cases hjlt : j < d.length
              · have hall := below_chain HB.out HBW.out
                obtain ⟨q1, q2⟩ := HPL.out j hjlt
                have c1 := (HI.out.fresh hall).cellAt (i := i) (by rw [HL.out]; exact hilt)
                have c2 := (HI.out.fresh hall).cellAt (i := j) (by rw [HL.out]; exact hjlt)
                rw [← HP2.out] at c1
                rw [← q2] at c2
                clear q2
                have c3 := (HO.out.keep hall).top (pl o i) p1
                have c4 := (HO.out.keep hall).cell (pl o i) (pl o j) p1 q1
                have l1 : ob < wo.heap.size := World.block_lt_of_cell? wo _ ((HI.out.fresh HB.out).cellAt (i := i) (by rw [HL.out]; exact hilt))
                have l2 : b < wo.heap.size := World.block_lt_of_cell? wo _ ((HO.out.keep HB.out).top (pl o i) p1)
                have l3 : BB (pl o i) < wo.heap.size := World.block_lt_of_cell? wo _ ((HO.out.keep HB.out).cell (pl o i) (pl o j) p1 q1)
                have p1' : ((pl o i : Nat) : Int) < (d.length : Int) := by omega
                have q1' : ((pl o j : Nat) : Int) < (d.length : Int) := by omega
                have hil' : (i : Int) < (d.length : Int) := by omega
                have hjl' : (j : Int) < (d.length : Int) := by omega
                have hs := HBW.out.size
                have hjl : (genL (fun k => at2 d (pl o i) (pl o k)) j).length = j := genL_length _ _
                go_wp2_with fail
                go_region_held3 (fun w' => w'.cell? ⟨ob, i, none⟩ = some (.int .i64 (pl o i)) ∧ w'.cell? ⟨ob, j, none⟩ = some (.int .i64 (pl o j)) ∧ w'.cell? ⟨b, pl o i, none⟩ = some (.slice (some ⟨BB (pl o i), 0, none⟩) d.length (CC (pl o i))) ∧ w'.cell? ⟨BB (pl o i), pl o j, none⟩ = some (.int .i64 (at2 d (pl o i) (pl o j))))
                  (first
                    | exact ⟨c1, c2, c3, c4⟩
                    | go_keep
                    | (go_split_ands
                       refine ⟨?_, ?_, ?_, ?_⟩
                       · (rw [hB'.cell (p := ⟨ob, i, none⟩) l1]; simp [*])
                       · (rw [hB'.cell (p := ⟨ob, j, none⟩) l1]; simp [*])
                       · (rw [hB'.cell (p := ⟨b, pl o i, none⟩) l2]; simp [*])
                       · (rw [hB'.cell (p := ⟨BB (pl o i), pl o j, none⟩) l3]; simp [*])))
                  ((refine step_app _ (by rfl) _ _ (by rfl) wo.heap.size _ _ _ (by rfl) ((HR.out.alloc _).drew) wr.heap.size 0 1 1 [at2 d (pl o i) (pl o j)] (by rfl) (by rfl) one_cell_drew (by omega) (by rw [genL_length]; omega) (by simp; omega) ?_; intro g gc w' hI' hB'))
                rw [← genL_succ, hjl] at hI'
                have HR5 : Hid (IMem wo.heap.size w'.heap.size w' (.slice (some ⟨g, 0, none⟩) (j + 1) gc) (genL (fun k => at2 d (pl o i) (pl o k)) (j + 1))) := hI'
                have HB5 : Hid (Below wo.heap.size wo w') := (((HBW.out.alloc hs _).drew).trans hB')
                clear hI' hB' HR HBW hall c1 c2 c3 c4
                go_wp2
                go_roundw
                case rel => exact ⟨j + 1, by omega, by go_num, HR5, HB5⟩
                case measure => simp [intOf]; omega
              · have hje : j = d.length := by omega
                subst hje
                have hrw : genL (fun k => at2 d (pl o i) (pl o k)) d.length = ordR d o i := by unfold ordR; rw [HL.out]
                rw [hrw] at HR
                have hs := HB.out.size
                have hs2 := HBW.out.size
                obtain ⟨rb, rc, rfl, -⟩ := id HR.out.open
                have hml : (genM (ordR d o) i).length = i := genM_length _ _
                have HM2 := Lib.hid (HI1.out.fresh HBW.out)
                go_wp2_with (at_builtin; refine wp_appM _ rfl _ _ rfl w.heap.size wo.heap.size _ _ _ _ (ordR d o i) rfl (HM2.out.alloc _) (HR.out.alloc _) hs wr.heap.size 1 rfl new_cell (by omega) (by simp; omega) ?_; intro v' w' hI' hB'; rw [← genM_succ (ordR d o) i] at hI'; have HI5 := Lib.hid hI'; have HB5 := Lib.hid (((below_chain HB.out HBW.out).alloc (by omega) _).trans hB'); clear hI' hB' HR HBW HM2 HI1 HB)
                go_wp2
                go_roundw
                case rel => exact ⟨i + 1, by omega, by go_num, HI5, HB5⟩
                case measure => simp [intOf]; omega
          · have hie : i = d.length := by omega
            subst hie
            have hrw : genM (ordR d o) d.length = ordL d o := by unfold ordL; rw [HL.out]
            rw [hrw] at HI1
            go_wp2
            go_ret
            rw [HV.out]
            exact ⟨_, rfl, HI1.out, HB.out⟩
      · have hlb : ((o.length : Int) != (d.length : Int)) = true := by simpa using fun e => hl (by omega)
        have HV := Lib.hid <| odV_no (d := d) (o := o) fun h => hl h.len
        clear cs co hS hO hl
        go_enter Try.func22, Try.ntmps22
        go_wp2_with fail
        refine (HCS.out _ HA.out).mono ?_
        rintro e w1 ⟨rfl, hd1⟩
        have HB1 : Hid (Below w.heap.size w w1) := HA.out.trans (hd1.below _)
        have HE1 := Lib.hid (HE.out.dr hd1)
        clear hd1
        go_wp2_with fail
        refine (HCO.out _ HB1.out).mono ?_
        rintro e w2 ⟨rfl, hd2⟩
        have HB2 : Hid (Below w.heap.size w w2) := HB1.out.trans (hd2.below _)
        have HE2 := Lib.hid (HE1.out.dr hd2)
        clear hd2
        go_wp2
        go_ret
        rw [HV.out]
        exact ⟨_, rfl, HE2.out.top, HB2.out⟩
    · rw [decP_no hO] at co
      have HCO := Lib.hid <| co
      have HV := Lib.hid <| odV_no (d := d) (o := o) fun h => hO h.od
      clear cs co hS hO
      go_enter Try.func22, Try.ntmps22
      go_wp2_with fail
      refine (HCS.out _ HA.out).mono ?_
      rintro e w1 ⟨rfl, hd1⟩
      have HB1 : Hid (Below w.heap.size w w1) := HA.out.trans (hd1.below _)
      have HE1 := Lib.hid (HE.out.dr hd1)
      clear hd1
      go_wp2_with fail
      refine (HCO.out _ HB1.out).mono ?_
      rintro e w2 ⟨rfl, hd2⟩
      have HB2 : Hid (Below w.heap.size w w2) := HB1.out.trans (hd2.below _)
      have HE2 := Lib.hid (HE1.out.dr hd2)
      clear hd2
      go_wp2
      go_ret
      rw [HV.out]
      exact ⟨_, rfl, HE2.out.top, HB2.out⟩
  · rw [decP_no hS] at cs
    have HCS := Lib.hid <| cs
    have HV := Lib.hid <| odV_no (d := d) (o := o) fun h => hS h.sp
    clear cs co hS
    go_enter Try.func22, Try.ntmps22
    go_wp2_with fail
    refine (HCS.out _ HA.out).mono ?_
    rintro e w1 ⟨rfl, hd1⟩
    have HB1 : Hid (Below w.heap.size w w1) := HA.out.trans (hd1.below _)
    have HE1 := Lib.hid (HE.out.dr hd1)
    clear hd1
    go_wp2
    go_ret
    rw [HV.out]
    exact ⟨_, rfl, HE1.out.top, HB1.out⟩

theorem specOrdered_any (lo hi lo' hi' : Nat) (v u : Value) (d : List (List Int)) (o : List Int) (w : World) (hd : MMem lo hi w v d) (ho : IMem lo' hi' w u o) :
    Calls Try.prog 22 #[v, u] w (GivesM (odV d o) w) := (specOrdered_mem lo hi lo' hi' v u d o w hd ho).mono fun _ _ ⟨r, h1, h2, h3⟩ => ⟨r, h1, .inl h2, h3⟩

end Go.Proofs.Ytknnelenmedonaa
