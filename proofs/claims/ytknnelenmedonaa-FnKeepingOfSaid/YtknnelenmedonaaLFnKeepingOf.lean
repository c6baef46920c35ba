/- The law FnKeepingOf: for every code it returns true. Conditions: none. -/
import Derived.Test.YtknnelenmedonaaDrawP
import Derived.Test.YtknnelenmedonaaKeepS
import Derived.Test.YtknnelenmedonaaSevenLaw
import Derived.Test.YtknnelenmedonaaStepApp
import Derived.Deep.RegionHeld3
import Derived.Test.YtknnelenmedonaaSame
import Derived.Test.YtknnelenmedonaaLawFn
import Derived.Test.YtknnelenmedonaaOpenB
import Derived.Test.YtknnelenmedonaaRows
namespace Go.Proofs.Ytknnelenmedonaa
set_option linter.unusedVariables false
set_option linter.unusedSimpArgs false
namespace fnKeepingOf
open Go.ChangeShapes Go.WideShapes Go.ChangeAt Go.RowKit Go.Deep

theorem fac_step (k : Nat) : fac k * (k + 1) = fac (k + 1) := rfl
theorem fac_le {k : Nat} (h : k ≤ 6) : 1 ≤ fac k ∧ fac k ≤ 720 := by
  have : k = 0 ∨ k = 1 ∨ k = 2 ∨ k = 3 ∨ k = 4 ∨ k = 5 ∨ k = 6 := by omega
  rcases this with rfl | rfl | rfl | rfl | rfl | rfl | rfl <;> decide

set_option maxRecDepth 100000 in
set_option maxHeartbeats 8000000 in
theorem walk_all (w : World) (v0 : Value) (n0 : Nat) (h0 : BIn w v0 n0) :
    Calls Try.prog 8 #[v0] w fun e w' => e = .returned (.bool true) ∧ Below w.heap.size w w' := by
  obtain ⟨ao, cap, rfl, hn1, hn2, _⟩ := id h0
  rw [maxLen_val] at hn2
  have hN : n0 ≤ 9223372036854775807 := by omega
  have H0 := Lib.hid h0
  clear h0 hn1 hn2
  by_cases hlong : n0 ≤ 1048576
  rotate_left
  · clear H0
    go_enter Try.func8, Try.ntmps8
    go_wp2
    go_ret
    exact ⟨rfl, Below.refl _ _⟩
  go_enter Try.func8, Try.ntmps8
  go_wp2_with fail
  refine (drawKeepingOf_any _ _ _ H0.out).mono ?_
  rintro e w1 ⟨vd, d, rfl, hd, hd6, hb⟩
  clear H0 hlong
  have H1 : Hid (Below w1.heap.size w1 w1) := Below.refl _ _
  obtain ⟨db, dc, _, _, rfl, -⟩ := id hd.open
  have HD := Lib.hid hd
  have HB := Lib.hid hb
  have ci : ∀ (w' : World), Below w1.heap.size w1 w' → Calls Try.prog 35 #[.slice (some ⟨db, 0, none⟩) d.length dc] w' (GivesM (keV d) w') := fun w' hb => implKeepingOf_any _ _ _ _ _ (HD.out.fresh hb)
  have cs : ∀ (w' : World), Below w1.heap.size w1 w' → Calls Try.prog 34 #[.slice (some ⟨db, 0, none⟩) d.length dc] w' (GivesM (keV d) w') := fun w' hb => specKeepingOf_any _ _ _ _ _ (HD.out.fresh hb)
  by_cases hok : KeOk d
  · have hS := hok.sp
    have h5 := hok.five
    have hone := hS.one
    rw [keV_yes hok] at ci cs
    have hk1 := keepL_one hS
    have hkl : (keepL d).length ≤ 3125 := Nat.le_trans (keepL_len d) (ordK_bound h5 h5)
    have HK0 : Hid (∀ k, k < d.length → iat (row (keepL d) 0) k = k) := fun k hk => by rw [keep_first hS h5, iat_ownO hk]
    have HKR : Hid (∀ j, j < (keepL d).length → (row (keepL d) j).length = d.length) := fun j hj => ((keepL_mem hS).1 (row_mem hj)).2.1
    have HKB : Hid (∀ j k, j < (keepL d).length → k < d.length → 0 ≤ iat (row (keepL d) j) k ∧ iat (row (keepL d) j) k < d.length) := fun j k hj hk => by
      obtain ⟨o1, o2, _⟩ := (keepL_mem hS).1 (row_mem hj)
      rw [← o2]; exact o1.bd k (by omega)
    have HOD : Hid (∀ (w' : World) (lo hi : Nat) (v : Value) (k j : Nat), k < (keepL d).length → j < (keepL d).length → IMem lo hi w' v (cmpO (row (keepL d) k) (row (keepL d) j)) → Below w1.heap.size w1 w' → Calls Try.prog 24 #[.slice (some ⟨db, 0, none⟩) d.length dc, v] w' (GivesM d w')) := fun w' lo hi v k j hk hj hv hb => by
      have := implOrdered_any _ _ _ _ _ _ _ _ _ (HD.out.fresh hb) hv
      obtain ⟨a, b, c⟩ := (keepL_mem hS).1 (keep_cmp hS (row_mem hk) (row_mem hj))
      rwa [odV_yes ⟨hS, a, b⟩, c] at this
    have HDV := Lib.hid (keep_dvd hS h5)
    have CI := Lib.hid <| ci
    have CS := Lib.hid <| cs
    clear ci cs hd hb hok hS
    generalize keepL d = K at *
    go_wp2_with fail
    refine (CI.out w1 H1.out).mono ?_
    rintro e w2 ⟨vl, rfl, hl, hb2⟩
    have hm := hl.mem hk1
    obtain ⟨kb, kc, BB, CC, rfl, _, _, hkbl, _, hcap, hcell, hrow, -⟩ := id hm.open
    rw [maxLen_val] at hcap
    have HM := Lib.hid hm
    have HCL := Lib.hid hcell
    have HRL := Lib.hid fun q hq => (hrow q hq).2.2.2.2.2.2
    have HLT : Hid (∀ q, q < K.length → BB q < w2.heap.size) := fun q hq => (hrow q hq).2.2.1
    have HKBL := Lib.hid hkbl
    clear hcell hrow hkbl
    have H12 := Lib.hid hb2
    clear hl hb2 hm
    go_wp2_with fail
    refine (CS.out w2 H12.out).mono ?_
    rintro e w3 ⟨vh, rfl, hh, hb3⟩
    have cq := gives_of_quiet (sameRows_any _ _ _ _ _ (HM.out.fresh hb3).inn hh.inn)
    rw [sameMB_yes rfl] at cq
    have CQ := Lib.hid <| cq
    have H3 := Lib.hid hb3
    clear cq hh hb3
    go_wp2_with fail
    refine (CQ.out).mono ?_
    rintro e w4 ⟨rfl, hd_w4⟩
    have H4 : Hid (Below w2.heap.size w2 w4) := below_chain H3.out hd_w4
    clear hd_w4 H3
    have hkb : ((K.length : Int) == 0) = false := by simpa using (show K.length ≠ 0 by omega)
    have HF0 : Hid ((1 : Int) = (fac 0 : Nat)) := rfl
    clear CI CS CQ
    go_wp2
    go_loopw [5, 6] (fun av kv wr => ∃ k : Nat, k ≤ d.length ∧ kv = .int .i64 k ∧ av = .int .i64 (fac k : Nat) ∧ Hid (Below w2.heap.size w2 wr)) (fun _ kv _ => d.length - (intOf kv).toNat)
    case atStart => exact ⟨0, Nat.zero_le _, rfl, rfl, H4⟩
    case round =>
      clear H4
      obtain ⟨k, hk, rfl, rfl, H4⟩ := hrel
      by_cases hkl : k < d.length
      · have c1 := (H4.out.cell (p := ⟨kb, 0, none⟩) HKBL.out).trans (HCL.out 0 (by omega))
        rw [HKR.out 0 (by omega)] at c1
        have c2 := ((HRL.out 0 (by omega)).fresh H4.out).cellAt (i := k) (by rw [HKR.out 0 (by omega)]; exact hkl)
        rw [HK0.out k hkl] at c2
        have hf := fac_le (k := k + 1) (by omega)
        have hmul : ((fac k : Nat) : Int) * ((k : Int) + 1) = ((fac (k + 1) : Nat) : Int) := by rw [← fac_step]; simp
        have hki : (k : Int) < (d.length : Int) := by omega
        have hk0 : (0 : Int) < (K.length : Int) := by omega
        go_wp2
        go_roundw
        case rel => exact ⟨k + 1, by omega, by go_num, rfl, H4⟩
        case measure => simp [intOf]; omega
      · have hke : k = d.length := by omega
        subst hke
        go_wp2
        go_loopw [7] (fun kv wr => ∃ k : Nat, k ≤ K.length ∧ kv = .int .i64 k ∧ Hid (Below w2.heap.size w2 wr)) (fun kv _ => K.length - (intOf kv).toNat)
        case atStart => exact ⟨0, Nat.zero_le _, rfl, H4⟩
        case round =>
          clear H4
          obtain ⟨k, hk, rfl, H4⟩ := hrel
          by_cases hk6 : k < K.length ∧ k < 6
          · obtain ⟨hkl, h6⟩ := hk6
            have hki : (k : Int) < (K.length : Int) := by omega
            have h6i : decide ((k : Int) < 6) = true := by simp; omega
            go_wp2
            go_loopw [8] (fun jv wr => ∃ j : Nat, j ≤ K.length ∧ jv = .int .i64 j ∧ Hid (Below w2.heap.size w2 wr)) (fun jv _ => K.length - (intOf jv).toNat)
            case atStart => exact ⟨0, Nat.zero_le _, rfl, H4⟩
            case round =>
              clear H4
              obtain ⟨j, hj, rfl, H4⟩ := hrel
              by_cases hjl : j < K.length
              · obtain ⟨wo, rfl⟩ : ∃ wo : World, wo = wr := ⟨_, rfl⟩
                have HR0 : Hid (IMem wo.heap.size (wo.alloc (.cells #[] 3)).heap.size (wo.alloc (.cells #[] 3)) (.slice (some ⟨wo.heap.size, 0, none⟩) 0 0) (genL (fun m => iat (row K k) (pl (row K j) m)) 0)) := (IMem.empty wo).widen (Nat.le_refl _) (by simp)
                have HBW0 : Hid (Below wo.heap.size wo (wo.alloc (.cells #[] 3))) := (Below.refl _ _).alloc (Nat.le_refl _) _
                have hji : (j : Int) < (K.length : Int) := by omega
                go_wp2
                go_loopw [9, 10] (fun bv mv wr => ∃ m : Nat, m ≤ d.length ∧ mv = .int .i64 m ∧ Hid (IMem wo.heap.size wr.heap.size wr bv (genL (fun m => iat (row K k) (pl (row K j) m)) m)) ∧ Hid (Below wo.heap.size wo wr)) (fun _ mv _ => d.length - (intOf mv).toNat)
                case atStart => exact ⟨0, Nat.zero_le _, rfl, HR0, HBW0⟩
                case round =>
                  clear HR0 HBW0
                  obtain ⟨m, hm, rfl, HR, HBW⟩ := hrel
                  by_cases hml : m < d.length
                  · have hall := below_chain H4.out HBW.out
                    obtain ⟨b1, b2⟩ := HKB.out j m hjl hml
                    have hp : pl (row K j) m < d.length := by unfold pl; omega
                    have hpc : ((pl (row K j) m : Nat) : Int) = iat (row K j) m := by unfold pl; omega
                    have c1 := (hall.cell (p := ⟨kb, k, none⟩) HKBL.out).trans (HCL.out k hkl)
                    have c2 := (hall.cell (p := ⟨kb, j, none⟩) HKBL.out).trans (HCL.out j hjl)
                    rw [HKR.out k hkl] at c1
                    rw [HKR.out j hjl] at c2
                    have c3 := ((HRL.out j hjl).fresh hall).cellAt (i := m) (by rw [HKR.out j hjl]; exact hml)
                    rw [← hpc] at c3
                    have c4 := ((HRL.out k hkl).fresh hall).cellAt (i := pl (row K j) m) (by rw [HKR.out k hkl]; exact hp)
                    clear hpc b1 b2
                    have l1 : kb < wo.heap.size := Nat.lt_of_lt_of_le HKBL.out H4.out.size
                    have l2 : BB j < wo.heap.size := Nat.lt_of_lt_of_le (HLT.out j hjl) H4.out.size
                    have l3 : BB k < wo.heap.size := Nat.lt_of_lt_of_le (HLT.out k hkl) H4.out.size
                    have hpi : ((pl (row K j) m : Nat) : Int) < (d.length : Int) := by omega
                    have hmi : (m : Int) < (d.length : Int) := by omega
                    have hs := HBW.out.size
                    have hgl : (genL (fun m => iat (row K k) (pl (row K j) m)) m).length = m := genL_length _ _
                    go_wp2_with fail
                    go_region_held3 (fun w' => w'.cell? ⟨kb, k, none⟩ = some (.slice (some ⟨BB k, 0, none⟩) d.length (CC k)) ∧ w'.cell? ⟨kb, j, none⟩ = some (.slice (some ⟨BB j, 0, none⟩) d.length (CC j)) ∧ w'.cell? ⟨BB j, m, none⟩ = some (.int .i64 (pl (row K j) m)) ∧ w'.cell? ⟨BB k, pl (row K j) m, none⟩ = some (.int .i64 (iat (row K k) (pl (row K j) m))))
                      (first
                        | exact ⟨c1, c2, c3, c4⟩
                        | go_keep
                        | (go_split_ands
                           refine ⟨?_, ?_, ?_, ?_⟩
                           · (rw [hB'.cell (p := ⟨kb, k, none⟩) l1]; simp [*])
                           · (rw [hB'.cell (p := ⟨kb, j, none⟩) l1]; simp [*])
                           · (rw [hB'.cell (p := ⟨BB j, m, none⟩) l2]; simp [*])
                           · (rw [hB'.cell (p := ⟨BB k, pl (row K j) m, none⟩) l3]; simp [*])))
                      ((refine step_app _ (by rfl) _ _ (by rfl) wo.heap.size _ _ _ (by rfl) ((HR.out.alloc _).drew) wr.heap.size 0 1 1 [iat (row K k) (pl (row K j) m)] (by rfl) (by rfl) one_cell_drew (by omega) (by rw [genL_length]; omega) (by simp; omega) ?_; intro g gc w' hI' hB'))
                    rw [← genL_succ (fun m => iat (row K k) (pl (row K j) m)) m, hgl] at hI'
                    have HR5 : Hid (IMem wo.heap.size w'.heap.size w' (.slice (some ⟨g, 0, none⟩) (m + 1) gc) (genL (fun m => iat (row K k) (pl (row K j) m)) (m + 1))) := hI'
                    have HB5 : Hid (Below wo.heap.size wo w') := (((HBW.out.alloc hs _).drew).trans hB')
                    clear hI' hB' HR HBW hall c1 c2 c3 c4
                    go_wp2
                    go_roundw
                    case rel => exact ⟨m + 1, by omega, by go_num, HR5, HB5⟩
                    case measure => simp [intOf]; omega
                  · have hme : m = d.length := by omega
                    subst hme
                    have hrw : genL (fun m => iat (row K k) (pl (row K j) m)) d.length = cmpO (row K k) (row K j) := by unfold cmpO; rw [HKR.out j hjl]
                    rw [hrw] at HR
                    have hall := below_chain H4.out HBW.out
                    have hoc := HOD.out _ _ _ _ k j hkl hjl HR.out (below_chain H12.out hall)
                    have HALL := Lib.hid hall
                    have HOC := Lib.hid <| hoc
                    clear hoc hall hrw
                    go_wp2_with fail
                    refine HOC.out.mono ?_
                    rintro e w6 ⟨vo, rfl, ho, hb6⟩
                    have cq := gives_of_quiet (sameRows_any _ _ _ _ _ ho.inn ((HD.out.fresh (below_chain H12.out HALL.out)).fresh hb6).inn)
                    rw [sameMB_yes rfl] at cq
                    have H6 := Lib.hid (below_chain HALL.out hb6)
                    obtain ⟨xo, xc, rfl, -⟩ := id ho.inn
                    have CQ := Lib.hid <| cq
                    clear cq ho hb6 HALL HOC HR HBW H4
                    go_wp2_with fail
                    refine (CQ.out).mono ?_
                    rintro e w7 ⟨rfl, hd_w7⟩
                    have H7 : Hid (Below w2.heap.size w2 w7) := below_chain H6.out hd_w7
                    clear hd_w7 H6
                    go_wp2
                    go_roundw
                    case rel => exact ⟨j + 1, by omega, by go_num, H7⟩
                    case measure => simp [intOf]; omega
              · go_wp2
                go_roundw
                case rel => exact ⟨k + 1, by omega, by go_num, H4⟩
                case measure => simp [intOf]; omega
          · have hr1 : ((fac d.length : Nat) : Int) % (K.length : Int) = 0 := by rw [← Int.natCast_emod, HDV.out]; rfl
            have hr2 : ((fac d.length : Nat) : Int).tmod (K.length : Int) = 0 := by rw [Int.tmod_eq_emod_of_nonneg (by omega)]; exact hr1
            have hkn : (K.length : Int) ≠ 0 := by omega
            by_cases hkl : k < K.length
            · have h6i : decide ((k : Int) < 6) = false := by simp; omega
              have hki : (k : Int) < (K.length : Int) := by omega
              clear hk6
              go_wp2
              go_ret
              exact ⟨rfl, below_chain (Lib.hid (below_chain HB.out H12.out)).out H4.out⟩
            · have hki : ¬ (k : Int) < (K.length : Int) := by omega
              clear hk6
              go_wp2
              go_ret
              exact ⟨rfl, below_chain (Lib.hid (below_chain HB.out H12.out)).out H4.out⟩
  · rw [keV_no hok] at ci cs
    have CI := Lib.hid <| ci
    have CS := Lib.hid <| cs
    clear ci cs hok hd hb hd6
    go_wp2_with fail
    refine (CI.out w1 H1.out).mono ?_
    rintro e w2 ⟨vg, rfl, hg, hb2⟩
    obtain ⟨fo, fc, rfl, _⟩ := id hg.inn
    have HG := Lib.hid hg
    have H12 := Lib.hid hb2
    have HB2 := Lib.hid (below_chain HB.out hb2)
    clear hg hb2
    go_wp2_with fail
    refine (CS.out w2 H12.out).mono ?_
    rintro e w3 ⟨vh, rfl, hh, hb3⟩
    have cq := gives_of_quiet (sameRows_any _ _ _ _ _ (HG.out.inn.keep hb3) hh.inn)
    rw [sameMB_yes rfl] at cq
    have CQ := Lib.hid <| cq
    have H3 := Lib.hid hb3
    clear cq hh hb3
    go_wp2_with fail
    refine (CQ.out).mono ?_
    rintro e w4 ⟨rfl, hd_w4⟩
    have H4 : Hid (Below w2.heap.size w2 w4) := below_chain H3.out hd_w4
    clear hd_w4 H3
    go_wp2_with fail
    refine (alive_any _).mono ?_
    rintro e w6 ⟨rfl, hd_w6⟩
    have H6 : Hid (Below w2.heap.size w2 w6) := below_chain H4.out hd_w6
    clear hd_w6 H4
    go_wp2
    go_ret
    exact ⟨rfl, below_chain HB2.out H6.out⟩

set_option maxRecDepth 100000 in
theorem lifted (os : Os) (started : os.Started) (H : Type) (enc : TypeId × Value → H) :
    ReturnsInHanded {} Try.checked os 8 .any (Rows.fnKeepingOfSpec.pre6 enc Try.prog Try.f8 Rows.fnKeepingOfRow.domain false) (Rows.fnKeepingOfSpec.post enc Try.prog Try.f8 false true false false) := by
  refine returnsInHanded_of_change (C := Try.checked) own_knob started (by kernel_rfl) Try.func8
    (ChangeSpec.witness6 (enc := enc) (C := Try.checked) false ⟨#[], #[.slice none 0 0], []⟩ 8 (by kernel_rfl) (by kernel_rfl) (by kernel_rfl) (by kernel_rfl)) ?_
  intro W base args ds gs before hval0 hW hcnd _
  have hval : ∀ (j : Nat) t v, Try.f8.params[j]? = some t → args[j]? = some v → Value.okWide Try.prog W .any base t v := hval0
  have hW' := hW
  obtain ⟨p, q, hA0, hV, rfl, hfz, hnd⟩ := hW
  have hA : DataW.TrodAll enc Try.prog W 0 (fun _ => true) true Try.f8.params.toList args.toList ds p := hA0
  rw [Try.params8] at hA hval
  obtain ⟨v0, vs0, e0, es0, p0, q0, hargs, rfl, rfl, h0, r0⟩ := trodAll_cons hA
  obtain ⟨rfl, rfl, rfl⟩ := trodAll_nil r0
  obtain rfl : args = #[v0] := by cases args; simp_all
  obtain ⟨rfl, rfl⟩ := trodVars_none hV
  obtain ⟨a0, len0, cap0, rfl⟩ := okWide_slice Try.underlying26 (hval 0 26 v0 rfl rfl)
  have k0 := h0
  have lt0 : ∀ x ∈ p0, x.block < W.heap.size := by obtain ⟨m, hm⟩ := k0; exact DataW.trod_lt m _ _ _ hm
  obtain ⟨z0, y0⟩ := open_bytes h0
  clear hA0 hval0
  refine (walk_all W _ z0 y0).mono fun e W' ⟨he, bel⟩ => ?_
  subst he
  exact ⟨_, rfl, _, _, _, [], _, [], hW', trodAll_mk1 (shut_bool Try.underlying4 _), (trodAll_cons_mk (Below.trod laid_out (by kernel_rfl) (of_decide_eq_true (by kernel_rfl)) k0 bel lt0) trodAll_mk0), rfl, bel.frame _, fun h => by cases h⟩

theorem over : Rows.fnKeepingOfRow.holds Try.pinned (OpenSpec.ofChange Rows.fnKeepingOfSpec) :=
  OpenClaim.holds_of_wide 8 Try.f8 rfl rfl rfl rfl rfl rfl rfl ⟨rfl, rfl, rfl, rfl, rfl⟩ rfl rfl rfl rfl rfl (by kernel_rfl) Try.func8 (by kernel_rfl)
    (of_decide_eq_true (by kernel_rfl)) (by unfold Func.isWrapper; first | (rw [if_pos (by decide +kernel)]; kernel_rfl) | (rw [if_neg (by decide +kernel)]; exact ⟨rfl, rfl⟩))
    (fun os started H enc _ => lifted os started H enc)

end fnKeepingOf
theorem fnKeepingOf_holds : Rows.FnKeepingOfSaid := fnKeepingOf.over
#print axioms fnKeepingOf_holds
end Go.Proofs.Ytknnelenmedonaa

