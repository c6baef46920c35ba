/- The law FnPartnersOf: for every code it returns true. Conditions: none. -/
import Derived.Test.YtapllhnlngnobaaDrawC
import Derived.Test.YtapllhnlngnobaaPartners
import Derived.Test.YtapllhnlngnobaaTight
import Derived.Test.YtapllhnlngnobaaFnPlain2
import Derived.Test.YtapllhnlngnobaaHasInt
import Derived.Test.YtapllhnlngnobaaSame
import Derived.Test.YtapllhnlngnobaaLawFn
import Derived.Test.YtapllhnlngnobaaOpenB
import Derived.Test.YtapllhnlngnobaaRows
namespace Go.Proofs.Ytapllhnlngnobaa
set_option linter.unusedVariables false
set_option linter.unusedSimpArgs false
namespace fnPartnersOf
open Go.ChangeShapes Go.WideShapes Go.ChangeAt Go.RowKit Go.Deep

section
variable {d : List (List Int)} {f : List Int}
theorem prI_has {i k q : Nat} (h1 : i ≤ q) (h2 : q < k) (he : iat f i + iat f q = at2 d i q) : [(i : Int), (q : Int)] ∈ prI d f i k := by
  induction k with
  | zero => omega
  | succ k ih =>
    by_cases e : q = k
    · subst e
      rw [prI_hit h1 he]
      simp
    · have := ih (by omega)
      simp only [prI, List.mem_append]
      exact Or.inl this
theorem prA_has {n p q : Nat} (hp : p < n) (h1 : p ≤ q) (h2 : q < d.length) (he : iat f p + iat f q = at2 d p q) : [(p : Int), (q : Int)] ∈ prA d f n := by
  induction n with
  | zero => omega
  | succ n ih =>
    simp only [prA, List.mem_append]
    by_cases e : p = n
    · subst e
      exact Or.inr (prI_has h1 h2 he)
    · exact Or.inl (ih (by omega))
def Seen (L : List (List Int)) (n k : Nat) : Prop := ∃ j, j < n ∧ HasI (row L j) k
def AllSeen (L : List (List Int)) (k : Nat) : Prop := ∀ i, i < k → Seen L L.length i
theorem row_of_mem {L : List (List Int)} {r : List Int} (h : r ∈ L) : ∃ j, j < L.length ∧ row L j = r := by
  obtain ⟨j, hj, e⟩ := List.getElem_of_mem h
  exact ⟨j, hj, by simp [row, hj, e]⟩
theorem mem_of_row {L : List (List Int)} {j : Nat} (h : j < L.length) : row L j ∈ L := by
  have : row L j = L[j] := by simp [row, h]
  rw [this]; exact List.getElem_mem h
theorem seen_iff (h : Cov d f) : AllSeen (prV d f) d.length ↔ TightP d f := by
  rw [prV_yes h]
  constructor
  · intro ha
    refine ⟨h, fun k hk => ?_⟩
    obtain ⟨j, hj, i, hi, e⟩ := ha k hk
    obtain ⟨p, q, hp, hpq, hq, he, hr⟩ := prA_mem (mem_of_row hj)
    rw [hr] at hi e
    match i, hi with
    | 0, _ =>
      have : p = k := by have e' : (p : Int) = (k : Int) := by simpa [iat] using e
                         omega
      subst this
      exact ⟨q, hq, he⟩
    | 1, _ =>
      have : q = k := by have e' : (q : Int) = (k : Int) := by simpa [iat] using e
                         omega
      subst this
      refine ⟨p, hp, ?_⟩
      have := h.sp.sym hp hq
      omega
  · intro ht k hk
    obtain ⟨q, hq, e⟩ := ht.part k hk
    by_cases hkq : k ≤ q
    · obtain ⟨j, hj, er⟩ := row_of_mem (prA_has hk hkq hq e)
      exact ⟨j, hj, 0, by rw [er]; simp, by rw [er]; rfl⟩
    · have e2 : iat f q + iat f k = at2 d q k := by have := h.sp.sym hk hq; omega
      obtain ⟨j, hj, er⟩ := row_of_mem (prA_has hq (by omega) hk e2)
      exact ⟨j, hj, 1, by rw [er]; simp, by rw [er]; rfl⟩
end
/-- found and all, as the loops hold them. -/
def FTo (L : List (List Int)) (t : Bool) (n k : Nat) : Prop := t = true ↔ Seen L n k
def ATo (L : List (List Int)) (s : Bool) (k : Nat) : Prop := s = true ↔ AllSeen L k
theorem FTo.start (L : List (List Int)) (k : Nat) : FTo L false 0 k := ⟨fun h => by simp at h, fun ⟨j, hj, _⟩ => by omega⟩
theorem FTo.stay {L : List (List Int)} {n k : Nat} (h : FTo L true n k) : FTo L true (n + 1) k := ⟨fun _ => by
  obtain ⟨j, hj, e⟩ := h.1 rfl
  exact ⟨j, by omega, e⟩, fun _ => rfl⟩
theorem FTo.step {L : List (List Int)} {n k : Nat} (h : FTo L false n k) : FTo L (decP (HasI (row L n) k)) (n + 1) k := ⟨fun e => ⟨n, by omega, decP_iff.1 e⟩, fun ⟨j, hj, e⟩ => by
  by_cases ej : j = n
  · subst ej; exact decP_yes e
  · exact absurd (h.2 ⟨j, by omega, e⟩) (by simp)⟩
theorem ATo.start (L : List (List Int)) : ATo L true 0 := ⟨fun _ i hi => by omega, fun _ => rfl⟩
theorem ATo.step {L : List (List Int)} {s t : Bool} {k : Nat} (h : ATo L s k) (hf : FTo L t L.length k) : ATo L (s && t) (k + 1) := by
  constructor
  · intro e i hi
    simp only [Bool.and_eq_true] at e
    by_cases ei : i = k
    · subst ei; exact hf.1 e.2
    · exact h.1 e.1 i (by omega)
  · intro e
    simp only [Bool.and_eq_true]
    exact ⟨h.2 fun i hi => e i (by omega), hf.2 (e k (by omega))⟩

set_option maxRecDepth 100000 in
set_option maxHeartbeats 8000000 in
theorem walk_all (w : World) (v0 : Value) (n0 : Nat) (h0 : BIn w v0 n0) :
    Calls Try.prog 13 #[v0] w fun e w' => e = .returned (.bool true) ∧ Below w.heap.size w w' := by
  obtain ⟨ao, cap, rfl, hn1, hn2, _⟩ := id h0
  rw [maxLen_val] at hn2
  have hN : n0 ≤ 9223372036854775807 := by omega
  have H0 := Lib.hid h0
  clear h0 hn1 hn2
  by_cases hlong : n0 ≤ 1048576
  rotate_left
  · clear H0
    go_enter Try.func13, Try.ntmps13
    go_wp2
    go_ret
    exact ⟨rfl, Below.refl _ _⟩
  go_enter Try.func13, Try.ntmps13
  go_wp2_with fail
  refine (drawPartnersOf_any _ _ _ H0.out).mono ?_
  rintro e w1 ⟨vd, vf, d, f, rfl, hd, hf, hdn, hvf, hfl, hb⟩
  clear H0 hlong
  have H1 : Hid (Below w1.heap.size w1 w1) := Below.refl _ _
  have hd6 := hdn.six
  obtain ⟨db, dc, _, _, rfl, _⟩ := id hd.open
  have HD := Lib.hid hd
  have HF := Lib.hid hf
  have HB := Lib.hid hb
  have ci : ∀ (w' : World), Below w1.heap.size w1 w' → Calls Try.prog 53 #[.slice (some ⟨db, 0, none⟩) d.length dc, vf] w' (GivesM (prV d f) w') := fun w' hb => implPartnersOf_any _ _ _ _ _ _ _ _ _ (HD.out.fresh hb) (HF.out.fresh hb)
  have cs : ∀ (w' : World), Below w1.heap.size w1 w' → Calls Try.prog 55 #[.slice (some ⟨db, 0, none⟩) d.length dc, vf] w' (GivesM (prV d f) w') := fun w' hb => specPartnersOf_any _ _ _ _ _ _ _ _ _ (HD.out.fresh hb) (HF.out.fresh hb)
  have cc : ∀ (w' : World), Below w1.heap.size w1 w' → Calls Try.prog 32 #[.slice (some ⟨db, 0, none⟩) d.length dc, vf] w' (Gives (.bool (decP (Cov d f))) w') := fun w' hb => gives_of_quiet (specCoversOk_any _ _ _ _ _ _ _ _ _ (HD.out.fresh hb) (HF.out.fresh hb))
  have ct : ∀ (w' : World), Below w1.heap.size w1 w' → Calls Try.prog 41 #[.slice (some ⟨db, 0, none⟩) d.length dc, vf] w' (Gives (.bool (decP (TightP d f))) w') := fun w' hb => gives_of_quiet (implTightOk_any _ _ _ _ _ _ _ _ _ (HD.out.fresh hb) (HF.out.fresh hb))
  have hll := prV_len d f
  have hend : Cov d f → ∀ s, ATo (prV d f) s d.length → decP (TightP d f) = s := fun hc s hs => by
    have h1 : s = true ↔ TightP d f := hs.trans (seen_iff hc)
    by_cases ht : TightP d f
    · rw [decP_yes ht, h1.2 ht]
    · rw [decP_no ht]
      cases s
      · rfl
      · exact absurd (h1.1 rfl) ht
  have hno : ¬ Cov d f → (prV d f).length = 0 := fun hc => by rw [prV_no hc]; rfl
  have CI := Lib.hid <| ci
  have CS := Lib.hid <| cs
  have CC := Lib.hid <| cc
  have CT := Lib.hid <| ct
  have HEND := Lib.hid <| hend
  have HNO := Lib.hid <| hno
  clear ci cs cc ct hend hno hd hf hb hdn hvf hfl
  generalize prV d f = L at *
  go_wp2_with fail
  refine (CI.out w1 H1.out).mono ?_
  rintro e w2 ⟨vl, rfl, hl, hb2⟩
  have HI := Lib.hid hl.inn
  obtain ⟨lo_, lc, rfl, hlm, hlc⟩ := id hl.inn
  have HLC := Lib.hid hlc
  have H12 := Lib.hid hb2
  clear hl hb2 hlc hlm
  go_wp2_with fail
  refine (CS.out w2 H12.out).mono ?_
  rintro e w3 ⟨vh, rfl, hh, hb3⟩
  have cq := gives_of_quiet (sameRows_any _ _ _ _ _ (HI.out.keep hb3) hh.inn)
  rw [sameMB_yes rfl] at cq
  have CQ := Lib.hid <| cq
  have H3 := Lib.hid hb3
  clear cq hh hb3
  go_wp2_with fail
  refine (CQ.out).mono ?_
  rintro e w4 ⟨rfl, hd_w4⟩
  have H4 : Hid (Below w2.heap.size w2 w4) := below_chain H3.out hd_w4
  clear hd_w4 H3
  by_cases hok : Cov d f
  · have cc := CC.out _ (below_chain H12.out H4.out)
    rw [decP_yes hok] at cc
    have CC1 := Lib.hid <| cc
    have HE := Lib.hid (HEND.out hok)
    clear cc hok CQ CI CS HEND HNO CC
    go_wp2_with fail
    refine (CC1.out).mono ?_
    rintro e w5 ⟨rfl, hd_w5⟩
    have H5 : Hid (Below w2.heap.size w2 w5) := below_chain H4.out hd_w5
    clear hd_w5 H4
    have HA := Lib.hid (ATo.start L)
    clear CC1
    go_wp2
    go_loopw [6, 7] (fun sv kv wr => ∃ (k : Nat) (s : Bool), k ≤ d.length ∧ kv = .int .i64 k ∧ sv = .bool s ∧ Hid (ATo L s k) ∧ Hid (Below w2.heap.size w2 wr)) (fun _ kv _ => d.length - (intOf kv).toNat)
    case atStart => exact ⟨0, true, Nat.zero_le _, rfl, rfl, HA, H5⟩
    case round =>
      clear HA H5
      obtain ⟨k, s, hk, rfl, rfl, HA, H5⟩ := hrel
      by_cases hkl : k < d.length
      · have HT := Lib.hid (FTo.start L k)
        go_wp2
        go_loopw [8, 9] (fun tv jv wr => ∃ (j : Nat) (t : Bool), j ≤ L.length ∧ jv = .int .i64 j ∧ tv = .bool t ∧ Hid (FTo L t j k) ∧ Hid (Below w2.heap.size w2 wr)) (fun _ jv _ => L.length - (intOf jv).toNat)
        case atStart => exact ⟨0, false, Nat.zero_le _, rfl, rfl, HT, H5⟩
        case round =>
          clear HT H5
          obtain ⟨j, t, hj, rfl, rfl, HT, H5⟩ := hrel
          by_cases hjl : j < L.length
          · cases t
            · obtain ⟨b, off, u, rfl, hbl, hcell0, hu⟩ := HLC.out j hjl
              have hcell := (H5.out.cell (p := ⟨b, off + j, none⟩) hbl).trans hcell0
              have ch := gives_of_quiet (hasInt_any _ _ (k : Int) _ (hu.keep H5.out))
              have HT2 := Lib.hid HT.out.step
              have CH := Lib.hid <| ch
              have hji : (j : Int) < (L.length : Int) := by omega
              clear hcell0 hu ch HT
              go_wp2_with fail
              refine (CH.out).mono ?_
              rintro e w6 ⟨rfl, hd_w6⟩
              have H6 : Hid (Below w2.heap.size w2 w6) := below_chain H5.out hd_w6
              clear hd_w6 H5
              go_wp2
              go_roundw
              case rel => exact ⟨j + 1, _, by omega, by go_num, rfl, HT2, H6⟩
              case measure => simp [intOf]; omega
            · go_wp2
              go_roundw
              case rel => exact ⟨j + 1, true, by omega, by go_num, rfl, HT.out.stay, H5⟩
              case measure => simp [intOf]; omega
          · have hje : j = L.length := by omega
            subst hje
            have HA2 := Lib.hid (HA.out.step HT.out)
            cases s
            · go_wp2
              go_roundw
              case rel => exact ⟨k + 1, false, by omega, by go_num, rfl, HA2, H5⟩
              case measure => simp [intOf]; omega
            · go_wp2
              go_roundw
              case rel => exact ⟨k + 1, t, by omega, by go_num, rfl, HA2, H5⟩
              case measure => simp [intOf]; omega
      · have hke : k = d.length := by omega
        subst hke
        have ct := CT.out _ (below_chain H12.out H5.out)
        rw [HE.out s HA.out] at ct
        have CT1 := Lib.hid <| ct
        clear ct
        go_wp2_with fail
        refine (CT1.out).mono ?_
        rintro e w6 ⟨rfl, hd_w6⟩
        have H6 : Hid (Below w2.heap.size w2 w6) := below_chain H5.out hd_w6
        clear hd_w6 H5
        go_wp2_with fail
        refine (alive_any _).mono ?_
        rintro e w7 ⟨rfl, hd_w7⟩
        have H7 : Hid (Below w2.heap.size w2 w7) := below_chain H6.out hd_w7
        clear hd_w7 H6
        go_wp2
        go_ret
        exact ⟨rfl, below_chain (Lib.hid (below_chain HB.out H12.out)).out H7.out⟩
  · have cc := CC.out _ (below_chain H12.out H4.out)
    rw [decP_no hok] at cc
    have hl0 : ((L.length : Int) == 0) = true := by have := HNO.out hok; simp [this]
    have CC1 := Lib.hid <| cc
    clear cc hok
    go_wp2_with fail
    refine (CC1.out).mono ?_
    rintro e w5 ⟨rfl, hd_w5⟩
    have H5 : Hid (Below w2.heap.size w2 w5) := below_chain H4.out hd_w5
    clear hd_w5 H4
    go_wp2_with fail
    refine (alive_any _).mono ?_
    rintro e w6 ⟨rfl, hd_w6⟩
    have H6 : Hid (Below w2.heap.size w2 w6) := below_chain H5.out hd_w6
    clear hd_w6 H5
    go_wp2
    go_ret
    exact ⟨rfl, below_chain (Lib.hid (below_chain HB.out H12.out)).out H6.out⟩

set_option maxRecDepth 100000 in
theorem lifted (os : Os) (started : os.Started) (H : Type) (enc : TypeId × Value → H) :
    ReturnsInHanded {} Try.checked os 13 .any (Rows.fnPartnersOfSpec.pre6 enc Try.prog Try.f13 Rows.fnPartnersOfRow.domain false) (Rows.fnPartnersOfSpec.post enc Try.prog Try.f13 false true false false) := by
  refine returnsInHanded_of_change (C := Try.checked) own_knob started (by kernel_rfl) Try.func13
    (ChangeSpec.witness6 (enc := enc) (C := Try.checked) false ⟨#[], #[.slice none 0 0], []⟩ 8 (by kernel_rfl) (by kernel_rfl) (by kernel_rfl) (by kernel_rfl)) ?_
  intro W base args ds gs before hval0 hW hcnd _
  have hval : ∀ (j : Nat) t v, Try.f13.params[j]? = some t → args[j]? = some v → Value.okWide Try.prog W .any base t v := hval0
  have hW' := hW
  obtain ⟨p, q, hA0, hV, rfl, hfz, hnd⟩ := hW
  have hA : DataW.TrodAll enc Try.prog W 0 (fun _ => true) true Try.f13.params.toList args.toList ds p := hA0
  rw [Try.params13] at hA hval
  obtain ⟨v0, vs0, e0, es0, p0, q0, hargs, rfl, rfl, h0, r0⟩ := trodAll_cons hA
  obtain ⟨rfl, rfl, rfl⟩ := trodAll_nil r0
  obtain rfl : args = #[v0] := by cases args; simp_all
  obtain ⟨rfl, rfl⟩ := trodVars_none hV
  obtain ⟨a0, len0, cap0, rfl⟩ := okWide_slice Try.underlying22 (hval 0 22 v0 rfl rfl)
  have k0 := h0
  have lt0 : ∀ x ∈ p0, x.block < W.heap.size := by obtain ⟨m, hm⟩ := k0; exact DataW.trod_lt m _ _ _ hm
  obtain ⟨z0, y0⟩ := open_bytes h0
  clear hA0 hval0
  refine (walk_all W _ z0 y0).mono fun e W' ⟨he, bel⟩ => ?_
  subst he
  exact ⟨_, rfl, _, _, _, [], _, [], hW', trodAll_mk1 (shut_bool Try.underlying4 _), (trodAll_cons_mk (Below.trod laid_out (by kernel_rfl) (of_decide_eq_true (by kernel_rfl)) k0 bel lt0) trodAll_mk0), rfl, bel.frame _, fun h => by cases h⟩

theorem over : Rows.fnPartnersOfRow.holds Try.pinned (OpenSpec.ofChange Rows.fnPartnersOfSpec) :=
  OpenClaim.holds_of_wide 13 Try.f13 rfl rfl rfl rfl rfl rfl rfl ⟨rfl, rfl, rfl, rfl, rfl⟩ rfl rfl rfl rfl rfl (by kernel_rfl) Try.func13 (by kernel_rfl)
    (of_decide_eq_true (by kernel_rfl)) (by unfold Func.isWrapper; first | (rw [if_pos (by decide +kernel)]; kernel_rfl) | (rw [if_neg (by decide +kernel)]; exact ⟨rfl, rfl⟩))
    (fun os started H enc _ => lifted os started H enc)

end fnPartnersOf
theorem fnPartnersOf_holds : Rows.FnPartnersOfSaid := fnPartnersOf.over
#print axioms fnPartnersOf_holds
end Go.Proofs.Ytapllhnlngnobaa

