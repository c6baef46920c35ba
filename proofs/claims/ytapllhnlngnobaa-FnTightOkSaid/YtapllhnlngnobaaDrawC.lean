/- What l20Covering does, and the laws' draws by it. Conditions: as each theorem says. -/
import Derived.Test.YtapllhnlngnobaaDrawX
import Derived.Test.YtapllhnlngnobaaLens
import Derived.Test.YtapllhnlngnobaaMiddle
import Derived.Deep.RegionLaw
namespace Go.Proofs.Ytapllhnlngnobaa
set_option linter.unusedVariables false
set_option linter.unusedSimpArgs false
open Go.RowKit Go.Deep

theorem vbd_of {f : List Int} (h : ∀ i, i < f.length → 0 ≤ iat f i ∧ iat f i ≤ 200) : VBd f := fun i hi => by have := h i hi; omega
theorem vbd_lift {d : List (List Int)} (h : Space d) : VBd (liftV d) ∧ (liftV d).length = d.length := by
  rw [liftV_yes h]
  refine ⟨vbd_of fun i hi => ?_, genL_length _ _⟩
  rw [genL_length] at hi
  rw [iat_genL hi]
  have := farF_bd h hi
  omega
theorem vbd_dist {d : List (List Int)} (h : Space d) {q : Nat} (hq : q < d.length) : VBd (distV d q) ∧ (distV d q).length = d.length := by
  rw [distV_yes ⟨h, by omega, by omega⟩]
  refine ⟨vbd_of fun i hi => ?_, h.sq q hq⟩
  rw [h.sq q hq] at hi
  have := h.ent q i hq hi
  have h1 := this.1
  have h2 := this.2.1
  unfold at2 at h1 h2
  omega
theorem vbd_mid {d : List (List Int)} (h : Space d) {p q : Nat} (h2 : 2 ≤ d.length) (hp : p < d.length) (hq : q < d.length) : VBd (midV d p q) ∧ (midV d p q).length = d.length := by
  rw [midV_yes ⟨h, h2, ⟨by omega, by omega⟩, ⟨by omega, by omega⟩⟩]
  refine ⟨vbd_of fun i hi => ?_, genL_length _ _⟩
  rw [genL_length] at hi
  rw [iat_genL hi]
  have h1 := h.ent p i hp hi
  have h2 := h.ent q i hq hi
  have := h1.1
  have := h1.2.1
  have := h2.1
  have := h2.2.1
  unfold midF
  omega
theorem vbd_tb {d : List (List Int)} {f : List Int} (h : Cov d f) : VBd (tbV d f) ∧ (tbV d f).length = d.length := by
  rw [tbV_yes h]
  have hl : (tbTo d f d.length).length = d.length := by rw [tbTo_length]; exact h.vals.len
  refine ⟨vbd_of fun i hi => ?_, hl⟩
  rw [hl] at hi
  exact tbTo_bd h (Nat.le_refl _) i hi

/-- What l20Covering leaves. -/
def CvP (R k : Nat) (w : World) (e : Ending) (w' : World) : Prop :=
  ∃ v u d f, e = .returned (.tuple #[v, u]) ∧ MMem w.heap.size w'.heap.size w' v d ∧ IMem w.heap.size w'.heap.size w' u f ∧ Dn d ∧ VBd f ∧ f.length ≤ 7 ∧ Chg R (R + 1) w w'

/-- How it stands: the space, a function, the reader. -/
def InCv (R k L0 L1 : Nat) (w wr : World) (vd vf : Value) (d : List (List Int)) (f : List Int) : Prop :=
  MMem L0 L1 wr vd d ∧ IMem L1 wr.heap.size wr vf f ∧ VBd f ∧ Chg R (R + 1) w wr ∧ Rd R k wr ∧ R + 1 ≤ L0 ∧ w.heap.size ≤ L0 ∧ L0 ≤ L1 ∧ L1 ≤ wr.heap.size
section
variable {R k k' L0 L1 : Nat} {w wr w' : World} {vd vf vf' : Value} {d : List (List Int)} {f f' : List Int}
theorem InCv.more (h : InCv R k L0 L1 w wr vd vf d f) (hk : k ≤ k') : InCv R k' L0 L1 w wr vd vf d f := by
  obtain ⟨h1, h2, h3, h4, h5, h6⟩ := h
  exact ⟨h1, h2, h3, h4, h5.more hk, h6⟩
theorem InCv.picked (h : InCv R k L0 L1 w wr vd vf d f) (hr : Rd R k' w') (hc : Chg R (R + 1) wr w') : InCv R k' L0 L1 w w' vd vf d f := by
  obtain ⟨h1, h2, h3, h4, h5, h6, h7, h8, h9⟩ := h
  exact ⟨h1.chg hc (Or.inr h6), (h2.chg hc (Or.inr (by omega))).top, h3, h4.trans hc, hr, h6, h7, h8, Nat.le_trans h9 hc.size⟩
theorem InCv.grown (h : InCv R k L0 L1 w wr vd vf d f) (hI : IMem L1 w'.heap.size w' vf' f') (hV : VBd f') (hb : Below L1 wr w') : InCv R k L0 L1 w w' vd vf' d f' := by
  obtain ⟨h1, h2, h3, h4, h5, h6, h7, h8, h9⟩ := h
  have hc := chg_below hb
  exact ⟨h1.chg hc (Or.inl (Nat.le_refl _)), hI, hV, h4.since hc (by omega), h5.chg hc (by omega), h6, h7, h8, Nat.le_trans h9 hc.size⟩
theorem InCv.newf (h : InCv R k L0 L1 w wr vd vf d f) (hI : IVal wr.heap.size w'.heap.size w' vf' f') (hV : VBd f' ∧ f'.length = d.length) (hd : 1 ≤ d.length) (hb : Below wr.heap.size wr w') : InCv R k L0 L1 w w' vd vf' d f' := by
  have h9 := h.2.2.2.2.2.2.2.2
  rcases hI with hI | ⟨_, rfl⟩
  · exact h.grown (hI.widen h9 (Nat.le_refl _)) hV.1 (hb.mono h9)
  · have := hV.2; simp at this; omega
theorem InCv.stored {fb n fc i : Nat} {x : Int} (h : InCv R k L0 L1 w wr vd (.slice (some ⟨fb, 0, none⟩) n fc) d f) (hi : i < f.length) (h0 : -4 ≤ x) (h1 : x ≤ 201) :
    InCv R k L0 L1 w (wr.setCell ⟨fb, i, none⟩ (.int .i64 x)) vd (.slice (some ⟨fb, 0, none⟩) n fc) d (f.set i x) := by
  have hb := h.2.1.lo_le
  refine h.grown ?_ (h.2.2.1.set i h0 h1) ((Below.refl _ _).setCell (p := ⟨fb, i, none⟩) hb.1 _)
  have hsz : (wr.setCell ⟨fb, i, none⟩ (.int .i64 x)).heap.size = wr.heap.size := by simp [World.setCell]
  rw [hsz]
  exact h.2.1.set (by simp) i (by rw [iat_setD hi, if_pos rfl]) (fun j hj hne => by rw [iat_setD hj, if_neg (fun h => hne h.symm)])
theorem InCv.same (h : InCv R k L0 L1 w wr vd vf d f) (hb : Dr wr w') : InCv R k L0 L1 w w' vd vf d f :=
  h.picked (h.2.2.2.2.1.dr hb) hb.chg
theorem InCv.done (h : InCv R k L0 L1 w wr vd vf d f) (hd : Dn d) (hf : f.length ≤ 7) {k0 : Nat} : CvP R k0 w (.returned (.tuple #[vd, vf])) wr := by
  obtain ⟨h1, h2, h3, h4, h5, h6, h7, h8, h9⟩ := h
  exact ⟨vd, vf, d, f, rfl, h1.top.widen h7 (Nat.le_refl _), h2.widen (by omega) (Nat.le_refl _), hd, h3, hf, h4⟩
end



set_option maxHeartbeats 16000000 in
theorem covering_any (R k0 : Nat) (w : World) (h : Rd R k0 w) (hk : k0 ≤ 100) : Calls Try.prog 71 #[.pointer (some ⟨R, 0, none⟩)] w (CvP R k0 w) := by
  have HL : Hid (R + 1 ≤ w.heap.size) := h.lt
  have HR := Lib.hid <| h
  clear h
  go_enter Try.func71, Try.ntmps71
  go_wp2_with fail
  refine (space_any _ _ _ _ _ HR.out (by omega) (by omega) (by omega) (by omega) (by omega)).mono ?_
  rintro e w2 ⟨vd, d, rfl, hM, hd, hrd, hch⟩
  obtain ⟨vb, vc, _, _, rfl, _⟩ := id hM.open
  have HM := Lib.hid hM
  have HD := Lib.hid hd
  have HC := Lib.hid hch
  have HR2 := Lib.hid hrd
  have hcs := specSpaceOk_any _ _ _ _ _ hM
  clear hM hd hch hrd HR
  by_cases hS : Space d
  · rw [decP_yes hS] at hcs
    have HCS := Lib.hid hcs
    have HSP := Lib.hid hS
    have hd1 : 1 ≤ d.length := hS.one
    have hd6 : d.length ≤ 6 := hS.six
    clear hcs hS
    go_wp2_with fail
    refine HCS.out.mono ?_
    rintro e w3 ⟨rfl, hd3⟩
    have HM3 := Lib.hid (HM.out.dr hd3)
    have HC3 := Lib.hid (HC.out.trans hd3.chg)
    have HR3 := Lib.hid (HR2.out.dr hd3)
    have hsz : w2.heap.size = w3.heap.size := by rw [hd3.heap]
    clear hd3 HCS HM HC HR2
    have HLF := Lib.hid (specLiftedOf_any _ _ _ _ _ HM3.out)
    go_wp2_with fail
    refine HLF.out.mono ?_
    rintro e w4 ⟨r, rfl, hI, hb⟩
    have hI2 : IMem w3.heap.size w4.heap.size w4 r (liftV d) := by
      rcases hI with hI | ⟨_, e⟩
      · exact hI
      · have := (vbd_lift HSP.out).2; rw [e] at this; simp at this; omega
    obtain ⟨fb, fc, rfl, _⟩ := id hI2.open
    have hfl : (liftV d).length = d.length := (vbd_lift HSP.out).2
    rw [hfl] at hI2 ⊢
    have HX : Hid (InCv R (k0 + 64) w.heap.size w3.heap.size w w4 (.slice (some ⟨vb, 0, none⟩) d.length vc) (.slice (some ⟨fb, 0, none⟩) d.length fc) d (liftV d)) :=
      ⟨by rw [← hsz]; exact HM3.out.fresh hb, hI2, (vbd_lift HSP.out).1, HC3.out.trans (chg_of_below hb), HR3.out.fresh hb, HL.out, Nat.le_refl _, HC3.out.size, hb.size⟩
    have HFL := Lib.hid hfl
    clear hI hI2 hb HM3 HC3 HR3 HLF hfl hsz
    generalize w3.heap.size = L1 at *
    have HP := Lib.hid <| pick_any R _ 4 _ HX.out.2.2.2.2.1 (by omega) (by omega) (by omega)
    go_wp2_with fail
    refine HP.out.mono ?_
    rintro e w5 ⟨x, rfl, hx0, hx1, _, hrd, hch⟩
    have hx1 := hx1 (by omega)
    have HX5 := Lib.hid (HX.out.picked hrd hch)
    clear hrd hch HP HX
    have hxx : x = 0 ∨ x = 1 ∨ x = 2 ∨ x = 3 := by omega
    clear hx0 hx1
    rcases hxx with rfl | rfl | rfl | rfl
    · have HP := Lib.hid <| pick_any R _ d.length _ HX5.out.2.2.2.2.1 (by omega) (by omega) (by omega)
      go_wp2_with fail
      refine HP.out.mono ?_
      rintro e w6 ⟨x, rfl, hx0, hx1, _, hrd, hch⟩
      obtain ⟨q, rfl⟩ : ∃ q : Nat, x = (q : Int) := ⟨x.toNat, by omega⟩
      have hq : q < d.length := by have := hx1 (by omega); omega
      have HX6 := Lib.hid (HX5.out.picked hrd hch)
      clear hrd hch HP HX5 hx0 hx1
      have HDS := Lib.hid (specDistancesFrom_any _ _ _ _ (q : Int) _ HX6.out.1)
      have HT := Lib.hid (vbd_dist HSP.out hq)
      go_wp2_with fail
      refine HDS.out.mono ?_
      rintro e w7 ⟨r, rfl, hI, hb⟩
      have HZ := Lib.hid ((HX6.out.newf hI HT.out hd1 hb).more (k' := k0 + 80) (by omega))
      have HF6 : Hid ((distV d q).length ≤ 6) := by have := HT.out.2; show _ ≤ _; omega
      clear hI hb HX6 HDS HT HFL
      generalize distV d q = f at *
      have HP2 := Lib.hid <| pick_any R _ 2 _ HZ.out.2.2.2.2.1 (by omega) (by omega) (by omega)
      go_wp2_with fail
      refine HP2.out.mono ?_
      rintro e w6 ⟨y, rfl, hy0, hy1, _, hrd, hch⟩
      have hy1 := hy1 (by omega)
      have HY := Lib.hid (HZ.out.picked hrd hch)
      clear hrd hch HP2 HZ
      have hyy : y = 0 ∨ y = 1 := by omega
      clear hy0 hy1
      rcases hyy with rfl | rfl
      · have hcv := specCoversOk_any _ _ _ _ _ _ _ _ _ HY.out.1 HY.out.2.1
        by_cases hC : Cov d f
        · rw [decP_yes hC] at hcv
          have HC := Lib.hid hcv
          have HT := Lib.hid (vbd_tb hC)
          clear hcv hC
          go_wp2_with fail
          refine HC.out.mono ?_
          rintro e w7 ⟨rfl, hd7⟩
          have H7 := Lib.hid (HY.out.same hd7)
          clear hd7 HC HY
          have HTB := Lib.hid (specTightBelow_any _ _ _ _ _ _ _ _ _ H7.out.1 H7.out.2.1)
          go_wp2_with fail
          refine HTB.out.mono ?_
          rintro e w8 ⟨r, rfl, hI, hb⟩
          have H8 := Lib.hid (H7.out.newf hI HT.out hd1 hb)
          clear hI hb H7 HTB
          go_wp2
          go_ret2
          exact H8.out.done HD.out (by have := HT.out.2; have := HD.out.six; omega)
        · rw [decP_no hC] at hcv
          have HC := Lib.hid hcv
          clear hcv hC
          go_wp2_with fail
          refine HC.out.mono ?_
          rintro e w7 ⟨rfl, hd7⟩
          have HYb := Lib.hid (HY.out.same hd7)
          clear hd7 HC HY
          have HY := HYb
          clear HYb
          have HO := Lib.hid <| odd_any R _ 20 _ HY.out.2.2.2.2.1 (by omega) (by omega) (by omega)
          go_wp2_with fail
          refine HO.out.mono ?_
          rintro e w8 ⟨t, rfl, hrd, hch⟩
          have H8 := Lib.hid (HY.out.picked hrd hch)
          clear hrd hch HO HY
          cases t
          · go_wp2
            go_ret2
            exact H8.out.done HD.out (by have := HF6.out; omega)
          · have hs8 := H8.out.2.2.2.2.2.2.2.2
            have hf6 := HF6.out
            go_wp2_with (at_builtin; refine wp_app _ rfl _ _ rfl L1 _ _ _ rfl (H8.out.2.1.alloc _) w8.heap.size 0 1 1 [1] rfl rfl one_cell (by omega) (by simp; omega) ?_; intro v' w' hI' hB' _; have H9 := Lib.hid (H8.out.grown hI' (H8.out.2.2.1.snoc (by omega) (by omega)) (((Below.refl _ _).alloc hs8 _).trans hB')); clear hI' hB' H8)
            go_wp2
            go_ret2
            exact H9.out.done HD.out (by simp; omega)
      · have HO := Lib.hid <| odd_any R _ 20 _ HY.out.2.2.2.2.1 (by omega) (by omega) (by omega)
        go_wp2_with fail
        refine HO.out.mono ?_
        rintro e w8 ⟨t, rfl, hrd, hch⟩
        have H8 := Lib.hid (HY.out.picked hrd hch)
        clear hrd hch HO HY
        cases t
        · go_wp2
          go_ret2
          exact H8.out.done HD.out (by have := HF6.out; omega)
        · have hs8 := H8.out.2.2.2.2.2.2.2.2
          have hf6 := HF6.out
          go_wp2_with (at_builtin; refine wp_app _ rfl _ _ rfl L1 _ _ _ rfl (H8.out.2.1.alloc _) w8.heap.size 0 1 1 [1] rfl rfl one_cell (by omega) (by simp; omega) ?_; intro v' w' hI' hB' _; have H9 := Lib.hid (H8.out.grown hI' (H8.out.2.2.1.snoc (by omega) (by omega)) (((Below.refl _ _).alloc hs8 _).trans hB')); clear hI' hB' H8)
          go_wp2
          go_ret2
          exact H9.out.done HD.out (by simp; omega)
    · by_cases h2 : 2 ≤ d.length
      · have h2i : (1 : Int) < (d.length : Int) := by omega
        have HP := Lib.hid <| pick_any R _ d.length _ HX5.out.2.2.2.2.1 (by omega) (by omega) (by omega)
        go_wp2_with fail
        refine HP.out.mono ?_
        rintro e w6 ⟨x, rfl, hx0, hx1, _, hrd, hch⟩
        obtain ⟨p, rfl⟩ : ∃ q : Nat, x = (q : Int) := ⟨x.toNat, by omega⟩
        have hp : p < d.length := by have := hx1 (by omega); omega
        have HX6 := Lib.hid (HX5.out.picked hrd hch)
        clear hrd hch HP HX5 hx0 hx1
        have HP := Lib.hid <| pick_any R _ d.length _ HX6.out.2.2.2.2.1 (by omega) (by omega) (by omega)
        go_wp2_with fail
        refine HP.out.mono ?_
        rintro e w7 ⟨x, rfl, hx0, hx1, _, hrd, hch⟩
        obtain ⟨q, rfl⟩ : ∃ q : Nat, x = (q : Int) := ⟨x.toNat, by omega⟩
        have hq : q < d.length := by have := hx1 (by omega); omega
        have HX7 := Lib.hid (HX6.out.picked hrd hch)
        clear hrd hch HP HX6 hx0 hx1
        have HDS := Lib.hid (specMiddleOf_any _ _ _ _ (p : Int) (q : Int) _ HX7.out.1)
        have HT := Lib.hid (vbd_mid HSP.out h2 hp hq)
        go_wp2_with fail
        refine HDS.out.mono ?_
        rintro e w8 ⟨r, rfl, hI, hb⟩
        have HZ := Lib.hid ((HX7.out.newf hI HT.out hd1 hb).more (k' := k0 + 80) (by omega))
        have HF6 : Hid ((midV d p q).length ≤ 6) := by have := HT.out.2; show _ ≤ _; omega
        clear hI hb HX7 HDS HT HFL h2i
        generalize midV d p q = f at *
        have HP2 := Lib.hid <| pick_any R _ 2 _ HZ.out.2.2.2.2.1 (by omega) (by omega) (by omega)
        go_wp2_with fail
        refine HP2.out.mono ?_
        rintro e w6 ⟨y, rfl, hy0, hy1, _, hrd, hch⟩
        have hy1 := hy1 (by omega)
        have HY := Lib.hid (HZ.out.picked hrd hch)
        clear hrd hch HP2 HZ
        have hyy : y = 0 ∨ y = 1 := by omega
        clear hy0 hy1
        rcases hyy with rfl | rfl
        · have hcv := specCoversOk_any _ _ _ _ _ _ _ _ _ HY.out.1 HY.out.2.1
          by_cases hC : Cov d f
          · rw [decP_yes hC] at hcv
            have HC := Lib.hid hcv
            have HT := Lib.hid (vbd_tb hC)
            clear hcv hC
            go_wp2_with fail
            refine HC.out.mono ?_
            rintro e w7 ⟨rfl, hd7⟩
            have H7 := Lib.hid (HY.out.same hd7)
            clear hd7 HC HY
            have HTB := Lib.hid (specTightBelow_any _ _ _ _ _ _ _ _ _ H7.out.1 H7.out.2.1)
            go_wp2_with fail
            refine HTB.out.mono ?_
            rintro e w8 ⟨r, rfl, hI, hb⟩
            have H8 := Lib.hid (H7.out.newf hI HT.out hd1 hb)
            clear hI hb H7 HTB
            go_wp2
            go_ret2
            exact H8.out.done HD.out (by have := HT.out.2; have := HD.out.six; omega)
          · rw [decP_no hC] at hcv
            have HC := Lib.hid hcv
            clear hcv hC
            go_wp2_with fail
            refine HC.out.mono ?_
            rintro e w7 ⟨rfl, hd7⟩
            have HYb := Lib.hid (HY.out.same hd7)
            clear hd7 HC HY
            have HY := HYb
            clear HYb
            have HO := Lib.hid <| odd_any R _ 20 _ HY.out.2.2.2.2.1 (by omega) (by omega) (by omega)
            go_wp2_with fail
            refine HO.out.mono ?_
            rintro e w8 ⟨t, rfl, hrd, hch⟩
            have H8 := Lib.hid (HY.out.picked hrd hch)
            clear hrd hch HO HY
            cases t
            · go_wp2
              go_ret2
              exact H8.out.done HD.out (by have := HF6.out; omega)
            · have hs8 := H8.out.2.2.2.2.2.2.2.2
              have hf6 := HF6.out
              go_wp2_with (at_builtin; refine wp_app _ rfl _ _ rfl L1 _ _ _ rfl (H8.out.2.1.alloc _) w8.heap.size 0 1 1 [1] rfl rfl one_cell (by omega) (by simp; omega) ?_; intro v' w' hI' hB' _; have H9 := Lib.hid (H8.out.grown hI' (H8.out.2.2.1.snoc (by omega) (by omega)) (((Below.refl _ _).alloc hs8 _).trans hB')); clear hI' hB' H8)
              go_wp2
              go_ret2
              exact H9.out.done HD.out (by simp; omega)
        · have HO := Lib.hid <| odd_any R _ 20 _ HY.out.2.2.2.2.1 (by omega) (by omega) (by omega)
          go_wp2_with fail
          refine HO.out.mono ?_
          rintro e w8 ⟨t, rfl, hrd, hch⟩
          have H8 := Lib.hid (HY.out.picked hrd hch)
          clear hrd hch HO HY
          cases t
          · go_wp2
            go_ret2
            exact H8.out.done HD.out (by have := HF6.out; omega)
          · have hs8 := H8.out.2.2.2.2.2.2.2.2
            have hf6 := HF6.out
            go_wp2_with (at_builtin; refine wp_app _ rfl _ _ rfl L1 _ _ _ rfl (H8.out.2.1.alloc _) w8.heap.size 0 1 1 [1] rfl rfl one_cell (by omega) (by simp; omega) ?_; intro v' w' hI' hB' _; have H9 := Lib.hid (H8.out.grown hI' (H8.out.2.2.1.snoc (by omega) (by omega)) (((Below.refl _ _).alloc hs8 _).trans hB')); clear hI' hB' H8)
            go_wp2
            go_ret2
            exact H9.out.done HD.out (by simp; omega)
      · have h2i : ¬ (1 : Int) < (d.length : Int) := by omega
        have HZ := Lib.hid (HX5.out.more (k' := k0 + 80) (by omega))
        have HF6 : Hid ((liftV d).length ≤ 6) := by have := HFL.out; show _ ≤ _; omega
        clear HX5 HFL
        generalize liftV d = f at *
        have HP2 := Lib.hid <| pick_any R _ 2 _ HZ.out.2.2.2.2.1 (by omega) (by omega) (by omega)
        go_wp2_with fail
        refine HP2.out.mono ?_
        rintro e w6 ⟨y, rfl, hy0, hy1, _, hrd, hch⟩
        have hy1 := hy1 (by omega)
        have HY := Lib.hid (HZ.out.picked hrd hch)
        clear hrd hch HP2 HZ
        have hyy : y = 0 ∨ y = 1 := by omega
        clear hy0 hy1
        rcases hyy with rfl | rfl
        · have hcv := specCoversOk_any _ _ _ _ _ _ _ _ _ HY.out.1 HY.out.2.1
          by_cases hC : Cov d f
          · rw [decP_yes hC] at hcv
            have HC := Lib.hid hcv
            have HT := Lib.hid (vbd_tb hC)
            clear hcv hC
            go_wp2_with fail
            refine HC.out.mono ?_
            rintro e w7 ⟨rfl, hd7⟩
            have H7 := Lib.hid (HY.out.same hd7)
            clear hd7 HC HY
            have HTB := Lib.hid (specTightBelow_any _ _ _ _ _ _ _ _ _ H7.out.1 H7.out.2.1)
            go_wp2_with fail
            refine HTB.out.mono ?_
            rintro e w8 ⟨r, rfl, hI, hb⟩
            have H8 := Lib.hid (H7.out.newf hI HT.out hd1 hb)
            clear hI hb H7 HTB
            go_wp2
            go_ret2
            exact H8.out.done HD.out (by have := HT.out.2; have := HD.out.six; omega)
          · rw [decP_no hC] at hcv
            have HC := Lib.hid hcv
            clear hcv hC
            go_wp2_with fail
            refine HC.out.mono ?_
            rintro e w7 ⟨rfl, hd7⟩
            have HYb := Lib.hid (HY.out.same hd7)
            clear hd7 HC HY
            have HY := HYb
            clear HYb
            have HO := Lib.hid <| odd_any R _ 20 _ HY.out.2.2.2.2.1 (by omega) (by omega) (by omega)
            go_wp2_with fail
            refine HO.out.mono ?_
            rintro e w8 ⟨t, rfl, hrd, hch⟩
            have H8 := Lib.hid (HY.out.picked hrd hch)
            clear hrd hch HO HY
            cases t
            · go_wp2
              go_ret2
              exact H8.out.done HD.out (by have := HF6.out; omega)
            · have hs8 := H8.out.2.2.2.2.2.2.2.2
              have hf6 := HF6.out
              go_wp2_with (at_builtin; refine wp_app _ rfl _ _ rfl L1 _ _ _ rfl (H8.out.2.1.alloc _) w8.heap.size 0 1 1 [1] rfl rfl one_cell (by omega) (by simp; omega) ?_; intro v' w' hI' hB' _; have H9 := Lib.hid (H8.out.grown hI' (H8.out.2.2.1.snoc (by omega) (by omega)) (((Below.refl _ _).alloc hs8 _).trans hB')); clear hI' hB' H8)
              go_wp2
              go_ret2
              exact H9.out.done HD.out (by simp; omega)
        · have HO := Lib.hid <| odd_any R _ 20 _ HY.out.2.2.2.2.1 (by omega) (by omega) (by omega)
          go_wp2_with fail
          refine HO.out.mono ?_
          rintro e w8 ⟨t, rfl, hrd, hch⟩
          have H8 := Lib.hid (HY.out.picked hrd hch)
          clear hrd hch HO HY
          cases t
          · go_wp2
            go_ret2
            exact H8.out.done HD.out (by have := HF6.out; omega)
          · have hs8 := H8.out.2.2.2.2.2.2.2.2
            have hf6 := HF6.out
            go_wp2_with (at_builtin; refine wp_app _ rfl _ _ rfl L1 _ _ _ rfl (H8.out.2.1.alloc _) w8.heap.size 0 1 1 [1] rfl rfl one_cell (by omega) (by simp; omega) ?_; intro v' w' hI' hB' _; have H9 := Lib.hid (H8.out.grown hI' (H8.out.2.2.1.snoc (by omega) (by omega)) (((Below.refl _ _).alloc hs8 _).trans hB')); clear hI' hB' H8)
            go_wp2
            go_ret2
            exact H9.out.done HD.out (by simp; omega)
    · go_wp2
      go_loopw [6] (fun iv wr => ∃ (i : Nat) (f : List Int), i ≤ d.length ∧ iv = .int .i64 i ∧ Hid (InCv R (k0 + 65 + i) w.heap.size L1 w wr (.slice (some ⟨vb, 0, none⟩) d.length vc) (.slice (some ⟨fb, 0, none⟩) d.length fc) d f) ∧ Hid (f.length = d.length)) (fun iv _ => d.length - (intOf iv).toNat)
      case atStart => exact ⟨0, _, Nat.zero_le _, rfl, HX5, HFL⟩
      case round =>
        clear HX5 HFL
        obtain ⟨i, f, hi, rfl, HX, HFL⟩ := hrel
        by_cases hlt : i < d.length
        · have hlf : i < f.length := by have := HFL.out; omega
          have c1 := HX.out.2.1.cellAt hlf
          have HX' := Lib.hid (HX.out.same (⟨1, rfl⟩ : Dr wr wr.drew))
          have HP := Lib.hid <| pick_any R _ 4 _ HX'.out.2.2.2.2.1 (by omega) (by omega) (by omega)
          have hii : (i : Int) < (d.length : Int) := by omega
          have hv := HX.out.2.2.1 i hlf
          go_wp2_with fail
          go_region_law ((go_simp; go_at_call 76; refine HP.out.mono ?_; rintro e w4 ⟨x, rfl, hx0, hx1, _, hrd, hch⟩; have HX4 := Lib.hid (HX'.out.picked hrd hch); have c4 := HX4.out.2.1.cellAt hlf; have f4 := HX4.out.2.1.frozenAt i; have hx1 := hx1 (by omega); clear hrd hch))
          all_goals
            rw [IntWalk.i64_in _ (by omega)]
            generalize hy : (if iat f i - x < 0 then 0 else iat f i - x) = y
            have hy2 : 0 ≤ y ∧ y ≤ 201 := by rw [← hy]; split <;> omega
            have HX5 := Lib.hid (HX4.out.stored hlf (x := y) (by omega) (by omega))
            have HFL5 : Hid ((f.set i y).length = d.length) := by have := HFL.out; show _ = _; rw [List.length_set]; exact this
            clear c4 f4 HX4 hy hy2 hx1 hx0 HP HX' hv c1 HX
            go_wp2
            go_roundw
            case rel => exact ⟨i + 1, _, by omega, by go_num, HX5, HFL5⟩
            case measure => simp [intOf]; omega
        · have HZ := Lib.hid (HX.out.more (k' := k0 + 80) (by omega))
          have HF6 : Hid (f.length ≤ 6) := by have := HFL.out; show _ ≤ _; omega
          clear HX HFL
          have HP2 := Lib.hid <| pick_any R _ 2 _ HZ.out.2.2.2.2.1 (by omega) (by omega) (by omega)
          go_wp2_with fail
          refine HP2.out.mono ?_
          rintro e w6 ⟨y, rfl, hy0, hy1, _, hrd, hch⟩
          have hy1 := hy1 (by omega)
          have HY := Lib.hid (HZ.out.picked hrd hch)
          clear hrd hch HP2 HZ
          have hyy : y = 0 ∨ y = 1 := by omega
          clear hy0 hy1
          rcases hyy with rfl | rfl
          · have hcv := specCoversOk_any _ _ _ _ _ _ _ _ _ HY.out.1 HY.out.2.1
            by_cases hC : Cov d f
            · rw [decP_yes hC] at hcv
              have HC := Lib.hid hcv
              have HT := Lib.hid (vbd_tb hC)
              clear hcv hC
              go_wp2_with fail
              refine HC.out.mono ?_
              rintro e w7 ⟨rfl, hd7⟩
              have H7 := Lib.hid (HY.out.same hd7)
              clear hd7 HC HY
              have HTB := Lib.hid (specTightBelow_any _ _ _ _ _ _ _ _ _ H7.out.1 H7.out.2.1)
              go_wp2_with fail
              refine HTB.out.mono ?_
              rintro e w8 ⟨r, rfl, hI, hb⟩
              have H8 := Lib.hid (H7.out.newf hI HT.out hd1 hb)
              clear hI hb H7 HTB
              go_wp2
              go_ret2
              exact H8.out.done HD.out (by have := HT.out.2; have := HD.out.six; omega)
            · rw [decP_no hC] at hcv
              have HC := Lib.hid hcv
              clear hcv hC
              go_wp2_with fail
              refine HC.out.mono ?_
              rintro e w7 ⟨rfl, hd7⟩
              have HYb := Lib.hid (HY.out.same hd7)
              clear hd7 HC HY
              have HY := HYb
              clear HYb
              have HO := Lib.hid <| odd_any R _ 20 _ HY.out.2.2.2.2.1 (by omega) (by omega) (by omega)
              go_wp2_with fail
              refine HO.out.mono ?_
              rintro e w8 ⟨t, rfl, hrd, hch⟩
              have H8 := Lib.hid (HY.out.picked hrd hch)
              clear hrd hch HO HY
              cases t
              · go_wp2
                go_ret2
                exact H8.out.done HD.out (by have := HF6.out; omega)
              · have hs8 := H8.out.2.2.2.2.2.2.2.2
                have hf6 := HF6.out
                go_wp2_with (at_builtin; refine wp_app _ rfl _ _ rfl L1 _ _ _ rfl (H8.out.2.1.alloc _) w8.heap.size 0 1 1 [1] rfl rfl one_cell (by omega) (by simp; omega) ?_; intro v' w' hI' hB' _; have H9 := Lib.hid (H8.out.grown hI' (H8.out.2.2.1.snoc (by omega) (by omega)) (((Below.refl _ _).alloc hs8 _).trans hB')); clear hI' hB' H8)
                go_wp2
                go_ret2
                exact H9.out.done HD.out (by simp; omega)
          · have HO := Lib.hid <| odd_any R _ 20 _ HY.out.2.2.2.2.1 (by omega) (by omega) (by omega)
            go_wp2_with fail
            refine HO.out.mono ?_
            rintro e w8 ⟨t, rfl, hrd, hch⟩
            have H8 := Lib.hid (HY.out.picked hrd hch)
            clear hrd hch HO HY
            cases t
            · go_wp2
              go_ret2
              exact H8.out.done HD.out (by have := HF6.out; omega)
            · have hs8 := H8.out.2.2.2.2.2.2.2.2
              have hf6 := HF6.out
              go_wp2_with (at_builtin; refine wp_app _ rfl _ _ rfl L1 _ _ _ rfl (H8.out.2.1.alloc _) w8.heap.size 0 1 1 [1] rfl rfl one_cell (by omega) (by simp; omega) ?_; intro v' w' hI' hB' _; have H9 := Lib.hid (H8.out.grown hI' (H8.out.2.2.1.snoc (by omega) (by omega)) (((Below.refl _ _).alloc hs8 _).trans hB')); clear hI' hB' H8)
              go_wp2
              go_ret2
              exact H9.out.done HD.out (by simp; omega)
    · have HZ := Lib.hid (HX5.out.more (k' := k0 + 80) (by omega))
      have HF6 : Hid ((liftV d).length ≤ 6) := by have := HFL.out; show _ ≤ _; omega
      clear HX5 HFL
      generalize liftV d = f at *
      have HP2 := Lib.hid <| pick_any R _ 2 _ HZ.out.2.2.2.2.1 (by omega) (by omega) (by omega)
      go_wp2_with fail
      refine HP2.out.mono ?_
      rintro e w6 ⟨y, rfl, hy0, hy1, _, hrd, hch⟩
      have hy1 := hy1 (by omega)
      have HY := Lib.hid (HZ.out.picked hrd hch)
      clear hrd hch HP2 HZ
      have hyy : y = 0 ∨ y = 1 := by omega
      clear hy0 hy1
      rcases hyy with rfl | rfl
      · have hcv := specCoversOk_any _ _ _ _ _ _ _ _ _ HY.out.1 HY.out.2.1
        by_cases hC : Cov d f
        · rw [decP_yes hC] at hcv
          have HC := Lib.hid hcv
          have HT := Lib.hid (vbd_tb hC)
          clear hcv hC
          go_wp2_with fail
          refine HC.out.mono ?_
          rintro e w7 ⟨rfl, hd7⟩
          have H7 := Lib.hid (HY.out.same hd7)
          clear hd7 HC HY
          have HTB := Lib.hid (specTightBelow_any _ _ _ _ _ _ _ _ _ H7.out.1 H7.out.2.1)
          go_wp2_with fail
          refine HTB.out.mono ?_
          rintro e w8 ⟨r, rfl, hI, hb⟩
          have H8 := Lib.hid (H7.out.newf hI HT.out hd1 hb)
          clear hI hb H7 HTB
          go_wp2
          go_ret2
          exact H8.out.done HD.out (by have := HT.out.2; have := HD.out.six; omega)
        · rw [decP_no hC] at hcv
          have HC := Lib.hid hcv
          clear hcv hC
          go_wp2_with fail
          refine HC.out.mono ?_
          rintro e w7 ⟨rfl, hd7⟩
          have HYb := Lib.hid (HY.out.same hd7)
          clear hd7 HC HY
          have HY := HYb
          clear HYb
          have HO := Lib.hid <| odd_any R _ 20 _ HY.out.2.2.2.2.1 (by omega) (by omega) (by omega)
          go_wp2_with fail
          refine HO.out.mono ?_
          rintro e w8 ⟨t, rfl, hrd, hch⟩
          have H8 := Lib.hid (HY.out.picked hrd hch)
          clear hrd hch HO HY
          cases t
          · go_wp2
            go_ret2
            exact H8.out.done HD.out (by have := HF6.out; omega)
          · have hs8 := H8.out.2.2.2.2.2.2.2.2
            have hf6 := HF6.out
            go_wp2_with (at_builtin; refine wp_app _ rfl _ _ rfl L1 _ _ _ rfl (H8.out.2.1.alloc _) w8.heap.size 0 1 1 [1] rfl rfl one_cell (by omega) (by simp; omega) ?_; intro v' w' hI' hB' _; have H9 := Lib.hid (H8.out.grown hI' (H8.out.2.2.1.snoc (by omega) (by omega)) (((Below.refl _ _).alloc hs8 _).trans hB')); clear hI' hB' H8)
            go_wp2
            go_ret2
            exact H9.out.done HD.out (by simp; omega)
      · have HO := Lib.hid <| odd_any R _ 20 _ HY.out.2.2.2.2.1 (by omega) (by omega) (by omega)
        go_wp2_with fail
        refine HO.out.mono ?_
        rintro e w8 ⟨t, rfl, hrd, hch⟩
        have H8 := Lib.hid (HY.out.picked hrd hch)
        clear hrd hch HO HY
        cases t
        · go_wp2
          go_ret2
          exact H8.out.done HD.out (by have := HF6.out; omega)
        · have hs8 := H8.out.2.2.2.2.2.2.2.2
          have hf6 := HF6.out
          go_wp2_with (at_builtin; refine wp_app _ rfl _ _ rfl L1 _ _ _ rfl (H8.out.2.1.alloc _) w8.heap.size 0 1 1 [1] rfl rfl one_cell (by omega) (by simp; omega) ?_; intro v' w' hI' hB' _; have H9 := Lib.hid (H8.out.grown hI' (H8.out.2.2.1.snoc (by omega) (by omega)) (((Below.refl _ _).alloc hs8 _).trans hB')); clear hI' hB' H8)
          go_wp2
          go_ret2
          exact H9.out.done HD.out (by simp; omega)
  · rw [decP_no hS] at hcs
    have HCS := Lib.hid hcs
    clear hcs hS
    go_wp2_with fail
    refine HCS.out.mono ?_
    rintro e w3 ⟨rfl, hd3⟩
    have HM3 := Lib.hid (HM.out.dr hd3)
    have HC3 := Lib.hid (HC.out.trans hd3.chg)
    have HR3 := Lib.hid (HR2.out.dr hd3)
    clear hd3 HCS HM HC HR2
    go_wp2_with fail
    refine (values_any _ _ _ _ _ _ _ _ HR3.out (by omega) HM3.out HD.out HL.out (by omega) (by omega)).mono ?_
    rintro e w4 ⟨vf, f, rfl, hI, hfl, hV, _, hch⟩
    have HF : Hid (CvP R k0 w (.returned (.tuple #[.slice (some ⟨vb, 0, none⟩) d.length vc, vf])) w4) := ⟨_, vf, d, f, rfl, (HM3.out.chg hch (Or.inr HL.out)).top, hI.widen HC3.out.size (Nat.le_refl _), HD.out, hV, hfl, HC3.out.trans hch⟩
    clear hI hV hch
    go_wp2
    go_ret2
    exact HF.out

theorem drawCoversOk_any (v : Value) (n : Nat) (w : World) (h : BIn w v n) : Calls Try.prog 30 #[v] w (DrewMI w) := by
  go_enter Try.func30, Try.ntmps30
  go_wp2_with fail
  refine (open_any v n w h).mono ?_
  rintro e w1 ⟨rfl, hrd, hb⟩
  have HR := Lib.hid hrd
  have HB := Lib.hid hb
  clear hrd hb h
  go_wp2_with fail
  refine (covering_any _ _ _ HR.out (by omega)).mono ?_
  rintro e w2 ⟨a, b, d, f, rfl, h1, h2, h3, h4, h5, h9⟩
  have H : Hid (DrewMI w (.returned (.tuple #[a, b])) w2) := ⟨a, b, d, f, rfl, h1.widen (Nat.zero_le _) (Nat.le_refl _), h2.widen (Nat.zero_le _) (Nat.le_refl _), h3, h4, h5, HB.out.trans (h9.below HB.out.size (Nat.le_refl _))⟩
  clear h1 h2 h3 h4 h5 h9
  go_wp2
  go_ret2
  exact H.out

theorem drawTightOk_any (v : Value) (n : Nat) (w : World) (h : BIn w v n) : Calls Try.prog 48 #[v] w (DrewMI w) := by
  go_enter Try.func48, Try.ntmps48
  go_wp2_with fail
  refine (open_any v n w h).mono ?_
  rintro e w1 ⟨rfl, hrd, hb⟩
  have HR := Lib.hid hrd
  have HB := Lib.hid hb
  clear hrd hb h
  go_wp2_with fail
  refine (covering_any _ _ _ HR.out (by omega)).mono ?_
  rintro e w2 ⟨a, b, d, f, rfl, h1, h2, h3, h4, h5, h9⟩
  have H : Hid (DrewMI w (.returned (.tuple #[a, b])) w2) := ⟨a, b, d, f, rfl, h1.widen (Nat.zero_le _) (Nat.le_refl _), h2.widen (Nat.zero_le _) (Nat.le_refl _), h3, h4, h5, HB.out.trans (h9.below HB.out.size (Nat.le_refl _))⟩
  clear h1 h2 h3 h4 h5 h9
  go_wp2
  go_ret2
  exact H.out

theorem drawTightBelow_any (v : Value) (n : Nat) (w : World) (h : BIn w v n) : Calls Try.prog 50 #[v] w (DrewMI w) := by
  go_enter Try.func50, Try.ntmps50
  go_wp2_with fail
  refine (open_any v n w h).mono ?_
  rintro e w1 ⟨rfl, hrd, hb⟩
  have HR := Lib.hid hrd
  have HB := Lib.hid hb
  clear hrd hb h
  go_wp2_with fail
  refine (covering_any _ _ _ HR.out (by omega)).mono ?_
  rintro e w2 ⟨a, b, d, f, rfl, h1, h2, h3, h4, h5, h9⟩
  have H : Hid (DrewMI w (.returned (.tuple #[a, b])) w2) := ⟨a, b, d, f, rfl, h1.widen (Nat.zero_le _) (Nat.le_refl _), h2.widen (Nat.zero_le _) (Nat.le_refl _), h3, h4, h5, HB.out.trans (h9.below HB.out.size (Nat.le_refl _))⟩
  clear h1 h2 h3 h4 h5 h9
  go_wp2
  go_ret2
  exact H.out

theorem drawPartnersOf_any (v : Value) (n : Nat) (w : World) (h : BIn w v n) : Calls Try.prog 52 #[v] w (DrewMI w) := by
  go_enter Try.func52, Try.ntmps52
  go_wp2_with fail
  refine (open_any v n w h).mono ?_
  rintro e w1 ⟨rfl, hrd, hb⟩
  have HR := Lib.hid hrd
  have HB := Lib.hid hb
  clear hrd hb h
  go_wp2_with fail
  refine (covering_any _ _ _ HR.out (by omega)).mono ?_
  rintro e w2 ⟨a, b, d, f, rfl, h1, h2, h3, h4, h5, h9⟩
  have H : Hid (DrewMI w (.returned (.tuple #[a, b])) w2) := ⟨a, b, d, f, rfl, h1.widen (Nat.zero_le _) (Nat.le_refl _), h2.widen (Nat.zero_le _) (Nat.le_refl _), h3, h4, h5, HB.out.trans (h9.below HB.out.size (Nat.le_refl _))⟩
  clear h1 h2 h3 h4 h5 h9
  go_wp2
  go_ret2
  exact H.out

end Go.Proofs.Ytapllhnlngnobaa
