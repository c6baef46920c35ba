/- What l20Known does, and the laws' three draws by it. Conditions: as each theorem says. -/
import Derived.Test.YtapllhnlngnobaaDrawX
namespace Go.Proofs.Ytapllhnlngnobaa
set_option linter.unusedVariables false
set_option linter.unusedSimpArgs false
open Go.RowKit Go.Deep

/-- What l20Known leaves. -/
def KnP (R k : Nat) (w : World) (e : Ending) (w' : World) : Prop :=
  ∃ v u t d f g, e = .returned (.tuple #[v, u, t]) ∧ MMem w.heap.size w'.heap.size w' v d ∧ IMem w.heap.size w'.heap.size w' u f ∧ IMem w.heap.size w'.heap.size w' t g ∧ Dn d ∧ VBd f ∧ f.length ≤ 7 ∧ VBd g ∧ g.length ≤ 7 ∧ Chg R (R + 1) w w'

/-- How it stands within the loop: the space, the values, the marks, the reader. -/
def InKn (R k L0 L1 L2 : Nat) (w wr : World) (vd vf vk : Value) (d : List (List Int)) (f kn : List Int) : Prop :=
  MMem L0 L1 wr vd d ∧ IMem L1 L2 wr vf f ∧ IMem L2 wr.heap.size wr vk kn ∧ VBd f ∧ VBd kn ∧ Chg R (R + 1) w wr ∧ Rd R k wr ∧ R + 1 ≤ L0 ∧ w.heap.size ≤ L0 ∧ L0 ≤ L1 ∧ L1 ≤ L2 ∧ L2 ≤ wr.heap.size
theorem InKn.picked {R k k' L0 L1 L2 : Nat} {w wr w' : World} {vd vf vk : Value} {d : List (List Int)} {f kn : List Int} (h : InKn R k L0 L1 L2 w wr vd vf vk d f kn) (hr : Rd R k' w') (hc : Chg R (R + 1) wr w') :
    InKn R k' L0 L1 L2 w w' vd vf vk d f kn := by
  obtain ⟨h1, h2, h3, h4, h5, h6, h7, h8, h9, h10, h11, h12⟩ := h
  exact ⟨h1.chg hc (Or.inr h8), h2.chg hc (Or.inr (by omega)), (h3.chg hc (Or.inr (by omega))).top, h4, h5, h6.trans hc, hr, h8, h9, h10, h11, Nat.le_trans h12 hc.size⟩
theorem InKn.grown {R k L0 L1 L2 : Nat} {w wr w' : World} {vd vf vk vk' : Value} {d : List (List Int)} {f kn kn' : List Int} (h : InKn R k L0 L1 L2 w wr vd vf vk d f kn) (hI : IMem L2 w'.heap.size w' vk' kn') (hb : Below L2 wr w') (hV : VBd kn') :
    InKn R k L0 L1 L2 w w' vd vf vk' d f kn' := by
  obtain ⟨h1, h2, h3, h4, h5, h6, h7, h8, h9, h10, h11, h12⟩ := h
  have hc := chg_below hb
  exact ⟨h1.chg hc (Or.inl h11), h2.chg hc (Or.inl (Nat.le_refl _)), hI, h4, hV, h6.since hc (by omega), h7.chg hc (by omega), h8, h9, h10, h11, Nat.le_trans h12 hc.size⟩
theorem InKn.zero {R k L0 L1 L2 : Nat} {w wr : World} {vd vf vk : Value} {d : List (List Int)} {f kn : List Int} (h : InKn R k L0 L1 L2 w wr vd vf vk d f kn) {i : Nat} (hi : i < f.length) :
    ∃ b c x, vf = .slice (some ⟨b, 0, none⟩) f.length c ∧ wr.cell? ⟨b, i, none⟩ = some (.int .i64 x) ∧ wr.frozen? ⟨b, i, none⟩ = false ∧ InKn R k L0 L1 L2 w (wr.setCell ⟨b, i, none⟩ (.int .i64 0)) vd vf vk d (f.set i 0) kn := by
  obtain ⟨h1, h2, h3, h4, h5, h6, h7, h8, h9, h10, h11, h12⟩ := h
  obtain ⟨b, c, rfl, b1, b2, b3, _, _, hc, hf⟩ := id h2.open
  have hw : Chg L1 L2 wr (wr.setCell ⟨b, i, none⟩ (.int .i64 0)) := (Chg.refl _ _ _).setCell (p := ⟨b, i, none⟩) b1 b2 _
  have hsz : (wr.setCell ⟨b, i, none⟩ (.int .i64 0)).heap.size = wr.heap.size := by simp [World.setCell]
  refine ⟨b, c, _, rfl, hc i hi, hf i, h1.chg hw (Or.inl (Nat.le_refl _)), h2.set (by simp) i (by rw [iat_setD hi, if_pos rfl]) (fun j hj hne => by rw [iat_setD hj, if_neg (fun h => hne h.symm)]), ?_, h4.set i (by omega) (by omega), h5, h6.since hw (by omega), h7.chg hw (by omega), h8, h9, h10, h11, by omega⟩
  rw [hsz]
  exact h3.chg hw (Or.inr (Nat.le_refl _))

theorem InKn.more {R k k' L0 L1 L2 : Nat} {w wr : World} {vd vf vk : Value} {d : List (List Int)} {f kn : List Int} (h : InKn R k L0 L1 L2 w wr vd vf vk d f kn) (hk : k ≤ k') : InKn R k' L0 L1 L2 w wr vd vf vk d f kn := by
  obtain ⟨h1, h2, h3, h4, h5, h6, h7, h8⟩ := h
  exact ⟨h1, h2, h3, h4, h5, h6, h7.more hk, h8⟩

set_option maxHeartbeats 4000000 in
theorem known_any (R k0 : Nat) (w : World) (h : Rd R k0 w) (hk : k0 ≤ 100) : Calls Try.prog 74 #[.pointer (some ⟨R, 0, none⟩)] w (KnP R k0 w) := by
  have HL : Hid (R + 1 ≤ w.heap.size) := h.lt
  have HR := Lib.hid <| h
  clear h
  go_enter Try.func74, Try.ntmps74
  go_wp2_with fail
  refine (space_any _ _ _ _ _ HR.out (by omega) (by omega) (by omega) (by omega) (by omega)).mono ?_
  rintro e w2 ⟨vd, d, rfl, hM, hd, hrd, hch⟩
  have HM := Lib.hid hM
  have HD := Lib.hid hd
  have HC := Lib.hid hch
  have HR2 := Lib.hid hrd
  clear hM hd hch hrd HR
  go_wp2_with fail
  refine (values_any _ _ w.heap.size w2.heap.size _ _ _ _ HR2.out (by omega) HM.out HD.out HL.out (by omega) (by omega)).mono ?_
  rintro e w3 ⟨vf, f, rfl, hI, hfl, hV, hrd, hch⟩
  obtain ⟨b, c, rfl, _⟩ := id hI.open
  have HK0 : Hid (InKn R (k0 + 128) w.heap.size w2.heap.size w3.heap.size w (w3.alloc (.cells #[] 3)) vd (.slice (some ⟨b, 0, none⟩) f.length c) (.slice (some ⟨w3.heap.size, 0, none⟩) 0 0) d f []) := by
    have hb : Below w3.heap.size w3 (w3.alloc (.cells #[] 3)) := (Below.refl _ _).alloc (Nat.le_refl _) _
    exact ⟨(HM.out.chg hch (Or.inr HL.out)).fresh hb, hI.fresh hb, (IMem.empty w3).widen (Nat.le_refl _) (by simp), hV, VBd.nil, (HC.out.trans hch).trans (chg_of_below hb), (hrd.fresh hb).more (by omega), HL.out, Nat.le_refl _, HC.out.size, hch.size, by simp⟩
  have HFL := Lib.hid hfl
  clear hI hV hrd hch HM HC HR2 hfl
  go_wp2
  go_loopw [7, 8] (fun kv iv wr => ∃ (i : Nat) (f' kn : List Int), i ≤ f.length ∧ iv = .int .i64 i ∧ Hid (InKn R (k0 + 128 + 2 * i) w.heap.size w2.heap.size w3.heap.size w wr vd (.slice (some ⟨b, 0, none⟩) f.length c) kv d f' kn ∧ f'.length = f.length ∧ kn.length = i)) (fun _ iv _ => f.length - (intOf iv).toNat)
  case atStart => exact ⟨0, f, [], Nat.zero_le _, rfl, HK0.out, rfl, rfl⟩
  case round =>
    clear HK0
    obtain ⟨i, f', kn, hi, rfl, HK⟩ := hrel
    by_cases hlt : i < f.length
    · have hf7 := HFL.out
      have HP := Lib.hid <| pick_any R _ 2 _ HK.out.1.2.2.2.2.2.2.1 (by omega) (by omega) (by omega)
      go_wp2_with fail
      refine HP.out.mono ?_
      rintro e w4 ⟨x, rfl, hx0, hx1, _, hrd, hch⟩
      have hx1 := hx1 (by omega)
      have HK4 := Lib.hid (HK.out.1.picked hrd hch)
      have hln := HK.out.2.1
      have hkn := HK.out.2.2
      clear hrd hch HP HK
      have hsz := HK4.out.2.2.2.2.2.2.2.2.2.2.2
      have hk1 : (kn ++ [x]).length = i + 1 := by simp [hkn]
      by_cases hx : x = 0
      · subst hx
        go_wp2_with (at_builtin; refine wp_app _ rfl _ _ rfl w3.heap.size w4.heap.size _ _ rfl (HK4.out.2.2.1.alloc _) w4.heap.size 0 1 1 [0] rfl rfl one_cell (by omega) (by simp; omega) ?_; intro v' w' hI' hB' _; have HK5 := Lib.hid (HK4.out.grown hI' (((Below.refl _ _).alloc hsz _).trans hB') (HK4.out.2.2.2.2.1.snoc (by omega) (by omega))); clear hI' hB' HK4 hsz)
        have HO := Lib.hid <| odd_any R _ 20 _ HK5.out.2.2.2.2.2.2.1 (by omega) (by omega) (by omega)
        go_wp2_with fail
        refine HO.out.mono ?_
        rintro e w6 ⟨t, rfl, hrd, hch⟩
        have HK6 := Lib.hid (HK5.out.picked hrd hch)
        clear hrd hch HO HK5
        cases t
        · obtain ⟨b', c', y, hv, c1, f1, hz⟩ := HK6.out.zero (i := i) (by omega)
          injection hv with e1 e2 e3
          injection e1 with e1
          injection e1 with e1
          subst e1 e3
          have HZ := Lib.hid (InKn.more hz (k' := k0 + 128 + 2 * (i + 1)) (by omega))
          have hii : (i : Int) < (f.length : Int) := by omega
          clear hz e2
          go_wp2
          go_roundw
          case rel => exact ⟨i + 1, _, _, by omega, by go_num, HZ.out, by simp [hln], hk1⟩
          case measure => simp [intOf]; omega
        · go_wp2
          go_roundw
          case rel => exact ⟨i + 1, _, _, by omega, by go_num, InKn.more HK6.out (by omega), hln, hk1⟩
          case measure => simp [intOf]; omega
      · have hxb : (x == 0) = false := by simpa using hx
        go_wp2_with (at_builtin; refine wp_app _ rfl _ _ rfl w3.heap.size w4.heap.size _ _ rfl (HK4.out.2.2.1.alloc _) w4.heap.size 0 1 1 [x] rfl rfl one_cell (by omega) (by simp; omega) ?_; intro v' w' hI' hB' _; have HK5 := Lib.hid (HK4.out.grown hI' (((Below.refl _ _).alloc hsz _).trans hB') (HK4.out.2.2.2.2.1.snoc (by omega) (by omega))); clear hI' hB' HK4 hsz)
        go_wp2
        go_roundw
        case rel => exact ⟨i + 1, _, _, by omega, by go_num, InKn.more HK5.out (by omega), hln, hk1⟩
        case measure => simp [intOf]; omega
    · go_wp2
      go_ret3
      obtain ⟨⟨h1, h2, h3, h4, h5, h6, h7, h8, h9, h10, h11, h12⟩, hln, hkn⟩ := HK.out
      have hf7 := HFL.out
      exact ⟨_, _, _, d, kn, f', rfl, h1.top, h3.widen (by omega) (Nat.le_refl _), h2.top.widen (by omega) (Nat.le_refl _), HD.out, h5, by omega, h4, by omega, h6⟩

theorem drawKnownOk_any (v : Value) (n : Nat) (w : World) (h : BIn w v n) : Calls Try.prog 34 #[v] w (DrewMII w) := by
  go_enter Try.func34, Try.ntmps34
  go_wp2_with fail
  refine (open_any v n w h).mono ?_
  rintro e w1 ⟨rfl, hrd, hb⟩
  have HR := Lib.hid hrd
  have HB := Lib.hid hb
  clear hrd hb h
  go_wp2_with fail
  refine (known_any _ _ _ HR.out (by omega)).mono ?_
  rintro e w2 ⟨a, b, c, d, f, g, rfl, h1, h2, h3, h4, h5, h6, h7, h8, h9⟩
  have H : Hid (DrewMII w (.returned (.tuple #[a, b, c])) w2) := ⟨a, b, c, d, f, g, rfl, h1.widen (Nat.zero_le _) (Nat.le_refl _), h2.widen (Nat.zero_le _) (Nat.le_refl _), h3.widen (Nat.zero_le _) (Nat.le_refl _), h4, h5, h6, h7, h8, HB.out.trans (h9.below HB.out.size (Nat.le_refl _))⟩
  clear h1 h2 h3 h4 h5 h6 h7 h8 h9
  go_wp2
  go_ret3
  exact H.out

theorem drawHighestOf_any (v : Value) (n : Nat) (w : World) (h : BIn w v n) : Calls Try.prog 57 #[v] w (DrewMII w) := by
  go_enter Try.func57, Try.ntmps57
  go_wp2_with fail
  refine (open_any v n w h).mono ?_
  rintro e w1 ⟨rfl, hrd, hb⟩
  have HR := Lib.hid hrd
  have HB := Lib.hid hb
  clear hrd hb h
  go_wp2_with fail
  refine (known_any _ _ _ HR.out (by omega)).mono ?_
  rintro e w2 ⟨a, b, c, d, f, g, rfl, h1, h2, h3, h4, h5, h6, h7, h8, h9⟩
  have H : Hid (DrewMII w (.returned (.tuple #[a, b, c])) w2) := ⟨a, b, c, d, f, g, rfl, h1.widen (Nat.zero_le _) (Nat.le_refl _), h2.widen (Nat.zero_le _) (Nat.le_refl _), h3.widen (Nat.zero_le _) (Nat.le_refl _), h4, h5, h6, h7, h8, HB.out.trans (h9.below HB.out.size (Nat.le_refl _))⟩
  clear h1 h2 h3 h4 h5 h6 h7 h8 h9
  go_wp2
  go_ret3
  exact H.out

theorem drawLowestOf_any (v : Value) (n : Nat) (w : World) (h : BIn w v n) : Calls Try.prog 60 #[v] w (DrewMII w) := by
  go_enter Try.func60, Try.ntmps60
  go_wp2_with fail
  refine (open_any v n w h).mono ?_
  rintro e w1 ⟨rfl, hrd, hb⟩
  have HR := Lib.hid hrd
  have HB := Lib.hid hb
  clear hrd hb h
  go_wp2_with fail
  refine (known_any _ _ _ HR.out (by omega)).mono ?_
  rintro e w2 ⟨a, b, c, d, f, g, rfl, h1, h2, h3, h4, h5, h6, h7, h8, h9⟩
  have H : Hid (DrewMII w (.returned (.tuple #[a, b, c])) w2) := ⟨a, b, c, d, f, g, rfl, h1.widen (Nat.zero_le _) (Nat.le_refl _), h2.widen (Nat.zero_le _) (Nat.le_refl _), h3.widen (Nat.zero_le _) (Nat.le_refl _), h4, h5, h6, h7, h8, HB.out.trans (h9.below HB.out.size (Nat.le_refl _))⟩
  clear h1 h2 h3 h4 h5 h6 h7 h8 h9
  go_wp2
  go_ret3
  exact H.out

end Go.Proofs.Ytapllhnlngnobaa
