/- What l20Values and l20Known do. Conditions: as each theorem says. -/
import Derived.Test.YtapllhnlngnobaaDraw4
namespace Go.Proofs.Ytapllhnlngnobaa
set_option linter.unusedVariables false
set_option linter.unusedSimpArgs false
open Go.RowKit Go.Deep

/-- Values that are drawn. -/
def VBd (f : List Int) : Prop := ∀ i, i < f.length → -4 ≤ iat f i ∧ iat f i ≤ 201
theorem VBd.nil : VBd [] := fun i hi => by simp at hi
theorem VBd.snoc {f : List Int} {x : Int} (h : VBd f) (h1 : -4 ≤ x) (h2 : x ≤ 201) : VBd (f ++ [x]) := by
  intro i hi
  rw [List.length_append] at hi
  simp only [List.length_cons, List.length_nil] at hi
  by_cases e : i < f.length
  · have := h i e
    unfold iat at this ⊢
    rwa [List.getD_eq_getElem?_getD, List.getElem?_append_left e, ← List.getD_eq_getElem?_getD]
  · have e2 : i = f.length := by omega
    unfold iat
    rw [List.getD_eq_getElem?_getD, List.getElem?_append_right (by omega), e2]
    simp
    exact ⟨h1, h2⟩
theorem VBd.set {f : List Int} {x : Int} (h : VBd f) (i : Nat) (h1 : -4 ≤ x) (h2 : x ≤ 201) : VBd (f.set i x) := by
  intro j hj
  rw [List.length_set] at hj
  rw [iat_setD hj]
  split
  · exact ⟨h1, h2⟩
  · exact h j hj

/-- What l20Values leaves. -/
def ValsP (R k : Nat) (w : World) (e : Ending) (w' : World) : Prop :=
  ∃ v f, e = .returned v ∧ IMem w.heap.size w'.heap.size w' v f ∧ f.length ≤ 7 ∧ VBd f ∧ Rd R (k + 64) w' ∧ Chg R (R + 1) w w'


set_option maxHeartbeats 8000000 in
theorem values_any (R k0 L H : Nat) (m : Int) (v : Value) (d : List (List Int)) (w : World) (h : Rd R k0 w) (hk : k0 ≤ 1000) (hM : MMem L H w v d) (hd : Dn d) (hL : R + 1 ≤ L) (hn1 : 1 ≤ m) (hn2 : m ≤ 1000) :
    Calls Try.prog 65 #[.pointer (some ⟨R, 0, none⟩), v, .int .i64 m] w (ValsP R k0 w) := by
  obtain ⟨b, cap, _, _, rfl, _⟩ := id hM.open
  have HM := Lib.hid hM
  have HD := Lib.hid hd
  have HL := hL
  have HRS := Lib.hid h.lt
  have hd6' : d.length ≤ 6 := hd.six
  have HRd := Lib.hid h
  clear hM hd h
  by_cases hlen : d.length = 0
  · have hd1 : (d.length : Int) < 1 := by omega
    have HP : Hid (∀ o, Calls Try.prog 76 #[.pointer (some ⟨R, 0, none⟩), .int .i64 1] (w.alloc o) (Picked R k0 1 (w.alloc o))) :=
      fun o => pick_any R k0 1 _ (HRd.out.fresh ((Below.refl _ _).alloc (Nat.le_refl _) _)) (by omega) (by omega) (by omega)
    have HN : Hid (∀ x : Int, x < 1 → d.length ≠ 0 → x < d.length) := fun x _ h => absurd hlen h
    clear hlen
    go_enter Try.func65, Try.ntmps65
    go_wp2_with fail
    refine (HP.out _).mono ?_
    rintro e w2 ⟨x, rfl, hx0, hx1, _, hrd, hch⟩
    obtain ⟨q, rfl⟩ : ∃ q : Nat, x = (q : Int) := ⟨x.toNat, by omega⟩
    have HQ : Hid (d.length ≠ 0 → q < d.length) := fun h => by have := HN.out q (hx1 (by omega)) h; omega
    have HI : Hid (IMem w.heap.size w2.heap.size w2 (.slice (some ⟨w.heap.size, 0, none⟩) 0 0) []) := ((IMem.empty w).chg hch (Or.inr HRS.out)).top
    have HC : Hid (Chg R (R + 1) w w2) := (chg_of_below ((Below.refl _ _).alloc (Nat.le_refl _) _)).trans hch
    have HR := Lib.hid hrd
    clear hx0 hx1 hrd hch HP hd1 HN
    go_wp2
    go_loopw [7, 9] (fun ov kv wr => ∃ f : List Int, f.length ≤ d.length ∧ kv = .int .i64 f.length ∧ Hid (IMem w.heap.size wr.heap.size wr ov f) ∧ Hid (VBd f) ∧ Hid (Chg R (R + 1) w wr) ∧ Hid (Rd R (k0 + 1 + 2 * f.length) wr)) (fun _ kv _ => d.length - (intOf kv).toNat)
    case atStart => exact ⟨[], Nat.zero_le _, rfl, HI, VBd.nil, HC, HR⟩
    case round =>
      clear HI HC HR
      obtain ⟨f, hfl, rfl, HI, HV, HC, HR⟩ := hrel
      by_cases hlt : f.length < d.length
      · have HP := Lib.hid <| pick_any R _ 9 _ HR.out (by have := HD.out.six; omega) (by omega) (by omega)
        go_wp2_with fail
        refine HP.out.mono ?_
        rintro e w3 ⟨x, rfl, hx0, hx1, _, hrd, hch⟩
        have hx1 := hx1 (by omega)
        have HP3 := Lib.hid <| pick_any R _ 3 _ hrd (by have := HD.out.six; omega) (by omega) (by omega)
        have HC3 := Lib.hid (HC.out.trans hch)
        have HI3 := Lib.hid ((HI.out.chg hch (Or.inr HRS.out)).top)
        clear HP hrd hch HC HI HR
        go_wp2_with fail
        refine HP3.out.mono ?_
        rintro e w4 ⟨y, rfl, hy0, hy1, _, hrd, hch⟩
        have hy1 := hy1 (by omega)
        have HC4 := Lib.hid (HC3.out.trans hch)
        have HI4 := Lib.hid ((HI3.out.chg hch (Or.inr HRS.out)).top)
        have HR4 : Hid (Rd R (k0 + 1 + 2 * (f.length + 1)) w4) := hrd.more (by omega)
        have hs4 : w.heap.size ≤ w4.heap.size := HC4.out.size
        clear HP3 hrd hch HC3 HI3
        have hlen1 : ∀ z : Int, (f ++ [z]).length = f.length + 1 := by simp
        have hq := HQ.out (by omega)
        have hqi : (q : Int) < (d.length : Int) := by omega
        have hd6 : d.length ≤ 6 := HD.out.six
        obtain ⟨g, c, c1, g1, g2, hc, _, _⟩ := (HM.out.chg HC4.out (Or.inr HL)).at_ hq
        by_cases hy : 0 < y
        · by_cases hl : (row d q).length = d.length
          · have hb := HD.out.bd q f.length hq (by omega)
            have c2 := hc f.length (by omega)
            have hlb : (((row d q).length : Int) == (d.length : Int)) = true := by simp [hl]
            have hfi : ((f.length : Nat) : Int) < ((row d q).length : Int) := by omega
            clear hc
            go_wp2_with (at_builtin; refine wp_app _ rfl _ _ rfl w.heap.size _ _ _ rfl (HI4.out.alloc _) w4.heap.size 0 1 1 [at2 d q f.length - 3] rfl rfl one_cell (by omega) (by simp; omega) ?_; intro v' w' hI' hB' _)
            have HI5 : Hid (IMem w.heap.size w'.heap.size w' v' (f ++ [at2 d q f.length - 3])) := hI'
            have HB5 : Hid (Below w.heap.size w4 w') := (((Below.refl _ _).alloc hs4 _).trans hB')
            clear hI' hB'
            go_wp2
            go_roundw
            case rel => exact ⟨f ++ [at2 d q f.length - 3], by rw [hlen1]; omega, by rw [hlen1]; go_num, HI5, HV.out.snoc (by omega) (by omega), HC4.out.since (chg_below HB5.out) (Nat.le_refl _), by rw [hlen1]; exact HR4.out.chg (chg_below HB5.out) HRS.out⟩
            case measure => simp [intOf]; omega
          · have hlb : (((row d q).length : Int) == (d.length : Int)) = false := by simpa using fun e => hl (by omega)
            clear hc
            go_wp2_with (at_builtin; refine wp_app _ rfl _ _ rfl w.heap.size _ _ _ rfl (HI4.out.alloc _) w4.heap.size 0 1 1 [x - 4] rfl rfl one_cell (by omega) (by simp; omega) ?_; intro v' w' hI' hB' _)
            have HI5 : Hid (IMem w.heap.size w'.heap.size w' v' (f ++ [x - 4])) := hI'
            have HB5 : Hid (Below w.heap.size w4 w') := (((Below.refl _ _).alloc hs4 _).trans hB')
            clear hI' hB'
            go_wp2
            go_roundw
            case rel => exact ⟨f ++ [x - 4], by rw [hlen1]; omega, by rw [hlen1]; go_num, HI5, HV.out.snoc (by omega) (by omega), HC4.out.since (chg_below HB5.out) (Nat.le_refl _), by rw [hlen1]; exact HR4.out.chg (chg_below HB5.out) HRS.out⟩
            case measure => simp [intOf]; omega
        · have hy00 : y = 0 := by omega
          subst hy00
          clear hc hy0 hy1 hy
          go_wp2_with (at_builtin; refine wp_app _ rfl _ _ rfl w.heap.size _ _ _ rfl (HI4.out.alloc _) w4.heap.size 0 1 1 [x - 4] rfl rfl one_cell (by omega) (by simp; omega) ?_; intro v' w' hI' hB' _)
          have HI5 : Hid (IMem w.heap.size w'.heap.size w' v' (f ++ [x - 4])) := hI'
          have HB5 : Hid (Below w.heap.size w4 w') := (((Below.refl _ _).alloc hs4 _).trans hB')
          clear hI' hB'
          go_wp2
          go_roundw
          case rel => exact ⟨f ++ [x - 4], by rw [hlen1]; omega, by rw [hlen1]; go_num, HI5, HV.out.snoc (by omega) (by omega), HC4.out.since (chg_below HB5.out) (Nat.le_refl _), by rw [hlen1]; exact HR4.out.chg (chg_below HB5.out) HRS.out⟩
          case measure => simp [intOf]; omega
      · have hd6 : d.length ≤ 6 := HD.out.six
        obtain ⟨ob, oc, rfl, o1, o2, o3, _, _, ohc, ohf⟩ := id HI.out.open
        have HO := Lib.hid <| odd_any R _ m _ HR.out (by omega) hn1 (by omega)
        go_wp2_with fail
        refine HO.out.mono ?_
        rintro e w5 ⟨t, rfl, hrd, hch⟩
        have HC5 := Lib.hid (HC.out.trans hch)
        have HI5 := Lib.hid ((HI.out.chg hch (Or.inr HRS.out)).top)
        have HR5 := Lib.hid hrd
        have hs5 : w.heap.size ≤ w5.heap.size := HC5.out.size
        clear hrd hch HO HI HC HR ohc ohf
        cases t
        · go_wp2
          go_ret
          exact ⟨_, f, rfl, HI5.out, by omega, HV.out, HR5.out.more (by omega), HC5.out⟩
        · by_cases hf0 : f.length = 0
          · have hfb : ((f.length : Int) == 0) = true := by simp [hf0]
            clear hf0
            go_wp2_with (at_builtin; refine wp_app _ rfl _ _ rfl w.heap.size _ _ _ rfl (HI5.out.alloc _) w5.heap.size 0 1 1 [1] rfl rfl one_cell (by omega) (by simp; omega) ?_; intro v' w' hI' hB' _)
            have HI6 : Hid (IMem w.heap.size w'.heap.size w' v' (f ++ [1])) := hI'
            have HB6 : Hid (Below w.heap.size w5 w') := (((Below.refl _ _).alloc hs5 _).trans hB')
            clear hI' hB'
            go_wp2
            go_ret
            exact ⟨_, f ++ [1], rfl, HI6.out, by simp; omega, HV.out.snoc (by omega) (by omega), (HR5.out.chg (chg_below HB6.out) HRS.out).more (by omega), HC5.out.since (chg_below HB6.out) (Nat.le_refl _)⟩
          · have hfb : ((f.length : Int) == 0) = false := by simpa using hf0
            have HP6 := Lib.hid <| pick_any R _ 2 _ HR5.out (by omega) (by omega) (by omega)
            go_wp2_with fail
            refine HP6.out.mono ?_
            rintro e w6 ⟨z, rfl, hz0, hz1, _, hrd, hch⟩
            have hz1 := hz1 (by omega)
            have HC6 := Lib.hid (HC5.out.trans hch)
            have HI6 := Lib.hid ((HI5.out.chg hch (Or.inr HRS.out)).top)
            have HR6 := Lib.hid hrd
            have hs6 : w.heap.size ≤ w6.heap.size := HC6.out.size
            clear hrd hch HP6 HI5 HC5 HR5
            have hz : z = 0 ∨ z = 1 := by omega
            clear hz0 hz1
            rcases hz with rfl | rfl
            · go_wp2_with (at_builtin; refine wp_app _ rfl _ _ rfl w.heap.size _ _ _ rfl (HI6.out.alloc _) w6.heap.size 0 1 1 [1] rfl rfl one_cell (by omega) (by simp; omega) ?_; intro v' w' hI' hB' _)
              have HI7 : Hid (IMem w.heap.size w'.heap.size w' v' (f ++ [1])) := hI'
              have HB7 : Hid (Below w.heap.size w6 w') := (((Below.refl _ _).alloc hs6 _).trans hB')
              clear hI' hB'
              go_wp2
              go_ret
              exact ⟨_, f ++ [1], rfl, HI7.out, by simp; omega, HV.out.snoc (by omega) (by omega), (HR6.out.chg (chg_below HB7.out) HRS.out).more (by omega), HC6.out.since (chg_below HB7.out) (Nat.le_refl _)⟩
            · obtain ⟨_, _, ho, _, _, _, _, _, ohc, ohf⟩ := id HI6.out.open
              injection ho with e1 e2 e3
              injection e1 with e1
              injection e1 with e1
              subst e1 e3
              have c1 := ohc 0 (by omega)
              have f1 := ohf 0
              have HS : Hid (IMem w.heap.size w6.heap.size (w6.setCell ⟨ob, 0, none⟩ (.int .i64 201)) (.slice (some ⟨ob, 0, none⟩) f.length oc) (f.set 0 201)) := HI6.out.set (by simp) 0 (by rw [iat_setD (by omega), if_pos rfl]) (fun j hj hne => by rw [iat_setD hj, if_neg (fun h => hne h.symm)])
              have HW : Hid (Below w.heap.size w6 (w6.setCell ⟨ob, 0, none⟩ (.int .i64 201))) := (Below.refl _ _).setCell (p := ⟨ob, 0, none⟩) o1 _
              have hfi : (0 : Int) < (f.length : Int) := by omega
              clear ohc ohf e2
              go_wp2
              go_ret
              exact ⟨_, f.set 0 201, rfl, HS.out.top, by simp; omega, HV.out.set 0 (by omega) (by omega), (HR6.out.chg (chg_below HW.out) HRS.out).more (by omega), HC6.out.since (chg_below HW.out) (Nat.le_refl _)⟩
  · have hd1 : decide ((d.length : Int) < 1) = false := by simp; omega
    have HP : Hid (∀ o, Calls Try.prog 76 #[.pointer (some ⟨R, 0, none⟩), .int .i64 d.length] (w.alloc o) (Picked R k0 d.length (w.alloc o))) :=
      fun o => pick_any R k0 d.length _ (HRd.out.fresh ((Below.refl _ _).alloc (Nat.le_refl _) _)) (by omega) (by omega) (by omega)
    have HN : Hid (∀ x : Int, x < d.length → d.length ≠ 0 → x < d.length) := fun x h _ => h
    go_enter Try.func65, Try.ntmps65
    go_wp2_with fail
    refine (HP.out _).mono ?_
    rintro e w2 ⟨x, rfl, hx0, hx1, _, hrd, hch⟩
    obtain ⟨q, rfl⟩ : ∃ q : Nat, x = (q : Int) := ⟨x.toNat, by omega⟩
    have HQ : Hid (d.length ≠ 0 → q < d.length) := fun h => by have := HN.out q (hx1 (by omega)) h; omega
    have HI : Hid (IMem w.heap.size w2.heap.size w2 (.slice (some ⟨w.heap.size, 0, none⟩) 0 0) []) := ((IMem.empty w).chg hch (Or.inr HRS.out)).top
    have HC : Hid (Chg R (R + 1) w w2) := (chg_of_below ((Below.refl _ _).alloc (Nat.le_refl _) _)).trans hch
    have HR := Lib.hid hrd
    clear hx0 hx1 hrd hch HP hd1 HN
    go_wp2
    go_loopw [7, 9] (fun ov kv wr => ∃ f : List Int, f.length ≤ d.length ∧ kv = .int .i64 f.length ∧ Hid (IMem w.heap.size wr.heap.size wr ov f) ∧ Hid (VBd f) ∧ Hid (Chg R (R + 1) w wr) ∧ Hid (Rd R (k0 + 1 + 2 * f.length) wr)) (fun _ kv _ => d.length - (intOf kv).toNat)
    case atStart => exact ⟨[], Nat.zero_le _, rfl, HI, VBd.nil, HC, HR⟩
    case round =>
      clear HI HC HR
      obtain ⟨f, hfl, rfl, HI, HV, HC, HR⟩ := hrel
      by_cases hlt : f.length < d.length
      · have HP := Lib.hid <| pick_any R _ 9 _ HR.out (by have := HD.out.six; omega) (by omega) (by omega)
        go_wp2_with fail
        refine HP.out.mono ?_
        rintro e w3 ⟨x, rfl, hx0, hx1, _, hrd, hch⟩
        have hx1 := hx1 (by omega)
        have HP3 := Lib.hid <| pick_any R _ 3 _ hrd (by have := HD.out.six; omega) (by omega) (by omega)
        have HC3 := Lib.hid (HC.out.trans hch)
        have HI3 := Lib.hid ((HI.out.chg hch (Or.inr HRS.out)).top)
        clear HP hrd hch HC HI HR
        go_wp2_with fail
        refine HP3.out.mono ?_
        rintro e w4 ⟨y, rfl, hy0, hy1, _, hrd, hch⟩
        have hy1 := hy1 (by omega)
        have HC4 := Lib.hid (HC3.out.trans hch)
        have HI4 := Lib.hid ((HI3.out.chg hch (Or.inr HRS.out)).top)
        have HR4 : Hid (Rd R (k0 + 1 + 2 * (f.length + 1)) w4) := hrd.more (by omega)
        have hs4 : w.heap.size ≤ w4.heap.size := HC4.out.size
        clear HP3 hrd hch HC3 HI3
        have hlen1 : ∀ z : Int, (f ++ [z]).length = f.length + 1 := by simp
        have hq := HQ.out (by omega)
        have hqi : (q : Int) < (d.length : Int) := by omega
        have hd6 : d.length ≤ 6 := HD.out.six
        obtain ⟨g, c, c1, g1, g2, hc, _, _⟩ := (HM.out.chg HC4.out (Or.inr HL)).at_ hq
        by_cases hy : 0 < y
        · by_cases hl : (row d q).length = d.length
          · have hb := HD.out.bd q f.length hq (by omega)
            have c2 := hc f.length (by omega)
            have hlb : (((row d q).length : Int) == (d.length : Int)) = true := by simp [hl]
            have hfi : ((f.length : Nat) : Int) < ((row d q).length : Int) := by omega
            clear hc
            go_wp2_with (at_builtin; refine wp_app _ rfl _ _ rfl w.heap.size _ _ _ rfl (HI4.out.alloc _) w4.heap.size 0 1 1 [at2 d q f.length - 3] rfl rfl one_cell (by omega) (by simp; omega) ?_; intro v' w' hI' hB' _)
            have HI5 : Hid (IMem w.heap.size w'.heap.size w' v' (f ++ [at2 d q f.length - 3])) := hI'
            have HB5 : Hid (Below w.heap.size w4 w') := (((Below.refl _ _).alloc hs4 _).trans hB')
            clear hI' hB'
            go_wp2
            go_roundw
            case rel => exact ⟨f ++ [at2 d q f.length - 3], by rw [hlen1]; omega, by rw [hlen1]; go_num, HI5, HV.out.snoc (by omega) (by omega), HC4.out.since (chg_below HB5.out) (Nat.le_refl _), by rw [hlen1]; exact HR4.out.chg (chg_below HB5.out) HRS.out⟩
            case measure => simp [intOf]; omega
          · have hlb : (((row d q).length : Int) == (d.length : Int)) = false := by simpa using fun e => hl (by omega)
            clear hc
            go_wp2_with (at_builtin; refine wp_app _ rfl _ _ rfl w.heap.size _ _ _ rfl (HI4.out.alloc _) w4.heap.size 0 1 1 [x - 4] rfl rfl one_cell (by omega) (by simp; omega) ?_; intro v' w' hI' hB' _)
            have HI5 : Hid (IMem w.heap.size w'.heap.size w' v' (f ++ [x - 4])) := hI'
            have HB5 : Hid (Below w.heap.size w4 w') := (((Below.refl _ _).alloc hs4 _).trans hB')
            clear hI' hB'
            go_wp2
            go_roundw
            case rel => exact ⟨f ++ [x - 4], by rw [hlen1]; omega, by rw [hlen1]; go_num, HI5, HV.out.snoc (by omega) (by omega), HC4.out.since (chg_below HB5.out) (Nat.le_refl _), by rw [hlen1]; exact HR4.out.chg (chg_below HB5.out) HRS.out⟩
            case measure => simp [intOf]; omega
        · have hy00 : y = 0 := by omega
          subst hy00
          clear hc hy0 hy1 hy
          go_wp2_with (at_builtin; refine wp_app _ rfl _ _ rfl w.heap.size _ _ _ rfl (HI4.out.alloc _) w4.heap.size 0 1 1 [x - 4] rfl rfl one_cell (by omega) (by simp; omega) ?_; intro v' w' hI' hB' _)
          have HI5 : Hid (IMem w.heap.size w'.heap.size w' v' (f ++ [x - 4])) := hI'
          have HB5 : Hid (Below w.heap.size w4 w') := (((Below.refl _ _).alloc hs4 _).trans hB')
          clear hI' hB'
          go_wp2
          go_roundw
          case rel => exact ⟨f ++ [x - 4], by rw [hlen1]; omega, by rw [hlen1]; go_num, HI5, HV.out.snoc (by omega) (by omega), HC4.out.since (chg_below HB5.out) (Nat.le_refl _), by rw [hlen1]; exact HR4.out.chg (chg_below HB5.out) HRS.out⟩
          case measure => simp [intOf]; omega
      · have hd6 : d.length ≤ 6 := HD.out.six
        obtain ⟨ob, oc, rfl, o1, o2, o3, _, _, ohc, ohf⟩ := id HI.out.open
        have HO := Lib.hid <| odd_any R _ m _ HR.out (by omega) hn1 (by omega)
        go_wp2_with fail
        refine HO.out.mono ?_
        rintro e w5 ⟨t, rfl, hrd, hch⟩
        have HC5 := Lib.hid (HC.out.trans hch)
        have HI5 := Lib.hid ((HI.out.chg hch (Or.inr HRS.out)).top)
        have HR5 := Lib.hid hrd
        have hs5 : w.heap.size ≤ w5.heap.size := HC5.out.size
        clear hrd hch HO HI HC HR ohc ohf
        cases t
        · go_wp2
          go_ret
          exact ⟨_, f, rfl, HI5.out, by omega, HV.out, HR5.out.more (by omega), HC5.out⟩
        · by_cases hf0 : f.length = 0
          · have hfb : ((f.length : Int) == 0) = true := by simp [hf0]
            clear hf0
            go_wp2_with (at_builtin; refine wp_app _ rfl _ _ rfl w.heap.size _ _ _ rfl (HI5.out.alloc _) w5.heap.size 0 1 1 [1] rfl rfl one_cell (by omega) (by simp; omega) ?_; intro v' w' hI' hB' _)
            have HI6 : Hid (IMem w.heap.size w'.heap.size w' v' (f ++ [1])) := hI'
            have HB6 : Hid (Below w.heap.size w5 w') := (((Below.refl _ _).alloc hs5 _).trans hB')
            clear hI' hB'
            go_wp2
            go_ret
            exact ⟨_, f ++ [1], rfl, HI6.out, by simp; omega, HV.out.snoc (by omega) (by omega), (HR5.out.chg (chg_below HB6.out) HRS.out).more (by omega), HC5.out.since (chg_below HB6.out) (Nat.le_refl _)⟩
          · have hfb : ((f.length : Int) == 0) = false := by simpa using hf0
            have HP6 := Lib.hid <| pick_any R _ 2 _ HR5.out (by omega) (by omega) (by omega)
            go_wp2_with fail
            refine HP6.out.mono ?_
            rintro e w6 ⟨z, rfl, hz0, hz1, _, hrd, hch⟩
            have hz1 := hz1 (by omega)
            have HC6 := Lib.hid (HC5.out.trans hch)
            have HI6 := Lib.hid ((HI5.out.chg hch (Or.inr HRS.out)).top)
            have HR6 := Lib.hid hrd
            have hs6 : w.heap.size ≤ w6.heap.size := HC6.out.size
            clear hrd hch HP6 HI5 HC5 HR5
            have hz : z = 0 ∨ z = 1 := by omega
            clear hz0 hz1
            rcases hz with rfl | rfl
            · go_wp2_with (at_builtin; refine wp_app _ rfl _ _ rfl w.heap.size _ _ _ rfl (HI6.out.alloc _) w6.heap.size 0 1 1 [1] rfl rfl one_cell (by omega) (by simp; omega) ?_; intro v' w' hI' hB' _)
              have HI7 : Hid (IMem w.heap.size w'.heap.size w' v' (f ++ [1])) := hI'
              have HB7 : Hid (Below w.heap.size w6 w') := (((Below.refl _ _).alloc hs6 _).trans hB')
              clear hI' hB'
              go_wp2
              go_ret
              exact ⟨_, f ++ [1], rfl, HI7.out, by simp; omega, HV.out.snoc (by omega) (by omega), (HR6.out.chg (chg_below HB7.out) HRS.out).more (by omega), HC6.out.since (chg_below HB7.out) (Nat.le_refl _)⟩
            · obtain ⟨_, _, ho, _, _, _, _, _, ohc, ohf⟩ := id HI6.out.open
              injection ho with e1 e2 e3
              injection e1 with e1
              injection e1 with e1
              subst e1 e3
              have c1 := ohc 0 (by omega)
              have f1 := ohf 0
              have HS : Hid (IMem w.heap.size w6.heap.size (w6.setCell ⟨ob, 0, none⟩ (.int .i64 201)) (.slice (some ⟨ob, 0, none⟩) f.length oc) (f.set 0 201)) := HI6.out.set (by simp) 0 (by rw [iat_setD (by omega), if_pos rfl]) (fun j hj hne => by rw [iat_setD hj, if_neg (fun h => hne h.symm)])
              have HW : Hid (Below w.heap.size w6 (w6.setCell ⟨ob, 0, none⟩ (.int .i64 201))) := (Below.refl _ _).setCell (p := ⟨ob, 0, none⟩) o1 _
              have hfi : (0 : Int) < (f.length : Int) := by omega
              clear ohc ohf e2
              go_wp2
              go_ret
              exact ⟨_, f.set 0 201, rfl, HS.out.top, by simp; omega, HV.out.set 0 (by omega) (by omega), (HR6.out.chg (chg_below HW.out) HRS.out).more (by omega), HC6.out.since (chg_below HW.out) (Nat.le_refl _)⟩

end Go.Proofs.Ytapllhnlngnobaa
