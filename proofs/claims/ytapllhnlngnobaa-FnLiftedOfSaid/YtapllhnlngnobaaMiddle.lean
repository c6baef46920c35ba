/- What impl.arePoints, impl.MiddleOf and spec.MiddleOf return. Conditions: as each theorem says. -/
import Derived.Test.YtapllhnlngnobaaPoints
import Derived.Test.YtapllhnlngnobaaLift
import Derived.Deep.RegionHeld3
import Derived.Deep.AppendLies
import Derived.Laws.Pointers
import Derived.StillTactics
import Derived.OwnWalk
namespace Go.Proofs.Ytapllhnlngnobaa
set_option linter.unusedVariables false
set_option linter.unusedSimpArgs false
open Go.RowKit Go.Deep

structure MidOk (d : List (List Int)) (a b : Int) : Prop where
  sp : Space d
  two : 2 ≤ d.length
  pa : 0 ≤ a ∧ a < d.length
  pb : 0 ≤ b ∧ b < d.length
theorem allPt_two {d : List (List Int)} {a b : Int} : AllPt d [a, b] ↔ Pt d a ∧ Pt d b := by
  constructor
  · intro h
    exact ⟨h 0 (by simp), h 1 (by simp)⟩
  · rintro ⟨h1, h2⟩ i hi
    match i, hi with
    | 0, _ => exact h1
    | 1, _ => exact h2
def midF (d : List (List Int)) (a b : Nat) (x : Nat) : Int := (at2 d a x + at2 d b x + 1) / 2
noncomputable def midV (d : List (List Int)) (a b : Int) : List Int := if decP (MidOk d a b) then genL (midF d a.toNat b.toNat) d.length else []
theorem midV_yes {d : List (List Int)} {a b : Nat} (h : MidOk d a b) : midV d a b = genL (midF d a b) d.length := by simp [midV, decP_yes h]
theorem midV_no {d : List (List Int)} {a b : Int} (h : ¬ MidOk d a b) : midV d a b = [] := by simp [midV, decP_no h]
theorem midV_len (d : List (List Int)) (a b : Int) : (midV d a b).length ≤ 6 := by
  by_cases h : MidOk d a b
  · obtain ⟨p, rfl⟩ := Int.eq_ofNat_of_zero_le h.pa.1
    obtain ⟨q, rfl⟩ := Int.eq_ofNat_of_zero_le h.pb.1
    rw [midV_yes h, genL_length]; exact h.sp.six
  · rw [midV_no h]; exact Nat.zero_le _

theorem IMem.drew {lo hi : Nat} {w : World} {v : Value} {zs : List Int} (h : IMem lo hi w v zs) : IMem lo hi w.drew v zs := h

theorem one_cell_drew {w : World} {x : Int} {t : TypeId} : ∀ i, i < 1 → (w.alloc (.cells #[.int .i64 x] t)).drew.cell? ⟨w.heap.size, 0 + i, none⟩ = some (.int .i64 (iat [x] i)) := one_cell
theorem midF_bd {d : List (List Int)} (h : Space d) {p q k : Nat} (hp : p < d.length) (hq : q < d.length) (hk : k < d.length) : 0 ≤ midF d p q k ∧ midF d p q k ≤ 60 := by
  have a1 := (h.ent p k hp hk).1
  have a2 := (h.ent p k hp hk).2.1
  have a3 := (h.ent q k hq hk).1
  have a4 := (h.ent q k hq hk).2.1
  unfold midF
  omega
theorem midF_wrap {d : List (List Int)} (h : Space d) {p q k : Nat} (hp : p < d.length) (hq : q < d.length) (hk : k < d.length) : IntKind.i64.wrap ((at2 d p k + at2 d q k + 1).tdiv 2) = midF d p q k := by
  have a1 := (h.ent p k hp hk).1
  have a3 := (h.ent q k hq hk).1
  rw [Int.tdiv_eq_ediv_of_nonneg (by omega)]
  have := midF_bd h hp hq hk
  exact IntWalk.i64_in (midF d p q k) (by omega)

theorem step_app {ops : Array Oper} {o : Oper} {a : Act} {K : Act → World → Prop} {Q : Exit → Act → World → Prop} {E : Prop} (w : World) (hgd : o.guard = none) (s x : Operand)
    (ho : o.op = .call { callee := .builtin .append, args := #[s, x], argTypes := #[23, 23] })
    (lo hi : Nat) (v : Value) (zs : List Int) (hs : a.eval s = v) (hI : IMem lo hi w v zs) (b off m c : Nat) (ys : List Int) (hx : a.eval x = .slice (some ⟨b, off, none⟩) m c) (hm : ys.length = m)
    (hcell : ∀ i, i < m → w.cell? ⟨b, off + i, none⟩ = some (.int .i64 (iat ys i))) (hpos : 0 < m) (hbound : zs.length + m ≤ 1000000000) (hlo : lo ≤ w.heap.size)
    (h : ∀ g cap w', IMem lo w'.heap.size w' (.slice (some ⟨g, 0, none⟩) (zs.length + m) cap) (zs ++ ys) → Below lo w w' → K (a.put o.dst (.slice (some ⟨g, 0, none⟩) (zs.length + m) cap)) w') :
    if Region.wanted o (yielded ops a.tmps) = true then Oper.wp Try.prog o a w K Q else E := by
  obtain ⟨i0, hi0, hz0, hz1, hz2⟩ := info_parts info_int
  obtain ⟨hown, hne⟩ := hI.own
  subst hm
  have hadd : ∀ i, (⟨b, off, none⟩ : Addr).add i = ⟨b, off + i, none⟩ := by
    intro i
    unfold Addr.add
    split
    · simp_all
    · rfl
  refine step_append_lies w hgd s x 23 ho lo 3 i0 (.int .i64 0) 1 8 Try.underlying23 hi0 hz0 hz1 hz2 rfl (by decide) v zs.length (zs.map (Value.int .i64)) hs hown ⟨b, off, none⟩ ys.length c (ys.map (Value.int .i64)) hx (by simp) ?_ ?_ hpos (by rw [maxLen_val]; omega) (by omega) hlo _ rfl ?_
  · intro j u hu
    rw [hadd]
    by_cases hj : j < ys.length
    · rw [hcell j hj]
      simp [hj] at hu
      rw [← hu]
      simp [iat, hj]
    · simp [hj] at hu
  · intro u hu
    simp only [List.mem_map] at hu
    obtain ⟨n, _, rfl⟩ := hu
    rfl
  · intro g cap w' hown' hg _ _
    exact h g cap w' (IMem.of_own (by simpa using hown') (by simp)) (grown_below hg hlo fun k hk => (hown.lt k hk).1)

set_option maxHeartbeats 4000000 in
theorem implMiddleOf_any (lo hi : Nat) (v : Value) (d : List (List Int)) (a b : Int) (w : World) (hd : MMem lo hi w v d) :
    Calls Try.prog 38 #[v, .int .i64 a, .int .i64 b] w (GivesI (midV d a b) w) := by
  have cs : ∀ u w', Below w.heap.size w w' → IIn w' u [a, b] → Calls Try.prog 77 #[v, u] w' (Gives (.bool (decP (AllPt d [a, b]))) w') := fun u w' hb hp => arePoints_any lo hi v u d [a, b] w' (hd.fresh hb) hp
  have hb0 : Below w.heap.size w (w.alloc (.cells #[.int .i64 a, .int .i64 b] 3)) := (Below.refl _ _).alloc (Nat.le_refl _) _
  have call := cs _ _ hb0 (IMem.pair w a b).inn
  by_cases hP : AllPt d [a, b]
  · rw [decP_yes hP] at call
    obtain ⟨hpa, hpb⟩ := allPt_two.1 hP
    obtain ⟨p, rfl⟩ := Int.eq_ofNat_of_zero_le hpa.2.1
    obtain ⟨q, rfl⟩ := Int.eq_ofNat_of_zero_le hpb.2.1
    have hS := hpa.1
    have hp : p < d.length := by have := hpa.2.2; omega
    have hq : q < d.length := by have := hpb.2.2; omega
    obtain ⟨bb, cap, BB, CC, rfl, hO⟩ := hd.space hS
    have hsix := hS.six
    have HCS := Lib.hid <| call
    have HO := Lib.hid <| hO
    have HB0 := Lib.hid <| hb0
    by_cases h2 : 2 ≤ d.length
    · have HV := Lib.hid <| midV_yes (d := d) (a := p) (b := q) ⟨hS, h2, hpa.2, hpb.2⟩
      clear cs call hP hpa hpb hS hd hO hb0
      go_enter Try.func38, Try.ntmps38
      go_wp2_with fail
      refine HCS.out.mono ?_
      rintro e w1 ⟨rfl, hb1⟩
      have HB1 : Hid (Below w.heap.size w w1) := HB0.out.trans (hb1.mono HB0.out.size)
      have HO1 : Hid (SOpen w1 bb BB CC d) := HO.out.keep HB1.out
      clear hb1 HCS HB0
      go_wp2
      go_loopw [7, 23] (fun ov kv wr => ∃ k : Nat, k ≤ d.length ∧ kv = .int .i64 k ∧ Hid (IMem w1.heap.size wr.heap.size wr ov (genL (midF d p q) k)) ∧ Hid (Below w1.heap.size w1 wr)) (fun _ kv _ => d.length - (intOf kv).toNat)
      case atStart => exact ⟨0, Nat.zero_le _, rfl, (IMem.empty w1).top, (Below.refl _ _).alloc (Nat.le_refl _) _⟩
      case round =>
        obtain ⟨k, hk, rfl, HI, HB⟩ := hrel
        by_cases hklt : k < d.length
        · have HOr : Hid (SOpen wr bb BB CC d) := HO1.out.keep HB.out
          have c1 := HOr.out.top p hp
          have c2 := HOr.out.top q hq
          have c3 := HOr.out.cell p k hp hklt
          have c4 := HOr.out.cell q k hq hklt
          have b1 := HO.out.bd p k hp hklt
          have b2 := HO.out.bd q k hq hklt
          have hpi : (p : Int) < (d.length : Int) := by omega
          have hqi : (q : Int) < (d.length : Int) := by omega
          have hki : (k : Int) < (d.length : Int) := by omega
          have hs2 := HB.out.size
          have l1 : bb < w1.heap.size := HO1.out.blt
          have l2 : BB p < w1.heap.size := World.block_lt_of_cell? w1 _ (HO1.out.cell p k hp hklt)
          have l3 : BB q < w1.heap.size := World.block_lt_of_cell? w1 _ (HO1.out.cell q k hq hklt)
          have e1 : IntKind.i64.wrap (at2 d p k + at2 d q k) = at2 d p k + at2 d q k := IntWalk.i64_in _ (by omega)
          have e2 : IntKind.i64.wrap (at2 d p k + at2 d q k + 1) = at2 d p k + at2 d q k + 1 := IntWalk.i64_in _ (by omega)
          have e3 := midF_wrap HO.out.sp hp hq hklt
          go_wp2_with fail
          go_region_held3 (fun w' => w'.cell? ⟨bb, p, none⟩ = some (.slice (some ⟨BB p, 0, none⟩) d.length (CC p)) ∧ w'.cell? ⟨bb, q, none⟩ = some (.slice (some ⟨BB q, 0, none⟩) d.length (CC q)) ∧ w'.cell? ⟨BB p, k, none⟩ = some (.int .i64 (at2 d p k)) ∧ w'.cell? ⟨BB q, k, none⟩ = some (.int .i64 (at2 d q k)))
            (first
              | go_keep
              | (go_split_ands
                 refine ⟨?_, ?_, ?_, ?_⟩
                 · (rw [hB'.cell (p := ⟨bb, p, none⟩) l1]; simp [*])
                 · (rw [hB'.cell (p := ⟨bb, q, none⟩) l1]; simp [*])
                 · (rw [hB'.cell (p := ⟨BB p, k, none⟩) l2]; simp [*])
                 · (rw [hB'.cell (p := ⟨BB q, k, none⟩) l3]; simp [*])))
            ((refine step_app _ (by rfl) _ _ (by rfl) w1.heap.size _ _ _ (by rfl) ((HI.out.alloc _).drew) wr.heap.size 0 1 1 [midF d p q k] (by rfl) (by rfl) one_cell_drew (by omega) (by rw [genL_length]; omega) (by simp; omega) ?_; intro g gc w' hI' hB'))
          rw [← genL_succ] at hI'
          have HI3 : Hid (IMem w1.heap.size w'.heap.size w' (.slice (some ⟨g, 0, none⟩) ((genL (midF d p q) k).length + 1) gc) (genL (midF d p q) (k + 1))) := hI'
          have HB3 : Hid (Below w1.heap.size w1 w') := (((HB.out.alloc hs2 _).drew).trans hB')
          clear hI' hB' e1 e2 e3 c1 c2 c3 c4
          go_wp2
          go_roundw
          case rel => exact ⟨k + 1, by omega, by go_num, HI3, HB3⟩
          case measure => simp [intOf]; omega
        · have hke : k = d.length := by omega
          subst hke
          go_wp2
          go_ret
          rw [HV.out]
          exact givesI_of HB1.out HI.out HB.out
    · have HV := Lib.hid <| midV_no (d := d) (a := p) (b := q) fun h => h2 h.two
      clear cs call hP hpa hpb hS hd hO hb0
      go_enter Try.func38, Try.ntmps38
      go_wp2_with fail
      refine HCS.out.mono ?_
      rintro e w1 ⟨rfl, hb1⟩
      have HB1 : Hid (Below w.heap.size w w1) := HB0.out.trans (hb1.mono HB0.out.size)
      clear hb1 HCS HB0
      go_wp2
      go_ret
      rw [HV.out]
      exact givesI_nil HB1.out
  · rw [decP_no hP] at call
    have HV := Lib.hid <| midV_no (d := d) (a := a) (b := b) fun h => hP (allPt_two.2 ⟨⟨h.sp, h.pa.1, h.pa.2⟩, ⟨h.sp, h.pb.1, h.pb.2⟩⟩)
    obtain ⟨bb, cap, _, _, rfl, _⟩ := hd.open
    have HCS := Lib.hid <| call
    have HB0 := Lib.hid <| hb0
    clear cs call hP hd hb0
    go_enter Try.func38, Try.ntmps38
    go_wp2_with fail
    refine HCS.out.mono ?_
    rintro e w1 ⟨rfl, hb1⟩
    have HB1 : Hid (Below w.heap.size w w1) := HB0.out.trans (hb1.mono HB0.out.size)
    clear hb1 HCS HB0
    go_wp2
    go_ret
    rw [HV.out]
    exact givesI_nil HB1.out

set_option maxHeartbeats 4000000 in
theorem specMiddleOf_any (lo hi : Nat) (v : Value) (d : List (List Int)) (a b : Int) (w : World) (hd : MMem lo hi w v d) :
    Calls Try.prog 39 #[v, .int .i64 a, .int .i64 b] w (GivesI (midV d a b) w) := by
  have hb0 : Below w.heap.size w (w.alloc (.cells #[] 3)) := (Below.refl _ _).alloc (Nat.le_refl _) _
  have cs := specSpaceOk_any lo hi v d _ (hd.fresh hb0)
  by_cases hS : Space d
  · rw [decP_yes hS] at cs
    obtain ⟨bb, cap, BB, CC, rfl, hO⟩ := hd.space hS
    have hsix := hS.six
    have HCS := Lib.hid <| cs
    have HO := Lib.hid <| hO
    have HB0 := Lib.hid <| hb0
    by_cases h2 : 2 ≤ d.length
    · by_cases ha : 0 ≤ a ∧ a ≤ (d.length : Int) - 1
      · by_cases hb : 0 ≤ b ∧ b ≤ (d.length : Int) - 1
        · obtain ⟨p, rfl⟩ := Int.eq_ofNat_of_zero_le ha.1
          obtain ⟨q, rfl⟩ := Int.eq_ofNat_of_zero_le hb.1
          have hp : p < d.length := by omega
          have hq : q < d.length := by omega
          have HV := Lib.hid <| midV_yes (d := d) (a := p) (b := q) ⟨hS, h2, ⟨ha.1, by omega⟩, ⟨hb.1, by omega⟩⟩
          have HA := Lib.hid <| ha
          have HBB := Lib.hid <| hb
          clear cs hS hd hO hb0 ha hb
          go_enter Try.func39, Try.ntmps39
          go_wp2_with fail
          refine (HCS.out).mono ?_
          rintro e w1 ⟨rfl, hd_w1⟩
          have HW1 : Hid (Dr _ w1) := hd_w1
          clear hd_w1
          go_wp2_with fail
          refine (l1In_yes _ _ _ _ HA.out.1 HA.out.2).mono ?_
          rintro e w2 ⟨rfl, hd_w2⟩
          have HW2 : Hid (Dr _ w2) := HW1.out.trans hd_w2
          clear hd_w2 HW1
          go_wp2_with fail
          refine (l1In_yes _ _ _ _ HBB.out.1 HBB.out.2).mono ?_
          rintro e w3 ⟨rfl, hd_w3⟩
          have HW3 : Hid (Dr _ w3) := HW2.out.trans hd_w3
          clear hd_w3 HW2
          have HB1 : Hid (Below w.heap.size w w3) := HB0.out.trans (HW3.out.below _)
          have HO1 : Hid (SOpen w3 bb BB CC d) := HO.out.keep HB1.out
          have HI1 : Hid (IMem w.heap.size w3.heap.size w3 (.slice (some ⟨w.heap.size, 0, none⟩) 0 0) (genL (midF d p q) 0)) := ((IMem.empty w).dr HW3.out).top
          clear HCS HB0
          go_wp2
          go_loopw [7, 8] (fun ov kv wr => ∃ k : Nat, k ≤ d.length ∧ kv = .int .i64 k ∧ Hid (IMem w.heap.size wr.heap.size wr ov (genL (midF d p q) k)) ∧ Hid (Below w.heap.size w wr)) (fun _ kv _ => d.length - (intOf kv).toNat)
          case atStart => exact ⟨0, Nat.zero_le _, rfl, HI1, HB1⟩
          case round =>
            clear HI1
            obtain ⟨k, hk, rfl, HI, HB⟩ := hrel
            by_cases hklt : k < d.length
            · have HOr : Hid (SOpen wr bb BB CC d) := HO.out.keep HB.out
              have c1 := HOr.out.top p hp
              have c2 := HOr.out.top q hq
              have c3 := HOr.out.cell p k hp hklt
              have c4 := HOr.out.cell q k hq hklt
              have b1 := HO.out.bd p k hp hklt
              have b2 := HO.out.bd q k hq hklt
              have hpi : (p : Int) < (d.length : Int) := by omega
              have hqi : (q : Int) < (d.length : Int) := by omega
              have hki : (k : Int) < (d.length : Int) := by omega
              have hs2 := HB.out.size
              have l1 : bb < w.heap.size := HO.out.blt
              have l2 : BB p < w.heap.size := World.block_lt_of_cell? w _ (HO.out.cell p k hp hklt)
              have l3 : BB q < w.heap.size := World.block_lt_of_cell? w _ (HO.out.cell q k hq hklt)
              have e1 : IntKind.i64.wrap (at2 d p k + at2 d q k) = at2 d p k + at2 d q k := IntWalk.i64_in _ (by omega)
              have e2 : IntKind.i64.wrap (at2 d p k + at2 d q k + 1) = at2 d p k + at2 d q k + 1 := IntWalk.i64_in _ (by omega)
              have e3 := midF_wrap HO.out.sp hp hq hklt
              go_wp2_with fail
              go_region_held3 (fun w' => w'.cell? ⟨bb, p, none⟩ = some (.slice (some ⟨BB p, 0, none⟩) d.length (CC p)) ∧ w'.cell? ⟨bb, q, none⟩ = some (.slice (some ⟨BB q, 0, none⟩) d.length (CC q)) ∧ w'.cell? ⟨BB p, k, none⟩ = some (.int .i64 (at2 d p k)) ∧ w'.cell? ⟨BB q, k, none⟩ = some (.int .i64 (at2 d q k)))
                (first
                  | go_keep
                  | (go_split_ands
                     refine ⟨?_, ?_, ?_, ?_⟩
                     · (rw [hB'.cell (p := ⟨bb, p, none⟩) l1]; simp [*])
                     · (rw [hB'.cell (p := ⟨bb, q, none⟩) l1]; simp [*])
                     · (rw [hB'.cell (p := ⟨BB p, k, none⟩) l2]; simp [*])
                     · (rw [hB'.cell (p := ⟨BB q, k, none⟩) l3]; simp [*])))
                ((refine step_app _ (by rfl) _ _ (by rfl) w.heap.size _ _ _ (by rfl) ((HI.out.alloc _).drew) wr.heap.size 0 1 1 [midF d p q k] (by rfl) (by rfl) one_cell_drew (by omega) (by rw [genL_length]; omega) (by simp; omega) ?_; intro g gc w' hI' hB'))
              rw [← genL_succ] at hI'
              have HI3 : Hid (IMem w.heap.size w'.heap.size w' (.slice (some ⟨g, 0, none⟩) ((genL (midF d p q) k).length + 1) gc) (genL (midF d p q) (k + 1))) := hI'
              have HB3 : Hid (Below w.heap.size w w') := (((HB.out.alloc hs2 _).drew).trans hB')
              clear hI' hB' e1 e2 e3 c1 c2 c3 c4
              go_wp2
              go_roundw
              case rel => exact ⟨k + 1, by omega, by go_num, HI3, HB3⟩
              case measure => simp [intOf]; omega
            · have hke : k = d.length := by omega
              subst hke
              go_wp2
              go_ret
              rw [HV.out]
              exact givesI_of (Below.refl _ _) HI.out HB.out
        · obtain ⟨p, rfl⟩ := Int.eq_ofNat_of_zero_le ha.1
          have HV := Lib.hid <| midV_no (d := d) (a := p) (b := b) fun h => hb ⟨h.pb.1, by have := h.pb.2; omega⟩
          have HA := Lib.hid <| ha
          have HBB := Lib.hid <| hb
          clear cs hS hd hO hb0 ha hb
          go_enter Try.func39, Try.ntmps39
          go_wp2_with fail
          refine (HCS.out).mono ?_
          rintro e w1 ⟨rfl, hd_w1⟩
          have HW1 : Hid (Dr _ w1) := hd_w1
          clear hd_w1
          go_wp2_with fail
          refine (l1In_yes _ _ _ _ HA.out.1 HA.out.2).mono ?_
          rintro e w2 ⟨rfl, hd_w2⟩
          have HW2 : Hid (Dr _ w2) := HW1.out.trans hd_w2
          clear hd_w2 HW1
          go_wp2_with fail
          refine (l1In_no _ _ _ _ HBB.out).mono ?_
          rintro e w3 ⟨rfl, hd_w3⟩
          have HW3 : Hid (Dr _ w3) := HW2.out.trans hd_w3
          clear hd_w3 HW2
          go_wp2
          go_ret
          rw [HV.out]
          exact givesI_of (Below.refl _ _) ((IMem.empty w).dr HW3.out) (HB0.out.trans (HW3.out.below _))
      · have HV := Lib.hid <| midV_no (d := d) (a := a) (b := b) fun h => ha ⟨h.pa.1, by have := h.pa.2; omega⟩
        have HA := Lib.hid <| ha
        clear cs hS hd hO hb0 ha
        go_enter Try.func39, Try.ntmps39
        go_wp2_with fail
        refine (HCS.out).mono ?_
        rintro e w1 ⟨rfl, hd_w1⟩
        have HW1 : Hid (Dr _ w1) := hd_w1
        clear hd_w1
        go_wp2_with fail
        refine (l1In_no _ _ _ _ HA.out).mono ?_
        rintro e w2 ⟨rfl, hd_w2⟩
        have HW2 : Hid (Dr _ w2) := HW1.out.trans hd_w2
        clear hd_w2 HW1
        go_wp2
        go_ret
        rw [HV.out]
        exact givesI_of (Below.refl _ _) ((IMem.empty w).dr HW2.out) (HB0.out.trans (HW2.out.below _))
    · have HV := Lib.hid <| midV_no (d := d) (a := a) (b := b) fun h => h2 h.two
      clear cs hS hd hO hb0
      go_enter Try.func39, Try.ntmps39
      go_wp2_with fail
      refine (HCS.out).mono ?_
      rintro e w1 ⟨rfl, hd_w1⟩
      have HW1 : Hid (Dr _ w1) := hd_w1
      clear hd_w1
      go_wp2
      go_ret
      rw [HV.out]
      exact givesI_of (Below.refl _ _) ((IMem.empty w).dr HW1.out) (HB0.out.trans (HW1.out.below _))
  · rw [decP_no hS] at cs
    have HCS := Lib.hid <| cs
    have HB0 := Lib.hid <| hb0
    have HV := Lib.hid <| midV_no (d := d) (a := a) (b := b) fun h => hS h.sp
    obtain ⟨bb, cap, _, _, rfl, _⟩ := hd.open
    clear cs hS hd hb0
    go_enter Try.func39, Try.ntmps39
    go_wp2_with fail
    refine (HCS.out).mono ?_
    rintro e w1 ⟨rfl, hd_w1⟩
    have HW1 : Hid (Dr _ w1) := hd_w1
    clear hd_w1
    go_wp2
    go_ret
    rw [HV.out]
    exact givesI_of (Below.refl _ _) ((IMem.empty w).dr HW1.out) (HB0.out.trans (HW1.out.below _))

end Go.Proofs.Ytapllhnlngnobaa
