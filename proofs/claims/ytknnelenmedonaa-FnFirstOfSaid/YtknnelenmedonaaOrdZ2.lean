/- What l7Orders returns. Conditions: as each theorem says. -/
import Derived.Test.YtknnelenmedonaaOrdZ
namespace Go.Proofs.Ytknnelenmedonaa
set_option linter.unusedVariables false
set_option linter.unusedSimpArgs false
open Go.RowKit Go.Deep

/-- What the search has seen: x among the first q numbers. -/
def SeenTo (l : List Int) (x : Int) (q : Nat) (t : Bool) : Prop := t = true ↔ ∃ i, i < q ∧ iat l i = x
theorem SeenTo.start (l : List Int) (x : Int) : SeenTo l x 0 false := ⟨fun h => by simp at h, fun ⟨i, hi, _⟩ => by omega⟩
theorem SeenTo.stay {l : List Int} {x : Int} {q : Nat} (h : SeenTo l x q true) : SeenTo l x (q + 1) true := ⟨fun _ => by
  obtain ⟨i, hi, e⟩ := h.1 rfl
  exact ⟨i, by omega, e⟩, fun _ => rfl⟩
theorem SeenTo.hit {l : List Int} {x : Int} {q : Nat} (e : iat l q = x) : SeenTo l x (q + 1) true := ⟨fun _ => ⟨q, by omega, e⟩, fun _ => rfl⟩
theorem SeenTo.miss {l : List Int} {x : Int} {q : Nat} (h : SeenTo l x q false) (e : iat l q ≠ x) : SeenTo l x (q + 1) false := ⟨fun h' => by simp at h', fun ⟨i, hi, ei⟩ => by
  by_cases hq : i = q
  · subst hq; exact absurd ei e
  · exact h.2 ⟨i, by omega, ei⟩⟩
theorem SeenTo.mem {l : List Int} {x : Int} {t : Bool} (h : SeenTo l x l.length t) : t = true ↔ x ∈ l := by
  rw [mem_iat]
  exact h

set_option maxHeartbeats 2000000 in
theorem l7Orders_any (n : Nat) (w : World) (h5 : n ≤ 5) : Calls Try.prog 60 #[.int .i64 n] w (GivesM (ordK n n) w) := by
  have HM0 := Lib.hid (MMem.oneEmpty w)
  have hB0 : Below w.heap.size w ((w.alloc (.cells #[] 3)).alloc (.cells #[.slice (some ⟨w.heap.size, 0, none⟩) 0 0] 22)) := ((Below.refl _ _).alloc (Nat.le_refl _) _).alloc (by simp) _
  have HB0 := Lib.hid hB0
  clear hB0
  go_enter Try.func60, Try.ntmps60
  go_wp2
  go_loopw [3, 4] (fun ov kv wr => ∃ k : Nat, k ≤ n ∧ kv = .int .i64 k ∧ Hid (MMem w.heap.size wr.heap.size wr ov (ordK n k)) ∧ Hid (Below w.heap.size w wr)) (fun _ kv _ => n - (intOf kv).toNat)
  case atStart => exact ⟨0, Nat.zero_le _, rfl, HM0.out.top, HB0.out⟩
  case round =>
    clear HM0 HB0
    obtain ⟨k, hk, rfl, HM, HB⟩ := hrel
    by_cases hklt : k < n
    · obtain ⟨wo, rfl⟩ : ∃ wo : World, wo = wr := ⟨_, rfl⟩
      have HLB := Lib.hid (ordK_bound (n := n) (k := k) h5 (by omega))
      have HRL : Hid (∀ j, j < (ordK n k).length → (row (ordK n k) j).length ≤ 5) := fun j hj => by
        have := ordK_len (row_mem hj)
        omega
      have hEq := ordK_next n k
      have HEQ := Lib.hid hEq
      clear hEq
      generalize ordK n k = L at *
      obtain ⟨ob, oc, BB, CC, rfl, _, _, _, _, hcap, hcell, hrow, -⟩ := id HM.out.open
      rw [maxLen_val] at hcap
      have hlb := HLB.out
      have HC := Lib.hid hcell
      have HR := Lib.hid fun i hi => (hrow i hi).2.2.2.2.2.2
      clear hcell hrow
      have hs := HB.out.size
      have HN0 : Hid (MMem wo.heap.size (wo.alloc (.cells #[] 22)).heap.size (wo.alloc (.cells #[] 22)) (.slice (some ⟨wo.heap.size, 0, none⟩) 0 0) (extL L n 0)) := (MMem.empty wo).widen (Nat.le_refl _) (by simp)
      have HW0 : Hid (Below wo.heap.size wo (wo.alloc (.cells #[] 22))) := (Below.refl _ _).alloc (Nat.le_refl _) _
      go_wp2
      go_loopw [5, 6] (fun nv jv wr => ∃ j : Nat, j ≤ L.length ∧ jv = .int .i64 j ∧ Hid (MMem wo.heap.size wr.heap.size wr nv (extL L n j)) ∧ Hid (Below wo.heap.size wo wr)) (fun _ jv _ => L.length - (intOf jv).toNat)
      case atStart => exact ⟨0, Nat.zero_le _, rfl, HN0, HW0⟩
      case round =>
        clear HN0 HW0
        obtain ⟨j, hj, rfl, HN, HW⟩ := hrel
        by_cases hjlt : j < L.length
        · have hn := HN.out
          rw [← List.append_nil (extL L n j)] at hn
          have HN0 := Lib.hid hn
          have hji : (j : Int) < (L.length : Int) := by omega
          clear HN hn
          go_wp2
          go_loopw [5, 7] (fun nv xv wr => ∃ x : Nat, x ≤ n ∧ xv = .int .i64 x ∧ Hid (MMem wo.heap.size wr.heap.size wr nv (extL L n j ++ extX (row L j) x)) ∧ Hid (Below wo.heap.size wo wr)) (fun _ xv _ => n - (intOf xv).toNat)
          case atStart => exact ⟨0, Nat.zero_le _, rfl, HN0, HW⟩
          case round =>
            clear HN0 HW
            obtain ⟨x, hx, rfl, HN, HW⟩ := hrel
            by_cases hxlt : x < n
            · obtain ⟨wx, rfl⟩ : ∃ wx : World, wx = wr := ⟨_, rfl⟩
              have HI := Lib.hid ((HR.out j hjlt).fresh HW.out)
              have hc1 := (HW.out.cell (p := ⟨ob, j, none⟩) (World.block_lt_of_cell? wo _ (HC.out j hjlt))).trans (HC.out j hjlt)
              have HC1 := Lib.hid hc1
              clear hc1
              have HS := Lib.hid (SeenTo.start (row L j) (x : Int))
              have hrl := HRL.out j hjlt
              go_wp2
              go_loopw [8, 9] (fun tv qv wr => ∃ (q : Nat) (t : Bool), q ≤ (row L j).length ∧ qv = .int .i64 q ∧ tv = .bool t ∧ Hid (SeenTo (row L j) x q t) ∧ Hid (Dr wx wr)) (fun _ qv _ => (row L j).length - (intOf qv).toNat)
              case atStart => exact ⟨0, false, Nat.zero_le _, rfl, rfl, HS, Dr.refl _⟩
              case round =>
                clear HS
                obtain ⟨q, t, hq, rfl, rfl, HS, HD⟩ := hrel
                have c1 := (HD.out.cell _).trans HC1.out
                by_cases hqlt : q < (row L j).length
                · have hqi : (q : Int) < ((row L j).length : Int) := by omega
                  cases t
                  · have c2 := (HI.out.dr HD.out).cellAt hqlt
                    by_cases he : iat (row L j) q = (x : Int)
                    · have heb : (iat (row L j) q == (x : Int)) = true := by simpa using he
                      have HS2 := Lib.hid (SeenTo.hit (l := row L j) he)
                      clear he
                      go_wp2
                      go_roundw
                      case rel => exact ⟨q + 1, true, by omega, by go_num, rfl, HS2, HD⟩
                      case measure => simp [intOf]; omega
                    · have heb : (iat (row L j) q == (x : Int)) = false := by simpa using he
                      have HS2 := Lib.hid (HS.out.miss he)
                      clear he
                      go_wp2
                      go_roundw
                      case rel => exact ⟨q + 1, false, by omega, by go_num, rfl, HS2, HD⟩
                      case measure => simp [intOf]; omega
                  · go_wp2
                    go_roundw
                    case rel => exact ⟨q + 1, true, by omega, by go_num, rfl, HS.out.stay, HD⟩
                    case measure => simp [intOf]; omega
                · have hqe : q = (row L j).length := by omega
                  subst hqe
                  have HN2 := Lib.hid (HN.out.dr HD.out).top
                  have HW2 : Hid (Below wo.heap.size wo wr) := HW.out.trans (HD.out.below _)
                  have HI2 := Lib.hid (HI.out.dr HD.out)
                  have hs3 := HW2.out.size
                  have hll := extN_len h5 hlb hjlt (show x ≤ n by omega)
                  cases t
                  · have hin : (x : Int) ∉ row L j := fun h => by
                      have := HS.out.mem.2 h
                      simp at this
                    have HX := Lib.hid (extX_yes hin)
                    clear hin HS HN HW HI HD HC1
                    have c1' : (wr.alloc (.cells #[] 3)).cell? ⟨ob, j, none⟩ = some (.slice (some ⟨BB j, 0, none⟩) (row L j).length (CC j)) := (World.cell?_alloc_lt wr _ ⟨ob, j, none⟩ (World.block_lt_of_cell? wr _ c1)).trans c1
                    go_wp2_with (first
                      | (at_builtin; refine wp_app _ rfl _ _ rfl wr.heap.size (wr.heap.size + 1) _ [] rfl (IMem.empty _) (BB j) 0 (row L j).length _ (row L j) rfl rfl (row_cells HI2.out rfl _) (by simp; omega) (by simp) ?_; intro v4 w4 hI4 hB4 _; rw [List.nil_append] at hI4; have HI4 := Lib.hid hI4; have HB4 := Lib.hid (((Below.refl wr.heap.size wr).alloc (Nat.le_refl _) _).trans hB4); have hs4 := HB4.out.size; clear hI4 hB4)
                      | (at_builtin; refine wp_app _ rfl _ _ rfl wr.heap.size _ _ _ rfl (HI4.out.alloc _) w4.heap.size 0 1 1 [(x : Int)] rfl rfl one_cell (by omega) (by simp; omega) ?_; intro v5 w5 hI5 hB5 _; obtain ⟨rb, rc, rfl, -⟩ := id hI5.open; simp only [List.length_append, List.length_cons, List.length_nil, Nat.zero_add] at hI5; have HI5 := Lib.hid hI5; have HB5 := Lib.hid ((HB4.out.alloc hs4 _).trans hB5); have hs5 := HB5.out.size; have HN5 := Lib.hid (HN2.out.fresh HB5.out); clear hI5 hB5 HI4 HB4 hs4)
                      | (at_builtin; refine wp_appM _ rfl _ _ rfl wo.heap.size wr.heap.size _ _ _ _ (row L j ++ [(x : Int)]) rfl (HN5.out.alloc _) (HI5.out.alloc _) hs3 w5.heap.size 1 rfl new_cell (by omega) (by simp; omega) ?_; intro v6 w6 hI6 hB6; rw [List.append_assoc, ← HX.out] at hI6; have HN6 := Lib.hid hI6; have HW6 := Lib.hid (((below_chain HW2.out HB5.out).alloc (by omega) _).trans hB6); clear hI6 hB6 HI5 HB5 HN5 hs5))
                    clear c1 c1'
                    go_wp2
                    go_roundw
                    case rel => exact ⟨x + 1, by omega, by go_num, HN6, HW6⟩
                    case measure => simp [intOf]; omega
                  · have hin : (x : Int) ∈ row L j := HS.out.mem.1 rfl
                    have hxe := extX_no hin
                    rw [← hxe] at HN2
                    clear hin HS HN HW HI HD HC1 hxe
                    go_wp2
                    go_roundw
                    case rel => exact ⟨x + 1, by omega, by go_num, HN2, HW2⟩
                    case measure => simp [intOf]; omega
            · have hxe : x = n := by omega
              subst hxe
              go_wp2
              go_roundw
              case rel => exact ⟨j + 1, by omega, by go_num, HN, HW⟩
              case measure => simp [intOf]; omega
        · have hje : j = L.length := by omega
          subst hje
          rw [← HEQ.out] at HN
          have HN3 := Lib.hid (HN.out.widen hs (Nat.le_refl _))
          go_wp2
          go_roundw
          case rel => exact ⟨k + 1, by omega, by go_num, HN3, below_chain HB.out HW.out⟩
          case measure => simp [intOf]; omega
    · have hke : k = n := by omega
      subst hke
      go_wp2
      go_ret
      exact givesM_of (Below.refl _ _) HM.out HB.out

end Go.Proofs.Ytknnelenmedonaa
