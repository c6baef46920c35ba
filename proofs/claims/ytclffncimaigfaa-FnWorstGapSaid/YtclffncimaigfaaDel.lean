/- What slices.Delete does with one number of a row. Conditions: as each theorem says. -/
import Derived.Test.YtclffncimaigfaaDrawU
import Derived.Laws.IdiomCopy
import Derived.Deep.RegionLaw
namespace Go.Proofs.Ytclffncimaigfaa
set_option linter.unusedVariables false
set_option linter.unusedSimpArgs false
open Go.RowKit Go.Deep

/-- The place of the i-th that is left when p goes. -/
def sk (p i : Nat) : Nat := if i < p then i else i + 1
theorem sk_lt {p i n : Nat} (hi : i < n - 1) : sk p i < n := by unfold sk; split <;> omega
theorem IMem.cut {lo hi b n cap k : Nat} {w : World} {zs : List Int} (h : IMem lo hi w (.slice (some ⟨b, 0, none⟩) n cap) zs) (hk : k ≤ zs.length) : IMem lo hi w (.slice (some ⟨b, 0, none⟩) k cap) (zs.take k) := by
  obtain ⟨b', cap', cur, hv, h1, h2, h3, h4, h5, h6, h7⟩ := h
  injection hv with e1 e2 e3
  injection e1 with e1
  injection e1 with e1
  subst e1 e3
  refine ⟨b, cap, cur, by simp [hk], h1, h2, by simp; omega, h4, h5, h6, fun i hi => ?_⟩
  have hik : i < k := by simp at hi; omega
  rw [h7 i (by omega)]
  simp [iat, List.getElem?_take, hik]
theorem IMem.setMany {lo hi b n cap : Nat} : ∀ (ys : List Int) (zs : List Int) (o : Nat) (w : World), IMem lo hi w (.slice (some ⟨b, 0, none⟩) n cap) zs → o + ys.length ≤ zs.length →
    ∃ L, L.length = zs.length ∧ (∀ i, i < zs.length → iat L i = if o ≤ i ∧ i < o + ys.length then iat ys (i - o) else iat zs i) ∧ IMem lo hi (w.setCells b o (ys.map (Value.int .i64))) (.slice (some ⟨b, 0, none⟩) n cap) L := by
  intro ys
  induction ys with
  | nil => intro zs o w h _; exact ⟨zs, rfl, fun i hi => by rw [if_neg (fun h => by simp at h; omega)], h⟩
  | cons y r ih =>
    intro zs o w h ho
    have ho' : o < zs.length := by simp at ho; omega
    have h1 : IMem lo hi (w.setCell ⟨b, o, none⟩ (.int .i64 y)) (.slice (some ⟨b, 0, none⟩) n cap) (zs.set o y) := h.set (by simp) o (by rw [iat_set ho', if_pos rfl]) (fun j hj hne => by rw [iat_set hj, if_neg (fun e => hne e.symm)])
    obtain ⟨L, l1, l2, l3⟩ := ih (zs.set o y) (o + 1) _ h1 (by simp at ho ⊢; omega)
    refine ⟨L, by rw [l1]; simp, fun i hi => ?_, l3⟩
    rw [l2 i (by simpa using hi), iat_set hi]
    by_cases e : i = o
    · subst e
      have n1 : ¬ (i + 1 ≤ i ∧ i < i + 1 + r.length) := by omega
      have n2 : i ≤ i ∧ i < i + (y :: r).length := ⟨Nat.le_refl _, by simp⟩
      rw [if_neg n1, if_pos rfl, if_pos n2, Nat.sub_self]
      rfl
    · have n0 : ¬ o = i := fun h => e h.symm
      rw [if_neg n0]
      by_cases e2 : o ≤ i ∧ i < o + (y :: r).length
      · have n1 : o + 1 ≤ i ∧ i < o + 1 + r.length := by
          have := e2.2
          rw [List.length_cons] at this
          omega
        have e3 : i - o = (i - (o + 1)) + 1 := by omega
        rw [if_pos n1, if_pos e2, e3]
        rfl
      · have n1 : ¬ (o + 1 ≤ i ∧ i < o + 1 + r.length) := by
          rw [List.length_cons] at e2
          omega
        rw [if_neg n1, if_neg e2]
theorem chg_setCells (b : Nat) : ∀ (vs : List Value) (o : Nat) (w : World), Chg b (b + 1) w (w.setCells b o vs)
  | [], _, w => Chg.refl _ _ w
  | v :: r, o, w => ((Chg.refl _ _ w).setCell (p := ⟨b, o, none⟩) (Nat.le_refl _) (Nat.lt_succ_self _) v).trans (chg_setCells b r (o + 1) _)
theorem zero_int (w : World) : (zeroValue 3).run Try.prog w = .ok (.int .i64 0) w := by kernel_rfl

/-- What Delete leaves. -/
def DeldP (lo hi b n cap p : Nat) (zs : List Int) (w : World) (e : Ending) (w' : World) : Prop :=
  e = .returned (.slice (some ⟨b, 0, none⟩) (n - 1) cap) ∧ (∃ L, L.length = n - 1 ∧ (∀ i, i < n - 1 → iat L i = iat zs (sk p i)) ∧ IMem lo hi w' (.slice (some ⟨b, 0, none⟩) (n - 1) cap) L) ∧ Chg b (b + 1) w w'

set_option maxHeartbeats 4000000 in
set_option maxRecDepth 1000000 in
theorem delete_any (lo hi b n cap p j : Nat) (zs : List Int) (w : World) (hM : IMem lo hi w (.slice (some ⟨b, 0, none⟩) n cap) zs) (hz : zs.length = n) (hp : p < n) (hj : j = p + 1) (h6 : n ≤ 7) :
    Calls Try.prog 69 #[.slice (some ⟨b, 0, none⟩) n cap, .int .i64 p, .int .i64 j] w (DeldP lo hi b n cap p zs w) := by
  obtain ⟨i0, hi0, hz0, hz1, hz2⟩ := info_parts info_int
  have hcap : n ≤ cap ∧ cap ≤ 9223372036854775807 := by
    obtain ⟨b', cap', cur, hv, _, _, h3, h4, _⟩ := id hM
    injection hv with _ e2 e3
    rw [maxLen_val] at h4
    subst e3
    omega
  obtain ⟨hc1, hc2⟩ := hcap
  obtain ⟨news, hnews⟩ : ∃ news, news = (zs.drop j).map (Value.int .i64) := ⟨_, rfl⟩
  have hlen : news.length = n - j := by rw [hnews]; simp [hz]
  have hget : ∀ t, t < n - j → news[t]? = some (.int .i64 (iat zs (j + t))) := by
    intro t ht
    rw [hnews, List.getElem?_map, List.getElem?_drop]
    simp [iat, show j + t < zs.length by omega]
  obtain ⟨A, hA, hsrc⟩ : ∃ A : Addr, (if cap = j then some (⟨b, 0, none⟩ : Addr) else some ⟨b, j, none⟩) = some A ∧ Hid (∀ t u, news[t]? = some u → w.drew.cell? (A.add t) = some u) := by
    by_cases h : cap = j
    · refine ⟨⟨b, 0, none⟩, by simp [h], fun t u hu => ?_⟩
      have h0 : news.length = 0 := by rw [hlen]; omega
      rw [List.length_eq_zero_iff.1 h0] at hu
      simp at hu
    · refine ⟨⟨b, j, none⟩, by simp [h], fun t u hu => ?_⟩
      have ht : t < n - j := by
        have := (List.getElem?_eq_some_iff.1 hu).1
        rwa [hlen] at this
      rw [hget t ht] at hu
      rw [Addr.add_lit]
      exact (hM.cellAt (by omega)).trans hu
  have s1 : Hid (news.length = (n - j) * 1) := by rw [Nat.mul_one]; exact hlen
  have s2 : Hid (∀ u ∈ news, u.oneCell' = true) := by
    intro u hu
    rw [hnews] at hu
    obtain ⟨x, _, rfl⟩ := List.mem_map.1 hu
    rfl
  have s3 : Hid (∀ t, t < news.length → (w.drew.cell? ⟨b, 0 + p * 1 + t, none⟩).isSome = true ∧ w.drew.frozen? ⟨b, 0 + p * 1 + t, none⟩ = false) := by
    intro t ht
    rw [hlen] at ht
    rw [Nat.mul_one, Nat.zero_add]
    have h1 : w.drew.cell? ⟨b, p + t, none⟩ = _ := hM.cellAt (i := p + t) (by omega)
    have h2 : w.drew.frozen? ⟨b, p + t, none⟩ = false := hM.frozenAt (p + t)
    exact ⟨by rw [h1]; rfl, h2⟩
  obtain ⟨W1, hW1⟩ : ∃ W1, W1 = w.drew.setCells b (0 + p * 1) news := ⟨_, rfl⟩
  obtain ⟨L1, l1, l2, l3⟩ := IMem.setMany (zs.drop j) zs p w.drew hM (by simp; omega)
  rw [← hnews] at l3
  have l3 : IMem lo hi W1 (.slice (some ⟨b, 0, none⟩) n cap) L1 := by rw [hW1, Nat.mul_one, Nat.zero_add]; exact l3
  have hcl : ∀ ty, (Builtin.clear_ #[37] ty #[.slice (some ⟨b, p + (n - j), none⟩) (n - (p + (n - j))) (cap - (p + (n - j)))]).run Try.prog W1 = .ok (.tuple #[]) (W1.setCells b (p + (n - j)) (List.replicate (n - (p + (n - j))) (.int .i64 0))) :=
    fun ty => Lib.run_clear_slice W1 _ _ ty _ Try.underlying37 zero_int rfl rfl b (p + (n - j)) _ _ (by omega) (fun t ht => by rw [l3.cellAt (by omega)]; rfl) (fun t ht => l3.frozenAt _)
  obtain ⟨L2, m1, m2, m3⟩ := IMem.setMany (List.replicate (n - (p + (n - j))) 0) L1 (p + (n - j)) W1 l3 (by simp; omega)
  rw [List.map_replicate] at m3
  have HF : Hid (DeldP lo hi b n cap p zs w (.returned (.slice (some ⟨b, 0, none⟩) (n - 1) cap)) (W1.setCells b (p + (n - j)) (List.replicate (n - (p + (n - j))) (.int .i64 0)))) := by
    refine ⟨rfl, ⟨L2.take (n - 1), by simp; omega, fun i hi => ?_, m3.cut (by omega)⟩, ?_⟩
    · have e1 : iat (L2.take (n - 1)) i = iat L2 i := by simp [iat, List.getElem?_take, hi]
      rw [e1, m2 i (by omega), if_neg (by simp; omega), l2 i (by omega)]
      unfold sk
      by_cases e : i < p
      · rw [if_neg (by omega), if_pos e]
      · rw [if_pos (by simp; omega), if_neg e]
        have : iat (zs.drop j) (i - p) = iat zs (j + (i - p)) := by simp [iat, List.getElem?_drop]
        rw [this]
        congr 1
        omega
    · rw [hW1]
      exact ((Dr.chg (⟨1, rfl⟩ : Dr w w.drew)).trans (chg_setCells b news _ _)).trans (chg_setCells b _ _ _)
  have hW : Hid (W1 = w.drew.setCells b (0 + p * 1) news) := hW1
  have hpc : p ≤ cap := by omega
  have hjc : j ≤ cap := by omega
  have hjn : j ≤ n := by omega
  have hpj : ((p : Int) == (j : Int)) = false := by simp; omega
  have hpj2 : p ≤ j := by omega
  have hni : n - 1 = p + (n - j) := by omega
  have hnp : ¬ n = p := by omega
  have hpn : p < n := hp
  clear hW1 hM hget hnews hlen l1 l2 l3 m1 m2 m3 hj hp hz
  go_enter Try.func69, Try.ntmps69
  go_wp2_with fail
  go_region_law (refine step_append_room rfl (.tmp 22) (.tmp 25) 37 rfl 3 i0 1 Try.underlying37 hi0 hz1 b 0 p cap (by simp [Act.eval, Act.put]) A (n - j) (cap - j) news (by simp [Act.eval, Act.put]) s1.out hsrc.out s2.out (by omega) s3.out ?_; rw [← hW.out])
  go_wp2
  go_ret
  rw [← hni] at HF ⊢
  exact HF.out

end Go.Proofs.Ytclffncimaigfaa
