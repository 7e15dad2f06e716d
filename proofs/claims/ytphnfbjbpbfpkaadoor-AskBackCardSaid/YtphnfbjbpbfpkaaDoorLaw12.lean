/- The law's own functions: few, Plain, Same. -/
import Derived.Test.YtphnfbjbpbfpkaaDoorAskB
import Derived.Test.YtphnfbjbpbfpkaaDoorBodyE
namespace Go.Proofs.YtphnfbjbpbfpkaaDoor
open Go.RowKit
set_option maxRecDepth 100000

section
variable (w : World)
set_option maxHeartbeats 1000000 in
theorem few_calls (a : Ask) (c : Value) (hc : Ints w c a.curve) : Calls Tryd.prog 6 #[.agg (a.cells c)] w fun e w' => e = .returned (.bool (fewB a)) ∧ Ext w w' := by
  obtain ⟨A, cap, rfl, _⟩ := SlAt.form hc
  go_enter Tryd.func6, Tryd.ntmps6
  go_wp2
  all_goals
    go_ret
    refine ⟨?_, (Ext.refl _).alloc _⟩
    simp_all [fewB]
    try first
      | omega
      | (rw [Bool.eq_iff_iff]; simp; omega)

theorem plain_calls (a : Ask) (c : Value) (hc : Ints w c a.curve) : Calls Tryd.prog 11 #[.agg (a.cells c)] w fun e w' => e = .returned (.agg (a.cells c)) ∧ Ext w w' := by
  obtain ⟨A, cap, rfl, _⟩ := SlAt.form hc
  go_enter Tryd.func11, Tryd.ntmps11
  go_wp2
  refine bodyPost_ret (v := .agg (a.cells (.slice A a.curve.length cap))) (by simp [results, Tryd.results11, go_sem]) rfl ⟨rfl, ?_⟩
  exact ((Ext.refl _).alloc _).alloc _

set_option maxHeartbeats 1000000 in
theorem same03_calls (v1 v2 : Value) (l1 l2 : List Int) (h1 : Ints w v1 l1) (h2 : Ints w v2 l2) (hb : l1.length ≤ 70368744177664) : Calls Tryd.prog 24 #[v1, v2] w fun e w' => e = .returned (.bool (decide (l1 = l2))) ∧ Ext w w' := by
  obtain ⟨A, cap, rfl, _⟩ := SlAt.form h1
  obtain ⟨B, cap2, rfl, _⟩ := SlAt.form h2
  by_cases hl : l1.length = l2.length
  · have k0 : ((l1.length : Int) != (l2.length : Int)) = false := by rw [hl, bne_self_eq_false]
    go_enter Tryd.func24, Tryd.ntmps24
    go_wp2
    go_loopw [5] (fun i wr => ∃ k : Nat, k ≤ l1.length ∧ i = .int .i64 k ∧ Ext w wr ∧ Hid (l1.take k = l2.take k)) (fun i _ => l1.length - (intOf i).toNat)
    case atStart => exact ⟨0, by omega, rfl, Ext.refl _, Lib.hid rfl⟩
    case round =>
      obtain ⟨k, hk, rfl, hx, ht⟩ := hrel
      by_cases hlt : k < l1.length
      · obtain ⟨b, off, c', hA, hb1, hc1⟩ := (Ints.ext h1 hx).at_ hlt
        obtain ⟨rfl, rfl⟩ : A = some ⟨b, off, none⟩ ∧ cap = c' := by injection hA with h1 _ h2; exact ⟨h1, h2⟩
        obtain ⟨b2, off2, c2', hB, hb2, hc2⟩ := (Ints.ext h2 hx).at_ (show k < l2.length by omega)
        obtain ⟨rfl, rfl⟩ : B = some ⟨b2, off2, none⟩ ∧ cap2 = c2' := by injection hB with h1 _ h2; exact ⟨h1, h2⟩
        clear hA hB
        have g1 := drop_getD hlt
        have HT1 := Lib.hid (show l1.take (k + 1) = l1.take k ++ [l1.getD k 0] by rw [List.take_succ_eq_append_getElem hlt]; simp [List.getD_eq_getElem?_getD, List.getElem?_eq_getElem hlt])
        have HT2 := Lib.hid (show l2.take (k + 1) = l2.take k ++ [l2.getD k 0] by rw [List.take_succ_eq_append_getElem (show k < l2.length by omega)]; simp [List.getD_eq_getElem?_getD, List.getElem?_eq_getElem (show k < l2.length by omega)])
        have HN := Lib.hid (show l1 = l2 → l1.getD k 0 = l2.getD k 0 from fun h => by rw [h])
        have hlt1 : (k : Int) < (l1.length : Int) := by omega
        have hlt2 : (k : Int) < (l2.length : Int) := by omega
        have hk0 : (0 : Int) ≤ (k : Int) := by omega
        clear g1
        generalize l1.getD k 0 = x at *
        generalize l2.getD k 0 = y at *
        by_cases hxy : x = y
        · have k1 : (x != y) = false := by rw [hxy, bne_self_eq_false]
          have H := Lib.hid (show l1.take (k + 1) = l2.take (k + 1) by rw [HT1.out, HT2.out, ht.out, hxy])
          clear hxy hl
          go_wp2
          go_quiet (fail)
          go_wp2
          go_roundw
          case rel => exact ⟨k + 1, by omega, by go_num, hx.drewN _, H⟩
          case measure => simp [intOf]; omega
        · have k1 : (x != y) = true := by rw [bne_iff_ne]; exact hxy
          have H := Lib.hid (show decide (l1 = l2) = false by simp; intro h; exact hxy (HN.out h))
          clear hxy hl
          go_wp2
          go_quiet (fail)
          go_wp2
          go_ret
          exact ⟨by rw [H.out]; rfl, hx.drewN _⟩
      · have hkk : k = l1.length := by omega
        have H := Lib.hid (show decide (l1 = l2) = true by
          have := ht.out
          rw [hkk, List.take_length, hl, List.take_length] at this
          simpa using this)
        clear hl hkk
        go_wp2
        go_ret
        exact ⟨by rw [H.out]; rfl, hx⟩
  · have k0 : ((l1.length : Int) != (l2.length : Int)) = true := by rw [bne_iff_ne]; omega
    have H := Lib.hid (show decide (l1 = l2) = false by simp; intro h; exact hl (by rw [h]))
    clear hl
    go_enter Tryd.func24, Tryd.ntmps24
    go_wp2
    go_ret
    exact ⟨by rw [H.out]; rfl, Ext.refl _⟩
end
end Go.Proofs.YtphnfbjbpbfpkaaDoor
