/- What is right of an ask; the law's own small functions. -/
import Derived.Test.YtphnfbjbpbfpkaaDoorAskA
import Derived.Test.YtphnfbjbpbfpkaaDoorRune
namespace Go.Proofs.YtphnfbjbpbfpkaaDoor
open Go.RowKit
set_option maxRecDepth 100000

def freshB (a : Ask) : Bool :=
  validB a.account && (validB a.symbol && (emptyB a.target && (withinB a.side 1 2 && (worthB a && (withinB a.start 0 1099511627776 && (spanB a.start a.fin && algoB a))))))
def rightB (a : Ask) : Bool :=
  if a.kind = 1 ∨ a.kind = 2 ∨ a.kind = 3 ∨ a.kind = 4 ∨ a.kind = 5 then
    validB a.id && (if a.kind = 1 then freshB a else validB a.target && (bareB a && (if a.kind = 3 then worthB a else a.qty == 0 && (a.price == 0 && a.fin == 0))))
  else false
def wholeR (a : Ask) : Int × Int :=
  if a.kind = 1 then (if spanB a.start a.fin then (if a.algo = 2 ∧ curveOk a.curve = false then (5006, 30) else (0, 0)) else (5003, 282)) else (0, 0)
def fewB (a : Ask) : Bool := decide (a.id.size ≤ 200) && (decide (a.target.size ≤ 200) && (decide (a.account.size ≤ 200) && (decide (a.symbol.size ≤ 200) && decide (a.curve.length ≤ 100))))

section
variable (w : World)
set_option maxHeartbeats 2000000 in
theorem fresh_calls (a : Ask) (c : Value) (hc : Ints w c a.curve) : Calls Tryd.prog 21 #[.agg (a.cells c)] w fun e w' => e = .returned (.bool (freshB a)) ∧ Ext w w' := by
  obtain ⟨A, cap, rfl, _⟩ := SlAt.form hc
  have HI := Lib.hid hc
  clear hc
  go_enter Tryd.func21, Tryd.ntmps21
  go_wp2_with (first
    | (go_at_call 39; refine (within_calls _ _ _ _).mono ?_; rintro e w' ⟨rfl, rfl⟩)
    | (go_at_call 36; refine (span_calls _ _ _).mono ?_; rintro e w' ⟨rfl, rfl⟩)
    | (go_at_call 20; refine (valid_calls _ _).mono ?_; rintro e wn ⟨rfl, hb⟩; obtain ⟨hc, hf⟩ := hb.cells; have hz : w.heap.size < wn.heap.size := (by have := hb.size; (try simp at this); omega))
    | (go_at_call 23; refine (worth_calls _ a _).mono ?_; rintro e wn ⟨rfl, hb⟩; obtain ⟨hc, hf⟩ := hb.cells; have hz : w.heap.size < wn.heap.size := (by have := hb.size; (try simp at this); omega))
    | (go_at_call 40; refine (algo_calls _ a _ (HI.out.ext ?_)).mono ?_; (repeat (first | exact Ext.refl _ | assumption | refine Ext.trans ?_ (by assumption) | refine Ext.alloc ?_ _)); rintro e wn ⟨rfl, hb⟩))
  all_goals
    go_ret
    refine ⟨by simp_all [freshB, emptyB], ?_⟩
    (repeat (first | exact Ext.refl _ | assumption | refine Ext.trans ?_ (by assumption) | refine Ext.alloc ?_ _))

def oneToFive (k : Int) : Prop := k = 1 ∨ k = 2 ∨ k = 3 ∨ k = 4 ∨ k = 5
theorem toList_mk (l : List UInt8) : (⟨l.toArray⟩ : ByteArray).toList = l := by rw [ByteArray.toList_eq]
theorem kindOfB_in {k : Int} (h : oneToFive k) : (kindOfB k).toList.isEmpty = false ∧ ¬ (kindOfB k).toList = [] := by
  have h2 : (kindOfB k).toList.isEmpty = false := by
    rcases h with rfl | rfl | rfl | rfl | rfl <;> simp [kindOfB, ByteArray.toList_eq]
  exact ⟨h2, fun h => by rw [h] at h2; cases h2⟩
theorem kindOfB_out {k : Int} (h : ¬ oneToFive k) : (kindOfB k).toList = [] := by
  unfold oneToFive at h
  have : kindOfB k = ⟨#[]⟩ := by
    unfold kindOfB
    rw [if_neg (by omega), if_neg (by omega), if_neg (by omega), if_neg (by omega), if_neg (by omega)]
  rw [this, ByteArray.toList_eq]

set_option maxHeartbeats 2000000 in
theorem right_calls (a : Ask) (c : Value) (hc : Ints w c a.curve) : Calls Tryd.prog 9 #[.agg (a.cells c)] w fun e w' => e = .returned (.bool (rightB a)) ∧ Ext w w' := by
  obtain ⟨A, cap, rfl, _⟩ := SlAt.form hc
  have HI := Lib.hid hc
  clear hc
  by_cases hk : oneToFive a.kind
  · obtain ⟨n1, n2⟩ := kindOfB_in hk
    have HR := Lib.hid (show rightB a = (validB a.id && (if a.kind = 1 then freshB a else validB a.target && (bareB a && (if a.kind = 3 then worthB a else a.qty == 0 && (a.price == 0 && a.fin == 0))))) by
      unfold rightB; exact if_pos hk)
    clear hk
    go_enter Tryd.func9, Tryd.ntmps9
    go_wp2_with (first
      | (go_at_call 16; refine (kindOf_calls _ _).mono ?_; rintro e w' ⟨rfl, rfl⟩)
      | (go_at_call 20; refine (valid_calls _ _).mono ?_; rintro e wn ⟨rfl, hb⟩; obtain ⟨hc, hf⟩ := hb.cells; have hz : w.heap.size < wn.heap.size := (by have := hb.size; (try simp at this); omega))
      | (go_at_call 23; refine (worth_calls _ a _).mono ?_; rintro e wn ⟨rfl, hb⟩; obtain ⟨hc, hf⟩ := hb.cells; have hz : w.heap.size < wn.heap.size := (by have := hb.size; (try simp at this); omega))
      | (go_at_call 22; refine (bare_calls _ a _ (HI.out.ext ?_)).mono ?_; (repeat (first | exact Ext.refl _ | assumption | refine Ext.trans ?_ (by assumption) | refine Ext.alloc ?_ _)); rintro e wn ⟨rfl, hb⟩; obtain ⟨hc, hf⟩ := hb.cells; have hz : w.heap.size < wn.heap.size := (by have := hb.size; (try simp at this); omega))
      | (go_at_call 21; refine (fresh_calls _ a _ (HI.out.ext ?_)).mono ?_; (repeat (first | exact Ext.refl _ | assumption | refine Ext.trans ?_ (by assumption) | refine Ext.alloc ?_ _)); rintro e wn ⟨rfl, hb⟩))
    all_goals
      go_ret
      refine ⟨by rw [HR.out]; simp_all, ?_⟩
      (repeat (first | exact Ext.refl _ | assumption | refine Ext.trans ?_ (by assumption) | refine Ext.alloc ?_ _))
  · have n1 := kindOfB_out hk
    have n2 : (kindOfB a.kind).toList.isEmpty = true := by rw [n1]; rfl
    have HR := Lib.hid (show rightB a = false by unfold rightB; exact if_neg hk)
    clear hk
    go_enter Tryd.func9, Tryd.ntmps9
    go_wp2_with (go_at_call 16; refine (kindOf_calls _ _).mono ?_; rintro e w' ⟨rfl, rfl⟩)
    go_ret
    exact ⟨by rw [HR.out]; rfl, (Ext.refl _).alloc _⟩

set_option maxHeartbeats 1000000 in
theorem whole_calls (a : Ask) (c : Value) (hc : Ints w c a.curve) : Calls Tryd.prog 19 #[.agg (a.cells c)] w fun e w' => e = .returned (.tuple #[.int .i64 (wholeR a).1, .int .i64 (wholeR a).2]) ∧ Ext w w' := by
  have HI := Lib.hid hc
  obtain ⟨A, cap, rfl, _⟩ := SlAt.form hc
  clear hc
  by_cases h1 : a.kind = 1
  · have k1 : (a.kind != 1) = false := by rw [h1]; rfl
    cases hs : spanB a.start a.fin
    · have H := Lib.hid (show wholeR a = (5003, 282) by simp [wholeR, h1, hs])
      have HS := Lib.hid (fun W => span_calls W a.start a.fin)
      rw [hs] at HS
      clear h1 hs
      go_enter Tryd.func19, Tryd.ntmps19
      go_wp2_with (go_at_call 36; refine (HS.out _).mono ?_; rintro e w' ⟨rfl, rfl⟩)
      go_ret2
      exact ⟨by rw [H.out]; rfl, (Ext.refl _).alloc _⟩
    · have HS := Lib.hid (fun W => span_calls W a.start a.fin)
      rw [hs] at HS
      have HX := Lib.hid (fun W (hW : Ext w W) => curve_calls W _ a.curve (HI.out.ext hW))
      by_cases h2 : a.algo = 2
      · have k2 : (a.algo == 2) = true := by rw [h2]; rfl
        cases ho : curveOk a.curve
        · have H := Lib.hid (show wholeR a = (5006, 30) by simp [wholeR, h1, hs, h2, ho])
          rw [show curveE a.curve = 30 by simp [curveE, ho]] at HX
          clear h1 hs h2 ho
          go_enter Tryd.func19, Tryd.ntmps19
          go_wp2_with (first
            | (go_at_call 36; refine (HS.out _).mono ?_; rintro e w' ⟨rfl, rfl⟩)
            | (go_at_call 37; refine (HX.out _ ((Ext.refl _).alloc _)).mono ?_; rintro e w' ⟨rfl, rfl⟩))
          go_ret2
          exact ⟨by rw [H.out]; rfl, (Ext.refl _).alloc _⟩
        · have H := Lib.hid (show wholeR a = (0, 0) by simp [wholeR, h1, hs, h2, ho])
          rw [show curveE a.curve = 0 by simp [curveE, ho]] at HX
          clear h1 hs h2 ho
          go_enter Tryd.func19, Tryd.ntmps19
          go_wp2_with (first
            | (go_at_call 36; refine (HS.out _).mono ?_; rintro e w' ⟨rfl, rfl⟩)
            | (go_at_call 37; refine (HX.out _ ((Ext.refl _).alloc _)).mono ?_; rintro e w' ⟨rfl, rfl⟩))
          go_ret2
          exact ⟨by rw [H.out]; rfl, (Ext.refl _).alloc _⟩
      · have k2 : (a.algo == 2) = false := beq_eq_false_iff_ne.mpr h2
        have H := Lib.hid (show wholeR a = (0, 0) by simp [wholeR, h1, hs, h2])
        clear h1 hs h2
        go_enter Tryd.func19, Tryd.ntmps19
        go_wp2_with (go_at_call 36; refine (HS.out _).mono ?_; rintro e w' ⟨rfl, rfl⟩)
        go_ret2
        exact ⟨by rw [H.out]; rfl, (Ext.refl _).alloc _⟩
  · have k1 : (a.kind != 1) = true := by rw [bne_iff_ne]; exact h1
    have H := Lib.hid (show wholeR a = (0, 0) by simp [wholeR, h1])
    clear h1
    go_enter Tryd.func19, Tryd.ntmps19
    go_wp2
    go_ret2
    exact ⟨by rw [H.out]; rfl, (Ext.refl _).alloc _⟩
end
end Go.Proofs.YtphnfbjbpbfpkaaDoor
