/- Asks as plain data, and what the small functions of the packages ask and curve answer. -/
import Derived.Test.YtphnfbjbpbfpkaaDoorBase
namespace Go.Proofs.YtphnfbjbpbfpkaaDoor
open Go.RowKit

structure Ask where
  kind : Int
  id : ByteArray
  target : ByteArray
  account : ByteArray
  symbol : ByteArray
  side : Int
  qty : Int
  price : Int
  algo : Int
  start : Int
  fin : Int
  rate : Int
  shown : Int
  curve : List Int
abbrev Ask.cells (a : Ask) (c : Value) : Array Value :=
  #[.int .i64 a.kind, .string a.id, .string a.target, .string a.account, .string a.symbol, .int .i64 a.side, .int .i64 a.qty, .int .i64 a.price, .int .i64 a.algo, .int .i64 a.start, .int .i64 a.fin, .int .i64 a.rate, .int .i64 a.shown, c]

def emptyB (s : ByteArray) : Bool := s.toList.isEmpty
def kindOfB (k : Int) : ByteArray := if k = 1 then ⟨#[68]⟩ else if k = 2 then ⟨#[70]⟩ else if k = 3 then ⟨#[71]⟩ else if k = 4 then ⟨#[85, 80]⟩ else if k = 5 then ⟨#[85, 82]⟩ else ⟨#[]⟩
def withinB (a b c : Int) : Bool := decide (b ≤ a) && decide (a ≤ c)
def spanB (a b : Int) : Bool := withinB (wrap64 (b - a)) 1 1073741824
def worthB (a : Ask) : Bool := withinB a.qty 1 1099511627776 && (withinB a.price 1 1099511627776 && withinB a.fin 0 1099511627776)
def curveOk (l : List Int) : Bool := decide (1 ≤ l.length) && decide (l.length ≤ 64) && l.all (fun x => decide (0 ≤ x) && decide (x ≤ 1048576)) && l.any (fun x => decide (0 < x))
def curveE (l : List Int) : Int := if curveOk l then 0 else 30
def bareB (a : Ask) : Bool := emptyB a.account && (emptyB a.symbol && (a.side == 0 && (a.algo == 0 && (a.start == 0 && (a.rate == 0 && (a.shown == 0 && a.curve.isEmpty))))))
def algoB (a : Ask) : Bool :=
  if a.algo = 1 then a.curve.isEmpty && (a.rate == 0 && a.shown == 0)
  else if a.algo = 2 then curveOk a.curve && (a.rate == 0 && a.shown == 0)
  else if a.algo = 3 then a.curve.isEmpty && (withinB a.rate 1 10000 && a.shown == 0)
  else if a.algo = 4 then a.curve.isEmpty && (a.rate == 0 && withinB a.shown 1 1099511627776)
  else false

section
variable (w : World)

theorem kindOf_calls (k : Int) : Calls Tryd.prog 16 #[.int .i64 k] w fun e w' => e = .returned (.string (kindOfB k)) ∧ w = w' := by
  by_cases h1 : k = 1
  · subst h1
    go_enter Tryd.func16, Tryd.ntmps16
    go_wp2
    go_ret
    exact ⟨rfl, rfl⟩
  have k1 : (k == 1) = false := beq_eq_false_iff_ne.mpr h1
  by_cases h2 : k = 2
  · subst h2
    go_enter Tryd.func16, Tryd.ntmps16
    go_wp2
    go_ret
    exact ⟨rfl, rfl⟩
  have k2 : (k == 2) = false := beq_eq_false_iff_ne.mpr h2
  by_cases h3 : k = 3
  · subst h3
    go_enter Tryd.func16, Tryd.ntmps16
    go_wp2
    go_ret
    exact ⟨rfl, rfl⟩
  have k3 : (k == 3) = false := beq_eq_false_iff_ne.mpr h3
  by_cases h4 : k = 4
  · subst h4
    go_enter Tryd.func16, Tryd.ntmps16
    go_wp2
    go_ret
    exact ⟨rfl, rfl⟩
  have k4 : (k == 4) = false := beq_eq_false_iff_ne.mpr h4
  by_cases h5 : k = 5
  · subst h5
    go_enter Tryd.func16, Tryd.ntmps16
    go_wp2
    go_ret
    exact ⟨rfl, rfl⟩
  have k5 : (k == 5) = false := beq_eq_false_iff_ne.mpr h5
  go_enter Tryd.func16, Tryd.ntmps16
  go_wp2
  go_ret
  simp [kindOfB, h1, h2, h3, h4, h5]

theorem within_calls (a b c : Int) : Calls Tryd.prog 39 #[.int .i64 a, .int .i64 b, .int .i64 c] w fun e w' => e = .returned (.bool (withinB a b c)) ∧ w = w' := by
  go_enter Tryd.func39, Tryd.ntmps39
  go_wp2
  all_goals (go_ret; simp [withinB, *]; try omega)

theorem span_calls (a b : Int) : Calls Tryd.prog 36 #[.int .i64 a, .int .i64 b] w fun e w' => e = .returned (.bool (spanB a b)) ∧ w = w' := by
  go_enter Tryd.func36, Tryd.ntmps36
  go_wp2_with (go_at_call 39; refine (within_calls _ _ _ _).mono ?_; rintro e w' ⟨rfl, rfl⟩)
  go_ret
  exact ⟨rfl, rfl⟩

theorem worth_calls (a : Ask) (c : Value) : Calls Tryd.prog 23 #[.agg (a.cells c)] w fun e w' => e = .returned (.bool (worthB a)) ∧ Ext w w' := by
  go_enter Tryd.func23, Tryd.ntmps23
  go_wp2_with (go_at_call 39; refine (within_calls _ _ _ _).mono ?_; rintro e w' ⟨rfl, rfl⟩)
  all_goals (go_ret; exact ⟨by simp [worthB, *], (Ext.refl _).alloc _⟩)

theorem bare_calls (a : Ask) (c : Value) (hc : Ints w c a.curve) : Calls Tryd.prog 22 #[.agg (a.cells c)] w fun e w' => e = .returned (.bool (bareB a)) ∧ Ext w w' := by
  obtain ⟨A, cap, rfl, _⟩ := SlAt.form hc
  go_enter Tryd.func22, Tryd.ntmps22
  go_wp2
  all_goals (go_ret; exact ⟨by simp [bareB, emptyB, len_beq, *], (Ext.refl _).alloc _⟩)

theorem curveE_bad {l : List Int} (h : curveOk l = false) : curveE l = 30 := by simp [curveE, h]

set_option maxHeartbeats 1000000 in
theorem curve_calls (v : Value) (l : List Int) (hc : Ints w v l) : Calls Tryd.prog 37 #[v] w fun e w' => e = .returned (.int .i64 (curveE l)) ∧ w = w' := by
  obtain ⟨A, cap, rfl, _⟩ := SlAt.form hc
  by_cases h1 : l.length < 1
  · have hb : curveE l = 30 := curveE_bad (by simp [curveOk]; omega)
    have HB := Lib.hid hb; clear hb
    go_enter Tryd.func37, Tryd.ntmps37
    go_wp2
    go_ret
    exact ⟨by rw [HB.out]; rfl, rfl⟩
  by_cases h2 : 64 < l.length
  · have hb : curveE l = 30 := curveE_bad (by simp [curveOk]; omega)
    have HB := Lib.hid hb; clear hb
    go_enter Tryd.func37, Tryd.ntmps37
    go_wp2
    go_ret
    exact ⟨by rw [HB.out]; rfl, rfl⟩
  have h3 : 1 ≤ l.length := by omega
  have h4 : l.length ≤ 64 := by omega
  clear h1 h2
  go_enter Tryd.func37, Tryd.ntmps37
  go_wp2
  go_loop [3, 16] (fun s i => ∃ k : Nat, k ≤ l.length ∧ i = .int .i64 k ∧ s = .bool ((l.take k).any (fun x => decide (0 < x))) ∧ Hid ((l.take k).all (fun x => decide (0 ≤ x) && decide (x ≤ 1048576)) = true)) (fun _ i => l.length - (intOf i).toNat)
  case atStart => exact ⟨0, by omega, rfl, rfl, rfl⟩
  case round =>
    obtain ⟨k, hk, rfl, rfl, hall⟩ := hrel
    by_cases hlt : k < l.length
    · obtain ⟨b, off, c', hA, hb, hcell⟩ := Ints.at_ hc hlt
      obtain ⟨rfl, rfl⟩ : A = some ⟨b, off, none⟩ ∧ cap = c' := by injection hA with h1 _ h2; exact ⟨h1, h2⟩
      clear hA
      generalize hx : l.getD k 0 = x at hcell
      have HA := Lib.hid ((take_succ_any hlt (fun x => decide (0 < x))).trans (by rw [hx]))
      have HB := Lib.hid ((take_succ_all hlt (fun x => decide (0 ≤ x) && decide (x ≤ 1048576))).trans (by rw [hx, hall.out]))
      have HC : Hid (¬ (0 ≤ x ∧ x ≤ 1048576) → curveE l = 30) := Lib.hid (fun hn => curveE_bad (by
        have := all_false hlt (fun x => decide (0 ≤ x) && decide (x ≤ 1048576)) (by rw [hx]; simp; omega)
        simp [curveOk, this]))
      clear hx
      cases hs : (l.take k).any (fun x => decide (0 < x))
      all_goals
        rw [hs] at HA
        clear hs
        go_wp2
        all_goals first
          | (go_round
             case rel => exact ⟨k + 1, by omega, by go_num, by rw [HA.out]; simp [*], Lib.hid (by rw [HB.out]; simp [*])⟩
             case measure => simp [intOf]; omega)
          | (go_ret; exact ⟨by rw [HC.out (by omega)]; rfl, rfl⟩)
    · have hkk : k = l.length := by omega
      subst hkk
      have hA := hall.out
      simp only [List.take_length] at hA
      simp only [List.take_length]
      cases hs : l.any (fun x => decide (0 < x))
      all_goals
        have HC := Lib.hid (show curveE l = if l.any (fun x => decide (0 < x)) = true then 0 else 30 by
          have hA2 : l.all (fun x => decide (0 ≤ x) && decide (x ≤ 1048576)) = true := hA
          unfold curveE curveOk
          rw [hA2, hs]
          simp [h3, h4])
        rw [hs] at HC
        clear hs hA
        go_wp2
        go_ret
        exact ⟨by rw [HC.out]; rfl, rfl⟩
theorem curveE_eq (l : List Int) : (curveE l == 0) = curveOk l := by unfold curveE; cases curveOk l <;> rfl
theorem curveE_ne (l : List Int) : (curveE l != 0) = !curveOk l := by unfold curveE; cases curveOk l <;> rfl

theorem algo_calls (a : Ask) (c : Value) (hc : Ints w c a.curve) : Calls Tryd.prog 40 #[.agg (a.cells c)] w fun e w' => e = .returned (.bool (algoB a)) ∧ Ext w w' := by
  by_cases h1 : a.algo = 1
  · have k1 : (a.algo == 1) = true := beq_iff_eq.mpr h1
    have H := Lib.hid h1; clear h1
    obtain ⟨A, cap, rfl, _⟩ := SlAt.form hc
    go_enter Tryd.func40, Tryd.ntmps40
    go_wp2
    go_quiet (fail)
    go_wp2
    all_goals (go_ret; exact ⟨by simp [algoB, H.out, len_beq, *], ((Ext.refl _).alloc _).drewN _⟩)
  have k1 : (a.algo == 1) = false := beq_eq_false_iff_ne.mpr h1
  by_cases h2 : a.algo = 2
  · have k2 : (a.algo == 2) = true := beq_iff_eq.mpr h2
    have H := Lib.hid h2; clear h2 h1
    have hc' := hc
    obtain ⟨A, cap, rfl, _⟩ := SlAt.form hc
    go_enter Tryd.func40, Tryd.ntmps40
    go_wp2
    go_quiet (fail)
    go_wp2_with (go_at_call 37; refine (curve_calls _ _ a.curve (hc'.ext (((Ext.refl _).alloc _).drewN _))).mono ?_; rintro e w' ⟨rfl, rfl⟩)
    all_goals (go_ret; exact ⟨by simp [algoB, H.out, len_beq, ← curveE_eq, *], ((Ext.refl _).alloc _).drewN _⟩)
  have k2 : (a.algo == 2) = false := beq_eq_false_iff_ne.mpr h2
  by_cases h3 : a.algo = 3
  · have k3 : (a.algo == 3) = true := beq_iff_eq.mpr h3
    have H := Lib.hid h3; clear h3 h2 h1
    obtain ⟨A, cap, rfl, _⟩ := SlAt.form hc
    go_enter Tryd.func40, Tryd.ntmps40
    go_wp2
    go_quiet (fail)
    go_wp2_with (go_at_call 39; refine (within_calls _ _ _ _).mono ?_; rintro e w' ⟨rfl, rfl⟩)
    all_goals (go_ret; exact ⟨by simp [algoB, H.out, len_beq, *], ((Ext.refl _).alloc _).drewN _⟩)
  have k3 : (a.algo == 3) = false := beq_eq_false_iff_ne.mpr h3
  by_cases h4 : a.algo = 4
  · have k4 : (a.algo == 4) = true := beq_iff_eq.mpr h4
    have H := Lib.hid h4; clear h4 h3 h2 h1
    obtain ⟨A, cap, rfl, _⟩ := SlAt.form hc
    go_enter Tryd.func40, Tryd.ntmps40
    go_wp2
    go_quiet (fail)
    go_wp2_with (go_at_call 39; refine (within_calls _ _ _ _).mono ?_; rintro e w' ⟨rfl, rfl⟩)
    all_goals (go_ret; exact ⟨by simp [algoB, H.out, len_beq, *], ((Ext.refl _).alloc _).drewN _⟩)
  have k4 : (a.algo == 4) = false := beq_eq_false_iff_ne.mpr h4
  obtain ⟨A, cap, rfl, _⟩ := SlAt.form hc
  have H := Lib.hid (show algoB a = false by simp [algoB, h1, h2, h3, h4])
  go_enter Tryd.func40, Tryd.ntmps40
  go_wp2
  go_quiet (fail)
  go_wp2
  go_ret
  exact ⟨by rw [H.out]; rfl, ((Ext.refl _).alloc _).drewN _⟩
end
end Go.Proofs.YtphnfbjbpbfpkaaDoor
