/- PLAIN LAW: what is right is formed, and read back as it was. -/
import Derived.Test.YtphnfbjbpbfpkaaDoorPlainC
import Derived.Test.YtphnfbjbpbfpkaaDoorAskH
namespace Go.Proofs.YtphnfbjbpbfpkaaDoor
open Go.RowKit
set_option maxRecDepth 100000
attribute [local irreducible] Utf8.encode

theorem emptyB_eq {s : ByteArray} (h : emptyB s = true) : s = ⟨#[]⟩ := by
  unfold emptyB at h
  rw [List.isEmpty_iff] at h
  exact (toList_nil_iff_emptyBytes s).1 h
structure Bare (a : Ask) : Prop where
  account : a.account = ⟨#[]⟩
  symbol : a.symbol = ⟨#[]⟩
  side : a.side = 0
  algo : a.algo = 0
  start : a.start = 0
  rate : a.rate = 0
  shown : a.shown = 0
  curve : a.curve = []
theorem bareB_eq {a : Ask} (h : bareB a = true) : Bare a := by
  simp only [bareB, Bool.and_eq_true, beq_iff_eq, List.isEmpty_iff] at h
  obtain ⟨h1, h2, h3, h4, h5, h6, h7, h8⟩ := h
  exact ⟨emptyB_eq h1, emptyB_eq h2, h3, h4, h5, h6, h7, h8⟩
theorem within_iff {a b c : Int} : withinB a b c = true ↔ b ≤ a ∧ a ≤ c := by simp [withinB]
theorem worthB_eq {a : Ask} (h : worthB a = true) : (1 ≤ a.qty ∧ a.qty ≤ 1099511627776) ∧ (1 ≤ a.price ∧ a.price ≤ 1099511627776) ∧ (0 ≤ a.fin ∧ a.fin ≤ 1099511627776) := by
  simp only [worthB, Bool.and_eq_true, within_iff] at h
  exact h
structure New (a : Ask) : Prop where
  account : validB a.account = true
  symbol : validB a.symbol = true
  target : a.target = ⟨#[]⟩
  side : 1 ≤ a.side ∧ a.side ≤ 2
  worth : (1 ≤ a.qty ∧ a.qty ≤ 1099511627776) ∧ (1 ≤ a.price ∧ a.price ≤ 1099511627776) ∧ (0 ≤ a.fin ∧ a.fin ≤ 1099511627776)
  start : 0 ≤ a.start ∧ a.start ≤ 1099511627776
  span : spanB a.start a.fin = true
  algo : algoB a = true
theorem freshB_eq {a : Ask} (h : freshB a = true) : New a := by
  simp only [freshB, Bool.and_eq_true] at h
  obtain ⟨h1, h2, h3, h4, h5, h6, h7, h8⟩ := h
  exact ⟨h1, h2, emptyB_eq h3, within_iff.1 h4, worthB_eq h5, within_iff.1 h6, h7, h8⟩
theorem algoB_eq {a : Ask} (h : algoB a = true) :
    (a.algo = 1 ∧ a.curve = [] ∧ a.rate = 0 ∧ a.shown = 0) ∨ (a.algo = 2 ∧ curveOk a.curve = true ∧ a.rate = 0 ∧ a.shown = 0) ∨
    (a.algo = 3 ∧ a.curve = [] ∧ (1 ≤ a.rate ∧ a.rate ≤ 10000) ∧ a.shown = 0) ∨ (a.algo = 4 ∧ a.curve = [] ∧ a.rate = 0 ∧ (1 ≤ a.shown ∧ a.shown ≤ 1099511627776)) := by
  unfold algoB at h
  split at h
  · rename_i h1
    simp only [Bool.and_eq_true, beq_iff_eq, List.isEmpty_iff] at h
    exact .inl ⟨h1, h⟩
  split at h
  · rename_i h1
    simp only [Bool.and_eq_true, beq_iff_eq] at h
    exact .inr (.inl ⟨h1, h⟩)
  split at h
  · rename_i h1
    simp only [Bool.and_eq_true, beq_iff_eq, List.isEmpty_iff, within_iff] at h
    exact .inr (.inr (.inl ⟨h1, h⟩))
  split at h
  · rename_i h1
    simp only [Bool.and_eq_true, beq_iff_eq, List.isEmpty_iff, within_iff] at h
    exact .inr (.inr (.inr ⟨h1, h⟩))
  · cases h
theorem curveOk_eq {l : List Int} (h : curveOk l = true) : 1 ≤ l.length ∧ l.length ≤ 64 ∧ ∀ n ∈ l, 0 ≤ n ∧ n ≤ 1048576 := by
  simp only [curveOk, Bool.and_eq_true, decide_eq_true_eq, List.all_eq_true] at h
  exact ⟨h.1.1.1, h.1.1.2, h.1.2⟩
theorem rightB_eq {a : Ask} (h : rightB a = true) : oneToFive a.kind ∧ validB a.id = true ∧
    ((a.kind = 1 ∧ New a) ∨ (a.kind = 3 ∧ validB a.target = true ∧ Bare a ∧ (1 ≤ a.qty ∧ a.qty ≤ 1099511627776) ∧ (1 ≤ a.price ∧ a.price ≤ 1099511627776) ∧ (0 ≤ a.fin ∧ a.fin ≤ 1099511627776)) ∨
     (a.kind ≠ 1 ∧ a.kind ≠ 3 ∧ validB a.target = true ∧ Bare a ∧ a.qty = 0 ∧ a.price = 0 ∧ a.fin = 0)) := by
  unfold rightB at h
  split at h
  · rename_i hk
    rw [Bool.and_eq_true] at h
    refine ⟨hk, h.1, ?_⟩
    have h2 := h.2
    split at h2
    · rename_i h1
      exact .inl ⟨h1, freshB_eq h2⟩
    · rename_i h1
      simp only [Bool.and_eq_true] at h2
      obtain ⟨ht, hb, hr⟩ := h2
      split at hr
      · rename_i h3
        exact .inr (.inl ⟨h3, ht, bareB_eq hb, worthB_eq hr⟩)
      · rename_i h3
        simp only [Bool.and_eq_true, beq_iff_eq] at hr
        exact .inr (.inr ⟨h1, h3, ht, bareB_eq hb, hr⟩)
  · cases h
theorem kind_value {k : Int} (h : oneToFive k) : valueB (kindOfB k) = true := by
  have e : ∀ l : List UInt8, (⟨l.toArray⟩ : ByteArray) = bytesOf l := fun _ => rfl
  rcases h with rfl | rfl | rfl | rfl | rfl
  · exact plain_valueB [68] (by decide) (by decide) (by decide)
  · exact plain_valueB [70] (by decide) (by decide) (by decide)
  · exact plain_valueB [71] (by decide) (by decide) (by decide)
  · exact plain_valueB [85, 80] (by decide) (by decide) (by decide)
  · exact plain_valueB [85, 82] (by decide) (by decide) (by decide)
theorem curve_value {l : List Int} (h : curveOk l = true) : valueB (numsText l) = true := by
  obtain ⟨h1, h2, h3⟩ := curveOk_eq h
  have hne : l ≠ [] := by rintro rfl; simp at h1
  unfold numsText
  refine plain_valueB _ (join_plain _ (fun x hx => ?_)) ?_ ?_
  · obtain ⟨n, hn, rfl⟩ := List.mem_map.1 hx
    exact dig_plain _ (itoa_dig (h3 n hn).1)
  · cases l with
    | nil => exact absurd rfl hne
    | cons n r =>
      have := (h3 n (List.mem_cons_self ..)).1
      obtain ⟨u, rfl⟩ := Int.eq_ofNat_of_zero_le this
      rw [List.map_cons, Lib.join_cons, Lib.itoa_nonneg, List.length_append]
      have := List.length_pos_iff.2 (decDigits_ok u).2.2.1
      omega
  · have := join_long 7 (l.map Lib.itoa) (fun x hx => by
      obtain ⟨n, hn, rfl⟩ := List.mem_map.1 hx
      obtain ⟨u, rfl⟩ := Int.eq_ofNat_of_zero_le (h3 n hn).1
      have := (h3 _ hn).2
      rw [Lib.itoa_nonneg, Lib.decDigits_length]
      exact nDigits_le 6 u (by omega)) (by simpa using hne)
    rw [List.length_map] at this
    omega
theorem form_ok {t : Int} {s : ByteArray} (h1 : 1 ≤ t) (h2 : t ≤ 99999) (h : valueB s = true) : formE ⟨t, s⟩ = 0 := by
  unfold formE
  rw [if_neg (by simp only; omega), if_neg (by rw [h]; simp)]
theorem right_forms {a : Ask} (h : rightB a = true) : ∀ f ∈ fieldsOf a, formE f = 0 := by
  obtain ⟨hk, hid, hc⟩ := rightB_eq h
  have hkv := form_ok (t := 35) (by decide) (by decide) (kind_value hk)
  have hiv := form_ok (t := 11) (by decide) (by decide) (valid_value hid)
  have key : ∀ f ∈ restOf a, formE f = 0 := by
    rcases hc with ⟨k1, hn⟩ | ⟨k3, ht, hb, hq, hp, hf⟩ | ⟨k1, k3, ht, hb, _⟩
    · have hm : ∀ f ∈ midOf a, formE f = 0 := by
        intro f hf
        rcases algoB_eq hn.algo with ⟨e, _⟩ | ⟨e, hcv, _⟩ | ⟨e, _, hr, _⟩ | ⟨e, _, _, hs⟩
        · simp [midOf, e] at hf
        · simp [midOf, e] at hf
          rw [hf]
          exact form_ok (by decide) (by decide) (curve_value hcv)
        · simp [midOf, e] at hf
          rw [hf]
          exact form_ok (by decide) (by decide) (itoa_value _ (by omega) (by omega))
        · simp [midOf, e] at hf
          rw [hf]
          exact form_ok (by decide) (by decide) (itoa_value _ (by omega) (by omega))
      intro f hf
      simp only [restOf, k1, if_true, List.mem_append] at hf
      rcases hf with hf | hf
      · have hw := hn.worth
        have hs := hn.side
        have hst := hn.start
        have ha : 1 ≤ a.algo ∧ a.algo ≤ 4 := by
          rcases algoB_eq hn.algo with ⟨e, _⟩ | ⟨e, _⟩ | ⟨e, _⟩ | ⟨e, _⟩ <;> omega
        simp only [List.mem_cons, List.not_mem_nil, or_false] at hf
        rcases hf with rfl | rfl | rfl | rfl | rfl | rfl | rfl | rfl
        · exact form_ok (by decide) (by decide) (valid_value hn.account)
        · exact form_ok (by decide) (by decide) (valid_value hn.symbol)
        all_goals exact form_ok (by decide) (by decide) (itoa_value _ (by omega) (by omega))
      · exact hm f hf
    · intro f hf'
      simp only [restOf, k3, if_true, if_neg (show ¬ (3 : Int) = 1 by decide), List.mem_cons, List.not_mem_nil, or_false] at hf'
      rcases hf' with rfl | rfl | rfl | rfl
      · exact form_ok (by decide) (by decide) (valid_value ht)
      all_goals exact form_ok (by decide) (by decide) (itoa_value _ (by omega) (by omega))
    · intro f hf'
      simp only [restOf, if_neg k1, if_neg k3, List.mem_singleton] at hf'
      rw [hf']
      exact form_ok (by decide) (by decide) (valid_value ht)
  intro f hf
  simp only [fieldsOf, List.mem_append, List.mem_cons, List.not_mem_nil, or_false] at hf
  rcases hf with (rfl | rfl) | hf
  · exact hkv
  · exact hiv
  · exact key f hf
theorem fieldsOf_length (a : Ask) : (fieldsOf a).length ≤ 64 := by
  have : (midOf a).length ≤ 1 := by
    unfold midOf
    repeat' split
    all_goals simp
  unfold fieldsOf restOf
  repeat' split
  all_goals simp
  omega
theorem right_encE {a : Ask} (h : rightB a = true) : encE a = 0 ∧ encS a = bytesOf (formsL (fieldsOf a)) := by
  have hE : formsE (fieldsOf a) = 0 := by
    unfold formsE
    rw [if_neg (by have := fieldsOf_length a; omega)]
    exact firstE_of _ (right_forms h)
  unfold encE encS
  rw [if_pos h, if_pos h]
  refine ⟨hE, ?_⟩
  unfold formsS
  rw [if_pos hE]
end Go.Proofs.YtphnfbjbpbfpkaaDoor
