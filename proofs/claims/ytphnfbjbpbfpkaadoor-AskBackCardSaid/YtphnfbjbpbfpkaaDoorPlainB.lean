/- PLAIN LAW: numerals, and fields read back. -/
import Derived.Test.YtphnfbjbpbfpkaaDoorPlainA
namespace Go.Proofs.YtphnfbjbpbfpkaaDoor
open Go.RowKit
set_option maxRecDepth 100000
attribute [local irreducible] Utf8.encode

/-! ### numerals -/
def digB (d : UInt8) : Bool := decide (48 ≤ d.toNat) && decide (d.toNat ≤ 57)
def foldD (t : Int) : List UInt8 → Int
  | [] => t
  | d :: r => foldD (10 * t + ((d.toNat : Int) - 48)) r
theorem foldD_app : ∀ (a b : List UInt8) (t : Int), foldD t (a ++ b) = foldD (foldD t a) b
  | [], b, t => rfl
  | d :: r, b, t => by simp only [List.cons_append, foldD]; exact foldD_app r b _
theorem foldD_ge : ∀ (ds : List UInt8) (t : Int), 0 ≤ t → ds.all digB = true → t ≤ foldD t ds
  | [], t, _, _ => Int.le_refl _
  | d :: r, t, h, hd => by
    simp only [List.all_cons, Bool.and_eq_true] at hd
    obtain ⟨h1, h2⟩ := hd
    simp only [digB, Bool.and_eq_true, decide_eq_true_eq] at h1
    have := foldD_ge r (10 * t + ((d.toNat : Int) - 48)) (by omega) h2
    simp only [foldD]
    omega
theorem ofNat_toNat {n : Nat} (h : n < 256) : (UInt8.ofNat n).toNat = n := by simp; omega
theorem decDigits_ok (u : Nat) : (Lib.decDigits u).all digB = true ∧ foldD 0 (Lib.decDigits u) = u ∧ Lib.decDigits u ≠ [] ∧ (1 ≤ u → ∃ d r, Lib.decDigits u = d :: r ∧ d.toNat ≠ 48) := by
  induction u using Nat.strongRecOn with
  | _ u ih =>
    rw [Lib.decDigits]
    split
    · rename_i h
      have e : (UInt8.ofNat (48 + u)).toNat = 48 + u := ofNat_toNat (by omega)
      refine ⟨?_, ?_, by simp, fun hu => ⟨_, _, rfl, by rw [e]; omega⟩⟩
      · simp only [List.all_cons, List.all_nil, Bool.and_true, digB, e]; simp; omega
      · simp only [foldD, e]; omega
    · rename_i h
      obtain ⟨i1, i2, i3, i4⟩ := ih (u / 10) (by omega)
      have e : (UInt8.ofNat (48 + u % 10)).toNat = 48 + u % 10 := ofNat_toNat (by omega)
      refine ⟨?_, ?_, by simp, fun hu => ?_⟩
      · rw [List.all_append, i1]
        simp only [List.all_cons, List.all_nil, Bool.and_true, Bool.true_and, digB, e]; simp; omega
      · rw [foldD_app, i2]; simp only [foldD, e]; omega
      · obtain ⟨d, r, hd, h48⟩ := i4 (by omega)
        exact ⟨d, r ++ _, by rw [hd]; rfl, h48⟩
theorem dig_of {d : UInt8} (h : digB d = true) : 48 ≤ d.toNat ∧ d.toNat ≤ 57 := by simpa [digB] using h
theorem numL_dig : ∀ (ds : List UInt8) (off : Nat) (n : Int), 0 ≤ n → ds.all digB = true → foldD n ds ≤ 9223372036854775807 → numL (runesL ds off) n = some (foldD n ds)
  | [], off, n, _, _, _ => rfl
  | d :: r, off, n, h0, hd, hm => by
    simp only [List.all_cons, Bool.and_eq_true] at hd
    obtain ⟨h1, h2⟩ := hd
    have h1 := dig_of h1
    simp only [foldD] at hm ⊢
    have hge := foldD_ge r (10 * n + ((d.toNat : Int) - 48)) (by omega) h2
    rw [runesL_ascii d r off (by omega)]
    simp only [numL]
    rw [if_neg (by omega), if_neg (by omega)]
    exact numL_dig r (off + 1) _ (by omega) h2 hm
theorem bytesOf_toList (l : List UInt8) : (bytesOf l).data.toList = l := by simp [bytesOf]
theorem numR_itoa (n : Int) (h0 : 0 ≤ n) (h1 : n ≤ 9223372036854775807) : numR (bytesOf (Lib.itoa n)) = some n := by
  obtain ⟨u, rfl⟩ := Int.eq_ofNat_of_zero_le h0
  rw [Lib.itoa_nonneg]
  obtain ⟨i1, i2, i3, i4⟩ := decDigits_ok u
  unfold numR
  have hsz : (bytesOf (Lib.decDigits u)).size = (Lib.decDigits u).length := bytesOf_size _
  have hlen : 0 < (Lib.decDigits u).length := List.length_pos_iff.2 i3
  rw [if_neg (by omega)]
  have hz : zeroLed (bytesOf (Lib.decDigits u)) = false := by
    unfold zeroLed
    rw [bytesOf_toList, hsz]
    by_cases hu : 1 ≤ u
    · obtain ⟨d, r, hd, h48⟩ := i4 hu
      rw [hd]
      simp only [List.head?_cons, Bool.and_eq_false_iff]
      right
      rw [beq_eq_false_iff_ne]
      intro e
      injection e with e
      rw [e] at h48
      exact h48 rfl
    · obtain rfl : u = 0 := by omega
      rw [Lib.decDigits]; rfl
  rw [hz, if_neg (by simp), runesAt_L, bytesOf_toList, numL_dig _ 0 0 (by omega) i1 (by rw [i2]; omega), i2]

theorem numberL_dig : ∀ (ds : List UInt8) (x : List UInt8) (off : Nat) (t : Int), 0 ≤ t → ds.all digB = true → foldD t ds ≤ 99999 → (0 < off ∨ ∃ d r, ds = d :: r ∧ d.toNat ≠ 48) →
    numberL (runesL (ds ++ 61 :: x) off) t = (foldD t ds, ((off + ds.length : Nat) : Int) + 1, 0)
  | [], x, off, t, _, _, _, h => by
    have hoff : 0 < off := by rcases h with h | ⟨d, r, h, _⟩; exact h; cases h
    rw [List.nil_append, runesL_ascii 61 x off (by decide)]
    show numberL ((off, 61) :: runesL x (off + 1)) t = _
    rw [numberL_some (numStep_61 ⟨rfl, by omega⟩)]
    simp [foldD]
  | d :: r, x, off, t, h0, hd, hm, h => by
    simp only [List.all_cons, Bool.and_eq_true] at hd
    obtain ⟨h1, h2⟩ := hd
    have h1 := dig_of h1
    simp only [foldD] at hm ⊢
    have hge := foldD_ge r (10 * t + ((d.toNat : Int) - 48)) (by omega) h2
    have h48 : ¬ ((d.toNat : Int) = 48 ∧ (off : Int) = 0) := by
      rintro ⟨e1, e2⟩
      rcases h with h | ⟨d', r', h, hne⟩
      · omega
      · injection h with h _; subst h; omega
    rw [List.cons_append, runesL_ascii d _ off (by omega), numberL_none (numStep_none (by omega) (by omega)), numberL_dig r x (off + 1) _ (by omega) h2 hm (.inl (by omega))]
    simp only [List.length_cons]
    rw [show off + 1 + r.length = off + (r.length + 1) by omega]

/-! ### values -/
theorem valueL_good : ∀ (rs : List (Nat × Nat)), valueL rs = true → ∀ p ∈ rs, 32 ≤ p.2 ∧ p.2 ≠ 65533
  | [], _, p, h => by cases h
  | (i, c) :: r, h, p, hp => by
    simp only [valueL] at h
    split at h
    · rename_i hc
      rw [List.mem_cons] at hp
      rcases hp with rfl | hp
      · simp only [vmayB, Bool.and_eq_true, decide_eq_true_eq, bne_iff_ne] at hc
        simp only
        omega
      · exact valueL_good r h p hp
    · cases h
theorem textL_value (t : List (Nat × Nat)) (i : Nat) (hi : 0 < i) : ∀ (rs : List (Nat × Nat)) (a : Nat), valueL rs = true → (∀ p ∈ rs, p.1 + (Utf8.encode (p.2 : Nat)).size ≤ 512) → textL (rs ++ (i, 1) :: t) a = (i, 0)
  | [], a, _, _ => by
    rw [List.nil_append, textL, if_pos ⟨rfl, hi⟩]
  | (j, c) :: r, a, h, hs => by
    simp only [valueL] at h
    split at h
    · rename_i hc
      have h1 := hs _ (List.mem_cons_self ..)
      have hc1 : c ≠ 1 := by
        simp only [vmayB, Bool.and_eq_true, decide_eq_true_eq] at hc
        omega
      rw [List.cons_append, textL, if_neg (fun e => hc1 e.1), if_neg (by rw [hc]; simp only at h1; simp; omega)]
      exact textL_value t i hi r j h (fun p hp => hs p (List.mem_cons_of_mem _ hp))
    · cases h
theorem textR_value (v : ByteArray) (x : List UInt8) (h : valueB v = true) : textR (bytesOf (v.data.toList ++ 1 :: x)) = (v.size, 0) := by
  unfold valueB at h
  rw [Bool.and_eq_true, Bool.and_eq_true, decide_eq_true_eq, decide_eq_true_eq, runesAt_L] at h
  obtain ⟨⟨h1, h2⟩, h3⟩ := h
  have hg : ∀ p ∈ runesL v.data.toList 0, p.2 ≠ 65533 := fun p hp => (valueL_good _ h3 p hp).2
  unfold textR
  rw [runesAt_L, bytesOf_toList, runesL_app (1 :: x) _ _ 0 (Nat.le_refl _) hg, Nat.zero_add, runesL_ascii 1 x _ (by decide), toList_size]
  refine textL_value _ _ (by omega) _ _ h3 (fun p hp => ?_)
  have := runesL_fit _ _ 0 (Nat.le_refl _) hg p hp
  rw [toList_size] at this
  omega

/-! ### bytes cut -/
theorem extract_bytes (l : List UInt8) (a b : Nat) : (bytesOf l).extract a b = bytesOf ((l.take b).drop a) := by
  apply ByteArray.ext
  apply Array.ext'
  rw [ByteArray.data_extract, Array.toList_extract]
  simp [bytesOf, List.extract_eq_take_drop, List.drop_take]
theorem bytesOf_data (s : ByteArray) : bytesOf s.data.toList = s := by
  apply ByteArray.ext
  simp [bytesOf]

/-! ### a field -/
theorem formE_ok {f : Fld} (h : formE f = 0) : 1 ≤ f.tag ∧ f.tag ≤ 99999 ∧ valueB f.val = true := by
  unfold formE at h
  split at h
  · cases h
  split at h
  · cases h
  · rename_i h1 h2
    exact ⟨by omega, by omega, by simpa using h2⟩
theorem nextR_form (f : Fld) (x : List UInt8) (h : formE f = 0) : nextR (bytesOf (formOf f ++ x)) = ⟨f, (formOf f).length, 0⟩ := by
  obtain ⟨h1, h2, h3⟩ := formE_ok h
  obtain ⟨u, hu⟩ := Int.eq_ofNat_of_zero_le (show 0 ≤ f.tag by omega)
  obtain ⟨i1, i2, i3, i4⟩ := decDigits_ok u
  have hf : formOf f ++ x = Lib.decDigits u ++ 61 :: (f.val.data.toList ++ 1 :: x) := by
    unfold formOf
    rw [hu, Lib.itoa_nonneg]
    simp
  have hN : numberR (bytesOf (formOf f ++ x)) = (f.tag, (((Lib.decDigits u).length : Nat) : Int) + 1, 0) := by
    unfold numberR
    rw [runesAt_L, bytesOf_toList, hf, numberL_dig _ _ 0 0 (by omega) i1 (by rw [i2]; omega) (.inr (i4 (by omega))), i2, ← hu, Nat.zero_add]
  have hE : (bytesOf (formOf f ++ x)).extract ((Lib.decDigits u).length + 1) (bytesOf (formOf f ++ x)).size = bytesOf (f.val.data.toList ++ 1 :: x) := by
    rw [extract_bytes, bytesOf_size, List.take_length, hf]
    rw [show Lib.decDigits u ++ 61 :: (f.val.data.toList ++ 1 :: x) = (Lib.decDigits u ++ [61]) ++ (f.val.data.toList ++ 1 :: x) by simp]
    rw [List.drop_append_of_le_length (by simp)]
    rw [List.drop_eq_nil_of_le (by simp), List.nil_append]
  have hT := textR_value f.val x h3
  have hS : textS (bytesOf (f.val.data.toList ++ 1 :: x)) = f.val := by
    unfold textS
    rw [hT, if_pos rfl, extract_bytes, List.drop_zero, show f.val.size = f.val.data.toList.length from rfl, List.take_append_of_le_length (Nat.le_refl _), List.take_length, bytesOf_data]
  unfold nextR
  rw [hN]
  simp only [Int.toNat_natCast_add_one, if_true]
  rw [hE, hT, if_pos rfl, hS]
  have hl : (formOf f).length = (Lib.decDigits u).length + 1 + f.val.size + 1 := by
    unfold formOf
    rw [hu, Lib.itoa_nonneg]
    simp [toList_size]
    omega
  rw [hl]

theorem fieldsF_forms : ∀ (l : List Fld) (pre : List UInt8) (acc : List Fld) (fuel : Nat), (∀ f ∈ l, formE f = 0) → acc.length + l.length ≤ 64 → (formsL l).length ≤ fuel →
    fieldsF (bytesOf (pre ++ formsL l)) fuel pre.length acc = (acc ++ l, (pre ++ formsL l).length, 0)
  | [], pre, acc, 0, _, _, hf => by simp [formsL, fieldsF]
  | [], pre, acc, fuel + 1, _, _, _ => by
    unfold fieldsF
    rw [if_neg (by rw [bytesOf_size]; simp [formsL])]
    simp [formsL]
  | f :: r, pre, acc, 0, _, _, hf => by
    have e1 : formsL (f :: r) = formOf f ++ formsL r := by simp [formsL]
    rw [e1] at hf
    simp [formOf] at hf
  | f :: r, pre, acc, fuel + 1, h, hl, hf => by
    have hF := h f (List.mem_cons_self ..)
    have e1 : formsL (f :: r) = formOf f ++ formsL r := by simp [formsL]
    have hlen : 0 < (formOf f).length := by simp [formOf]; omega
    have hpos : (pre ++ formsL (f :: r)).length = pre.length + ((formOf f).length + (formsL r).length) := by rw [e1]; simp
    simp only [List.length_cons] at hl
    rw [e1, List.length_append] at hf
    have hE : (bytesOf (pre ++ formsL (f :: r))).extract pre.length (bytesOf (pre ++ formsL (f :: r))).size = bytesOf (formOf f ++ formsL r) := by
      rw [extract_bytes, bytesOf_size, List.take_length, List.drop_append_of_le_length (Nat.le_refl _), List.drop_length, List.nil_append, e1]
    unfold fieldsF
    rw [if_pos (by rw [bytesOf_size, hpos]; omega), if_neg (by omega), hE, nextR_form f _ hF, if_pos rfl]
    have := fieldsF_forms r (pre ++ formOf f) (acc ++ [f]) fuel (fun g hg => h g (List.mem_cons_of_mem _ hg)) (by simp; omega) (by omega)
    rw [List.length_append, List.append_assoc, ← e1] at this
    rw [this]
    simp
theorem fieldsR_forms (l : List Fld) (h : ∀ f ∈ l, formE f = 0) (hl : l.length ≤ 64) : (fieldsR (bytesOf (formsL l))).1 = l ∧ (fieldsR (bytesOf (formsL l))).2.2 = 0 := by
  have := fieldsF_forms l [] [] (bytesOf (formsL l)).size h (by simpa using hl) (by rw [bytesOf_size]; omega)
  rw [List.nil_append, List.nil_append, List.length_nil] at this
  unfold fieldsR
  rw [this]
  exact ⟨rfl, rfl⟩
theorem firstE_all : ∀ l : List Fld, firstE l = 0 → ∀ f ∈ l, formE f = 0
  | [], _, f, h => by cases h
  | g :: r, h, f, hf => by
    simp only [firstE] at h
    split at h
    · rename_i hg
      rw [List.mem_cons] at hf
      rcases hf with rfl | hf
      · exact hg
      · exact firstE_all r h f hf
    · rename_i hg
      exact absurd h hg
theorem firstE_of : ∀ l : List Fld, (∀ f ∈ l, formE f = 0) → firstE l = 0
  | [], _ => rfl
  | g :: r, h => by
    simp only [firstE]
    rw [if_pos (h g (List.mem_cons_self ..))]
    exact firstE_of r (fun f hf => h f (List.mem_cons_of_mem _ hf))
end Go.Proofs.YtphnfbjbpbfpkaaDoor
