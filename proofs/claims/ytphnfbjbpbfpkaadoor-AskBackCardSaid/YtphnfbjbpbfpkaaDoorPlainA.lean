/- PLAIN LAW: what is formed is read back: runes of a text that goes on, numerals, fields. -/
import Derived.Test.YtphnfbjbpbfpkaaDoorBodyF
import Derived.Test.YtphnfbjbpbfpkaaDoorAskC
import Derived.Lib.MapLaws
namespace Go.Proofs.YtphnfbjbpbfpkaaDoor
open Go.RowKit
set_option maxRecDepth 100000

/-! ### runes of lists of bytes -/
def rL : Nat → List UInt8 → Nat → List (Nat × Nat)
  | 0, _, _ => []
  | f + 1, l, off => if l = [] then [] else (off, (Lib.decodeL l).1) :: rL f (l.drop (Lib.decodeL l).2) (off + (Lib.decodeL l).2)
def runesL (l : List UInt8) (off : Nat) : List (Nat × Nat) := rL l.length l off
theorem decodeL_pos (l : List UInt8) : 1 ≤ (Lib.decodeL l).2 := Lib.width_pos _ _
theorem toList_size (s : ByteArray) : s.data.toList.length = s.size := rfl
theorem runesF_rL (s : ByteArray) : ∀ (f pos : Nat), runesF s f pos = rL f (s.data.toList.drop pos) pos
  | 0, pos => rfl
  | f + 1, pos => by
    unfold runesF rL
    by_cases h : pos < s.size
    · have hne : s.data.toList.drop pos ≠ [] := by
        intro e
        have := congrArg List.length e
        rw [List.length_drop, toList_size] at this
        simp at this
        omega
      rw [if_pos h, if_neg hne, Lib.decodeL_drop, runesF_rL s f, List.drop_drop]
    · have he : s.data.toList.drop pos = [] := List.drop_eq_nil_of_le (by rw [toList_size]; omega)
      rw [if_neg h, if_pos he]
theorem rL_fuel : ∀ (f g : Nat) (l : List UInt8) (off : Nat), l.length ≤ f → l.length ≤ g → rL f l off = rL g l off
  | 0, g, l, off, hf, _ => by
    obtain rfl : l = [] := List.eq_nil_of_length_eq_zero (by omega)
    cases g <;> simp [rL]
  | f + 1, 0, l, off, _, hg => by
    obtain rfl : l = [] := List.eq_nil_of_length_eq_zero (by omega)
    simp [rL]
  | f + 1, g + 1, l, off, hf, hg => by
    unfold rL
    by_cases h : l = []
    · rw [if_pos h, if_pos h]
    · have := decodeL_pos l
      rw [if_neg h, if_neg h, rL_fuel f g _ _ (by rw [List.length_drop]; omega) (by rw [List.length_drop]; omega)]
theorem runesL_nil (off : Nat) : runesL [] off = [] := rfl
theorem runesL_ne {l : List UInt8} (h : l ≠ []) (off : Nat) : runesL l off = (off, (Lib.decodeL l).1) :: runesL (l.drop (Lib.decodeL l).2) (off + (Lib.decodeL l).2) := by
  have := decodeL_pos l
  have hl : 0 < l.length := List.length_pos_iff.2 h
  unfold runesL
  obtain ⟨f, hf⟩ : ∃ f, l.length = f + 1 := ⟨l.length - 1, by omega⟩
  rw [hf]
  show (if l = [] then [] else _) = _
  rw [if_neg h, rL_fuel f _ _ _ (by rw [List.length_drop]; omega) (Nat.le_refl _)]
theorem runesAt_L (s : ByteArray) : runesAt s 0 = runesL s.data.toList 0 := by
  unfold runesAt runesL
  rw [runesF_rL, Nat.sub_zero, List.drop_zero, toList_size]
theorem getD_app {l x : List UInt8} {k : Nat} (h : k < l.length) : (l ++ x).getD k 0 = l.getD k 0 := by
  simp [List.getD_eq_getElem?_getD, List.getElem?_append_left h]
theorem decode_two {n b0 b1 b2 b3 : Nat} (c1 : b0 / 32 = 6) (c2 : 1 < n) (c3 : b1 / 64 = 2) (c4 : 128 ≤ b0 % 32 * 64 + b1 % 64) : Lib.decodeN n b0 b1 b2 b3 = (b0 % 32 * 64 + b1 % 64, 2) := by
  unfold Lib.decodeN
  rw [if_neg (by omega), if_pos ⟨c1, c2, c3⟩, if_pos c4]
theorem decode_three {n b0 b1 b2 b3 : Nat} (c1 : b0 / 16 = 14) (c2 : 2 < n) (c3 : b1 / 64 = 2) (c4 : b2 / 64 = 2) (c5 : 2048 ≤ b0 % 16 * 4096 + b1 % 64 * 64 + b2 % 64) (c6 : b0 % 16 * 4096 + b1 % 64 * 64 + b2 % 64 < 55296 ∨ 57344 ≤ b0 % 16 * 4096 + b1 % 64 * 64 + b2 % 64) : Lib.decodeN n b0 b1 b2 b3 = (b0 % 16 * 4096 + b1 % 64 * 64 + b2 % 64, 3) := by
  unfold Lib.decodeN
  rw [if_neg (by omega), if_neg (by omega), if_pos ⟨c1, ⟨by omega, c3⟩, by omega, c4⟩, if_pos ⟨c5, by omega⟩]
theorem decode_four {n b0 b1 b2 b3 : Nat} (c1 : b0 / 8 = 30) (c2 : 3 < n) (c3 : b1 / 64 = 2) (c4 : b2 / 64 = 2) (c5 : b3 / 64 = 2) (c6 : 65536 ≤ b0 % 8 * 262144 + b1 % 64 * 4096 + b2 % 64 * 64 + b3 % 64) (c7 : b0 % 8 * 262144 + b1 % 64 * 4096 + b2 % 64 * 64 + b3 % 64 ≤ 1114111) : Lib.decodeN n b0 b1 b2 b3 = (b0 % 8 * 262144 + b1 % 64 * 4096 + b2 % 64 * 64 + b3 % 64, 4) := by
  unfold Lib.decodeN
  rw [if_neg (by omega), if_neg (by omega), if_neg (by omega), if_pos ⟨c1, ⟨by omega, c3⟩, ⟨by omega, c4⟩, c2, c5⟩, if_pos ⟨c6, by omega⟩]
/-- A rune that is well formed stays so whatever follows; its width is its code's. -/
theorem decode_stable (l x : List UInt8) (hne : l ≠ []) (hc : (Lib.decodeL l).1 ≠ 65533) : Lib.decodeL (l ++ x) = Lib.decodeL l ∧ (Lib.decodeL l).2 ≤ l.length ∧ (Utf8.encode ((Lib.decodeL l).1 : Nat)).size = (Lib.decodeL l).2 := by
  have hl : 0 < l.length := List.length_pos_iff.2 hne
  rw [Lib.decodeL_N, Lib.decodeL_N] at *
  have hx : l.length ≤ (l ++ x).length := by simp
  rcases Lib.decodeN_shape l.length (l.getD 0 0).toNat (l.getD 1 0).toNat (l.getD 2 0).toNat (l.getD 3 0).toNat with ⟨c, e⟩ | ⟨c1, c2, c3, cv, e⟩ | ⟨c1, c2, c3, c4, cv, cs, e⟩ | ⟨c1, c2, c3, c4, c5, cv, cw, e⟩ | e
  · rw [e, getD_app hl]
    refine ⟨?_, hl, ?_⟩
    · unfold Lib.decodeN; rw [if_pos c]
    · unfold Utf8.encode Utf8.valid
      have h1 : ((l.getD 0 0).toNat : Int) < 55296 := by omega
      have h0 : (0 : Int) ≤ ((l.getD 0 0).toNat : Int) := by omega
      simp only [h1, h0, decide_true, Bool.and_self, Bool.true_or, if_true, Int.toNat_natCast, c]
      rfl
  · have k1 := (l.getD 1 0).toNat_lt
    rw [e, getD_app hl, getD_app (show 1 < l.length by omega)]
    refine ⟨decode_two c1 (by omega) c3 cv, by omega, ?_⟩
    generalize hz : (l.getD 0 0).toNat % 32 * 64 + (l.getD 1 0).toNat % 64 = z at *
    unfold Utf8.encode Utf8.valid
    have h1 : (z : Int) < 55296 := by omega
    have h0 : (0 : Int) ≤ (z : Int) := by omega
    simp only [h1, h0, decide_true, Bool.and_self, Bool.true_or, if_true, Int.toNat_natCast]
    rw [if_neg (by omega), if_pos (by omega)]
    rfl
  · rw [e, getD_app hl, getD_app (show 1 < l.length by omega), getD_app (show 2 < l.length by omega)]
    refine ⟨decode_three c1 (by omega) c3 c4 cv cs, by omega, ?_⟩
    have hz2 : (l.getD 0 0).toNat % 16 * 4096 + (l.getD 1 0).toNat % 64 * 64 + (l.getD 2 0).toNat % 64 < 65536 := by omega
    generalize hz : (l.getD 0 0).toNat % 16 * 4096 + (l.getD 1 0).toNat % 64 * 64 + (l.getD 2 0).toNat % 64 = z at *
    have hv : Utf8.valid (z : Int) = true := by
      unfold Utf8.valid
      simp only [Bool.or_eq_true, Bool.and_eq_true, decide_eq_true_eq]
      omega
    unfold Utf8.encode
    simp only [hv, if_true, Int.toNat_natCast]
    rw [if_neg (by omega), if_neg (by omega), if_pos (by omega)]
    rfl
  · rw [e, getD_app hl, getD_app (show 1 < l.length by omega), getD_app (show 2 < l.length by omega), getD_app (show 3 < l.length by omega)]
    refine ⟨decode_four c1 (by omega) c3 c4 c5 cv cw, by omega, ?_⟩
    generalize hz : (l.getD 0 0).toNat % 8 * 262144 + (l.getD 1 0).toNat % 64 * 4096 + (l.getD 2 0).toNat % 64 * 64 + (l.getD 3 0).toNat % 64 = z at *
    have hv : Utf8.valid (z : Int) = true := by
      unfold Utf8.valid
      simp only [Bool.or_eq_true, Bool.and_eq_true, decide_eq_true_eq]
      omega
    unfold Utf8.encode
    simp only [hv, if_true, Int.toNat_natCast]
    rw [if_neg (by omega), if_neg (by omega), if_neg (by omega)]
    rfl
  · rw [e] at hc
    exact absurd rfl hc
theorem runesL_app (x : List UInt8) : ∀ (n : Nat) (v : List UInt8) (off : Nat), v.length ≤ n → (∀ p ∈ runesL v off, p.2 ≠ 65533) → runesL (v ++ x) off = runesL v off ++ runesL x (off + v.length)
  | n, [], off, _, _ => by simp [runesL_nil]
  | 0, a :: r, off, h, _ => by simp at h
  | n + 1, a :: r, off, h, hg => by
    have hne : (a :: r) ≠ [] := by simp
    have hnx : (a :: r) ++ x ≠ [] := by simp
    rw [runesL_ne hne off] at hg ⊢
    have h0 := hg _ (List.mem_cons_self ..)
    obtain ⟨s1, s2, _⟩ := decode_stable (a :: r) x hne h0
    have hp := decodeL_pos (a :: r)
    have hd : ((a :: r) ++ x).drop (Lib.decodeL (a :: r)).2 = (a :: r).drop (Lib.decodeL (a :: r)).2 ++ x := by
      rw [List.drop_append_of_le_length s2]
    rw [runesL_ne hnx off, s1, hd, runesL_app x n _ _ (by rw [List.length_drop]; omega) (fun p hp => hg p (List.mem_cons_of_mem _ hp)), List.cons_append, List.length_drop]
    rw [show off + (Lib.decodeL (a :: r)).2 + ((a :: r).length - (Lib.decodeL (a :: r)).2) = off + (a :: r).length by omega]
theorem runesL_fit : ∀ (n : Nat) (v : List UInt8) (off : Nat), v.length ≤ n → (∀ p ∈ runesL v off, p.2 ≠ 65533) → ∀ p ∈ runesL v off, p.1 + (Utf8.encode (p.2 : Nat)).size ≤ off + v.length
  | n, [], off, _, _ => by simp [runesL_nil]
  | 0, a :: r, off, h, _ => by simp at h
  | n + 1, a :: r, off, h, hg => by
    have hne : (a :: r) ≠ [] := by simp
    rw [runesL_ne hne off] at hg ⊢
    have h0 := hg _ (List.mem_cons_self ..)
    obtain ⟨s1, s2, s3⟩ := decode_stable (a :: r) [] hne h0
    have hp := decodeL_pos (a :: r)
    intro p hpm
    rw [List.mem_cons] at hpm
    rcases hpm with rfl | hpm
    · simp only [s3]; omega
    · have := runesL_fit n _ _ (by rw [List.length_drop]; omega) (fun p hp => hg p (List.mem_cons_of_mem _ hp)) p hpm
      rw [List.length_drop] at this
      omega
theorem runesL_ascii (d : UInt8) (r : List UInt8) (off : Nat) (h : d.toNat < 128) : runesL (d :: r) off = (off, d.toNat) :: runesL r (off + 1) := by
  have e : Lib.decodeL (d :: r) = (d.toNat, 1) := by
    rw [Lib.decodeL_N]; unfold Lib.decodeN
    rw [if_pos (by simpa using h)]; simp
  rw [runesL_ne (by simp) off, e]
  simp
end Go.Proofs.YtphnfbjbpbfpkaaDoor
