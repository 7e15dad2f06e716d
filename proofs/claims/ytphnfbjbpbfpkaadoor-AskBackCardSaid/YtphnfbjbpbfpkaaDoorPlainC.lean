/- PLAIN LAW: values that are well formed; lists of numbers written and read. -/
import Derived.Test.YtphnfbjbpbfpkaaDoorPlainB
import Derived.Test.YtphnfbjbpbfpkaaDoorAskG
import Derived.Lib.SplitLaws
namespace Go.Proofs.YtphnfbjbpbfpkaaDoor
open Go.RowKit
set_option maxRecDepth 100000
attribute [local irreducible] Utf8.encode

/-! ### names -/
theorem width_le4 (l : List UInt8) : (Lib.decodeL l).2 ≤ 4 := by
  rw [Lib.decodeL_N]
  rcases Lib.decodeN_shape l.length (l.getD 0 0).toNat (l.getD 1 0).toNat (l.getD 2 0).toNat (l.getD 3 0).toNat with ⟨c, e⟩ | ⟨c1, c2, c3, cv, e⟩ | ⟨c1, c2, c3, c4, cv, cs, e⟩ | ⟨c1, c2, c3, c4, c5, cv, cw, e⟩ | e
  all_goals (rw [e]; simp)
theorem runesL_long : ∀ (n : Nat) (v : List UInt8) (off : Nat), v.length ≤ n → v.length ≤ 4 * (runesL v off).length
  | n, [], off, _ => by simp
  | 0, a :: r, off, h => by simp at h
  | n + 1, a :: r, off, h => by
    have hp := decodeL_pos (a :: r)
    have h4 := width_le4 (a :: r)
    have := runesL_long n ((a :: r).drop (Lib.decodeL (a :: r)).2) (off + (Lib.decodeL (a :: r)).2) (by rw [List.length_drop]; omega)
    rw [runesL_ne (by simp) off]
    rw [List.length_drop] at this
    have e : ∀ (q : Nat × Nat) (t : List (Nat × Nat)), (q :: t).length = t.length + 1 := fun _ _ => rfl
    rw [e]
    omega
theorem validL_ok : ∀ (rs : List (Nat × Nat)) (n : Nat), validL rs n = true → (rs = [] ∨ rs.length + n ≤ 20) ∧ 0 < rs.length + n ∧ ∀ p ∈ rs, mayB p.2 = true
  | [], n, h => by simp only [validL, decide_eq_true_eq] at h; exact ⟨.inl rfl, by simpa using h, by simp⟩
  | (i, c) :: r, n, h => by
    simp only [validL] at h
    split at h
    · cases h
    · split at h
      · rename_i h1 h2
        obtain ⟨i1, i2, i3⟩ := validL_ok r (n + 1) h
        refine ⟨.inr ?_, by simp; omega, fun p hp => ?_⟩
        · rcases i1 with rfl | i1
          · simp; omega
          · simp only [List.length_cons]; omega
        · rw [List.mem_cons] at hp
          rcases hp with rfl | hp
          · exact h2
          · exact i3 p hp
      · cases h
theorem valueL_of : ∀ rs : List (Nat × Nat), (∀ p ∈ rs, vmayB p.2 = true) → valueL rs = true
  | [], _ => rfl
  | (i, c) :: r, h => by
    have := h _ (List.mem_cons_self ..)
    simp only at this
    simp only [valueL]
    rw [if_pos this]
    exact valueL_of r (fun p hp => h p (List.mem_cons_of_mem _ hp))
theorem valid_value {s : ByteArray} (h : validB s = true) : valueB s = true := by
  unfold validB at h
  rw [runesAt_L] at h
  obtain ⟨h1, h2, h3⟩ := validL_ok _ _ h
  have h4 := runesL_long _ s.data.toList 0 (Nat.le_refl _)
  rw [toList_size] at h4
  have hne : runesL s.data.toList 0 ≠ [] := by
    intro e; rw [e] at h2; simp at h2
  have hpos : 0 < s.size := by
    rw [← toList_size, List.length_pos_iff]
    intro e; rw [e] at hne; exact hne rfl
  have hv : valueL (runesAt s 0) = true := by
    rw [runesAt_L]
    refine valueL_of _ (fun p hp => ?_)
    have := h3 p hp
    simp only [mayB, vmayB, Bool.and_eq_true, decide_eq_true_eq, bne_iff_ne] at this ⊢
    omega
  unfold valueB
  rw [hv]
  have : s.size ≤ 80 := by
    rcases h1 with h1 | h1
    · exact absurd h1 hne
    · omega
  simp; omega

/-! ### values of plain bytes -/
def plainB (b : UInt8) : Bool := decide (32 ≤ b.toNat) && decide (b.toNat < 127)
theorem plain_value : ∀ (l : List UInt8) (off : Nat), l.all plainB = true → valueL (runesL l off) = true
  | [], off, _ => rfl
  | b :: r, off, h => by
    simp only [List.all_cons, Bool.and_eq_true] at h
    have h1 := h.1
    simp only [plainB, Bool.and_eq_true, decide_eq_true_eq] at h1
    rw [runesL_ascii b r off (by omega)]
    simp only [valueL]
    rw [if_pos (by simp only [vmayB, Bool.and_eq_true, decide_eq_true_eq, bne_iff_ne]; omega)]
    exact plain_value r _ h.2
theorem plain_valueB (l : List UInt8) (h : l.all plainB = true) (h1 : 1 ≤ l.length) (h2 : l.length ≤ 512) : valueB (bytesOf l) = true := by
  unfold valueB
  rw [runesAt_L, bytesOf_toList, plain_value l 0 h, bytesOf_size]
  simp; omega
theorem dig_plain : ∀ l : List UInt8, l.all digB = true → l.all plainB = true
  | [], _ => rfl
  | b :: r, h => by
    simp only [List.all_cons, Bool.and_eq_true] at h ⊢
    have := dig_of h.1
    exact ⟨by simp [plainB]; omega, dig_plain r h.2⟩
theorem nDigits_le : ∀ (k u : Nat), u < 10 ^ (k + 1) → Lib.nDigits u ≤ k + 1
  | 0, u, h => by rw [Lib.nDigits_small (by simpa using h)]; omega
  | k + 1, u, h => by
    by_cases hu : u < 10
    · rw [Lib.nDigits_small hu]; omega
    · rw [Lib.nDigits_big hu]
      have := nDigits_le k (u / 10) (by rw [Nat.pow_succ] at h; omega)
      omega
theorem itoa_value (n : Int) (h0 : 0 ≤ n) (h1 : n ≤ 9223372036854775807) : valueB (bytesOf (Lib.itoa n)) = true := by
  have hl := Lib.itoa_length_le n (by omega) h1
  obtain ⟨u, rfl⟩ := Int.eq_ofNat_of_zero_le h0
  obtain ⟨i1, i2, i3, i4⟩ := decDigits_ok u
  rw [Lib.itoa_nonneg] at *
  exact plain_valueB _ (dig_plain _ i1) (List.length_pos_iff.2 i3) (by omega)

/-! ### lists of numbers -/
theorem join_plain : ∀ (xs : List (List UInt8)), (∀ x ∈ xs, x.all plainB = true) → (Lib.join xs [44]).all plainB = true := by
  have tail : ∀ r : List (List UInt8), (∀ x ∈ r, x.all plainB = true) → (Lib.joinTail [44] r).all plainB = true := by
    intro r h
    induction r with
    | nil => rfl
    | cons y r ih =>
      have e : Lib.joinTail [44] (y :: r) = 44 :: (y ++ Lib.joinTail [44] r) := by simp [Lib.joinTail]
      rw [e, List.all_cons, List.all_append, h y (List.mem_cons_self ..), ih (fun x hx => h x (List.mem_cons_of_mem _ hx))]
      decide
  intro xs h
  cases xs with
  | nil => rfl
  | cons x r =>
    rw [Lib.join_cons, List.all_append, h x (List.mem_cons_self ..), tail r (fun y hy => h y (List.mem_cons_of_mem _ hy))]
    rfl
theorem join_long (m : Nat) : ∀ (xs : List (List UInt8)), (∀ x ∈ xs, x.length ≤ m) → xs ≠ [] → (Lib.join xs [44]).length + 1 ≤ xs.length * (m + 1) := by
  have tail : ∀ r : List (List UInt8), (∀ x ∈ r, x.length ≤ m) → (Lib.joinTail [44] r).length ≤ r.length * (m + 1) := by
    intro r h
    induction r with
    | nil => simp [Lib.joinTail]
    | cons y r ih =>
      have e : Lib.joinTail [44] (y :: r) = 44 :: (y ++ Lib.joinTail [44] r) := by simp [Lib.joinTail]
      have h1 := h y (List.mem_cons_self ..)
      have h2 := ih (fun x hx => h x (List.mem_cons_of_mem _ hx))
      rw [e, List.length_cons, List.length_append, List.length_cons, Nat.succ_mul]
      omega
  intro xs h hne
  cases xs with
  | nil => exact absurd rfl hne
  | cons x r =>
    have h1 := h x (List.mem_cons_self ..)
    have h2 := tail r (fun y hy => h y (List.mem_cons_of_mem _ hy))
    rw [Lib.join_cons, List.length_append, List.length_cons, Nat.succ_mul]
    omega
theorem index_no : ∀ l : List UInt8, (44 : UInt8) ∉ l → Lib.index l [44] = -1
  | [], _ => rfl
  | b :: r, h => by
    have hb : (44 : UInt8) ≠ b := fun e => h (by rw [e]; exact List.mem_cons_self ..)
    have hr := index_no r (fun e => h (List.mem_cons_of_mem _ e))
    rw [Lib.index, if_neg (by simp [List.isPrefixOf, hb]), hr]
    rfl
theorem index_at (x : List UInt8) : ∀ l : List UInt8, (44 : UInt8) ∉ l → Lib.index (l ++ 44 :: x) [44] = (l.length : Int)
  | [], _ => by simp [Lib.index, List.isPrefixOf]
  | b :: r, h => by
    have hb : (44 : UInt8) ≠ b := fun e => h (by rw [e]; exact List.mem_cons_self ..)
    have hr := index_at x r (fun e => h (List.mem_cons_of_mem _ e))
    rw [List.cons_append, Lib.index, if_neg (by simp [List.isPrefixOf, hb]), hr]
    have : ((r.length : Int) == -1) = false := by rw [beq_eq_false_iff_ne]; omega
    rw [this]
    simp
theorem split_join : ∀ (r : List (List UInt8)) (x : List UInt8), (44 : UInt8) ∉ x → (∀ y ∈ r, (44 : UInt8) ∉ y) → Lib.splitK [44] 0 r.length (x ++ Lib.joinTail [44] r) = x :: r
  | [], x, _, _ => by simp [Lib.splitK, Lib.joinTail]
  | y :: r, x, hx, hr => by
    have e : Lib.joinTail [44] (y :: r) = 44 :: (y ++ Lib.joinTail [44] r) := by simp [Lib.joinTail]
    have hm : ((x.length : Int) == -1) = false := by rw [beq_eq_false_iff_ne]; omega
    rw [e, List.length_cons, Lib.splitK, index_at _ x hx, hm]
    simp only [Bool.false_eq_true, if_false, Int.toNat_natCast, Nat.add_zero, List.length_cons, List.length_nil, Nat.zero_add]
    have h1 : (x ++ 44 :: (y ++ Lib.joinTail [44] r)).take x.length = x := by simp
    have h2 : (x ++ 44 :: (y ++ Lib.joinTail [44] r)).drop (x.length + 1) = y ++ Lib.joinTail [44] r := by
      rw [show x ++ 44 :: (y ++ Lib.joinTail [44] r) = (x ++ [44]) ++ (y ++ Lib.joinTail [44] r) by simp]
      rw [List.drop_append_of_le_length (by simp), List.drop_eq_nil_of_le (by simp), List.nil_append]
    rw [h1, h2, split_join r y (hr y (List.mem_cons_self ..)) (fun z hz => hr z (List.mem_cons_of_mem _ hz))]
theorem count_join : ∀ (r : List (List UInt8)) (x : List UInt8), (44 : UInt8) ∉ x → (∀ y ∈ r, (44 : UInt8) ∉ y) → (x ++ Lib.joinTail [44] r).count 44 = r.length
  | [], x, hx, _ => by simp [Lib.joinTail, List.count_eq_zero_of_not_mem hx]
  | y :: r, x, hx, hr => by
    have e : Lib.joinTail [44] (y :: r) = 44 :: (y ++ Lib.joinTail [44] r) := by simp [Lib.joinTail]
    rw [e, List.count_append, List.count_eq_zero_of_not_mem hx, List.count_cons_self, count_join r y (hr y (List.mem_cons_self ..)) (fun z hz => hr z (List.mem_cons_of_mem _ hz)), List.length_cons]
    omega
theorem dig_no44 {l : List UInt8} (h : l.all digB = true) : (44 : UInt8) ∉ l := by
  intro hm
  rw [List.all_eq_true] at h
  have := dig_of (h _ hm)
  simp at this
theorem itoa_dig {n : Int} (h : 0 ≤ n) : (Lib.itoa n).all digB = true := by
  obtain ⟨u, rfl⟩ := Int.eq_ofNat_of_zero_le h
  rw [Lib.itoa_nonneg]
  exact (decDigits_ok u).1
theorem numsL_all : ∀ l : List Int, (∀ n ∈ l, 0 ≤ n ∧ n ≤ 9223372036854775807) → numsL (l.map (fun n => bytesOf (Lib.itoa n))) = some l
  | [], _ => rfl
  | n :: r, h => by
    have h1 := h n (List.mem_cons_self ..)
    simp only [List.map_cons, numsL]
    rw [numR_itoa n h1.1 h1.2]
    simp only
    rw [numsL_all r (fun m hm => h m (List.mem_cons_of_mem _ hm))]
    rfl
theorem numsR_text (n : Int) (r : List Int) (h : ∀ m ∈ n :: r, 0 ≤ m ∧ m ≤ 9223372036854775807) : numsR (numsText (n :: r)) = some (n :: r) := by
  have hx : (44 : UInt8) ∉ Lib.itoa n := dig_no44 (itoa_dig (h n (List.mem_cons_self ..)).1)
  have hr : ∀ y ∈ r.map Lib.itoa, (44 : UInt8) ∉ y := by
    intro y hy
    obtain ⟨m, hm, rfl⟩ := List.mem_map.1 hy
    exact dig_no44 (itoa_dig (h m (List.mem_cons_of_mem _ hm)).1)
  have hd : (numsText (n :: r)).data.toList = Lib.itoa n ++ Lib.joinTail [44] (r.map Lib.itoa) := by
    unfold numsText
    rw [bytesOf_toList, List.map_cons, Lib.join_cons]
  have hc : Lib.countB (numsText (n :: r)) comma = (r.map Lib.itoa).length := by
    have : Lib.countB (numsText (n :: r)) comma = Lib.count (numsText (n :: r)).data.toList [44] := rfl
    rw [this, Lib.count_one, hd, count_join _ _ hx hr]
  have hp : (partsOf (numsText (n :: r))).map (·.data.toList) = Lib.itoa n :: r.map Lib.itoa := by
    unfold partsOf
    rw [Lib.splitB_data, hc, hd]
    exact split_join _ _ hx hr
  have hq : partsOf (numsText (n :: r)) = (n :: r).map (fun m => bytesOf (Lib.itoa m)) := by
    have := congrArg (List.map bytesOf) hp
    rw [List.map_map] at this
    have e : (bytesOf ∘ fun s : ByteArray => s.data.toList) = id := by
      funext s; exact bytesOf_data s
    rw [e, List.map_id] at this
    rw [this]
    simp
  unfold numsR
  rw [hq]
  exact numsL_all _ h
end Go.Proofs.YtphnfbjbpbfpkaaDoor
