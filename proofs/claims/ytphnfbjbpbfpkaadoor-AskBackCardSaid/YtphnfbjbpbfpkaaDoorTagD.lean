/- tag.Next and tag.Fields. -/
import Derived.Test.YtphnfbjbpbfpkaaDoorTagC
namespace Go.Proofs.YtphnfbjbpbfpkaaDoor
open Go.RowKit

theorem numberL_ok {m : Nat} : ∀ (l : List (Nat × Nat)) (t : Int), 0 ≤ t → t ≤ 99999 → (∀ p ∈ l, p.1 < m) → (numberL l t).2.2 = 0 →
    0 ≤ (numberL l t).1 ∧ (numberL l t).1 ≤ 99999 ∧ 1 ≤ (numberL l t).2.1 ∧ (numberL l t).2.1 ≤ m
  | [], t, _, _, _, h => by simp [numberL] at h
  | (i, c) :: r, t, h0, h1, hl, h => by
    have hi := hl _ (List.mem_cons_self ..)
    by_cases c1 : (c : Int) = 61 ∧ 0 < (i : Int)
    · rw [numberL_some (numStep_61 c1)]
      simp only at hi ⊢
      omega
    by_cases c2 : (c : Int) < 48 ∨ 57 < (c : Int) ∨ ((c : Int) = 48 ∧ (i : Int) = 0) ∨ 99999 < 10 * t + (c - 48)
    · rw [numberL_some (numStep_80 c1 c2)] at h
      simp at h
    · rw [numberL_none (numStep_none c1 c2)] at h ⊢
      exact numberL_ok r _ (by omega) (by omega) (fun p hp => hl p (List.mem_cons_of_mem _ hp)) h
theorem numberR_ok (s : ByteArray) (h : (numberR s).2.2 = 0) : 0 ≤ (numberR s).1 ∧ (numberR s).1 ≤ 99999 ∧ 1 ≤ (numberR s).2.1 ∧ (numberR s).2.1 ≤ s.size :=
  numberL_ok _ _ (by omega) (by omega) (fun p hp => runesF_lt s _ _ p hp) h

def noFld : Fld := ⟨0, ⟨#[]⟩⟩
structure NextR where
  f : Fld
  n : Nat
  e : Int
def nextR (s : ByteArray) : NextR :=
  if (numberR s).2.2 = 0 then
    if (textR (s.extract (numberR s).2.1.toNat s.size)).2 = 0 then
      ⟨⟨(numberR s).1, textS (s.extract (numberR s).2.1.toNat s.size)⟩, (numberR s).2.1.toNat + (textS (s.extract (numberR s).2.1.toNat s.size)).size + 1, 0⟩
    else ⟨noFld, 0, (textR (s.extract (numberR s).2.1.toNat s.size)).2⟩
  else ⟨noFld, 0, (numberR s).2.2⟩
theorem size_extract_le (s : ByteArray) (a b : Nat) : (s.extract a b).size ≤ s.size := by
  rw [ByteArray.size_extract]; omega
theorem textS_size (s : ByteArray) : (textS s).size ≤ s.size := by
  unfold textS
  split
  · exact size_extract_le _ _ _
  · exact Nat.zero_le _

section
variable (w : World)
set_option maxHeartbeats 2000000 in
set_option maxRecDepth 100000 in
theorem next_calls (s : ByteArray) (hs : s.size ≤ 70368744177664) : Calls Tryd.prog 45 #[.string s] w fun e w' => e = .returned (.tuple #[.agg #[.int .i64 (nextR s).f.tag, .string (nextR s).f.val], .int .i64 (nextR s).n, .int .i64 (nextR s).e]) ∧ Ext w w' := by
  have hm : s.size ≤ maxLen := by unfold maxLen; omega
  have hN := fun W => number_calls W s hm
  clear hm
  have hx0 := (Ext.refl w).alloc (.cells #[.int .i64 0, .string ⟨#[]⟩] 55)
  by_cases h1 : (numberR s).2.2 = 0
  · obtain ⟨b1, b2, b3, b4⟩ := numberR_ok s h1
    obtain ⟨n, hn⟩ := Int.eq_ofNat_of_zero_le (show 0 ≤ (numberR s).2.1 by omega)
    have e1 : ((numberR s).2.2 != 0) = false := by rw [h1]; rfl
    have hsz : (s.extract n s.size).size ≤ 70368744177664 := Nat.le_trans (size_extract_le _ _ _) hs
    have htn := textS_size (s.extract n s.size)
    rw [ByteArray.size_extract] at htn
    have hT := fun W => text_calls W (s.extract n s.size) hsz
    rw [hn, h1] at hN
    have hge : (n : Int) ≤ s.size := by omega
    have hge2 : (0 : Int) ≤ n := by omega
    by_cases h2 : (textR (s.extract n s.size)).2 = 0
    · have H := Lib.hid (show nextR s = ⟨⟨(numberR s).1, textS (s.extract n s.size)⟩, n + (textS (s.extract n s.size)).size + 1, 0⟩ by
        unfold nextR
        rw [if_pos h1, hn, Int.toNat_natCast, if_pos h2])
      rw [h2] at hT
      generalize (numberR s).1 = t at *
      generalize textS (s.extract n s.size) = v at *
      have HN := Lib.hid hN
      have HT := Lib.hid hT
      have hv1 : v.size ≤ 70368744177664 := by omega
      have hn1 : n ≤ 70368744177664 := by omega
      have hmin : (n : Nat) ≤ s.size := by omega
      clear hN hT h1 h2 e1 hn htn hsz
      go_enter Tryd.func45, Tryd.ntmps45
      go_wp2_with (first
        | (go_at_call 58; refine (HN.out _).mono ?_; rintro e w1 ⟨rfl, hb1⟩; obtain ⟨hc, hf⟩ := hb1.cells)
        | (go_at_call 59; refine (HT.out _).mono ?_; rintro e w2 ⟨rfl, hb2⟩; have hb12 := hb1.trans hb2; obtain ⟨hc2, hf2⟩ := hb12.cells; clear hc hf))
      have hh := heap_set_at (i := 1) (heap_set_at (i := 0) (hb2.heap (hb1.heap (heap_alloc_at w (.cells #[.int .i64 0, .string ⟨#[]⟩] 55)))) (.int .i64 t)) (.string v)
      refine bodyPost_ret (v := .tuple #[.agg #[.int .i64 t, .string v], .int .i64 ((n : Int) + (v.size : Int) + 1), .int .i64 0]) (by simp [results, Tryd.results45, go_sem, cell_of hh]) rfl ⟨by rw [H.out]; rfl, ?_⟩
      exact ((((hx0.trans hb1).trans hb2).setCell (Nat.le_refl _) _).setCell (Nat.le_refl _) _)
    · have H := Lib.hid (show nextR s = ⟨noFld, 0, (textR (s.extract n s.size)).2⟩ by
        unfold nextR
        rw [if_pos h1, hn, Int.toNat_natCast, if_neg h2])
      have e2 : ((textR (s.extract n s.size)).2 != 0) = true := by rw [bne_iff_ne]; exact h2
      have HN := Lib.hid hN
      have HT := Lib.hid hT
      have hmin : (n : Nat) ≤ s.size := by omega
      clear hN hT h1 h2 e1 hn htn hsz
      go_enter Tryd.func45, Tryd.ntmps45
      go_wp2_with (first
        | (go_at_call 58; refine (HN.out _).mono ?_; rintro e w1 ⟨rfl, hb1⟩; obtain ⟨hc, hf⟩ := hb1.cells)
        | (go_at_call 59; refine (HT.out _).mono ?_; rintro e w2 ⟨rfl, hb2⟩; have hb12 := hb1.trans hb2; obtain ⟨hc2, hf2⟩ := hb12.cells; clear hc hf))
      have hh := heap_set_at (i := 1) (heap_set_at (i := 0) (hb2.heap (hb1.heap (heap_alloc_at w (.cells #[.int .i64 0, .string ⟨#[]⟩] 55)))) (.int .i64 0)) (.string ⟨#[]⟩)
      refine bodyPost_ret (v := .tuple #[.agg #[.int .i64 0, .string ⟨#[]⟩], .int .i64 0, .int .i64 (textR (s.extract n s.size)).2]) (by simp [results, Tryd.results45, go_sem, cell_of hh]) rfl ⟨by rw [H.out]; rfl, ?_⟩
      exact ((((hx0.trans hb1).trans hb2).setCell (Nat.le_refl _) _).setCell (Nat.le_refl _) _)
  · have e1 : ((numberR s).2.2 != 0) = true := by rw [bne_iff_ne]; exact h1
    have H := Lib.hid (show nextR s = ⟨noFld, 0, (numberR s).2.2⟩ by unfold nextR; rw [if_neg h1])
    clear h1
    go_enter Tryd.func45, Tryd.ntmps45
    go_wp2_with (go_at_call 58; refine (hN _).mono ?_; rintro e w1 ⟨rfl, hb1⟩; obtain ⟨hc, hf⟩ := hb1.cells)
    have hh := heap_set_at (i := 1) (heap_set_at (i := 0) (hb1.heap (heap_alloc_at w (.cells #[.int .i64 0, .string ⟨#[]⟩] 55))) (.int .i64 0)) (.string ⟨#[]⟩)
    refine bodyPost_ret (v := .tuple #[.agg #[.int .i64 0, .string ⟨#[]⟩], .int .i64 0, .int .i64 (numberR s).2.2]) (by simp [results, Tryd.results45, go_sem, cell_of hh]) rfl ⟨by rw [H.out]; rfl, ?_⟩
    exact (((hx0.trans hb1).setCell (Nat.le_refl _) _).setCell (Nat.le_refl _) _)
end

/-! ### all fields of a text -/
def fieldsF (s : ByteArray) : Nat → Nat → List Fld → List Fld × Nat × Int
  | 0, a, acc => (acc, a, 0)
  | f + 1, a, acc =>
    if a < s.size then
      if acc.length = 64 then (acc, a, 3)
      else if (nextR (s.extract a s.size)).e = 0 then fieldsF s f (a + (nextR (s.extract a s.size)).n) (acc ++ [(nextR (s.extract a s.size)).f])
      else (acc, a, (nextR (s.extract a s.size)).e)
    else (acc, a, 0)
def fieldsR (s : ByteArray) : List Fld × Nat × Int := fieldsF s s.size 0 []
theorem textL_lt {m : Nat} : ∀ (l : List (Nat × Nat)) (a : Nat), (∀ p ∈ l, p.1 < m) → (textL l a).2 = 0 → (textL l a).1 < m
  | [], a, _, h => by simp [textL] at h
  | (i, c) :: r, a, hl, h => by
    have hi := hl _ (List.mem_cons_self ..)
    unfold textL at h ⊢
    split
    · exact hi
    · rename_i c1
      rw [if_neg c1] at h
      split
      · exact hi
      · rename_i c2
        rw [if_neg c2] at h
        exact textL_lt r i (fun p hp => hl p (List.mem_cons_of_mem _ hp)) h
theorem textR_lt (s : ByteArray) (h : (textR s).2 = 0) : (textR s).1 < s.size := textL_lt _ _ (fun p hp => runesF_lt s _ _ p hp) h
theorem textS_lt (s : ByteArray) (h : (textR s).2 = 0) : (textS s).size + 1 ≤ s.size := by
  have := textR_lt s h
  unfold textS
  rw [if_pos h, ByteArray.size_extract]
  omega
theorem nextR_ok (s : ByteArray) (h : (nextR s).e = 0) : 2 ≤ (nextR s).n ∧ (nextR s).n ≤ s.size := by
  unfold nextR at h ⊢
  by_cases h1 : (numberR s).2.2 = 0
  · obtain ⟨b1, b2, b3, b4⟩ := numberR_ok s h1
    rw [if_pos h1] at h ⊢
    by_cases h2 : (textR (s.extract (numberR s).2.1.toNat s.size)).2 = 0
    · rw [if_pos h2]
      have := textS_lt _ h2
      rw [ByteArray.size_extract] at this
      simp only
      omega
    · rw [if_neg h2] at h
      exact absurd h h2
  · rw [if_neg h1] at h
    exact absurd h h1
theorem fldInfo : (Tryd.prog.info? 55).map (fun i => (i.zero, i.size, i.bytes)) = some (some (.agg #[.int .i64 0, .string ⟨#[]⟩]), 2, 24) := by kernel_rfl
def FieldsPost (w : World) (s : ByteArray) (e : Ending) (w' : World) : Prop :=
  ∃ v, e = .returned (.tuple #[v, .int .i64 (fieldsR s).2.1, .int .i64 (fieldsR s).2.2]) ∧ w'.ownsRow w.heap.size 55 2 v (fieldsR s).1.length (fcells (fieldsR s).1) ∧ Ext w w'

set_option maxHeartbeats 2000000 in
set_option maxRecDepth 100000 in
theorem fields_calls (w : World) (s : ByteArray) (hs : s.size ≤ 70368744177664) : Calls Tryd.prog 30 #[.string s] w (FieldsPost w s) := by
  obtain ⟨i0, hi, hz0, hz1, hz2⟩ := info_parts fldInfo
  go_enter Tryd.func30, Tryd.ntmps30
  go_wp2
  go_loopw [2, 3] (fun sv a wr => ∃ (v : Value) (p fuel : Nat) (acc : List Fld), v = sv ∧ a = .int .i64 p ∧ p ≤ s.size ∧ s.size ≤ p + fuel ∧ acc.length ≤ 64 ∧ wr.ownsRow w.heap.size 55 2 v acc.length (fcells acc) ∧ Ext w wr ∧ Hid (fieldsF s fuel p acc = fieldsR s)) (fun _ a _ => s.size - (intOf a).toNat)
  case atStart => exact ⟨_, 0, s.size, [], rfl, rfl, by omega, by omega, by simp, World.ownsRow_nil _ _ _ _, Ext.refl _, Lib.hid rfl⟩
  case round =>
    obtain ⟨v, p, fuel, acc, rfl, rfl, hp, hfu, hacc, hown, hx, hf⟩ := hrel
    obtain ⟨A, cap, rfl⟩ : ∃ A cap, v = .slice A acc.length cap := by
      obtain ⟨A, cap, h, _⟩ := SlAt.form (SlAt.of_own hown)
      exact ⟨A, cap, h⟩
    have hfin : fieldsR s = (acc, p, (fieldsR s).2.2) → FieldsPost w s (.returned (.tuple #[.slice A acc.length cap, .int .i64 p, .int .i64 (fieldsR s).2.2])) wr := by
      intro h
      refine ⟨_, by rw [h], ?_, hx⟩
      rw [h]
      exact hown
    have HF := Lib.hid hfin
    clear hfin
    by_cases hlt : p < s.size
    · obtain ⟨f, rfl⟩ : ∃ f, fuel = f + 1 := ⟨fuel - 1, by omega⟩
      have HS := Lib.hid (show fieldsF s (f + 1) p acc = if acc.length = 64 then (acc, p, 3) else if (nextR (s.extract p s.size)).e = 0 then fieldsF s f (p + (nextR (s.extract p s.size)).n) (acc ++ [(nextR (s.extract p s.size)).f]) else (acc, p, (nextR (s.extract p s.size)).e) by rw [fieldsF, if_pos hlt])
      by_cases h64 : acc.length = 64
      · have HR := Lib.hid (show fieldsR s = (acc, p, 3) by rw [← hf.out, HS.out, if_pos h64])
        have k1 : ((acc.length : Int) == 64) = true := beq_iff_eq.mpr (by omega)
        clear h64
        go_wp2
        go_ret3
        have := HF.out (by rw [HR.out])
        rw [HR.out] at this
        exact this
      · have k1 : ((acc.length : Int) == 64) = false := beq_eq_false_iff_ne.mpr (by omega)
        have hac2 : acc.length < 64 := by omega
        have hsz : (s.extract p s.size).size ≤ 70368744177664 := Nat.le_trans (size_extract_le _ _ _) hs
        have HN := Lib.hid (fun W => next_calls W (s.extract p s.size) hsz)
        have hok := nextR_ok (s.extract p s.size)
        rw [ByteArray.size_extract] at hok
        generalize nextR (s.extract p s.size) = r at *
        obtain ⟨⟨rt, rv⟩, rn, re⟩ := r
        simp only at hok HS HN
        clear h64 hsz
        by_cases he : re = 0
        · subst he
          obtain ⟨hr1, hr2⟩ := hok rfl
          clear hok
          have hr3 : rn ≤ 70368744177664 := by omega
          have hp3 : p ≤ 70368744177664 := by omega
          go_wp2_with (first
            | (go_at_call 45; refine (HN.out _).mono ?_; rintro e w1 ⟨rfl, hb1⟩; obtain ⟨hc, hf1⟩ := hb1.cells)
            | (at_builtin; refine wpList_append_own _ rfl _ _ 37 rfl w.heap.size 55 i0 _ 2 24 Tryd.underlying37 hi hz0 hz1 hz2 rfl (by decide) _ _ _ rfl (ownsRow_ext hown ((hb1.alloc _).alloc _)) ⟨w1.heap.size + 1, 0, none⟩ 1 1 [.int .i64 rt, .string rv] rfl rfl ?c1 ?c2 ?c3 ?c4 ?c5 ?_))
          case c1 => exact fresh_cells [.int .i64 rt, .string rv] (by simp)
          case c2 => intro u hu; simp at hu; rcases hu with rfl | rfl <;> rfl
          case c3 => unfold maxLen; omega
          case c4 => omega
          case c5 => have := hb1.size; simp; have := hx.size; omega
          intro v' w2 hown' hgrow _
          have hx2 : Ext w w2 := ((((hx.trans hb1).alloc _).alloc _).grown hgrow (ownsRow_block (ownsRow_ext hown ((hb1.alloc (.cells #[.int .i64 rt, .string rv] 55)).alloc (.cells #[.int .i64 rt, .string rv] 55)))))
          have hf2 := Lib.hid (show fieldsF s f (p + rn) (acc ++ [⟨rt, rv⟩]) = fieldsR s by rw [← hf.out, HS.out, if_neg (by omega), if_pos trivial])
          clear hc hf1 HN hown hb1 hgrow hx
          go_wp2
          go_roundw
          case rel => exact ⟨v', p + rn, f, acc ++ [⟨rt, rv⟩], rfl, by go_num, by omega, by omega, by simp; omega, by simpa [fcells] using hown', hx2, hf2⟩
          case measure => simp [intOf]; omega
        · have HR := Lib.hid (show fieldsR s = (acc, p, re) by rw [← hf.out, HS.out, if_neg (by omega), if_neg he])
          have k2 : (re != 0) = true := by rw [bne_iff_ne]; exact he
          clear hok he
          go_wp2_with (go_at_call 45; refine (HN.out _).mono ?_; rintro e w1 ⟨rfl, hb1⟩; obtain ⟨hc, hf1⟩ := hb1.cells)
          go_ret3
          have := HF.out (by rw [HR.out])
          rw [HR.out] at this
          obtain ⟨v, hv, hown', hx'⟩ := this
          exact ⟨v, hv, ownsRow_ext hown' (hb1.alloc _), hx'.trans (hb1.alloc _)⟩
    · have HR := Lib.hid (show fieldsR s = (acc, p, 0) by
        rw [← hf.out]
        cases fuel with
        | zero => rfl
        | succ f => rw [fieldsF, if_neg hlt])
      go_wp2
      go_ret3
      have := HF.out (by rw [HR.out])
      rw [HR.out] at this
      exact this
end Go.Proofs.YtphnfbjbpbfpkaaDoor
