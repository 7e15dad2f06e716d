/- tag.number, tag.text, tag.Next, tag.Fields: reading fields back. -/
import Derived.Test.YtphnfbjbpbfpkaaDoorTagB
namespace Go.Proofs.YtphnfbjbpbfpkaaDoor
open Go.RowKit

def numStep (i c t : Int) : Option (Int × Int × Int) :=
  if c = 61 ∧ 0 < i then some (t, i + 1, 0)
  else if c < 48 ∨ 57 < c ∨ (c = 48 ∧ i = 0) then some (0, 0, 80)
  else if 99999 < 10 * t + (c - 48) then some (0, 0, 80) else none
def numberL : List (Nat × Nat) → Int → Int × Int × Int
  | [], _ => (0, 0, 82)
  | (i, c) :: r, t => match numStep i c t with
    | some x => x
    | none => numberL r (10 * t + (c - 48))
def numberR (s : ByteArray) : Int × Int × Int := numberL (runesAt s 0) 0
theorem numberL_some {i c : Nat} {r : List (Nat × Nat)} {t : Int} {x : Int × Int × Int} (h : numStep i c t = some x) : numberL ((i, c) :: r) t = x := by simp [numberL, h]
theorem numberL_none {i c : Nat} {r : List (Nat × Nat)} {t : Int} (h : numStep i c t = none) : numberL ((i, c) :: r) t = numberL r (10 * t + (c - 48)) := by simp [numberL, h]

theorem numStep_61 {i c t : Int} (h : c = 61 ∧ 0 < i) : numStep i c t = some (t, i + 1, 0) := by simp [numStep, h]
theorem numStep_80 {i c t : Int} (h : ¬ (c = 61 ∧ 0 < i)) (h2 : c < 48 ∨ 57 < c ∨ (c = 48 ∧ i = 0) ∨ 99999 < 10 * t + (c - 48)) : numStep i c t = some (0, 0, 80) := by
  unfold numStep
  rw [if_neg h]
  by_cases h3 : c < 48 ∨ 57 < c ∨ (c = 48 ∧ i = 0)
  · rw [if_pos h3]
  · rw [if_neg h3, if_pos (by omega)]
theorem numStep_none {i c t : Int} (h : ¬ (c = 61 ∧ 0 < i)) (h2 : ¬ (c < 48 ∨ 57 < c ∨ (c = 48 ∧ i = 0) ∨ 99999 < 10 * t + (c - 48))) : numStep i c t = none := by
  unfold numStep
  rw [if_neg h, if_neg (by omega), if_neg (by omega)]

section
variable (w : World)
set_option maxHeartbeats 2000000 in
theorem number_calls (s : ByteArray) (hs : s.size ≤ maxLen) : Calls Tryd.prog 58 #[.string s] w fun e w' => e = .returned (.tuple #[.int .i64 (numberR s).1, .int .i64 (numberR s).2.1, .int .i64 (numberR s).2.2]) ∧ Ext w w' := by
  unfold maxLen at hs
  go_enter Tryd.func58, Tryd.ntmps58
  go_wp2
  go_loopw [2] (fun t wr => ∃ (pos : Nat) (n : Int), t = .int .i64 n ∧ 0 ≤ n ∧ n ≤ 99999 ∧ wr.heap[w.heap.size]? = some (.stringIter s pos) ∧ Ext w wr ∧ Hid (numberL (runesAt s pos) n = numberR s)) (fun _ wr => s.size - wr.iterPos w.heap.size)
  case atStart => exact ⟨0, 0, rfl, by omega, by omega, World.iter_heap _ _ _, Ext.iter w s 0, Lib.hid rfl⟩
  case round =>
    obtain ⟨pos, n, rfl, hn0, hn1, hit, hbw, hv⟩ := hrel
    have hsz : w.heap.size ≤ w.heap.size := Nat.le_refl _
    by_cases hp : pos < s.size
    · have hnx := fun ty => next_some (P := Tryd.prog) hit hp ty
      have hwd := width_pos s pos hp
      have hd1 := decode_le s pos
      have hit2 := iter_next hit (pos + (Utf8.decode s pos).2)
      have hbw2 := hbw.iterAt hsz s (pos + (Utf8.decode s pos).2)
      have HM := Lib.hid (And.intro (iterPos_of hit) (iterPos_of hit2))
      rw [runesAt_lt s pos hp] at hv
      generalize hc : (Utf8.decode s pos).1 = c at *
      clear hc
      go_wp2
      all_goals (try simp only [beq_iff_eq, beq_eq_false_iff_ne, ne_eq] at *)
      all_goals first
        | (go_ret3
           refine ⟨?_, hbw2⟩
           rw [← hv.out]
           first
             | (rw [numberL_some (numStep_61 (by omega))]; rfl)
             | (rw [numberL_some (numStep_80 (by omega) (by omega))]; rfl))
        | (go_roundw
           case rel => exact ⟨_, _, rfl, by omega, by omega, hit2, hbw2, Lib.hid (by rw [← hv.out, numberL_none (numStep_none (by omega) (by omega))]; try (congr 1 <;> omega))⟩
           case measure => rw [HM.out.1, HM.out.2]; omega)
    · have hnx := fun ty => next_none (P := Tryd.prog) hit hp ty
      rw [runesAt_end s pos hp] at hv
      go_wp2
      go_ret3
      exact ⟨by rw [← hv.out]; rfl, hbw⟩

def textL : List (Nat × Nat) → Nat → Nat × Int
  | [], a => (a, 82)
  | (i, c) :: r, _ => if c = 1 ∧ 0 < i then (i, 0) else if vmayB c = false ∨ 512 < i + (Utf8.encode c).size then (i, 81) else textL r i
def textR (s : ByteArray) : Nat × Int := textL (runesAt s 0) 0
def textS (s : ByteArray) : ByteArray := if (textR s).2 = 0 then s.extract 0 (textR s).1 else ⟨#[]⟩
theorem textL_le : ∀ (l : List (Nat × Nat)) (a m : Nat), a ≤ m → (∀ p ∈ l, p.1 ≤ m) → (textL l a).1 ≤ m
  | [], a, m, h, _ => h
  | (i, c) :: r, a, m, h, hl => by
    unfold textL
    have hi := hl _ (List.mem_cons_self ..)
    split
    · exact hi
    split
    · exact hi
    · exact textL_le r i m hi (fun p hp => hl p (List.mem_cons_of_mem _ hp))
theorem runesF_lt (s : ByteArray) : ∀ (f pos : Nat), ∀ p ∈ runesF s f pos, p.1 < s.size
  | 0, _, p, h => by simp [runesF] at h
  | f + 1, pos, p, h => by
    unfold runesF at h
    split at h
    · rename_i hlt
      rcases List.mem_cons.1 h with rfl | h
      · exact hlt
      · exact runesF_lt s f _ p h
    · simp at h
theorem textR_le (s : ByteArray) : (textR s).1 ≤ s.size := textL_le _ _ _ (Nat.zero_le _) (fun p hp => Nat.le_of_lt (runesF_lt s _ _ p hp))
theorem encode_size (c : Int) : (Utf8.encode c).size ≤ 4 := by
  unfold Utf8.encode
  dsimp only
  generalize (if Utf8.valid c = true then c.toNat else Utf8.runeError) = m
  split
  · exact Nat.le_of_ble_eq_true rfl
  split
  · exact Nat.le_of_ble_eq_true rfl
  split
  · exact Nat.le_of_ble_eq_true rfl
  · exact Nat.le_of_ble_eq_true rfl

attribute [local irreducible] Utf8.encode
set_option maxHeartbeats 2000000 in
set_option maxRecDepth 100000 in
theorem text_calls (s : ByteArray) (hs : s.size ≤ 70368744177664) : Calls Tryd.prog 59 #[.string s] w fun e w' => e = .returned (.tuple #[.string (textS s), .int .i64 (textR s).2]) ∧ Ext w w' := by
  have hle := textR_le s
  have HSZ := Lib.hid hs
  go_enter Tryd.func59, Tryd.ntmps59
  go_wp2
  go_step3
  go_wp2
  go_step3
  go_wp2
  go_loopw [4, 5] (fun e a wr => ∃ (pos at_ : Nat), e = .int .i64 82 ∧ a = .int .i64 at_ ∧ at_ ≤ s.size ∧ wr.heap[w.heap.size]? = some (.stringIter s pos) ∧ Ext w wr ∧ Hid (textL (runesAt s pos) at_ = textR s)) (fun _ _ wr => s.size - wr.iterPos w.heap.size)
  case atStart => exact ⟨0, 0, rfl, rfl, Nat.zero_le _, World.iter_heap _ _ _, Ext.iter w s 0, Lib.hid rfl⟩
  case round =>
    obtain ⟨pos, at_, rfl, rfl, hat, hit, hbw, hv⟩ := hrel
    have hsz : w.heap.size ≤ w.heap.size := Nat.le_refl _
    by_cases hp : pos < s.size
    · have hnx := fun ty => next_some (P := Tryd.prog) hit hp ty
      have hwd := width_pos s pos hp
      have hd1 := decode_le s pos
      have hit2 := iter_next hit (pos + (Utf8.decode s pos).2)
      have hbw2 := hbw.iterAt hsz s (pos + (Utf8.decode s pos).2)
      have HM := Lib.hid (And.intro (iterPos_of hit) (iterPos_of hit2))
      rw [runesAt_lt s pos hp] at hv
      generalize hc : (Utf8.decode s pos).1 = c at *
      clear hc
      have hen := encode_size c
      have HS : Hid (textL ((pos, c) :: runesAt s (pos + (Utf8.decode s pos).2)) at_ = if c = 1 ∧ 0 < pos then (pos, 0) else if vmayB c = false ∨ 512 < pos + (Utf8.encode c).size then (pos, 81) else textL (runesAt s (pos + (Utf8.decode s pos).2)) pos) := Lib.hid rfl
      have HE := Lib.hid hen
      clear hle hen
      by_cases hc1 : c = 1
      · subst hc1
        by_cases hp0 : 0 < pos
        · have hk : textR s = (pos, 0) := by rw [← hv.out, HS.out, if_pos ⟨rfl, hp0⟩]
          have H2 := Lib.hid (show textS s = s.extract 0 pos by simp [textS, hk])
          have H := Lib.hid (show (textR s).2 = 0 by rw [hk])
          clear hk
          go_wp2
          try rw [Exit.noGoto_ret]
          go_ret2
          exact ⟨by rw [H.out, H2.out]; rfl, hbw2⟩
        · have hk : textR s = (pos, 81) := by rw [← hv.out, HS.out, if_neg (by omega), if_pos (.inl (by decide))]
          have H2 := Lib.hid (show textS s = ⟨#[]⟩ by simp [textS, hk])
          have H := Lib.hid (show (textR s).2 = 81 by rw [hk])
          have HV : Hid (vmayB ((1 : Nat) : Int) = false) := Lib.hid (by decide)
          obtain rfl : pos = 0 := by omega
          rw [Nat.zero_add] at hbw2
          clear hk hp0
          go_wp2_with (go_at_call 54; refine (vmay_calls _ ((1 : Nat) : Int)).mono ?_; rw [HV.out]; rintro e w' ⟨rfl, rfl⟩)
          try rw [Exit.noGoto_ret]
          go_ret2
          exact ⟨by rw [H.out, H2.out]; rfl, hbw2⟩
      cases hm : vmayB (c : Int)
      · have hk : textR s = (pos, 81) := by rw [← hv.out, HS.out, if_neg (by omega), if_pos (.inl hm)]
        have H2 := Lib.hid (show textS s = ⟨#[]⟩ by simp [textS, hk])
        have H := Lib.hid (show (textR s).2 = 81 by rw [hk])
        have HV := Lib.hid hm
        have k1 : ((c : Int) == 1) = false := beq_eq_false_iff_ne.mpr (by omega)
        clear hm hk hc1
        go_wp2_with (go_at_call 54; refine (vmay_calls _ _).mono ?_; rw [HV.out]; rintro e w' ⟨rfl, rfl⟩)
        try rw [Exit.noGoto_ret]
        go_ret2
        exact ⟨by rw [H.out, H2.out]; rfl, hbw2⟩
      · have HV := Lib.hid hm
        have k1 : ((c : Int) == 1) = false := beq_eq_false_iff_ne.mpr (by omega)
        have HC := Lib.hid hc1
        have hW : wrap64 ((pos : Int) + ((Utf8.encode c).size : Int)) = (pos : Int) + ((Utf8.encode c).size : Int) := by
          have := HE.out
          unfold wrap64; omega
        have HK : Hid (512 < pos + (Utf8.encode c).size → textR s = (pos, 81)) := Lib.hid (fun h => by rw [← hv.out, HS.out, if_neg (by omega), if_pos (.inr h)])
        have HK2 : Hid (¬ 512 < pos + (Utf8.encode c).size → textL (runesAt s (pos + (Utf8.decode s pos).2)) pos = textR s) := Lib.hid (fun h => by rw [← hv.out, HS.out, if_neg (by omega), if_neg (by simp [hm]; omega)])
        clear hm hc1
        go_wp2_with (go_at_call 54; refine (vmay_calls _ _).mono ?_; rw [HV.out]; rintro e w' ⟨rfl, rfl⟩)
        · have hk := HK.out (by omega)
          try rw [Exit.noGoto_ret]
          go_ret2
          exact ⟨by rw [show textS s = ⟨#[]⟩ by simp [textS, hk], hk]; rfl, hbw2⟩
        · go_roundw
          case rel => exact ⟨_, _, rfl, rfl, by omega, hit2, hbw2, Lib.hid (HK2.out (by omega))⟩
          case measure => rw [HM.out.1, HM.out.2]; omega
    · have hnx := fun ty => next_none (P := Tryd.prog) hit hp ty
      rw [runesAt_end s pos hp] at hv
      have H := Lib.hid (show (textR s).2 = 82 by rw [← hv.out]; rfl)
      have H2 := Lib.hid (show textS s = ⟨#[]⟩ by unfold textS; rw [H.out]; rfl)
      go_wp2
      try rw [Exit.noGoto_ret]
      go_ret2
      exact ⟨by rw [H.out, H2.out]; rfl, hbw⟩
end
end Go.Proofs.YtphnfbjbpbfpkaaDoor
