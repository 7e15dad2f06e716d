/- The runes of a text, as a range over it meets them; what roster.Valid answers. -/
import Derived.Test.YtphnfbjbpbfpkaaDoorBase
namespace Go.Proofs.YtphnfbjbpbfpkaaDoor
open Go.RowKit

theorem width_pos (s : ByteArray) (pos : Nat) (h : pos < s.size) : 1 ≤ (Utf8.decode s pos).2 := by
  by_cases ha : (s[pos]'h).toNat < 128
  · rw [decode_ascii s pos h ha]
    exact Nat.le_refl _
  · exact (decode_high s pos h (by omega)).2

/-- The runes from a place on, each with its place. -/
def runesF (s : ByteArray) : Nat → Nat → List (Nat × Nat)
  | 0, _ => []
  | f + 1, pos => if pos < s.size then (pos, (Utf8.decode s pos).1) :: runesF s f (pos + (Utf8.decode s pos).2) else []
def runesAt (s : ByteArray) (pos : Nat) : List (Nat × Nat) := runesF s (s.size - pos) pos
theorem runesF_end (s : ByteArray) (f pos : Nat) (h : ¬ pos < s.size) : runesF s f pos = [] := by
  cases f <;> simp [runesF, h]
theorem runesF_fuel (s : ByteArray) : ∀ (f g pos : Nat), s.size ≤ pos + f → s.size ≤ pos + g → runesF s f pos = runesF s g pos
  | 0, g, pos, h, _ => by rw [runesF_end s g pos (by omega)]; rfl
  | f + 1, 0, pos, _, h => by rw [runesF_end s (f + 1) pos (by omega)]; rfl
  | f + 1, g + 1, pos, hf, hg => by
    unfold runesF
    by_cases h : pos < s.size
    · have := width_pos s pos h
      rw [if_pos h, if_pos h, runesF_fuel s f g _ (by omega) (by omega)]
    · rw [if_neg h, if_neg h]
theorem runesAt_lt (s : ByteArray) (pos : Nat) (h : pos < s.size) : runesAt s pos = (pos, (Utf8.decode s pos).1) :: runesAt s (pos + (Utf8.decode s pos).2) := by
  have := width_pos s pos h
  unfold runesAt
  obtain ⟨f, hf⟩ : ∃ f, s.size - pos = f + 1 := ⟨s.size - pos - 1, by omega⟩
  rw [hf, show runesF s (f + 1) pos = if pos < s.size then (pos, (Utf8.decode s pos).1) :: runesF s f (pos + (Utf8.decode s pos).2) else [] from rfl]
  rw [if_pos h, runesF_fuel s f (s.size - (pos + (Utf8.decode s pos).2)) _ (by omega) (by omega)]
theorem runesAt_end (s : ByteArray) (pos : Nat) (h : ¬ pos < s.size) : runesAt s pos = [] := runesF_end s _ pos h

/-- 'next' at an iterator, wherever it lies. -/
theorem next_some {P : Program} {w : World} {k : Nat} {s : ByteArray} {pos : Nat} (hk : w.heap[k]? = some (.stringIter s pos)) (h : pos < s.size) (ty : TypeId) :
    (Instr.next (.pointer (some ⟨k, 0, none⟩)) true ty).run P w = .ok (.tuple #[.bool true, .int .i64 pos, .int .i32 (Utf8.decode s pos).1]) (w.iterAt k s (pos + (Utf8.decode s pos).2)) := Lib.run_next_any_at w k s pos ty hk h
theorem next_none {P : Program} {w : World} {k : Nat} {s : ByteArray} {pos : Nat} (hk : w.heap[k]? = some (.stringIter s pos)) (h : ¬ pos < s.size) (ty : TypeId) :
    (Instr.next (.pointer (some ⟨k, 0, none⟩)) true ty).run P w = .ok (.tuple #[.bool false]) w := Lib.run_next_end_at w k s pos ty hk h
theorem iter_next {w : World} {k : Nat} {s : ByteArray} {pos : Nat} (hk : w.heap[k]? = some (.stringIter s pos)) (p : Nat) : (w.iterAt k s p).heap[k]? = some (.stringIter s p) := Lib.iterAt_heap w k s pos p hk
theorem iterPos_of {w : World} {k : Nat} {s : ByteArray} {pos : Nat} (hk : w.heap[k]? = some (.stringIter s pos)) : w.iterPos k = pos := by simp [World.iterPos, hk]

/-! ### names -/
def mayB (c : Int) : Bool := decide (33 ≤ c) && (c != 127 && (c != 61 && c != 65533))
def validL : List (Nat × Nat) → Nat → Bool
  | [], n => decide (0 < n)
  | (_, c) :: r, n => if 20 < n + 1 then false else if mayB c then validL r (n + 1) else false
def validB (s : ByteArray) : Bool := validL (runesAt s 0) 0

section
variable (w : World)
theorem may_calls (c : Int) : Calls Tryd.prog 38 #[.int .i32 c] w fun e w' => e = .returned (.bool (mayB c)) ∧ w = w' := by
  go_enter Tryd.func38, Tryd.ntmps38
  go_wp2
  all_goals (go_ret; simp [mayB, Bool.and_assoc, *]; try omega)

set_option maxHeartbeats 1000000 in
theorem valid_calls (s : ByteArray) : Calls Tryd.prog 20 #[.string s] w fun e w' => e = .returned (.bool (validB s)) ∧ Ext w w' := by
  go_enter Tryd.func20, Tryd.ntmps20
  go_wp2
  go_loopw [3] (fun n wr => ∃ (pos k : Nat), n = .int .i64 k ∧ k ≤ 20 ∧ wr.heap[w.heap.size]? = some (.stringIter s pos) ∧ Ext w wr ∧ Hid (validL (runesAt s pos) k = validB s)) (fun _ wr => s.size - wr.iterPos w.heap.size)
  case atStart => exact ⟨0, 0, rfl, by omega, World.iter_heap _ _ _, Ext.iter w s 0, Lib.hid rfl⟩
  case round =>
    obtain ⟨pos, k, rfl, hk, hit, hbw, hv⟩ := hrel
    have hsz : w.heap.size ≤ w.heap.size := Nat.le_refl _
    by_cases hp : pos < s.size
    · have hnx := fun ty => next_some (P := Tryd.prog) hit hp ty
      have hwd := width_pos s pos hp
      have hd1 := decode_le s pos
      have hit2 := iter_next hit (pos + (Utf8.decode s pos).2)
      have hbw2 := hbw.iterAt hsz s (pos + (Utf8.decode s pos).2)
      have hp0 := iterPos_of hit
      have hp1 := iterPos_of hit2
      have HM : Hid (wr.iterPos w.heap.size = pos ∧ (wr.iterAt w.heap.size s (pos + (Utf8.decode s pos).2)).iterPos w.heap.size = pos + (Utf8.decode s pos).2) := Lib.hid ⟨hp0, hp1⟩
      clear hp0 hp1
      rw [runesAt_lt s pos hp] at hv
      go_wp2_with (go_at_call 38; refine (may_calls _ _).mono ?_; rintro e w' ⟨rfl, rfl⟩)
      all_goals first
        | (go_roundw
           case rel => exact ⟨_, k + 1, by go_num, by omega, hit2, hbw2, Lib.hid (by rw [← hv.out]; simp_all [validL] <;> omega)⟩
           case measure => rw [HM.out.1, HM.out.2]; omega)
        | (go_ret
           have hh : 20 < k + 1 ∨ mayB ((Utf8.decode s pos).1 : Int) = false := by
             first
               | exact .inl (by omega)
               | (rcases ‹(20 : Int) < _ ∨ _› with h | h
                  · exact .inl (by omega)
                  · exact .inr (by simpa using h))
           exact ⟨by rw [← hv.out]; rcases hh with h | h <;> simp [validL, h], hbw2⟩)
    · have hnx := fun ty => next_none (P := Tryd.prog) hit hp ty
      rw [runesAt_end s pos hp] at hv
      go_wp2
      go_ret
      exact ⟨by rw [← hv.out]; simp [validL], hbw⟩
end
end Go.Proofs.YtphnfbjbpbfpkaaDoor
