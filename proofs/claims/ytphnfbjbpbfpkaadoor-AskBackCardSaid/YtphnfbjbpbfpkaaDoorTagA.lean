/- What package tag's functions answer: values, fields' forms, reading them back. -/
import Derived.Test.YtphnfbjbpbfpkaaDoorRune
import Derived.Test.YtphnfbjbpbfpkaaDoorBuild
import Derived.Test.YtphnfbjbpbfpkaaDoorShelf
import Derived.Lib.QuietBelow
import Derived.Lib.ItoaLen
namespace Go.Proofs.YtphnfbjbpbfpkaaDoor
open Go.RowKit

/-- What the walks ask of the package-level variables of Go's library. -/
structure Glob (w : World) : Prop where
  max : ∃ m, w.cell? ⟨1, 0, none⟩ = some (.int .i64 m)
  tab : Lib.TabIs Tryd.prog w "internal/strconv.uint64pow10" .u64 Lib.pow10Tab

def vmayB (c : Int) : Bool := decide (32 ≤ c) && (c != 127 && c != 65533)
def valueL : List (Nat × Nat) → Bool
  | [] => true
  | (_, c) :: r => if vmayB c then valueL r else false
def valueB (s : ByteArray) : Bool := decide (1 ≤ s.size) && decide (s.size ≤ 512) && valueL (runesAt s 0)
def bytesOf (l : List UInt8) : ByteArray := ⟨l.toArray⟩
theorem bytesOf_size (l : List UInt8) : (bytesOf l).size = l.length := by simp [bytesOf, ByteArray.size]
structure Fld where
  tag : Int
  val : ByteArray
def formOf (f : Fld) : List UInt8 := Lib.itoa f.tag ++ [61] ++ f.val.data.toList ++ [1]
theorem form_bytes (f : Fld) : bytesOf (Lib.itoa f.tag) ++ ⟨#[61]⟩ ++ f.val ++ ⟨#[1]⟩ = bytesOf (formOf f) := by
  apply ByteArray.ext
  apply Array.ext'
  simp [bytesOf, formOf]
def formE (f : Fld) : Int := if f.tag < 1 ∨ 99999 < f.tag then 80 else if valueB f.val = false then 81 else 0
def formS (f : Fld) : ByteArray := if formE f = 0 then bytesOf (formOf f) else ⟨#[]⟩

section
variable (w : World)
theorem vmay_calls (c : Int) : Calls Tryd.prog 54 #[.int .i32 c] w fun e w' => e = .returned (.bool (vmayB c)) ∧ w = w' := by
  go_enter Tryd.func54, Tryd.ntmps54
  go_wp2
  all_goals (go_ret; simp [vmayB, Bool.and_assoc, *]; try omega)

set_option maxHeartbeats 1000000 in
theorem value_calls (s : ByteArray) (hs : s.size ≤ maxLen) : Calls Tryd.prog 41 #[.string s] w fun e w' => e = .returned (.bool (valueB s)) ∧ Ext w w' := by
  unfold maxLen at hs
  by_cases h1 : s.size < 1
  · have H := Lib.hid (show valueB s = false by simp [valueB]; omega)
    go_enter Tryd.func41, Tryd.ntmps41
    go_wp2
    go_ret
    exact ⟨by rw [H.out]; rfl, Ext.refl _⟩
  by_cases h2 : 512 < s.size
  · have H := Lib.hid (show valueB s = false by simp [valueB]; omega)
    go_enter Tryd.func41, Tryd.ntmps41
    go_wp2
    go_ret
    exact ⟨by rw [H.out]; rfl, Ext.refl _⟩
  have H := Lib.hid (show valueB s = valueL (runesAt s 0) by simp [valueB]; intro _; omega)
  have h3 : 1 ≤ s.size := by omega
  have h4 : s.size ≤ 512 := by omega
  clear h1 h2
  go_enter Tryd.func41, Tryd.ntmps41
  go_wp2
  go_loopw [] (fun wr => ∃ (pos : Nat), wr.heap[w.heap.size]? = some (.stringIter s pos) ∧ Ext w wr ∧ Hid (valueL (runesAt s pos) = valueB s)) (fun wr => s.size - wr.iterPos w.heap.size)
  case atStart => exact ⟨0, World.iter_heap _ _ _, Ext.iter w s 0, Lib.hid H.out.symm⟩
  case round =>
    obtain ⟨pos, hit, hbw, hv⟩ := hrel
    have hsz : w.heap.size ≤ w.heap.size := Nat.le_refl _
    by_cases hp : pos < s.size
    · have hnx := fun ty => next_some (P := Tryd.prog) hit hp ty
      have hwd := width_pos s pos hp
      have hd1 := decode_le s pos
      have hit2 := iter_next hit (pos + (Utf8.decode s pos).2)
      have hbw2 := hbw.iterAt hsz s (pos + (Utf8.decode s pos).2)
      have HM := Lib.hid (And.intro (iterPos_of hit) (iterPos_of hit2))
      rw [runesAt_lt s pos hp] at hv
      cases hm : vmayB ((Utf8.decode s pos).1 : Int)
      all_goals
        have HV := Lib.hid hm
        go_wp2_with (go_at_call 54; refine (vmay_calls _ _).mono ?_; rintro e w' ⟨rfl, rfl⟩)
      · go_ret
        exact ⟨by rw [← hv.out]; simp [valueL, HV.out], hbw2⟩
      · go_roundw
        case rel => exact ⟨_, hit2, hbw2, Lib.hid (by rw [← hv.out]; simp [valueL, HV.out])⟩
        case measure => rw [HM.out.1, HM.out.2]; omega
    · have hnx := fun ty => next_none (P := Tryd.prog) hit hp ty
      rw [runesAt_end s pos hp] at hv
      go_wp2
      go_ret
      exact ⟨by rw [← hv.out]; simp [valueL], hbw⟩

theorem Glob.ext {w w' : World} (h : Glob w) (he : Ext w w') : Glob w' := by
  obtain ⟨⟨m, hm⟩, ht⟩ := h
  refine ⟨⟨m, ?_⟩, ?_⟩
  · rw [he.cells.1 _ _ (block_lt_of_cell hm)]; exact hm
  · unfold Lib.TabIs World.var? at ht ⊢
    revert ht
    cases hg : Tryd.prog.globalNamed "internal/strconv.uint64pow10" with
    | none => exact id
    | some g =>
      intro ht
      simp only [Option.bind_some] at ht ⊢
      cases hh : w.heap[g]? with
      | none => rw [hh] at ht; cases ht
      | some o => rw [he.heap hh]; rw [hh] at ht; exact ht
theorem grow_ext (w : World) (k : Nat) (os : Array Obj) : Ext w (Sort.grow (w.drewN k) os) :=
  ⟨rfl, rfl, rfl, by show w.heap.size ≤ (w.heap ++ os).size; rw [Array.size_append]; omega, fun j hj => by show (w.heap ++ os)[j]? = _; rw [Array.getElem?_append_left hj]⟩
theorem itoa_calls (n : Int) (h0 : -9223372036854775808 ≤ n) (h1 : n ≤ 9223372036854775807) (hg : Glob w) :
    Calls Tryd.prog 42 #[.int .i64 n] w fun e w' => e = .returned (.string (bytesOf (Lib.itoa n))) ∧ Ext w w' :=
  (Tryd.strconv_Itoa n h0 h1 w hg.tab).mono fun _ w' ⟨he, k, os, hw⟩ => ⟨he, by rw [hw]; exact grow_ext w k os⟩
theorem ext_regrown {w : World} (d : Nat) (os : Array Obj) : Ext w (Sort.grow (redrawn w d) os) := below_regrown w d os

set_option maxHeartbeats 1000000 in
theorem form_calls (f : Fld) (hs : f.val.size ≤ 70368744177664) (hg : Glob w) : Calls Tryd.prog 25 #[.agg #[.int .i64 f.tag, .string f.val]] w fun e w' => e = .returned (.tuple #[.string (formS f), .int .i64 (formE f)]) ∧ Ext w w' := by
  have hm : f.val.size ≤ maxLen := by unfold maxLen; omega
  by_cases h1 : f.tag < 1
  · have H := Lib.hid (show formE f = 80 by simp [formE, h1])
    have H2 := Lib.hid (show formS f = ⟨#[]⟩ by simp [formS, H.out])
    go_enter Tryd.func25, Tryd.ntmps25
    go_wp2
    go_ret2
    exact ⟨by rw [H.out, H2.out]; rfl, (Ext.refl _).alloc _⟩
  by_cases h2 : 99999 < f.tag
  · have H := Lib.hid (show formE f = 80 by simp [formE, h2])
    have H2 := Lib.hid (show formS f = ⟨#[]⟩ by simp [formS, H.out])
    go_enter Tryd.func25, Tryd.ntmps25
    go_wp2
    go_ret2
    exact ⟨by rw [H.out, H2.out]; rfl, (Ext.refl _).alloc _⟩
  have h3 : 1 ≤ f.tag := by omega
  have h4 : f.tag ≤ 99999 := by omega
  cases hv : valueB f.val
  · have H := Lib.hid (show formE f = 81 by simp [formE, hv]; omega)
    have H2 := Lib.hid (show formS f = ⟨#[]⟩ by simp [formS, H.out])
    have HV := Lib.hid hv
    clear hv h1 h2
    go_enter Tryd.func25, Tryd.ntmps25
    go_wp2_with (go_at_call 41; refine (value_calls _ _ hm).mono ?_; rw [HV.out]; rintro e w1 ⟨rfl, hb⟩)
    go_ret2
    exact ⟨by rw [H.out, H2.out]; rfl, ((Ext.refl _).alloc _).trans hb⟩
  · have H := Lib.hid (show formE f = 0 by simp [formE, hv]; omega)
    have H2 := Lib.hid (show formS f = bytesOf (formOf f) by simp [formS, H.out])
    have HV := Lib.hid hv
    clear hv h1 h2
    go_enter Tryd.func25, Tryd.ntmps25
    go_wp2_with (go_at_call 41; refine (value_calls _ _ hm).mono ?_; rw [HV.out]; rintro e w1 ⟨rfl, hb⟩)
    have hx := ((Ext.refl w).alloc (.cells #[.int .i64 f.tag, .string f.val] 55)).trans hb
    have c0 : w1.cell? ⟨w.heap.size, 0, none⟩ = some (.int .i64 f.tag) := by rw [hb.cells.1 _ _ (by simp)]; simp
    have c1 : w1.cell? ⟨w.heap.size, 1, none⟩ = some (.string f.val) := by rw [hb.cells.1 _ _ (by simp)]; simp
    have k0 := cell_regrown c0
    have k1 := cell_regrown c1
    have hg1 := hg.ext hx
    have cI : ∀ d os, Calls Tryd.prog 42 #[.int .i64 f.tag] (Sort.grow (redrawn w1 d) os) _ := fun d os => Calls.regrown_of (itoa_calls _ f.tag (by omega) (by omega) (hg1.ext (ext_regrown d os)))
    have hqs : (bytesOf (Lib.itoa f.tag)).size ≤ 21 := by
      have := Lib.itoa_length_le f.tag (by omega) (by omega)
      rw [bytesOf_size]; exact this
    generalize hq : bytesOf (Lib.itoa f.tag) = q at cI hqs
    have HQ := Lib.hid hq
    have n1 : ¬ 9223372036854775807 < q.size + 1 := by omega
    have n2 : ¬ 9223372036854775807 < q.size + 1 + f.val.size := by omega
    have n3 : ¬ 9223372036854775807 < q.size + 1 + f.val.size + 1 := by omega
    clear hb hq
    refine wp_region_quiet_below (by kernel_rfl) (by kernel_rfl) ?_
    repeat (quiet_step (exact cI _ _))
    refine wpQuiet_nil ?_
    intro _ hw'
    obtain ⟨⟨dq, osq⟩, rfl⟩ := hw'
    go_wp2
    go_ret2
    refine ⟨?_, hx.trans (ext_regrown _ _)⟩
    rw [H.out, H2.out, ← form_bytes, HQ.out]
    rfl
end
end Go.Proofs.YtphnfbjbpbfpkaaDoor
