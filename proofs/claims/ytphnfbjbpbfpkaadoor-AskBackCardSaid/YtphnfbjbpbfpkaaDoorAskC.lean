/- An ask's fields: numbers, text, fields. -/
import Derived.Test.YtphnfbjbpbfpkaaDoorAskB
import Derived.Test.YtphnfbjbpbfpkaaDoorBodyF
import Derived.Deep.DeepCutAuto
namespace Go.Proofs.YtphnfbjbpbfpkaaDoor
open Go.RowKit
set_option maxRecDepth 100000

def numsText (l : List Int) : ByteArray := bytesOf (Lib.join (l.map Lib.itoa) [44])
def I64 (n : Int) : Prop := -9223372036854775808 ≤ n ∧ n ≤ 9223372036854775807
theorem strInfo : (Tryd.prog.info? 9).map (fun i => (i.zero, i.size, i.bytes)) = some (some (.string ⟨#[]⟩), 1, 16) := by kernel_rfl
def sv (l : List Int) : List Value := l.map (fun n => .string (bytesOf (Lib.itoa n)))
theorem join_len (L : List (List UInt8)) (h : ∀ x ∈ L, x.length ≤ 21) : (Lib.join L [44]).length ≤ 22 * L.length := by
  cases L with
  | nil => simp [Lib.join_nil]
  | cons x r =>
    rw [Lib.join_cons]
    have h0 := h x (List.mem_cons_self ..)
    have : ∀ r : List (List UInt8), (∀ x ∈ r, x.length ≤ 21) → (Lib.joinTail [44] r).length ≤ 22 * r.length := by
      intro r
      induction r with
      | nil => intro _; simp [Lib.joinTail]
      | cons y r ih =>
        intro h
        have h1 := h y (List.mem_cons_self ..)
        have h2 := ih (fun x hx => h x (List.mem_cons_of_mem _ hx))
        simp only [Lib.joinTail, List.map_cons, List.flatten_cons, List.length_append, List.length_cons, List.length_nil] at h2 ⊢
        omega
    have h2 := this r (fun x hx => h x (List.mem_cons_of_mem _ hx))
    simp only [List.length_append, List.length_cons]
    omega

section
variable (w : World)
set_option maxHeartbeats 2000000 in
theorem numbers_calls (v : Value) (l : List Int) (hv : Ints w v l) (hl : l.length ≤ 1000) (hr : ∀ n ∈ l, I64 n) (hg : Glob w) : Calls Tryd.prog 44 #[v] w fun e w' => e = .returned (.string (numsText l)) ∧ Ext w w' := by
  obtain ⟨i0, hi, hz0, hz1, hz2⟩ := info_parts strInfo
  obtain ⟨A, cap, rfl, _⟩ := SlAt.form hv
  have HG := Lib.hid hg
  clear hg
  go_enter Tryd.func44, Tryd.ntmps44
  go_wp2
  go_loopw [3, 8] (fun sv0 i wr => ∃ (u : Value) (k : Nat), u = sv0 ∧ i = .int .i64 k ∧ k ≤ l.length ∧ Ext w wr ∧ wr.ownsRow w.heap.size 9 1 u k (sv (l.take k))) (fun _ i _ => l.length - (intOf i).toNat)
  case atStart => exact ⟨_, 0, rfl, rfl, by omega, Ext.refl _, World.ownsRow_nil _ _ _ _⟩
  case round =>
    obtain ⟨u, k, rfl, rfl, hk, hx, hown⟩ := hrel
    obtain ⟨U, c, rfl⟩ := ownsRow_form hown
    by_cases hlt : k < l.length
    · obtain ⟨b, off, c', hA, hb, hcell⟩ := (Ints.ext hv hx).at_ hlt
      obtain ⟨rfl, rfl⟩ : A = some ⟨b, off, none⟩ ∧ cap = c' := by injection hA with h1 _ h2; exact ⟨h1, h2⟩
      clear hA
      have hmem : l.getD k 0 ∈ l := by simp [List.getD_eq_getElem?_getD, List.getElem?_eq_getElem hlt]
      have hI := hr _ hmem
      have HT := Lib.hid (show l.take (k + 1) = l.take k ++ [l.getD k 0] by rw [List.take_succ_eq_append_getElem hlt]; simp [List.getD_eq_getElem?_getD, List.getElem?_eq_getElem hlt])
      generalize l.getD k 0 = n at *
      have HC := Lib.hid (fun W (hW : Ext w W) => itoa_calls W n hI.1 hI.2 (HG.out.ext hW))
      have HV := Lib.hid hv
      clear hI hmem hv hr
      go_wp2_with (first
        | (go_at_call 42; refine (HC.out _ hx).mono ?_; rintro e w1 ⟨rfl, hb1⟩)
        | (at_builtin; refine wpList_append_own _ rfl _ _ 90 rfl w.heap.size 9 i0 _ 1 16 Tryd.underlying90 hi hz0 hz1 hz2 rfl (by decide) _ _ _ rfl (ownsRow_ext hown (hb1.alloc _)) ⟨w1.heap.size, 0, none⟩ 1 1 [.string (bytesOf (Lib.itoa n))] rfl rfl (fresh_cells [_] rfl) ?c2 ?c3 ?c4 ?c5 ?_))
      case c2 => intro u hu; simp at hu; rw [hu]; rfl
      case c3 => unfold maxLen; omega
      case c4 => omega
      case c5 => have := hb1.size; have h5 := hx.size; rw [size_alloc]; omega
      intro v' w2 hown' hgrow _
      have hx3 : Ext w w2 := ((hx.trans hb1).alloc (.cells #[.string (bytesOf (Lib.itoa n))] 9)).grown hgrow (ownsRow_block hown)
      clear hgrow hown hcell
      go_wp2
      go_roundw
      case rel => exact ⟨v', k + 1, rfl, by go_num, by omega, hx3, by rw [HT.out]; simpa [sv] using hown'⟩
      case measure => simp [intOf]; omega
    · have hkk : k = l.length := by omega
      subst hkk
      rw [List.take_length] at hown
      by_cases hl0 : l.length = 0
      · obtain rfl : l = [] := List.eq_nil_of_length_eq_zero hl0
        have HJ := Lib.hid (fun W => Tryd.strings_Join_none U c comma W)
        go_wp2_with (go_at_call 57; refine (HJ.out _).mono ?_; rintro e w1 ⟨rfl, rfl⟩)
        go_ret
        exact ⟨rfl, hx⟩
      · obtain ⟨b, off, c', hA, hc', hb, hcells⟩ := SlAt.at_ (SlAt.of_own hown) (by omega)
        obtain ⟨rfl, rfl⟩ : U = some ⟨b, off, none⟩ ∧ c = c' := by injection hA with h1 _ h2; exact ⟨h1, h2⟩
        have hmap : (l.map (fun n => bytesOf (Lib.itoa n))).map (fun x => x.data.toList) = l.map Lib.itoa := by simp [bytesOf, Function.comp_def]
        have hlenj := join_len (l.map Lib.itoa) (fun x hx => by
          obtain ⟨n, hn, rfl⟩ := List.mem_map.1 hx
          exact Lib.itoa_length_le n (hr n hn).1 (hr n hn).2)
        have HJ := Lib.hid (Tryd.strings_Join b off c (l.map (fun n => bytesOf (Lib.itoa n))) comma wr (fun j x hj => hcells j _ (by
          rw [List.getElem?_map] at hj
          obtain ⟨n, hn, rfl⟩ := Option.map_eq_some_iff.1 hj
          simp [sv, List.getElem?_map, hn])) hb (by simp; omega) (by simpa using hc') (by rw [hmap]; simp only [List.length_map] at hlenj; show (Lib.join (l.map Lib.itoa) [44]).length ≤ _; omega))
        rw [hmap, List.length_map] at HJ
        clear hA hcells hlenj hmap hr hv
        go_wp2_with (go_at_call 57; refine (HJ.out).mono ?_; rintro e w1 ⟨rfl, hb1⟩)
        go_ret
        exact ⟨rfl, hx.trans hb1⟩

theorem textS_calls (s : ByteArray) : Calls Tryd.prog 29 #[.iface 9 (.string s)] w fun e w' => e = .returned (.string s) ∧ Ext w w' := by
  have y1 := fun W => assert_yes (P := Tryd.prog) W 20 9 (.string s) Tryd.underlying9 (fun _ h => by cases h)
  go_enter Tryd.func29, Tryd.ntmps29
  go_wp2
  go_ret
  exact ⟨rfl, Ext.refl _⟩
theorem textI_calls (n : Int) (hn : I64 n) (hg : Glob w) : Calls Tryd.prog 29 #[.iface 3 (.int .i64 n)] w fun e w' => e = .returned (.string (bytesOf (Lib.itoa n))) ∧ Ext w w' := by
  have HC := Lib.hid (itoa_calls w n hn.1 hn.2 hg)
  clear hn hg
  have n1 := fun W => assert_no (P := Tryd.prog) W 20 3 9 (.int .i64 n) _ Tryd.underlying9 (fun _ h => by cases h) (by decide) Tryd.zeroValue9
  have y2 := fun W => assert_yes (P := Tryd.prog) W 20 3 (.int .i64 n) Tryd.underlying3 (fun _ h => by cases h)
  go_enter Tryd.func29, Tryd.ntmps29
  go_wp2_with (go_at_call 42; refine (HC.out).mono ?_; rintro e w1 ⟨rfl, hb1⟩)
  go_ret
  exact ⟨rfl, hb1⟩
theorem textL_calls (v : Value) (l : List Int) (hv : Ints w v l) (hl : l.length ≤ 1000) (hr : ∀ n ∈ l, I64 n) (hg : Glob w) : Calls Tryd.prog 29 #[.iface 22 v] w fun e w' => e = .returned (.string (numsText l)) ∧ Ext w w' := by
  have HC := Lib.hid (numbers_calls w v l hv hl hr hg)
  obtain ⟨A, cap, rfl, _⟩ := SlAt.form hv
  clear hv hr hg
  have n1 := fun W => assert_no (P := Tryd.prog) W 20 22 9 (.slice A l.length cap) _ Tryd.underlying9 (fun _ h => by cases h) (by decide) Tryd.zeroValue9
  have n2 := fun W => assert_no (P := Tryd.prog) W 20 22 3 (.slice A l.length cap) _ Tryd.underlying3 (fun _ h => by cases h) (by decide) Tryd.zeroValue3
  have y3 := fun W => assert_yes (P := Tryd.prog) W 20 22 (.slice A l.length cap) Tryd.underlying22 (fun _ h => by cases h)
  go_enter Tryd.func29, Tryd.ntmps29
  go_wp2_with (go_at_call 44; refine (HC.out).mono ?_; rintro e w1 ⟨rfl, hb1⟩)
  go_ret
  exact ⟨rfl, hb1⟩
end
end Go.Proofs.YtphnfbjbpbfpkaaDoor
