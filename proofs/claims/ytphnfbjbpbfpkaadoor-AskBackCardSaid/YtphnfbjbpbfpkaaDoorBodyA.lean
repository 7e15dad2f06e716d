/- body.Number and body.Numbers. -/
import Derived.Test.YtphnfbjbpbfpkaaDoorTagD
import Derived.Test.YtphnfbjbpbfpkaaDoorMap
import Derived.Lib.SplitLaws
namespace Go.Proofs.YtphnfbjbpbfpkaaDoor
open Go.RowKit

def numL : List (Nat × Nat) → Int → Option Int
  | [], n => some n
  | (_, c) :: r, n => if (c : Int) < 48 ∨ 57 < (c : Int) then none else if (9223372036854775807 - ((c : Int) - 48)) / 10 < n then none else numL r (10 * n + ((c : Int) - 48))
def zeroLed (s : ByteArray) : Bool := decide (1 < s.size) && (s.data.toList.head? == some 48)
def numR (s : ByteArray) : Option Int := if s.size = 0 then none else if zeroLed s then none else numL (runesAt s 0) 0
theorem numL_range : ∀ (l : List (Nat × Nat)) (n m : Int), 0 ≤ n → n ≤ 9223372036854775807 → numL l n = some m → 0 ≤ m ∧ m ≤ 9223372036854775807
  | [], n, m, h0, h1, h => by simp only [numL, Option.some.injEq] at h; omega
  | (i, c) :: r, n, m, h0, h1, h => by
    unfold numL at h
    split at h
    · cases h
    split at h
    · cases h
    · exact numL_range r _ m (by omega) (by omega) h
theorem numR_range {s : ByteArray} {m : Int} (h : numR s = some m) : 0 ≤ m ∧ m ≤ 9223372036854775807 := by
  unfold numR at h
  split at h
  · cases h
  split at h
  · cases h
  · exact numL_range _ _ _ (by omega) (by omega) h
def numN (o : Option Int) : Int := o.getD 0
def numE (o : Option Int) : Int := if o.isSome then 0 else 112

set_option maxHeartbeats 2000000 in
set_option maxRecDepth 100000 in
theorem num_calls (w : World) (s : ByteArray) (hs : s.size ≤ 70368744177664) : Calls Tryd.prog 50 #[.string s] w fun e w' => e = .returned (.tuple #[.int .i64 (numN (numR s)), .int .i64 (numE (numR s))]) ∧ Ext w w' := by
  by_cases h0 : s.size = 0
  · have H := Lib.hid (show numR s = none by simp [numR, h0])
    have hl : s = ⟨#[]⟩ := by
      apply ByteArray.ext
      exact Array.eq_empty_of_size_eq_zero h0
    subst hl
    go_enter Tryd.func50, Tryd.ntmps50
    go_wp2
    go_ret2
    exact ⟨by rw [H.out]; rfl, Ext.refl _⟩
  have h1 : 0 < s.size := by omega
  have ne1 : ¬ s.toList = [] := by
    rw [ByteArray.toList_eq]
    intro h
    apply h0
    have h2 : s.data.toList.length = 0 := by rw [h]; rfl
    exact (Array.length_toList (xs := s.data)).symm.trans h2
  have ne2 : s.toList.isEmpty = false := by
    cases h : s.toList
    · exact absurd h ne1
    · rfl
  have hzl : zeroLed s = (decide (1 < s.size) && decide (s[0] = 48)) := by
    unfold zeroLed
    congr 1
    have : s.data.toList.head? = some s[0] := by
      rw [List.head?_eq_getElem?, List.getElem?_eq_getElem (by rw [Array.length_toList]; exact h1)]
      rfl
    rw [this]
    rw [Bool.eq_iff_iff]
    simp
  by_cases hz : zeroLed s = true
  · have H := Lib.hid (show numR s = none by simp [numR, h0, hz])
    rw [hzl, Bool.and_eq_true, decide_eq_true_eq, decide_eq_true_eq] at hz
    have k1 : ((s[0].toNat : Int) == 48) = true := by rw [hz.2]; rfl
    have k2 : 1 < s.size := hz.1
    clear hz hzl h0
    go_enter Tryd.func50, Tryd.ntmps50
    go_wp2
    go_ret2
    exact ⟨by rw [H.out]; rfl, Ext.refl _⟩
  have H := Lib.hid (show numR s = numL (runesAt s 0) 0 by simp [numR, h0, hz])
  have hq : ((s[0].toNat : Int) == 48) = true → s.size ≤ 1 := by
    intro hk
    have h48 : s[0] = 48 := by
      have : s[0].toNat = 48 := by have := beq_iff_eq.mp hk; omega
      exact UInt8.toNat_inj.mp this
    rw [hzl] at hz
    simp only [Bool.and_eq_true, decide_eq_true_eq] at hz
    rcases Nat.lt_or_ge 1 s.size with hh | hh
    · exact absurd ⟨hh, h48⟩ hz
    · exact hh
  clear hz hzl h0
  cases k1 : ((s[0].toNat : Int) == 48)
  all_goals
    first
      | (have k2 : s.size ≤ 1 := hq k1)
      | skip
    clear hq
    go_enter Tryd.func50, Tryd.ntmps50
    go_wp2
    go_loopw [4] (fun v wr => ∃ (pos : Nat) (n : Int), v = .int .i64 n ∧ 0 ≤ n ∧ n ≤ 9223372036854775807 ∧ wr.heap[w.heap.size]? = some (.stringIter s pos) ∧ Ext w wr ∧ Hid (numL (runesAt s pos) n = numR s)) (fun _ wr => s.size - wr.iterPos w.heap.size)
    case atStart => exact ⟨0, 0, rfl, by omega, by omega, World.iter_heap _ _ _, Ext.iter w s 0, Lib.hid H.out.symm⟩
    case round =>
      obtain ⟨pos, n, rfl, hn0, hn1, hit, hbw, hv⟩ := hrel
      have hsz : w.heap.size ≤ w.heap.size := Nat.le_refl _
      by_cases hp : pos < s.size
      · have hnx := fun ty => next_some (P := Tryd.prog) hit hp ty
        have hwd := width_pos s pos hp
        have hd1 := decode_le s pos
        have hit2 := iter_next hit (pos + (Utf8.decode s pos).2)
        have hbw2 := hbw.iterAt hsz s (pos + (Utf8.decode s pos).2)
        have HM := Lib.hid (And.intro (iterPos_of hit) (iterPos_of hit2))
        rw [runesAt_lt s pos hp] at hv
        generalize hc : (Utf8.decode s pos).1 = c at *
        clear hc
        have HS : Hid (numL ((pos, c) :: runesAt s (pos + (Utf8.decode s pos).2)) n = if (c : Int) < 48 ∨ 57 < (c : Int) then none else if (9223372036854775807 - ((c : Int) - 48)) / 10 < n then none else numL (runesAt s (pos + (Utf8.decode s pos).2)) (10 * n + ((c : Int) - 48))) := Lib.hid rfl
        go_wp2
        all_goals first
          | (go_ret2
             refine ⟨?_, hbw2⟩
             first
               | rw [← hv.out, HS.out, if_pos (by omega)]
               | rw [← hv.out, HS.out, if_neg (by omega), if_pos (by omega)]
             rfl)
          | (go_roundw
             case rel => exact ⟨_, _, rfl, by omega, by omega, hit2, hbw2, Lib.hid (by rw [← hv.out, HS.out, if_neg (by omega), if_neg (by omega)])⟩
             case measure => rw [HM.out.1, HM.out.2]; omega)
      · have hnx := fun ty => next_none (P := Tryd.prog) hit hp ty
        rw [runesAt_end s pos hp] at hv
        have H2 := Lib.hid (show numR s = some n by rw [← hv.out]; rfl)
        go_wp2
        go_ret2
        exact ⟨by rw [H2.out]; rfl, hbw⟩

def comma : ByteArray := ⟨#[44]⟩
def partsOf (s : ByteArray) : List ByteArray := Lib.splitB comma 0 (Lib.countB s comma) s
def numsL : List ByteArray → Option (List Int)
  | [] => some []
  | s :: r => match numR s with
    | none => none
    | some n => (numsL r).map (n :: ·)
def numsR (s : ByteArray) : Option (List Int) := numsL (partsOf s)
theorem numsL_snoc : ∀ (l : List ByteArray) (s : ByteArray) (ns : List Int), numsL l = some ns → ∀ n, numR s = some n → numsL (l ++ [s]) = some (ns ++ [n])
  | [], s, ns, h, n, hn => by
    simp only [numsL, Option.some.injEq] at h
    subst h
    simp [numsL, hn]
  | x :: l, s, ns, h, n, hn => by
    simp only [List.cons_append, numsL] at h ⊢
    cases hx : numR x with
    | none => rw [hx] at h; cases h
    | some m =>
      rw [hx] at h
      simp only [Option.map_eq_some_iff] at h
      obtain ⟨ms, hm, rfl⟩ := h
      simp [numsL_snoc l s ms hm n hn]
theorem numsL_none : ∀ (l : List ByteArray) (k : Nat) (h : k < l.length), numR l[k] = none → numsL l = none
  | x :: l, 0, _, h => by simp only [List.getElem_cons_zero] at h; simp [numsL, h]
  | x :: l, k + 1, hk, h => by
    simp only [List.getElem_cons_succ] at h
    have := numsL_none l k (by simpa using hk) h
    simp only [numsL]
    cases numR x <;> simp [this]
theorem numsL_length : ∀ (l : List ByteArray) (ns : List Int), numsL l = some ns → ns.length = l.length
  | [], ns, h => by simp only [numsL, Option.some.injEq] at h; subst h; rfl
  | x :: l, ns, h => by
    simp only [numsL] at h
    cases hx : numR x with
    | none => rw [hx] at h; cases h
    | some m =>
      rw [hx] at h
      simp only [Option.map_eq_some_iff] at h
      obtain ⟨ms, hm, rfl⟩ := h
      simp [numsL_length l ms hm]
theorem partsOf_length (s : ByteArray) : (partsOf s).length = Lib.countB s comma + 1 := Lib.splitB_all comma (by decide) 0 _ s rfl
theorem partsOf_le (s : ByteArray) : (partsOf s).length ≤ s.size + 1 := by
  rw [partsOf_length]
  have := Lib.countB_le comma (by decide) s.size s (Nat.le_refl _)
  omega
theorem numsR_length {s : ByteArray} {l : List Int} (h : numsR s = some l) : l.length ≤ s.size + 1 := by
  rw [numsL_length _ _ h]
  exact partsOf_le s
theorem splitB_size (k : Nat) : ∀ (s : ByteArray), ∀ x ∈ Lib.splitB comma 0 k s, x.size ≤ s.size := by
  induction k with
  | zero => intro s x h; simp [Lib.splitB] at h; rw [h]; exact Nat.le_refl _
  | succ k ih =>
    intro s x h
    unfold Lib.splitB at h
    split at h
    · simp at h; rw [h]; exact Nat.le_refl _
    · rcases List.mem_cons.1 h with rfl | h
      · exact size_extract_le _ _ _
      · exact Nat.le_trans (ih _ x h) (size_extract_le _ _ _)
def NumsPost (w : World) (s : ByteArray) (e : Ending) (w' : World) : Prop :=
  ∃ v, e = .returned (.tuple #[v, .int .i64 (if (numsR s).isSome then 0 else 112)]) ∧ w'.ownsRow w.heap.size 3 1 v ((numsR s).getD []).length (iv ((numsR s).getD [])) ∧ Ext w w'
theorem intInfo : (Tryd.prog.info? 3).map (fun i => (i.zero, i.size, i.bytes)) = some (some (.int .i64 0), 1, 8) := by kernel_rfl

set_option maxHeartbeats 2000000 in
set_option maxRecDepth 100000 in
theorem nums_calls (w : World) (s : ByteArray) (hs : s.size ≤ 4000000000) (hg : Glob w) : Calls Tryd.prog 53 #[.string s] w (NumsPost w s) := by
  obtain ⟨i0, hi, hz0, hz1, hz2⟩ := info_parts intInfo
  obtain ⟨m, hm⟩ := hg.max
  have hlen := partsOf_length s
  have hle := partsOf_le s
  have HSP := Lib.hid (fun W hW => Tryd.strings_Split s comma m W (by omega) hW (by decide))
  have hpsz : ∀ x ∈ partsOf s, x.size ≤ 70368744177664 := fun x hx => Nat.le_trans (splitB_size _ s x hx) (by omega)
  have hfin : numsR s = numsL (partsOf s) := rfl
  have hsplit : Lib.splitB comma 0 (Lib.countB s comma) s = partsOf s := rfl
  rw [hsplit] at HSP
  rw [← hlen] at HSP
  generalize partsOf s = ps at *
  have HF := Lib.hid hfin
  clear hfin hsplit hlen
  have hl1 : 1 ≤ 1 := Nat.le_refl _
  go_enter Tryd.func53, Tryd.ntmps53
  go_wp2_with (go_at_call 60; refine (HSP.out _ hm).mono ?_; rintro e w' ⟨rfl, rfl⟩)
  go_loopw [4, 12] (fun sv i wr => ∃ (v : Value) (k : Nat) (ns : List Int), v = sv ∧ i = .int .i64 k ∧ k ≤ ps.length ∧ ns.length = k ∧ wr.ownsRow (w.heap.size + 1) 3 1 v k (iv ns) ∧ Ext (w.alloc (.cells (ps.map Value.string).toArray 9)) wr ∧ Hid (numsL (ps.take k) = some ns)) (fun _ i _ => ps.length - (intOf i).toNat)
  case atStart => exact ⟨_, 0, [], rfl, rfl, by omega, rfl, World.ownsRow_nil _ _ _ _, Ext.refl _, Lib.hid rfl⟩
  case round =>
    obtain ⟨v, k, ns, rfl, rfl, hk, hnk, hown, hx, hns⟩ := hrel
    obtain ⟨A, cap, rfl⟩ : ∃ A cap, v = .slice A k cap := by
      obtain ⟨A, cap, h, _⟩ := SlAt.form (SlAt.of_own hown)
      exact ⟨A, cap, h⟩
    have hx0 : Ext w wr := ((Ext.refl w).alloc _).trans hx
    by_cases hlt : k < ps.length
    · have hcell : wr.cell? ⟨w.heap.size, k, none⟩ = some (.string ps[k]) := by
        rw [hx.cells.1 _ _ (by rw [size_alloc]; omega), cell_of (heap_alloc_at w _)]
        simp [hlt]
      have hsz := hpsz _ (List.getElem_mem hlt)
      have HC := Lib.hid (fun W => num_calls W ps[k] hsz)
      have HT := Lib.hid (show ps.take (k + 1) = ps.take k ++ [ps[k]] from List.take_succ_eq_append_getElem hlt)
      have HN := Lib.hid (numsL_none ps k hlt)
      generalize ps[k] = q at *
      cases hq : numR q with
      | none =>
        have H := Lib.hid (HF.out.trans (HN.out hq))
        rw [hq, show numN none = 0 from rfl, show numE none = 112 from rfl] at HC
        clear hq
        go_wp2_with (go_at_call 50; refine (HC.out _).mono ?_; rintro e w1 ⟨rfl, hb1⟩)
        go_ret2
        exact ⟨_, by rw [H.out]; rfl, by rw [H.out]; exact World.ownsRow_nil _ _ _ _, hx0.trans hb1⟩
      | some n =>
        have H := Lib.hid (numsL_snoc (ps.take k) q ns hns.out n hq)
        rw [hq, show numN (some n) = n from rfl, show numE (some n) = 0 from rfl] at HC
        clear hq
        go_wp2_with (first
          | (go_at_call 50; refine (HC.out _).mono ?_; rintro e w1 ⟨rfl, hb1⟩)
          | (at_builtin; refine wpList_append_own _ rfl _ _ 22 rfl (w.heap.size + 1) 3 i0 _ 1 8 Tryd.underlying22 hi hz0 hz1 hz2 rfl (by decide) _ _ _ rfl (ownsRow_ext hown (hb1.alloc _)) ⟨w1.heap.size, 0, none⟩ 1 1 [.int .i64 n] rfl rfl (fresh_cells [_] rfl) ?c2 ?c3 ?c4 ?c5 ?_))
        case c2 => intro u hu; simp at hu; rw [hu]; rfl
        case c3 => unfold maxLen; omega
        case c4 => omega
        case c5 => have := hb1.size; have h5 := hx.size; rw [size_alloc] at h5; rw [size_alloc]; omega
        intro v' w2 hown' hgrow _
        have hx3 : Ext (w.alloc (.cells (ps.map Value.string).toArray 9)) w2 := ((hx.trans hb1).alloc (.cells #[.int .i64 n] 3)).grown hgrow (fun r hr => by rw [size_alloc]; exact ownsRow_block hown r hr)
        clear hgrow hown hcell HC
        go_wp2
        go_roundw
        case rel => exact ⟨v', k + 1, ns ++ [n], rfl, by go_num, by omega, by simp; omega, by simpa [iv] using hown', hx3, Lib.hid (by rw [HT.out]; exact H.out)⟩
        case measure => simp [intOf]; omega
    · have hkk : k = ps.length := by omega
      subst hkk
      have H := Lib.hid (show numsR s = some ns by rw [HF.out, ← hns.out, List.take_length])
      clear hm HSP
      go_wp2
      go_ret2
      exact ⟨_, by rw [H.out]; rfl, by rw [H.out]; simpa [hnk] using ownsRow_mono hown (Nat.le_succ _), hx0⟩
end Go.Proofs.YtphnfbjbpbfpkaaDoor
