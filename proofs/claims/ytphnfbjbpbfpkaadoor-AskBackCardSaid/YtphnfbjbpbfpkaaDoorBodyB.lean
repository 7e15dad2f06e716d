/- A body's form in memory, and its methods. -/
import Derived.Test.YtphnfbjbpbfpkaaDoorBodyA
namespace Go.Proofs.YtphnfbjbpbfpkaaDoor
open Go.RowKit
set_option maxRecDepth 100000

structure FormS where
  order : List Int
  vals : List (Int × ByteArray)
  asked : List (Int × Bool)
  tag : Int
  e : Int
/-- The form lies in block p, its maps in the blocks mv and ma, its order in the slice ov. -/
structure FormAt (w : World) (p mv ma : Nat) (ov : Value) (F : FormS) : Prop where
  blk : w.heap[p]? = some (.cells #[ov, .map (some mv), .map (some ma), .int .i64 F.tag, .int .i64 F.e] 68 (0, 0))
  ord : w.ownsRow 0 3 1 ov F.order.length (iv F.order)
  vals : MapIs w mv (Value.int .i64) Value.string F.vals
  asked : MapIs w ma (Value.int .i64) Value.bool F.asked
  ne : mv ≠ ma
theorem FormAt.ext {w w' : World} {p mv ma : Nat} {ov : Value} {F : FormS} (h : FormAt w p mv ma ov F) (he : Ext w w') : FormAt w' p mv ma ov F :=
  ⟨he.heap h.blk, ownsRow_ext h.ord he, h.vals.ext he, h.asked.ext he, h.ne⟩
theorem FormAt.cell {w : World} {p mv ma : Nat} {ov : Value} {F : FormS} (h : FormAt w p mv ma ov F) :
    w.cell? ⟨p, 0, none⟩ = some ov ∧ w.cell? ⟨p, 1, none⟩ = some (.map (some mv)) ∧ w.cell? ⟨p, 2, none⟩ = some (.map (some ma)) ∧ w.cell? ⟨p, 3, none⟩ = some (.int .i64 F.tag) ∧ w.cell? ⟨p, 4, none⟩ = some (.int .i64 F.e) :=
  ⟨by rw [cell_of h.blk]; rfl, by rw [cell_of h.blk]; rfl, by rw [cell_of h.blk]; rfl, by rw [cell_of h.blk]; rfl, by rw [cell_of h.blk]; rfl⟩

section
variable (w : World) {p mv ma : Nat} {ov : Value} {F : FormS}
theorem has_calls (h : FormAt w p mv ma ov F) (t : Int) : Calls Tryd.prog 31 #[.pointer (some ⟨p, 0, none⟩), .int .i64 t] w fun e w' => e = .returned (.bool (assoc F.vals t).isSome) ∧ w = w' := by
  obtain ⟨c0, c1, c2, c3, c4⟩ := h.cell
  have hl := lookup_run key_int Tryd.underlying65 Tryd.underlying3 Tryd.zeroValue9 h.vals t true
  go_enter Tryd.func31, Tryd.ntmps31
  go_wp2
  go_ret
  exact ⟨rfl, rfl⟩
theorem is_calls (h : FormAt w p mv ma ov F) : Calls Tryd.prog 32 #[.pointer (some ⟨p, 0, none⟩)] w fun e w' => e = .returned (.bool true) ∧ w = w' := by
  obtain ⟨c0, c1, c2, c3, c4⟩ := h.cell
  have hq := run_neq_map_nil w 65 _ _ (some mv) Tryd.underlying65
  go_enter Tryd.func32, Tryd.ntmps32
  go_wp2
  go_ret
  exact ⟨rfl, rfl⟩

/-! ### what the form is behind a call -/
theorem FormAt.p_ne_ma (h : FormAt w p mv ma ov F) : p ≠ ma := by
  rintro rfl
  obtain ⟨es, c, hm, _⟩ := h.asked
  rw [h.blk] at hm
  cases hm
theorem FormAt.p_ne_mv (h : FormAt w p mv ma ov F) : p ≠ mv := by
  rintro rfl
  obtain ⟨es, c, hm, _⟩ := h.vals
  rw [h.blk] at hm
  cases hm
/-- A row of ints lies neither in the form's block nor in a map's. -/
theorem FormAt.ord_keep {w' : World} (h : FormAt w p mv ma ov F) (hk : Keeps [p, ma] w w') : w'.ownsRow 0 3 1 ov F.order.length (iv F.order) := by
  refine ⟨h.ord.1, ?_⟩
  rcases h.ord.2 with hn | ⟨g, cap, cur, hv, hbg, hg, rest⟩
  · exact .inl hn
  · refine .inr ⟨g, cap, cur, hv, hbg, (hk.block g (heap_lt hg) ?_).trans hg, rest⟩
    intro hm
    simp only [List.mem_cons, List.not_mem_nil, or_false] at hm
    rcases hm with rfl | rfl
    · rw [h.blk] at hg; cases hg
    · obtain ⟨es, c, hm, _⟩ := h.asked
      rw [hm] at hg; cases hg
theorem FormAt.marked {w' : World} (h : FormAt w p mv ma ov F) {l : List (Int × Bool)} (hm : MapIs w' ma (Value.int .i64) Value.bool l) (hk : Keeps [ma] w w') : FormAt w' p mv ma ov { F with asked := l } :=
  ⟨(hk.block p (heap_lt h.blk) (by simpa using h.p_ne_ma w)).trans h.blk, h.ord_keep w (hk.mono (by simp)), h.vals.keep (hk.block mv h.vals.lt (by simpa using h.ne)), hm, h.ne⟩
theorem FormAt.failed (h : FormAt w p mv ma ov F) (a b : Int) : FormAt ((w.setCell ⟨p, 3, none⟩ (.int .i64 a)).setCell ⟨p, 4, none⟩ (.int .i64 b)) p mv ma ov { F with tag := a, e := b } := by
  have hk : Keeps [p, ma] w ((w.setCell ⟨p, 3, none⟩ (.int .i64 a)).setCell ⟨p, 4, none⟩ (.int .i64 b)) := ((Keeps.refl _ w).setCell (.inl (by simp)) _).setCell (.inl (by simp)) _
  have hmv := h.p_ne_mv w
  have hma := h.p_ne_ma w
  refine ⟨?_, h.ord_keep w hk, h.vals.keep (hk.block mv h.vals.lt (by simp; exact ⟨fun e => hmv e.symm, h.ne⟩)), ?_, h.ne⟩
  · rw [heap_set_at (heap_set_at h.blk _)]; rfl
  · refine h.asked.keep ?_
    rw [heap_set_ne _ _ _ (fun e => hma e.symm), heap_set_ne _ _ _ (fun e => hma e.symm)]
def markF (F : FormS) (t : Int) : FormS := { F with asked := putKV F.asked t true }
def failF (F : FormS) (t E : Int) : FormS := { F with asked := putKV F.asked t true, tag := t, e := E }
theorem name1_calls (s : ByteArray) : Calls Tryd.prog 47 #[.string s] w fun e w' => e = .returned (.tuple #[.string (if validB s then s else ⟨#[]⟩), .int .i64 (if validB s then 0 else 43)]) ∧ Ext w w' := by
  cases hv : validB s
  all_goals
    have H := Lib.hid hv
    clear hv
    go_enter Tryd.func47, Tryd.ntmps47
    go_wp2_with (go_at_call 20; refine (valid_calls _ _).mono ?_; rw [H.out]; rintro e w' ⟨rfl, hb⟩)
    go_ret2
    exact ⟨rfl, hb⟩

def rngE (lo hi : Int) : Option Int → Int
  | none => 112
  | some n => if n < lo ∨ hi < n then 2 else 0
theorem int1_calls (s : ByteArray) (hs : s.size ≤ 70368744177664) (lo hi : Int) (bl bh : Nat) (cl : w.cell? ⟨bl, 0, none⟩ = some (.int .i64 lo)) (ch : w.cell? ⟨bh, 0, none⟩ = some (.int .i64 hi)) :
    Calls Tryd.prog 49 #[.string s, .pointer (some ⟨bl, 0, none⟩), .pointer (some ⟨bh, 0, none⟩)] w fun e w' =>
      e = .returned (.tuple #[.int .i64 (numN (numR s)), .int .i64 (rngE lo hi (numR s))]) ∧ Ext w w' := by
  have HC := Lib.hid (fun W => num_calls W s hs)
  have HL := Lib.hid (And.intro (block_lt_of_cell cl) (block_lt_of_cell ch))
  cases hq : numR s with
  | none =>
    rw [hq, show numN none = 0 from rfl, show numE none = 112 from rfl] at HC
    clear hq
    go_enter Tryd.func49, Tryd.ntmps49
    go_wp2_with (go_at_call 50; refine (HC.out _).mono ?_; rintro e w1 ⟨rfl, hb1⟩)
    go_ret2
    exact ⟨rfl, hb1⟩
  | some n =>
    rw [hq, show numN (some n) = n from rfl, show numE (some n) = 0 from rfl] at HC
    clear hq
    simp only [show numN (some n) = n from rfl]
    by_cases h1 : n < lo
    · have H := Lib.hid (show rngE lo hi (some n) = 2 from if_pos (.inl h1))
      go_enter Tryd.func49, Tryd.ntmps49
      go_wp2_with (go_at_call 50; refine (HC.out _).mono ?_; rintro e w1 ⟨rfl, hb1⟩; have c1 := (hb1.cells.1 _ _ HL.out.1).trans cl; have c2 := (hb1.cells.1 _ _ HL.out.2).trans ch; clear cl ch)
      go_ret2
      exact ⟨by rw [H.out]; rfl, hb1⟩
    by_cases h2 : hi < n
    · have H := Lib.hid (show rngE lo hi (some n) = 2 from if_pos (.inr h2))
      have h1' : lo ≤ n := by omega
      clear h1
      go_enter Tryd.func49, Tryd.ntmps49
      go_wp2_with (go_at_call 50; refine (HC.out _).mono ?_; rintro e w1 ⟨rfl, hb1⟩; have c1 := (hb1.cells.1 _ _ HL.out.1).trans cl; have c2 := (hb1.cells.1 _ _ HL.out.2).trans ch; clear cl ch)
      go_ret2
      exact ⟨by rw [H.out]; rfl, hb1⟩
    · have H := Lib.hid (show rngE lo hi (some n) = 0 from if_neg (by omega))
      have h1' : lo ≤ n := by omega
      have h2' : n ≤ hi := by omega
      clear h1 h2
      go_enter Tryd.func49, Tryd.ntmps49
      go_wp2_with (go_at_call 50; refine (HC.out _).mono ?_; rintro e w1 ⟨rfl, hb1⟩; have c1 := (hb1.cells.1 _ _ HL.out.1).trans cl; have c2 := (hb1.cells.1 _ _ HL.out.2).trans ch; clear cl ch)
      go_ret2
      exact ⟨by rw [H.out]; rfl, hb1⟩

def badIn (lo hi n : Int) : Bool := decide (n < lo) || decide (hi < n)
def intsE (most lo hi : Int) : Option (List Int) → Int
  | none => 112
  | some l => if most < l.length then 3 else if l.any (badIn lo hi) then 2 else 0
def Ints1Post (w : World) (s : ByteArray) (most lo hi : Int) (e : Ending) (w' : World) : Prop :=
  ∃ v, e = .returned (.tuple #[v, .int .i64 (intsE most lo hi (numsR s))]) ∧ (intsE most lo hi (numsR s) = 0 → w'.ownsRow w.heap.size 3 1 v ((numsR s).getD []).length (iv ((numsR s).getD []))) ∧ Ext w w'
theorem getD_mem_any {l : List Int} {k : Nat} (hk : k < l.length) {q : Int → Bool} (h : q (l.getD k 0) = true) : l.any q = true := by
  rw [List.any_eq_true]
  exact ⟨l.getD k 0, by simp [List.getD_eq_getElem?_getD, List.getElem?_eq_getElem hk], h⟩

set_option maxHeartbeats 2000000 in
theorem ints1_calls (s : ByteArray) (hs : s.size ≤ 4000000000) (hg : Glob w) (most lo hi : Int) (bm bl bh : Nat) (cm : w.cell? ⟨bm, 0, none⟩ = some (.int .i64 most)) (cl : w.cell? ⟨bl, 0, none⟩ = some (.int .i64 lo)) (ch : w.cell? ⟨bh, 0, none⟩ = some (.int .i64 hi)) :
    Calls Tryd.prog 52 #[.string s, .pointer (some ⟨bm, 0, none⟩), .pointer (some ⟨bl, 0, none⟩), .pointer (some ⟨bh, 0, none⟩)] w (Ints1Post w s most lo hi) := by
  have HL := Lib.hid (And.intro (block_lt_of_cell cm) (And.intro (block_lt_of_cell cl) (block_lt_of_cell ch)))
  have HN := Lib.hid (nums_calls w s hs hg)
  go_enter Tryd.func52, Tryd.ntmps52
  go_wp2_with fail
  refine HN.out.mono ?_
  rintro e w1 ⟨v, rfl, hown, hb1⟩
  have c1 := (hb1.cells.1 _ _ HL.out.1).trans cm
  have c2 := (hb1.cells.1 _ _ HL.out.2.1).trans cl
  have c3 := (hb1.cells.1 _ _ HL.out.2.2).trans ch
  clear cm cl ch HN HL
  have hown' := hown
  obtain ⟨A, cap, hv⟩ : ∃ A cap, v = .slice A ((numsR s).getD []).length cap := by
    obtain ⟨A, cap, h, _⟩ := SlAt.form (SlAt.of_own hown)
    exact ⟨A, cap, h⟩
  have hI : Ints w1 v ((numsR s).getD []) := SlAt.of_own hown
  subst hv
  cases hq : numsR s with
  | none =>
    have H := Lib.hid (show intsE most lo hi (numsR s) = 112 by rw [hq]; rfl)
    rw [hq] at hown
    simp only [hq, Option.isSome_none, Option.getD_none, List.length_nil]
    clear hq hI hown'
    go_wp2
    go_loop [26] (fun i => i = .int .i64 0) (fun _ => 0)
    case atStart => rfl
    case round =>
      obtain rfl := hrel
      go_wp2
      go_ret2
      exact ⟨_, by rw [H.out]; rfl, (fun h => by rw [H.out] at h; cases h), hb1⟩
  | some l =>
    rw [hq] at hown hI
    simp only [hq, Option.isSome_some, Option.getD_some, if_true]
    simp only [Option.getD_some] at hown hI
    by_cases h1 : most < l.length
    · have H := Lib.hid (show intsE most lo hi (numsR s) = 3 by rw [hq]; simp [intsE, h1])
      clear hq hI hown'
      go_wp2
      go_ret2
      exact ⟨_, by rw [H.out]; rfl, (fun h => by rw [H.out] at h; cases h), hb1⟩
    · have h1' : (l.length : Int) ≤ most := by omega
      have HE := Lib.hid (show intsE most lo hi (numsR s) = if l.any (badIn lo hi) then 2 else 0 by rw [hq]; simp [intsE, h1])
      have HO := Lib.hid (show (numsR s).getD [] = l by rw [hq]; rfl)
      have hll : l.length ≤ 4000000001 := by have := numsR_length hq; omega
      clear hq h1 hown'
      go_wp2
      go_loop [26] (fun i => ∃ k : Nat, k ≤ l.length ∧ i = .int .i64 k ∧ Hid ((l.take k).any (badIn lo hi) = false)) (fun i => l.length - (intOf i).toNat)
      case atStart => exact ⟨0, by omega, rfl, Lib.hid (by simp)⟩
      case round =>
        obtain ⟨k, hk, rfl, hall⟩ := hrel
        by_cases hlt : k < l.length
        · obtain ⟨b, off, c', hA, hb, hcell⟩ := hI.at_ hlt
          obtain ⟨rfl, rfl⟩ : A = some ⟨b, off, none⟩ ∧ cap = c' := by injection hA with h1 _ h2; exact ⟨h1, h2⟩
          clear hA
          have HM := Lib.hid (fun h => getD_mem_any (q := badIn lo hi) hlt h)
          have HT := Lib.hid (take_succ_any hlt (badIn lo hi))
          generalize l.getD k 0 = x at *
          go_wp2
          all_goals first
            | (go_ret2
               have H := Lib.hid (show intsE most lo hi (numsR s) = 2 by rw [HE.out, if_pos (HM.out (by simp [badIn]; omega))])
               exact ⟨_, by rw [H.out]; rfl, (fun h => by rw [H.out] at h; cases h), hb1⟩)
            | (go_round
               case rel => exact ⟨k + 1, by omega, by go_num, Lib.hid (by rw [HT.out, hall.out]; simp [badIn]; omega)⟩
               case measure => simp [intOf]; omega)
        · have hkk : k = l.length := by omega
          subst hkk
          have H := Lib.hid (show intsE most lo hi (numsR s) = 0 by rw [HE.out, ← List.take_length (l := l), hall.out]; rfl)
          go_wp2
          go_ret2
          exact ⟨_, by rw [H.out]; rfl, (fun _ => by rw [HO.out]; exact hown), hb1⟩
end
end Go.Proofs.YtphnfbjbpbfpkaaDoor
