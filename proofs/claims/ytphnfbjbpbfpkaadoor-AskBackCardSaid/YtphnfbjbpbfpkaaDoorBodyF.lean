/- body.Read: the form of a body. -/
import Derived.Test.YtphnfbjbpbfpkaaDoorBodyE
import Derived.Deep.RegionLaw
import Derived.StillTailTactics
import Derived.Carry
namespace Go.Proofs.YtphnfbjbpbfpkaaDoor
open Go.RowKit
set_option maxRecDepth 100000

/-- append onto a row of the call's own, as one step of a region that draws. -/
theorem step_append_own {P : Program} {w : World} {ops : Array Oper} {o : Oper} {a : Act} {K : Act → World → Prop} {Q : Exit → Act → World → Prop} {E : Prop} (hgd : o.guard = none) (s x : Operand) (t : TypeId)
    (ho : o.op = .call { callee := .builtin .append, args := #[s, x], argTypes := #[t, t] })
    (base : Nat) (e : TypeId) (i : TypeInfo) (z : Value) (size bytes : Nat) (ht : P.underlying t = some (.slice e)) (hi : P.info? e = some i) (hz : i.zero = some z)
    (hsize : i.size = size) (hby : i.bytes = bytes) (hzs : z.cells.size = size) (hsz : 0 < size)
    (v : Value) (n : Nat) (xs : List Value) (hs : a.eval s = v) (hown : w.ownsRow base e size v n xs)
    (ad : Addr) (m c : Nat) (news : List Value) (hx : a.eval x = .slice (some ad) m c) (hl : news.length = m * size) (hnews : ∀ j u, news[j]? = some u → w.cell? (ad.add j) = some u) (h1 : ∀ u ∈ news, u.oneCell' = true)
    (h63 : n + m ≤ maxLen) (hbytes : (n + m) * bytes ≤ 140737488355328) (hbase : base ≤ w.heap.size)
    (h : ∀ v' w', w'.ownsRow base e size v' (n + m) (xs ++ news) → w.grownBy w' v.ownBlock → K (a.put o.dst v') w') :
    if Region.wanted o (yielded ops a.tmps) = true then Oper.wp P o a w K Q else E := by
  have hw : Region.wanted o (yielded ops a.tmps) = true := by simp [Region.wanted, hgd]
  rw [if_pos hw]
  exact wp_append_own (P := P) w s x t ho base e i z size bytes ht hi hz hsize hby hzs hsz v n xs hs hown ad m c news hx hl hnews h1 h63 hbytes hbase (fun v' w' h2 h3 _ => h v' w' h2 h3)

def readL : List Fld → FormS → Option FormS
  | [], F => some F
  | x :: r, F => if (assoc F.vals x.tag).isSome then none else readL r { F with order := F.order ++ [x.tag], vals := putKV F.vals x.tag x.val }
def emptyF : FormS := ⟨[], [], [], 0, 0⟩
structure ReadR where
  form : Option FormS
  e : Int
def readR (s : ByteArray) : ReadR :=
  if (fieldsR s).2.2 = 0 then
    match (fieldsR s).1 with
    | [] => ⟨none, 110⟩
    | x :: r => if x.tag = 35 then match readL (x :: r) emptyF with
        | none => ⟨none, 111⟩
        | some F => ⟨some F, 0⟩
      else ⟨none, 110⟩
  else ⟨none, (fieldsR s).2.2⟩

/-- What Read hands back: nil beside an error, or a form in new blocks. -/
def ReadPost (w : World) (s : ByteArray) (e : Ending) (w' : World) : Prop :=
  Ext w w' ∧ match (readR s).form with
    | none => e = .returned (.tuple #[.pointer none, .int .i64 (readR s).e])
    | some F => ∃ p mv ma ov, e = .returned (.tuple #[.pointer (some ⟨p, 0, none⟩), .int .i64 0]) ∧ FormAt w' p mv ma ov F ∧ w.heap.size ≤ p ∧ w.heap.size ≤ ma

/-- A form that is being made: all its blocks are the call's own. -/
structure Making (W w : World) (p mv ma : Nat) (ov : Value) (F : FormS) : Prop where
  ext : Ext W w
  form : FormAt w p mv ma ov F
  own : w.ownsRow W.heap.size 3 1 ov F.order.length (iv F.order)
  hp : W.heap.size ≤ p
  hmv : W.heap.size ≤ mv
  hma : W.heap.size ≤ ma

theorem fieldsF_length (s : ByteArray) : ∀ (f a : Nat) (acc : List Fld), acc.length ≤ 64 → (fieldsF s f a acc).1.length ≤ 64
  | 0, a, acc, h => h
  | f + 1, a, acc, h => by
    unfold fieldsF
    split
    · split
      · exact h
      · split
        · exact fieldsF_length s f _ _ (by simp; omega)
        · exact h
    · exact h
theorem fieldsR_length (s : ByteArray) : (fieldsR s).1.length ≤ 64 := fieldsF_length s _ _ _ (by simp)
theorem Making.cell {W w : World} {p mv ma : Nat} {ov : Value} {F : FormS} (h : Making W w p mv ma ov F) : w.cell? ⟨p, 0, none⟩ = some ov ∧ w.cell? ⟨p, 1, none⟩ = some (.map (some mv)) := ⟨h.form.cell.1, h.form.cell.2.1⟩

theorem own_ne_map {w : World} {B : Nat} {e : TypeId} {sz n m : Nat} {v : Value} {xs : List Value} {es : Array MapEntry} {cl : Nat} (h : w.ownsRow B e sz v n xs) (hp : w.heap[m]? = some (.map es cl)) : some m ≠ v.ownBlock := by
  rcases h.2 with ⟨rfl, _⟩ | ⟨g, cap, cur, rfl, _, hg, _⟩
  · simp [Value.ownBlock]
  · intro hm
    simp only [Value.ownBlock, Option.some.injEq] at hm
    subst hm
    rw [hp] at hg
    cases hg
theorem own_set_ne {w : World} {B : Nat} {e T : TypeId} {sz n p : Nat} {v : Value} {xs : List Value} {cs : Array Value} {fz : Nat × Nat} (h : w.ownsRow B e sz v n xs) (hp : w.heap[p]? = some (.cells cs T fz)) (hne : e ≠ T) (i : Nat) (u : Value) : (w.setCell ⟨p, i, none⟩ u).ownsRow B e sz v n xs := by
  have hb := own_ne_blk h hp hne
  refine ⟨h.1, ?_⟩
  rcases h.2 with hn | ⟨g, cap, cur, hv, hbg, hg, rest⟩
  · exact .inl hn
  · refine .inr ⟨g, cap, cur, hv, hbg, (heap_set_ne _ _ _ (fun e => hb (by rw [hv, e]; rfl))).trans hg, rest⟩
theorem Making.pushed {W Wa w2 : World} {p mv ma : Nat} {ov : Value} {F : FormS} {o : Obj} {ft : Int} {v' : Value} {n : Nat} (h : Making W Wa p mv ma ov F) (hown' : w2.ownsRow W.heap.size 3 1 v' n (iv F.order ++ [.int .i64 ft])) (hn : n = F.order.length + 1)
    (hg : (Wa.alloc o).drew.grownBy w2 ov.ownBlock) : Making W (w2.setCell ⟨p, 0, none⟩ v') p mv ma v' { F with order := F.order ++ [ft] } ∧
      ∀ b cs T fz, Wa.heap[b]? = some (.cells cs T fz) → 3 ≠ T → b ≠ p → (w2.setCell ⟨p, 0, none⟩ v').heap[b]? = some (.cells cs T fz) := by
  have hb : ∀ k, k < Wa.heap.size → some k ≠ ov.ownBlock → w2.heap[k]? = Wa.heap[k]? := fun k hk hne =>
    (hg.block k (by show k < (Wa.alloc o).heap.size; rw [size_alloc]; omega) hne).trans (heap_alloc_lt Wa o hk)
  have hp2 : w2.heap[p]? = _ := (hb p (heap_lt h.form.blk) (own_ne_blk h.own h.form.blk (by decide))).trans h.form.blk
  obtain ⟨e1, c1, hm1, _⟩ := h.form.vals
  obtain ⟨e2, c2, hm2, _⟩ := h.form.asked
  have hpm1 : mv ≠ p := fun e => by rw [e, h.form.blk] at hm1; cases hm1
  have hpm2 : ma ≠ p := fun e => by rw [e, h.form.blk] at hm2; cases hm2
  have hl : iv F.order ++ [.int .i64 ft] = iv (F.order ++ [ft]) := by simp [iv]
  rw [hl] at hown'
  subst hn
  have hlen : F.order.length + 1 = (F.order ++ [ft]).length := by simp
  rw [hlen] at hown'
  have hown3 := own_set_ne hown' hp2 (by decide) 0 v'
  refine ⟨⟨((h.ext.alloc o).drew.grown hg (fun k hk => ownsRow_block h.own k hk)).setCell h.hp _, ⟨?_, ownsRow_mono hown3 (Nat.zero_le _), ?_, ?_, h.form.ne⟩, hown3, h.hp, h.hmv, h.hma⟩, ?_⟩
  · rw [heap_set_at hp2]; rfl
  · exact h.form.vals.keep ((heap_set_ne _ _ _ hpm1).trans (hb mv h.form.vals.lt (own_ne_map h.own hm1)))
  · exact h.form.asked.keep ((heap_set_ne _ _ _ hpm2).trans (hb ma h.form.asked.lt (own_ne_map h.own hm2)))
  · intro b cs T fz hbk hT hne
    exact (heap_set_ne _ _ _ hne).trans ((hb b (heap_lt hbk) (own_ne_blk h.own hbk hT)).trans hbk)

theorem Making.put {W Wb Wc : World} {p mv ma : Nat} {ov : Value} {F : FormS} {l : List (Int × ByteArray)} (h : Making W Wb p mv ma ov F) (hm : MapIs Wc mv (Value.int .i64) Value.string l) (hk : Keeps [mv] Wb Wc) : Making W Wc p mv ma ov { F with vals := l } := by
  obtain ⟨e1, c1, hm1, _⟩ := h.form.vals
  have hpm1 : p ≠ mv := fun e => by rw [← e, h.form.blk] at hm1; cases hm1
  have hown : Wc.ownsRow W.heap.size 3 1 ov F.order.length (iv F.order) := by
    refine ⟨h.own.1, ?_⟩
    rcases h.own.2 with hn | ⟨g, cap, cur, hv, hbg, hg, rest⟩
    · exact .inl hn
    · exact .inr ⟨g, cap, cur, hv, hbg, (hk.block g (heap_lt hg) (by simp; rintro rfl; rw [hm1] at hg; cases hg)).trans hg, rest⟩
  have hext : Ext W Wc := Below.trans h.ext (hk.below h.ext.size (by simp; exact h.hmv))
  exact ⟨hext,
    ⟨(hk.block p (heap_lt h.form.blk) (by simpa using hpm1)).trans h.form.blk, ownsRow_mono hown (Nat.zero_le _), hm, h.form.asked.keep (hk.block ma h.form.asked.lt (by simpa using fun e => h.form.ne e.symm)), h.form.ne⟩, hown, h.hp, h.hmv, h.hma⟩

set_option maxHeartbeats 4000000 in
theorem read_calls (w : World) (s : ByteArray) (hs : s.size ≤ 70368744177664) : Calls Tryd.prog 14 #[.string s] w (ReadPost w s) := by
  obtain ⟨i0, hi, hz0, hz1, hz2⟩ := info_parts intInfo
  have HF := Lib.hid (fields_calls w s hs)
  have HR := Lib.hid (show readR s = if (fieldsR s).2.2 = 0 then
    match (fieldsR s).1 with
    | [] => ⟨none, 110⟩
    | x :: r => if x.tag = 35 then match readL (x :: r) emptyF with
        | none => ⟨none, 111⟩
        | some F => ⟨some F, 0⟩
      else ⟨none, 110⟩
  else ⟨none, (fieldsR s).2.2⟩ from rfl)
  have hlen := fieldsR_length s
  unfold FieldsPost at HF
  generalize fieldsR s = r at *
  obtain ⟨l, at_, fe⟩ := r
  simp only at HF HR hlen
  have hrow : ∀ (w1 : World) (v : Value), w1.ownsRow w.heap.size 55 2 v l.length (fcells l) → Flds w1 v l := fun w1 v h => SlAt.of_own h
  by_cases he : fe = 0
  · subst he
    simp only [if_true] at HR
    by_cases hl0 : l.length = 0
    · obtain rfl : l = [] := List.eq_nil_of_length_eq_zero hl0
      simp only at HR
      go_enter Tryd.func14, Tryd.ntmps14
      go_wp2_with (go_at_call 30; refine HF.out.mono ?_; rintro e w1 ⟨v, rfl, hown, hx⟩; obtain ⟨A, cap, rfl, _⟩ := SlAt.form (SlAt.of_own hown))
      go_ret2
      exact ⟨hx, by rw [HR.out]; rfl⟩
    have hl1 : 1 ≤ l.length := by omega
    have k1 : ((l.length : Int) == 0) = false := beq_eq_false_iff_ne.mpr (by omega)
    obtain ⟨x, hx0⟩ : ∃ x, l[0]? = some x := ⟨l[0], List.getElem?_eq_getElem hl1⟩
    have hmat : (match l with
      | [] => (⟨none, 110⟩ : ReadR)
      | x :: r => if x.tag = 35 then match readL (x :: r) emptyF with
          | none => ⟨none, 111⟩
          | some F => ⟨some F, 0⟩
        else ⟨none, 110⟩) = if x.tag = 35 then match readL l emptyF with
          | none => ⟨none, 111⟩
          | some F => ⟨some F, 0⟩
        else ⟨none, 110⟩ := by
      cases l with
      | nil => simp at hl1
      | cons y r => simp at hx0; subst hx0; rfl
    rw [hmat] at HR
    clear hmat hl0
    have hx00 : l[0] = x := by rw [List.getElem?_eq_getElem hl1] at hx0; exact Option.some.inj hx0
    by_cases h35 : x.tag = 35
    · rw [if_pos h35] at HR
      have k35 : (x.tag != 35) = false := by rw [h35]; rfl
      have HX := Lib.hid hx00
      have hmm := @run_makeMap Tryd.prog
      clear h35 hx0 hx00
      go_enter Tryd.func14, Tryd.ntmps14
      go_wp2_with (go_at_call 30; refine HF.out.mono ?_; rintro e w1 ⟨v, rfl, hown, hx⟩; have hfl := hrow _ _ hown; obtain ⟨b, off, cap, rfl, hb, hc0, hc1⟩ := hfl.at_ hl1; rw [HX.out, Nat.zero_mul, Nat.add_zero] at hc0)
      clear hc0 hc1 HF k1 k35
      have hW3 : Making w1 (((w1.alloc (.map #[] 0)).alloc (.map #[] 0)).alloc (.cells #[.slice none 0 0, .map (some w1.heap.size), .map (some (w1.heap.size + 1)), .int .i64 0, .int .i64 0] 68)) (w1.heap.size + 2) w1.heap.size (w1.heap.size + 1) (.slice none 0 0) emptyF := by
        have e1 := (MapIs.new w1 (Value.int .i64) Value.string).ext (((Ext.refl _).alloc (.map #[] 0)).alloc (.cells #[.slice none 0 0, .map (some w1.heap.size), .map (some (w1.heap.size + 1)), .int .i64 0, .int .i64 0] 68))
        have e2 := (MapIs.new (w1.alloc (.map #[] 0)) (Value.int .i64) Value.bool).ext ((Ext.refl _).alloc (.cells #[.slice none 0 0, .map (some w1.heap.size), .map (some (w1.heap.size + 1)), .int .i64 0, .int .i64 0] 68))
        have e3 := heap_alloc_at ((w1.alloc (.map #[] 0)).alloc (.map #[] 0)) (.cells #[.slice none 0 0, .map (some w1.heap.size), .map (some (w1.heap.size + 1)), .int .i64 0, .int .i64 0] 68)
        rw [size_alloc] at e2
        rw [size_alloc, size_alloc] at e3
        exact ⟨(((Ext.refl _).alloc _).alloc _).alloc _, ⟨e3, World.ownsRow_nil _ _ _ _, e1, e2, by omega⟩, World.ownsRow_nil _ _ _ _, by omega, by omega, by omega⟩
      go_loopw [35] (fun i wr => ∃ (k : Nat) (ov : Value) (F : FormS), i = .int .i64 k ∧ k ≤ l.length ∧ F.order.length ≤ k ∧ F.e = 0 ∧ Making w1 wr (w1.heap.size + 2) w1.heap.size (w1.heap.size + 1) ov F ∧ Hid (readL (l.drop k) F = readL l emptyF)) (fun i _ => l.length - (intOf i).toNat)
      case atStart => exact ⟨0, _, emptyF, rfl, by omega, by simp [emptyF], rfl, hW3, Lib.hid rfl⟩
      case round =>
        obtain ⟨k, ov, F, rfl, hk, hord, hFe, hM, hrd⟩ := hrel
        clear hW3
        by_cases hlt : k < l.length
        · obtain ⟨b', off', cap', hA, hb', hc0, hc1⟩ := (hfl.ext hM.ext).at_ hlt
          obtain ⟨rfl, rfl, rfl⟩ : b = b' ∧ off = off' ∧ cap = cap' := by injection hA with h1 _ h2; injection h1 with h1; injection h1 with h1 h3; exact ⟨h1, h3, h2⟩
          clear hA
          have HT := Lib.hid (show l.drop k = l[k] :: l.drop (k + 1) from List.drop_eq_getElem_cons hlt)
          generalize l[k] = f at *
          obtain ⟨ft, fv⟩ := f
          simp only at hc0 hc1
          have HRL := Lib.hid (show readL (l.drop k) F = if (assoc F.vals ft).isSome then none else readL (l.drop (k + 1)) { F with order := F.order ++ [ft], vals := putKV F.vals ft fv } by rw [HT.out, readL])
          have hM1 := Lib.hid (fun (W : World) (hW : Ext wr W) => has_calls W (hM.form.ext hW) ft)
          cases ha : assoc F.vals ft with
          | some u =>
            rw [ha] at hM1 HRL
            have H := Lib.hid (show readR s = ⟨none, 111⟩ by rw [HR.out, ← hrd.out, HRL.out]; rfl)
            clear ha
            go_wp2_with (go_at_call 31; refine (hM1.out _ ((Ext.refl wr).alloc _)).mono ?_; rintro e W ⟨rfl, rfl⟩)
            go_ret2
            exact ⟨hx.trans (hM.ext.alloc _), by rw [H.out]; rfl⟩
          | none =>
            rw [ha] at hM1 HRL
            clear ha
            go_wp2_with (go_at_call 31; refine (hM1.out _ ((Ext.refl wr).alloc _)).mono ?_; rintro e W ⟨rfl, rfl⟩)
            have hM2 : Making w1 (wr.alloc (.cells #[.int .i64 ft, .string fv] 55)) (w1.heap.size + 2) w1.heap.size (w1.heap.size + 1) ov F := ⟨hM.ext.alloc _, hM.form.ext ((Ext.refl _).alloc _), ownsRow_ext hM.own ((Ext.refl _).alloc _), hM.hp, hM.hmv, hM.hma⟩
            have cb := heap_alloc_at wr (.cells #[.int .i64 ft, .string fv] 55)
            have ct : (wr.alloc (.cells #[.int .i64 ft, .string fv] 55)).cell? ⟨wr.heap.size, 0, none⟩ = some (.int .i64 ft) := by rw [cell_of (heap_alloc_at _ _)]; rfl
            have cv : (wr.alloc (.cells #[.int .i64 ft, .string fv] 55)).cell? ⟨wr.heap.size, 1, none⟩ = some (.string fv) := by rw [cell_of (heap_alloc_at _ _)]; rfl
            have hbx : wr.heap.size < (wr.alloc (.cells #[.int .i64 ft, .string fv] 55)).heap.size := by rw [size_alloc]; omega
            have hbx2 : w1.heap.size + 2 < wr.heap.size := heap_lt hM.form.blk
            generalize wr.alloc (.cells #[.int .i64 ft, .string fv] 55) = Wa at *
            generalize wr.heap.size = bx at *
            obtain ⟨A, c, rfl⟩ : ∃ A c, ov = .slice A F.order.length c := by
              obtain ⟨A, c, h, _⟩ := SlAt.form (SlAt.of_own hM2.own)
              exact ⟨A, c, h⟩
            have cp0 := hM2.cell.1
            have hown2 := hM2.own
            have hpb := hM2.form.blk
            have hpl : w1.heap.size + 2 < Wa.heap.size := heap_lt hpb
            go_region_law (refine step_append_own rfl (.tmp 47) (.tmp 50) 22 rfl w1.heap.size 3 i0 (.int .i64 0) 1 8 Tryd.underlying22 hi hz0 hz1 hz2 rfl (by decide) (.slice A F.order.length c) F.order.length (iv F.order) rfl (by exact ownsRow_ext hown2 ((Ext.refl _).alloc _).drew) ⟨Wa.heap.size, 0, none⟩ 1 1 [.int .i64 ft] rfl rfl (by exact fresh_cells [_] rfl) (by intro u hu; simp at hu; rw [hu]; rfl) (by unfold maxLen; omega) (by omega) (by have := hM2.ext.size; simp; omega) ?_; intro v' w2 hown' hgrow; obtain ⟨A', c', rfl⟩ := ownsRow_form hown'; have hw2 := (hgrow.block _ (by have := heap_lt hpb; simp; omega) (by exact own_ne_blk hown2 hpb (by decide))).trans ((heap_alloc_lt Wa _ (heap_lt hpb)).trans hpb); have g0 := cell_of (i := 0) hw2; have g1 := frozen_of (i := 0) hw2)
            all_goals
              obtain ⟨hM3, hkeep⟩ := hM2.pushed hown' rfl hgrow
              have cb2 := hkeep _ _ _ _ cb (by decide) (by omega)
              have ct2 := cell_of (i := 0) cb2
              have cv2 := cell_of (i := 1) cb2
              have cm2 := hM3.cell.2
              clear g0 g1 hw2 cp0 hown2 hpb hown' hgrow hkeep ct cv cb hM hM2 hc0 hc1
              generalize World.setCell w2 ⟨w1.heap.size + 2, 0, none⟩ _ = Wb at *
              obtain ⟨Wc, hu, hm1, hk1, hs1⟩ := update_run (P := Tryd.prog) (w := Wb.drew) key_int Tryd.underlying65 Tryd.underlying3 hM3.form.vals ft fv
              have hM4 := hM3.put hm1 ⟨hk1.os, hk1.tape, hk1.output, hk1.size, hk1.block⟩
              go_wp2
              go_still_tail 8, (by kernel_rfl)
              change wpList _ _ _ _ _ Wb.drew
              go_wp2
              go_roundw
              case rel => exact ⟨k + 1, _, { F with order := F.order ++ [ft], vals := putKV F.vals ft fv }, by go_num, by omega, by simp; omega, hFe, hM4, Lib.hid (by rw [← hrd.out, HRL.out]; rfl)⟩
              case measure => simp [intOf]; omega
        · have hkk : k = l.length := by omega
          subst hkk
          have H := Lib.hid (show readR s = ⟨some F, 0⟩ by
            rw [HR.out, ← hrd.out, List.drop_length]; rfl)
          go_wp2
          go_ret2
          refine ⟨hx.trans hM.ext, ?_⟩
          rw [H.out]
          exact ⟨w1.heap.size + 2, w1.heap.size, w1.heap.size + 1, ov, rfl, hM.form, by have := hx.size; omega, by have := hx.size; omega⟩
    · have k35 : (x.tag != 35) = true := by rw [bne_iff_ne]; exact h35
      rw [if_neg h35] at HR
      have HX := Lib.hid hx00
      clear h35 hx0 hx00
      go_enter Tryd.func14, Tryd.ntmps14
      go_wp2_with (go_at_call 30; refine HF.out.mono ?_; rintro e w1 ⟨v, rfl, hown, hx⟩; have hfl := hrow _ _ hown; obtain ⟨b, off, cap, rfl, hb, hc0, hc1⟩ := hfl.at_ hl1; rw [HX.out, Nat.zero_mul, Nat.add_zero] at hc0)
      go_ret2
      exact ⟨hx, by rw [HR.out]; rfl⟩
  · have ke : (fe != 0) = true := by rw [bne_iff_ne]; exact he
    rw [if_neg he] at HR
    clear he
    go_enter Tryd.func14, Tryd.ntmps14
    go_wp2_with (go_at_call 30; refine HF.out.mono ?_; rintro e w1 ⟨v, rfl, hown, hx⟩; obtain ⟨A, cap, rfl, _⟩ := SlAt.form (SlAt.of_own hown))
    go_ret2
    exact ⟨hx, by rw [HR.out]; rfl⟩
end Go.Proofs.YtphnfbjbpbfpkaaDoor
