/- PLAIN LAW: decode (encode a) = a of every right a: the five shapes. -/
import Derived.Test.YtphnfbjbpbfpkaaDoorPlainE
namespace Go.Proofs.YtphnfbjbpbfpkaaDoor
open Go.RowKit
set_option maxRecDepth 100000
attribute [local irreducible] Utf8.encode

structure St (G : FormS) (V : List (Int × ByteArray)) (O ts : List Int) : Prop where
  e : G.e = 0
  vals : G.vals = V
  order : G.order = O
  asked : ∀ u ∈ ts, (assoc G.asked u).getD false = true
section
variable {G : FormS} {V : List (Int × ByteArray)} {O ts : List Int} {t : Int}
theorem St.mark (h : St G V O ts) (t : Int) : St (markF G t) V O (t :: ts) := by
  refine ⟨h.e, h.vals, h.order, fun u hu => ?_⟩
  rw [mark_asked]
  rw [List.mem_cons] at hu
  rcases hu with rfl | hu
  · simp
  · rw [h.asked u hu]; simp
theorem St.name (h : St G V O ts) {s : ByteArray} (ha : assoc V t = some s) (hv : validB s = true) : (askN G t).1 = s ∧ St (askN G t).2 V O (t :: ts) := by
  rw [askN_val h.e (by rw [h.vals]; exact ha) hv]
  exact ⟨rfl, h.mark t⟩
theorem St.int (h : St G V O ts) {n lo hi : Int} (ha : assoc V t = some (bytesOf (Lib.itoa n))) (h0 : 0 ≤ n) (h1 : n ≤ 9223372036854775807) (hl : lo ≤ n) (hh : n ≤ hi) : (askI G t lo hi).1 = n ∧ St (askI G t lo hi).2 V O (t :: ts) := by
  rw [askI_val h.e (by rw [h.vals]; exact ha) h0 h1 hl hh]
  exact ⟨rfl, h.mark t⟩
theorem St.ints (h : St G V O ts) {most lo hi : Int} {l : List Int} (ha : assoc V t = some (numsText l)) (hne : l ≠ []) (hr : ∀ n ∈ l, (0 ≤ n ∧ n ≤ 9223372036854775807) ∧ lo ≤ n ∧ n ≤ hi) (hm : (l.length : Int) ≤ most) : (askIs G t most lo hi).1 = l ∧ St (askIs G t most lo hi).2 V O (t :: ts) := by
  rw [askIs_val h.e (by rw [h.vals]; exact ha) hne hr hm]
  exact ⟨rfl, h.mark t⟩
end

theorem right_dec {a : Ask} (h : rightB a = true) : decR (encS a) = ⟨a, 0, 0⟩ := by
  have hE := (right_encE h).2
  have hforms := right_forms h
  obtain ⟨hk, hid, hc⟩ := rightB_eq h
  have hcons : fieldsOf a = ⟨35, kindOfB a.kind⟩ :: (⟨11, a.id⟩ :: restOf a) := rfl
  have hnd : ((fieldsOf a).map Fld.tag).Nodup := by
    unfold fieldsOf restOf midOf
    repeat' split
    all_goals simp
  have hform := readR_forms (fieldsOf a) _ _ hcons hforms (fieldsOf_length a) hnd
  have hword := form_word (fieldsOf a) _ _ hcons
  rw [hE]
  unfold decR
  rw [hform]
  simp only
  have h0 : St (kindF (formF (fieldsOf a))) (pairsOf (fieldsOf a)) ((fieldsOf a).map Fld.tag) [35] := by
    rw [kindF_form]
    exact St.mark ⟨rfl, rfl, rfl, fun u hu => by cases hu⟩ 35
  have hfin : ∀ {G : FormS} {ts : List Int}, readAsk a.kind (kindF (formF (fieldsOf a))) = (a, G) → St G (pairsOf (fieldsOf a)) ((fieldsOf a).map Fld.tag) ts → (∀ t ∈ (fieldsOf a).map Fld.tag, t ∈ ts) → (wholeR a).2 = 0 → decF (formF (fieldsOf a)) = ⟨a, 0, 0⟩ :=
    fun hr hs ht hw => dec_right_of hk hword hr hs.e (fun t hm => hs.asked t (ht t (by rw [← hs.order]; exact hm))) hw
  generalize hF : kindF (formF (fieldsOf a)) = F at *
  obtain ⟨i1, h1⟩ := h0.name (t := 11) (s := a.id) (by simp [pairsOf, fieldsOf, assoc]) hid
  rcases hc with ⟨k1, hn⟩ | ⟨k3, ht, hb, hq, hp, hf⟩ | ⟨k1, k3, ht, hb, hq, hp, hf⟩
  · have ha : 1 ≤ a.algo ∧ a.algo ≤ 4 := by
      rcases algoB_eq hn.algo with ⟨e, _⟩ | ⟨e, _⟩ | ⟨e, _⟩ | ⟨e, _⟩ <;> omega
    obtain ⟨hq, hp, hf⟩ := hn.worth
    have hsd := hn.side
    have hst := hn.start
    obtain ⟨i2, h2⟩ := St.name (G := f1 F) h1 (t := 1) (s := a.account) (by simp [pairsOf, fieldsOf, restOf, k1, assoc]) hn.account
    obtain ⟨i3, h3⟩ := St.name (G := f2 F) h2 (t := 55) (s := a.symbol) (by simp [pairsOf, fieldsOf, restOf, k1, assoc]) hn.symbol
    obtain ⟨i4, h4⟩ := St.int (G := f3 F) h3 (t := 54) (n := a.side) (lo := 1) (hi := 2) (by simp [pairsOf, fieldsOf, restOf, k1, assoc]) (by omega) (by omega) (by omega) (by omega)
    obtain ⟨i5, h5⟩ := St.int (G := f4 F) h4 (t := 38) (n := a.qty) (lo := 1) (hi := 1099511627776) (by simp [pairsOf, fieldsOf, restOf, k1, assoc]) (by omega) (by omega) (by omega) (by omega)
    obtain ⟨i6, h6⟩ := St.int (G := f5 F) h5 (t := 44) (n := a.price) (lo := 1) (hi := 1099511627776) (by simp [pairsOf, fieldsOf, restOf, k1, assoc]) (by omega) (by omega) (by omega) (by omega)
    obtain ⟨i7, h7⟩ := St.int (G := f6 F) h6 (t := 5001) (n := a.algo) (lo := 1) (hi := 4) (by simp [pairsOf, fieldsOf, restOf, k1, assoc]) (by omega) (by omega) (by omega) (by omega)
    obtain ⟨i8, h8⟩ := St.int (G := f7 F) h7 (t := 5002) (n := a.start) (lo := 0) (hi := 1099511627776) (by simp [pairsOf, fieldsOf, restOf, k1, assoc]) (by omega) (by omega) (by omega) (by omega)
    obtain ⟨i9, h9⟩ := St.int (G := f8 F) h8 (t := 5003) (n := a.fin) (lo := 0) (hi := 1099511627776) (by simp [pairsOf, fieldsOf, restOf, k1, assoc]) (by omega) (by omega) (by omega) (by omega)
    have iA : algoOf F = a.algo := i7
    have hnew : ∀ r s c, newOf F r s c = ⟨1, a.id, ⟨#[]⟩, a.account, a.symbol, a.side, a.qty, a.price, a.algo, a.start, a.fin, r, s, c⟩ := by
      intro r s c
      unfold newOf
      rw [i1, i2, i3, i4, i5, i6, iA, i8, i9]
    have hra : readAsk a.kind F = readNew F := by unfold readAsk; rw [if_pos k1]
    have hself : a = ⟨1, a.id, ⟨#[]⟩, a.account, a.symbol, a.side, a.qty, a.price, a.algo, a.start, a.fin, a.rate, a.shown, a.curve⟩ := by
      have := hn.target
      cases a
      simp only at k1 this
      subst k1 this
      rfl
    rcases algoB_eq hn.algo with ⟨e, hcv, hr, hs⟩ | ⟨e, hcv, hr, hs⟩ | ⟨e, hcv, hr, hs⟩ | ⟨e, hcv, hr, hs⟩
    · refine hfin (G := f9 F) ?_ h9 ?_ ?_
      · rw [hra]
        unfold readNew
        rw [iA, if_neg (by omega), if_neg (by omega), if_neg (by omega), hnew]
        conv => rhs; rw [hself]
        rw [hcv, hr, hs]
      · simp [fieldsOf, restOf, midOf, k1, e]
      · simp [wholeR, k1, hn.span, e]
    · obtain ⟨c1, c2, c3⟩ := curveOk_eq hcv
      obtain ⟨i10, h10⟩ := St.ints (G := f9 F) h9 (t := 5006) (l := a.curve) (most := 64) (lo := 0) (hi := 1048576) (by simp [pairsOf, fieldsOf, restOf, midOf, k1, e, assoc]) (by intro hh; rw [hh] at c1; simp at c1) (fun n hn => by have := c3 n hn; omega) (by omega)
      refine hfin ?_ h10 ?_ ?_
      · rw [hra]
        unfold readNew
        rw [iA, if_pos e, hnew, i10]
        conv => rhs; rw [hself]
        rw [hr, hs]
      · simp [fieldsOf, restOf, midOf, k1, e]
      · simp [wholeR, k1, hn.span, hcv]
    · obtain ⟨i10, h10⟩ := St.int (G := f9 F) h9 (t := 5004) (n := a.rate) (lo := 1) (hi := 10000) (by simp [pairsOf, fieldsOf, restOf, midOf, k1, e, assoc]) (by omega) (by omega) (by omega) (by omega)
      refine hfin ?_ h10 ?_ ?_
      · rw [hra]
        unfold readNew
        rw [iA, if_neg (by omega), if_pos e, hnew, i10]
        conv => rhs; rw [hself]
        rw [hcv, hs]
      · simp [fieldsOf, restOf, midOf, k1, e]
      · simp [wholeR, k1, hn.span, e]
    · obtain ⟨i10, h10⟩ := St.int (G := f9 F) h9 (t := 5005) (n := a.shown) (lo := 1) (hi := 1099511627776) (by simp [pairsOf, fieldsOf, restOf, midOf, k1, e, assoc]) (by omega) (by omega) (by omega) (by omega)
      refine hfin ?_ h10 ?_ ?_
      · rw [hra]
        unfold readNew
        rw [iA, if_neg (by omega), if_neg (by omega), if_pos e, hnew, i10]
        conv => rhs; rw [hself]
        rw [hcv, hr]
      · simp [fieldsOf, restOf, midOf, k1, e]
      · simp [wholeR, k1, hn.span, e]
  · obtain ⟨i2, h2⟩ := St.name (G := f1 F) h1 (t := 41) (s := a.target) (by simp [pairsOf, fieldsOf, restOf, k3, assoc]) ht
    obtain ⟨i3, h3⟩ := St.int (G := g2 F) h2 (t := 38) (n := a.qty) (lo := 1) (hi := 1099511627776) (by simp [pairsOf, fieldsOf, restOf, k3, assoc]) (by omega) (by omega) (by omega) (by omega)
    obtain ⟨i4, h4⟩ := St.int (G := g3 F) h3 (t := 44) (n := a.price) (lo := 1) (hi := 1099511627776) (by simp [pairsOf, fieldsOf, restOf, k3, assoc]) (by omega) (by omega) (by omega) (by omega)
    obtain ⟨i5, h5⟩ := St.int (G := g4 F) h4 (t := 5003) (n := a.fin) (lo := 0) (hi := 1099511627776) (by simp [pairsOf, fieldsOf, restOf, k3, assoc]) (by omega) (by omega) (by omega) (by omega)
    refine hfin ?_ h5 ?_ ?_
    · unfold readAsk
      rw [if_neg (by omega), if_pos k3]
      unfold readAmend
      rw [i1, i2, i3, i4, i5]
      obtain ⟨b1, b2, b3, b4, b5, b6, b7, b8⟩ := hb
      cases a
      simp only at k3 b1 b2 b3 b4 b5 b6 b7 b8
      subst k3 b1 b2 b3 b4 b5 b6 b7 b8
      rfl
    · simp [fieldsOf, restOf, k3]
    · simp [wholeR, k3]
  · obtain ⟨i2, h2⟩ := St.name (G := f1 F) h1 (t := 41) (s := a.target) (by simp [pairsOf, fieldsOf, restOf, k1, k3, assoc]) ht
    refine hfin ?_ h2 ?_ ?_
    · unfold readAsk
      rw [if_neg k1, if_neg k3]
      unfold readPlain
      rw [i1, i2]
      obtain ⟨b1, b2, b3, b4, b5, b6, b7, b8⟩ := hb
      cases a
      simp only at b1 b2 b3 b4 b5 b6 b7 b8 hq hp hf
      subst b1 b2 b3 b4 b5 b6 b7 b8 hq hp hf
      rfl
    · simp [fieldsOf, restOf, k1, k3]
    · simp [wholeR, k1]
end Go.Proofs.YtphnfbjbpbfpkaaDoor
