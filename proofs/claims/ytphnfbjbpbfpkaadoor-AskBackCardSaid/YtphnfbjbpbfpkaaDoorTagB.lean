/- tag.Forms: all forms of a list of fields. -/
import Derived.Test.YtphnfbjbpbfpkaaDoorTagA
namespace Go.Proofs.YtphnfbjbpbfpkaaDoor
open Go.RowKit

def fcells (l : List Fld) : List Value := l.flatMap (fun f => [.int .i64 f.tag, .string f.val])
def Flds (w : World) (v : Value) (l : List Fld) : Prop := SlAt w v 2 l.length (fcells l)
theorem fcells_at : ∀ (l : List Fld) (k : Nat) (h : k < l.length), (fcells l)[k * 2]? = some (.int .i64 l[k].tag) ∧ (fcells l)[k * 2 + 1]? = some (.string l[k].val)
  | f :: r, 0, _ => ⟨rfl, rfl⟩
  | f :: r, k + 1, h => by
    have := fcells_at r k (by simpa using h)
    simpa [fcells, show (k + 1) * 2 = k * 2 + 1 + 1 from by omega] using this
theorem Flds.ext {w w' : World} {v : Value} {l : List Fld} (h : Flds w v l) (hb : Ext w w') : Flds w' v l := SlAt.below h hb
theorem Flds.at_ {w : World} {v : Value} {l : List Fld} (h : Flds w v l) {k : Nat} (hk : k < l.length) : ∃ b off c, v = .slice (some ⟨b, off, none⟩) l.length c ∧ b < w.heap.size ∧ w.cell? ⟨b, off + k * 2, none⟩ = some (.int .i64 l[k].tag) ∧ w.cell? ⟨b, off + k * 2 + 1, none⟩ = some (.string l[k].val) := by
  obtain ⟨b, off, c, rfl, _, hb, hx⟩ := SlAt.at_ h (by omega)
  obtain ⟨h1, h2⟩ := fcells_at l k hk
  exact ⟨b, off, c, rfl, hb, hx _ _ h1, by have := hx _ _ h2; rwa [← Nat.add_assoc] at this⟩

def firstE : List Fld → Int
  | [] => 0
  | f :: r => if formE f = 0 then firstE r else formE f
def formsE (l : List Fld) : Int := if 64 < l.length then 3 else firstE l
def formsL (l : List Fld) : List UInt8 := l.flatMap formOf
def formsS (l : List Fld) : ByteArray := if formsE l = 0 then bytesOf (formsL l) else ⟨#[]⟩

theorem formOf_size {f : Fld} (h : formE f = 0) : (formOf f).length ≤ 535 := by
  unfold formE at h
  split at h
  · omega
  split at h
  · omega
  rename_i h1 h2
  have h3 : valueB f.val = true := by simpa using h2
  have h4 := Lib.itoa_length_le f.tag (by omega) (by omega)
  have h5 : f.val.size ≤ 512 := by
    simp only [valueB, Bool.and_eq_true, decide_eq_true_eq] at h3
    exact h3.1.2
  have h6 : f.val.data.toList.length = f.val.size := Array.length_toList
  simp only [formOf, List.length_append, List.length_singleton, h6]
  omega

theorem ownsRowF_ext {w w' : World} {B : Nat} {e : TypeId} {n : Nat} {v : Value} {xs : List Value} (h : w.ownsRowF B e 1 v n xs) (he : Ext w w') : w'.ownsRowF B e 1 v n xs := by
  refine ⟨h.1, ?_⟩
  rcases h.2 with hn | ⟨g, cap, cur, fz, hv, hbg, hg, rest⟩
  · exact .inl hn
  · exact .inr ⟨g, cap, cur, fz, hv, hbg, he.heap hg, rest⟩
theorem builder_ext {w w' : World} {T e : TypeId} {B b : Nat} {bs : List Value} (h : Lib.IsBuilderF T e B b bs w) (he : Ext w w') : Lib.IsBuilderF T e B b bs w' := by
  rcases h with ⟨hB, v, hb, hown, hne⟩ | ⟨hB, v, hb, hown, hne⟩
  · exact .inl ⟨hB, v, he.heap hb, ownsRowF_ext hown he, hne⟩
  · exact .inr ⟨hB, v, he.heap hb, ownsRowF_ext hown he, hne⟩
theorem ext_of_below {B : Nat} {w w' : World} (h : Below B w w') (hB : w.heap.size ≤ B) : Ext w w' := h.mono hB

set_option maxHeartbeats 2000000 in
theorem forms_calls (w : World) (v : Value) (l : List Fld) (hv : Flds w v l) (hs : ∀ f ∈ l, f.val.size ≤ 70368744177664) (hg : Glob w) :
    Calls Tryd.prog 12 #[v] w fun e w' => e = .returned (.tuple #[.string (formsS l), .int .i64 (formsE l)]) ∧ Ext w w' := by
  obtain ⟨A, cap, rfl, hcap⟩ := SlAt.form hv
  by_cases h1 : 64 < l.length
  · have H := Lib.hid (show formsE l = 3 by simp [formsE, h1])
    have H2 := Lib.hid (show formsS l = ⟨#[]⟩ by simp [formsS, H.out])
    go_enter Tryd.func12, Tryd.ntmps12
    go_wp2
    go_ret2
    exact ⟨by rw [H.out, H2.out]; rfl, Ext.refl _⟩
  have h2 : l.length ≤ 64 := by omega
  have HE := Lib.hid (show formsE l = firstE l by simp [formsE, h1])
  clear h1
  go_enter Tryd.func12, Tryd.ntmps12
  go_wp2
  go_loopw [14] (fun i wr => ∃ k : Nat, k ≤ l.length ∧ i = .int .i64 k ∧ Ext w wr ∧ Lib.IsBuilderF 53 5 w.heap.size w.heap.size (Lib.byteCells (formsL (l.take k))) wr ∧ Hid (firstE (l.drop k) = firstE l ∧ (formsL (l.take k)).length ≤ 535 * k)) (fun i wr => l.length - (intOf i).toNat)
  case atStart =>
    exact ⟨0, by omega, rfl, (Ext.refl _).alloc _, Lib.IsBuilderF.of (Lib.fresh_isBuilder _ _ _), Lib.hid ⟨rfl, by simp [formsL]⟩⟩
  case round =>
    obtain ⟨k, hk, rfl, hx, hB, hF⟩ := hrel
    by_cases hlt : k < l.length
    · obtain ⟨b, off, c', hA, hb, hc0, hc1⟩ := (hv.ext hx).at_ hlt
      obtain ⟨rfl, rfl⟩ : A = some ⟨b, off, none⟩ ∧ cap = c' := by injection hA with h1 _ h2; exact ⟨h1, h2⟩
      clear hA
      have hmem : l[k] ∈ l := List.getElem_mem _
      have hsz := hs _ hmem
      have HT := Lib.hid (show l.drop k = l[k] :: l.drop (k + 1) from List.drop_eq_getElem_cons hlt)
      have HU := Lib.hid (show l.take (k + 1) = l.take k ++ [l[k]] from List.take_succ_eq_append_getElem hlt)
      generalize l[k] = f at *
      have hx1 := hx.alloc (.cells #[.int .i64 f.tag, .string f.val] 55)
      have hB1 := builder_ext hB ((Ext.refl wr).alloc (.cells #[.int .i64 f.tag, .string f.val] 55))
      by_cases he : formE f = 0
      · have e1 : (formE f != 0) = false := by rw [he]; rfl
        have HP := Lib.hid he
        clear he
        go_wp2_with (go_at_call 25; refine (form_calls _ f hsz (hg.ext hx1)).mono ?_; rintro e w1 ⟨rfl, hb1⟩; have hx2 := hx1.trans hb1; have hB2 := builder_ext hB1 hb1; clear hB1 hb1 hc0 hc1)
        have hfs : formS f = bytesOf (formOf f) := by simp [formS, HP.out]
        have hlen := formOf_size HP.out
        have hbs : (Lib.byteCells (formsL (l.take k))).length + (bytesOf (formOf f)).size ≤ 140737488355328 := by
          have := hF.out.2
          rw [Lib.byteCells_length, bytesOf_size]; omega
        rw [hfs]
        have HFS := Lib.hid hfs
        clear hfs
        go_wp2_with (go_at_call 26; refine (writeString_calls w.heap.size w.heap.size _ _ _ hB2 hbs hx2.size).mono ?_; rintro e w2 ⟨rfl, hB3, hb3, hk3⟩)
        go_roundw
        case rel =>
          refine ⟨k + 1, by omega, by go_num, Below.trans hx2 hb3, ?_, Lib.hid ⟨?_, ?_⟩⟩
          · rw [HU.out, show formsL (l.take k ++ [f]) = formsL (l.take k) ++ formOf f from by simp [formsL], Lib.byteCells_append]
            exact hB3
          · have := hF.out.1
            rw [HT.out] at this
            simpa [firstE, HP.out] using this
          · rw [HU.out, show formsL (l.take k ++ [f]) = formsL (l.take k) ++ formOf f from by simp [formsL], List.length_append]
            have := hF.out.2
            omega
        case measure => simp [intOf]; omega
      · have e1 : (formE f != 0) = true := by rw [bne_iff_ne]; exact he
        have H := Lib.hid (show formsE l = formE f by
          rw [HE.out, ← hF.out.1, HT.out]
          simp [firstE, he])
        have H2 := Lib.hid (show formsS l = ⟨#[]⟩ by simp [formsS, H.out, he])
        clear he
        go_wp2_with (go_at_call 25; refine (form_calls _ f hsz (hg.ext hx1)).mono ?_; rintro e w1 ⟨rfl, hb1⟩; have hx2 := hx1.trans hb1; clear hb1 hc0 hc1)
        go_ret2
        exact ⟨by rw [H.out, H2.out]; rfl, hx2⟩
    · have hkk : k = l.length := by omega
      subst hkk
      have H := Lib.hid (show formsE l = 0 by rw [HE.out, ← hF.out.1]; simp [firstE])
      have H2 := Lib.hid (show formsS l = bytesOf (formsL l) by simp [formsS, H.out])
      rw [List.take_length] at hB
      go_wp2_with (go_at_call 27; refine (Tryd.Builder_String_any_k w.heap.size w.heap.size _ _ hB hx.size).mono ?_; rintro e w1 ⟨rfl, _, hb1, _⟩)
      go_ret2
      exact ⟨by rw [H.out, H2.out]; rfl, Below.trans hx hb1⟩
end Go.Proofs.YtphnfbjbpbfpkaaDoor
