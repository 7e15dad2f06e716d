/- Openers: structs of one-cell fields by value, ints, an Ask. -/
import Derived.Test.YtphnfbjbpbfpkaaDoorAskA
import Derived.ProofKit
import Derived.OpenShut
import Derived.Carry
import Derived.ChangeSlices
import Derived.Deep.Slices
import Derived.Deep.Fields
import Derived.ChangeSame
namespace Go.Proofs.YtphnfbjbpbfpkaaDoor
open Go.ChangeShapes Go.WideShapes Go.Deep Go.RowKit
set_option maxRecDepth 100000

theorem plain_of_cell {w : World} {a : Addr} {v : Value} (h : w.cell? a = some v) : a = ⟨a.block, a.off, none⟩ := by
  obtain ⟨b, o, s⟩ := a
  cases s with
  | none => rfl
  | some k =>
    simp only [World.cell?] at h
    split at h <;> simp at h
section
variable {H : Type} {enc : TypeId × Value → H} {P : Program} {w : World} {base : Nat} {spare : Nat → Bool} {held : Bool}
/-- A struct of one-cell fields, by value: each field's cell with its reading. -/
theorem open_fields {r : Reach} {b0 : Nat} {t : TypeId} {fs : Array Field} {v : Value} {d : DataW H} {p : List MemPlace} (hs : P.underlying t = some (.struct fs)) (hone : oneCellFields P fs = true) (hC : P.cellsOf t = fs.size)
    (hv : Value.okWide P w r b0 t v) (h : DataW.Trod enc P w base spare held t v d p) :
    ∃ (l : List Value), v = .agg l.toArray ∧ l.length = fs.size ∧ ∀ (j : Nat) (f : Field) (c : Value), fs[j]? = some f → l[j]? = some c → ∃ n y, DataW.trod enc P w base spare held n f.type [c] = some y := by
  obtain ⟨cs, rfl, hsz⟩ := okWide_struct hs hv
  obtain ⟨l⟩ := cs
  refine ⟨l, rfl, hsz.trans hC, fun j f c hj hc => ?_⟩
  obtain ⟨fuel, hf⟩ := h
  obtain ⟨xs, n, _, hx, hcl, hlen, hg⟩ := DataW.trod_struct hs hf
  obtain ⟨o, k⟩ := hone_of hone j f hj
  have h1 := hg j f hj
  have hjl : j < fs.size := (Array.getElem?_eq_some_iff.1 hj).1
  rw [o, k] at h1
  have e1 : (((Value.agg l.toArray).cells.toList).drop j).take 1 = [c] := by
    have hl : j < l.length := by have : l.length = fs.size := hsz.trans hC; omega
    have : (Value.agg l.toArray).cells.toList = l := by simp [Value.cells]
    rw [this, List.drop_eq_getElem_cons hl]
    rw [List.getElem?_eq_getElem hl] at hc
    simp at hc
    simp [hc]
  rw [e1] at h1
  rw [List.getElem?_eq_getElem (show j < xs.length by omega)] at h1
  exact ⟨n, _, h1⟩
theorem open_int_list {t e : TypeId} {fuel : Nat} {v : Value} {x : DataW H × List MemPlace} (ht : P.underlying t = some (.slice e)) (he : P.underlying e = some (.int .i64)) (hc : P.cellsOf e = 1)
    (h : DataW.trod enc P w base spare held fuel t [v] = some x) : ∃ l : List Int, Ints w v l := by
  rcases open_ints ht he hc h with ⟨h0, _⟩ | ⟨a, len, cap, zs, h0, _, hl, _, hz, _, hcell, _⟩
  · simp at h0
    subst h0
    exact ⟨[], Ints.nil w⟩
  · simp at h0
    subst h0
    have hzl : len ≤ zs.length := by rw [hz]; split <;> omega
    refine ⟨zs.take len, by simp [iv], some a, cap, by simp [Nat.min_eq_left hzl], by simp; omega, fun hn => ?_⟩
    have hn' : 0 < len := by simp at hn; omega
    have h00 := hcell 0 (by omega)
    have ha0 : a.add 0 = a := by simp [Addr.add]
    rw [ha0] at h00
    have hp := plain_of_cell h00
    refine ⟨a.block, a.off, by rw [← hp], ?_, fun j u hu => ?_⟩
    · rcases Nat.lt_or_ge a.block w.heap.size with h' | h'
      · exact h'
      · rw [hp] at h00
        simp [World.cell?, Array.getElem?_eq_none h'] at h00
    · have hj : j < len := by
        have := (List.getElem?_eq_some_iff.1 hu).1
        simp [iv] at this; omega
      have hcj := hcell j (by omega)
      rw [hp, add_mk] at hcj
      rw [hcj, ← hu]
      simp [iv, hj, List.getElem?_map, List.getElem?_take, List.getD_eq_getElem?_getD, List.getElem?_eq_getElem (show j < zs.length by omega)]
end

theorem open_ask {H : Type} {enc : TypeId × Value → H} {w : World} {base : Nat} {spare : Nat → Bool} {held : Bool} {r : Reach} {b0 : Nat} {v : Value} {d : DataW H} {p : List MemPlace}
    (hv : Value.okWide Tryd.prog w r b0 24 v) (h : DataW.Trod enc Tryd.prog w base spare held 24 v d p) : ∃ (a : Ask) (c : Value), v = .agg (a.cells c) ∧ Ints w c a.curve := by
  obtain ⟨l, rfl, hl, hf⟩ := open_fields Tryd.underlying24 (by kernel_rfl) (by kernel_rfl) hv h
  match l, hl with
  | [c0, c1, c2, c3, c4, c5, c6, c7, c8, c9, c10, c11, c12, c13], _ =>
    obtain ⟨_, _, h0⟩ := hf 0 _ _ rfl rfl
    obtain ⟨_, _, h1⟩ := hf 1 _ _ rfl rfl
    obtain ⟨_, _, h2⟩ := hf 2 _ _ rfl rfl
    obtain ⟨_, _, h3⟩ := hf 3 _ _ rfl rfl
    obtain ⟨_, _, h4⟩ := hf 4 _ _ rfl rfl
    obtain ⟨_, _, h5⟩ := hf 5 _ _ rfl rfl
    obtain ⟨_, _, h6⟩ := hf 6 _ _ rfl rfl
    obtain ⟨_, _, h7⟩ := hf 7 _ _ rfl rfl
    obtain ⟨_, _, h8⟩ := hf 8 _ _ rfl rfl
    obtain ⟨_, _, h9⟩ := hf 9 _ _ rfl rfl
    obtain ⟨_, _, h10⟩ := hf 10 _ _ rfl rfl
    obtain ⟨_, _, h11⟩ := hf 11 _ _ rfl rfl
    obtain ⟨_, _, h12⟩ := hf 12 _ _ rfl rfl
    obtain ⟨_, _, h13⟩ := hf 13 _ _ rfl rfl
    obtain ⟨n0, e0, _⟩ := DataW.trod_int Tryd.underlying3 h0
    obtain ⟨n1, e1, _⟩ := DataW.trod_string Tryd.underlying9 h1
    obtain ⟨n2, e2, _⟩ := DataW.trod_string Tryd.underlying9 h2
    obtain ⟨n3, e3, _⟩ := DataW.trod_string Tryd.underlying9 h3
    obtain ⟨n4, e4, _⟩ := DataW.trod_string Tryd.underlying9 h4
    obtain ⟨n5, e5, _⟩ := DataW.trod_int Tryd.underlying3 h5
    obtain ⟨n6, e6, _⟩ := DataW.trod_int Tryd.underlying3 h6
    obtain ⟨n7, e7, _⟩ := DataW.trod_int Tryd.underlying3 h7
    obtain ⟨n8, e8, _⟩ := DataW.trod_int Tryd.underlying3 h8
    obtain ⟨n9, e9, _⟩ := DataW.trod_int Tryd.underlying3 h9
    obtain ⟨n10, e10, _⟩ := DataW.trod_int Tryd.underlying3 h10
    obtain ⟨n11, e11, _⟩ := DataW.trod_int Tryd.underlying3 h11
    obtain ⟨n12, e12, _⟩ := DataW.trod_int Tryd.underlying3 h12
    obtain ⟨l, hI⟩ := open_int_list Tryd.underlying22 Tryd.underlying3 (by kernel_rfl) h13
    simp only [List.cons.injEq, and_true] at e0 e1 e2 e3 e4 e5 e6 e7 e8 e9 e10 e11 e12
    subst e0 e1 e2 e3 e4 e5 e6 e7 e8 e9 e10 e11 e12
    exact ⟨⟨n0, n1, n2, n3, n4, n5, n6, n7, n8, n9, n10, n11, n12, l⟩, c13, rfl, hI⟩
end Go.Proofs.YtphnfbjbpbfpkaaDoor
