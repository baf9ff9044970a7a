/- THE ENGINE, part 10: what a statement gives of its arguments, as the walks read memory; and what a walk shows, as a statement asks it. -/
import Derived.Test.YtkkjjbejkcgmfaaWalk
import Derived.WalkKit
import Derived.ProofKit
import Derived.OpenShut
import Derived.ShutString
import Derived.ChangeOld
import Derived.Below
namespace Go.NB
open Go.ChangeShapes Go.WideShapes Go.ChangeAt Go.RowKit

/-- whatever the statement's reader reads at type t reads as a T -/
def Opens {α : Type} (P : Program) (t : TypeId) (T : Ty α) : Prop :=
  ∀ {Hd : Type} {enc : TypeId × Value → Hd} {W : World} {base : Nat} {held : Bool} {fuel : Nat} {cs : List Value} {x : DataW Hd × List MemPlace},
    DataW.trod enc P W base (fun _ => true) held fuel t cs = some x → ∃ y, T.R W.heap [] cs y

section
variable {P : Program} {t e : TypeId}
theorem Opens.byte (ht : P.underlying t = some (.int .u8)) : Opens P t tByte := fun h => by
  obtain ⟨n, rfl, _, hw⟩ := DataW.trod_int ht h
  simp [Lit.wf, IntKind.min, IntKind.max, IntKind.bits, IntKind.signed] at hw
  have e : ((UInt8.ofNat n.toNat).toNat : Int) = n := by
    rw [UInt8.toNat_ofNat_of_lt' (by show n.toNat < 256; omega)]
    omega
  exact ⟨UInt8.ofNat n.toNat, congrArg (fun z => [Value.int .u8 z]) e.symm, trivial⟩
theorem Opens.int (ht : P.underlying t = some (.int .i64)) : Opens P t tInt := fun h => by
  obtain ⟨n, rfl, _, hw⟩ := DataW.trod_int ht h
  simp [Lit.wf, IntKind.min, IntKind.max, IntKind.bits, IntKind.signed] at hw
  exact ⟨n, rfl, by unfold I64; omega⟩
theorem Opens.bool (ht : P.underlying t = some .bool) : Opens P t tBool := fun h => by
  obtain ⟨b, rfl, _⟩ := DataW.trod_bool ht h
  exact ⟨b, rfl, trivial⟩
theorem Opens.str (ht : P.underlying t = some .string) : Opens P t tStr := fun h => by
  obtain ⟨s, rfl, _, hs⟩ := DataW.trod_string ht h
  refine ⟨s.data.toList, by simp [NB.str], ?_⟩
  have : s.data.toList.length = s.size := rfl
  unfold maxLen at hs
  omega

theorem Opens.sl {α : Type} {T : Ty α} (ht : P.underlying t = some (.slice e)) (hc : P.cellsOf e = T.size) (he : Opens P e T) : Opens P t (tSl T) := by
  intro Hd enc W base held fuel cs x h
  rcases DataW.trod_slice ht h with ⟨rfl, _⟩ | ⟨a, len, cap, elems, rest, n, _, rfl, _, hb, hl, hm, hlen, hel, hsp, _⟩
  · exact ⟨[], _, rfl, .inl ⟨_, rfl, rfl⟩⟩
  · obtain ⟨hrl, hr⟩ := hsp rfl
    rw [hc] at hel hr
    have all : ∀ i, i < cap → ∃ cs' y, W.cells? base (a.add (i * T.size)) T.size = some cs' ∧ T.R W.heap [] cs' y := fun i hi => by
      have : ∃ z, (W.cells? base (a.add (i * T.size)) T.size).bind (DataW.trod enc P W base (fun _ => true) held n e) = some z := by
        by_cases h1 : i < len
        · exact ⟨elems[i]'(by omega), by rw [hel i h1, List.getElem?_eq_getElem]⟩
        · have h2 := hr (i - len) (by omega)
          rw [show len + (i - len) = i by omega] at h2
          exact ⟨rest[i - len]'(by omega), by rw [h2, List.getElem?_eq_getElem]⟩
      obtain ⟨z, hz⟩ := this
      rw [Option.bind_eq_some_iff] at hz
      obtain ⟨cs', h3, h4⟩ := hz
      obtain ⟨y, h5⟩ := he h4
      exact ⟨cs', y, h3, h5⟩
    by_cases h0 : cap = 0
    · subst h0
      obtain rfl : len = 0 := by omega
      exact ⟨[], _, rfl, .inl ⟨_, rfl, rfl⟩⟩
    · have hfirst := all 0 (by omega)
      obtain ⟨b, off, spot⟩ := a
      have hspot : spot = none := by
        obtain ⟨cs', y, h1, h2⟩ := hfirst
        obtain ⟨_, h3, h4⟩ := World.cells?_some h1
        have h5 := h4 0 T.pos
        obtain ⟨u, hu⟩ : ∃ u, cs'[0]? = some u := ⟨cs'[0]'(by have := T.pos; omega), by rw [List.getElem?_eq_getElem]⟩
        rw [hu] at h5
        simpa [Addr.add] using World.cell?_spot h5
      subst hspot
      have hcell : ∀ i, i < cap → ∃ y cs', T.R W.heap [] cs' y ∧ ∀ j u, cs'[j]? = some u → cell W.heap b (off + i * T.size + j) = some u := fun i hi => by
        obtain ⟨cs', y, h1, h2⟩ := all i hi
        obtain ⟨_, h3, h4⟩ := World.cells?_some h1
        refine ⟨y, cs', h2, fun j u hu => ?_⟩
        have hj : j < cs'.length := (List.getElem?_eq_some_iff.1 hu).1
        have h5 := h4 j (by omega)
        rw [Addr.add_lit, Addr.add_lit, hu] at h5
        rw [← h5, cell?_of rfl]
      have hlt : b < W.heap.size := by
        obtain ⟨y, cs', h1, h2⟩ := hcell 0 (by omega)
        obtain ⟨u, hu⟩ : ∃ u, cs'[0]? = some u := ⟨cs'[0]'(by have := T.pos; have := T.len h1; omega), by rw [List.getElem?_eq_getElem]⟩
        exact cell_lt (h2 0 u hu)
      have hch : ∀ m, m ≤ cap → ∃ ys : List α, ys.length = m ∧ ∀ i (hi : i < ys.length), At T W.heap [] b (off + i * T.size) ys[i] := by
        intro m
        induction m with
        | zero => intro _; exact ⟨[], rfl, fun i hi => by simp at hi⟩
        | succ m ih =>
          intro hm'
          obtain ⟨ys, h1, h2⟩ := ih (by omega)
          obtain ⟨y, cs', h3, h4⟩ := hcell m (by omega)
          refine ⟨ys ++ [y], by simp [h1], fun i hi => ?_⟩
          simp at hi
          by_cases h5 : i < ys.length
          · rw [List.getElem_append_left h5]; exact h2 i h5
          · have h6 : i = m := by omega
            subst h6
            rw [List.getElem_append_right (by omega)]
            simp
            exact ⟨hlt, by simp, cs', h3, h4⟩
      obtain ⟨ys, h1, h2⟩ := hch len hl
      refine ⟨ys, _, rfl, .inr ⟨b, off, cap, by rw [h1], hlt, by simp, by omega, hm, by unfold maxLen at hm; omega, h2⟩⟩

theorem Opens.arg {α : Type} {T : Ty α} {Hd : Type} {enc : TypeId × Value → Hd} {W : World} {v : Value} {d : DataW Hd} {ps : List MemPlace} (ho : Opens P t (tSl T)) (ht : P.underlying t = some (.slice e))
    (hval : Value.okWide P W .any 0 t v) (h : DataW.Trod enc P W 0 (fun _ => true) true t v d ps) : ∃ xs, Sl T W.heap [] v xs := by
  obtain ⟨a, l, c, rfl⟩ := okWide_slice ht hval
  obtain ⟨fuel, hf⟩ := h
  obtain ⟨y, u, h1, h2⟩ := ho hf
  simp [Value.cells] at h1
  subst h1
  exact ⟨y, h2⟩
end

/-- from a walk to what the statement asks of the call -/
theorem CallsH.below {P : Program} {f : FuncId} {args : Array Value} {W : World} {v : Value} (h : CallsH P f args W.heap fun u H => u = v ∧ Keep [] W.heap H) (hc : (callFunc f args).run P W = .ok (.enter f args) W) :
    Calls P f args W fun e W' => e = .returned v ∧ Below W.heap.size W W' := by
  have := h W rfl
  rw [hc] at this
  refine this.2.mono fun e W' ⟨u, h1, h2, h3⟩ => ?_
  obtain ⟨rfl, h4⟩ := h2
  exact ⟨h1, h3.os, h3.tape, h3.output, h4.1, fun k hk => h4.2 k hk (by simp)⟩
end Go.NB
