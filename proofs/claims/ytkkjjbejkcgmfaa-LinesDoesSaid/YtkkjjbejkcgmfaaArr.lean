/- THE ENGINE, part 8: literals of bytes that are converted, arrays. -/
import Derived.Test.YtkkjjbejkcgmfaaTyped
namespace Go.NB

section
variable {c : Cx} {env : Env} {H : Heap} {Q : Exit → Act → World → Prop} {ops : Array Oper} {o : Oper} {rest : List Oper} {d : Nat}

/-- a conversion from a kind of bytes to the same: what is read stays -/
theorem WL.convBytes {t e : TypeId} {x : Operand} {g : Nat} {n m : Nat} {el : TypeId} {cs : List Value} (hg : o.guard = .none) (hd : o.dst = some d) (hlt : Nat.blt d c.n = true)
    (ho : o.op = .convert t t x) (ht : c.P.underlying t = some (.slice e)) (he : c.P.underlying e = some (.int .u8)) (hx : Ev env x (.slice (some ⟨g, 0, none⟩) n m)) (hb : Bx H g el cs)
    (k : ∀ H', (∀ i, cell H' g i = cs[i]?) → g < H'.size → Keep [g] H H' → WL c ops rest ((d, true, .slice (some ⟨g, 0, none⟩) n m) :: env) H' Q) : WL c ops (o :: rest) env H Q := by
  have hlt' : g < H.size := hb.lt
  have hH' : H.modify g (fun | .cells c elem (lo, hi) => .cells c elem (if lo == hi then (cs.length, cs.length + 1) else (min lo cs.length, max hi (cs.length + 1))) | o => o) = H.set g (.cells cs.toArray el (cs.length, cs.length + 1)) := by
    apply Array.ext_getElem?
    intro i
    rw [Array.getElem?_modify, Array.getElem?_set hlt']
    split
    · rename_i h; subst h; rw [show H[g]? = some _ from hb]; simp
    · rfl
  refine WL.new (H' := H.set g (.cells cs.toArray el (cs.length, cs.length + 1))) (v := .slice (some ⟨g, 0, none⟩) n m) hg hd hlt (fun a w hf hw => ?_) (k _ (fun i => ?_) (by simpa using hlt') ⟨by simp, fun i hi hm => ?_⟩)
  · subst hw
    unfold execOp; rw [ho]
    refine ⟨w.freeze ⟨g, cs.length, none⟩ 1, ?_, ?_, ⟨rfl, rfl, rfl⟩⟩
    · have hs : w.shape? g = some (el, cs.length) := by unfold World.shape?; rw [show w.heap[g]? = some _ from hb]; simp
      simp [hf.eval hx, convert, run_underlying ht, run_underlying he, markStringish, hs]
    · unfold World.freeze
      rw [if_neg (by decide)]
      exact hH'
  · unfold cell
    simp
  · rw [Array.getElem?_set hlt', if_neg (fun h => hm (by simp [h]))]

/-- the bytes of a literal -/
theorem Sl.lit {H : Heap} {M : List Nat} {g : Nat} {l : List UInt8} (h : ∀ i, cell H g i = (l.map bv)[i]?) (hg : g < H.size) (hm : g ∉ M) (hl : l.length ≤ 140737488355328) : Sl tByte H M (.slice (some ⟨g, 0, none⟩) l.length l.length) l := by
  refine .inr ⟨g, 0, l.length, rfl, hg, hm, Nat.le_refl _, by unfold maxLen; omega, by omega, fun i hi => ⟨hg, hm, [bv l[i]], ⟨rfl, trivial⟩, fun j u hu => ?_⟩⟩
  have e1 : tByte.size = 1 := rfl
  cases j with
  | zero => simp at hu; subst hu; rw [e1]; simp [h, hi]
  | succ j => simp at hu

theorem flat_bytes : ∀ l : List UInt8, ((l.map bv).map fun v => v.cells.toList).flatten = l.map bv
  | [] => rfl
  | b :: l => by rw [List.map_cons, List.map_cons, List.flatten_cons, flat_bytes l]; rfl

/-- the conversion of a literal of bytes -/
theorem WL.bytesLit {o1 o2 : Oper} {d1 d2 : Nat} {t e : TypeId} {z : Value} {M : List Nat} {xs : List Operand} {l : List UInt8} {n : Nat} (hg1 : o1.guard = .none) (hd1 : o1.dst = some d1) (hlt1 : Nat.blt d1 c.n = true) (hg2 : o2.guard = .none) (hd2 : o2.dst = some d2) (hlt2 : Nat.blt d2 c.n = true)
    (ho1 : o1.op = .buildSlice t n ((xs.zipIdx).map fun x => (x.2, x.1)).toArray) (ho2 : o2.op = .convert t t (.tmp d1)) (ht : c.P.underlying t = some (.slice e)) (he : c.P.underlying e = some (.int .u8))
    (hz : ∀ w, (sizeOf e).run c.P w = .ok 1 w) (hzero : ∀ w, (zeroValue e).run c.P w = .ok z w) (hx : Evs env xs (l.map bv)) (hn : xs.length = n) (hl : l.length = n) (hsm : n ≤ 16777216) (hM : ∀ i ∈ M, i < H.size)
    (k : ∀ v tmp H', Sl tByte H' M v l → Keep [] H H' → WL c ops rest ((d2, true, v) :: (d1, true, tmp) :: env) H' Q) : WL c ops (o1 :: o2 :: rest) env H Q := by
  refine WL.buildSlice (css := l.map bv) (size := 1) (z := z) hg1 hd1 hlt1 ho1 ht hz hzero hx hn (by omega) (fun v hv => by obtain ⟨b, _, rfl⟩ := List.mem_map.1 hv; rfl) (flat_bytes l) (fun g H1 hB hn1 k1 => ?_)
  refine WL.convBytes hg2 hd2 hlt2 ho2 ht he (show Ev _ (.tmp d1) (.slice (some ⟨g, 0, none⟩) n n) from ⟨true, by unfold ev look; simp, rfl⟩) hB (fun H2 hc hg2' k2 => ?_)
  subst hl
  exact k _ _ H2 (Sl.lit hc hg2' (fun h => by have := hM g h; omega) (by omega)) (k1.then k2 fun i hi => by simp at hi; subst hi; exact .inr hn1)
end

/-! ### arrays -/
section
variable {c : Cx} {o : Oper} {env : Env} {S : Heap → Prop}
theorem V.indexArr {t e : TypeId} {x y : Operand} {b off N sz i : Nat} {k : IntKind} (n : Nat) (ho : o.op = .indexAddr t x y) (ht : c.P.underlying t = some (.array N e)) (hz : ∀ w, (sizeOf e).run c.P w = .ok sz w)
    (hx : Ev env x (.pointer (some ⟨b, off, none⟩))) (hy : Ev env y (.int k (i : Int))) (hi : i < N) (hn : off + i * sz = n) : ValC c o env S (.pointer (some ⟨b, n, none⟩)) := fun a w hf _ _ => by
  subst hn
  unfold execOp; rw [ho]; simp [hf.eval hx, hf.eval hy, Instr.indexAt, run_underlying ht, hz, asIntOf, hi, Addr.add_lit, Instr.sureAddr]
end
end Go.NB
