/- part -/
import Derived.Test.YtpechfcbnoggfaaGreatDoorMem
import Derived.Laws.Entries
import Derived.Laws.Strings
import Derived.Laws.BytesString
import Derived.Laws.Cells
namespace Go.NB
def ValC (c : Cx) (o : Oper) (env : Env) (S : Heap → Prop) (v : Value) : Prop :=
 ∀ a w, Fr c env a → S w.heap → Amb c.W0 w → (execOp a.eval o).run c.P w = .ok (.value v) w
def Is (H : Heap) : Heap → Prop := fun H' => H' = H
def Up (H : Heap) : Heap → Prop := fun H' => Keep [] H H'
def Reach (H : Heap) (S : Heap → Prop) : Prop := ∀ H', S H' → Keep [] H H'
theorem Reach.is (H : Heap) : Reach H (Is H) := fun _ h => by rw [show _ = H from h]; exact Keep.refl _ _
theorem Reach.up (H : Heap) : Reach H (Up H) := fun _ h => h
theorem Reach.of {H0 H : Heap} {S : Heap → Prop} (k : Keep [] H0 H) (r : Reach H S) : Reach H0 S := fun H' h => k.trans (r H' h)
section
variable {c : Cx} {o : Oper} {env : Env} {S : Heap → Prop}
theorem V.move {x : Operand} {v : Value} (ho : o.op = .move x) (hx : Ev env x v) : ValC c o env S v := fun a w hf _ _ => by
 unfold execOp; rw [ho]; simp [hf.eval hx]
theorem V.assign {x : Operand} {v : Value} (ho : o.op = .assign x) (hx : Ev env x v) : ValC c o env S v := fun a w hf _ _ => by
 unfold execOp; rw [ho]; simp [hf.eval hx]
theorem V.nilCheck {x : Operand} {p : Addr} (ho : o.op = .nilCheck x) (hx : Ev env x (.pointer (some p))) : ValC c o env S (.pointer (some p)) := fun a w hf _ _ => by
 unfold execOp; rw [ho]; simp [hf.eval hx]
theorem V.not {t : TypeId} {x : Operand} {b : Bool} (ho : o.op = .unOp .not t x) (hx : Ev env x (.bool b)) : ValC c o env S (.bool (!b)) := fun a w hf _ _ => by
 unfold execOp; rw [ho]; simp [hf.eval hx, Op.unary]
theorem V.neg {t : TypeId} {x : Operand} {n : Int} (ho : o.op = .unOp .neg t x) (hx : Ev env x (iv n)) (h : I64 (0 - n)) : ValC c o env S (iv (0 - n)) := fun a w hf _ _ => by
 unfold execOp; rw [ho]; simp [hf.eval hx, iv, Op.unary, Op.intArith] at *
 rw [IntWalk.i64_in _ (by unfold I64 at h; omega)]
theorem V.extract {x : Operand} {i : Nat} {vs : List Value} {v : Value} (ho : o.op = .extract x i) (hx : Ev env x (.tuple vs.toArray)) (hv : vs[i]? = some v) : ValC c o env S v := fun a w hf _ _ => by
 unfold execOp; rw [ho]; simp [hf.eval hx, Instr.extract, hv]
theorem V.makeFunc {fn : Fn} {caps : List Operand} {vs : List Value} (ho : o.op = .makeFunc fn #[] caps.toArray) (hx : ∀ a, Fr c env a → caps.map a.eval = vs) : ValC c o env S (.func fn #[] vs.toArray) := fun a w hf _ _ => by
 unfold execOp; rw [ho]; simp [Instr.makeFunc, hx a hf]
section cmp
variable {t u : TypeId} {x y : Operand} {a b : Int} {k : IntKind}
theorem V.bin {op : BinOp} {p q v : Value} (ho : o.op = .binOp op t x y u) (hx : Ev env x p) (hy : Ev env y q)
  (h : ∀ w, (binOp op t p q).run c.P w = .ok v w) (hg : ∀ w, (eqGuard op t x y p q).run c.P w = .ok () w) : ValC c o env S v := fun a w hf _ _ => by
 unfold execOp; rw [ho]; simp [hf.eval hx, hf.eval hy, h, hg]
theorem V.lss (ho : o.op = .binOp .lss t x y u) (hx : Ev env x (.int k a)) (hy : Ev env y (.int k b)) : ValC c o env S (.bool (decide (a < b))) :=
 V.bin ho hx hy (fun w => by rw [binOp_lss]; rfl) (fun w => rfl)
theorem V.leq (ho : o.op = .binOp .leq t x y u) (hx : Ev env x (.int k a)) (hy : Ev env y (.int k b)) : ValC c o env S (.bool (decide (a ≤ b))) :=
 V.bin ho hx hy (fun w => by rw [binOp_leq]; rfl) (fun w => rfl)
theorem V.gtr (ho : o.op = .binOp .gtr t x y u) (hx : Ev env x (.int k a)) (hy : Ev env y (.int k b)) : ValC c o env S (.bool (decide (b < a))) :=
 V.bin ho hx hy (fun w => by rw [binOp_gtr]; rfl) (fun w => rfl)
theorem V.geq (ho : o.op = .binOp .geq t x y u) (hx : Ev env x (.int k a)) (hy : Ev env y (.int k b)) : ValC c o env S (.bool (decide (b ≤ a))) :=
 V.bin ho hx hy (fun w => by rw [binOp_geq]; rfl) (fun w => rfl)
theorem V.eql (ho : o.op = .binOp .eql t x y u) (hx : Ev env x (.int k a)) (hy : Ev env y (.int k b)) : ValC c o env S (.bool (decide (a = b))) :=
 V.bin ho hx hy (fun w => by rw [binOp_eql]; rfl) (fun w => by rw [eqGuard_at_int]; rfl)
theorem V.neq (ho : o.op = .binOp .neq t x y u) (hx : Ev env x (.int k a)) (hy : Ev env y (.int k b)) : ValC c o env S (.bool (!decide (a = b))) :=
 V.bin ho hx hy (fun w => by rw [binOp_neq]; rfl) (fun w => by rw [eqGuard_at_int]; rfl)
theorem V.add (ho : o.op = .binOp .add t x y u) (hx : Ev env x (.int .i64 a)) (hy : Ev env y (.int .i64 b)) (h : I64 (a + b)) : ValC c o env S (.int .i64 (a + b)) :=
 V.bin ho hx hy (fun w => by rw [binOp_add]; simp [Op.intArith, IntWalk.i64_in _ h]) (fun w => rfl)
theorem V.sub (ho : o.op = .binOp .sub t x y u) (hx : Ev env x (.int .i64 a)) (hy : Ev env y (.int .i64 b)) (h : I64 (a - b)) : ValC c o env S (.int .i64 (a - b)) :=
 V.bin ho hx hy (fun w => by rw [binOp_sub]; simp [Op.intArith, IntWalk.i64_in _ h]) (fun w => rfl)
theorem V.mul (ho : o.op = .binOp .mul t x y u) (hx : Ev env x (.int .i64 a)) (hy : Ev env y (.int .i64 b)) (h : I64 (a * b)) : ValC c o env S (.int .i64 (a * b)) :=
 V.bin ho hx hy (fun w => by rw [binOp_mul]; simp [Op.intArith, IntWalk.i64_in _ h]) (fun w => rfl)
theorem V.max2 {ts : Array TypeId} (ho : o.op = .call { callee := .builtin .max, args := #[x, y], argTypes := ts }) (hx : Ev env x (.int .i64 a)) (hy : Ev env y (.int .i64 b)) : ValC c o env S (.int .i64 (max a b)) := fun f w hf _ _ => by
 unfold execOp; rw [ho]; simp [resolve, invoke, builtin, hf.eval hx, hf.eval hy, Builtin.max_, Builtin.max2]
 omega
end cmp
theorem beq_dec (a b : List UInt8) : (a == b) = decide (a = b) := by
 rw [Bool.eq_iff_iff]; simp
theorem V.pick {x y z : Operand} {b : Bool} {p q v : Value} (ho : o.op = .pick x y z) (hx : Ev env x (.bool b)) (hy : b = true → Ev env y p) (hz : b = false → Ev env z q) (hv : (bif b then p else q) = v) : ValC c o env S v := fun a w hf _ _ => by
 unfold execOp; rw [ho]
 cases b with
 | true => simp [hf.eval hx, asBool, hf.eval (hy rfl)]; exact hv
 | false => simp [hf.eval hx, asBool, hf.eval (hz rfl)]; exact hv
theorem V.and {x y : Operand} {b d : Bool} (ho : o.op = .pick x y (.const (.bool false))) (hx : Ev env x (.bool b)) (hy : b = true → Ev env y (.bool d)) : ValC c o env S (.bool (b && d)) :=
 V.pick ho hx hy (fun _ => ⟨_, rfl, rfl⟩) (by cases b <;> rfl)
theorem V.or {x y : Operand} {b d : Bool} (ho : o.op = .pick x (.const (.bool true)) y) (hx : Ev env x (.bool b)) (hy : b = false → Ev env y (.bool d)) : ValC c o env S (.bool (b || d)) :=
 V.pick ho hx (fun _ => ⟨_, rfl, rfl⟩) hy (by cases b <;> rfl)
theorem V.lenRaw {x : Operand} {t e : TypeId} {p : Option Addr} {n m : Nat} (ho : o.op = .call { callee := .builtin .len, args := #[x], argTypes := #[t] }) (ht : c.P.underlying t = some (.slice e))
  (hx : Ev env x (.slice p n m)) : ValC c o env S (iv n) := fun a w hf _ _ => by
 unfold execOp; rw [ho]; simp [resolve, invoke, builtin, hf.eval hx, Builtin.len_, run_underlying ht, goInt, iv]
theorem V.len {α : Type} {T : Ty α} {H : Heap} {M : List Nat} {v : Value} {xs : List α} {x : Operand} {t e : TypeId} (ho : o.op = .call { callee := .builtin .len, args := #[x], argTypes := #[t] })
  (ht : c.P.underlying t = some (.slice e)) (hx : Ev env x v) (hs : Sl T H M v xs) : ValC c o env S (iv xs.length) := by
 rcases hs with ⟨_, rfl, rfl⟩ | ⟨b, off, cap, rfl, _⟩
 ·exact V.lenRaw ho ht hx
 ·exact V.lenRaw ho ht hx
theorem run_fieldAt {P : Program} {s : TypeId} {fs : Array Field} {f : Field} {i m : Nat} (hs : P.underlying s = some (.struct fs)) (hf : fs[i]? = some f) (hz : ∀ w, (sizeOf f.type).run P w = .ok m w) (hm : m ≠ 0) (b o : Nat) (w : World) :
  (Instr.fieldAt s (.pointer (some ⟨b, o, none⟩)) i).run P w = .ok (.pointer (some ⟨b, o + f.offset, none⟩)) w := by
 simp [Instr.fieldAt, run_underlying hs, hf, Instr.sureAddr, fieldPlace, hz, hm, Addr.add_lit]
theorem V.fieldAddr {s : TypeId} {fs : Array Field} {f : Field} {x : Operand} {i m b off : Nat} (n : Nat) (ho : o.op = .fieldAddr s x i) (hs : c.P.underlying s = some (.struct fs)) (hf : fs[i]? = some f)
  (hz : ∀ w, (sizeOf f.type).run c.P w = .ok m w) (hm : m ≠ 0) (hx : Ev env x (.pointer (some ⟨b, off, none⟩))) (hk : off + f.offset = n) : ValC c o env S (.pointer (some ⟨b, n, none⟩)) := fun a w hfr _ _ => by
 subst hk
 unfold execOp; rw [ho]; simp [hfr.eval hx, run_fieldAt hs hf hz hm]
theorem V.load1 {t : TypeId} {x : Operand} {b off : Nat} {v : Value} (ho : o.op = .load t x) (ha : ∀ w, (isAgg t).run c.P w = .ok false w) (hx : Ev env x (.pointer (some ⟨b, off, none⟩)))
  (hc : ∀ H', S H' → cell H' b off = some v) : ValC c o env S v := fun a w hf hS _ => by
 unfold execOp; rw [ho]; simp [hf.eval hx, Instr.loadAt, Instr.sureAddr, loadVar, ha, cell?_of rfl, hc _ hS]
theorem V.loadN {t : TypeId} {x : Operand} {b off : Nat} {cs : List Value} (ho : o.op = .load t x) (ha : ∀ w, (isAgg t).run c.P w = .ok true w) (hz : ∀ w, (sizeOf t).run c.P w = .ok cs.length w)
  (hx : Ev env x (.pointer (some ⟨b, off, none⟩))) (hc : ∀ H', S H' → ∀ j u, cs[j]? = some u → cell H' b (off + j) = some u) : ValC c o env S (.agg cs.toArray) := fun a w hf hS _ => by
 have := run_loadCells_list (P := c.P) (w := w) ⟨b, off, none⟩ cs (fun j v hj => by rw [Addr.add_lit, cell?_of rfl]; exact hc _ hS j v hj)
 unfold execOp; rw [ho]; simp [hf.eval hx, Instr.loadAt, Instr.sureAddr, loadVar, ha, hz, this]
theorem V.conv {s d : TypeId} {x : Operand} {p v : Value} (ho : o.op = .convert s d x) (hx : Ev env x p) (h : ∀ w, S w.heap → (convert s d p).run c.P w = .ok v w) : ValC c o env S v := fun a w hf hS _ => by
 unfold execOp; rw [ho]; simp [hf.eval hx, h w hS]
theorem V.build {t : TypeId} {parts : List (Nat × Operand)} {vs : List (Nat × Value)} {v : Value} (ho : o.op = .build t parts.toArray) (hx : ∀ a, Fr c env a → parts.map (fun p => (p.1, a.eval p.2)) = vs)
  (h : ∀ w, (Instr.build t vs.toArray).run c.P w = .ok v w) : ValC c o env S v := fun a w hf _ _ => by
 have e := hx a hf
 unfold execOp; rw [ho]; simp only [List.map_toArray]
 rw [show (List.map (fun x : Nat × Operand => match x with | (i, x) => (i, a.eval x)) parts) = vs from e]
 simp [h w]
theorem V.slice {t : TypeId} {x : Operand} {lo hi mx : Option Operand} {p v : Value} {lv hv mv : Option Value} (ho : o.op = .slice t x lo hi mx) (hx : Ev env x p)
  (hl : ∀ a, Fr c env a → lo.map a.eval = lv) (hh : ∀ a, Fr c env a → hi.map a.eval = hv) (hm : ∀ a, Fr c env a → mx.map a.eval = mv)
  (h : ∀ w, (Instr.sliceAt t p lv hv mv).run c.P w = .ok v w) : ValC c o env S v := fun a w hf _ _ => by
 unfold execOp; rw [ho]; simp [hf.eval hx, hl a hf, hh a hf, hm a hf, h w]
theorem X.load {α : Type} {T : Ty α} {H : Heap} {M : List Nat} {v : Value} {d : α} {t : TypeId} {x : Operand} (ho : o.op = .load t x) (ha : ∀ w, (isAgg t).run c.P w = .ok T.agg w) (hz : ∀ w, (sizeOf t).run c.P w = .ok T.size w)
  (hp : PAt T H M v d) (hx : Ev env x v) (hS : Reach H S) : ∃ u, ValC c o env S u ∧ T.V H M u d := by
 obtain ⟨b, off, rfl, hb, hm, cs, hr, hc⟩ := hp
 refine ⟨T.val cs, ?_, cs, hr, rfl⟩
 have hl := T.len hr
 unfold Ty.val
 cases hag : T.agg with
 | true => exact V.loadN ho (by rw [hag] at ha; exact ha) (by rw [hl]; exact hz) hx (fun H' h j u hj => cell_keep (hc j u hj) (hS H' h) (by simp))
 | false =>
  rw [T.sc hag] at hl
  match cs, hl with
  | [u], _ => exact V.load1 ho (by rw [hag] at ha; exact ha) hx (fun H' h => by have := cell_keep (hc 0 u rfl) (hS H' h) (by simp); simpa using this)
def Fld {α β : Type} (T : Ty α) (T' : Ty β) (off : Nat) (proj : α → β) : Prop := ∀ {H M cs x}, T.R H M cs x → T'.R H M ((cs.drop off).take T'.size) (proj x)
theorem X.field {α β : Type} {T : Ty α} {T' : Ty β} {foff : Nat} {proj : α → β} {H : Heap} {M : List Nat} {v : Value} {d : α} {s : TypeId} {fs : Array Field} {f : Field} {x : Operand} {i m : Nat} (ho : o.op = .fieldAddr s x i) (hs : c.P.underlying s = some (.struct fs)) (hf : fs[i]? = some f)
  (hz : ∀ w, (sizeOf f.type).run c.P w = .ok m w) (hm : m ≠ 0) (hF : Fld T T' foff proj) (hoff : f.offset = foff) (hp : PAt T H M v d) (hx : Ev env x v) : ∃ u, ValC c o env S u ∧ PAt T' H M u (proj d) := by
 obtain ⟨b, off, rfl, hb, hM, cs, hr, hc⟩ := hp
 refine ⟨_, V.fieldAddr _ ho hs hf hz hm hx rfl, b, _, rfl, hb, hM, _, hF hr, fun j u hj => ?_⟩
 rw [List.getElem?_take] at hj
 split at hj
 ·rw [List.getElem?_drop] at hj
  have := hc _ u hj
  rw [show off + f.offset + j = off + (foff + j) by omega]
  exact this
 ·cases hj
theorem G.load {t : TypeId} {x : Operand} {H : Heap} {b i : Nat} {v : Value} (ho : o.op = .load t x) (ha : ∀ w, (isAgg t).run c.P w = .ok false w) (hx : Ev env x (.pointer (some ⟨b, i, none⟩))) (hc : cell H b i = some v) (hS : Reach H S) : ValC c o env S v :=
 V.load1 ho ha hx fun H' h => cell_keep hc (hS H' h) (by simp)
end
end Go.NB
