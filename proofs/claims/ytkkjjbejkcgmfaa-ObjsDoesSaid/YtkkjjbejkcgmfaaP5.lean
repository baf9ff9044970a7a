/- PLAIN LAWS, 5: an object as bytes, and what bytes are. -/
import Derived.Test.YtkkjjbejkcgmfaaP1
namespace Go.Nest
open Go Go.AM
set_option linter.unusedVariables false
set_option linter.unusedSimpArgs false

def byt (n : Int) : UInt8 := UInt8.ofNat (IntKind.u8.wrap n).toNat
theorem wrap8 (n : Int) : IntKind.u8.wrap n = n % 256 := by
  simp [IntKind.wrap, IntKind.signed, IntKind.bits]
theorem byt_spec (n : Int) : ((byt n).toNat : Int) = IntKind.u8.wrap n := by
  rw [byt, wrap8, UInt8.toNat_ofNat']
  omega
theorem byt_eq (x : UInt8) (n : Int) (h : (x.toNat : Int) = n % 256) : byt n = x := by
  apply UInt8.toNat_inj.1
  have := byt_spec n
  rw [wrap8] at this
  omega

/-! ### bytes of an object -/
def num3 (n : Int) : List UInt8 := [byt n, byt (n.fdiv 256), byt (n.fdiv 65536)]
def txB (s : List UInt8) : List UInt8 := num3 s.length ++ s
def enB (e : Ent) : List UInt8 := txB e.name ++ [byt e.mode, byt e.repo] ++ num3 e.id
def encP (o : Ob) : List UInt8 :=
  byt o.kind :: (if o.kind = 1 then txB o.bytes else if o.kind = 2 then num3 o.entries.length ++ o.entries.flatMap enB
    else num3 o.tree ++ num3 o.parents.length ++ o.parents.flatMap num3 ++ txB o.text)

/-! ### what bytes are -/
def tk (n : Int) (b : List UInt8) : Option (List UInt8 × List UInt8) := if n ≤ b.length then some (b.take n.toNat, b.drop n.toNat) else none
def rd1 : List UInt8 → Option (Int × List UInt8)
  | x :: r => some ((x.toNat : Int), r)
  | _ => none
def rd3 : List UInt8 → Option (Int × List UInt8)
  | x :: y :: z :: r => some ((x.toNat : Int) + 256 * y.toNat + 65536 * z.toNat, r)
  | _ => none
def rdT (b : List UInt8) : Option (List UInt8 × List UInt8) := match rd3 b with
  | some (n, r) => tk n r
  | none => none
def rdE (b : List UInt8) : Option (Ent × List UInt8) := match rdT b with
  | some (nm, r) => match rd1 r with
    | some (md, r) => match rd1 r with
      | some (rp, r) => match rd3 r with
        | some (id, r) => some (⟨nm, md, id, rp⟩, r)
        | none => none
      | none => none
    | none => none
  | none => none
def rdN {α : Type} (p : List UInt8 → Option (α × List UInt8)) : Nat → List UInt8 → Option (List α × List UInt8)
  | 0, b => some ([], b)
  | n + 1, b => match p b with
    | some (x, r) => match rdN p n r with
      | some (xs, r) => some (x :: xs, r)
      | none => none
    | none => none
def decP (b : List UInt8) : Option (Ob × List UInt8) := match rd1 b with
  | some (k, r) => if k = 1 then match rdT r with
      | some (t, r) => some (⟨k, t, [], 0, [], []⟩, r)
      | none => none
    else if k = 2 then match rd3 r with
      | some (n, r) => match rdN rdE n.toNat r with
        | some (es, r) => some (⟨k, [], es, 0, [], []⟩, r)
        | none => none
      | none => none
    else if k = 3 then match rd3 r with
      | some (t, r) => match rd3 r with
        | some (n, r) => match rdN rd3 n.toNat r with
          | some (ps, r) => match rdT r with
            | some (tx, r) => some (⟨k, [], [], t, ps, tx⟩, r)
            | none => none
          | none => none
        | none => none
      | none => none
    else some (⟨k, [], [], 0, [], []⟩, r)
  | none => none
def few (n : Int) : Bool := decide (0 ≤ n) && decide (n < 16777216)
def bigO (o : Ob) : Bool := !few o.tree || (o.parents.any fun k => !few k) || o.entries.any fun e => !few e.id
/-- code -/
def encC (o : Ob) : Int := if objF o = 0 then (if bigO o then 1 else 0) else objF o
def encB (o : Ob) : List UInt8 := if encC o = 0 then encP o else []
def decC (b : List UInt8) : Int := match decP b with
  | some (o, r) => if objF o = 0 then (if r = [] then 0 else 7) else objF o
  | none => 7
def decO (b : List UInt8) : Ob := match decP b with
  | some (o, r) => if objF o = 0 ∧ r = [] then o else ob0
  | none => ob0

/-! ### there and back -/
theorem rd3_num {n : Int} (h1 : 0 ≤ n) (h2 : n < 16777216) (r : List UInt8) : rd3 (num3 n ++ r) = some (n, r) := by
  show some (_, r) = _
  rw [byt_spec, byt_spec, byt_spec, wrap8, wrap8, wrap8, Int.fdiv_eq_ediv_of_nonneg _ (by omega), Int.fdiv_eq_ediv_of_nonneg _ (by omega)]
  congr 2
  omega
theorem num_rd3 {b r : List UInt8} {n : Int} (h : rd3 b = some (n, r)) : b = num3 n ++ r ∧ 0 ≤ n ∧ n < 16777216 := by
  match b, h with
  | x :: y :: z :: r', h =>
    have h : some ((x.toNat : Int) + 256 * y.toNat + 65536 * z.toNat, r') = some (n, r) := h
    simp only [Option.some.injEq, Prod.mk.injEq] at h
    obtain ⟨h, rfl⟩ := h
    have hx := x.toNat_lt; have hy := y.toNat_lt; have hz := z.toNat_lt
    refine ⟨?_, by omega, by omega⟩
    unfold num3
    rw [byt_eq x n (by omega), byt_eq y (n.fdiv 256) (by rw [Int.fdiv_eq_ediv_of_nonneg _ (by omega)]; omega), byt_eq z (n.fdiv 65536) (by rw [Int.fdiv_eq_ediv_of_nonneg _ (by omega)]; omega)]
    rfl
  | [], h => cases h
  | [_], h => cases h
  | [_, _], h => cases h
theorem rd1_byt {n : Int} (h1 : 0 ≤ n) (h2 : n < 256) (r : List UInt8) : rd1 (byt n :: r) = some (n, r) := by
  show some (((byt n).toNat : Int), r) = _
  rw [byt_spec, wrap8]
  congr 2
  omega
theorem byt_rd1 {b r : List UInt8} {n : Int} (h : rd1 b = some (n, r)) : b = byt n :: r ∧ 0 ≤ n ∧ n < 256 := by
  match b, h with
  | x :: r', h =>
    have h : some ((x.toNat : Int), r') = some (n, r) := h
    simp only [Option.some.injEq, Prod.mk.injEq] at h
    obtain ⟨h, rfl⟩ := h
    have hx := x.toNat_lt
    exact ⟨by rw [byt_eq x n (by omega)], by omega, by omega⟩
  | [], h => cases h
theorem tk_app {s r : List UInt8} : tk s.length (s ++ r) = some (s, r) := by
  unfold tk
  rw [if_pos (by rw [List.length_append]; omega)]
  simp
theorem tk_some {n : Int} {b s r : List UInt8} (h0 : 0 ≤ n) (h : tk n b = some (s, r)) : b = s ++ r ∧ (s.length : Int) = n := by
  unfold tk at h
  split at h
  · simp only [Option.some.injEq, Prod.mk.injEq] at h
    obtain ⟨rfl, rfl⟩ := h
    rw [List.take_append_drop, List.length_take]
    exact ⟨rfl, by omega⟩
  · cases h
theorem rdT_tx {s : List UInt8} (h : s.length < 16777216) (r : List UInt8) : rdT (txB s ++ r) = some (s, r) := by
  unfold rdT txB
  rw [List.append_assoc, rd3_num (by omega) (by omega)]
  exact tk_app
theorem tx_rdT {b s r : List UInt8} (h : rdT b = some (s, r)) : b = txB s ++ r ∧ s.length < 16777216 := by
  unfold rdT at h
  split at h
  · rename_i n r' h1
    obtain ⟨rfl, h2, h3⟩ := num_rd3 h1
    obtain ⟨rfl, h4⟩ := tk_some h2 h
    refine ⟨?_, by omega⟩
    rw [txB, h4, List.append_assoc]
  · cases h
structure OkEn (e : Ent) : Prop where
  nm : e.name.length < 16777216
  md : 0 ≤ e.mode ∧ e.mode < 256
  rp : 0 ≤ e.repo ∧ e.repo < 256
  id : 0 ≤ e.id ∧ e.id < 16777216
theorem rdE_en {e : Ent} (h : OkEn e) (r : List UInt8) : rdE (enB e ++ r) = some (e, r) := by
  unfold rdE enB
  rw [List.append_assoc, List.append_assoc, rdT_tx h.nm]
  simp only [List.cons_append, List.nil_append]
  rw [rd1_byt h.md.1 h.md.2]
  simp only []
  rw [rd1_byt h.rp.1 h.rp.2]
  simp only []
  rw [rd3_num h.id.1 h.id.2]
theorem en_rdE {b r : List UInt8} {e : Ent} (h : rdE b = some (e, r)) : b = enB e ++ r ∧ OkEn e := by
  unfold rdE at h
  split at h
  · rename_i nm r1 h1
    split at h
    · rename_i md r2 h2
      split at h
      · rename_i rp r3 h3
        split at h
        · rename_i id r4 h4
          cases h
          obtain ⟨rfl, g1⟩ := tx_rdT h1
          obtain ⟨rfl, g2⟩ := byt_rd1 h2
          obtain ⟨rfl, g3⟩ := byt_rd1 h3
          obtain ⟨rfl, g4⟩ := num_rd3 h4
          exact ⟨by simp [enB], g1, g2, g3, g4⟩
        · cases h
      · cases h
    · cases h
  · cases h
theorem rdN_app {α : Type} {p : List UInt8 → Option (α × List UInt8)} {q : α → List UInt8} {Ok : α → Prop} (h : ∀ x r, Ok x → p (q x ++ r) = some (x, r)) (r : List UInt8) : ∀ {l : List α}, (∀ x ∈ l, Ok x) → rdN p l.length (l.flatMap q ++ r) = some (l, r)
  | [], _ => rfl
  | x :: l, hl => by
    rw [List.flatMap_cons, List.append_assoc, List.length_cons]
    unfold rdN
    rw [h x _ (hl x (by simp))]
    simp only []
    rw [rdN_app h r (fun y hy => hl y (by simp [hy]))]
theorem app_rdN {α : Type} {p : List UInt8 → Option (α × List UInt8)} {q : α → List UInt8} {Ok : α → Prop} (h : ∀ b x r, p b = some (x, r) → b = q x ++ r ∧ Ok x) : ∀ {n : Nat} {b r : List UInt8} {l : List α}, rdN p n b = some (l, r) → b = l.flatMap q ++ r ∧ l.length = n ∧ ∀ x ∈ l, Ok x
  | 0, b, r, l, hr => by cases hr; exact ⟨rfl, rfl, fun x hx => by cases hx⟩
  | n + 1, b, r, l, hr => by
    unfold rdN at hr
    split at hr
    · rename_i x r1 h1
      split at hr
      · rename_i xs r2 h2
        cases hr
        obtain ⟨rfl, g1⟩ := h _ _ _ h1
        obtain ⟨rfl, g2, g3⟩ := app_rdN h h2
        refine ⟨by simp, by simp [g2], fun y hy => ?_⟩
        rcases List.mem_cons.1 hy with rfl | hy
        · exact g1
        · exact g3 y hy
      · cases hr
    · cases hr

theorem tk1 {b x r : List UInt8} (h : tk 1 b = some (x, r)) : ∃ c, x = [c] ∧ rd1 b = some ((c.toNat : Int), r) := by
  obtain ⟨rfl, hl⟩ := tk_some (by decide) h
  match x, hl with
  | [c], _ => exact ⟨c, rfl, rfl⟩
  | [], hl => cases hl
  | _ :: _ :: _, hl => simp at hl; omega
theorem tk1n {b : List UInt8} (h : tk 1 b = none) : rd1 b = none := by
  match b with
  | [] => rfl
  | c :: r => simp [tk] at h; omega
theorem tk3 {b x r : List UInt8} (h : tk 3 b = some (x, r)) : ∃ c d e, x = [c, d, e] ∧ rd3 b = some ((c.toNat : Int) + 256 * d.toNat + 65536 * e.toNat, r) := by
  obtain ⟨rfl, hl⟩ := tk_some (by decide) h
  match x, hl with
  | [c, d, e], _ => exact ⟨c, d, e, rfl, rfl⟩
  | [], hl => cases hl
  | [_], hl => cases hl
  | [_, _], hl => cases hl
  | _ :: _ :: _ :: _ :: _, hl => simp at hl; omega
theorem tk3n {b : List UInt8} (h : tk 3 b = none) : rd3 b = none := by
  match b with
  | [] => rfl
  | [_] => rfl
  | [_, _] => rfl
  | c :: d :: e :: r => simp [tk] at h; omega
theorem or_add {a b : Nat} {k : Nat} (ha : a < 2 ^ k) (hs : a + b * 2 ^ k < 2 ^ 64) : IntKind.i64.wrap ((BitVec.ofInt IntKind.i64.bits (a : Int) ||| BitVec.ofInt IntKind.i64.bits ((b * 2 ^ k : Nat) : Int)).toNat : Int) = IntKind.i64.wrap ((a + b * 2 ^ k : Nat) : Int) := by
  congr 2
  show (BitVec.ofInt 64 (a : Int) ||| BitVec.ofInt 64 ((b * 2 ^ k : Nat) : Int)).toNat = _
  rw [BitVec.toNat_or, BitVec.ofInt_natCast, BitVec.ofInt_natCast, BitVec.toNat_ofNat, BitVec.toNat_ofNat, Nat.mod_eq_of_lt (by omega), Nat.mod_eq_of_lt (by omega)]
  rw [Nat.or_comm, Nat.mul_comm, ← Nat.two_pow_add_eq_or_of_lt ha]
  omega
theorem wrap64_id {n : Nat} (h : n < 2 ^ 62) : IntKind.i64.wrap (n : Int) = n := by
  simp [IntKind.wrap, IntKind.signed, IntKind.bits]
  omega
theorem or3 (x y z : UInt8) : IntKind.i64.wrap ((BitVec.ofInt IntKind.i64.bits (IntKind.i64.wrap ((BitVec.ofInt IntKind.i64.bits (x.toNat : Int) ||| BitVec.ofInt IntKind.i64.bits ((y.toNat : Int) * 256)).toNat : Int)) ||| BitVec.ofInt IntKind.i64.bits ((z.toNat : Int) * 65536)).toNat : Int) = (x.toNat : Int) + 256 * y.toNat + 65536 * z.toNat := by
  have hx := x.toNat_lt; have hy := y.toNat_lt; have hz := z.toNat_lt
  have e1 := or_add (a := x.toNat) (b := y.toNat) (k := 8) hx (by omega)
  rw [wrap64_id (n := x.toNat + y.toNat * 2 ^ 8) (by omega)] at e1
  have e2 := or_add (a := x.toNat + y.toNat * 2 ^ 8) (b := z.toNat) (k := 16) (by omega) (by omega)
  rw [wrap64_id (n := x.toNat + y.toNat * 2 ^ 8 + z.toNat * 2 ^ 16) (by omega)] at e2
  rw [show ((y.toNat : Int) * 256) = ((y.toNat * 2 ^ 8 : Nat) : Int) by omega, e1, show ((z.toNat : Int) * 65536) = ((z.toNat * 2 ^ 16 : Nat) : Int) by omega, e2]
  omega

theorem wrapB (x : UInt8) : IntKind.i64.wrap (x.toNat : Int) = x.toNat := wrap64_id (by have := x.toNat_lt; omega)
theorem or3w (x y z : UInt8) : IntKind.i64.wrap ((BitVec.ofInt IntKind.i64.bits (IntKind.i64.wrap ((BitVec.ofInt IntKind.i64.bits (IntKind.i64.wrap (x.toNat : Int)) ||| BitVec.ofInt IntKind.i64.bits (IntKind.i64.wrap (y.toNat : Int) * 2 ^ min (Int.toNat 8) 64)).toNat : Int)) ||| BitVec.ofInt IntKind.i64.bits (IntKind.i64.wrap (z.toNat : Int) * 2 ^ min (Int.toNat 16) 64)).toNat : Int) = (x.toNat : Int) + 256 * y.toNat + 65536 * z.toNat := by
  rw [wrapB, wrapB, wrapB]
  exact or3 x y z

theorem enB_len (e : Ent) : (enB e).length = e.name.length + 8 := by simp [enB, txB, num3]
/-- i were read of n -/
def Rdn {α : Type} (p : List UInt8 → Option (α × List UInt8)) (n : Nat) (r0 : List UInt8) (i : Nat) (r : List UInt8) (es : List α) : Prop :=
  es.length = i ∧ rdN p n r0 = match rdN p (n - i) r with
    | some (xs, q) => some (es ++ xs, q)
    | none => none
theorem Rdn.start {α : Type} {p : List UInt8 → Option (α × List UInt8)} {n : Nat} {r : List UInt8} : Rdn p n r 0 r [] := by
  refine ⟨rfl, ?_⟩
  rw [Nat.sub_zero]
  cases h : rdN p n r with
  | none => rfl
  | some x => rfl
theorem Rdn.no {α : Type} {p : List UInt8 → Option (α × List UInt8)} {n i : Nat} {r0 r : List UInt8} {es : List α} (h : Rdn p n r0 i r es) (hi : i < n) (hp : p r = none) : rdN p n r0 = none := by
  rw [h.2, show n - i = (n - (i + 1)) + 1 by omega, rdN, hp]
theorem Rdn.go {α : Type} {p : List UInt8 → Option (α × List UInt8)} {n i : Nat} {r0 r r1 : List UInt8} {es : List α} {x : α} (h : Rdn p n r0 i r es) (hi : i < n) (hp : p r = some (x, r1)) : Rdn p n r0 (i + 1) r1 (es ++ [x]) := by
  refine ⟨by simp [h.1], ?_⟩
  rw [h.2, show n - i = (n - (i + 1)) + 1 by omega, rdN, hp]
  simp only []
  cases rdN p (n - (i + 1)) r1 with
  | none => rfl
  | some x => simp
theorem Rdn.fin {α : Type} {p : List UInt8 → Option (α × List UInt8)} {n i : Nat} {r0 r : List UInt8} {es : List α} (h : Rdn p n r0 i r es) (hi : n ≤ i) : rdN p n r0 = some (es, r) := by
  rw [h.2, show n - i = 0 by omega]
  simp [rdN]

theorem few_iff {n : Int} : few n = true ↔ 0 ≤ n ∧ n < 16777216 := by unfold few; rw [Bool.and_eq_true, decide_eq_true_iff, decide_eq_true_iff]
theorem nameC_len {l : List UInt8} (h : nameC l = 0) : l.length ≤ 20 := by
  unfold nameC at h
  split at h
  · cases h
  split at h
  · cases h
  · omega
theorem big_no {o : Ob} (h : bigO o = false) : (0 ≤ o.tree ∧ o.tree < 16777216) ∧ (∀ k ∈ o.parents, 0 ≤ k ∧ k < 16777216) ∧ ∀ e ∈ o.entries, 0 ≤ e.id ∧ e.id < 16777216 := by
  unfold bigO at h
  rw [Bool.or_eq_false_iff, Bool.or_eq_false_iff, List.any_eq_false, List.any_eq_false] at h
  obtain ⟨⟨h1, h2⟩, h3⟩ := h
  refine ⟨few_iff.1 (by simpa using h1), fun k hk => few_iff.1 (by simpa using h2 k hk), fun e he => few_iff.1 (by simpa using h3 e he)⟩
theorem no_big {o : Ob} (h1 : 0 ≤ o.tree ∧ o.tree < 16777216) (h2 : ∀ k ∈ o.parents, 0 ≤ k ∧ k < 16777216) (h3 : ∀ e ∈ o.entries, 0 ≤ e.id ∧ e.id < 16777216) : bigO o = false := by
  unfold bigO
  rw [Bool.or_eq_false_iff, Bool.or_eq_false_iff, List.any_eq_false, List.any_eq_false]
  exact ⟨⟨by simp [few_iff.2 h1], fun k hk => by simp [few_iff.2 (h2 k hk)]⟩, fun e he => by simp [few_iff.2 (h3 e he)]⟩

theorem dec_enc {o : Ob} (ho : OkO o) (hb : bigO o = false) (r : List UInt8) : decP (encP o ++ r) = some (o, r) := by
  obtain ⟨h1, h2, h3⟩ := big_no hb
  have k1 := ho.k1; have k3 := ho.k3
  have hby := ho.bytes; have htx := ho.text; have hpa := ho.parents; have hen := ho.entries
  unfold decP encP
  rw [List.cons_append, rd1_byt (by omega) (by omega)]
  simp only []
  by_cases e1 : o.kind = 1
  · rw [if_pos e1, if_pos e1, rdT_tx (by omega)]
    have ne := ho.ne (by omega); have nc := ho.nc (by omega)
    simp only []
    rw [← ne, ← nc.1, ← nc.2.1, ← nc.2.2]
  rw [if_neg e1, if_neg e1]
  by_cases e2 : o.kind = 2
  · rw [if_pos e2, if_pos e2, List.append_assoc, rd3_num (by omega) (by omega)]
    have nb := ho.nb (by omega); have nc := ho.nc (by omega)
    simp only [Int.toNat_natCast]
    rw [rdN_app (Ok := OkEn) (fun x r h => rdE_en h r) r (fun e he => ?_)]
    · simp only []
      cases o; simp_all
    · obtain ⟨g1, g2, g3, g4, g5⟩ := entsF_ok ho.ents e he
      have := nameC_len g1
      exact ⟨by omega, by omega, by omega, h3 e he⟩
  rw [if_neg e2, if_neg e2, if_pos (by omega), List.append_assoc, List.append_assoc, List.append_assoc, rd3_num h1.1 h1.2]
  have nb := ho.nb (by omega); have ne := ho.ne (by omega)
  simp only []
  rw [rd3_num (by omega) (by omega)]
  simp only [Int.toNat_natCast]
  rw [rdN_app (Ok := fun k => 0 ≤ k ∧ k < 16777216) (fun x r h => rd3_num h.1 h.2 r) _ h2]
  simp only []
  rw [rdT_tx (by omega)]
  simp only []
  cases o; simp_all

theorem enc_dec {b r : List UInt8} {o : Ob} (h : decP b = some (o, r)) (ho : objF o = 0) : b = encP o ++ r ∧ bigO o = false := by
  have hk := objF_ok ho
  have k1 := hk.k1; have k3 := hk.k3
  unfold decP at h
  split at h
  · rename_i k r1 h1
    obtain ⟨rfl, _, _⟩ := byt_rd1 h1
    split at h
    · rename_i e1
      split at h
      · rename_i t r2 h2
        obtain ⟨rfl, _⟩ := tx_rdT h2
        cases h
        subst e1
        exact ⟨by simp [encP], no_big ⟨by simp, by simp⟩ (fun k hk => by cases hk) (fun e he => by cases he)⟩
      · cases h
    split at h
    · rename_i e1 e2
      split at h
      · rename_i n r2 h2
        obtain ⟨rfl, g1, g2⟩ := num_rd3 h2
        split at h
        · rename_i es r3 h3
          obtain ⟨rfl, g3, g4⟩ := app_rdN (q := enB) (Ok := OkEn) (fun b x r h => en_rdE h) h3
          cases h
          subst e2
          refine ⟨?_, no_big ⟨by simp, by simp⟩ (fun k hk => by cases hk) (fun e he => (g4 e he).id)⟩
          simp [encP]
          rw [show ((es.length : Nat) : Int) = n by omega]
        · cases h
      · cases h
    split at h
    · rename_i e1 e2 e3
      split at h
      · rename_i t r2 h2
        obtain ⟨rfl, g1, g2⟩ := num_rd3 h2
        split at h
        · rename_i n r3 h3
          obtain ⟨rfl, g3, g4⟩ := num_rd3 h3
          split at h
          · rename_i ps r4 h4
            obtain ⟨rfl, g5, g6⟩ := app_rdN (q := num3) (Ok := fun k => 0 ≤ k ∧ k < 16777216) (fun b x r h => num_rd3 h) h4
            split at h
            · rename_i tx r5 h5
              obtain ⟨rfl, g7⟩ := tx_rdT h5
              cases h
              subst e3
              refine ⟨?_, no_big ⟨g1, g2⟩ g6 (fun e he => by cases he)⟩
              simp [encP]
              rw [show ((ps.length : Nat) : Int) = n by omega]
            · cases h
          · cases h
        · cases h
      · cases h
    · cases h
      simp only [] at k1 k3
      omega
  · cases h

theorem encC_ok {o : Ob} (h : encC o = 0) : objF o = 0 ∧ bigO o = false := by
  unfold encC at h
  split at h
  · rename_i h1
    split at h
    · cases h
    · rename_i h2; exact ⟨h1, by simpa using h2⟩
  · exact absurd h ‹_›
theorem encC_of {o : Ob} (h1 : objF o = 0) (h2 : bigO o = false) : encC o = 0 := by
  unfold encC; rw [if_pos h1, h2]; rfl
/-- what was encoded is decoded as it was -/
theorem back1 {o : Ob} (h : encC o = 0) : decC (encP o) = 0 ∧ decO (encP o) = o := by
  obtain ⟨h1, h2⟩ := encC_ok h
  have := dec_enc (objF_ok h1) h2 []
  rw [List.append_nil] at this
  unfold decC decO
  rw [this]
  simp [h1]
theorem encP_inj {o u : Ob} (h : encC o = 0) (h' : encC u = 0) : encP o = encP u ↔ o = u :=
  ⟨fun e => by rw [← (back1 h).2, e, (back1 h').2], fun e => by rw [e]⟩
theorem back2 {b : List UInt8} (h : decC b = 0) : encC (decO b) = 0 ∧ encP (decO b) = b := by
  unfold decC at h
  unfold decO
  split at h
  · rename_i o r h1
    split at h
    · rename_i h2
      split at h
      · rename_i h3
        subst h3
        obtain ⟨h4, h5⟩ := enc_dec h1 h2
        rw [if_pos ⟨h2, rfl⟩]
        exact ⟨encC_of h2 h5, by rw [h4, List.append_nil]⟩
      · cases h
    · exact absurd h ‹_›
  · cases h
theorem decO_no {b : List UInt8} (h : decC b ≠ 0) : decO b = ob0 := by
  unfold decC at h
  unfold decO
  split
  · rename_i o r h1
    rw [h1] at h
    simp only [] at h
    split
    · rename_i h2
      rw [if_pos h2.1, if_pos h2.2] at h
      exact absurd rfl h
    · rfl
  · rfl
end Go.Nest
