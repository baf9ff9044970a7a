/- WALKS, 17: what bytes are: the reader. -/
import Derived.Test.YtkkjjbejkcgmfaaG16
import Derived.Test.YtkkjjbejkcgmfaaAmR
namespace Go.Nest
open Go Go.AM Go.Proofs
open Go.Proofs.Ytkkjjbejkcgmfaa (tab tabOk)
set_option linter.unusedVariables false
set_option linter.unusedSimpArgs false
set_option maxRecDepth 4000

/-- reading: it returns what is there, or gives up -/
def Rdr {α : Type} (A0 : α → A) (p : Option (α × List UInt8)) (o : Out) (ah : List B) : Prop := match p with
  | some (x, r) => o = .ret (A0 x) ∧ ah = [.box [.ls 1 UInt8 bytesC r]]
  | none => ∃ r, o = .pan (.c (.iface 92 true [])) ∧ ah = [.box [.ls 1 UInt8 bytesC r]]
def aBy (s : List UInt8) : A := .c (.ls 1 UInt8 bytesC s)
def aIn (n : Int) : A := .c (.int .i64 n)
def aTx (s : List UInt8) : A := .c (.str s)

theorem take_spec (b : List UInt8) (n : Int) (h0 : 0 ≤ n) : Does Try.prog 91 [.c (.ptr 0 0), .c (.int .i64 n)] [.box [.ls 1 UInt8 bytesC b]] (Rdr aBy (tk n b)) := by
  refine X_spec ⟨Try.prog, tab, 31, 1⟩ tabOk (by kernel_rfl) Try.call91 Try.func91 rfl rfl (by kernel_rfl) rfl ?_
  intro hb
  have hb : b.length ≤ 9223372036854775807 := hb.2.1.1
  repeat' ((conv => whnf); first | (refine dec (fun h => ?_) (fun h => ?_) <;> try contradiction) | (refine decN (fun h => ?_) (fun h => ?_) <;> try contradiction) | refine booN (fun h => ?_) (fun h => ?_) | refine boo (fun h => ?_) (fun h => ?_) | refine ⟨i64 (by omega) (by omega), ?_⟩ | refine ⟨_, _, rfl, List.getElem?_eq_getElem (by omega), ?_⟩ | refine ⟨_, ⟨rfl, by omega⟩, ?_⟩ | refine ⟨_, List.getElem?_eq_getElem (by omega), ?_⟩ | refine rtB ?_ | refine rtI ?_ | refine rtC ?_ rfl | fail)
  · (conv => whnf)
    refine ⟨[], [.same 0], .c (.iface 92 true []), [.box [.ls 1 UInt8 bytesC b]], (by repeat' first | exact trivial | exact rfl | refine And.intro ?_ ?_), rfl, ?_⟩
    have : tk n b = none := by unfold tk; rw [if_neg (by omega)]
    rw [this]
    exact ⟨b, rfl, rfl⟩
  · have : tk n b = some (b.take n.toNat, (b.drop n.toNat).take (b.length - n.toNat)) := by
      unfold tk; rw [if_pos (by omega), List.take_of_length_le (l := b.drop n.toNat) (by rw [List.length_drop]; omega)]
    rw [this]
    (conv => whnf)
    refine ⟨0, n.toNat, rfl, (show n = _ by omega), ⟨by omega, by omega⟩, ?_⟩
    (conv => whnf)
    refine ⟨n.toNat, b.length, (show n = _ by omega), rfl, ⟨by omega, by omega⟩, ?_⟩
    (conv => whnf)
    refine rt [] [.same 0] (by repeat' first | exact trivial | exact rfl | refine And.intro ?_ ?_) rfl ⟨rfl, rfl⟩

/-- a call of what reads -/
theorem clR {P : Program} {f : FuncId} {ah : List B} {env : List (Nat × A)} {args : List A} {k : List B → A → Prop} {kp : A → St → Prop} {targs : List A} {tah : List B} {α : Type} {A0 : α → A} {p : Option (α × List UInt8)} (m : List Nat) (hs : Does P f targs tah (Rdr A0 p)) (hok : CallOk ah m args targs tah)
    (h1 : ∀ x r, p = some (x, r) → ap2 k (mrg m ah [.box [.ls 1 UInt8 bytesC r]]) (renA (sig m ah.length) (A0 x)))
    (h2 : p = none → ∀ r, ap2 kp (.c (.iface 92 true [])) ⟨env, mrg m ah [.box [.ls 1 UInt8 bytesC r]]⟩) :
    ∃ (js m : List Nat) (targs : List A) (tah : List B) (Q : Out → List B → Prop), Does P f targs tah Q ∧ CallOk (frz js ah) m args targs tah ∧ (bif false then m = [] else True) ∧
      ∀ out ah', Q out ah' → match out with
        | .ret a => ap2 k (mrg m (frz js ah) ah') (renA (sig m (frz js ah).length) a)
        | .pan a => ap2 kp (renA (sig m (frz js ah).length) a) ⟨env, mrg m (frz js ah) ah'⟩ := by
  refine ⟨[], m, targs, tah, _, hs, hok, trivial, fun out ah' hq => ?_⟩
  unfold Rdr at hq
  split at hq
  · rename_i x r
    obtain ⟨rfl, rfl⟩ := hq
    exact h1 x r rfl
  · obtain ⟨r, rfl, rfl⟩ := hq
    exact h2 rfl r

theorem one_spec (b : List UInt8) : Does Try.prog 87 [.c (.ptr 0 0)] [.box [.ls 1 UInt8 bytesC b]] (Rdr aIn (rd1 b)) := by
  refine X_spec ⟨Try.prog, tab, 8, 1⟩ tabOk (by kernel_rfl) Try.call87 Try.func87 rfl rfl (by kernel_rfl) rfl ?_
  intro hb
  (conv => whnf)
  refine clR [0] (take_spec b 1 (by decide)) (by repeat' first | exact trivial | exact rfl | refine And.intro ?_ ?_) (fun x r h => ?_) (fun h r => ?_)
  · obtain ⟨c, rfl, hp⟩ := tk1 h
    rw [hp]
    (conv => whnf)
    refine ⟨0, c, rfl, rfl, ?_⟩
    (conv => whnf)
    refine rt [] [.same 0] (X := .c (.int .i64 _)) (Y := [.box [.ls 1 UInt8 bytesC r]]) (by repeat' first | exact trivial | exact rfl | refine And.intro ?_ ?_) rfl ⟨?_, rfl⟩
    exact congrArg (fun n => Out.ret (.c (.int .i64 n))) (wrapB c)
  · rw [tk1n h]
    (conv => whnf)
    exact ⟨[], [.same 0], .c (.iface 92 true []), [.box [.ls 1 UInt8 bytesC r]], (by repeat' first | exact trivial | exact rfl | refine And.intro ?_ ?_), rfl, r, rfl, rfl⟩

theorem rnum_spec (b : List UInt8) : Does Try.prog 89 [.c (.ptr 0 0)] [.box [.ls 1 UInt8 bytesC b]] (Rdr aIn (rd3 b)) := by
  refine X_spec ⟨Try.prog, tab, 22, 1⟩ tabOk (by kernel_rfl) Try.call89 Try.func89 rfl rfl (by kernel_rfl) rfl ?_
  intro hb
  (conv => whnf)
  refine clR [0] (take_spec b 3 (by decide)) (by repeat' first | exact trivial | exact rfl | refine And.intro ?_ ?_) (fun x r h => ?_) (fun h r => ?_)
  · obtain ⟨c, d, e, rfl, hp⟩ := tk3 h
    rw [hp]
    have hc := c.toNat_lt; have hd := d.toNat_lt; have he := e.toNat_lt
    (conv => whnf)
    refine ⟨false, (.l [0, 1, 2, 3, 4, 5, 6, 7, 8, 9, 10, 11, 12, 13, 14, 15, 16]), by kernel_rfl, .inl ?_⟩
    (conv => whnf)
    refine ⟨0, c, rfl, rfl, ?_⟩
    (conv => whnf)
    refine ⟨1, d, rfl, rfl, ?_⟩
    (conv => whnf)
    refine ⟨⟨by decide, i64 (show -9223372036854775808 ≤ IntKind.i64.wrap (d.toNat : Int) * 256 by rw [wrapB]; omega) (show IntKind.i64.wrap (d.toNat : Int) * 256 ≤ 9223372036854775807 by rw [wrapB]; omega)⟩, ?_⟩
    (conv => whnf)
    refine ⟨2, e, rfl, rfl, ?_⟩
    (conv => whnf)
    refine ⟨⟨by decide, i64 (show -9223372036854775808 ≤ IntKind.i64.wrap (e.toNat : Int) * 65536 by rw [wrapB]; omega) (show IntKind.i64.wrap (e.toNat : Int) * 65536 ≤ 9223372036854775807 by rw [wrapB]; omega)⟩, ?_⟩
    (conv => whnf)
    refine rt [] [.same 0] (X := .c (.int .i64 _)) (Y := [.box [.ls 1 UInt8 bytesC r]]) (by repeat' first | exact trivial | exact rfl | refine And.intro ?_ ?_) rfl ⟨?_, rfl⟩
    exact congrArg (fun n => Out.ret (.c (.int .i64 n))) (or3w c d e)
  · rw [tk3n h]
    (conv => whnf)
    exact ⟨[], [.same 0], .c (.iface 92 true []), [.box [.ls 1 UInt8 bytesC r]], (by repeat' first | exact trivial | exact rfl | refine And.intro ?_ ?_), rfl, r, rfl, rfl⟩

theorem rtext_spec (b : List UInt8) : Does Try.prog 88 [.c (.ptr 0 0)] [.box [.ls 1 UInt8 bytesC b]] (Rdr aTx (rdT b)) := by
  refine X_spec ⟨Try.prog, tab, 8, 1⟩ tabOk (by kernel_rfl) Try.call88 Try.func88 rfl rfl (by kernel_rfl) rfl ?_
  intro hb
  (conv => whnf)
  refine clR [0] (rnum_spec b) (by repeat' first | exact trivial | exact rfl | refine And.intro ?_ ?_) (fun n r h => ?_) (fun h r => ?_)
  · have hn := num_rd3 h
    (conv => whnf)
    refine clR [0] (take_spec r n hn.2.1) (by repeat' first | exact trivial | exact rfl | refine And.intro ?_ ?_) (fun x r2 h2 => ?_) (fun h2 r2 => ?_)
    · have : rdT b = some (x, r2) := by unfold rdT; rw [h]; exact h2
      rw [this]
      (conv => whnf)
      refine ⟨x, rfl, ?_⟩
      (conv => whnf)
      refine rt [] [.same 0] (by repeat' first | exact trivial | exact rfl | refine And.intro ?_ ?_) rfl ⟨rfl, rfl⟩
    · have : rdT b = none := by unfold rdT; rw [h]; exact h2
      rw [this]
      (conv => whnf)
      exact ⟨[], [.same 0], .c (.iface 92 true []), [.box [.ls 1 UInt8 bytesC r2]], (by repeat' first | exact trivial | exact rfl | refine And.intro ?_ ?_), rfl, r2, rfl, rfl⟩
  · have : rdT b = none := by unfold rdT; rw [h]
    rw [this]
    (conv => whnf)
    exact ⟨[], [.same 0], .c (.iface 92 true []), [.box [.ls 1 UInt8 bytesC r]], (by repeat' first | exact trivial | exact rfl | refine And.intro ?_ ?_), rfl, r, rfl, rfl⟩

def aOb (o : Ob) : A := .st (encOb o)
def zOb : List C := [.int .i64 0, .nil, .nil, .int .i64 0, .nil, .str []]
set_option maxHeartbeats 4000000 in
theorem object_spec (b : List UInt8) (hb : b.length ≤ 1000000) : Does Try.prog 61 [.c (.ptr 0 0)] [.box [.ls 1 UInt8 bytesC b]] (Rdr aOb (decP b)) := by
  refine X_specM ⟨Try.prog, tab, 62, 1⟩ tabOk (by kernel_rfl) Try.call61 Try.func61 rfl rfl (by kernel_rfl) rfl ?_
  intro _
  refine XM.seq ?_
  (conv => whnf)
  refine XM.seq ?_
  (conv => whnf)
  refine clR [0] (one_spec b) (by repeat' first | exact trivial | exact rfl | refine And.intro ?_ ?_) (fun k r h => ?_) (fun h r => ?_)
  rotate_left
  · have : decP b = none := by unfold decP; rw [h]
    rw [this]
    (conv => whnf)
    exact ⟨[], [.same 0], .c (.iface 92 true []), [.box [.ls 1 UInt8 bytesC r]], (by repeat' first | exact trivial | exact rfl | refine And.intro ?_ ?_), rfl, r, rfl, rfl⟩
  have hd : decP b = decP b := rfl
  conv at hd => rhs; unfold decP; rw [h]
  dsimp only at hd
  have hr : r.length ≤ 1000000 := by have := (byt_rd1 h).1; rw [this] at hb; simp at hb; omega
  (conv => whnf)
  refine XM.join (ι := Ob × List UInt8) (fun x => ⟨[(0, .c (.ptr 0 0)), (2, .c (.ptr 1 0)), (3, .c (.ptr 2 0))], [.box [.ls 1 UInt8 bytesC x.2], .box zOb, .box (encOb x.1)]⟩) (fun x => decP b = some x) ?_ (fun x hx => ?_)
  rotate_left
  · rw [hx]
    refine XM.of ?_
    (conv => whnf)
    refine rt [] [.same 0] (by repeat' first | exact trivial | exact rfl | refine And.intro ?_ ?_) rfl ⟨rfl, rfl⟩
  repeat' ((conv => whnf); first | (refine dec (fun h => ?_) (fun h => ?_) <;> try contradiction) | (refine decN (fun h => ?_) (fun h => ?_) <;> try contradiction) | refine booN (fun h => ?_) (fun h => ?_) | refine boo (fun h => ?_) (fun h => ?_) | refine ⟨i64 (by omega) (by omega), ?_⟩ | refine ⟨_, _, rfl, List.getElem?_eq_getElem (by omega), ?_⟩ | refine ⟨_, ⟨rfl, by omega⟩, ?_⟩ | refine ⟨_, List.getElem?_eq_getElem (by omega), ?_⟩ | refine rtB ?_ | refine rtI ?_ | refine rtC ?_ rfl | fail)
  · have hk1 : k = 1 := h
    rw [if_pos hk1] at hd
    (conv => whnf)
    refine clR [0] (rtext_spec r) (by repeat' first | exact trivial | exact rfl | refine And.intro ?_ ?_) (fun t r2 h2 => ?_) (fun h2 r2 => ?_)
    · rw [h2] at hd
      (conv => whnf)
      refine ⟨(⟨k, t, [], 0, [], []⟩, r2), hd, [], [.same 0, .same 1, .same 2], ?_⟩
      repeat' first | exact trivial | exact rfl | refine And.intro ?_ ?_
    · rw [h2] at hd
      rw [hd]
      (conv => whnf)
      exact ⟨[], [.same 0], .c (.iface 92 true []), [.box [.ls 1 UInt8 bytesC r2]], (by repeat' first | exact trivial | exact rfl | refine And.intro ?_ ?_), rfl, r2, rfl, rfl⟩
  · have hk1 : ¬ k = 1 := by assumption
    have hk2 : k = 2 := h
    rw [if_neg hk1, if_pos hk2] at hd
    (conv => whnf)
    refine clR [0] (rnum_spec r) (by repeat' first | exact trivial | exact rfl | refine And.intro ?_ ?_) (fun n r0 h2 => ?_) (fun h2 r2 => ?_)
    rotate_left
    · rw [h2] at hd
      rw [hd]
      (conv => whnf)
      exact ⟨[], [.same 0], .c (.iface 92 true []), [.box [.ls 1 UInt8 bytesC r2]], (by repeat' first | exact trivial | exact rfl | refine And.intro ?_ ?_), rfl, r2, rfl, rfl⟩
    rw [h2] at hd
    dsimp only at hd
    obtain ⟨h3, hn0, hn1⟩ := num_rd3 h2
    have hr0 : r0.length ≤ 1000000 := by rw [h3] at hr; simp at hr; omega
    (conv => whnf)
    refine lp (Nat × List UInt8 × List Ent) (fun x => ⟨[(0, .c (.ptr 0 0)), (2, .c (.ptr 1 0)), (3, .c (.ptr 2 0)), (19, .c (.int .i64 n)), (20, .c (.int .i64 x.1))], [.box [.ls 1 UInt8 bytesC x.2.1], .box zOb, .box [.int .i64 k, .nil, .rw 3, .int .i64 0, .nil, .str []], .row 4 Ent encEn x.2.2]⟩)
      (fun x => x.1 ≤ n.toNat ∧ (x.2.1.length + x.1 ≤ 1000000 ∧ Rdn rdE n.toNat r0 x.1 x.2.1 x.2.2)) (fun x => n.toNat - x.1) (0, r0, []) [] [.same 0, .same 1, .same 2, .new] ?_ ?_ (fun x hi => ?_)
    · exact ⟨Nat.zero_le _, hr0, Rdn.start⟩
    · repeat' first | exact trivial | exact rfl | refine And.intro ?_ ?_
    obtain ⟨i, q, es⟩ := x
    dsimp only at hi
    obtain ⟨hi1, hi2, hi3⟩ := hi
    have hes := hi3.1
    (conv => whnf)
    refine dec (fun h4 => ?_) (fun h4 => ?_)
    · have hlt : i < n.toNat := by omega
      have no : rdE q = none → decP b = none := fun h => by rw [hd, hi3.no hlt h]
      (conv => whnf)
      refine clR [0] (rtext_spec q) (by repeat' first | exact trivial | exact rfl | refine And.intro ?_ ?_) (fun nm q1 h5 => ?_) (fun h5 r2 => ?_)
      rotate_left
      · rw [no (by unfold rdE; rw [h5])]
        (conv => whnf)
        exact ⟨[], [.same 0], .c (.iface 92 true []), [.box [.ls 1 UInt8 bytesC r2]], (by repeat' first | exact trivial | exact rfl | refine And.intro ?_ ?_), rfl, r2, rfl, rfl⟩
      (conv => whnf)
      refine clR [0] (one_spec q1) (by repeat' first | exact trivial | exact rfl | refine And.intro ?_ ?_) (fun md q2 h6 => ?_) (fun h6 r2 => ?_)
      rotate_left
      · rw [no (by unfold rdE; rw [h5]; dsimp only; rw [h6])]
        (conv => whnf)
        exact ⟨[], [.same 0], .c (.iface 92 true []), [.box [.ls 1 UInt8 bytesC r2]], (by repeat' first | exact trivial | exact rfl | refine And.intro ?_ ?_), rfl, r2, rfl, rfl⟩
      (conv => whnf)
      refine clR [0] (one_spec q2) (by repeat' first | exact trivial | exact rfl | refine And.intro ?_ ?_) (fun rp q3 h7 => ?_) (fun h7 r2 => ?_)
      rotate_left
      · rw [no (by unfold rdE; rw [h5]; dsimp only; rw [h6]; dsimp only; rw [h7])]
        (conv => whnf)
        exact ⟨[], [.same 0], .c (.iface 92 true []), [.box [.ls 1 UInt8 bytesC r2]], (by repeat' first | exact trivial | exact rfl | refine And.intro ?_ ?_), rfl, r2, rfl, rfl⟩
      (conv => whnf)
      refine clR [0] (rnum_spec q3) (by repeat' first | exact trivial | exact rfl | refine And.intro ?_ ?_) (fun id q4 h8 => ?_) (fun h8 r2 => ?_)
      rotate_left
      · rw [no (by unfold rdE; rw [h5]; dsimp only; rw [h6]; dsimp only; rw [h7]; dsimp only; rw [h8])]
        (conv => whnf)
        exact ⟨[], [.same 0], .c (.iface 92 true []), [.box [.ls 1 UInt8 bytesC r2]], (by repeat' first | exact trivial | exact rfl | refine And.intro ?_ ?_), rfl, r2, rfl, rfl⟩
      have he : rdE q = some (⟨nm, md, id, rp⟩, q4) := by unfold rdE; rw [h5]; dsimp only; rw [h6]; dsimp only; rw [h7]; dsimp only; rw [h8]
      have hq : q4.length + 8 ≤ q.length := by
        rw [(en_rdE he).1, List.length_append, enB_len]; omega
      (conv => whnf)
      refine ⟨[⟨nm, md, id, rp⟩], rfl, ?_⟩
      (conv => whnf)
      refine ⟨_, _, rfl, rfl, (by simp only [List.length_append, List.length_cons, List.length_nil]; omega), ?_⟩
      repeat' ((conv => whnf); first | (refine dec (fun h => ?_) (fun h => ?_) <;> try contradiction) | (refine decN (fun h => ?_) (fun h => ?_) <;> try contradiction) | refine booN (fun h => ?_) (fun h => ?_) | refine boo (fun h => ?_) (fun h => ?_) | refine ⟨i64 (by omega) (by omega), ?_⟩ | refine ⟨_, _, rfl, List.getElem?_eq_getElem (by omega), ?_⟩ | refine ⟨_, ⟨rfl, by omega⟩, ?_⟩ | refine ⟨_, List.getElem?_eq_getElem (by omega), ?_⟩ | refine rtB ?_ | refine rtI ?_ | refine rtC ?_ rfl | fail)
      refine ag (i + 1, q4, es ++ [⟨nm, md, id, rp⟩]) [] [.same 0, .same 1, .same 2, .same 6] ⟨hlt, by dsimp only; omega, hi3.go hlt he⟩ (by simp only []; omega) ?_
      repeat' first | exact trivial | exact rfl | refine And.intro ?_ ?_
    · have h5 := hi3.fin (by omega)
      rw [h5] at hd
      (conv => whnf)
      refine ⟨(⟨k, [], es, 0, [], []⟩, q), hd, [3], [.same 0, .same 1, .same 2], ?_⟩
      repeat' first | exact trivial | exact rfl | refine And.intro ?_ ?_
  · have hk1 : ¬ k = 1 := by assumption
    have hk2 : ¬ k = 2 := by assumption
    have hk3 : k = 3 := h
    rw [if_neg hk1, if_neg hk2, if_pos hk3] at hd
    (conv => whnf)
    refine clR [0] (rnum_spec r) (by repeat' first | exact trivial | exact rfl | refine And.intro ?_ ?_) (fun t r0 h2 => ?_) (fun h2 r2 => ?_)
    rotate_left
    · rw [h2] at hd
      rw [hd]
      (conv => whnf)
      exact ⟨[], [.same 0], .c (.iface 92 true []), [.box [.ls 1 UInt8 bytesC r2]], (by repeat' first | exact trivial | exact rfl | refine And.intro ?_ ?_), rfl, r2, rfl, rfl⟩
    rw [h2] at hd
    dsimp only at hd
    obtain ⟨h3, _, _⟩ := num_rd3 h2
    have hr0 : r0.length ≤ 1000000 := by rw [h3] at hr; simp at hr; omega
    (conv => whnf)
    refine clR [0] (rnum_spec r0) (by repeat' first | exact trivial | exact rfl | refine And.intro ?_ ?_) (fun n r1 h4 => ?_) (fun h4 r2 => ?_)
    rotate_left
    · rw [h4] at hd
      rw [hd]
      (conv => whnf)
      exact ⟨[], [.same 0], .c (.iface 92 true []), [.box [.ls 1 UInt8 bytesC r2]], (by repeat' first | exact trivial | exact rfl | refine And.intro ?_ ?_), rfl, r2, rfl, rfl⟩
    rw [h4] at hd
    dsimp only at hd
    obtain ⟨h5, hn0, hn1⟩ := num_rd3 h4
    have hr1 : r1.length ≤ 1000000 := by rw [h5] at hr0; simp at hr0; omega
    (conv => whnf)
    refine lp (Nat × List UInt8 × List Int) (fun x => ⟨[(0, .c (.ptr 0 0)), (2, .c (.ptr 1 0)), (3, .c (.ptr 2 0)), (47, .c (.int .i64 n)), (48, .c (.int .i64 x.1))], [.box [.ls 1 UInt8 bytesC x.2.1], .box zOb, .box [.int .i64 k, .nil, .nil, .int .i64 t, .rw 3, .str []], .row 1 Int encI x.2.2]⟩)
      (fun x => x.1 ≤ n.toNat ∧ (x.2.1.length + x.1 ≤ 1000000 ∧ Rdn rd3 n.toNat r1 x.1 x.2.1 x.2.2)) (fun x => n.toNat - x.1) (0, r1, []) [] [.same 0, .same 1, .same 2, .new] ?_ ?_ (fun x hi => ?_)
    · exact ⟨Nat.zero_le _, hr1, Rdn.start⟩
    · repeat' first | exact trivial | exact rfl | refine And.intro ?_ ?_
    obtain ⟨i, q, ps⟩ := x
    dsimp only at hi
    obtain ⟨hi1, hi2, hi3⟩ := hi
    have hes := hi3.1
    (conv => whnf)
    refine dec (fun h6 => ?_) (fun h6 => ?_)
    · have hlt : i < n.toNat := by omega
      (conv => whnf)
      refine ⟨true, (.alt [0, 2] [1, 3] fun j => bif Nat.beq j 1 then (.l [3, 4, 5, 6, 7]) else bif Nat.beq j 3 then (.alt [] [1, 4] fun j => bif Nat.beq j 1 then (.l [4, 5, 6, 7]) else bif Nat.beq j 4 then (.l [1, 5, 6, 7]) else .l []) else .l []), by kernel_rfl, .inl ?_⟩
      refine ⟨?_, ?_⟩
      all_goals
        (conv => whnf)
        refine clR [0] (rnum_spec q) (by repeat' first | exact trivial | exact rfl | refine And.intro ?_ ?_) (fun x q1 h7 => ?_) (fun h7 r2 => ?_)
        rotate_left
        · have : decP b = none := by rw [hd, hi3.no hlt h7]
          rw [this]
          (conv => whnf)
          exact ⟨[], [.same 0], .c (.iface 92 true []), [.box [.ls 1 UInt8 bytesC r2]], (by repeat' first | exact trivial | exact rfl | refine And.intro ?_ ?_), rfl, r2, rfl, rfl⟩
        have hq : q1.length + 3 ≤ q.length := by
          rw [(num_rd3 h7).1, List.length_append, num3_len]; omega
        (conv => whnf)
        first | (refine And.intro ?_ ?_ <;> (conv => whnf)) | skip
        all_goals
          refine ⟨[x], rfl, ?_⟩
          (conv => whnf)
          refine ⟨_, _, rfl, rfl, (by simp only [List.length_append, List.length_cons, List.length_nil]; omega), ?_⟩
          repeat' ((conv => whnf); first | (refine dec (fun h => ?_) (fun h => ?_) <;> try contradiction) | (refine decN (fun h => ?_) (fun h => ?_) <;> try contradiction) | refine booN (fun h => ?_) (fun h => ?_) | refine boo (fun h => ?_) (fun h => ?_) | refine ⟨i64 (by omega) (by omega), ?_⟩ | refine ⟨_, _, rfl, List.getElem?_eq_getElem (by omega), ?_⟩ | refine ⟨_, ⟨rfl, by omega⟩, ?_⟩ | refine ⟨_, List.getElem?_eq_getElem (by omega), ?_⟩ | refine rtB ?_ | refine rtI ?_ | refine rtC ?_ rfl | fail)
          refine ag (i + 1, q1, ps ++ [x]) [] [.same 0, .same 1, .same 2, .same 5] ⟨hlt, by dsimp only; omega, hi3.go hlt h7⟩ (by simp only []; omega) ?_
          repeat' first | exact trivial | exact rfl | refine And.intro ?_ ?_
    · have h5 := hi3.fin (by omega)
      rw [h5] at hd
      dsimp only at hd
      (conv => whnf)
      refine clR [0] (rtext_spec q) (by repeat' first | exact trivial | exact rfl | refine And.intro ?_ ?_) (fun tx q1 h7 => ?_) (fun h7 r2 => ?_)
      rotate_left
      · rw [h7] at hd
        rw [hd]
        (conv => whnf)
        exact ⟨[], [.same 0], .c (.iface 92 true []), [.box [.ls 1 UInt8 bytesC r2]], (by repeat' first | exact trivial | exact rfl | refine And.intro ?_ ?_), rfl, r2, rfl, rfl⟩
      rw [h7] at hd
      (conv => whnf)
      refine ⟨(⟨k, [], [], t, ps, tx⟩, q1), hd, [3], [.same 0, .same 1, .same 2], ?_⟩
      repeat' first | exact trivial | exact rfl | refine And.intro ?_ ?_
  · have hk1 : ¬ k = 1 := by assumption
    have hk2 : ¬ k = 2 := by assumption
    have hk3 : ¬ k = 3 := h
    rw [if_neg hk1, if_neg hk2, if_neg hk3] at hd
    (conv => whnf)
    refine ⟨(⟨k, [], [], 0, [], []⟩, r), hd, [], [.same 0, .same 1, .same 2], ?_⟩
    repeat' first | exact trivial | exact rfl | refine And.intro ?_ ?_
end Go.Nest
