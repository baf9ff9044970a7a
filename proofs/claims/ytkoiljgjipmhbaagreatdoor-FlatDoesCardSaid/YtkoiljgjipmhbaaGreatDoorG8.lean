/- PLAIN LAWS, 1: pools. -/
import Derived.Test.YtkoiljgjipmhbaaGreatDoorG7
section
namespace Go.Nest
open Go Go.AM
set_option linter.unusedVariables false
set_option linter.unusedSimpArgs false

theorem entF_ok {p : Option (List UInt8)} {e : Ent} (h : entF p e = 0) : nameC e.name = 0 ∧ (1 ≤ e.mode ∧ e.mode ≤ 3) ∧ 0 ≤ e.id ∧ (0 ≤ e.repo ∧ e.repo < 4) ∧ (e.mode = 3 ∨ e.repo = 0) := by
  unfold entF at h
  split at h
  · exact absurd h ‹_›
  split at h
  · cases h
  split at h
  · cases h
  split at h
  · cases h
  refine ⟨?_, ?_, ?_, ?_, ?_⟩ <;> omega
theorem entsF_ok : ∀ {l : List Ent} {p : Option (List UInt8)}, entsF p l = 0 → ∀ e ∈ l, nameC e.name = 0 ∧ (1 ≤ e.mode ∧ e.mode ≤ 3) ∧ 0 ≤ e.id ∧ (0 ≤ e.repo ∧ e.repo < 4) ∧ (e.mode = 3 ∨ e.repo = 0)
  | [], _, _, e, he => by cases he
  | x :: l, p, h, e, he => by
    unfold entsF at h
    split at h
    · rename_i h0
      rcases List.mem_cons.1 he with rfl | he
      · exact entF_ok h0
      · exact entsF_ok h e he
    · exact absurd h ‹_›
structure OkO (o : Ob) : Prop where
  k1 : 1 ≤ o.kind
  k3 : o.kind ≤ 3
  bytes : o.bytes.length ≤ 400
  text : o.text.length ≤ 60
  parents : o.parents.length ≤ 3
  entries : o.entries.length ≤ 60
  nb : o.kind ≠ 1 → o.bytes = []
  ne : o.kind ≠ 2 → o.entries = []
  nc : o.kind ≠ 3 → o.tree = 0 ∧ o.parents = [] ∧ o.text = []
  tree : 0 ≤ o.tree
  par : ∀ k ∈ o.parents, 0 ≤ k
  txt : o.text.all shown = true
  ents : entsF none o.entries = 0
theorem len0 {α : Type} {l : List α} (h : ¬ 0 < l.length) : l = [] := List.eq_nil_of_length_eq_zero (by omega)
theorem objF_ok {o : Ob} (h : objF o = 0) : OkO o := by
  simp only [objF] at h
  split at h
  · cases h
  split at h
  · cases h
  split at h
  · cases h
  split at h
  · cases h
  split at h
  · cases h
  split at h
  · cases h
  split at h
  · unfold treeC at h
    split at h
    · cases h
    rename_i h1 h2 h3 h4 h5 h6 h7 h8
    refine ⟨by omega, by omega, by omega, by omega, by omega, by omega, fun hk => len0 (by omega), fun hk => len0 (by omega), fun hk => ⟨by omega, len0 (by omega), len0 (by omega)⟩, by omega, fun k hk => ?_, h7, h⟩
    rw [Bool.not_eq_true, List.any_eq_false] at h6
    have := h6 k hk
    simpa using this
  · cases h
theorem OkO.modes {o : Ob} (h : OkO o) : ∀ e ∈ o.entries, 1 ≤ e.mode ∧ e.mode ≤ 3 := fun e he => (entsF_ok h.ents e he).2.1
theorem OkO.ids {o : Ob} (h : OkO o) : ∀ e ∈ o.entries, 0 ≤ e.id := fun e he => (entsF_ok h.ents e he).2.2.1

/-- a pool as it can come about -/
inductive PoolOk : List Ob → Prop
  | nil : PoolOk []
  | snoc {l : List Ob} {o : Ob} (h : PoolOk l) (ho : objF o = 0) (hl : leadsP l o = true) (hn : o ∉ l) (hlen : l.length < 600) : PoolOk (l ++ [o])

theorem PoolOk.len {l : List Ob} (h : PoolOk l) : l.length ≤ 600 := by
  cases h with
  | nil => simp
  | snoc _ _ _ _ h => simp; omega
theorem PoolOk.mem {l : List Ob} (h : PoolOk l) : ∀ o ∈ l, OkO o := by
  induction h with
  | nil => intro o ho; cases ho
  | snoc _ ho _ _ _ ih =>
    intro u hu
    rcases List.mem_append.1 hu with hu | hu
    · exact ih u hu
    · rw [List.mem_singleton] at hu; subst hu; exact objF_ok ho

def putP (l : List Ob) (o : Ob) : Int × Int × List Ob :=
  if objF o ≠ 0 then (0, objF o, l) else if leadsP l o = false then (0, 14, l) else if 0 ≤ idxF (fun x => decide (x = o)) l then (idxF (fun x => decide (x = o)) l, 0, l)
  else if l.length = 600 then (0, 15, l) else (l.length, 0, l ++ [o])

theorem idxF_neg {α : Type} {p : α → Bool} {l : List α} (h : ¬ 0 ≤ idxF p l) : l.any p = false := by rw [← idxF_any]; simpa using h
theorem putP_ok {l : List Ob} (h : PoolOk l) (o : Ob) : PoolOk (putP l o).2.2 := by
  unfold putP
  split
  · exact h
  split
  · exact h
  split
  · exact h
  split
  · exact h
  rename_i h1 h2 h3 h4
  refine .snoc h (by simpa using h1) (by simpa using h2) ?_ (by have := h.len; omega)
  have := idxF_neg h3
  rw [List.any_eq_false] at this
  intro hm
  simpa using this o hm

/-- the object of a number -/
def getP (l : List Ob) (id : Int) : Ob := if id < 0 then ob0 else (l[id.toNat]?).getD ob0
theorem getP_at {l : List Ob} {id : Int} (h : ¬ id < 0) (h2 : id.toNat < l.length) : getP l id = l[id.toNat] := by
  unfold getP; rw [if_neg h, List.getElem?_eq_getElem h2]; rfl
theorem getP_kind {l : List Ob} {id : Int} : (getP l id).kind = kindOf l id := by
  unfold getP kindOf
  split
  · rfl
  · cases l[id.toNat]? <;> rfl
theorem kindOf_pos {l : List Ob} {id : Int} (h : ¬ kindOf l id = 0) : ¬ id < 0 ∧ id.toNat < l.length := by
  by_cases h1 : id < 0
  · exact absurd (kindOf_neg h1).symm h
  · refine ⟨h1, ?_⟩
    by_cases h2 : (l.length : Int) ≤ id
    · exact absurd (kindOf_ge h2).symm h
    · omega
theorem PoolOk.get {l : List Ob} (h : PoolOk l) {id : Int} (h1 : ¬ kindOf l id = 0) : OkO (getP l id) := by
  obtain ⟨h2, h3⟩ := kindOf_pos h1
  rw [getP_at h2 h3]; exact h.mem _ (List.getElem_mem h3)
theorem PoolOk.kind0 {l : List Ob} (h : PoolOk l) {id : Int} (h1 : kindOf l id = 0) : getP l id = ob0 := by
  unfold getP
  split
  · rfl
  · cases h2 : l[id.toNat]? with
    | none => rfl
    | some o =>
      exfalso
      have := (h.mem o (List.mem_of_getElem? h2)).k1
      unfold kindOf at h1
      rw [if_neg ‹_›, h2] at h1
      simp at h1; omega

def nextP (l : List Ob) (id : Int) : List Int := ((getP l id).entries.filter fun e => decide (e.mode ≠ 3)).map (·.id) ++ ((if (getP l id).kind = 3 then [(getP l id).tree] else []) ++ (getP l id).parents)
theorem nextP_len {l : List Ob} (h : PoolOk l) (id : Int) : (nextP l id).length ≤ 64 := by
  unfold nextP
  by_cases h0 : kindOf l id = 0
  · rw [h.kind0 h0]; simp [ob0]
  · have := h.get h0
    have h1 := this.entries
    have h2 := this.parents
    have h3 := List.length_filter_le (fun e : Ent => decide (e.mode ≠ 3)) (getP l id).entries
    rw [List.length_append, List.length_append, List.length_map]
    split <;> simp <;> simp at h3 <;> omega
end Go.Nest
end
/- WALKS, 8: of pools: Get, Next, New. -/
section
namespace Go.Nest
open Go Go.AM Go.Proofs
open Go.Proofs.YtkoiljgjipmhbaaGreatDoor (tab tabOk)
set_option linter.unusedVariables false
set_option linter.unusedSimpArgs false
set_option maxRecDepth 4000
theorem new_spec : Does Tryz.prog 38 [] [] (Rt (.c (.ptr 0 0)) [.box [.rw 1], .row 6 Ob encOb []]) := by
  refine X_spec ⟨Tryz.prog, tab, 3, 0⟩ tabOk (by kernel_rfl) Tryz.call38 Tryz.func38 rfl rfl (by kernel_rfl) rfl ?_
  intro hb
  (conv => whnf)
  refine rt [] [.same 0, .new] (by repeat' first | exact trivial | exact rfl | refine And.intro ?_ ?_) rfl ⟨rfl, rfl⟩

theorem get_spec (l : List Ob) (hl : PoolOk l) (id : Int) : Does Tryz.prog 36 [.c (.bp [.bs 6 Ob encOb l]), .c (.int .i64 id)] [] (Rt (.tup [(true, encOb (getP l id)), (false, [.bool (decide (kindOf l id ≠ 0))])]) []) := by
  refine X_spec ⟨Tryz.prog, tab, 19, 0⟩ tabOk (by kernel_rfl) Tryz.call36 Tryz.func36 rfl rfl (by kernel_rfl) rfl ?_
  intro hb
  repeat' ((conv => whnf); first | (refine dec (fun h => ?_) (fun h => ?_) <;> try contradiction) | (refine decN (fun h => ?_) (fun h => ?_) <;> try contradiction) | refine booN (fun h => ?_) (fun h => ?_) | refine boo (fun h => ?_) (fun h => ?_) | refine ⟨i64 (by omega) (by omega), ?_⟩ | refine ⟨_, _, rfl, List.getElem?_eq_getElem (by omega), ?_⟩ | refine ⟨_, ⟨rfl, by omega⟩, ?_⟩ | refine ⟨_, List.getElem?_eq_getElem (by omega), ?_⟩ | refine rtB ?_ | refine rtI ?_ | refine rtC ?_ rfl | fail)
  (conv => whnf)
  refine cl [] [] (kind_spec l id) (by (repeat' first | exact trivial | exact rfl | refine And.intro ?_ ?_); first | done | fail) (by first | exact trivial | exact rfl) ?_
  repeat' ((conv => whnf); first | (refine dec (fun h => ?_) (fun h => ?_) <;> try contradiction) | (refine decN (fun h => ?_) (fun h => ?_) <;> try contradiction) | refine booN (fun h => ?_) (fun h => ?_) | refine boo (fun h => ?_) (fun h => ?_) | refine ⟨i64 (by omega) (by omega), ?_⟩ | refine ⟨_, _, rfl, List.getElem?_eq_getElem (by omega), ?_⟩ | refine ⟨_, ⟨rfl, by omega⟩, ?_⟩ | refine ⟨_, List.getElem?_eq_getElem (by omega), ?_⟩ | refine rtB ?_ | refine rtI ?_ | refine rtC ?_ rfl | fail)
  · rw [hl.kind0 h, h]
    (conv => whnf)
    refine rt [] [] (by repeat' first | exact trivial | exact rfl | refine And.intro ?_ ?_) rfl ⟨rfl, rfl⟩
  · obtain ⟨h1, h2⟩ := kindOf_pos h
    have hk := hl.get h
    rw [show decide (kindOf l id ≠ 0) = true from decide_eq_true h]
    rw [getP_at h1 h2] at hk ⊢
    (conv => whnf)
    refine ⟨id.toNat, l[id.toNat], by omega, List.getElem?_eq_getElem h2, ?_⟩
    repeat' ((conv => whnf); first | (refine dec (fun h => ?_) (fun h => ?_) <;> try contradiction) | (refine decN (fun h => ?_) (fun h => ?_) <;> try contradiction) | refine booN (fun h => ?_) (fun h => ?_) | refine boo (fun h => ?_) (fun h => ?_) | refine ⟨i64 (by omega) (by omega), ?_⟩ | refine ⟨_, _, rfl, List.getElem?_eq_getElem (by omega), ?_⟩ | refine ⟨_, ⟨rfl, by omega⟩, ?_⟩ | refine ⟨_, List.getElem?_eq_getElem (by omega), ?_⟩ | refine rtB ?_ | refine rtI ?_ | refine rtC ?_ rfl | fail)
    (conv => whnf)
    refine cl [] [] (own_spec l[id.toNat] (by have := hk.bytes; omega) (by have := hk.entries; omega) (by have := hk.parents; omega)) (by (repeat' first | exact trivial | exact rfl | refine And.intro ?_ ?_); first | done | fail) (by first | exact trivial | exact rfl) ?_
    (conv => whnf)
    refine rt [] [] (by repeat' first | exact trivial | exact rfl | refine And.intro ?_ ?_) rfl ⟨rfl, rfl⟩

theorem getR_spec (l : List Ob) (hl : PoolOk l) (id : Int) : Does Tryz.prog 124 [.c (.bp [.bs 6 Ob encOb l]), .c (.int .i64 id)] [] (Rt (.tup [(true, encOb (getP l id)), (false, [.bool (decide (kindOf l id ≠ 0))])]) []) := by
  refine X_spec ⟨Tryz.prog, tab, 18, 0⟩ tabOk (by kernel_rfl) Tryz.call124 Tryz.func124 rfl rfl (by kernel_rfl) rfl ?_
  intro hb
  repeat' ((conv => whnf); first | (refine dec (fun h => ?_) (fun h => ?_) <;> try contradiction) | (refine decN (fun h => ?_) (fun h => ?_) <;> try contradiction) | refine booN (fun h => ?_) (fun h => ?_) | refine boo (fun h => ?_) (fun h => ?_) | refine ⟨i64 (by omega) (by omega), ?_⟩ | refine ⟨_, _, rfl, List.getElem?_eq_getElem (by omega), ?_⟩ | refine ⟨_, ⟨rfl, by omega⟩, ?_⟩ | refine ⟨_, List.getElem?_eq_getElem (by omega), ?_⟩ | refine rtB ?_ | refine rtI ?_ | refine rtC ?_ rfl | fail)
  (conv => whnf)
  refine cl [] [] (kindR_spec l id) (by (repeat' first | exact trivial | exact rfl | refine And.intro ?_ ?_); first | done | fail) (by first | exact trivial | exact rfl) ?_
  repeat' ((conv => whnf); first | (refine dec (fun h => ?_) (fun h => ?_) <;> try contradiction) | (refine decN (fun h => ?_) (fun h => ?_) <;> try contradiction) | refine booN (fun h => ?_) (fun h => ?_) | refine boo (fun h => ?_) (fun h => ?_) | refine ⟨i64 (by omega) (by omega), ?_⟩ | refine ⟨_, _, rfl, List.getElem?_eq_getElem (by omega), ?_⟩ | refine ⟨_, ⟨rfl, by omega⟩, ?_⟩ | refine ⟨_, List.getElem?_eq_getElem (by omega), ?_⟩ | refine rtB ?_ | refine rtI ?_ | refine rtC ?_ rfl | fail)
  · rw [hl.kind0 h, h]
    (conv => whnf)
    refine rt [] [] (by repeat' first | exact trivial | exact rfl | refine And.intro ?_ ?_) rfl ⟨rfl, rfl⟩
  · obtain ⟨h1, h2⟩ := kindOf_pos h
    rw [show decide (kindOf l id ≠ 0) = true from decide_eq_true h]
    rw [getP_at h1 h2]
    (conv => whnf)
    refine ⟨id.toNat, l[id.toNat], by omega, List.getElem?_eq_getElem h2, ?_⟩
    (conv => whnf)
    refine rt [] [] (by repeat' first | exact trivial | exact rfl | refine And.intro ?_ ?_) rfl ⟨rfl, rfl⟩

theorem filt_step {es : List Ent} {i : Nat} (h : i < es.length) : ((es.take (i + 1)).filter fun e => decide (e.mode ≠ 3)).map (·.id) = ((es.take i).filter fun e => decide (e.mode ≠ 3)).map (·.id) ++ (if es[i].mode = 3 then [] else [es[i].id]) := by
  rw [List.take_succ_eq_append_getElem h, List.filter_append, List.map_append]
  congr 1
  by_cases h3 : es[i].mode = 3 <;> simp [h3]
theorem filt_len {es : List Ent} {i : Nat} (h : es.length ≤ 60) : (((es.take i).filter fun e => decide (e.mode ≠ 3)).map (·.id)).length ≤ 60 := by
  rw [List.length_map]
  refine Nat.le_trans (List.length_filter_le _ _) ?_
  rw [List.length_take]; omega

set_option maxHeartbeats 1000000 in
theorem nextR_spec (l : List Ob) (hl : PoolOk l) (id : Int) : Does Tryz.prog 95 [.c (.bp [.bs 6 Ob encOb l]), .c (.int .i64 id)] [] (Rt (.c (.rw 0)) [.row 1 Int encI (nextP l id)]) := by
  refine X_specM ⟨Tryz.prog, tab, 50, 0⟩ tabOk (by kernel_rfl) Tryz.call95 Tryz.func95 rfl rfl (by kernel_rfl) rfl ?_
  intro hb
  have hk : (getP l id).entries.length ≤ 60 ∧ (getP l id).parents.length ≤ 3 := by
    by_cases h0 : kindOf l id = 0
    · rw [hl.kind0 h0]; simp [ob0]
    · exact ⟨(hl.get h0).entries, (hl.get h0).parents⟩
  refine XM.seq ?_
  repeat' ((conv => whnf); first | (refine dec (fun h => ?_) (fun h => ?_) <;> try contradiction) | (refine decN (fun h => ?_) (fun h => ?_) <;> try contradiction) | refine booN (fun h => ?_) (fun h => ?_) | refine boo (fun h => ?_) (fun h => ?_) | refine ⟨i64 (by omega) (by omega), ?_⟩ | refine ⟨_, _, rfl, List.getElem?_eq_getElem (by omega), ?_⟩ | refine ⟨_, ⟨rfl, by omega⟩, ?_⟩ | refine ⟨_, List.getElem?_eq_getElem (by omega), ?_⟩ | refine rtB ?_ | refine rtI ?_ | refine rtC ?_ rfl | fail)
  refine XM.seq ?_
  repeat' ((conv => whnf); first | (refine dec (fun h => ?_) (fun h => ?_) <;> try contradiction) | (refine decN (fun h => ?_) (fun h => ?_) <;> try contradiction) | refine booN (fun h => ?_) (fun h => ?_) | refine boo (fun h => ?_) (fun h => ?_) | refine ⟨i64 (by omega) (by omega), ?_⟩ | refine ⟨_, _, rfl, List.getElem?_eq_getElem (by omega), ?_⟩ | refine ⟨_, ⟨rfl, by omega⟩, ?_⟩ | refine ⟨_, List.getElem?_eq_getElem (by omega), ?_⟩ | refine rtB ?_ | refine rtI ?_ | refine rtC ?_ rfl | fail)
  (conv => whnf)
  refine cl [] [] (getR_spec l hl id) (by (repeat' first | exact trivial | exact rfl | refine And.intro ?_ ?_); first | done | fail) (by first | exact trivial | exact rfl) ?_
  repeat' ((conv => whnf); first | (refine dec (fun h => ?_) (fun h => ?_) <;> try contradiction) | (refine decN (fun h => ?_) (fun h => ?_) <;> try contradiction) | refine booN (fun h => ?_) (fun h => ?_) | refine boo (fun h => ?_) (fun h => ?_) | refine ⟨i64 (by omega) (by omega), ?_⟩ | refine ⟨_, _, rfl, List.getElem?_eq_getElem (by omega), ?_⟩ | refine ⟨_, ⟨rfl, by omega⟩, ?_⟩ | refine ⟨_, List.getElem?_eq_getElem (by omega), ?_⟩ | refine rtB ?_ | refine rtI ?_ | refine rtC ?_ rfl | fail)
  refine XM.seq ?_
  repeat' ((conv => whnf); first | (refine dec (fun h => ?_) (fun h => ?_) <;> try contradiction) | (refine decN (fun h => ?_) (fun h => ?_) <;> try contradiction) | refine booN (fun h => ?_) (fun h => ?_) | refine boo (fun h => ?_) (fun h => ?_) | refine ⟨i64 (by omega) (by omega), ?_⟩ | refine ⟨_, _, rfl, List.getElem?_eq_getElem (by omega), ?_⟩ | refine ⟨_, ⟨rfl, by omega⟩, ?_⟩ | refine ⟨_, List.getElem?_eq_getElem (by omega), ?_⟩ | refine rtB ?_ | refine rtI ?_ | refine rtC ?_ rfl | fail)
  refine XM.join (ι := Unit) (fun _ => ⟨[(5, .c (.ptr 0 0)), (7, .c (.rw 1))], [.box (encOb (getP l id)), .row 1 Int encI (((getP l id).entries.filter fun e => decide (e.mode ≠ 3)).map (·.id))]⟩) (fun _ => True) ?_ (fun _ _ => ?_)
  · (conv => whnf)
    refine lp Nat (fun i => ⟨[(5, .c (.ptr 0 0)), (7, .c (.rw 1)), (8, .c (.int .i64 i))],
      [.box (encOb (getP l id)), .row 1 Int encI ((((getP l id).entries.take i).filter fun e => decide (e.mode ≠ 3)).map (·.id))]⟩) (fun i => i ≤ (getP l id).entries.length ∧ True) (fun i => (getP l id).entries.length - i) 0 [] [.same 0, .new] ?_ ?_ (fun i hi => ?_)
    · exact ⟨Nat.zero_le _, trivial⟩
    · repeat' first | exact trivial | exact rfl | refine And.intro ?_ ?_
    (conv => whnf)
    refine dec (fun h4 => ?_) (fun h4 => ?_)
    · have hlt : i < (getP l id).entries.length := by omega
      have hs := filt_step hlt
      have hle := filt_len (i := i) hk.1
      repeat' ((conv => whnf); first | (refine dec (fun h => ?_) (fun h => ?_) <;> try contradiction) | (refine decN (fun h => ?_) (fun h => ?_) <;> try contradiction) | refine booN (fun h => ?_) (fun h => ?_) | refine boo (fun h => ?_) (fun h => ?_) | refine ⟨i64 (by omega) (by omega), ?_⟩ | refine ⟨_, _, rfl, List.getElem?_eq_getElem (by omega), ?_⟩ | refine ⟨_, ⟨rfl, by omega⟩, ?_⟩ | refine ⟨_, List.getElem?_eq_getElem (by omega), ?_⟩ | refine rtB ?_ | refine rtI ?_ | refine rtC ?_ rfl | fail)
      · rw [if_neg h] at hs
        (conv => whnf)
        refine ⟨[(getP l id).entries[i].id], rfl, ?_⟩
        (conv => whnf)
        refine ⟨_, _, rfl, rfl, (by simp only [List.length_append, List.length_cons, List.length_nil]; omega), ?_⟩
        repeat' ((conv => whnf); first | (refine dec (fun h => ?_) (fun h => ?_) <;> try contradiction) | (refine decN (fun h => ?_) (fun h => ?_) <;> try contradiction) | refine booN (fun h => ?_) (fun h => ?_) | refine boo (fun h => ?_) (fun h => ?_) | refine ⟨i64 (by omega) (by omega), ?_⟩ | refine ⟨_, _, rfl, List.getElem?_eq_getElem (by omega), ?_⟩ | refine ⟨_, ⟨rfl, by omega⟩, ?_⟩ | refine ⟨_, List.getElem?_eq_getElem (by omega), ?_⟩ | refine rtB ?_ | refine rtI ?_ | refine rtC ?_ rfl | fail)
        refine ag (i + 1) [] [.same 0, .same 3] ⟨hlt, trivial⟩ (by simp only []; omega) ?_
        repeat' first | exact trivial | exact rfl | refine And.intro ?_ ?_
        rw [hs]; exact rfl
      · rw [if_pos h, List.append_nil] at hs
        refine ag (i + 1) [] [.same 0, .same 1] ⟨hlt, trivial⟩ (by simp only []; omega) ?_
        repeat' first | exact trivial | exact rfl | refine And.intro ?_ ?_
        rw [hs]; exact rfl
    · have : (getP l id).entries.take i = (getP l id).entries := List.take_of_length_le (by omega)
      rw [this]
      (conv => whnf)
      refine ⟨(), trivial, [], [.same 0, .same 1], ?_⟩
      repeat' first | exact trivial | exact rfl | refine And.intro ?_ ?_
  have hle := filt_len (i := (getP l id).entries.length) hk.1
  rw [List.take_length] at hle
  have hp := hk.2
  refine XM.of ?_
  repeat' ((conv => whnf); first | (refine dec (fun h => ?_) (fun h => ?_) <;> try contradiction) | (refine decN (fun h => ?_) (fun h => ?_) <;> try contradiction) | refine booN (fun h => ?_) (fun h => ?_) | refine boo (fun h => ?_) (fun h => ?_) | refine ⟨i64 (by omega) (by omega), ?_⟩ | refine ⟨_, _, rfl, List.getElem?_eq_getElem (by omega), ?_⟩ | refine ⟨_, ⟨rfl, by omega⟩, ?_⟩ | refine ⟨_, List.getElem?_eq_getElem (by omega), ?_⟩ | refine rtB ?_ | refine rtI ?_ | refine rtC ?_ rfl | fail)
  · (conv => whnf)
    refine ⟨true, (.alt [0, 1, 5] [2, 6] fun j => bif Nat.beq j 2 then (.alt [] [3, 6] fun j => bif Nat.beq j 3 then (.alt [] [4, 6] fun j => bif Nat.beq j 4 then (.l [6, 7, 8]) else bif Nat.beq j 6 then (.l [4, 7, 8]) else .l []) else bif Nat.beq j 6 then (.l [3, 4, 7, 8]) else .l []) else bif Nat.beq j 6 then (.l [2, 3, 4, 7, 8]) else .l []), by kernel_rfl, .inl ?_⟩
    rw [show nextP l id = _ from (List.append_assoc _ _ _).symm, if_pos ‹(getP l id).kind = 3›]
    repeat' ((conv => whnf); first | refine And.intro ?_ ?_ | refine ⟨[_], rfl, ?_⟩ | refine ⟨_, _, rfl, rfl, (by simp only [List.length_append, List.length_cons, List.length_nil]; omega), ?_⟩ | fail)
    all_goals
      refine rt [] [.same 4] (by repeat' first | exact trivial | exact rfl | refine And.intro ?_ ?_) rfl ⟨rfl, rfl⟩
  · rename_i hk3
    have hnc : (getP l id).parents = [] := by
      by_cases h0 : kindOf l id = 0
      · rw [hl.kind0 h0]; rfl
      · exact ((hl.get h0).nc (by assumption)).2.1
    rw [show nextP l id = ((getP l id).entries.filter fun e => decide (e.mode ≠ 3)).map (·.id) by unfold nextP; rw [hnc, if_neg (by assumption), List.append_nil, List.append_nil]]
    (conv => whnf)
    refine rt [] [.same 1] (by repeat' first | exact trivial | exact rfl | refine And.intro ?_ ?_) rfl ⟨rfl, rfl⟩
end Go.Nest
end
