/- WALKS, F2: what is not the same in two lists of files. -/
import Derived.Test.YtkoiljgjipmhbaaDoorF1
section
namespace Go.Nest
open Go Go.AM Go.Proofs
open Go.Proofs.YtkoiljgjipmhbaaDoor (tab tabOk)
set_option linter.unusedVariables false
set_option linter.unusedSimpArgs false
set_option maxRecDepth 4000

theorem diffP_len : ∀ (a b : List Fi), (diffP a b).length ≤ a.length + b.length
  | [], [] => by unfold diffP; simp
  | a :: ar, [] => by unfold diffP; have := diffP_len ar []; simp at this ⊢; omega
  | [], b :: bs => by unfold diffP; have := diffP_len [] bs; simp at this ⊢; omega
  | a :: ar, b :: bs => by
    unfold diffP
    have h1 := diffP_len ar (b :: bs)
    have h2 := diffP_len (a :: ar) bs
    have h3 := diffP_len ar bs
    split
    · simp at h1 ⊢; omega
    split
    · simp at h2 ⊢; omega
    split <;> simp at h3 ⊢ <;> omega
termination_by a b => a.length + b.length

set_option maxHeartbeats 2000000 in
theorem diff_spec (a b : List Fi) (hla : a.length ≤ 150) (hlb : b.length ≤ 150) (ha : ∀ f ∈ a, f.path.length ≤ 4000000) (hb' : ∀ f ∈ b, f.path.length ≤ 4000000) : Does Tryd.prog 9 [.c (.bs 4 Fi encFi a), .c (.bs 4 Fi encFi b)] [] (Rt (.c (.rw 0)) [.row 9 Ch encCh (diffP a b)]) := by
  refine X_spec ⟨Tryd.prog, tab, 101, 0⟩ tabOk (by kernel_rfl) Tryd.call9 Tryd.func9 rfl rfl (by kernel_rfl) rfl ?_
  intro hb
  (conv => whnf)
  refine lp (List Fi × List Fi × List Ch) (fun x => ⟨[(0, .c (.bs 4 Fi encFi x.1)), (1, .c (.bs 4 Fi encFi x.2.1)), (5, .c (.rw 0))], [.row 9 Ch encCh x.2.2]⟩) (fun x => (x.1.length ≤ 150 ∧ x.2.1.length ≤ 150 ∧ x.2.2.length + x.1.length + x.2.1.length ≤ 300) ∧ ((∀ f ∈ x.1, f.path.length ≤ 4000000) ∧ ∀ f ∈ x.2.1, f.path.length ≤ 4000000) ∧ x.2.2 ++ diffP x.1 x.2.1 = diffP a b) (fun x => x.1.length + x.2.1.length) (a, b, []) [] [.new] ?_ ?_ (fun x hx => ?_)
  · exact ⟨⟨hla, hlb, by simp; omega⟩, ⟨ha, hb'⟩, rfl⟩
  · repeat' first | exact trivial | exact rfl | refine And.intro ?_ ?_
  obtain ⟨p, q, out⟩ := x
  obtain ⟨⟨h1, h2, h3⟩, ⟨h4, h5⟩, h6⟩ := hx
  dsimp only at h1 h2 h3 h4 h5 h6
  have cp : ∀ (h : 0 < p.length), p = p[0] :: p.drop 1 := fun h => by cases p with | nil => cases h | cons _ _ => rfl
  have cq : ∀ (h : 0 < q.length), q = q[0] :: q.drop 1 := fun h => by cases q with | nil => cases h | cons _ _ => rfl
  have nilOf : ∀ {l : List Fi}, ¬ 0 < l.length → l = [] := fun h => List.eq_nil_of_length_eq_zero (by omega)
  have tp : ((p, q, out).1.drop 1).take (p.length - 1) = p.drop 1 := List.take_of_length_le (by simp)
  have tq : ((p, q, out).2.1.drop 1).take (q.length - 1) = q.drop 1 := List.take_of_length_le (by simp)
  have dp : ∀ f ∈ p.drop 1, f.path.length ≤ 4000000 := fun f hf => h4 f (List.mem_of_mem_drop hf)
  have dq : ∀ f ∈ q.drop 1, f.path.length ≤ 4000000 := fun f hf => h5 f (List.mem_of_mem_drop hf)
  (conv => whnf)
  refine dec (fun hp => ?_) (fun hp => ?_)
  · have hp : 0 < p.length := by simpa using hp
    (conv => whnf)
    refine ⟨false, (.l [0, 1, 2, 3, 4, 5, 6, 7, 8, 9, 10, 11, 12, 13, 14, 15, 16, 17, 18, 19]), by kernel_rfl, .inl ?_⟩
    (conv => whnf)
    refine dec (fun hq => ?_) (fun hq => ?_)
    · have hq : ¬ 0 < q.length := by simp at hq; simp [hq]
      have e : out ++ diffP p q = (out ++ [⟨p[0].path, p[0], fi0⟩]) ++ diffP (p.drop 1) q := by
        rw [nilOf hq]; conv => lhs; rw [cp hp]
        rw [diffP]; simp
      (conv => whnf)
      refine ⟨false, (.l [0, 1, 2, 3, 4, 5, 6, 7, 8, 9, 10, 11]), by kernel_rfl, .inl ?_⟩
      (conv => whnf)
      refine ⟨0, p[0], rfl, List.getElem?_eq_getElem hp, ?_⟩
      (conv => whnf)
      refine ⟨0, p[0], rfl, List.getElem?_eq_getElem hp, ?_⟩
      (conv => whnf)
      refine ⟨[⟨p[0].path, p[0], fi0⟩], rfl, ?_⟩
      (conv => whnf)
      refine ⟨_, _, rfl, rfl, (by simp only [List.length_append, List.length_cons, List.length_nil]; omega), ?_⟩
      (conv => whnf)
      refine ⟨1, p.length, rfl, rfl, ⟨hp, Nat.le_refl _⟩, ?_⟩
      (conv => whnf)
      rw [tp]
      refine ag (p.drop 1, q, out ++ [⟨p[0].path, p[0], fi0⟩]) [] [.same 2] ⟨⟨by rw [List.length_drop]; omega, h2, by rw [List.length_append, List.length_drop]; simp; omega⟩, ⟨dp, h5⟩, by rw [← e]; exact h6⟩ (by simp; omega) ?_
      repeat' first | exact trivial | exact rfl | refine And.intro ?_ ?_
    · have hq : 0 < q.length := by simp at hq; exact List.length_pos_iff.2 hq
      (conv => whnf)
      refine dec (fun _ => ?_) (fun h0 => absurd (by simpa using hp) h0)
      (conv => whnf)
      refine ⟨0, p[0], rfl, List.getElem?_eq_getElem hp, ?_⟩
      (conv => whnf)
      refine ⟨0, q[0], rfl, List.getElem?_eq_getElem hq, ?_⟩
      (conv => whnf)
      refine cl [] [] (less_spec p[0].path q[0].path (h4 _ (List.getElem_mem _)) (h5 _ (List.getElem_mem _))) (by (repeat' first | exact trivial | exact rfl | refine And.intro ?_ ?_); first | done | fail) (by first | exact trivial | exact rfl) ?_
      (conv => whnf)
      refine boo (fun hl => ?_) (fun hl => ?_)
      · have e : out ++ diffP p q = (out ++ [⟨p[0].path, p[0], fi0⟩]) ++ diffP (p.drop 1) q := by
          conv => lhs; rw [cp hp, cq hq]
          rw [diffP, if_pos hl, ← cq hq]; simp
        (conv => whnf)
        refine ⟨false, (.l [0, 1, 2, 3, 4, 5, 6, 7, 8, 9, 10, 11]), by kernel_rfl, .inl ?_⟩
        (conv => whnf)
        refine ⟨0, p[0], rfl, List.getElem?_eq_getElem hp, ?_⟩
        (conv => whnf)
        refine ⟨0, p[0], rfl, List.getElem?_eq_getElem hp, ?_⟩
        (conv => whnf)
        refine ⟨[⟨p[0].path, p[0], fi0⟩], rfl, ?_⟩
        (conv => whnf)
        refine ⟨_, _, rfl, rfl, (by simp only [List.length_append, List.length_cons, List.length_nil]; omega), ?_⟩
        (conv => whnf)
        refine ⟨1, p.length, rfl, rfl, ⟨hp, Nat.le_refl _⟩, ?_⟩
        (conv => whnf)
        rw [tp]
        refine ag (p.drop 1, q, out ++ [⟨p[0].path, p[0], fi0⟩]) [] [.same 2] ⟨⟨by rw [List.length_drop]; omega, h2, by rw [List.length_append, List.length_drop]; simp; omega⟩, ⟨dp, h5⟩, by rw [← e]; exact h6⟩ (by simp; omega) ?_
        repeat' first | exact trivial | exact rfl | refine And.intro ?_ ?_
      · (conv => whnf)
        refine ⟨false, (.l [0, 1, 2, 3, 4, 5, 6, 7, 8, 9, 10, 11, 12, 13, 14]), by kernel_rfl, .inl ?_⟩
        (conv => whnf)
        refine dec (fun h0 => absurd h0 (by simp; exact List.length_pos_iff.1 hp)) (fun _ => ?_)
        (conv => whnf)
        refine ⟨0, q[0], rfl, List.getElem?_eq_getElem hq, ?_⟩
        (conv => whnf)
        refine ⟨0, p[0], rfl, List.getElem?_eq_getElem hp, ?_⟩
        (conv => whnf)
        refine cl [] [] (less_spec q[0].path p[0].path (h5 _ (List.getElem_mem _)) (h4 _ (List.getElem_mem _))) (by (repeat' first | exact trivial | exact rfl | refine And.intro ?_ ?_); first | done | fail) (by first | exact trivial | exact rfl) ?_
        (conv => whnf)
        refine boo (fun hg => ?_) (fun hg => ?_)
        · have e : out ++ diffP p q = (out ++ [⟨q[0].path, fi0, q[0]⟩]) ++ diffP p (q.drop 1) := by
            conv => lhs; rw [cp hp, cq hq]
            rw [diffP, if_neg (by simp [hl]), if_pos hg, ← cp hp]; simp
          (conv => whnf)
          refine ⟨false, (.l [0, 1, 2, 3, 4, 5, 6, 7, 8, 9, 10, 11]), by kernel_rfl, .inl ?_⟩
          (conv => whnf)
          refine ⟨0, q[0], rfl, List.getElem?_eq_getElem hq, ?_⟩
          (conv => whnf)
          refine ⟨0, q[0], rfl, List.getElem?_eq_getElem hq, ?_⟩
          (conv => whnf)
          refine ⟨[⟨q[0].path, fi0, q[0]⟩], rfl, ?_⟩
          (conv => whnf)
          refine ⟨_, _, rfl, rfl, (by simp only [List.length_append, List.length_cons, List.length_nil]; omega), ?_⟩
          (conv => whnf)
          refine ⟨1, q.length, rfl, rfl, ⟨hq, Nat.le_refl _⟩, ?_⟩
          (conv => whnf)
          rw [tq]
          refine ag (p, q.drop 1, out ++ [⟨q[0].path, fi0, q[0]⟩]) [] [.same 2] ⟨⟨h1, by rw [List.length_drop]; omega, by rw [List.length_append, List.length_drop]; simp; omega⟩, ⟨h4, dq⟩, by rw [← e]; exact h6⟩ (by simp; omega) ?_
          repeat' first | exact trivial | exact rfl | refine And.intro ?_ ?_
        · (conv => whnf)
          refine ⟨false, (.l [0, 1, 2, 3, 4, 5, 6]), by kernel_rfl, .inl ?_⟩
          (conv => whnf)
          refine ⟨0, p[0], rfl, List.getElem?_eq_getElem hp, ?_⟩
          (conv => whnf)
          refine ⟨0, q[0], rfl, List.getElem?_eq_getElem hq, ?_⟩
          (conv => whnf)
          have e0 : out ++ diffP p q = out ++ (if p[0] ≠ q[0] then ⟨p[0].path, p[0], q[0]⟩ :: diffP (p.drop 1) (q.drop 1) else diffP (p.drop 1) (q.drop 1)) := by
            conv => lhs; rw [cp hp, cq hq]
            rw [diffP, if_neg (by simp [hl]), if_neg (by simp [hg])]
          refine decN (fun hd => ?_) (fun hd => ?_)
          · rw [if_pos (fun h => hd (eqFi.2 h))] at e0
            have e : out ++ diffP p q = (out ++ [⟨p[0].path, p[0], q[0]⟩]) ++ diffP (p.drop 1) (q.drop 1) := by rw [e0]; simp
            (conv => whnf)
            refine ⟨false, (.l [0, 1, 2, 3, 4, 5, 6, 7, 8, 9, 10, 11, 12, 13, 14]), by kernel_rfl, .inl ?_⟩
            (conv => whnf)
            refine ⟨0, p[0], rfl, List.getElem?_eq_getElem hp, ?_⟩
            (conv => whnf)
            refine ⟨0, p[0], rfl, List.getElem?_eq_getElem hp, ?_⟩
            (conv => whnf)
            refine ⟨0, q[0], rfl, List.getElem?_eq_getElem hq, ?_⟩
            (conv => whnf)
            refine ⟨[⟨p[0].path, p[0], q[0]⟩], rfl, ?_⟩
            (conv => whnf)
            refine ⟨_, _, rfl, rfl, (by simp only [List.length_append, List.length_cons, List.length_nil]; omega), ?_⟩
            (conv => whnf)
            refine ⟨false, (.l [0, 1, 2, 3, 4, 5]), by kernel_rfl, .inl ?_⟩
            (conv => whnf)
            refine ⟨1, p.length, rfl, rfl, ⟨hp, Nat.le_refl _⟩, ?_⟩
            (conv => whnf)
            refine ⟨1, q.length, rfl, rfl, ⟨hq, Nat.le_refl _⟩, ?_⟩
            (conv => whnf)
            rw [tp, tq]
            refine ag (p.drop 1, q.drop 1, out ++ [⟨p[0].path, p[0], q[0]⟩]) [] [.same 2] ⟨⟨by rw [List.length_drop]; omega, by rw [List.length_drop]; omega, by rw [List.length_append, List.length_drop, List.length_drop]; simp; omega⟩, ⟨dp, dq⟩, by rw [← e]; exact h6⟩ (by simp; omega) ?_
            repeat' first | exact trivial | exact rfl | refine And.intro ?_ ?_
          · rw [if_neg (fun h => h (eqFi.1 hd))] at e0
            (conv => whnf)
            refine ⟨false, (.l [0, 1, 2, 3, 4, 5]), by kernel_rfl, .inl ?_⟩
            (conv => whnf)
            refine ⟨1, p.length, rfl, rfl, ⟨hp, Nat.le_refl _⟩, ?_⟩
            (conv => whnf)
            refine ⟨1, q.length, rfl, rfl, ⟨hq, Nat.le_refl _⟩, ?_⟩
            (conv => whnf)
            rw [tp, tq]
            refine ag (p.drop 1, q.drop 1, out) [] [.same 0] ⟨⟨by rw [List.length_drop]; omega, by rw [List.length_drop]; omega, by simp only [List.length_drop]; omega⟩, ⟨dp, dq⟩, by rw [← e0]; exact h6⟩ (by simp; omega) ?_
            repeat' first | exact trivial | exact rfl | refine And.intro ?_ ?_
  · have hp : ¬ 0 < p.length := by simp at hp; simp [hp]
    (conv => whnf)
    refine dec (fun hq => ?_) (fun hq => ?_)
    · have hq : 0 < q.length := by simpa using hq
      have e : out ++ diffP p q = (out ++ [⟨q[0].path, fi0, q[0]⟩]) ++ diffP p (q.drop 1) := by
        rw [nilOf hp]; conv => lhs; rw [cq hq]
        rw [diffP]; simp
      (conv => whnf)
      refine ⟨false, (.l [0, 1, 2, 3, 4, 5, 6, 7, 8, 9, 10, 11, 12, 13, 14, 15, 16, 17, 18, 19]), by kernel_rfl, .inl ?_⟩
      (conv => whnf)
      refine dec (fun h0 => absurd h0 (by simp; exact List.length_pos_iff.1 hq)) (fun _ => ?_)
      (conv => whnf)
      refine dec (fun h0 => absurd (by simpa using h0) hp) (fun _ => ?_)
      (conv => whnf)
      refine ⟨false, (.l [0, 1, 2, 3, 4, 5, 6, 7, 8, 9, 10, 11, 12, 13, 14]), by kernel_rfl, .inl ?_⟩
      (conv => whnf)
      refine dec (fun _ => ?_) (fun h0 => absurd (by simp; exact nilOf hp) h0)
      (conv => whnf)
      refine ⟨false, (.l [0, 1, 2, 3, 4, 5, 6, 7, 8, 9, 10, 11]), by kernel_rfl, .inl ?_⟩
      (conv => whnf)
      refine ⟨0, q[0], rfl, List.getElem?_eq_getElem hq, ?_⟩
      (conv => whnf)
      refine ⟨0, q[0], rfl, List.getElem?_eq_getElem hq, ?_⟩
      (conv => whnf)
      refine ⟨[⟨q[0].path, fi0, q[0]⟩], rfl, ?_⟩
      (conv => whnf)
      refine ⟨_, _, rfl, rfl, (by simp only [List.length_append, List.length_cons, List.length_nil]; omega), ?_⟩
      (conv => whnf)
      refine ⟨1, q.length, rfl, rfl, ⟨hq, Nat.le_refl _⟩, ?_⟩
      (conv => whnf)
      rw [tq]
      refine ag (p, q.drop 1, out ++ [⟨q[0].path, fi0, q[0]⟩]) [] [.same 2] ⟨⟨h1, by rw [List.length_drop]; omega, by rw [List.length_append, List.length_drop]; simp; omega⟩, ⟨h4, dq⟩, by rw [← e]; exact h6⟩ (by simp; omega) ?_
      repeat' first | exact trivial | exact rfl | refine And.intro ?_ ?_
    · have hq : ¬ 0 < q.length := by simp at hq; simp [hq]
      rw [nilOf hp, nilOf hq] at h6
      rw [show diffP [] [] = [] by unfold diffP; rfl, List.append_nil] at h6
      (conv => whnf)
      rw [← h6]
      refine rt [] [.same 0] (by repeat' first | exact trivial | exact rfl | refine And.intro ?_ ?_) rfl ⟨rfl, rfl⟩
end Go.Nest
end
/- WALKS, F3: files in order, all paths, all changes. -/
section
namespace Go.Nest
open Go Go.AM Go.Proofs
open Go.Proofs.YtkoiljgjipmhbaaDoor (tab tabOk)
set_option linter.unusedVariables false
set_option linter.unusedSimpArgs false
set_option maxRecDepth 4000

theorem tw_at {α : Type} {p : α → Bool} : ∀ {l : List α} {k : Nat}, k ≤ l.length → (∀ g ∈ l.take k, p g = true) → (∀ h : k < l.length, p l[k] = false) → l.takeWhile p = l.take k ∧ l.dropWhile p = l.drop k
  | [], 0, _, _, _ => ⟨rfl, rfl⟩
  | x :: l, 0, _, _, h => by have := h (by simp); simp at this; simp [this]
  | x :: l, k + 1, hk, h1, h2 => by
    have hx := h1 x (by simp)
    obtain ⟨h3, h4⟩ := tw_at (l := l) (k := k) (by simpa using hk) (fun g hg => h1 g (by simp [hg])) (fun h => h2 (by simpa using h))
    simp [hx, h3, h4]
  | [], k + 1, h, _, _ => by simp at h
theorem ins_at {f : Fi} {out : List Fi} {k : Nat} (hk : k ≤ out.length) (h1 : ∀ g ∈ out.take k, lessP f.path g.path = false) (h2 : ∀ h : k < out.length, lessP f.path out[k].path = true) : insF f out = out.take k ++ f :: out.drop k := by
  obtain ⟨h3, h4⟩ := tw_at (p := fun g : Fi => !lessP f.path g.path) hk (fun g hg => by simp [h1 g hg]) (fun h => by simp [h2 h])
  unfold insF
  rw [h3, h4]
def ordU (l : List Fi) (i : Nat) : List Fi := inOrdP (l.take i)
theorem ordU_succ {l : List Fi} {i : Nat} (h : i < l.length) : ordU l (i + 1) = insF l[i] (ordU l i) := by
  unfold ordU inOrdP
  rw [List.take_succ_eq_append_getElem h, List.foldl_append]; rfl
theorem ordU_len {l : List Fi} {i : Nat} (h : i ≤ l.length) : (ordU l i).length = i := by
  unfold ordU
  rw [(inOrd_perm _).length_eq, List.length_take]; omega
theorem ordU_mem {l : List Fi} {i : Nat} {f : Fi} (h : f ∈ ordU l i) : f ∈ l := List.mem_of_mem_take ((inOrd_perm _).mem_iff.1 h)

set_option maxHeartbeats 2000000 in
theorem inOrder_spec (l : List Fi) (hl : l.length ≤ 1000) (hp : ∀ f ∈ l, f.path.length ≤ 4000000) : Does Tryd.prog 13 [.c (.bs 4 Fi encFi l)] [] (Rt (.c (.rw 0)) [.row 4 Fi encFi (inOrdP l)]) := by
  refine X_spec ⟨Tryd.prog, tab, 50, 0⟩ tabOk (by kernel_rfl) Tryd.call13 Tryd.func13 rfl rfl (by kernel_rfl) rfl ?_
  intro hb
  (conv => whnf)
  refine lp Nat (fun i => ⟨[(0, .c (.bs 4 Fi encFi l)), (3, .c (.rw 0)), (4, .c (.int .i64 i))], [.row 4 Fi encFi (ordU l i)]⟩) (fun i => i ≤ l.length ∧ True) (fun i => l.length - i) 0 [] [.new] ?_ ?_ (fun i hi => ?_)
  · simp
  · repeat' first | exact trivial | exact rfl | refine And.intro ?_ ?_
  have hol := ordU_len hi.1
  (conv => whnf)
  refine dec (fun h4 => ?_) (fun h4 => ?_)
  · have hlt : i < l.length := by omega
    have hfp := hp _ (List.getElem_mem hlt)
    (conv => whnf)
    refine lp Nat (fun k => ⟨[(0, .c (.bs 4 Fi encFi l)), (3, .c (.rw 0)), (4, .c (.int .i64 i)), (5, .c (.int .i64 k))], [.row 4 Fi encFi (ordU l i)]⟩) (fun k => (k ≤ (ordU l i).length ∧ True) ∧ ∀ g ∈ (ordU l i).take k, lessP l[i].path g.path = false) (fun k => (ordU l i).length - k) 0 [] [.same 0] ?_ ?_ (fun k hk => ?_)
    · simp
    · repeat' first | exact trivial | exact rfl | refine And.intro ?_ ?_
    have fin : (∀ h : k < (ordU l i).length, lessP l[i].path (ordU l i)[k].path = true) → insF l[i] (ordU l i) = (ordU l i).take k ++ l[i] :: (ordU l i).drop k := fun h => ins_at hk.1.1 hk.2 h
    (conv => whnf)
    refine ⟨false, (.l [0, 1, 2, 3, 4, 5, 6, 7, 8, 9, 10, 11, 12, 13, 14, 15, 16, 17]), by kernel_rfl, .inl ?_⟩
    (conv => whnf)
    refine dec (fun h5 => ?_) (fun h5 => ?_)
    · have hkl : k < (ordU l i).length := by omega
      (conv => whnf)
      refine ⟨i, l[i], rfl, List.getElem?_eq_getElem hlt, ?_⟩
      (conv => whnf)
      refine ⟨k, ⟨rfl, hkl⟩, ?_⟩
      (conv => whnf)
      refine ⟨(ordU l i)[k], List.getElem?_eq_getElem hkl, ?_⟩
      (conv => whnf)
      refine cl [] [] (ahead_spec l[i].path (ordU l i)[k].path hfp (hp _ (ordU_mem (List.getElem_mem hkl)))) (by (repeat' first | exact trivial | exact rfl | refine And.intro ?_ ?_); first | done | fail) (by first | exact trivial | exact rfl) ?_
      (conv => whnf)
      refine booN (fun h6 => ?_) (fun h6 => ?_)
      · repeat' ((conv => whnf); first | (refine dec (fun h => ?_) (fun h => ?_) <;> try contradiction) | (refine decN (fun h => ?_) (fun h => ?_) <;> try contradiction) | refine booN (fun h => ?_) (fun h => ?_) | refine boo (fun h => ?_) (fun h => ?_) | refine ⟨i64 (by omega) (by omega), ?_⟩ | refine ⟨_, _, rfl, List.getElem?_eq_getElem (by omega), ?_⟩ | refine ⟨_, ⟨rfl, by omega⟩, ?_⟩ | refine ⟨_, List.getElem?_eq_getElem (by omega), ?_⟩ | refine rtB ?_ | refine rtI ?_ | refine rtC ?_ rfl | fail)
        refine ag (k + 1) [] [.same 0] ⟨⟨hkl, trivial⟩, fun g hg => ?_⟩ (by simp only []; omega) ?_
        · rw [List.take_succ_eq_append_getElem hkl, List.mem_append, List.mem_singleton] at hg
          rcases hg with hg | rfl
          · exact hk.2 g hg
          · exact h6
        · repeat' first | exact trivial | exact rfl | refine And.intro ?_ ?_
      · have fin := fin (fun _ => h6)
        rw [← ordU_succ hlt] at fin
        have e : ordU l (i + 1) = (([] ++ ((ordU l i).drop 0).take (k - 0)) ++ [l[i]]) ++ ((ordU l i).drop k).take ((ordU l i).length - k) := by
          rw [fin, List.take_of_length_le (l := List.drop k (ordU l i)) (by rw [List.length_drop]; exact Nat.le_refl _)]
          simp
        (conv => whnf)
        refine ⟨false, (.alt [0, 1, 2, 3, 5, 6, 7, 8] [4, 9] fun j => bif Nat.beq j 4 then (.l [9, 10, 11]) else bif Nat.beq j 9 then (.l [4, 10, 11]) else .l []), by kernel_rfl, .inl ?_⟩
        (conv => whnf)
        refine ⟨0, k, rfl, rfl, ⟨Nat.zero_le _, hk.1.1⟩, ?_⟩
        (conv => whnf)
        refine ⟨i, l[i], rfl, List.getElem?_eq_getElem hlt, ?_⟩
        (conv => whnf)
        refine And.intro ?_ ?_
        · (conv => whnf)
          refine ⟨[], _, rfl, rfl, (by simp only [List.length_take, List.length_drop, List.length_nil]; omega), ?_⟩
          (conv => whnf)
          refine ⟨[l[i]], rfl, ?_⟩
          (conv => whnf)
          refine ⟨_, _, rfl, rfl, (by simp only [List.length_take, List.length_drop, List.length_append, List.length_cons, List.length_nil]; omega), ?_⟩
          (conv => whnf)
          refine ⟨k, (ordU l i).length, rfl, rfl, ⟨hk.1.1, Nat.le_refl _⟩, ?_⟩
          (conv => whnf)
          refine ⟨_, _, rfl, rfl, (by simp only [List.length_take, List.length_drop, List.length_append, List.length_cons, List.length_nil]; omega), ?_⟩
          repeat' ((conv => whnf); first | (refine dec (fun h => ?_) (fun h => ?_) <;> try contradiction) | (refine decN (fun h => ?_) (fun h => ?_) <;> try contradiction) | refine booN (fun h => ?_) (fun h => ?_) | refine boo (fun h => ?_) (fun h => ?_) | refine ⟨i64 (by omega) (by omega), ?_⟩ | refine ⟨_, _, rfl, List.getElem?_eq_getElem (by omega), ?_⟩ | refine ⟨_, ⟨rfl, by omega⟩, ?_⟩ | refine ⟨_, List.getElem?_eq_getElem (by omega), ?_⟩ | refine rtB ?_ | refine rtI ?_ | refine rtC ?_ rfl | fail)
          refine ag (i + 1) [] [.same 4] ⟨hlt, trivial⟩ (by simp only []; omega) ?_
          rw [e]
          repeat' first | exact trivial | exact rfl | refine And.intro ?_ ?_
        · (conv => whnf)
          refine ⟨[l[i]], rfl, ?_⟩
          (conv => whnf)
          refine ⟨[], _, rfl, rfl, (by simp only [List.length_take, List.length_drop, List.length_nil]; omega), ?_⟩
          (conv => whnf)
          refine ⟨_, _, rfl, rfl, (by simp only [List.length_take, List.length_drop, List.length_append, List.length_cons, List.length_nil]; omega), ?_⟩
          (conv => whnf)
          refine ⟨k, (ordU l i).length, rfl, rfl, ⟨hk.1.1, Nat.le_refl _⟩, ?_⟩
          (conv => whnf)
          refine ⟨_, _, rfl, rfl, (by simp only [List.length_take, List.length_drop, List.length_append, List.length_cons, List.length_nil]; omega), ?_⟩
          repeat' ((conv => whnf); first | (refine dec (fun h => ?_) (fun h => ?_) <;> try contradiction) | (refine decN (fun h => ?_) (fun h => ?_) <;> try contradiction) | refine booN (fun h => ?_) (fun h => ?_) | refine boo (fun h => ?_) (fun h => ?_) | refine ⟨i64 (by omega) (by omega), ?_⟩ | refine ⟨_, _, rfl, List.getElem?_eq_getElem (by omega), ?_⟩ | refine ⟨_, ⟨rfl, by omega⟩, ?_⟩ | refine ⟨_, List.getElem?_eq_getElem (by omega), ?_⟩ | refine rtB ?_ | refine rtI ?_ | refine rtC ?_ rfl | fail)
          refine ag (i + 1) [] [.same 4] ⟨hlt, trivial⟩ (by simp only []; omega) ?_
          rw [e]
          repeat' first | exact trivial | exact rfl | refine And.intro ?_ ?_
    · have fin := fin (fun h => by omega)
      rw [← ordU_succ hlt] at fin
      have e : ordU l (i + 1) = (([] ++ ((ordU l i).drop 0).take (k - 0)) ++ [l[i]]) ++ ((ordU l i).drop k).take ((ordU l i).length - k) := by
        rw [fin, List.take_of_length_le (l := List.drop k (ordU l i)) (by rw [List.length_drop]; exact Nat.le_refl _)]
        simp
      (conv => whnf)
      refine ⟨false, (.alt [0, 1, 2, 3, 5, 6, 7, 8] [4, 9] fun j => bif Nat.beq j 4 then (.l [9, 10, 11]) else bif Nat.beq j 9 then (.l [4, 10, 11]) else .l []), by kernel_rfl, .inl ?_⟩
      (conv => whnf)
      refine ⟨0, k, rfl, rfl, ⟨Nat.zero_le _, hk.1.1⟩, ?_⟩
      (conv => whnf)
      refine ⟨i, l[i], rfl, List.getElem?_eq_getElem hlt, ?_⟩
      (conv => whnf)
      refine And.intro ?_ ?_
      · (conv => whnf)
        refine ⟨[], _, rfl, rfl, (by simp only [List.length_take, List.length_drop, List.length_nil]; omega), ?_⟩
        (conv => whnf)
        refine ⟨[l[i]], rfl, ?_⟩
        (conv => whnf)
        refine ⟨_, _, rfl, rfl, (by simp only [List.length_take, List.length_drop, List.length_append, List.length_cons, List.length_nil]; omega), ?_⟩
        (conv => whnf)
        refine ⟨k, (ordU l i).length, rfl, rfl, ⟨hk.1.1, Nat.le_refl _⟩, ?_⟩
        (conv => whnf)
        refine ⟨_, _, rfl, rfl, (by simp only [List.length_take, List.length_drop, List.length_append, List.length_cons, List.length_nil]; omega), ?_⟩
        repeat' ((conv => whnf); first | (refine dec (fun h => ?_) (fun h => ?_) <;> try contradiction) | (refine decN (fun h => ?_) (fun h => ?_) <;> try contradiction) | refine booN (fun h => ?_) (fun h => ?_) | refine boo (fun h => ?_) (fun h => ?_) | refine ⟨i64 (by omega) (by omega), ?_⟩ | refine ⟨_, _, rfl, List.getElem?_eq_getElem (by omega), ?_⟩ | refine ⟨_, ⟨rfl, by omega⟩, ?_⟩ | refine ⟨_, List.getElem?_eq_getElem (by omega), ?_⟩ | refine rtB ?_ | refine rtI ?_ | refine rtC ?_ rfl | fail)
        refine ag (i + 1) [] [.same 4] ⟨hlt, trivial⟩ (by simp only []; omega) ?_
        rw [e]
        repeat' first | exact trivial | exact rfl | refine And.intro ?_ ?_
      · (conv => whnf)
        refine ⟨[l[i]], rfl, ?_⟩
        (conv => whnf)
        refine ⟨[], _, rfl, rfl, (by simp only [List.length_take, List.length_drop, List.length_nil]; omega), ?_⟩
        (conv => whnf)
        refine ⟨_, _, rfl, rfl, (by simp only [List.length_take, List.length_drop, List.length_append, List.length_cons, List.length_nil]; omega), ?_⟩
        (conv => whnf)
        refine ⟨k, (ordU l i).length, rfl, rfl, ⟨hk.1.1, Nat.le_refl _⟩, ?_⟩
        (conv => whnf)
        refine ⟨_, _, rfl, rfl, (by simp only [List.length_take, List.length_drop, List.length_append, List.length_cons, List.length_nil]; omega), ?_⟩
        repeat' ((conv => whnf); first | (refine dec (fun h => ?_) (fun h => ?_) <;> try contradiction) | (refine decN (fun h => ?_) (fun h => ?_) <;> try contradiction) | refine booN (fun h => ?_) (fun h => ?_) | refine boo (fun h => ?_) (fun h => ?_) | refine ⟨i64 (by omega) (by omega), ?_⟩ | refine ⟨_, _, rfl, List.getElem?_eq_getElem (by omega), ?_⟩ | refine ⟨_, ⟨rfl, by omega⟩, ?_⟩ | refine ⟨_, List.getElem?_eq_getElem (by omega), ?_⟩ | refine rtB ?_ | refine rtI ?_ | refine rtC ?_ rfl | fail)
        refine ag (i + 1) [] [.same 4] ⟨hlt, trivial⟩ (by simp only []; omega) ?_
        rw [e]
        repeat' first | exact trivial | exact rfl | refine And.intro ?_ ?_
  · have : ordU l i = inOrdP l := by unfold ordU; rw [List.take_of_length_le (by omega)]
    (conv => whnf)
    rw [this]
    refine rt [] [.same 0] (by repeat' first | exact trivial | exact rfl | refine And.intro ?_ ?_) rfl ⟨rfl, rfl⟩
end Go.Nest
end
