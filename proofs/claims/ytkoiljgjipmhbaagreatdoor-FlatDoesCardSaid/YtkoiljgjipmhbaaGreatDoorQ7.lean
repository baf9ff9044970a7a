/- WALKS, Q6: files by their paths. -/
import Derived.Test.YtkoiljgjipmhbaaGreatDoorQ5
section
namespace Go.Nest
open Go Go.AM Go.Proofs
open Go.Proofs.YtkoiljgjipmhbaaGreatDoor (tab tabOk)
set_option linter.unusedVariables false
set_option linter.unusedSimpArgs false
set_option maxRecDepth 4000
theorem srt_two {bs : Nat} {r : List Fi} (hb : 0 < bs) (h : 2 * bs ≤ r.length) : srt bs r = inOrdP (r.take bs) ++ inOrdP ((r.drop bs).take bs) ++ srt bs (r.drop (2 * bs)) ∧ inOrdP (inOrdP (r.take bs) ++ inOrdP ((r.drop bs).take bs)) = inOrdP (r.take (2 * bs)) := by
  have e : (r.drop bs).drop bs = r.drop (2 * bs) := by rw [List.drop_drop]; congr 1; omega
  refine ⟨?_, ?_⟩
  · rw [srt_more hb (by omega), srt_more hb (by rw [List.length_drop]; omega), e, List.append_assoc]
  · rw [inOrd_two]
    congr 1
    conv => rhs; rw [show 2 * bs = bs + bs by omega, List.take_add]
theorem srt_rest {bs : Nat} {r : List Fi} (hb : 0 < bs) (h1 : bs < r.length) (h2 : r.length < 2 * bs) : srt bs r = inOrdP (r.take bs) ++ inOrdP (r.drop bs) ∧ inOrdP (inOrdP (r.take bs) ++ inOrdP (r.drop bs)) = srt (2 * bs) r := by
  refine ⟨?_, ?_⟩
  · rw [srt_more hb (by omega), srt_few (d := r.drop bs) (by rw [List.length_drop]; omega)]
  · rw [inOrd_two, List.take_append_drop, srt_few (by omega)]
set_option maxHeartbeats 4000000 in
theorem stable_spec (d : List Fi) (hn : d.length ≤ 150) (hp : ∀ f ∈ d, f.path.length ≤ 4000000) (n : Int) (hn' : n = d.length) : Does Tryz.prog 91 [.c (.rw 0), .c (.int .i64 n), .c (.fn 60 [])] [.row 4 Fi encFi (d)] (Rt (.tup []) [.row 4 Fi encFi (inOrdP d)]) := by
  subst hn'
  refine X_specM ⟨Tryz.prog, tab, 63, 1⟩ tabOk (by kernel_rfl) Tryz.call91 Tryz.func91 rfl rfl (by kernel_rfl) rfl ?_
  intro hb
  refine XM.seq ?_
  (conv => whnf)
  refine XM.seq ?_
  (conv => whnf)
  refine XM.join (ι := Nat × List Fi) (fun z => ⟨[(0, .c (.rw 0)), (1, .c (.int .i64 d.length)), (2, .c (.fn 60 [])), (6, .c (.int .i64 20)), (7, .c (.int .i64 z.1))], [.row 4 Fi encFi (z.2 ++ d.drop z.1)]⟩) (fun z => (z.1 ≤ d.length ∧ d.length < z.1 + 20) ∧ z.2.length = z.1 ∧ z.2 ++ srt 20 (d.drop z.1) = srt 20 d) ?_ (fun z hz => ?_)
  · (conv => whnf)
    refine lp (Nat × List Fi) (fun z => ⟨[(0, .c (.rw 0)), (1, .c (.int .i64 d.length)), (2, .c (.fn 60 [])), (6, .c (.int .i64 20)), (7, .c (.int .i64 z.1)), (8, .c (.int .i64 ((z.1 : Int) + 20)))], [.row 4 Fi encFi (z.2 ++ d.drop z.1)]⟩) (fun z => (z.1 ≤ d.length) ∧ z.2.length = z.1 ∧ z.2 ++ srt 20 (d.drop z.1) = srt 20 d) (fun z => d.length - z.1) (0, []) [] [.same 0] ?_ ?_ (fun z hz => ?_)
    · simp
    · repeat' first | exact trivial | exact rfl | refine And.intro ?_ ?_
    obtain ⟨p, P⟩ := z
    obtain ⟨h1, h2, h3⟩ := hz
    dsimp only at h1 h2 h3
    (conv => whnf)
    refine dec (fun h4 => ?_) (fun h4 => ?_)
    · have h4 : p + 20 ≤ d.length := by simp only [] at h4; omega
      have e : (p, P).2 ++ d.drop (p, P).1 = P ++ (d.drop p).take 20 ++ (d.drop p).drop 20 := by rw [List.append_assoc, List.take_append_drop]
      have e2 : (d.drop p).drop 20 = d.drop (p + 20) := List.drop_drop ..
      have ld : (d.drop p).length = d.length - p := List.length_drop ..
      have l20 : ((d.drop p).take 20).length = 20 := by rw [List.length_take]; omega
      have h5 := srt_more (bs := 20) (d := d.drop p) (by omega) (by omega)
      rw [e2] at h5
      rw [e]
      (conv => whnf)
      refine cl [] [0] (insertSort_spec P ((d.drop p).take 20) ((d.drop p).drop 20) (by rw [e2, List.length_drop]; omega) (fun f hf => hp f (List.mem_of_mem_drop (List.mem_of_mem_take hf))) p ((p : Int) + 20) (by omega) (by omega)) (by (repeat' first | exact trivial | exact rfl | refine And.intro ?_ ?_); first | done | fail) (by first | exact trivial | exact rfl) ?_
      (conv => whnf)
      refine ⟨i64 (by simp only []; omega) (by simp only []; omega), ?_⟩
      rw [e2, show ((((p, P).1 : Nat) : Int) + 20) = ((p + 20 : Nat) : Int) by simp only []; omega]
      (conv => whnf)
      refine ag (p + 20, P ++ inOrdP ((d.drop p).take 20)) [] [.same 0] ⟨h4, by rw [List.length_append, inOrd_len]; omega, by rw [List.append_assoc, ← h5, h3]⟩ (by simp only []; omega) ?_
      repeat' first | exact trivial | exact rfl | refine And.intro ?_ ?_
    · (conv => whnf)
      refine ⟨(p, P), ⟨⟨h1, by simp only [] at h4; omega⟩, h2, h3⟩, [], [.same 0], ?_⟩
      repeat' first | exact trivial | exact rfl | refine And.intro ?_ ?_
  obtain ⟨p, P⟩ := z
  obtain ⟨⟨h1, h4⟩, h2, h3⟩ := hz
  dsimp only at h1 h2 h3 h4
  refine XM.seq ?_
  rw [show (p, P).2 ++ d.drop (p, P).1 = P ++ d.drop p ++ [] by simp]
  have ld : (d.drop p).length = d.length - p := List.length_drop ..
  (conv => whnf)
  refine cl [] [0] (insertSort_spec P (d.drop p) [] (by simp; omega) (fun f hf => hp f (List.mem_of_mem_drop hf)) p (d.length : Int) (by omega) (by omega)) (by (repeat' first | exact trivial | exact rfl | refine And.intro ?_ ?_); first | done | fail) (by first | exact trivial | exact rfl) ?_
  rw [show P ++ inOrdP (d.drop p) ++ [] = srt 20 d by rw [← h3, srt_few (by omega)]; simp]
  refine XM.of ?_
  have len : ∀ bs, (srt bs d).length = d.length := fun bs => srt_len d.length bs d (Nat.le_refl _)
  (conv => whnf)
  refine lp Nat (fun bs => ⟨[(0, .c (.rw 0)), (1, .c (.int .i64 d.length)), (2, .c (.fn 60 [])), (6, .c (.int .i64 bs))], [.row 4 Fi encFi (srt bs d)]⟩) (fun bs => (20 ≤ bs ∧ bs ≤ 400) ∧ True) (fun bs => 400 - bs) 20 [] [.same 0] ?_ ?_ (fun bs hbs => ?_)
  · simp
  · repeat' first | exact trivial | exact rfl | refine And.intro ?_ ?_
  obtain ⟨⟨g1, g2⟩, _⟩ := hbs
  (conv => whnf)
  refine dec (fun h5 => ?_) (fun h5 => ?_)
  · have h5 : bs < d.length := by omega
    (conv => whnf)
    refine ⟨i64 (by omega) (by omega), ?_⟩
    rw [show (2 : Int) * (bs : Nat) = ((0 : Nat) : Int) + 2 * bs by omega]
    rw [show srt bs d = [] ++ srt bs (d.drop 0) by simp]
    (conv => whnf)
    refine lp (Nat × List Fi) (fun z => ⟨[(0, .c (.rw 0)), (1, .c (.int .i64 d.length)), (2, .c (.fn 60 [])), (6, .c (.int .i64 bs)), (7, .c (.int .i64 z.1)), (8, .c (.int .i64 ((z.1 : Int) + 2 * bs)))], [.row 4 Fi encFi (z.2 ++ srt bs (d.drop z.1))]⟩) (fun z => (z.1 ≤ d.length) ∧ z.2.length = z.1 ∧ z.2 ++ srt (2 * bs) (d.drop z.1) = srt (2 * bs) d) (fun z => d.length - z.1) (0, []) [] [.same 0] ?_ ?_ (fun z hz => ?_)
    · simp
    · repeat' first | exact trivial | exact rfl | refine And.intro ?_ ?_
    obtain ⟨p, P⟩ := z
    obtain ⟨k1, k2, k3⟩ := hz
    dsimp only at k1 k2 k3
    have ld : (d.drop p).length = d.length - p := List.length_drop ..
    have mem : ∀ (l : List Fi), (∀ f ∈ l, f ∈ d.drop p) → ∀ f ∈ inOrdP l, f.path.length ≤ 4000000 := fun l hl f hf => hp f (List.mem_of_mem_drop (hl f ((inOrd_perm _).mem_iff.1 hf)))
    (conv => whnf)
    refine dec (fun h6 => ?_) (fun h6 => ?_)
    · have h6 : p + 2 * bs ≤ d.length := by simp only [] at h6; omega
      obtain ⟨m1, m2⟩ := srt_two (r := d.drop p) (bs := bs) (by omega) (by omega)
      have m3 := srt_more (bs := 2 * bs) (d := d.drop p) (by omega) (by omega)
      have e2 : (d.drop p).drop (2 * bs) = d.drop (p + 2 * bs) := List.drop_drop ..
      rw [e2] at m1 m3
      have u1 : (inOrdP ((d.drop p).take bs)).length = bs := by rw [inOrd_len, List.length_take]; omega
      have u2 : (inOrdP (((d.drop p).drop bs).take bs)).length = bs := by rw [inOrd_len, List.length_take, List.length_drop]; omega
      have u3 := srt_len (d.drop (p + 2 * bs)).length bs (d.drop (p + 2 * bs)) (Nat.le_refl _)
      rw [List.length_drop] at u3
      rw [show (p, P).2 ++ srt bs (d.drop (p, P).1) = P ++ inOrdP ((d.drop p).take bs) ++ inOrdP (((d.drop p).drop bs).take bs) ++ srt bs (d.drop (p + 2 * bs)) by rw [show d.drop (p, P).1 = d.drop p from rfl, m1]; simp]
      (conv => whnf)
      refine ⟨i64 (by simp only []; omega) (by simp only []; omega), ?_⟩
      (conv => whnf)
      refine cl [] [0] (symMerge_spec 1000 P (inOrdP ((d.drop p).take bs)) (inOrdP (((d.drop p).drop bs).take bs)) (srt bs (d.drop (p + 2 * bs))) (by omega) (by omega) (by omega) (inOrd_wk _) (inOrd_wk _) (by omega) (mem _ fun f hf => List.mem_of_mem_take hf) (mem _ fun f hf => List.mem_of_mem_drop (List.mem_of_mem_take hf)) p ((p : Int) + bs) ((p : Int) + 2 * bs) (by omega) (by omega) (by omega)) (by (repeat' first | exact trivial | exact rfl | refine And.intro ?_ ?_); first | done | fail) (by first | exact trivial | exact rfl) ?_
      rw [m2]
      (conv => whnf)
      refine ⟨i64 (by omega) (by omega), ?_⟩
      (conv => whnf)
      refine ⟨i64 (by simp only []; omega) (by simp only []; omega), ?_⟩
      rw [show ((((p, P).1 : Nat) : Int) + 2 * (bs : Nat)) = ((p + 2 * bs : Nat) : Int) by simp only []; omega]
      (conv => whnf)
      refine ag (p + 2 * bs, P ++ inOrdP ((d.drop p).take (2 * bs))) [] [.same 0] ⟨h6, by rw [List.length_append, inOrd_len, List.length_take]; omega, by rw [List.append_assoc, ← m3, k3]⟩ (by simp only []; omega) ?_
      repeat' first | exact trivial | exact rfl | refine And.intro ?_ ?_
    · have h6 : d.length < p + 2 * bs := by simp only [] at h6; omega
      (conv => whnf)
      refine ⟨i64 (by simp only []; omega) (by simp only []; omega), ?_⟩
      (conv => whnf)
      refine dec (fun h7 => ?_) (fun h7 => ?_)
      · have h7 : p + bs < d.length := by simp only [] at h7; omega
        obtain ⟨m1, m2⟩ := srt_rest (r := d.drop p) (bs := bs) (by omega) (by omega) (by omega)
        have u1 : (inOrdP ((d.drop p).take bs)).length = bs := by rw [inOrd_len, List.length_take]; omega
        have u2 : (inOrdP ((d.drop p).drop bs)).length = d.length - p - bs := by rw [inOrd_len, List.length_drop]; omega
        rw [show (p, P).2 ++ srt bs (d.drop (p, P).1) = P ++ inOrdP ((d.drop p).take bs) ++ inOrdP ((d.drop p).drop bs) ++ [] by rw [show d.drop (p, P).1 = d.drop p from rfl, m1]; simp]
        (conv => whnf)
        refine cl [] [0] (symMerge_spec 1000 P (inOrdP ((d.drop p).take bs)) (inOrdP ((d.drop p).drop bs)) [] (by omega) (by omega) (by omega) (inOrd_wk _) (inOrd_wk _) (by rw [List.length_nil]; omega) (mem _ fun f hf => List.mem_of_mem_take hf) (mem _ fun f hf => List.mem_of_mem_drop hf) p ((p : Int) + bs) (d.length : Int) (by omega) (by omega) (by omega)) (by (repeat' first | exact trivial | exact rfl | refine And.intro ?_ ?_); first | done | fail) (by first | exact trivial | exact rfl) ?_
        rw [m2, show P ++ srt (2 * bs) (d.drop p) ++ [] = srt (2 * bs) d by rw [k3]; simp]
        (conv => whnf)
        refine ⟨i64 (by omega) (by omega), ?_⟩
        rw [show (bs : Int) * 2 = ((2 * bs : Nat) : Int) by omega]
        (conv => whnf)
        refine ag (2 * bs) [] [.same 0] ⟨⟨by omega, by omega⟩, trivial⟩ (by simp only []; omega) ?_
        repeat' first | exact trivial | exact rfl | refine And.intro ?_ ?_
      · have h7 : d.length ≤ p + bs := by simp only [] at h7; omega
        rw [show (p, P).2 ++ srt bs (d.drop (p, P).1) = srt (2 * bs) d by rw [← k3, show d.drop (p, P).1 = d.drop p from rfl, srt_few (bs := bs) (by omega), srt_few (bs := 2 * bs) (by omega)]]
        (conv => whnf)
        refine ⟨i64 (by omega) (by omega), ?_⟩
        rw [show (bs : Int) * 2 = ((2 * bs : Nat) : Int) by omega]
        (conv => whnf)
        refine ag (2 * bs) [] [.same 0] ⟨⟨by omega, by omega⟩, trivial⟩ (by simp only []; omega) ?_
        repeat' first | exact trivial | exact rfl | refine And.intro ?_ ?_
  · rw [srt_few (by omega)]
    (conv => whnf)
    refine rt [] [.same 0] (by repeat' first | exact trivial | exact rfl | refine And.intro ?_ ?_) rfl ⟨rfl, rfl⟩
theorem sortStable_spec (d : List Fi) (hn : d.length ≤ 150) (hp : ∀ f ∈ d, f.path.length ≤ 4000000) : Does Tryz.prog 59 [.c (.rw 0), .c (.fn 60 [])] [.row 4 Fi encFi (d)] (Rt (.tup []) [.row 4 Fi encFi (inOrdP d)]) := by
  refine X_spec ⟨Tryz.prog, tab, 9, 1⟩ tabOk (by kernel_rfl) Tryz.call59 Tryz.func59 rfl rfl (by kernel_rfl) rfl ?_
  intro hb
  (conv => whnf)
  refine cl [] [0] (stable_spec d hn hp d.length rfl) (by (repeat' first | exact trivial | exact rfl | refine And.intro ?_ ?_); first | done | fail) (by first | exact trivial | exact rfl) ?_
  (conv => whnf)
  refine rt [] [.same 0] (by repeat' first | exact trivial | exact rfl | refine And.intro ?_ ?_) rfl ⟨rfl, rfl⟩
theorem cloneFis_spec (l : List Fi) (hl : l.length * 40 ≤ 140737488355328) : Does Tryz.prog 58 [.c (.bs 4 Fi encFi l)] [] (Rt (.c (.rw 0)) [.row 4 Fi encFi l]) := by
  refine X_spec ⟨Tryz.prog, tab, 8, 0⟩ tabOk (by kernel_rfl) Tryz.call58 Tryz.func58 rfl rfl (by kernel_rfl) rfl ?_
  intro hb
  (conv => whnf)
  intro q hq
  (conv => whnf)
  refine boo (fun h => ?_) (fun h => ?_)
  · obtain rfl := hq h
    (conv => whnf)
    refine rt [] [.new] (by repeat' first | exact trivial | exact rfl | refine And.intro ?_ ?_) rfl ⟨rfl, rfl⟩
  · (conv => whnf)
    refine ⟨[], rfl, ?_⟩
    (conv => whnf)
    refine ⟨_, _, rfl, rfl, (by simp only [List.length_append, List.length_cons, List.length_nil]; omega), ?_⟩
    (conv => whnf)
    refine rt [] [.same 1] (by repeat' first | exact trivial | exact rfl | refine And.intro ?_ ?_) rfl ⟨rfl, rfl⟩
theorem sorted_spec (d : List Fi) (hn : d.length ≤ 150) (hp : ∀ f ∈ d, f.path.length ≤ 4000000) : Does Tryz.prog 23 [.c (.bs 4 Fi encFi d)] [] (Rt (.c (.rw 0)) [.row 4 Fi encFi (inOrdP d)]) := by
  refine X_spec ⟨Tryz.prog, tab, 9, 0⟩ tabOk (by kernel_rfl) Tryz.call23 Tryz.func23 rfl rfl (by kernel_rfl) rfl ?_
  intro hb
  (conv => whnf)
  refine cl [] [] (cloneFis_spec d (by omega)) (by (repeat' first | exact trivial | exact rfl | refine And.intro ?_ ?_); first | done | fail) (by first | exact trivial | exact rfl) ?_
  (conv => whnf)
  refine cl [] [0] (sortStable_spec d hn hp) (by (repeat' first | exact trivial | exact rfl | refine And.intro ?_ ?_); first | done | fail) (by first | exact trivial | exact rfl) ?_
  (conv => whnf)
  refine rt [] [.same 0] (by repeat' first | exact trivial | exact rfl | refine And.intro ?_ ?_) rfl ⟨rfl, rfl⟩
end Go.Nest
end
/- WALKS, Q7: FlatDoes. -/
section
namespace Go.Nest
open Go Go.AM Go.Proofs
open Go.Proofs.YtkoiljgjipmhbaaGreatDoor (tab tabOk)
set_option linter.unusedVariables false
set_option linter.unusedSimpArgs false
set_option maxRecDepth 4000

set_option maxHeartbeats 4000000 in
theorem flatDoes_spec (o : List Ob) (l : List Fi) (t : Int) (dir : List UInt8) (hp : ∀ f ∈ l, f.path.length ≤ 140737488351232) : Does Tryz.prog 3 [.c (.ls 6 Ob encOb o), .c (.ls 4 Fi encFi l), .c (.int .i64 t), .c (.str dir)] [] (Rt (.c (.bool true)) []) := by
  refine X_spec ⟨Tryz.prog, tab, 161, 0⟩ tabOk (by kernel_rfl) Tryz.call3 Tryz.func3 rfl rfl (by kernel_rfl) rfl ?_
  intro hb
  (conv => whnf)
  refine cl [] [] (flatBegun_spec) (by (repeat' first | exact trivial | exact rfl | refine And.intro ?_ ?_); first | done | fail) (by first | exact trivial | exact rfl) ?_
  (conv => whnf)
  refine cl [] [] (greatObjects_spec o) (by (repeat' first | exact trivial | exact rfl | refine And.intro ?_ ?_); first | done | fail) (by first | exact trivial | exact rfl) ?_
  (conv => whnf)
  refine boo (fun g1 => ?_) (fun g1 => ?_)
  · (conv => whnf)
    exact rtC rfl rfl
  (conv => whnf)
  refine cl [] [] (greatFiles_spec l hp) (by (repeat' first | exact trivial | exact rfl | refine And.intro ?_ ?_); first | done | fail) (by first | exact trivial | exact rfl) ?_
  (conv => whnf)
  refine boo (fun ga => ?_) (fun ga => ?_)
  · (conv => whnf)
    exact rtC rfl rfl
  obtain ⟨la, _, pa⟩ := greatF_ok ga
  have pa4 : ∀ f ∈ l, f.path.length ≤ 4000000 := fun f h => by have := pa f h; omega
  (conv => whnf)
  refine dec (fun h => ?_) (fun hd => ?_)
  · (conv => whnf)
    exact rtC rfl rfl
  have hd4 : dir.length ≤ 4000000 := by omega
  (conv => whnf)
  refine cl [] [] (pools_spec o) (by (repeat' first | exact trivial | exact rfl | refine And.intro ?_ ?_); first | done | fail) (by first | exact trivial | exact rfl) ?_
  have hL : PoolOk (putAll [] o) := putAll_ok .nil
  generalize putAll [] o = L at *
  (conv => whnf)
  refine cl [] [0, 1] (flatBuild_spec L l hL pa4) (by (repeat' first | exact trivial | exact rfl | refine And.intro ?_ ?_); first | done | fail) (by first | exact trivial | exact rfl) ?_
  (conv => whnf)
  refine cl [] [2, 3] (treeOfTop_spec L l hL pa4) (by (repeat' first | exact trivial | exact rfl | refine And.intro ?_ ?_); first | done | fail) (by first | exact trivial | exact rfl) ?_
  have hB := (buildP_ok hL l).1
  generalize buildP L l = R at *
  (conv => whnf)
  refine ⟨false, (.l [0, 1, 2, 3, 4, 5, 6, 7, 8, 9, 10, 11, 12, 13, 15, 16, 17, 18, 19, 14, 20, 21, 22, 23, 25, 24, 26, 27, 28]), by kernel_rfl, .inl ?_⟩
  (conv => whnf)
  refine decN (fun h => absurd rfl h) (fun _ => ?_)
  (conv => whnf)
  refine decN (fun h => absurd rfl h) (fun _ => ?_)
  (conv => whnf)
  refine cl [] [] (len_spec R.2.2) (by (repeat' first | exact trivial | exact rfl | refine And.intro ?_ ?_); first | done | fail) (by first | exact trivial | exact rfl) ?_
  (conv => whnf)
  refine decN (fun h => absurd rfl h) (fun _ => ?_)
  (conv => whnf)
  refine cl [] [] (flatCheck_spec l pa4) (by (repeat' first | exact trivial | exact rfl | refine And.intro ?_ ?_); first | done | fail) (by first | exact trivial | exact rfl) ?_
  (conv => whnf)
  refine cl [] [] (fault_spec l pa4) (by (repeat' first | exact trivial | exact rfl | refine And.intro ?_ ?_); first | done | fail) (by first | exact trivial | exact rfl) ?_
  (conv => whnf)
  refine decN (fun h => absurd rfl h) (fun _ => ?_)
  (conv => whnf)
  refine cl [] [] (flatFiles_spec R.2.2 hB t) (by (repeat' first | exact trivial | exact rfl | refine And.intro ?_ ?_); first | done | fail) (by first | exact trivial | exact rfl) ?_
  (conv => whnf)
  refine cl [] [] (filesOf_spec R.2.2 hB t) (by (repeat' first | exact trivial | exact rfl | refine And.intro ?_ ?_); first | done | fail) (by first | exact trivial | exact rfl) ?_
  (conv => whnf)
  refine cl [] [] (at_spec R.2.2 hB t dir hd4) (by (repeat' first | exact trivial | exact rfl | refine And.intro ?_ ?_); first | done | fail) (by first | exact trivial | exact rfl) ?_
  (conv => whnf)
  refine cl [] [] (treeAt_spec R.2.2 hB t dir hd4) (by (repeat' first | exact trivial | exact rfl | refine And.intro ?_ ?_); first | done | fail) (by first | exact trivial | exact rfl) ?_
  (conv => whnf)
  refine cl [] [] (find_spec l dir) (by (repeat' first | exact trivial | exact rfl | refine And.intro ?_ ?_); first | done | fail) (by first | exact trivial | exact rfl) ?_
  (conv => whnf)
  refine cl [] [] (fileAt_spec l dir) (by (repeat' first | exact trivial | exact rfl | refine And.intro ?_ ?_); first | done | fail) (by first | exact trivial | exact rfl) ?_
  (conv => whnf)
  refine cl [] [] (sameFiles_spec (filesP R.2.2 t).1 (filesP R.2.2 t).1) (by (repeat' first | exact trivial | exact rfl | refine And.intro ?_ ?_); first | done | fail) (by first | exact trivial | exact rfl) ?_
  rw [show decide ((filesP R.2.2 t).1 = (filesP R.2.2 t).1) = true from decide_eq_true rfl]
  (conv => whnf)
  refine dec (fun _ => ?_) (fun h => absurd rfl h)
  (conv => whnf)
  refine dec (fun _ => ?_) (fun h => absurd rfl h)
  (conv => whnf)
  refine dec (fun _ => ?_) (fun h => absurd rfl h)
  (conv => whnf)
  refine dec (fun _ => ?_) (fun h => absurd (eqFi.2 rfl) h)
  (conv => whnf)
  refine boo (fun _ => ?_) (fun h => absurd (by simp) (Bool.eq_false_iff.1 h))
  (conv => whnf)
  refine cl [] [] (sorted_spec l la pa4) (by (repeat' first | exact trivial | exact rfl | refine And.intro ?_ ?_); first | done | fail) (by first | exact trivial | exact rfl) ?_
  (conv => whnf)
  refine cl [] [] (inOrder_spec l (by omega) pa4) (by (repeat' first | exact trivial | exact rfl | refine And.intro ?_ ?_); first | done | fail) (by first | exact trivial | exact rfl) ?_
  (conv => whnf)
  refine cl [] [] (sameFiles_spec (inOrdP l) (inOrdP l)) (by (repeat' first | exact trivial | exact rfl | refine And.intro ?_ ?_); first | done | fail) (by first | exact trivial | exact rfl) ?_
  rw [show decide (inOrdP l = inOrdP l) = true from decide_eq_true rfl]
  (conv => whnf)
  exact rtB rfl
theorem flatDoes_all (o : List Ob) (l : List Fi) (t : Int) (dir : List UInt8) (k1 : ∀ f ∈ l, f.path.length ≤ 140737488351232 ∧ True ∧ True ∧ True) : Does Tryz.prog 3 [.c (.ls 6 Ob encOb o), .c (.ls 4 Fi encFi l), .c (.int .i64 t), .c (.str dir)] [] (Rt (.c (.bool true)) []) :=
  flatDoes_spec o l t dir (fun f hf => (k1 f hf).1)
end Go.Nest
end
