import PyProof.Rows.All
import Wide.All
import OpenK.AllK
import Wide.FinOn
import HandS.ForMost
import HandS.ForExc
import HandS.IsInst
import HandS.Deep
import HandS.SortInts
import HandS.SortRule
import HandS.Wide
import HandS.Evl
import HandS.ExcIs
import HandS.HotCalls
import HandS.TryMany
import HandS.More
import PySem.Challenge.RW_setchains_k16_refused_sets
set_option Elab.async false
set_option linter.all false
set_option maxRecDepth 100000
set_option maxHeartbeats 4000000
set_option linter.all false
namespace SC
/-! ### lists -/
/-- rising -/
abbrev Up (l : List Int) : Prop := l.Pairwise (· < ·)
def irange (n : Nat) : List Int := (List.range n).map fun i : Nat => (i : Int)
theorem irange_succ (n : Nat) : irange (n + 1) = irange n ++ [(n : Int)] := by
  unfold irange
  rw [List.range_succ, List.map_append]
  rfl
theorem irange_len (n : Nat) : (irange n).length = n := by simp [irange]
theorem mem_irange {n : Nat} {x : Int} : x ∈ irange n ↔ 0 ≤ x ∧ x < n := by
  unfold irange
  rw [List.mem_map]
  constructor
  · rintro ⟨i, hi, rfl⟩
    have := List.mem_range.mp hi
    omega
  · intro h
    exact ⟨x.toNat, List.mem_range.mpr (by omega), by omega⟩
theorem irange_up (n : Nat) : Up (irange n) := by
  induction n with
  | zero => exact List.Pairwise.nil
  | succ n ih =>
    rw [irange_succ]
    refine List.pairwise_append.mpr ⟨ih, List.pairwise_singleton _ _, fun a ha b hb => ?_⟩
    have := mem_irange.mp ha
    rw [List.mem_singleton] at hb
    omega
theorem irange_get {n i : Nat} (h : i < n) : (irange n)[i]? = some (i : Int) := by
  unfold irange
  rw [List.getElem?_map, List.getElem?_range h]
  rfl
theorem up_nodup {l : List Int} (h : Up l) : l.Nodup := h.imp fun h e => by omega
/-- rising lists of the same members are one -/
theorem up_ext : ∀ {l m : List Int}, Up l → Up m → (∀ x, x ∈ l ↔ x ∈ m) → l = m
  | [], [], _, _, _ => rfl
  | [], y :: m, _, _, h => absurd ((h y).mpr (List.mem_cons_self ..)) (by simp)
  | x :: l, [], _, _, h => absurd ((h x).mp (List.mem_cons_self ..)) (by simp)
  | x :: l, y :: m, hl, hm, h => by
    obtain ⟨hx, hl'⟩ := List.pairwise_cons.mp hl
    obtain ⟨hy, hm'⟩ := List.pairwise_cons.mp hm
    have e : x = y := by
      rcases List.mem_cons.mp ((h x).mp (List.mem_cons_self ..)) with e | e
      · exact e
      · rcases List.mem_cons.mp ((h y).mpr (List.mem_cons_self ..)) with q | q
        · exact q.symm
        · have := hx y q
          have := hy x e
          omega
    subst e
    have e2 : l = m := up_ext hl' hm' fun z => by
      constructor
      · intro hz
        rcases List.mem_cons.mp ((h z).mp (List.mem_cons_of_mem _ hz)) with q | q
        · have := hx z hz
          omega
        · exact q
      · intro hz
        rcases List.mem_cons.mp ((h z).mpr (List.mem_cons_of_mem _ hz)) with q | q
        · have := hy z hz
          omega
        · exact q
    rw [e2]
theorem up_filter {l : List Int} (h : Up l) (p : Int → Bool) : Up (l.filter p) := h.filter p
theorem up_take {l : List Int} (h : Up l) (j : Nat) : Up (l.take j) := h.sublist (List.take_sublist j l)
theorem up_drop {l : List Int} (h : Up l) (j : Nat) : Up (l.drop j) := h.sublist (List.drop_sublist j l)
/-- a set of so many things -/
structure IsSet (n : Nat) (ms : List Int) : Prop where
  up : Up ms
  lo : ∀ x ∈ ms, 0 ≤ x
  hi : ∀ x ∈ ms, x < n
theorem IsSet.eq {n : Nat} {ms : List Int} (h : IsSet n ms) : (irange n).filter (fun x => decide (x ∈ ms)) = ms := by
  refine up_ext (up_filter (irange_up n) _) h.up fun x => ?_
  rw [List.mem_filter, mem_irange]
  constructor
  · rintro ⟨_, q⟩
    exact of_decide_eq_true q
  · intro q
    exact ⟨⟨h.lo x q, h.hi x q⟩, decide_eq_true q⟩
theorem isSet_of {n : Nat} (p : Int → Bool) : IsSet n ((irange n).filter p) where
  up := up_filter (irange_up n) p
  lo := fun x h => (mem_irange.mp (List.mem_filter.mp h).1).1
  hi := fun x h => (mem_irange.mp (List.mem_filter.mp h).1).2
theorem IsSet.len {n : Nat} {ms : List Int} (h : IsSet n ms) : ms.length ≤ n := by
  have e := congrArg List.length h.eq
  have l := List.length_filter_le (fun x => decide (x ∈ ms)) (irange n)
  rw [irange_len] at l
  omega
theorem isSet_nil (n : Nat) : IsSet n [] := ⟨List.Pairwise.nil, (fun _ h => nomatch h), (fun _ h => nomatch h)⟩

/-! ### sorting -/
def insB {α : Type} (le : α → α → Bool) (x : α) : List α → List α
  | [] => [x]
  | y :: r => if le x y then x :: y :: r else y :: insB le x r
def sortB {α : Type} (le : α → α → Bool) : List α → List α
  | [] => []
  | x :: r => insB le x (sortB le r)
theorem insB_perm {α : Type} (le : α → α → Bool) (x : α) : ∀ l : List α, (insB le x l).Perm (x :: l)
  | [] => List.Perm.refl _
  | y :: r => by
    unfold insB
    split
    · exact List.Perm.refl _
    · exact ((insB_perm le x r).cons y).trans (List.Perm.swap x y r)
theorem sortB_perm {α : Type} (le : α → α → Bool) : ∀ l : List α, (sortB le l).Perm l
  | [] => List.Perm.refl _
  | x :: r => (insB_perm le x _).trans ((sortB_perm le r).cons x)
theorem insB_pw {α : Type} {le : α → α → Bool} (tot : ∀ a b, le a b = true ∨ le b a = true) (tr : ∀ a b c, le a b = true → le b c = true → le a c = true) (x : α) :
    ∀ l : List α, l.Pairwise (fun a b => le a b = true) → (insB le x l).Pairwise (fun a b => le a b = true)
  | [], _ => List.pairwise_singleton _ _
  | y :: r, h => by
    obtain ⟨h1, h2⟩ := List.pairwise_cons.mp h
    unfold insB
    split
    · rename_i hle
      refine List.pairwise_cons.mpr ⟨fun z hz => ?_, h⟩
      rcases List.mem_cons.mp hz with e | hz
      · rw [e]; exact hle
      · exact tr _ _ _ hle (h1 z hz)
    · rename_i hle
      refine List.pairwise_cons.mpr ⟨fun z hz => ?_, insB_pw tot tr x r h2⟩
      rcases List.mem_cons.mp ((insB_perm le x r).mem_iff.mp hz) with e | hz
      · rw [e]
        rcases tot x y with q | q
        · exact absurd q hle
        · exact q
      · exact h1 z hz
theorem sortB_pw {α : Type} {le : α → α → Bool} (tot : ∀ a b, le a b = true ∨ le b a = true) (tr : ∀ a b c, le a b = true → le b c = true → le a c = true) :
    ∀ l : List α, (sortB le l).Pairwise (fun a b => le a b = true)
  | [] => List.Pairwise.nil
  | x :: r => insB_pw tot tr x _ (sortB_pw tot tr r)
/-- sorted rearrangements are one -/
theorem pw_uniq {α : Type} {le : α → α → Bool} : ∀ {l m : List α}, (∀ a ∈ l, ∀ b ∈ l, le a b = true → le b a = true → a = b) → l.Pairwise (fun a b => le a b = true) → m.Pairwise (fun a b => le a b = true) → l.Perm m → l = m
  | [], m, _, _, _, p => (List.Perm.eq_nil p.symm).symm
  | x :: l, [], _, _, _, p => absurd p.length_eq (by simp)
  | x :: l, y :: m, an, hl, hm, p => by
    obtain ⟨hx, hl'⟩ := List.pairwise_cons.mp hl
    obtain ⟨hy, hm'⟩ := List.pairwise_cons.mp hm
    have e : x = y := by
      rcases List.mem_cons.mp (p.mem_iff.mp (List.mem_cons_self (a := x) (l := l))) with q | q
      · exact q
      · rcases List.mem_cons.mp (p.mem_iff.mpr (List.mem_cons_self (a := y) (l := m))) with r | r
        · exact r.symm
        · exact an x (List.mem_cons_self ..) y (List.mem_cons_of_mem _ r) (hx y r) (hy x q)
    subst e
    rw [pw_uniq (fun a ha b hb => an a (List.mem_cons_of_mem _ ha) b (List.mem_cons_of_mem _ hb)) hl' hm' p.cons_inv]
def leI (a b : Int) : Bool := decide (a ≤ b)
abbrev isort (l : List Int) : List Int := sortB leI l
theorem isort_pw (l : List Int) : (isort l).Pairwise (· ≤ ·) := by
  have h := sortB_pw (le := leI) (fun a b => by unfold leI; simp only [decide_eq_true_eq]; omega) (fun a b c => by unfold leI; simp only [decide_eq_true_eq]; omega) l
  exact h.imp fun {a b} h => of_decide_eq_true h
theorem isort_uniq {l m : List Int} (hl : l.Pairwise (· ≤ ·)) (p : l.Perm m) : l = isort m := by
  refine pw_uniq (le := leI) (fun a _ b _ h1 h2 => ?_) (hl.imp fun h => decide_eq_true h) ?_ (p.trans (sortB_perm leI m).symm)
  · have := of_decide_eq_true h1
    have := of_decide_eq_true h2
    omega
  · exact (isort_pw m).imp fun h => decide_eq_true h
theorem isort_mem {l : List Int} {x : Int} : x ∈ isort l ↔ x ∈ l := (sortB_perm leI l).mem_iff
theorem isort_len (l : List Int) : (isort l).length = l.length := (sortB_perm leI l).length_eq
theorem isort_up {l : List Int} (h : l.Nodup) : Up (isort l) := by
  have n : (isort l).Nodup := (sortB_perm leI l).nodup_iff.mpr h
  have p := isort_pw l
  generalize isort l = k at n p
  induction k with
  | nil => exact List.Pairwise.nil
  | cons x r ih =>
    obtain ⟨p1, p2⟩ := List.pairwise_cons.mp p
    obtain ⟨n1, n2⟩ := List.nodup_cons.mp n
    refine List.pairwise_cons.mpr ⟨fun y hy => ?_, ih n2 p2⟩
    have := p1 y hy
    have ne : x ≠ y := fun e => n1 (e ▸ hy)
    omega
/-- pairs by their first, then their second -/
def leP (a b : Int × Int) : Bool := decide (a.1 < b.1 ∨ a.1 = b.1 ∧ a.2 ≤ b.2)
abbrev psort (l : List (Int × Int)) : List (Int × Int) := sortB leP l
theorem psort_uniq {l m : List (Int × Int)} (hl : l.Pairwise (fun a b => leP a b = true)) (p : l.Perm m) : l = psort m := by
  refine pw_uniq (le := leP) (fun a _ b _ h1 h2 => ?_) hl ?_ (p.trans (sortB_perm leP m).symm)
  · have h1 := of_decide_eq_true h1
    have h2 := of_decide_eq_true h2
    obtain ⟨a1, a2⟩ := a
    obtain ⟨b1, b2⟩ := b
    simp only at h1 h2
    have e1 : a1 = b1 := by omega
    have e2 : a2 = b2 := by omega
    rw [e1, e2]
  · refine sortB_pw (fun a b => ?_) (fun a b c h1 h2 => ?_) m
    · unfold leP
      simp only [decide_eq_true_eq]
      omega
    · unfold leP at *
      simp only [decide_eq_true_eq] at *
      omega
theorem psort_mem {l : List (Int × Int)} {x : Int × Int} : x ∈ psort l ↔ x ∈ l := (sortB_perm leP l).mem_iff
theorem psort_len (l : List (Int × Int)) : (psort l).length = l.length := (sortB_perm leP l).length_eq
/-! ### the program's own look at a set -/
def setOk (m : Int) : Int → List Int → Bool
  | _, [] => true
  | b, x :: r => if x ≤ b ∨ m ≤ x then false else setOk m x r
theorem setOk_iff {m : Int} : ∀ {b : Int} {l : List Int}, setOk m b l = true ↔ Up l ∧ (∀ x ∈ l, b < x) ∧ ∀ x ∈ l, x < m
  | b, [] => by simp [setOk]
  | b, x :: r => by
    unfold setOk
    split
    · rename_i h
      constructor
      · intro z; cases z
      · rintro ⟨h1, h2, h3⟩
        have := h2 x (List.mem_cons_self ..)
        have := h3 x (List.mem_cons_self ..)
        omega
    · rename_i h
      rw [setOk_iff (b := x) (l := r)]
      constructor
      · rintro ⟨h1, h2, h3⟩
        refine ⟨List.pairwise_cons.mpr ⟨h2, h1⟩, fun y hy => ?_, fun y hy => ?_⟩
        · rcases List.mem_cons.mp hy with e | e
          · omega
          · have := h2 y e
            omega
        · rcases List.mem_cons.mp hy with e | e
          · omega
          · exact h3 y e
      · rintro ⟨h1, h2, h3⟩
        obtain ⟨h4, h5⟩ := List.pairwise_cons.mp h1
        exact ⟨h5, h4, fun y hy => h3 y (List.mem_cons_of_mem _ hy)⟩
theorem setOk_set {n : Nat} {ms : List Int} : setOk n (-1) ms = true ↔ IsSet n ms := by
  rw [setOk_iff]
  constructor
  · rintro ⟨h1, h2, h3⟩
    exact ⟨h1, fun x hx => by have := h2 x hx; omega, h3⟩
  · intro h
    exact ⟨h.up, fun x hx => by have := h.lo x hx; omega, h.hi⟩
end SC
namespace SC
/-! ### how many ways -/
/-- Pascal's numbers -/
def ch : Nat → Nat → Nat
  | _, 0 => 1
  | 0, _ + 1 => 0
  | n + 1, k + 1 => ch n k + ch n (k + 1)
theorem ch_zero (n : Nat) : ch n 0 = 1 := by cases n <;> rfl
theorem ch_gt : ∀ {n k : Nat}, n < k → ch n k = 0
  | 0, k + 1, _ => rfl
  | n + 1, k + 1, h => by
    show ch n k + ch n (k + 1) = 0
    rw [ch_gt (show n < k by omega), ch_gt (show n < k + 1 by omega)]
theorem ch_self : ∀ n : Nat, ch n n = 1
  | 0 => rfl
  | n + 1 => by
    show ch n n + ch n (n + 1) = 1
    rw [ch_self n, ch_gt (by omega)]
theorem ch_le : ∀ n k : Nat, ch n k ≤ 2 ^ n
  | n, 0 => by
    rw [ch_zero]
    exact Nat.one_le_two_pow
  | 0, k + 1 => by
    show 0 ≤ _
    omega
  | n + 1, k + 1 => by
    show ch n k + ch n (k + 1) ≤ 2 ^ (n + 1)
    have h1 := ch_le n k
    have h2 := ch_le n (k + 1)
    rw [Nat.pow_succ]
    omega
theorem ch_pos : ∀ {n k : Nat}, k ≤ n → 0 < ch n k
  | n, 0, _ => by
    rw [ch_zero]
    omega
  | n + 1, k + 1, h => by
    show 0 < ch n k + ch n (k + 1)
    have := ch_pos (show k ≤ n by omega)
    omega
/-- the next number of a row -/
theorem ch_next : ∀ n k : Nat, k ≤ n → ch n k * (n - k) = ch n (k + 1) * (k + 1)
  | 0, k, h => by
    have e : k = 0 := by omega
    subst e
    rfl
  | n + 1, 0, _ => by
    have h0 := ch_next n 0 (by omega)
    show 1 * (n + 1 - 0) = (ch n 0 + ch n 1) * 1
    rw [ch_zero] at h0 ⊢
    simp only [Nat.sub_zero, Nat.one_mul, Nat.zero_add, Nat.mul_one] at h0 ⊢
    omega
  | n + 1, k + 1, h => by
    show (ch n k + ch n (k + 1)) * (n + 1 - (k + 1)) = (ch n (k + 1) + ch n (k + 2)) * (k + 1 + 1)
    by_cases hk : k = n
    · subst hk
      rw [ch_self, ch_gt (show k < k + 1 by omega), ch_gt (show k < k + 2 by omega)]
      simp
    · have h1 := ch_next n k (by omega)
      have h2 := ch_next n (k + 1) (by omega)
      obtain ⟨d, hd⟩ : ∃ d, n = k + 1 + d := ⟨n - (k + 1), by omega⟩
      have e1 : n - k = d + 1 := by omega
      have e2 : n - (k + 1) = d := by omega
      have e3 : n + 1 - (k + 1) = d + 1 := by omega
      rw [e1] at h1
      rw [e2] at h2
      rw [e3]
      generalize ch n k = a at *
      generalize ch n (k + 1) = b at *
      generalize ch n (k + 2) = c at *
      have q1 : a * (d + 1) = b * (k + 1) := h1
      have q2 : b * d = c * (k + 1 + 1) := h2
      rw [Nat.add_mul, q1, Nat.add_mul, ← q2]
      have : b * (d + 1) = b * d + b := by rw [Nat.mul_add, Nat.mul_one]
      have : b * (k + 1 + 1) = b * (k + 1) + b := by rw [Nat.mul_add, Nat.mul_one]
      omega
theorem ch_div {n k : Nat} (h : k ≤ n) : ((ch n k : Int) * ((n : Int) - (k : Int))) / ((k : Int) + 1) = (ch n (k + 1) : Int) := by
  have e := ch_next n k h
  have e1 : ((n : Int) - (k : Int)) = ((n - k : Nat) : Int) := by omega
  have e2 : ((k : Int) + 1) = ((k + 1 : Nat) : Int) := by omega
  rw [e1, e2, ← Int.natCast_mul, ← Int.natCast_ediv, e, Nat.mul_div_cancel _ (by omega)]
/-- picks(total, some) -/
def picks (t s : Int) : Int := if s < 0 ∨ t < s then 0 else ch t.toNat s.toNat
theorem picks_nat (n k : Nat) : picks n k = ch n k := by
  unfold picks
  split
  · rename_i h
    rw [ch_gt (by omega)]
    rfl
  · rfl
/-- a row of Pascal's -/
def prow (k : Nat) : List Int := (List.range (k + 1)).map fun j => (ch k j : Int)
theorem prow_len (k : Nat) : (prow k).length = k + 1 := by simp [prow]
theorem prow_get {k j : Nat} (h : j ≤ k) : (prow k)[j]? = some (ch k j : Int) := by
  unfold prow
  rw [List.getElem?_map, List.getElem?_range (by omega)]
  rfl
theorem prow_next (k : Nat) : prow (k + 1) = [(1 : Int)] ++ (List.range k).map (fun j => (ch k j : Int) + (ch k (j + 1) : Int)) ++ [1] := by
  unfold prow
  rw [List.range_succ, List.map_append, List.range_succ_eq_map, List.map_cons, List.map_map]
  have e : ((fun j => (ch (k + 1) j : Int)) ∘ Nat.succ) = fun j => (ch k j : Int) + (ch k (j + 1) : Int) := by
    funext j
    show ((ch k j + ch k (j + 1) : Nat) : Int) = _
    omega
  rw [e, ch_zero]
  have e2 : (List.map (fun j => (ch (k + 1) j : Int)) [k + 1]) = [1] := by
    show [(ch (k + 1) (k + 1) : Int)] = [1]
    rw [ch_self]
    rfl
  rw [e2]
  rfl
end SC
namespace SC
/-! ### the machine of pairs: things gone through from nought on -/
structure S3 where
  prs : List (Int × Int)
  aln : List Int
  wt : List Int
/-- one thing: a member closes the last that waits, if any; another one waits -/
def stp (b : Bool) (t : Int) (s : S3) : S3 :=
  if b then
    match s.wt.getLast? with
    | some w => ⟨s.prs ++ [(w, t)], s.aln, s.wt.dropLast⟩
    | none => ⟨s.prs, s.aln ++ [t], s.wt⟩
  else ⟨s.prs, s.aln, s.wt ++ [t]⟩
def st (f : Int → Bool) : Nat → S3
  | 0 => ⟨[], [], []⟩
  | i + 1 => stp (f i) i (st f i)
theorem stp_no (t : Int) (s : S3) : stp false t s = ⟨s.prs, s.aln, s.wt ++ [t]⟩ := rfl
theorem stp_alone {t : Int} {s : S3} (h : s.wt = []) : stp true t s = ⟨s.prs, s.aln ++ [t], []⟩ := by
  unfold stp
  rw [h]
  rfl
theorem stp_pop {t w : Int} {s : S3} {r : List Int} (h : s.wt = r ++ [w]) : stp true t s = ⟨s.prs ++ [(w, t)], s.aln, r⟩ := by
  unfold stp
  rw [h]
  simp
theorem snoc_cases {α : Type} (l : List α) : l = [] ∨ ∃ r w, l = r ++ [w] := by
  cases e : l.getLast? with
  | none => exact .inl (List.getLast?_eq_none_iff.mp e)
  | some w =>
    refine .inr ⟨l.dropLast, w, ?_⟩
    have hn : l ≠ [] := fun z => by rw [z] at e; cases e
    have e2 := List.getLast?_eq_some_getLast hn
    rw [e] at e2
    rw [Option.some.inj e2]
    exact (List.dropLast_concat_getLast hn).symm
theorem st_congr {f g : Int → Bool} : ∀ {n : Nat}, (∀ i : Nat, i < n → f i = g i) → st f n = st g n
  | 0, _ => rfl
  | n + 1, h => by
    show stp (f n) n (st f n) = stp (g n) n (st g n)
    rw [h n (by omega), st_congr fun i hi => h i (by omega)]
def firsts (p : List (Int × Int)) : List Int := p.map (·.1)
def seconds (p : List (Int × Int)) : List Int := p.map (·.2)
theorem firsts_snoc (p : List (Int × Int)) (x : Int × Int) : firsts (p ++ [x]) = firsts p ++ [x.1] := by simp [firsts]
theorem seconds_snoc (p : List (Int × Int)) (x : Int × Int) : seconds (p ++ [x]) = seconds p ++ [x.2] := by simp [seconds]

/-- what holds behind i things -/
structure Ok (f : Int → Bool) (i : Nat) (s : S3) : Prop where
  wt : s.wt = (irange i).filter fun x => !f x && !(firsts s.prs).contains x
  aln : s.aln = (irange i).filter fun x => f x && !(seconds s.prs).contains x
  fst : ∀ p ∈ s.prs, 0 ≤ p.1 ∧ p.1 < p.2 ∧ p.2 < i ∧ f p.1 = false ∧ f p.2 = true
  nd1 : (firsts s.prs).Nodup
  nd2 : Up (seconds s.prs)
  sep : ∀ x ∈ s.aln, ∀ y ∈ s.wt, x < y
  sum : 2 * s.prs.length + s.aln.length + s.wt.length = i
theorem mem_firsts {p : List (Int × Int)} {x : Int} : x ∈ firsts p ↔ ∃ y, (x, y) ∈ p := by
  unfold firsts
  rw [List.mem_map]
  constructor
  · rintro ⟨⟨a, b⟩, h, rfl⟩
    exact ⟨b, h⟩
  · rintro ⟨y, h⟩
    exact ⟨(x, y), h, rfl⟩
theorem mem_seconds {p : List (Int × Int)} {x : Int} : x ∈ seconds p ↔ ∃ y, (y, x) ∈ p := by
  unfold seconds
  rw [List.mem_map]
  constructor
  · rintro ⟨⟨a, b⟩, h, rfl⟩
    exact ⟨a, h⟩
  · rintro ⟨y, h⟩
    exact ⟨(y, x), h, rfl⟩
theorem filter_congr' {α : Type} {p q : α → Bool} {l : List α} (h : ∀ x ∈ l, p x = q x) : l.filter p = l.filter q := List.filter_congr h
theorem up_last {r : List Int} {w : Int} (h : Up (r ++ [w])) : (∀ x ∈ r, x < w) ∧ Up r := by
  obtain ⟨h1, _, h3⟩ := List.pairwise_append.mp h
  exact ⟨fun x hx => h3 x hx w (List.mem_singleton.mpr rfl), h1⟩
theorem filter_ne_last {r : List Int} {w : Int} (h : Up (r ++ [w])) : (r ++ [w]).filter (fun x => x != w) = r := by
  obtain ⟨h1, _⟩ := up_last h
  rw [List.filter_append]
  have e1 : r.filter (fun x => x != w) = r := List.filter_eq_self.mpr fun x hx => by
    have := h1 x hx
    simp
    omega
  rw [e1]
  simp
theorem ok_st (f : Int → Bool) : ∀ i : Nat, Ok f i (st f i)
  | 0 => ⟨rfl, rfl, (fun p h => nomatch h), List.nodup_nil, List.Pairwise.nil, (fun x h => nomatch h), rfl⟩
  | i + 1 => by
    have o := ok_st f i
    show Ok f (i + 1) (stp (f i) i (st f i))
    generalize st f i = s at o
    obtain ⟨P, A, W⟩ := s
    obtain ⟨hW, hA, hF, n1, n2, sp, sm⟩ := o
    dsimp only at *
    have mi : ∀ x ∈ irange i, x ≠ (i : Int) := fun x hx e => by
      have := mem_irange.mp hx
      omega
    have bF : (firsts P).contains (i : Int) = false := by
      cases e : (firsts P).contains (i : Int) with
      | false => rfl
      | true =>
        obtain ⟨y, hy⟩ := mem_firsts.mp (List.contains_iff_mem.mp e)
        have := hF _ hy
        dsimp only at this
        omega
    have bS : (seconds P).contains (i : Int) = false := by
      cases e : (seconds P).contains (i : Int) with
      | false => rfl
      | true =>
        obtain ⟨y, hy⟩ := mem_seconds.mp (List.contains_iff_mem.mp e)
        have := hF _ hy
        dsimp only at this
        omega
    have upW : Up W := by
      rw [hW]
      exact up_filter (irange_up i) _
    have memW : ∀ x ∈ W, 0 ≤ x ∧ x < i ∧ f x = false ∧ x ∉ firsts P := fun x hx => by
      rw [hW] at hx
      obtain ⟨h1, h2⟩ := List.mem_filter.mp hx
      rw [Bool.and_eq_true, Bool.not_eq_true', Bool.not_eq_true'] at h2
      have := mem_irange.mp h1
      refine ⟨this.1, this.2, h2.1, fun z => ?_⟩
      have := List.contains_iff_mem.mpr z
      rw [h2.2] at this
      cases this
    have memA : ∀ x ∈ A, x < i := fun x hx => by
      rw [hA] at hx
      exact (mem_irange.mp (List.mem_filter.mp hx).1).2
    cases hf : f i with
    | false =>
      rw [stp_no]
      refine ⟨?_, ?_, fun p hp => ?_, n1, n2, fun x hx y hy => ?_, ?_⟩
      · dsimp only
        rw [irange_succ, List.filter_append, ← hW]
        congr 1
        rw [List.filter_cons, if_pos (by rw [hf, bF]; rfl)]
        rfl
      · dsimp only
        rw [irange_succ, List.filter_append, ← hA]
        rw [List.filter_cons, if_neg (by rw [hf]; simp)]
        simp
      · have := hF p hp
        exact ⟨this.1, this.2.1, by omega, this.2.2.2⟩
      · dsimp only at hx hy
        rcases List.mem_append.mp hy with hy | hy
        · exact sp x hx y hy
        · rw [List.mem_singleton] at hy
          have := memA x hx
          omega
      · dsimp only
        rw [List.length_append, List.length_singleton]
        omega
    | true =>
      rcases snoc_cases W with e | ⟨r, w, e⟩
      · subst e
        rw [stp_alone rfl]
        refine ⟨?_, ?_, fun p hp => ?_, n1, n2, fun x hx y hy => (nomatch hy), ?_⟩
        · dsimp only
          rw [irange_succ, List.filter_append, ← hW]
          rw [List.filter_cons, if_neg (by rw [hf]; simp)]
          rfl
        · dsimp only
          rw [irange_succ, List.filter_append, ← hA]
          congr 1
          rw [List.filter_cons, if_pos (by rw [hf, bS]; rfl)]
          rfl
        · have := hF p hp
          exact ⟨this.1, this.2.1, by omega, this.2.2.2⟩
        · dsimp only at sm ⊢
          rw [List.length_append, List.length_singleton]
          simp only [List.length_nil] at sm ⊢
          omega
      · subst e
        rw [stp_pop rfl]
        have hw := memW w (List.mem_append_right _ (List.mem_singleton.mpr rfl))
        refine ⟨?_, ?_, fun p hp => ?_, ?_, ?_, fun x hx y hy => sp x hx y (List.mem_append_left _ hy), ?_⟩
        · dsimp only
          rw [irange_succ, List.filter_append, firsts_snoc]
          rw [List.filter_cons, if_neg (by rw [hf]; simp), List.filter_nil, List.append_nil]
          have e1 : (irange i).filter (fun x => !f x && !(firsts P ++ [w]).contains x) = ((irange i).filter (fun x => !f x && !(firsts P).contains x)).filter (fun x => x != w) := by
            rw [List.filter_filter]
            refine List.filter_congr fun x hx => ?_
            simp only [List.contains_append, List.contains_cons, List.contains_nil, Bool.or_false]
            show _ = (!(x == w) && (!f x && !(firsts P).contains x))
            generalize f x = a
            generalize (firsts P).contains x = b
            generalize (x == w) = c
            cases a <;> cases b <;> cases c <;> rfl
          rw [e1, ← hW]
          exact (filter_ne_last upW).symm
        · dsimp only
          rw [irange_succ, List.filter_append, seconds_snoc]
          rw [List.filter_cons, if_neg (by simp [List.contains_append]), List.filter_nil, List.append_nil]
          rw [hA]
          refine List.filter_congr fun x hx => ?_
          have nx := mi x hx
          simp only [List.contains_append, List.contains_cons, List.contains_nil, Bool.or_false]
          have : (x == (i : Int)) = false := by simpa using nx
          rw [this, Bool.or_false]
        · dsimp only at hp
          rcases List.mem_append.mp hp with hp | hp
          · have := hF p hp
            exact ⟨this.1, this.2.1, by omega, this.2.2.2⟩
          · rw [List.mem_singleton] at hp
            subst hp
            exact ⟨hw.1, hw.2.1, by dsimp only; omega, hw.2.2.1, hf⟩
        · dsimp only
          rw [firsts_snoc]
          refine List.nodup_append.mpr ⟨n1, by simp, fun a ha b hb e => ?_⟩
          rw [List.mem_singleton] at hb
          subst hb
          exact hw.2.2.2 (e ▸ ha)
        · dsimp only
          rw [seconds_snoc]
          refine List.pairwise_append.mpr ⟨n2, List.pairwise_singleton _ _, fun a ha b hb => ?_⟩
          rw [List.mem_singleton] at hb
          obtain ⟨y, hy⟩ := mem_seconds.mp ha
          have := hF _ hy
          dsimp only at this hb
          omega
        · dsimp only at sm ⊢
          rw [List.length_append, List.length_singleton] at *
          omega
end SC
namespace SC
/-! ### the law's own pairs -/
def free (f : Int → Bool) (cl : List Int) (t : Int) : List Int := (irange t.toNat).filter fun k => !f k && !cl.contains k
def lstep (f : Int → Bool) (found : List (Int × Int)) (t : Int) : List (Int × Int) :=
  match (free f (firsts found) t).getLast? with
  | some w => found ++ [(w, t)]
  | none => found
def lpairs (f : Int → Bool) (ms : List Int) : List (Int × Int) := ms.foldl (lstep f) []
theorem lpairs_eq (f : Int → Bool) : ∀ n : Nat, lpairs f ((irange n).filter f) = (st f n).prs
  | 0 => rfl
  | n + 1 => by
    have o := ok_st f n
    have ih := lpairs_eq f n
    rw [irange_succ, List.filter_append]
    show _ = (stp (f n) n (st f n)).prs
    cases hf : f n with
    | false =>
      rw [List.filter_cons, if_neg (by rw [hf]; simp), List.filter_nil, List.append_nil, ih]
      rfl
    | true =>
      rw [List.filter_cons, if_pos hf, List.filter_nil]
      unfold lpairs at ih ⊢
      rw [List.foldl_append, ih]
      show lstep f (st f n).prs n = _
      unfold lstep
      have e : free f (firsts (st f n).prs) n = (st f n).wt := o.wt.symm
      rw [e]
      rcases snoc_cases (st f n).wt with q | ⟨r, w, q⟩
      · rw [stp_alone q, q]
        rfl
      · rw [stp_pop q, q, List.getLast?_concat]
/-- members by a list -/
def mem (ms : List Int) : Int → Bool := fun x => ms.contains x
theorem mem_true {ms : List Int} {x : Int} : mem ms x = true ↔ x ∈ ms := List.contains_iff_mem
theorem mem_false {ms : List Int} {x : Int} : mem ms x = false ↔ x ∉ ms := by
  cases h : mem ms x with
  | true => simp [mem_true.mp h]
  | false =>
    refine ⟨fun _ q => ?_, fun _ => rfl⟩
    rw [mem_true.mpr q] at h
    cases h
theorem IsSet.eqf {n : Nat} {ms : List Int} (h : IsSet n ms) : (irange n).filter (mem ms) = ms := by
  refine Eq.trans (List.filter_congr fun x _ => ?_) h.eq
  cases q : mem ms x with
  | true => exact (decide_eq_true (mem_true.mp q)).symm
  | false => exact (decide_eq_false (mem_false.mp q)).symm
/-- the machine's state behind all things -/
def fin (n : Nat) (ms : List Int) : S3 := st (mem ms) n
theorem law_pairs {n : Nat} {ms : List Int} (h : IsSet n ms) : lpairs (mem ms) ms = (fin n ms).prs := by
  have e := lpairs_eq (mem ms) n
  rw [h.eqf] at e
  exact e
/-- the law's loose members and loose others -/
def takenBy (ps : List (Int × Int)) (x : Int) : Bool := (firsts ps).contains x || (seconds ps).contains x
theorem law_alone {n : Nat} {ms : List Int} (h : IsSet n ms) : ms.filter (fun x => !takenBy (fin n ms).prs x) = (fin n ms).aln := by
  have o := ok_st (mem ms) n
  have e : (fin n ms).aln = _ := o.aln
  have e2 : ms.filter (fun x => !takenBy (fin n ms).prs x) = ((irange n).filter (mem ms)).filter (fun x => !takenBy (fin n ms).prs x) := by rw [h.eqf]
  rw [e, e2, List.filter_filter]
  refine List.filter_congr fun x _ => ?_
  unfold takenBy
  show (!((firsts (st (mem ms) n).prs).contains x || _) && mem ms x) = (mem ms x && _)
  cases q : mem ms x with
  | false => simp
  | true =>
    have : (firsts (st (mem ms) n).prs).contains x = false := by
      cases z : (firsts (st (mem ms) n).prs).contains x with
      | false => rfl
      | true =>
        obtain ⟨y, hy⟩ := mem_firsts.mp (List.contains_iff_mem.mp z)
        have := (o.fst _ hy).2.2.2.1
        dsimp only at this
        rw [q] at this
        cases this
    rw [this]
    simp
    rfl
theorem law_others {n : Nat} {ms : List Int} (h : IsSet n ms) : (irange n).filter (fun x => !takenBy (fin n ms).prs x && !mem ms x) = (fin n ms).wt := by
  have o := ok_st (mem ms) n
  have e : (fin n ms).wt = _ := o.wt
  rw [e]
  refine List.filter_congr fun x _ => ?_
  unfold takenBy
  show (!(_ || (seconds (st (mem ms) n).prs).contains x) && !mem ms x) = (!mem ms x && !_)
  cases q : mem ms x with
  | true => simp
  | false =>
    have : (seconds (st (mem ms) n).prs).contains x = false := by
      cases z : (seconds (st (mem ms) n).prs).contains x with
      | false => rfl
      | true =>
        obtain ⟨y, hy⟩ := mem_seconds.mp (List.contains_iff_mem.mp z)
        have := (o.fst _ hy).2.2.2.2
        dsimp only at this
        rw [q] at this
        cases this
    rw [this]
    simp
    rfl
theorem fin_aln_set {n : Nat} (ms : List Int) : IsSet n (fin n ms).aln := by
  have o : (fin n ms).aln = _ := (ok_st (mem ms) n).aln
  rw [o]
  exact isSet_of _
theorem fin_wt_set {n : Nat} (ms : List Int) : IsSet n (fin n ms).wt := by
  have o : (fin n ms).wt = _ := (ok_st (mem ms) n).wt
  rw [o]
  exact isSet_of _
end SC
namespace SC
/-! ### chains: the sets of the same pairs -/
theorem aln_mono (f : Int → Bool) (i : Nat) : ∀ d : Nat, (st f i).aln <+: (st f (i + d)).aln
  | 0 => List.prefix_refl _
  | d + 1 => by
    refine (aln_mono f i d).trans ?_
    show _ <+: (stp (f ((i + d : Nat) : Int)) ((i + d : Nat) : Int) (st f (i + d))).aln
    generalize st f (i + d) = s
    cases hf : f ((i + d : Nat) : Int) with
    | false => exact List.prefix_refl _
    | true =>
      rcases snoc_cases s.wt with q | ⟨r, w, q⟩
      · rw [stp_alone q]
        exact List.prefix_append _ _
      · rw [stp_pop q]
        exact List.prefix_refl _
theorem prs_mono (f : Int → Bool) (i : Nat) : ∀ d : Nat, (st f i).prs <+: (st f (i + d)).prs
  | 0 => List.prefix_refl _
  | d + 1 => by
    refine (prs_mono f i d).trans ?_
    show _ <+: (stp (f ((i + d : Nat) : Int)) ((i + d : Nat) : Int) (st f (i + d))).prs
    generalize st f (i + d) = s
    cases hf : f ((i + d : Nat) : Int) with
    | false => exact List.prefix_refl _
    | true =>
      rcases snoc_cases s.wt with q | ⟨r, w, q⟩
      · rw [stp_alone q]
        exact List.prefix_refl _
      · rw [stp_pop q]
        exact List.prefix_append _ _
theorem wt_lt {f : Int → Bool} {i : Nat} {x : Int} (h : x ∈ (st f i).wt) : 0 ≤ x ∧ x < i := by
  rw [(ok_st f i).wt] at h
  exact mem_irange.mp (List.mem_filter.mp h).1
theorem wt_nd (f : Int → Bool) (i : Nat) : (st f i).wt.Nodup := by
  rw [(ok_st f i).wt]
  exact up_nodup (up_filter (irange_up i) _)
/-- what waits below one that waits to the end waits to the end -/
theorem stk {f : Int → Bool} {i : Nat} {U : List Int} {x : Int} : ∀ d : Nat, (U ++ [x]) <+: (st f i).wt → x ∈ (st f (i + d)).wt → (U ++ [x]) <+: (st f (i + d)).wt
  | 0, h, _ => h
  | d + 1, h, hx => by
    have xi : x < i := (wt_lt (h.subset (List.mem_append_right _ (List.mem_singleton.mpr rfl)))).2
    have ih := stk (f := f) (i := i) (U := U) (x := x) d h
    have nd := wt_nd f (i + d)
    have e : st f (i + (d + 1)) = stp (f ((i + d : Nat) : Int)) ((i + d : Nat) : Int) (st f (i + d)) := rfl
    rw [e] at hx ⊢
    generalize st f (i + d) = s at *
    cases hf : f ((i + d : Nat) : Int) with
    | false =>
      rw [hf, stp_no] at hx
      rw [stp_no]
      dsimp only at *
      rcases List.mem_append.mp hx with hx | hx
      · exact (ih hx).trans (List.prefix_append _ _)
      · rw [List.mem_singleton] at hx
        omega
    | true =>
      rw [hf] at hx
      rcases snoc_cases s.wt with q | ⟨r, w, q⟩
      · rw [stp_alone q] at hx
        exact nomatch hx
      · rw [stp_pop q] at hx ⊢
        dsimp only at *
        rw [q] at ih nd
        obtain ⟨V, hV⟩ := ih (List.mem_append_left _ hx)
        rcases snoc_cases V with z | ⟨V', v, z⟩
        · subst z
          rw [List.append_nil] at hV
          have e2 := List.append_inj_right' hV rfl
          have e3 : x = w := by simpa using e2
          subst e3
          have := (List.nodup_append.mp nd).2.2 x hx x (List.mem_singleton.mpr rfl)
          exact absurd rfl this
        · subst z
          rw [← List.append_assoc] at hV
          exact ⟨V', List.append_inj_left' hV rfl⟩
/-- where a thing stands in a rising list -/
theorem up_split {L : List Int} (h : Up L) {x : Int} (hx : x ∈ L) : ∃ b, L = L.filter (fun y => decide (y < x)) ++ x :: b := by
  obtain ⟨a, b, e⟩ := List.append_of_mem hx
  refine ⟨b, ?_⟩
  have ha : L.filter (fun y => decide (y < x)) = a := by
    rw [e] at h
    obtain ⟨h1, h2, h3⟩ := List.pairwise_append.mp h
    obtain ⟨h4, h5⟩ := List.pairwise_cons.mp h2
    rw [e, List.filter_append]
    have e1 : a.filter (fun y => decide (y < x)) = a := List.filter_eq_self.mpr fun y hy => decide_eq_true (h3 y hy x (List.mem_cons_self ..))
    have e2 : (x :: b).filter (fun y => decide (y < x)) = [] := List.filter_eq_nil_iff.mpr fun y hy => by
      rcases List.mem_cons.mp hy with q | q
      · rw [q]; simp
      · have := h4 y q
        simp
        omega
    rw [e1, e2, List.append_nil]
  rw [ha]
  exact e
theorem up_take_mem {L : List Int} (h : Up L) {x : Int} (hx : x ∈ L) (j : Nat) : x ∈ L.take j ↔ (L.filter (fun y => decide (y < x))).length < j := by
  obtain ⟨b, e⟩ := up_split h hx
  generalize L.filter (fun y => decide (y < x)) = a at e
  subst e
  rw [List.take_append, List.mem_append]
  obtain ⟨h1, h2, h3⟩ := List.pairwise_append.mp h
  constructor
  · rintro (q | q)
    · have := h3 x (List.mem_of_mem_take q) x (List.mem_cons_self ..)
      omega
    · by_cases z : a.length < j
      · exact z
      · rw [show j - a.length = 0 by omega] at q
        exact nomatch q
  · intro z
    refine .inr ?_
    obtain ⟨d, hd⟩ : ∃ d, j - a.length = d + 1 := ⟨j - a.length - 1, by omega⟩
    rw [hd]
    exact List.mem_cons_self ..
theorem up_filter_succ {L : List Int} (h : Up L) {i : Nat} (hi : (i : Int) ∈ L) : L.filter (fun y => decide (y < ((i + 1 : Nat) : Int))) = L.filter (fun y => decide (y < (i : Int))) ++ [(i : Int)] := by
  obtain ⟨b, e⟩ := up_split h hi
  have up := h
  rw [e] at up
  obtain ⟨h1, h2, h3⟩ := List.pairwise_append.mp up
  obtain ⟨h4, h5⟩ := List.pairwise_cons.mp h2
  generalize ha : L.filter (fun y => decide (y < (i : Int))) = a at *
  subst e
  rw [List.filter_append]
  have e1 : a.filter (fun y => decide (y < ((i + 1 : Nat) : Int))) = a := List.filter_eq_self.mpr fun y hy => decide_eq_true (by have := h3 y hy i (List.mem_cons_self ..); omega)
  have e2 : ((i : Int) :: b).filter (fun y => decide (y < ((i + 1 : Nat) : Int))) = [(i : Int)] := by
    rw [List.filter_cons, if_pos (decide_eq_true (by omega)), List.filter_eq_nil_iff.mpr fun y hy => by have := h4 y hy; simp; omega]
  rw [e1, e2]
theorem filter_succ_no {L : List Int} {i : Nat} (hi : (i : Int) ∉ L) : L.filter (fun y => decide (y < ((i + 1 : Nat) : Int))) = L.filter (fun y => decide (y < (i : Int))) := by
  refine List.filter_congr fun y hy => ?_
  have ne : y ≠ (i : Int) := fun e => hi (e ▸ hy)
  by_cases z : y < (i : Int)
  · rw [decide_eq_true z, decide_eq_true (by omega)]
  · rw [decide_eq_false z, decide_eq_false (by omega)]
/-- all loose things -/
def lse (s : S3) : List Int := s.aln ++ s.wt
theorem lse_up (f : Int → Bool) (n : Nat) : Up (lse (st f n)) := by
  have o := ok_st f n
  refine List.pairwise_append.mpr ⟨?_, ?_, o.sep⟩
  · rw [o.aln]; exact up_filter (irange_up n) _
  · rw [o.wt]; exact up_filter (irange_up n) _
theorem aln_iff {f : Int → Bool} {n : Nat} {x : Int} : x ∈ (st f n).aln ↔ (0 ≤ x ∧ x < n) ∧ f x = true ∧ x ∉ seconds (st f n).prs := by
  rw [(ok_st f n).aln, List.mem_filter, mem_irange, Bool.and_eq_true, Bool.not_eq_true']
  rw [show ((seconds (st f n).prs).contains x = false ↔ x ∉ seconds (st f n).prs) from mem_false]
theorem wt_iff {f : Int → Bool} {n : Nat} {x : Int} : x ∈ (st f n).wt ↔ (0 ≤ x ∧ x < n) ∧ f x = false ∧ x ∉ firsts (st f n).prs := by
  rw [(ok_st f n).wt, List.mem_filter, mem_irange, Bool.and_eq_true, Bool.not_eq_true', Bool.not_eq_true']
  rw [show ((firsts (st f n).prs).contains x = false ↔ x ∉ firsts (st f n).prs) from mem_false]
theorem firsts_sub {p q : List (Int × Int)} (h : p <+: q) {x : Int} (hx : x ∈ firsts p) : x ∈ firsts q := by
  obtain ⟨y, hy⟩ := mem_firsts.mp hx
  exact mem_firsts.mpr ⟨y, h.subset hy⟩
theorem seconds_sub {p q : List (Int × Int)} (h : p <+: q) {x : Int} (hx : x ∈ seconds p) : x ∈ seconds q := by
  obtain ⟨y, hy⟩ := mem_seconds.mp hx
  exact mem_seconds.mpr ⟨y, h.subset hy⟩
/-- the member test of the set with the first j of the loose things, and f's paired members -/
def flip (f : Int → Bool) (L : List Int) (j : Nat) : Int → Bool := fun x => if L.contains x then (L.take j).contains x else f x
theorem flip_in {f : Int → Bool} {L : List Int} {j : Nat} {x : Int} (h : x ∈ L) : flip f L j x = (L.take j).contains x := if_pos (List.contains_iff_mem.mpr h)
theorem flip_out {f : Int → Bool} {L : List Int} {j : Nat} {x : Int} (h : x ∉ L) : flip f L j x = f x := if_neg fun z => h (List.contains_iff_mem.mp z)
/-- THE CHAIN: the set with the first j loose things has the same pairs -/
theorem chain_st (f : Int → Bool) (n j : Nat) : st (flip f (lse (st f n)) j) n = ⟨(st f n).prs, (lse (st f n)).take j, (lse (st f n)).drop j⟩ := by
  have on := ok_st f n
  have upL := lse_up f n
  have memL : ∀ x, x ∈ lse (st f n) ↔ x ∈ (st f n).aln ∨ x ∈ (st f n).wt := fun x => List.mem_append
  generalize hL : lse (st f n) = L at *
  have main : ∀ i : Nat, i ≤ n → ∃ wl pd : List Int, (st f i).wt = wl ++ pd ∧ (∀ x ∈ wl, x ∈ L) ∧ (∀ x ∈ pd, x ∉ L) ∧ L.filter (fun y => decide (y < (i : Int))) = (st f i).aln ++ wl ∧
      st (flip f L j) i = ⟨(st f i).prs, (L.filter (fun y => decide (y < (i : Int)))).take j, (L.filter (fun y => decide (y < (i : Int)))).drop j ++ pd⟩ := by
    intro i
    induction i with
    | zero =>
      intro _
      have e : L.filter (fun y => decide (y < ((0 : Nat) : Int))) = [] := List.filter_eq_nil_iff.mpr fun y hy => by
        rcases (memL y).mp hy with q | q
        · have := (aln_iff.mp q).1
          simp
          omega
        · have := (wt_iff.mp q).1
          simp
          omega
      exact ⟨[], [], rfl, (fun x h => nomatch h), (fun x h => nomatch h), e, by rw [e]; simp; rfl⟩
    | succ i ih =>
      intro hi
      obtain ⟨wl, pd, eW, hwl, hpd, eL, eS⟩ := ih (by omega)
      obtain ⟨d, hd⟩ : ∃ d, n = (i + 1) + d := ⟨n - (i + 1), by omega⟩
      have sP : (st f (i + 1)).prs <+: (st f n).prs := by rw [hd]; exact prs_mono f (i + 1) d
      have sA : (st f (i + 1)).aln <+: (st f n).aln := by rw [hd]; exact aln_mono f (i + 1) d
      have e1 : st f (i + 1) = stp (f i) i (st f i) := rfl
      have e2 : st (flip f L j) (i + 1) = stp (flip f L j i) i (st (flip f L j) i) := rfl
      rw [e2, eS]
      cases hf : f i with
      | false =>
        rw [hf, stp_no] at e1
        by_cases hiL : (i : Int) ∈ L
        · -- it waits to the end: nothing that closes later waits below it
          have iw : (i : Int) ∈ (st f n).wt := by
            rcases (memL i).mp hiL with q | q
            · have := (aln_iff.mp q).2.1
              rw [hf] at this
              cases this
            · exact q
          have pd0 : pd = [] := by
            cases pd with
            | nil => rfl
            | cons y r =>
              have pre : ((st f i).wt ++ [(i : Int)]) <+: (st f (i + 1)).wt := by rw [e1]; exact List.prefix_refl _
              have := stk (f := f) (i := i + 1) (U := (st f i).wt) (x := i) d pre (by rw [← hd]; exact iw)
              rw [← hd, eW] at this
              have hy : y ∈ (st f n).wt := this.subset (List.mem_append_left _ (List.mem_append_right _ (List.mem_cons_self ..)))
              exact absurd ((memL y).mpr (.inr hy)) (hpd y (List.mem_cons_self ..))
          subst pd0
          rw [List.append_nil] at eW
          have eL2 := up_filter_succ upL hiL
          refine ⟨wl ++ [(i : Int)], [], ?_, ?_, (fun x h => nomatch h), ?_, ?_⟩
          · rw [e1, List.append_nil]
            show (st f i).wt ++ [(i : Int)] = _
            rw [eW]
          · intro x hx
            rcases List.mem_append.mp hx with q | q
            · exact hwl x q
            · rw [List.mem_singleton] at q
              rw [q]
              exact hiL
          · rw [eL2, eL, e1, List.append_assoc]
          · rw [flip_in hiL, e1, eL2]
            have tm := up_take_mem upL hiL j
            generalize L.filter (fun y => decide (y < (i : Int))) = Li at *
            cases hc : (L.take j).contains (i : Int) with
            | true =>
              have lt := tm.mp (List.contains_iff_mem.mp hc)
              rw [stp_alone (by dsimp only; rw [List.drop_of_length_le (by omega)]; rfl)]
              dsimp only
              rw [List.take_of_length_le (by omega), List.take_of_length_le (by rw [List.length_append, List.length_singleton]; omega), List.drop_of_length_le (by rw [List.length_append, List.length_singleton]; omega)]
              rfl
            | false =>
              have ge : ¬ Li.length < j := fun z => by
                rw [List.contains_iff_mem.mpr (tm.mpr z)] at hc
                cases hc
              rw [stp_no]
              dsimp only
              rw [List.take_append_of_le_length (by omega), List.drop_append_of_le_length (by omega), List.append_nil, List.append_nil]
        · refine ⟨wl, pd ++ [(i : Int)], ?_, hwl, ?_, ?_, ?_⟩
          · rw [e1]
            show (st f i).wt ++ [(i : Int)] = _
            rw [eW, List.append_assoc]
          · intro x hx
            rcases List.mem_append.mp hx with q | q
            · exact hpd x q
            · rw [List.mem_singleton] at q
              rw [q]
              exact hiL
          · rw [filter_succ_no hiL, eL, e1]
          · rw [flip_out hiL, hf, stp_no, filter_succ_no hiL, e1]
            dsimp only
            rw [List.append_assoc]
      | true =>
        rw [hf] at e1
        rcases snoc_cases (st f i).wt with q | ⟨r, w, q⟩
        · rw [stp_alone q] at e1
          rw [q] at eW
          obtain ⟨rfl, rfl⟩ := List.append_eq_nil_iff.mp eW.symm
          rw [List.append_nil] at eL
          have iA : (i : Int) ∈ (st f n).aln := sA.subset (by rw [e1]; exact List.mem_append_right _ (List.mem_singleton.mpr rfl))
          have hiL : (i : Int) ∈ L := (memL i).mpr (.inl iA)
          have eL2 := up_filter_succ upL hiL
          refine ⟨[], [], by rw [e1]; rfl, (fun x h => nomatch h), (fun x h => nomatch h), by rw [eL2, eL, e1, List.append_nil], ?_⟩
          rw [flip_in hiL, e1, eL2]
          have tm := up_take_mem upL hiL j
          generalize L.filter (fun y => decide (y < (i : Int))) = Li at *
          cases hc : (L.take j).contains (i : Int) with
          | true =>
            have lt := tm.mp (List.contains_iff_mem.mp hc)
            rw [stp_alone (by dsimp only; rw [List.drop_of_length_le (by omega)]; rfl)]
            dsimp only
            rw [List.take_of_length_le (by omega), List.take_of_length_le (by rw [List.length_append, List.length_singleton]; omega), List.drop_of_length_le (by rw [List.length_append, List.length_singleton]; omega)]
            rfl
          | false =>
            have ge : ¬ Li.length < j := fun z => by
              rw [List.contains_iff_mem.mpr (tm.mpr z)] at hc
              cases hc
            rw [stp_no]
            dsimp only
            rw [List.take_append_of_le_length (by omega), List.drop_append_of_le_length (by omega), List.append_nil, List.append_nil]
        · rw [stp_pop q] at e1
          have wF : w ∈ firsts (st f n).prs := firsts_sub sP (by rw [e1]; exact mem_firsts.mpr ⟨i, List.mem_append_right _ (List.mem_singleton.mpr rfl)⟩)
          have iS : (i : Int) ∈ seconds (st f n).prs := seconds_sub sP (by rw [e1]; exact mem_seconds.mpr ⟨w, List.mem_append_right _ (List.mem_singleton.mpr rfl)⟩)
          have wL : w ∉ L := fun z => by
            rcases (memL w).mp z with z | z
            · obtain ⟨y, hy⟩ := mem_firsts.mp wF
              have h1 := (on.fst _ hy).2.2.2.1
              have h2 := (aln_iff.mp z).2.1
              dsimp only at h1
              rw [h1] at h2
              cases h2
            · exact (wt_iff.mp z).2.2 wF
          have iL : (i : Int) ∉ L := fun z => by
            rcases (memL i).mp z with z | z
            · exact (aln_iff.mp z).2.2 iS
            · have h2 := (wt_iff.mp z).2.1
              rw [hf] at h2
              cases h2
          rcases snoc_cases pd with z | ⟨pd', w', z⟩
          · subst z
            rw [List.append_nil] at eW
            exact absurd (hwl w (by rw [← eW, q]; exact List.mem_append_right _ (List.mem_singleton.mpr rfl))) wL
          · subst z
            rw [q, ← List.append_assoc] at eW
            have ew : w = w' := by simpa using List.append_inj_right' eW rfl
            have er : r = wl ++ pd' := List.append_inj_left' eW rfl
            subst ew
            refine ⟨wl, pd', ?_, hwl, fun x hx => hpd x (List.mem_append_left _ hx), ?_, ?_⟩
            · rw [e1]
              exact er
            · rw [filter_succ_no iL, eL, e1]
            · rw [flip_out iL, hf, stp_pop (r := (L.filter (fun y => decide (y < (i : Int)))).drop j ++ pd') (w := w) (by dsimp only; rw [List.append_assoc]), filter_succ_no iL, e1]
  obtain ⟨wl, pd, eW, hwl, hpd, eL, eS⟩ := main n (Nat.le_refl n)
  have pd0 : pd = [] := by
    cases pd with
    | nil => rfl
    | cons y r => exact absurd ((memL y).mpr (.inr (by rw [eW]; exact List.mem_append_right _ (List.mem_cons_self ..)))) (hpd y (List.mem_cons_self ..))
  subst pd0
  rw [List.append_nil] at eW
  have eLn : L.filter (fun y => decide (y < (n : Int))) = L := by
    rw [eL, ← eW]
    exact hL
  rw [eLn, List.append_nil] at eS
  exact eS
end SC
namespace SC
/-! ### the sets of a chain -/
theorem mem_filter_irange {n : Nat} {p : Int → Bool} {i : Nat} (h : i < n) : mem ((irange n).filter p) (i : Int) = p i := by
  cases e : p (i : Int) with
  | true => exact mem_true.mpr (List.mem_filter.mpr ⟨mem_irange.mpr (by omega), e⟩)
  | false =>
    refine mem_false.mpr fun z => ?_
    have := (List.mem_filter.mp z).2
    rw [e] at this
    cases this
def loo (n : Nat) (ms : List Int) : List Int := lse (fin n ms)
/-- the set of its chain with the first j of the loose things -/
def cset (n : Nat) (ms : List Int) (j : Nat) : List Int := (irange n).filter (flip (mem ms) (loo n ms) j)
theorem cset_set (n : Nat) (ms : List Int) (j : Nat) : IsSet n (cset n ms j) := isSet_of _
theorem cset_fin (n : Nat) (ms : List Int) (j : Nat) : fin n (cset n ms j) = ⟨(fin n ms).prs, (loo n ms).take j, (loo n ms).drop j⟩ := by
  unfold fin cset
  rw [st_congr fun i hi => mem_filter_irange hi]
  exact chain_st (mem ms) n j
theorem cset_loo (n : Nat) (ms : List Int) (j : Nat) : loo n (cset n ms j) = loo n ms := by
  unfold loo lse
  rw [cset_fin]
  dsimp only
  rw [List.take_append_drop]
  rfl
theorem loo_up (n : Nat) (ms : List Int) : Up (loo n ms) := lse_up (mem ms) n
theorem loo_mem {n : Nat} {ms : List Int} {x : Int} : x ∈ loo n ms ↔ x ∈ (fin n ms).aln ∨ x ∈ (fin n ms).wt := List.mem_append
theorem loo_len (n : Nat) (ms : List Int) : (loo n ms).length = (fin n ms).aln.length + (fin n ms).wt.length := List.length_append
theorem fin_sum (n : Nat) (ms : List Int) : 2 * (fin n ms).prs.length + (fin n ms).aln.length + (fin n ms).wt.length = n := (ok_st (mem ms) n).sum
theorem fin_aln_iff {n : Nat} {ms : List Int} {x : Int} : x ∈ (fin n ms).aln ↔ (0 ≤ x ∧ x < n) ∧ x ∈ ms ∧ x ∉ seconds (fin n ms).prs := by
  unfold fin
  rw [aln_iff, mem_true]
theorem fin_wt_iff {n : Nat} {ms : List Int} {x : Int} : x ∈ (fin n ms).wt ↔ (0 ≤ x ∧ x < n) ∧ x ∉ ms ∧ x ∉ firsts (fin n ms).prs := by
  unfold fin
  rw [wt_iff, mem_false]
theorem cset_mem {n : Nat} {ms : List Int} {j : Nat} {x : Int} : x ∈ cset n ms j ↔ (0 ≤ x ∧ x < n) ∧ ((x ∈ loo n ms ∧ x ∈ (loo n ms).take j) ∨ (x ∉ loo n ms ∧ x ∈ ms)) := by
  unfold cset
  rw [List.mem_filter, mem_irange]
  by_cases h : x ∈ loo n ms
  · rw [flip_in h, List.contains_iff_mem]
    simp [h]
  · rw [flip_out h, mem_true]
    simp [h]
theorem cset_self {n : Nat} {ms : List Int} (h : IsSet n ms) : cset n ms (fin n ms).aln.length = ms := by
  refine up_ext (cset_set n ms _).up h.up fun x => ?_
  have et : (loo n ms).take (fin n ms).aln.length = (fin n ms).aln := List.take_left' rfl
  rw [cset_mem, et]
  constructor
  · rintro ⟨_, ⟨_, q⟩ | ⟨_, q⟩⟩
    · exact (fin_aln_iff.mp q).2.1
    · exact q
  · intro q
    refine ⟨⟨h.lo x q, h.hi x q⟩, ?_⟩
    by_cases z : x ∈ loo n ms
    · refine .inl ⟨z, ?_⟩
      rcases loo_mem.mp z with z | z
      · exact z
      · exact absurd q (fin_wt_iff.mp z).2.1
    · exact .inr ⟨z, q⟩
theorem loo_bd {n : Nat} {ms : List Int} {x : Int} (h : x ∈ loo n ms) : 0 ≤ x ∧ x < n := by
  rcases loo_mem.mp h with z | z
  · exact (fin_aln_iff.mp z).1
  · exact (fin_wt_iff.mp z).1
/-- one thing more -/
theorem cset_next {n : Nat} {ms : List Int} {j : Nat} {x : Int} (h : (loo n ms)[j]? = some x) : isort (cset n ms j ++ [x]) = cset n ms (j + 1) := by
  have hx : x ∈ loo n ms := List.mem_of_getElem? h
  have et : (loo n ms).take (j + 1) = (loo n ms).take j ++ [x] := by
    rw [List.take_add_one, h]
    rfl
  have nx : x ∉ (loo n ms).take j := by
    have u := up_take (loo_up n ms) (j + 1)
    rw [et] at u
    intro z
    have := (up_last u).1 x z
    omega
  have nd : (cset n ms j ++ [x]).Nodup := by
    refine List.nodup_append.mpr ⟨up_nodup (cset_set n ms j).up, by simp, fun a ha b hb e => ?_⟩
    rw [List.mem_singleton] at hb
    subst hb e
    rcases (cset_mem.mp ha).2 with ⟨_, q⟩ | ⟨q, _⟩
    · exact nx q
    · exact q hx
  refine up_ext (isort_up nd) (cset_set n ms _).up fun y => ?_
  rw [isort_mem, List.mem_append, List.mem_singleton, cset_mem, cset_mem, et, List.mem_append, List.mem_singleton]
  constructor
  · rintro (⟨a, ⟨b, c⟩ | ⟨b, c⟩⟩ | rfl)
    · exact ⟨a, .inl ⟨b, .inl c⟩⟩
    · exact ⟨a, .inr ⟨b, c⟩⟩
    · exact ⟨loo_bd hx, .inl ⟨hx, .inr rfl⟩⟩
  · rintro ⟨a, ⟨b, c | c⟩ | ⟨b, c⟩⟩
    · exact .inl ⟨a, .inl ⟨b, c⟩⟩
    · exact .inr c
    · exact .inl ⟨a, .inr ⟨b, c⟩⟩
/-- one thing less -/
theorem cset_prev {n : Nat} {ms : List Int} {j : Nat} {x : Int} (h : (loo n ms)[j]? = some x) : (cset n ms (j + 1)).filter (fun y => y != x) = cset n ms j := by
  have hx : x ∈ loo n ms := List.mem_of_getElem? h
  have et : (loo n ms).take (j + 1) = (loo n ms).take j ++ [x] := by
    rw [List.take_add_one, h]
    rfl
  have nx : x ∉ (loo n ms).take j := by
    have u := up_take (loo_up n ms) (j + 1)
    rw [et] at u
    intro z
    have := (up_last u).1 x z
    omega
  refine up_ext (up_filter (cset_set n ms _).up _) (cset_set n ms _).up fun y => ?_
  rw [List.mem_filter, cset_mem, cset_mem, et, List.mem_append, List.mem_singleton]
  have ne : (y != x) = true ↔ y ≠ x := by simp
  rw [ne]
  constructor
  · rintro ⟨⟨a, ⟨b, c | c⟩ | ⟨b, c⟩⟩, d⟩
    · exact ⟨a, .inl ⟨b, c⟩⟩
    · exact absurd c d
    · exact ⟨a, .inr ⟨b, c⟩⟩
  · rintro ⟨a, ⟨b, c⟩ | ⟨b, c⟩⟩
    · exact ⟨⟨a, .inl ⟨b, .inl c⟩⟩, fun e => nx (e ▸ c)⟩
    · exact ⟨⟨a, .inr ⟨b, c⟩⟩, fun e => b (e ▸ hx)⟩
theorem cset_cset (n : Nat) (ms : List Int) (j i : Nat) : cset n (cset n ms j) i = cset n ms i := by
  refine up_ext (cset_set _ _ _).up (cset_set _ _ _).up fun x => ?_
  rw [cset_mem, cset_mem, cset_loo, cset_mem]
  constructor
  · rintro ⟨a, b | ⟨b, c⟩⟩
    · exact ⟨a, .inl b⟩
    · rcases c.2 with ⟨d, _⟩ | ⟨_, d⟩
      · exact absurd d b
      · exact ⟨a, .inr ⟨b, d⟩⟩
  · rintro ⟨a, b | ⟨b, c⟩⟩
    · exact ⟨a, .inl b⟩
    · exact ⟨a, .inr ⟨b, a, .inr ⟨b, c⟩⟩⟩
theorem cset_zero {n : Nat} {ms : List Int} (h : IsSet n ms) : ms.filter (fun x => !(fin n ms).aln.contains x) = cset n ms 0 := by
  refine up_ext (up_filter h.up _) (cset_set _ _ _).up fun x => ?_
  rw [List.mem_filter, cset_mem, Bool.not_eq_true', show ((fin n ms).aln.contains x = false ↔ x ∉ (fin n ms).aln) from mem_false, List.take_zero]
  constructor
  · rintro ⟨a, b⟩
    refine ⟨⟨h.lo x a, h.hi x a⟩, .inr ⟨fun z => ?_, a⟩⟩
    rcases loo_mem.mp z with z | z
    · exact b z
    · exact (fin_wt_iff.mp z).2.1 a
  · rintro ⟨a, ⟨_, b⟩ | ⟨b, c⟩⟩
    · exact nomatch b
    · exact ⟨c, fun z => b (loo_mem.mpr (.inl z))⟩
/-- how many things are in it -/
theorem set_len {n : Nat} {ms : List Int} (h : IsSet n ms) : ms.length = (fin n ms).prs.length + (fin n ms).aln.length := by
  have o := ok_st (mem ms) n
  have e1 : (seconds (fin n ms).prs).length = (fin n ms).prs.length := List.length_map _
  have p : (seconds (fin n ms).prs ++ (fin n ms).aln).Perm ms := by
    refine (List.perm_ext_iff_of_nodup ?_ (up_nodup h.up)).mpr fun x => ?_
    · refine List.nodup_append.mpr ⟨up_nodup o.nd2, up_nodup (fin_aln_set ms).up, fun a ha b hb e => ?_⟩
      subst e
      exact (fin_aln_iff.mp hb).2.2 ha
    · rw [List.mem_append, fin_aln_iff]
      constructor
      · rintro (q | q)
        · obtain ⟨y, hy⟩ := mem_seconds.mp q
          exact mem_true.mp (o.fst _ hy).2.2.2.2
        · exact q.2.1
      · intro q
        by_cases z : x ∈ seconds (fin n ms).prs
        · exact .inl z
        · exact .inr ⟨⟨h.lo x q, h.hi x q⟩, q, z⟩
  have := p.length_eq
  rw [List.length_append, e1] at this
  exact this.symm
theorem cset_len {n : Nat} {ms : List Int} {j : Nat} (h : j ≤ (loo n ms).length) : (cset n ms j).length = (fin n ms).prs.length + j := by
  rw [set_len (cset_set n ms j), cset_fin]
  dsimp only
  rw [List.length_take, Nat.min_eq_left h]
/-- the set above, the set below -/
def aboveL (n : Nat) (ms : List Int) : Option (List Int) := match (fin n ms).wt with
  | [] => none
  | w :: _ => some (isort (ms ++ [w]))
def belowL (n : Nat) (ms : List Int) : Option (List Int) := match (fin n ms).aln.getLast? with
  | none => none
  | some x => some (ms.filter fun y => y != x)
theorem aboveL_nil {n : Nat} {ms : List Int} (h : (fin n ms).wt = []) : aboveL n ms = none := by unfold aboveL; rw [h]
theorem aboveL_cons {n : Nat} {ms r : List Int} {w : Int} (h : (fin n ms).wt = w :: r) : aboveL n ms = some (isort (ms ++ [w])) := by unfold aboveL; rw [h]
theorem belowL_nil {n : Nat} {ms : List Int} (h : (fin n ms).aln = []) : belowL n ms = none := by unfold belowL; rw [h]; rfl
theorem belowL_snoc {n : Nat} {ms r : List Int} {x : Int} (h : (fin n ms).aln = r ++ [x]) : belowL n ms = some (ms.filter fun y => y != x) := by unfold belowL; rw [h, List.getLast?_concat]
theorem aboveL_cset {n : Nat} {ms : List Int} (h : IsSet n ms) {w : Int} {r : List Int} (e : (fin n ms).wt = w :: r) : isort (ms ++ [w]) = cset n ms ((fin n ms).aln.length + 1) := by
  have g : (loo n ms)[(fin n ms).aln.length]? = some w := by
    show ((fin n ms).aln ++ (fin n ms).wt)[_]? = _
    rw [e, List.getElem?_append_right (Nat.le_refl _), Nat.sub_self]
    rfl
  have := cset_next g
  rw [cset_self h] at this
  exact this
theorem belowL_cset {n : Nat} {ms : List Int} (h : IsSet n ms) {x : Int} {r : List Int} (e : (fin n ms).aln = r ++ [x]) : ms.filter (fun y => y != x) = cset n ms r.length := by
  have g : (loo n ms)[r.length]? = some x := by
    show ((fin n ms).aln ++ (fin n ms).wt)[_]? = _
    rw [e, List.append_assoc, List.getElem?_append_right (Nat.le_refl _), Nat.sub_self]
    rfl
  have := cset_prev g
  have el : (fin n ms).aln.length = r.length + 1 := by rw [e, List.length_append, List.length_singleton]
  rw [← el, cset_self h] at this
  exact this
/-- up, then down -/
theorem below_above {n : Nat} {ms u : List Int} (h : IsSet n ms) (e : aboveL n ms = some u) : IsSet n u ∧ belowL n u = some ms := by
  cases hw : (fin n ms).wt with
  | nil => rw [aboveL_nil hw] at e; cases e
  | cons w r =>
    rw [aboveL_cons hw] at e
    cases e
    rw [aboveL_cset h hw]
    have g : (loo n ms)[(fin n ms).aln.length]? = some w := by
      show ((fin n ms).aln ++ (fin n ms).wt)[_]? = _
      rw [hw, List.getElem?_append_right (Nat.le_refl _), Nat.sub_self]
      rfl
    refine ⟨cset_set _ _ _, ?_⟩
    have ea : (fin n (cset n ms ((fin n ms).aln.length + 1))).aln = (loo n ms).take (fin n ms).aln.length ++ [w] := by
      rw [cset_fin]
      dsimp only
      rw [List.take_add_one, g]
      rfl
    rw [belowL_snoc ea, cset_prev g, cset_self h]
theorem above_below {n : Nat} {ms u : List Int} (h : IsSet n ms) (e : belowL n ms = some u) : IsSet n u ∧ aboveL n u = some ms := by
  rcases snoc_cases (fin n ms).aln with ha | ⟨r, x, ha⟩
  · rw [belowL_nil ha] at e; cases e
  · rw [belowL_snoc ha] at e
    cases e
    rw [belowL_cset h ha]
    have g : (loo n ms)[r.length]? = some x := by
      show ((fin n ms).aln ++ (fin n ms).wt)[_]? = _
      rw [ha, List.append_assoc, List.getElem?_append_right (Nat.le_refl _), Nat.sub_self]
      rfl
    refine ⟨cset_set _ _ _, ?_⟩
    have ew : (fin n (cset n ms r.length)).wt = x :: (loo n ms).drop (r.length + 1) := by
      rw [cset_fin]
      dsimp only
      rw [List.drop_eq_getElem?_toList_append, g]
      rfl
    have el : (fin n ms).aln.length = r.length + 1 := by rw [ha, List.length_append, List.length_singleton]
    rw [aboveL_cons ew, cset_next g, ← el, cset_self h]
end SC
namespace SC
/-- the chain -/
def chainL (n : Nat) (ms : List Int) : List (List Int) := (List.range ((loo n ms).length + 1)).map (cset n ms)
theorem chainL_len (n : Nat) (ms : List Int) : (chainL n ms).length = (loo n ms).length + 1 := by simp [chainL]
theorem chainL_get {n : Nat} {ms : List Int} {j : Nat} (h : j ≤ (loo n ms).length) : (chainL n ms)[j]? = some (cset n ms j) := by
  unfold chainL
  rw [List.getElem?_map, List.getElem?_range (by omega)]
  rfl
theorem chainL_mem {n : Nat} {ms r : List Int} (h : r ∈ chainL n ms) : ∃ j, j ≤ (loo n ms).length ∧ r = cset n ms j := by
  obtain ⟨j, hj, e⟩ := List.mem_map.mp h
  exact ⟨j, by have := List.mem_range.mp hj; omega, e.symm⟩
theorem chainL_cset (n : Nat) (ms : List Int) (j : Nat) : chainL n (cset n ms j) = chainL n ms := by
  unfold chainL
  rw [cset_loo]
  refine List.map_congr_left fun i _ => cset_cset n ms j i
theorem chainL_self {n : Nat} {ms : List Int} (h : IsSet n ms) : ms ∈ chainL n ms := by
  have l := loo_len n ms
  have g := chainL_get (n := n) (ms := ms) (j := (fin n ms).aln.length) (by omega)
  rw [cset_self h] at g
  exact List.mem_of_getElem? g
/-- what is in the next set alone -/
theorem cset_more {n : Nat} {ms : List Int} {j : Nat} {x : Int} (h : (loo n ms)[j]? = some x) : (cset n ms (j + 1)).filter (fun y => !(cset n ms j).contains y) = [x] := by
  have hx : x ∈ loo n ms := List.mem_of_getElem? h
  have et : (loo n ms).take (j + 1) = (loo n ms).take j ++ [x] := by
    rw [List.take_add_one, h]
    rfl
  have nx : x ∉ (loo n ms).take j := by
    have u := up_take (loo_up n ms) (j + 1)
    rw [et] at u
    intro z
    have := (up_last u).1 x z
    omega
  refine up_ext (up_filter (cset_set _ _ _).up _) (List.pairwise_singleton _ _) fun y => ?_
  rw [List.mem_filter, Bool.not_eq_true', show ((cset n ms j).contains y = false ↔ y ∉ cset n ms j) from mem_false, List.mem_singleton, cset_mem, cset_mem, et, List.mem_append, List.mem_singleton]
  constructor
  · rintro ⟨⟨a, ⟨b, c | c⟩ | ⟨b, c⟩⟩, d⟩
    · exact absurd ⟨a, .inl ⟨b, c⟩⟩ d
    · exact c
    · exact absurd ⟨a, .inr ⟨b, c⟩⟩ d
  · rintro rfl
    refine ⟨⟨loo_bd hx, .inl ⟨hx, .inr rfl⟩⟩, ?_⟩
    rintro ⟨_, ⟨_, c⟩ | ⟨c, _⟩⟩
    · exact nx c
    · exact c hx
end SC
namespace SC
/-! ### the clash of a family -/
def subL (xs ys : List Int) : Bool := xs.all fun x => ys.contains x
def hit (rows : List (List Int)) (k j : Nat) : Bool := (k != j) && subL (rows.getD k []) (rows.getD j [])
def NoHit (rows : List (List Int)) : Prop := ∀ k j, k < rows.length → j < rows.length → hit rows k j = false
structure First (rows : List (List Int)) (k j : Nat) : Prop where
  hk : k < rows.length
  hj : j < rows.length
  hit : hit rows k j = true
  less : ∀ k' j', k' < k → j' < rows.length → SC.hit rows k' j' = false
  lessj : ∀ j', j' < j → SC.hit rows k j' = false
theorem First.uniq {rows : List (List Int)} {k j k' j' : Nat} (a : First rows k j) (b : First rows k' j') : k = k' ∧ j = j' := by
  have hk : k = k' := by
    rcases Nat.lt_trichotomy k k' with h | h | h
    · have := b.less k j h a.hj
      rw [a.hit] at this
      cases this
    · exact h
    · have := a.less k' j' h b.hj
      rw [b.hit] at this
      cases this
  subst hk
  refine ⟨rfl, ?_⟩
  rcases Nat.lt_trichotomy j j' with h | h | h
  · have := b.lessj j h
    rw [a.hit] at this
    cases this
  · exact h
  · have := a.lessj j' h
    rw [b.hit] at this
    cases this
theorem First.no {rows : List (List Int)} {k j : Nat} (a : First rows k j) (h : NoHit rows) : False := by
  have := h k j a.hk a.hj
  rw [a.hit] at this
  cases this
theorem hit_of {rows : List (List Int)} {k j : Nat} {r t : List Int} (h1 : rows[k]? = some r) (h2 : rows[j]? = some t) : hit rows k j = ((k != j) && subL r t) := by
  unfold hit
  rw [List.getD_eq_getElem?_getD, List.getD_eq_getElem?_getD, h1, h2]
  rfl
theorem subL_iff {xs ys : List Int} : subL xs ys = true ↔ ∀ x ∈ xs, x ∈ ys := by
  unfold subL
  rw [List.all_eq_true]
  constructor
  · intro h x hx
    exact List.contains_iff_mem.mp (h x hx)
  · intro h x hx
    exact List.contains_iff_mem.mpr (h x hx)
end SC
namespace SC
/-! ### numbers of the bottoms -/
theorem pk_pascal {r : Nat} (c : Int) : picks ((r : Int) + 1) c = picks r c + picks r (c - 1) := by
  by_cases h : c < 0
  · unfold picks
    rw [if_pos (.inl h), if_pos (.inl h), if_pos (.inl (by omega))]
    rfl
  · obtain ⟨k, rfl⟩ : ∃ k : Nat, c = (k : Int) := ⟨c.toNat, by omega⟩
    have e : ((r : Int) + 1) = ((r + 1 : Nat) : Int) := by omega
    rw [e, picks_nat, picks_nat]
    cases k with
    | zero =>
      rw [ch_zero, ch_zero]
      unfold picks
      rw [if_pos (.inl (by omega))]
      rfl
    | succ k =>
      have e2 : (((k + 1 : Nat) : Int) - 1) = (k : Int) := by omega
      rw [e2, picks_nat]
      show ((ch r k + ch r (k + 1) : Nat) : Int) = _
      omega
theorem pk_neg {t c : Int} (h : c < 0) : picks t c = 0 := if_pos (.inl h)
/-- rows of so many things, so many of them closing, where so many wait -/
def en (r c w : Int) : Int := picks r c - picks r (c - w - 1)
theorem en_step {r : Nat} (c w : Int) : en ((r : Int) + 1) c w = en r c (w + 1) + en r (c - 1) (w - 1) := by
  unfold en
  rw [pk_pascal, pk_pascal]
  have e1 : c - (w + 1) - 1 = c - w - 1 - 1 := by omega
  have e2 : c - 1 - (w - 1) - 1 = c - w - 1 := by omega
  rw [e1, e2]
  omega
theorem en_off (r c : Int) : en r c (-1) = 0 := by
  unfold en
  rw [show c - -1 - 1 = c by omega]
  omega
theorem pk_zero (c : Int) : picks 0 c = if c = 0 then 1 else 0 := by
  by_cases h : c = 0
  · subst h
    rfl
  · rw [if_neg h]
    exact if_pos (by omega)
theorem en_zero {c w : Int} (hw : 0 ≤ w) (h : 0 ≤ w - 2 * c) : en 0 c w = if c = 0 then 1 else 0 := by
  unfold en
  rw [pk_zero, pk_zero, if_neg (show ¬ c - w - 1 = 0 by omega)]
  omega
theorem en_nn : ∀ (r : Nat) (c w : Int), -1 ≤ w → -1 ≤ w + r - 2 * c → 0 ≤ en r c w
  | 0, c, w, h1, h2 => by
    by_cases hw : w = -1
    · rw [hw, en_off]
      omega
    · unfold en
      show 0 ≤ picks 0 c - picks 0 (c - w - 1)
      rw [pk_zero, pk_zero, if_neg (show ¬ c - w - 1 = 0 by omega)]
      split <;> omega
  | r + 1, c, w, h1, h2 => by
    by_cases hw : w = -1
    · rw [hw, en_off]
      omega
    · have := en_nn r c (w + 1) (by omega) (by omega)
      have := en_nn r (c - 1) (w - 1) (by omega) (by omega)
      rw [show (((r + 1 : Nat) : Int)) = (r : Int) + 1 by omega, en_step]
      omega
/-- the row with a number -/
def bw : Nat → Int → Int → Int → List Bool
  | 0, _, _, _ => []
  | r + 1, c, w, k => if k < en r c (w + 1) then false :: bw r c (w + 1) k else true :: bw r (c - 1) (w - 1) (k - en r c (w + 1))
/-- the number of a row -/
def nw : List Bool → Int → Int → Int
  | [], _, _ => 0
  | false :: l, c, w => nw l c (w + 1)
  | true :: l, c, w => en l.length c (w + 1) + nw l (c - 1) (w - 1)
/-- nothing closes what does not wait -/
def okW : List Bool → Int → Int → Prop
  | [], c, _ => c = 0
  | false :: l, c, w => okW l c (w + 1)
  | true :: l, c, w => 1 ≤ w ∧ okW l (c - 1) (w - 1)
theorem bw_len : ∀ (r : Nat) (c w k : Int), (bw r c w k).length = r
  | 0, _, _, _ => rfl
  | r + 1, c, w, k => by
    unfold bw
    split
    · rw [List.length_cons, bw_len r]
    · rw [List.length_cons, bw_len r]
theorem bw_ok : ∀ (r : Nat) (c w k : Int), 0 ≤ w → 0 ≤ w + r - 2 * c → 0 ≤ k → k < en r c w → okW (bw r c w k) c w ∧ nw (bw r c w k) c w = k
  | 0, c, w, k, hw, hf, h1, h2 => by
    have e := en_zero hw (by omega : 0 ≤ w - 2 * c)
    have e' : en ((0 : Nat) : Int) c w = en 0 c w := rfl
    rw [e', e] at h2
    by_cases hc : c = 0
    · rw [if_pos hc] at h2
      refine ⟨hc, ?_⟩
      show (0 : Int) = k
      omega
    · rw [if_neg hc] at h2
      omega
  | r + 1, c, w, k, hw, hf, h1, h2 => by
    rw [show (((r + 1 : Nat) : Int)) = (r : Int) + 1 by omega, en_step] at h2
    unfold bw
    split
    · rename_i h
      exact bw_ok r c (w + 1) k (by omega) (by omega) h1 h
    · rename_i h
      have hw1 : 1 ≤ w := by
        by_cases z : w = 0
        · subst z
          have := en_off r (c - 1)
          have e : (0 : Int) - 1 = -1 := rfl
          rw [e] at h2
          omega
        · omega
      obtain ⟨a, b⟩ := bw_ok r (c - 1) (w - 1) (k - en r c (w + 1)) (by omega) (by omega) (by omega) (by omega)
      refine ⟨⟨hw1, a⟩, ?_⟩
      show en (bw r (c - 1) (w - 1) (k - en r c (w + 1))).length c (w + 1) + nw (bw r (c - 1) (w - 1) (k - en r c (w + 1))) (c - 1) (w - 1) = k
      rw [b, bw_len]
      omega
theorem okW_end : ∀ (l : List Bool) (c w : Int), 0 ≤ w → okW l c w → 0 ≤ w + l.length - 2 * c
  | [], c, w, hw, h => by
    have h : c = 0 := h
    subst h
    simp
    exact hw
  | false :: l, c, w, hw, h => by
    have := okW_end l c (w + 1) (by omega) h
    rw [List.length_cons]
    omega
  | true :: l, c, w, hw, h => by
    obtain ⟨h1, h2⟩ := h
    have := okW_end l (c - 1) (w - 1) (by omega) h2
    rw [List.length_cons]
    omega
theorem nw_ok : ∀ (l : List Bool) (c w : Int), 0 ≤ w → okW l c w → 0 ≤ nw l c w ∧ nw l c w < en l.length c w ∧ bw l.length c w (nw l c w) = l
  | [], c, w, hw, h => by
    have h : c = 0 := h
    subst h
    have e := en_zero hw (by omega : 0 ≤ w - 2 * 0)
    refine ⟨Int.le_refl _, ?_, rfl⟩
    show (0 : Int) < en 0 0 w
    rw [e]
    decide
  | false :: l, c, w, hw, h => by
    obtain ⟨a, b, d⟩ := nw_ok l c (w + 1) (by omega) h
    have f := okW_end l c (w + 1) (by omega) h
    have e : nw (false :: l) c w = nw l c (w + 1) := rfl
    have el : (((false :: l).length : Nat) : Int) = (l.length : Int) + 1 := by rw [List.length_cons]; omega
    rw [e, el, en_step]
    refine ⟨a, ?_, ?_⟩
    · have := en_nn l.length (c - 1) (w - 1) (by omega) (by omega)
      omega
    · rw [List.length_cons]
      unfold bw
      rw [if_pos b, d]
  | true :: l, c, w, hw, h => by
    obtain ⟨h1, h2⟩ := h
    obtain ⟨a, b, d⟩ := nw_ok l (c - 1) (w - 1) (by omega) h2
    have f := okW_end l (c - 1) (w - 1) (by omega) h2
    have e : nw (true :: l) c w = en l.length c (w + 1) + nw l (c - 1) (w - 1) := rfl
    have el : (((true :: l).length : Nat) : Int) = (l.length : Int) + 1 := by rw [List.length_cons]; omega
    have nn := en_nn l.length c (w + 1) (by omega) (by omega)
    rw [e, el, en_step]
    refine ⟨by omega, by omega, ?_⟩
    rw [List.length_cons]
    unfold bw
    rw [if_neg (by omega), show en (↑l.length) c (w + 1) + nw l (c - 1) (w - 1) - en (↑l.length) c (w + 1) = nw l (c - 1) (w - 1) by omega, d]
/-- the greater number has the first thing that is in just one -/
theorem bw_lex : ∀ (r : Nat) (c w k k' : Int), 0 ≤ w → 0 ≤ w + r - 2 * c → 0 ≤ k → k < k' → k' < en r c w → ∃ p q q', bw r c w k = p ++ false :: q ∧ bw r c w k' = p ++ true :: q'
  | 0, c, w, k, k', hw, hf, h0, h1, h2 => by
    have e := en_zero hw (by omega : 0 ≤ w - 2 * c)
    have e' : en ((0 : Nat) : Int) c w = en 0 c w := rfl
    rw [e', e] at h2
    split at h2 <;> omega
  | r + 1, c, w, k, k', hw, hf, h0, h1, h2 => by
    rw [show (((r + 1 : Nat) : Int)) = (r : Int) + 1 by omega, en_step] at h2
    unfold bw
    by_cases z : k' < en r c (w + 1)
    · rw [if_pos z, if_pos (by omega)]
      obtain ⟨p, q, q', e1, e2⟩ := bw_lex r c (w + 1) k k' (by omega) (by omega) h0 h1 z
      exact ⟨false :: p, q, q', by rw [e1]; rfl, by rw [e2]; rfl⟩
    · rw [if_neg z]
      by_cases y : k < en r c (w + 1)
      · rw [if_pos y]
        exact ⟨[], _, _, rfl, rfl⟩
      · rw [if_neg y]
        have hw1 : 1 ≤ w := by
          by_cases z : w = 0
          · subst z
            have := en_off r (c - 1)
            have e : (0 : Int) - 1 = -1 := rfl
            rw [e] at h2
            omega
          · omega
        obtain ⟨p, q, q', e1, e2⟩ := bw_lex r (c - 1) (w - 1) (k - en r c (w + 1)) (k' - en r c (w + 1)) (by omega) (by omega) (by omega) (by omega) (by omega)
        exact ⟨true :: p, q, q', by rw [e1]; rfl, by rw [e2]; rfl⟩
/-! ### rows and sets -/
/-- the members of a row -/
def tr (l : List Bool) : List Int := (irange l.length).filter fun x => l.getD x.toNat false
theorem tr_set (l : List Bool) : IsSet l.length (tr l) := isSet_of _
theorem tr_mem {l : List Bool} {x : Int} : x ∈ tr l ↔ 0 ≤ x ∧ l[x.toNat]? = some true := by
  unfold tr
  rw [List.mem_filter, mem_irange, List.getD_eq_getElem?_getD]
  constructor
  · rintro ⟨⟨h1, h2⟩, h3⟩
    refine ⟨h1, ?_⟩
    cases e : l[x.toNat]? with
    | none => rw [e] at h3; cases h3
    | some b =>
      rw [e] at h3
      have : b = true := h3
      rw [this]
  · rintro ⟨h1, h2⟩
    have := (List.getElem?_eq_some_iff.mp h2).1
    refine ⟨⟨h1, by omega⟩, ?_⟩
    rw [h2]
    rfl
theorem tr_snoc (l : List Bool) (b : Bool) : tr (l ++ [b]) = if b = true then tr l ++ [(l.length : Int)] else tr l := by
  have up : Up (if b = true then tr l ++ [(l.length : Int)] else tr l) := by
    split
    · refine List.pairwise_append.mpr ⟨(tr_set l).up, List.pairwise_singleton _ _, fun a ha c hc => ?_⟩
      rw [List.mem_singleton] at hc
      have := (tr_set l).hi a ha
      omega
    · exact (tr_set l).up
  refine up_ext (tr_set _).up up fun x => ?_
  rw [tr_mem]
  by_cases hx : x.toNat < l.length
  · rw [List.getElem?_append_left hx]
    split
    · rw [List.mem_append, tr_mem, List.mem_singleton]
      constructor
      · exact fun h => .inl h
      · rintro (h | h)
        · exact h
        · omega
    · rw [tr_mem]
  · rw [List.getElem?_append_right (by omega)]
    have nl : x ∉ tr l := fun h => by
      have h1 := (tr_set l).lo x h
      have h2 := (tr_set l).hi x h
      omega
    by_cases ex : x.toNat = l.length
    · rw [ex, Nat.sub_self]
      cases b with
      | false =>
        rw [if_neg (by decide)]
        constructor
        · rintro ⟨_, h⟩
          cases h
        · exact fun h => absurd h nl
      | true =>
        rw [if_pos rfl, List.mem_append, List.mem_singleton]
        constructor
        · rintro ⟨h, _⟩
          exact .inr (by omega)
        · rintro (h | h)
          · exact absurd h nl
          · exact ⟨by omega, rfl⟩
    · have e : ([b] : List Bool)[x.toNat - l.length]? = none := List.getElem?_eq_none (by rw [List.length_singleton]; omega)
      rw [e]
      constructor
      · rintro ⟨_, h⟩
        cases h
      · intro h
        split at h
        · rcases List.mem_append.mp h with h | h
          · exact absurd h nl
          · rw [List.mem_singleton] at h
            omega
        · exact absurd h nl
/-- the row of a set -/
def wd (n : Nat) (ms : List Int) : List Bool := (irange n).map (mem ms)
theorem wd_len (n : Nat) (ms : List Int) : (wd n ms).length = n := by unfold wd; rw [List.length_map, irange_len]
theorem wd_get {n i : Nat} {ms : List Int} (h : i < n) : (wd n ms)[i]? = some (mem ms i) := by
  unfold wd
  rw [List.getElem?_map, irange_get h]
  rfl
theorem tr_wd {n : Nat} {ms : List Int} (h : IsSet n ms) : tr (wd n ms) = ms := by
  refine up_ext (tr_set _).up h.up fun x => ?_
  rw [tr_mem]
  constructor
  · rintro ⟨h1, h2⟩
    have hl := (List.getElem?_eq_some_iff.mp h2).1
    rw [wd_len] at hl
    rw [wd_get hl] at h2
    have h3 := Option.some.inj h2
    rw [show ((x.toNat : Nat) : Int) = x by omega] at h3
    exact mem_true.mp h3
  · intro hx
    have h1 := h.lo x hx
    have h2 := h.hi x hx
    refine ⟨h1, ?_⟩
    rw [wd_get (by omega), show ((x.toNat : Nat) : Int) = x by omega, mem_true.mpr hx]
theorem wd_tr {n : Nat} {l : List Bool} (h : l.length = n) : wd n (tr l) = l := by
  refine List.ext_getElem? fun i => ?_
  by_cases hi : i < n
  · rw [wd_get hi]
    have hi' : i < l.length := by omega
    have e : l[i]? = some l[i] := List.getElem?_eq_getElem hi'
    rw [e]
    congr 1
    cases b : l[i] with
    | true => exact mem_true.mpr (tr_mem.mpr ⟨by omega, by rw [show ((i : Int)).toNat = i from rfl, e, b]⟩)
    | false =>
      refine mem_false.mpr fun z => ?_
      have := (tr_mem.mp z).2
      rw [show ((i : Int)).toNat = i from rfl, e, b] at this
      cases this
  · rw [List.getElem?_eq_none (by rw [wd_len]; omega), List.getElem?_eq_none (by omega)]
/-- the rest of the row, thing by thing -/
theorem wd_drop {n i : Nat} {ms : List Int} (h : i < n) : (wd n ms).drop i = mem ms i :: (wd n ms).drop (i + 1) := by
  rw [List.drop_eq_getElem?_toList_append, wd_get h]
  rfl
/-- a row is well closed just where the set has no loose member -/
theorem okW_iff {n : Nat} {ms : List Int} : ∀ (d i : Nat) (c : Int), n = i + d → (st (mem ms) i).aln = [] →
    (okW ((wd n ms).drop i) c (st (mem ms) i).wt.length ↔ (fin n ms).aln = [] ∧ c + (st (mem ms) i).prs.length = (fin n ms).prs.length)
  | 0, i, c, hn, ha => by
    have e : n = i := hn
    subst e
    rw [List.drop_of_length_le (by rw [wd_len]; exact Nat.le_refl _)]
    show c = 0 ↔ _
    constructor
    · intro h
      exact ⟨ha, by subst h; show (0 : Int) + ((fin n ms).prs.length : Int) = _; omega⟩
    · rintro ⟨_, h⟩
      have h : c + ((fin n ms).prs.length : Int) = _ := h
      omega
  | d + 1, i, c, hn, ha => by
    rw [wd_drop (n := n) (i := i) (by omega)]
    have e1 : st (mem ms) (i + 1) = stp (mem ms i) i (st (mem ms) i) := rfl
    cases hm : mem ms i with
    | false =>
      rw [hm, stp_no] at e1
      have ih := okW_iff (n := n) (ms := ms) d (i + 1) c (by omega) (by rw [e1]; exact ha)
      rw [e1] at ih
      dsimp only at ih
      rw [List.length_append, List.length_singleton] at ih
      exact ih
    | true =>
      rw [hm] at e1
      rcases snoc_cases (st (mem ms) i).wt with z | ⟨r, w, z⟩
      · rw [stp_alone z] at e1
        constructor
        · rintro ⟨h, _⟩
          rw [z] at h
          simp at h
        · rintro ⟨h, _⟩
          obtain ⟨d', hd⟩ : ∃ d', n = (i + 1) + d' := ⟨n - (i + 1), by omega⟩
          have pre := aln_mono (mem ms) (i + 1) d'
          rw [← hd, e1] at pre
          have : (fin n ms).aln = (st (mem ms) n).aln := rfl
          rw [this] at h
          rw [h] at pre
          have := List.prefix_nil.mp pre
          simp at this
      · rw [stp_pop z] at e1
        have ih := okW_iff (n := n) (ms := ms) d (i + 1) (c - 1) (by omega) (by rw [e1]; exact ha)
        rw [e1] at ih
        dsimp only at ih
        rw [List.length_append, List.length_singleton] at ih
        have el : (((st (mem ms) i).wt.length : Nat) : Int) - 1 = (r.length : Int) := by
          rw [z, List.length_append, List.length_singleton]
          omega
        show (1 ≤ _ ∧ okW _ (c - 1) (_ - 1)) ↔ _
        rw [el, ih]
        constructor
        · rintro ⟨_, h1, h2⟩
          exact ⟨h1, by omega⟩
        · rintro ⟨h1, h2⟩
          refine ⟨?_, h1, by omega⟩
          rw [z, List.length_append, List.length_singleton]
          omega
theorem ok_bottom {n : Nat} {ms : List Int} (h : IsSet n ms) {c : Int} : okW (wd n ms) c 0 ↔ (fin n ms).aln = [] ∧ c = ms.length := by
  have e := okW_iff (n := n) (ms := ms) n 0 c (by omega) rfl
  have l := set_len h
  rw [List.drop_zero] at e
  show okW (wd n ms) c ((0 : Nat) : Int) ↔ _
  refine e.trans ?_
  constructor
  · rintro ⟨h1, h2⟩
    rw [h1] at l
    have h2 : c + ((0 : Nat) : Int) = _ := h2
    simp only [List.length_nil] at l
    exact ⟨h1, by omega⟩
  · rintro ⟨h1, h2⟩
    rw [h1] at l
    refine ⟨h1, ?_⟩
    show c + ((0 : Nat) : Int) = _
    simp only [List.length_nil] at l
    omega
/-! ### the sizes -/
theorem ch_mono {n s : Nat} (h : 2 * (s + 1) ≤ n) : ch n s ≤ ch n (s + 1) := by
  have e := en_nn n ((s + 1 : Nat) : Int) 0 (by omega) (by omega)
  unfold en at e
  rw [show (((s + 1 : Nat) : Int) - 0 - 1) = (s : Int) by omega, picks_nat, picks_nat] at e
  omega
theorem ch_mono' {n s : Nat} : ∀ d : Nat, 2 * (s + d) ≤ n → ch n s ≤ ch n (s + d)
  | 0, _ => Nat.le_refl _
  | d + 1, h => Nat.le_trans (ch_mono' d (by omega)) (ch_mono (s := s + d) (by omega))
theorem ch_le_mid {n s : Nat} (h : s ≤ n / 2) : ch n s ≤ ch n (n / 2) := by
  obtain ⟨d, e⟩ : ∃ d, n / 2 = s + d := ⟨n / 2 - s, by omega⟩
  rw [e]
  exact ch_mono' d (by omega)
/-- the size of the bottom with a number -/
def szf (n : Nat) (N : Int) : Nat → Nat → Nat
  | 0, s => s
  | d + 1, s => if N < ch n s then s else szf n N d (s + 1)
def sz (n : Nat) (N : Int) : Nat := szf n N (n / 2) 0
theorem szf_spec {n : Nat} {N : Int} : ∀ (d s : Nat), s + d = n / 2 → N < ch n (n / 2) → (∀ t : Nat, t < s → (ch n t : Int) ≤ N) →
    szf n N d s ≤ n / 2 ∧ N < ch n (szf n N d s) ∧ ∀ t : Nat, t < szf n N d s → (ch n t : Int) ≤ N
  | 0, s, h, hN, hs => by
    have e : s = n / 2 := by omega
    show s ≤ _ ∧ N < ch n s ∧ _
    rw [e] at hs ⊢
    exact ⟨Nat.le_refl _, hN, hs⟩
  | d + 1, s, h, hN, hs => by
    unfold szf
    split
    · rename_i q
      exact ⟨by omega, q, hs⟩
    · rename_i q
      refine szf_spec d (s + 1) (by omega) hN fun t ht => ?_
      by_cases z : t = s
      · rw [z]
        omega
      · exact hs t (by omega)
theorem sz_spec {n : Nat} {N : Int} (hN : N < ch n (n / 2)) : sz n N ≤ n / 2 ∧ N < ch n (sz n N) ∧ ∀ t : Nat, t < sz n N → (ch n t : Int) ≤ N :=
  szf_spec (n / 2) 0 (by omega) hN fun t ht => absurd ht (by omega)
theorem sz_eq {n s : Nat} {N : Int} (h1 : N < ch n s) (h2 : ∀ t : Nat, t < s → (ch n t : Int) ≤ N) (hN : N < ch n (n / 2)) : sz n N = s := by
  obtain ⟨a, b, c⟩ := sz_spec hN
  rcases Nat.lt_trichotomy (sz n N) s with h | h | h
  · have := h2 _ h
    omega
  · exact h
  · have := c _ h
    omega
theorem en_top (n s : Nat) : en n s 0 = (ch n s : Int) - picks n ((s : Int) - 1) := by
  unfold en
  rw [picks_nat, show (s : Int) - 0 - 1 = (s : Int) - 1 by omega]
theorem pk_pred_le {n s : Nat} {N : Int} (h0 : 0 ≤ N) (h : ∀ t : Nat, t < s → (ch n t : Int) ≤ N) : picks n ((s : Int) - 1) ≤ N := by
  cases s with
  | zero =>
    rw [pk_neg (by omega)]
    exact h0
  | succ s =>
    rw [show (((s + 1 : Nat) : Int) - 1) = (s : Int) by omega, picks_nat]
    exact h s (by omega)
/-- the bottom of a chain -/
def bottomL (n : Nat) (N : Int) : List Int := tr (bw n (sz n N) 0 (N - picks n ((sz n N : Int) - 1)))
/-- its number -/
def numOf (n : Nat) (ms : List Int) : Int := picks n ((ms.length : Int) - 1) + nw (wd n ms) ms.length 0
theorem bottom_facts {n : Nat} {N : Int} (h0 : 0 ≤ N) (hN : N < ch n (n / 2)) : IsSet n (bottomL n N) ∧ (fin n (bottomL n N)).aln = [] ∧ (bottomL n N).length = sz n N ∧ numOf n (bottomL n N) = N := by
  obtain ⟨a, b, c⟩ := sz_spec hN
  have p := pk_pred_le h0 c
  have hk : N - picks n ((sz n N : Int) - 1) < en n (sz n N) 0 := by
    rw [en_top]
    omega
  obtain ⟨o1, o2⟩ := bw_ok n (sz n N) 0 (N - picks n ((sz n N : Int) - 1)) (by omega) (by omega) (by omega) hk
  have bl := bw_len n (sz n N) 0 (N - picks n ((sz n N : Int) - 1))
  have hs : IsSet n (bottomL n N) := by
    have := tr_set (bw n (sz n N) 0 (N - picks n ((sz n N : Int) - 1)))
    rw [bl] at this
    exact this
  have hw : wd n (bottomL n N) = bw n (sz n N) 0 (N - picks n ((sz n N : Int) - 1)) := wd_tr bl
  have ob := (ok_bottom hs (c := (sz n N : Int))).mp (by rw [hw]; exact o1)
  have el : (bottomL n N).length = sz n N := by have := ob.2; omega
  refine ⟨hs, ob.1, el, ?_⟩
  unfold numOf
  rw [el, hw, o2]
  omega
theorem num_facts {n : Nat} {ms : List Int} (h : IsSet n ms) (ha : (fin n ms).aln = []) : 0 ≤ numOf n ms ∧ numOf n ms < ch n (n / 2) ∧ sz n (numOf n ms) = ms.length ∧ bottomL n (numOf n ms) = ms := by
  have o := (ok_bottom h (c := (ms.length : Int))).mpr ⟨ha, rfl⟩
  obtain ⟨a, b, c⟩ := nw_ok (wd n ms) ms.length 0 (by omega) o
  have fe := okW_end (wd n ms) ms.length 0 (by omega) o
  rw [wd_len] at b c fe
  rw [en_top] at b
  have hs : ms.length ≤ n / 2 := by omega
  have hp : 0 ≤ picks n ((ms.length : Int) - 1) := by
    unfold picks
    split <;> omega
  have hN : numOf n ms < ch n ms.length := by
    unfold numOf
    omega
  have hm := ch_le_mid hs
  have lt : ∀ t : Nat, t < ms.length → (ch n t : Int) ≤ numOf n ms := fun t ht => by
    obtain ⟨d, hd⟩ : ∃ d, ms.length = t + d + 1 := ⟨ms.length - t - 1, by omega⟩
    have := ch_mono' (n := n) (s := t) d (by omega)
    have e : picks n ((ms.length : Int) - 1) = (ch n (t + d) : Int) := by
      rw [hd, show (((t + d + 1 : Nat) : Int) - 1) = ((t + d : Nat) : Int) by omega, picks_nat]
    unfold numOf
    omega
  have es : sz n (numOf n ms) = ms.length := sz_eq hN lt (by omega)
  refine ⟨?_, by omega, es, ?_⟩
  · unfold numOf
    omega
  · unfold bottomL
    rw [es]
    have e : numOf n ms - picks n ((ms.length : Int) - 1) = nw (wd n ms) ms.length 0 := by
      unfold numOf
      omega
    rw [e, c]
    exact tr_wd h
end SC
namespace SC
/-! ### the shares of a family without a clash -/
def fac : Nat → Nat
  | 0 => 1
  | n + 1 => (n + 1) * fac n
theorem fac_pos : ∀ n, 0 < fac n
  | 0 => by decide
  | n + 1 => Nat.mul_pos (by omega) (fac_pos n)
theorem ch_fac : ∀ n k : Nat, k ≤ n → ch n k * (fac k * fac (n - k)) = fac n
  | n, 0, _ => by
    rw [ch_zero]
    show 1 * (1 * fac (n - 0)) = fac n
    rw [Nat.one_mul, Nat.one_mul]
    rfl
  | 0, k + 1, h => absurd h (by omega)
  | n + 1, k + 1, h => by
    have e : n + 1 - (k + 1) = n - k := by omega
    rw [e]
    show (ch n k + ch n (k + 1)) * ((k + 1) * fac k * fac (n - k)) = (n + 1) * fac n
    have h1 := ch_fac n k (by omega)
    have a1 : ch n k * ((k + 1) * fac k * fac (n - k)) = (k + 1) * fac n := by
      rw [← h1]
      simp only [Nat.mul_assoc, Nat.mul_left_comm]
    by_cases hk : k = n
    · subst hk
      rw [ch_gt (show k < k + 1 by omega), Nat.add_zero, a1]
    · obtain ⟨d, hd⟩ : ∃ d, n - k = d + 1 := ⟨n - k - 1, by omega⟩
      have h2 := ch_fac n (k + 1) (by omega)
      have e3 : n - (k + 1) = d := by omega
      rw [e3] at h2
      have a2 : ch n (k + 1) * ((k + 1) * fac k * fac (n - k)) = (n - k) * fac n := by
        rw [hd, ← h2]
        show ch n (k + 1) * ((k + 1) * fac k * ((d + 1) * fac d)) = (d + 1) * (ch n (k + 1) * ((k + 1) * fac k * fac d))
        simp only [Nat.mul_assoc, Nat.mul_left_comm]
      rw [Nat.add_mul, a1, a2, ← Nat.add_mul]
      congr 1
      omega
/-- what one set weighs: so many ways go through it -/
def wgt (n : Nat) (A : List Int) : Nat := fac A.length * fac (n - A.length)
theorem sum_filter {α : Type} (f : α → Nat) (p : α → Bool) : ∀ F : List α, ((F.filter p).map f).sum = (F.map fun A => if p A = true then f A else 0).sum
  | [] => rfl
  | A :: F => by
    rw [List.filter_cons, List.map_cons, List.sum_cons, ← sum_filter f p F]
    split
    · rw [List.map_cons, List.sum_cons]
    · rw [Nat.zero_add]
theorem sum_add {α : Type} (f g : α → Nat) : ∀ F : List α, (F.map fun A => f A + g A).sum = (F.map f).sum + (F.map g).sum
  | [] => rfl
  | A :: F => by
    rw [List.map_cons, List.map_cons, List.map_cons, List.sum_cons, List.sum_cons, List.sum_cons, sum_add f g F]
    omega
theorem sum_congr {α : Type} {f g : α → Nat} : ∀ {F : List α}, (∀ A ∈ F, f A = g A) → (F.map f).sum = (F.map g).sum
  | [], _ => rfl
  | A :: F, h => by
    rw [List.map_cons, List.map_cons, List.sum_cons, List.sum_cons, h A (List.mem_cons_self ..), sum_congr fun B hB => h B (List.mem_cons_of_mem _ hB)]
theorem sum_le {α : Type} {f : α → Nat} {c : Nat} : ∀ {F : List α}, (∀ A ∈ F, f A ≤ c) → (F.map f).sum ≤ F.length * c
  | [], _ => by simp
  | A :: F, h => by
    rw [List.map_cons, List.sum_cons, List.length_cons, Nat.add_mul, Nat.one_mul]
    have := h A (List.mem_cons_self ..)
    have := sum_le fun B hB => h B (List.mem_cons_of_mem _ hB)
    omega
/-- counted by sets, or by the things that are not in them -/
theorem double (f : List Int → Nat) (F : List (List Int)) : ∀ S : List Int, (S.map fun x => ((F.filter fun A => !A.contains x).map f).sum).sum = (F.map fun A => f A * (S.filter fun x => !A.contains x).length).sum
  | [] => by
    have : (F.map fun A => f A * (([] : List Int).filter fun x => !A.contains x).length).sum = (F.map fun _ => 0).sum := sum_congr fun A _ => rfl
    rw [this]
    induction F with
    | nil => rfl
    | cons A F ih => rw [List.map_cons, List.sum_cons, Nat.zero_add]; exact ih (sum_congr fun A _ => rfl)
  | x :: S => by
    rw [List.map_cons, List.sum_cons, double f F S, sum_filter, ← sum_add]
    refine sum_congr fun A _ => ?_
    rw [List.filter_cons]
    split
    · rw [List.length_cons, Nat.mul_add]
      omega
    · omega
theorem filter_two (p : Int → Bool) : ∀ S : List Int, (S.filter p).length + (S.filter fun x => !p x).length = S.length
  | [] => rfl
  | x :: S => by
    have := filter_two p S
    rw [List.filter_cons, List.filter_cons, List.length_cons]
    cases h : p x with
    | true =>
      rw [if_pos rfl, if_neg (by decide), List.length_cons]
      omega
    | false =>
      rw [if_neg (by decide), if_pos (by rfl), List.length_cons]
      omega
theorem left_out {S A : List Int} (hS : S.Nodup) (hA : A.Nodup) (h : ∀ x ∈ A, x ∈ S) : (S.filter fun x => !A.contains x).length = S.length - A.length := by
  have e := filter_two (fun x => A.contains x) S
  have p : (S.filter fun x => A.contains x).Perm A := by
    refine (List.perm_ext_iff_of_nodup (hS.sublist (List.filter_sublist)) hA).mpr fun x => ?_
    rw [List.mem_filter, List.contains_iff_mem]
    exact ⟨fun z => z.2, fun z => ⟨h x z, z⟩⟩
  have := p.length_eq
  omega
def Apart (A B : List Int) : Prop := (¬ ∀ x ∈ A, x ∈ B) ∧ ¬ ∀ x ∈ B, x ∈ A
theorem sub_all {S A : List Int} (hA : A.Nodup) (h : ∀ x ∈ A, x ∈ S) (hl : S.length ≤ A.length) (hS : S.Nodup) : ∀ x ∈ S, x ∈ A := by
  have e := left_out hS hA h
  have z : (S.filter fun x => !A.contains x) = [] := List.length_eq_zero_iff.mp (by omega)
  intro x hx
  have := (List.filter_eq_nil_iff.mp z) x hx
  simpa using this
theorem lym : ∀ (n : Nat) (S : List Int) (F : List (List Int)), S.length = n → S.Nodup → F.Pairwise Apart → (∀ A ∈ F, A.Nodup ∧ ∀ x ∈ A, x ∈ S) → (F.map (wgt n)).sum ≤ fac n
  | n, S, [], _, _, _, _ => Nat.zero_le _
  | 0, S, [A], hS, _, _, h => by
    have e : S = [] := List.length_eq_zero_iff.mp hS
    subst e
    have hA : A = [] := List.eq_nil_iff_forall_not_mem.mpr fun x hx => nomatch (h A (List.mem_cons_self ..)).2 x hx
    subst hA
    decide
  | 0, S, A :: B :: F, hS, _, hp, h => by
    have e : S = [] := List.length_eq_zero_iff.mp hS
    subst e
    have := ((List.pairwise_cons.mp hp).1 B (List.mem_cons_self ..)).1
    exact absurd (fun x hx => nomatch (h A (List.mem_cons_self ..)).2 x hx) this
  | n + 1, S, F, hS, nd, hp, h => by
    by_cases full : ∃ A ∈ F, n + 1 ≤ A.length
    · obtain ⟨A, hA, hl⟩ := full
      have cov := sub_all (h A hA).1 (h A hA).2 (by omega) nd
      have one : F = [A] := by
        obtain ⟨P, R, e⟩ := List.append_of_mem hA
        subst e
        obtain ⟨_, h2, h3⟩ := List.pairwise_append.mp hp
        have hP : P = [] := List.eq_nil_iff_forall_not_mem.mpr fun B hB => by
          have := (h3 B hB A (List.mem_cons_self ..)).1
          exact this fun x hx => cov x ((h B (List.mem_append_left _ hB)).2 x hx)
        have hR : R = [] := List.eq_nil_iff_forall_not_mem.mpr fun B hB => by
          have := ((List.pairwise_cons.mp h2).1 B hB).2
          exact this fun x hx => cov x ((h B (List.mem_append_right _ (List.mem_cons_of_mem _ hB))).2 x hx)
        rw [hP, hR]
        rfl
      have le : A.length ≤ n + 1 := by
        have := left_out nd (h A hA).1 (h A hA).2
        have f := filter_two (fun x => A.contains x) S
        have p : (S.filter fun x => A.contains x).Perm A := by
          refine (List.perm_ext_iff_of_nodup (nd.sublist (List.filter_sublist)) (h A hA).1).mpr fun x => ?_
          rw [List.mem_filter, List.contains_iff_mem]
          exact ⟨fun z => z.2, fun z => ⟨(h A hA).2 x z, z⟩⟩
        have := p.length_eq
        omega
      rw [one]
      show wgt (n + 1) A + 0 ≤ _
      unfold wgt
      rw [show A.length = n + 1 by omega, Nat.sub_self]
      show fac (n + 1) * 1 + 0 ≤ _
      omega
    · have hlt : ∀ A ∈ F, A.length ≤ n := fun A hA => by
        by_cases z : A.length ≤ n
        · exact z
        · exact absurd ⟨A, hA, by omega⟩ full
      have e1 : (F.map (wgt (n + 1))).sum = (F.map fun A => wgt n A * (S.filter fun x => !A.contains x).length).sum := sum_congr fun A hA => by
        rw [left_out nd (h A hA).1 (h A hA).2, hS]
        unfold wgt
        obtain ⟨d, hd⟩ : ∃ d, n - A.length = d := ⟨_, rfl⟩
        have := hlt A hA
        rw [show n + 1 - A.length = d + 1 by omega, hd]
        show fac A.length * ((d + 1) * fac d) = fac A.length * fac d * (d + 1)
        simp only [Nat.mul_assoc, Nat.mul_comm]
      rw [e1, ← double]
      have := sum_le (F := S) (f := fun x => ((F.filter fun A => !A.contains x).map (wgt n)).sum) (c := fac n) fun x hx => by
        refine lym n (S.erase x) _ ?_ (nd.erase x) (hp.sublist List.filter_sublist) fun A hA => ?_
        · rw [List.length_erase_of_mem hx]
          omega
        · obtain ⟨hA1, hA2⟩ := List.mem_filter.mp hA
          have nx : x ∉ A := by simpa using hA2
          refine ⟨(h A hA1).1, fun y hy => ?_⟩
          have ne : y ≠ x := fun e => nx (e ▸ hy)
          exact (List.mem_erase_of_ne ne).mpr ((h A hA1).2 y hy)
      rw [hS] at this
      exact this
/-! ### the sum of the shares -/
/-- the two numbers -/
def sh (n : Nat) (F : List (List Int)) : Nat × Nat := F.foldl (fun p A => (p.1 * ch n A.length + p.2, p.2 * ch n A.length)) (0, 1)
theorem sh_snoc (n : Nat) (F : List (List Int)) (A : List Int) : sh n (F ++ [A]) = ((sh n F).1 * ch n A.length + (sh n F).2, (sh n F).2 * ch n A.length) := by
  unfold sh
  rw [List.foldl_append]
  rfl
theorem snoc_rec {α : Type} {P : List α → Prop} (h0 : P []) (hs : ∀ l x, P l → P (l ++ [x])) : ∀ l : List α, P l := fun l => by
  have : ∀ m : Nat, ∀ l : List α, l.length = m → P l := by
    intro m
    induction m with
    | zero =>
      intro l hl
      rw [List.length_eq_zero_iff.mp hl]
      exact h0
    | succ m ih =>
      intro l hl
      rcases snoc_cases l with z | ⟨r, w, z⟩
      · subst z
        cases hl
      · subst z
        rw [List.length_append, List.length_singleton] at hl
        exact hs r w (ih r (by omega))
  exact this l.length l rfl
theorem sh_pos {n : Nat} : ∀ F : List (List Int), (∀ A ∈ F, A.length ≤ n) → 0 < (sh n F).2 := by
  refine snoc_rec (fun _ => Nat.one_pos) (fun l A ih h => ?_)
  rw [sh_snoc]
  exact Nat.mul_pos (ih fun B hB => h B (List.mem_append_left _ hB)) (ch_pos (h A (List.mem_append_right _ (List.mem_singleton.mpr rfl))))
theorem sh_sum {n : Nat} : ∀ F : List (List Int), (∀ A ∈ F, A.length ≤ n) → (sh n F).1 * fac n = (sh n F).2 * (F.map (wgt n)).sum := by
  refine snoc_rec (fun _ => by show 0 * _ = 1 * 0; omega) (fun l A ih h => ?_)
  have ih := ih fun B hB => h B (List.mem_append_left _ hB)
  have hA := ch_fac n A.length (h A (List.mem_append_right _ (List.mem_singleton.mpr rfl)))
  rw [sh_snoc, List.map_append, List.sum_append]
  show ((sh n l).1 * ch n A.length + (sh n l).2) * fac n = (sh n l).2 * ch n A.length * (_ + (wgt n A + 0))
  rw [Nat.add_zero, Nat.add_mul, Nat.mul_add]
  have e1 : (sh n l).1 * ch n A.length * fac n = (sh n l).2 * ch n A.length * (l.map (wgt n)).sum := by
    rw [Nat.mul_right_comm, ih]
    simp only [Nat.mul_assoc, Nat.mul_comm]
  have e2 : (sh n l).2 * ch n A.length * wgt n A = (sh n l).2 * fac n := by
    rw [Nat.mul_assoc]
    unfold wgt
    rw [hA]
  rw [e1, e2]
theorem sh_bound {n b : Nat} (hb : ∀ k, ch n k ≤ b) (b1 : 1 ≤ b) : ∀ F : List (List Int), (sh n F).2 ≤ b ^ F.length ∧ (sh n F).1 ≤ F.length * b ^ F.length := by
  refine snoc_rec ⟨Nat.le_refl 1, Nat.zero_le _⟩ (fun l A ih => ?_)
  rw [sh_snoc, List.length_append, List.length_singleton, Nat.pow_succ]
  dsimp only
  have hc := hb A.length
  have hp : 0 < b ^ l.length := Nat.pow_pos (by omega)
  have g1 := Nat.mul_le_mul ih.1 hc
  have g2 := Nat.mul_le_mul ih.2 hc
  refine ⟨g1, ?_⟩
  have g3 : b ^ l.length ≤ b ^ l.length * b := Nat.le_mul_of_pos_right _ (by omega)
  rw [Nat.add_mul, Nat.one_mul, ← Nat.mul_assoc]
  omega
theorem share_le {n : Nat} {F : List (List Int)} (h : ∀ A ∈ F, IsSet n A) (hp : F.Pairwise Apart) : (sh n F).1 ≤ (sh n F).2 := by
  have hl : ∀ A ∈ F, A.length ≤ n := fun A hA => (h A hA).len
  have e := sh_sum F hl
  have l := lym n (irange n) F (irange_len n) (up_nodup (irange_up n)) hp fun A hA => ⟨up_nodup (h A hA).up, fun x hx => mem_irange.mpr ⟨(h A hA).lo x hx, (h A hA).hi x hx⟩⟩
  have := Nat.mul_le_mul_left (sh n F).2 l
  rw [← e] at this
  exact Nat.le_of_mul_le_mul_right this (fac_pos n)
theorem nohit_apart {rows : List (List Int)} (h : NoHit rows) : rows.Pairwise Apart := by
  refine List.pairwise_iff_getElem.mpr fun i j hi hj lt => ?_
  have f := h i j hi hj
  have g := h j i hj hi
  have e1 : rows[i]? = some rows[i] := List.getElem?_eq_getElem hi
  have e2 : rows[j]? = some rows[j] := List.getElem?_eq_getElem hj
  rw [hit_of e1 e2] at f
  rw [hit_of e2 e1] at g
  rw [show (i != j) = true by simp; omega, Bool.true_and] at f
  rw [show (j != i) = true by simp; omega, Bool.true_and] at g
  refine ⟨fun z => ?_, fun z => ?_⟩
  · rw [subL_iff.mpr z] at f
    cases f
  · rw [subL_iff.mpr z] at g
    cases g
end SC
namespace SC
/-! ### texts as lists of signs -/
def sgn (b : Bool) : Nat := if b then 41 else 40
/-- the signs of a set -/
def signs (n : Nat) (ms : List Int) : List Nat := (irange n).map fun x => sgn (mem ms x)
theorem signs_len (n : Nat) (ms : List Int) : (signs n ms).length = n := by unfold signs; rw [List.length_map, irange_len]
theorem signs_succ (n : Nat) (ms : List Int) : signs (n + 1) ms = signs n ms ++ [sgn (mem ms n)] := by
  unfold signs
  rw [irange_succ, List.map_append]
  rfl
/-- the places of the closing signs -/
def closers (L : List Nat) : List Int := (irange L.length).filter fun x => L.getD x.toNat 0 == 41
theorem closers_snoc (L : List Nat) (c : Nat) : closers (L ++ [c]) = if c = 41 then closers L ++ [(L.length : Int)] else closers L := by
  unfold closers
  rw [List.length_append, List.length_singleton, irange_succ, List.filter_append]
  have e1 : (irange L.length).filter (fun x => (L ++ [c]).getD x.toNat 0 == 41) = (irange L.length).filter fun x => L.getD x.toNat 0 == 41 := List.filter_congr fun x hx => by
    have := mem_irange.mp hx
    rw [List.getD_eq_getElem?_getD, List.getD_eq_getElem?_getD, List.getElem?_append_left (by omega)]
  have e2 : (L ++ [c]).getD ((L.length : Int)).toNat 0 = c := by
    rw [List.getD_eq_getElem?_getD, show ((L.length : Int)).toNat = L.length from rfl, List.getElem?_append_right (Nat.le_refl _), Nat.sub_self]
    rfl
  rw [e1, List.filter_cons, e2]
  by_cases h : c = 41
  · rw [if_pos h, if_pos (by rw [h]; rfl)]
    rfl
  · rw [if_neg h, if_neg (by simpa using h), List.filter_nil, List.append_nil]
theorem closers_set (L : List Nat) : IsSet L.length (closers L) := isSet_of _
theorem closers_signs {n : Nat} {ms : List Int} (h : IsSet n ms) : closers (signs n ms) = ms := by
  refine up_ext (closers_set _).up h.up fun x => ?_
  unfold closers
  rw [List.mem_filter, mem_irange, signs_len]
  have g : 0 ≤ x ∧ x < n → (signs n ms).getD x.toNat 0 = sgn (mem ms x) := fun hx => by
    unfold signs
    rw [List.getD_eq_getElem?_getD, List.getElem?_map, irange_get (by omega), show ((x.toNat : Nat) : Int) = x by omega]
    rfl
  constructor
  · rintro ⟨h1, h2⟩
    rw [g h1] at h2
    cases e : mem ms x with
    | true => exact mem_true.mp e
    | false =>
      rw [e] at h2
      exact absurd h2 (by decide)
  · intro hx
    have h1 : 0 ≤ x ∧ x < n := ⟨h.lo x hx, h.hi x hx⟩
    refine ⟨h1, ?_⟩
    rw [g h1, mem_true.mpr hx]
    rfl
/-- what is read -/
def okT (L : List Nat) : Prop := L.length ≤ 40 ∧ ∀ c ∈ L, c = 40 ∨ c = 41
theorem okT_signs {n : Nat} (h : n ≤ 40) (ms : List Int) : okT (signs n ms) := by
  refine ⟨by rw [signs_len]; exact h, fun c hc => ?_⟩
  obtain ⟨x, _, rfl⟩ := List.mem_map.mp hc
  cases mem ms x with
  | true => exact .inr rfl
  | false => exact .inl rfl
end SC
namespace SC
open PySem PySem.Spec PyProof.Rows L2
/-! ### what stands behind the top -/
def At (K : PySem.W.Frag) (mg : Str → Option Value) (x : Str) (st : Stmt) : Prop := ∃ (f : Addr) (fd : FuncData), Fun K x x st f fd ∧ mg x = some (.ref f)
structure Def (P : Program) (w : World) (K : PySem.W.Frag) (mg : Str → Option Value) (base : Heap) (CX : CXT) (k : Nat) (x : Str) (ps : List Str) (sp : Sp) : Prop where
  ex : ∃ (f : Addr) (fd : FuncData), FnOk P w K mg base CX k f fd ps sp ∧ mg x = some (.ref f) ∧ PySem.W.keepIn K (.ref f) = true ∧ Binds K fd ps []
/-- an exception class of the program's own -/
structure XT (K : PySem.W.Frag) (mg : Str → Option Value) (n : Str) (C : Addr) : Prop where
  g : mg n = some (.ref C)
  x : PySem.W.excIn K C [.type "ValueError", .type "Exception", .type "BaseException", .type "object"] "ValueError.__new__" = true
  k : PySem.W.keepIn K (.ref C) = true
  b : PySem.W.subIn K (.ref C) (.type "BaseException") = some true
  t : PySem.W.typeIn K (.ref C) = some (.type "type")
/-- the built-in names, the module's constant -/
structure Bt (mg : Str → Option Value) (tM : Tok) : Prop where
  len : mg "len" = none
  range : mg "range" = none
  sorted : mg "sorted" = none
  isinstance : mg "isinstance" = none
  int : mg "int" = none
  bool : mg "bool" = none
  list : mg "list" = none
  tuple : mg "tuple" = none
  str : mg "str" = none
  sum : mg "sum" = none
  all : mg "all" = none
  min : mg "min" = none
  max : mg "max" = none
  ValueError : mg "ValueError" = none
  MOST : mg "MOST" = some (.int 40 tM)
theorem sz_le {n : Nat} (h : n ≤ 100000) : n ≤ sizeLine := Nat.le_trans h (by decide)
theorem sz_lt {n : Nat} (h : n < 100000) : n < sizeLine := Nat.lt_of_lt_of_le h (by decide)
theorem inD_u {A : Around} {k : Nat} (r : Room k A) : A.units + 65 < cLine := by have := r.un; omega
/-- new: nothing that was tracked is changed -/
theorem same_new {H : Hp} {p : Addr} {o : HO} (h : H p = none) : Same H (upd H p o) := fun b x e => by
  rw [upd_ne (ne_of_none e h)]
  exact e
/-- what was not tracked ahead may change -/
theorem same_mut {H H' : Hp} {p : Addr} {o : HO} (s : Same H H') (h : H p = none) : Same H (upd H' p o) := fun b x e => by
  rw [upd_ne (ne_of_none e h)]
  exact s b x e
theorem tyes {σ : L2.St} {H : Hp} {Q : Bool → Hp → Prop} (h : Q true H) : tYes σ H Q := h
theorem at_int {l : List Int} {i : Nat} {v : Int} (h : l[i]? = some v) : (l.map V.int)[i]? = some (.int v) := by
  rw [List.getElem?_map, h]
  rfl
theorem at_map {l : List Int} {i : Nat} {y : V} (h : (l.map V.int)[i]? = some y) : ∃ v, l[i]? = some v ∧ y = .int v := by
  rw [List.getElem?_map] at h
  cases e : l[i]? with
  | none => rw [e] at h; cases h
  | some v =>
    rw [e] at h
    exact ⟨v, rfl, (Option.some.inj h).symm⟩
theorem atI_int {l : List Int} {z : Int} {i : Nat} {v : Int} (e : z = (i : Int)) (h : l[i]? = some v) : atI (l.map V.int) z = some (.int v) := by
  rw [e]
  exact atI_nat (at_int h)
theorem take_snoc {α : Type} {l : List α} {i : Nat} {x : α} (h : l[i]? = some x) : l.take (i + 1) = l.take i ++ [x] := by
  rw [List.take_add_one, h]
  rfl
/-! ### dicts used as sets of ints -/
def KD (H : Hp) (d : Addr) (l : List Int) : Prop := ∃ kvs : List (Key × V), H d = some (.dK kvs) ∧ kvs.length ≤ l.length ∧ ∀ x : Int, (valV kvs (Sum.inl x)).isSome = l.contains x
theorem KD.nil {H : Hp} {d : Addr} (h : H d = some (.dK [])) : KD H d [] := ⟨[], h, Nat.le_refl _, fun _ => rfl⟩
theorem KD.get {H : Hp} {d : Addr} {l : List Int} (h : KD H d l) (x : Int) : ∃ o, DGet H d (.int x) o ∧ o.isSome = l.contains x := by
  obtain ⟨kvs, h1, _, h3⟩ := h
  exact ⟨_, DGet.k (k := Sum.inl x) h1, h3 x⟩
theorem KD.put {H : Hp} {d : Addr} {l : List Int} (h : KD H d l) (hl : l.length ≤ 1000) (x : Int) (v : V) : ∃ o, DPut H d (.int x) v (upd H d o) ∧ ∀ H' : Hp, H' d = some o → KD H' d (l ++ [x]) := by
  obtain ⟨kvs, h1, h2, h3⟩ := h
  refine ⟨_, DPut.k (k := Sum.inl x) h1 (sz_lt (by omega)), fun H' e => ⟨_, e, ?_, fun y => ?_⟩⟩
  · have := length_putK kvs (Sum.inl x) v
    rw [List.length_append, List.length_singleton]
    omega
  · rw [valV_put, List.contains_append]
    by_cases e : y = x
    · subst e
      rw [if_pos rfl]
      simp
    · rw [if_neg (fun z => e (Sum.inl.inj z)), h3]
      simp [e]
theorem KD.same {H H' : Hp} {d : Addr} {l : List Int} (h : KD H d l) (s : Same H H') : KD H' d l := by
  obtain ⟨kvs, h1, h2⟩ := h
  exact ⟨kvs, s _ _ h1, h2⟩
theorem KD.at {H H' : Hp} {d : Addr} {l : List Int} (h : KD H d l) (e : H' d = H d) : KD H' d l := by
  obtain ⟨kvs, h1, h2⟩ := h
  exact ⟨kvs, e.trans h1, h2⟩
theorem KD.ne {H : Hp} {d : Addr} {l : List Int} (h : KD H d l) {p : Addr} (n : H p = none) : d ≠ p := by
  obtain ⟨kvs, h1, _⟩ := h
  exact ne_of_none h1 n
/-! ### x in a list of ints -/
theorem flat_ints : ∀ ns : List Int, (ns.map V.int).all flatV = true
  | [] => rfl
  | n :: r => by rw [List.map_cons, List.all_cons, flat_ints r]; rfl
theorem inV_ints (x : Int) : ∀ ns : List Int, inV (.int x) (ns.map V.int) = ns.contains x
  | [] => rfl
  | n :: r => by
    have ih := inV_ints x r
    unfold inV at *
    rw [List.map_cons, List.any_cons, ih, List.contains_cons]
    congr 1
    show (n == x) = (x == n)
    by_cases h : x = n
    · subst h
      rfl
    · rw [beq_eq_false_iff_ne.mpr h, beq_eq_false_iff_ne.mpr (fun z => h z.symm)]
/-! ### lists of pairs -/
/-- the tuples at ts hold the pairs ps -/
def Tups (H : Hp) (ts : List Addr) (ps : List (Int × Int)) : Prop := Paired (fun t q => H t = some (.tup [.int q.1, .int q.2])) ts ps
theorem Tups.same {H H' : Hp} {ts : List Addr} {ps : List (Int × Int)} (h : Tups H ts ps) (s : Same H H') : Tups H' ts ps := Paired.mapP h fun _ _ e => s _ _ e
theorem Tups.snoc {H : Hp} {ts : List Addr} {ps : List (Int × Int)} {t : Addr} {q : Int × Int} (h : Tups H ts ps) (e : H t = some (.tup [.int q.1, .int q.2])) : Tups H (ts ++ [t]) (ps ++ [q]) := Paired.snoc h e
/-- what is no tuple may change -/
theorem Tups.upd {H : Hp} {ts : List Addr} {ps : List (Int × Int)} {p : Addr} {xs : List V} {o : HO} (h : Tups H ts ps) (e : H p = some (.lst xs)) : Tups (upd H p o) ts ps :=
  Paired.mapP h fun _ _ q => by rw [upd_ne (ne_of q e (by intro z; cases z))]; exact q
theorem Tups.len {H : Hp} {ts : List Addr} {ps : List (Int × Int)} (h : Tups H ts ps) : ts.length = ps.length := Paired.length h
theorem Tups.get {H : Hp} {ts : List Addr} {ps : List (Int × Int)} (h : Tups H ts ps) {i : Nat} {q : Int × Int} (e : ps[i]? = some q) : ∃ t, ts[i]? = some t ∧ H t = some (.tup [.int q.1, .int q.2]) := by
  have hl := h.len
  have hi : i < ts.length := by
    have := (List.getElem?_eq_some_iff.mp e).1
    omega
  refine ⟨ts[i], List.getElem?_eq_getElem hi, ?_⟩
  obtain ⟨q', e', hq⟩ := paired_get h (List.getElem?_eq_getElem hi)
  rw [e] at e'
  cases e'
  exact hq
/-- which pair lies at a tuple -/
def pairAt (H : Hp) : V → Int × Int
  | .ref t => match H t with
    | some (.tup [.int i, .int j]) => (i, j)
    | _ => (0, 0)
  | _ => (0, 0)
theorem pairAt_of {H : Hp} {t : Addr} {q : Int × Int} (e : H t = some (.tup [.int q.1, .int q.2])) : pairAt H (.ref t) = q := by
  unfold pairAt
  simp only [e]
theorem Tups.map {H : Hp} : ∀ {ts : List Addr} {ps : List (Int × Int)}, Tups H ts ps → (ts.map V.ref).map (pairAt H) = ps
  | _, _, .nil => rfl
  | _, _, .cons h t => by
    rw [List.map_cons, List.map_cons, pairAt_of h, Tups.map t]
theorem Tups.all {H : Hp} : ∀ {ts : List Addr} {ps : List (Int × Int)}, Tups H ts ps → ∀ x ∈ ts.map V.ref, ∃ t, x = V.ref t ∧ H t = some (.tup [.int (pairAt H x).1, .int (pairAt H x).2])
  | _, _, .nil, _, h => nomatch h
  | _, _, .cons h t, x, hx => by
    rw [List.map_cons] at hx
    rcases List.mem_cons.mp hx with e | e
    · subst e
      refine ⟨_, rfl, ?_⟩
      rw [pairAt_of h]
      exact h
    · exact Tups.all t x e
theorem tups_of {H : Hp} : ∀ (xs : List V), (∀ x ∈ xs, ∃ t, x = V.ref t ∧ H t = some (.tup [.int (pairAt H x).1, .int (pairAt H x).2])) → ∃ ts, xs = ts.map V.ref ∧ Tups H ts (xs.map (pairAt H))
  | [], _ => ⟨[], rfl, .nil⟩
  | x :: r, h => by
    obtain ⟨t, e, q⟩ := h x (List.mem_cons_self ..)
    obtain ⟨ts, e2, q2⟩ := tups_of r fun y hy => h y (List.mem_cons_of_mem _ hy)
    subst e
    exact ⟨t :: ts, by rw [e2]; rfl, .cons q q2⟩
/-- sorted of a list of pairs -/
def rSortedQ (K : PySem.W.Frag) : List V → Hp → VK → Prop := fun vs H Q => ∃ (a : Addr) (ts : List Addr) (ps : List (Int × Int)), vs = [V.ref a] ∧ SqL K H a (ts.map V.ref) ∧ Tups H ts ps ∧
  ∀ (p : Addr) (ts' : List Addr), H p = none → Tups H ts' (psort ps) → Q (.ref p) (upd H p (.lst (ts'.map V.ref)))
theorem cr_sortedQ {X : Cx} : CallR X (.builtin "sorted") (rSortedQ X.K) := by
  intro pins s σ H vs us Q I r h
  obtain ⟨a, ts, ps, rfl, hs, ht, q⟩ := h
  refine cr_sortedPO pins s σ H _ us Q I r ⟨a, ts.map V.ref, pairAt H, rfl, hs, ht.all, fun ys p srt stb np => ?_⟩
  have hp := stb.perm
  obtain ⟨ts', e, t'⟩ := tups_of (H := H) ys fun x hx => ht.all x (hp.mem_iff.mp hx)
  have es : ys.map (pairAt H) = psort ps := by
    refine psort_uniq ?_ ?_
    · refine List.pairwise_map.mpr (srt.imp fun {x y} h => ?_)
      have := SrtO.lexB_no.mp h
      unfold leP
      simp only [decide_eq_true_eq]
      omega
    · have := hp.map (pairAt H)
      rw [ht.map] at this
      exact this
  rw [es] at t'
  subst e
  exact q p ts' np t'
/-- sorted of a list of ints -/
def rSortedJ (K : PySem.W.Frag) : List V → Hp → VK → Prop := fun vs H Q => ∃ (a : Addr) (ns : List Int), vs = [V.ref a] ∧ SqL K H a (ns.map V.int) ∧ ∀ p, H p = none → Q (.ref p) (upd H p (.lst ((isort ns).map V.int)))
theorem cr_sortedJ {X : Cx} : CallR X (.builtin "sorted") (rSortedJ X.K) := by
  intro pins s σ H vs us Q I r h
  obtain ⟨a, ns, rfl, hs, q⟩ := h
  refine cr_sortedI pins s σ H _ us Q I r ⟨a, ns, rfl, hs, fun ns' p hp srt np => ?_⟩
  rw [isort_uniq srt hp]
  exact q p np
/-! ### data: lists of ints, pairs, lists of lists -/
def dI (ns : List Int) : PyData := .list (ns.map PyData.int)
def dT (q : Int × Int) : PyData := .tuple [.int q.1, .int q.2]
def dL (rows : List (List Int)) : PyData := .list (rows.map dI)
theorem ints_lay : ∀ ns : List Int, PyData.canLayAll0 (ns.map PyData.int) = true
  | [] => rfl
  | n :: r => by simp [PyData.canLayAll0, PyData.canLay0, ints_lay r]
theorem ints_depth : ∀ ns : List Int, PyData.depthAll (ns.map PyData.int) = 0
  | [] => rfl
  | n :: r => by simp [PyData.depthAll, PyData.depth, ints_depth r]
theorem dI_lay (ns : List Int) : PyData.canLay0 (dI ns) = true := by
  unfold dI
  simp only [PyData.canLay0]
  exact ints_lay ns
theorem dI_depth (ns : List Int) : PyData.depth (dI ns) ≤ 1 := by
  unfold dI
  simp only [PyData.depth]
  rw [ints_depth]
  omega
theorem dI_shaped (ns : List Int) : SeqAt.shaped (dI ns) = true := by
  unfold SeqAt.shaped
  rw [Bool.and_eq_true]
  exact ⟨dI_lay ns, decide_eq_true (Nat.le_trans (dI_depth ns) (by decide))⟩
theorem dT_shaped (q : Int × Int) : SeqAt.shaped (dT q) = true := by
  unfold SeqAt.shaped dT
  rw [Bool.and_eq_true]
  exact ⟨by simp [PyData.canLay0, PyData.canLayAll0], decide_eq_true (by simp [PyData.depth, PyData.depthAll])⟩
theorem dLs_lay : ∀ rs : List (List Int), PyData.canLayAll0 (rs.map dI) = true
  | [] => rfl
  | n :: r => by simp [PyData.canLayAll0, dI_lay n, dLs_lay r]
theorem dLs_depth : ∀ rs : List (List Int), PyData.depthAll (rs.map dI) ≤ 1
  | [] => by simp [PyData.depthAll]
  | n :: r => by
    have h1 := dI_depth n
    have h2 := dLs_depth r
    simp only [List.map_cons, PyData.depthAll]
    omega
theorem dL_shaped (rs : List (List Int)) : SeqAt.shaped (dL rs) = true := by
  unfold SeqAt.shaped dL
  rw [Bool.and_eq_true]
  refine ⟨by simp only [PyData.canLay0]; exact dLs_lay rs, decide_eq_true ?_⟩
  have h := dLs_depth rs
  simp only [PyData.depth]
  omega
theorem ints_eqv : ∀ a b : List Int, PyData.eqvAll (a.map PyData.int) (b.map PyData.int) = decide (a = b)
  | [], [] => by simp [PyData.eqvAll]
  | [], y :: b => by simp [PyData.eqvAll]
  | x :: a, [] => by simp [PyData.eqvAll]
  | x :: a, y :: b => by
    simp only [List.map_cons, PyData.eqvAll, PyData.eqv, ints_eqv a b]
    by_cases h : x = y
    · subst h
      simp
    · simp [h]
theorem dI_eqv (a b : List Int) : PyData.eqv (dI a) (dI b) = decide (a = b) := by
  unfold dI
  simp only [PyData.eqv]
  exact ints_eqv a b
theorem dT_eqv (p q : Int × Int) : PyData.eqv (dT p) (dT q) = decide (p = q) := by
  obtain ⟨a, b⟩ := p
  obtain ⟨c, d⟩ := q
  unfold dT
  simp only [PyData.eqv, PyData.eqvAll]
  by_cases h1 : a = c
  · by_cases h2 : b = d
    · subst h1 h2
      simp
    · simp [h1, h2]
  · simp [h1]
theorem dLs_eqv : ∀ a b : List (List Int), PyData.eqvAll (a.map dI) (b.map dI) = decide (a = b)
  | [], [] => by simp [PyData.eqvAll]
  | [], y :: b => by simp [PyData.eqvAll]
  | x :: a, [] => by simp [PyData.eqvAll]
  | x :: a, y :: b => by
    simp only [List.map_cons, PyData.eqvAll, dI_eqv, dLs_eqv a b]
    by_cases h : x = y
    · subst h
      simp
    · simp [h]
theorem dL_eqv (a b : List (List Int)) : PyData.eqv (dL a) (dL b) = decide (a = b) := by
  unfold dL
  simp only [PyData.eqv]
  exact dLs_eqv a b
def dP (ps : List (Int × Int)) : PyData := .list (ps.map dT)
theorem dTs_lay : ∀ ps : List (Int × Int), PyData.canLayAll0 (ps.map dT) = true
  | [] => rfl
  | n :: r => by simp [PyData.canLayAll0, PyData.canLay0, dT, dTs_lay r]
theorem dTs_depth : ∀ ps : List (Int × Int), PyData.depthAll (ps.map dT) ≤ 1
  | [] => by simp [PyData.depthAll]
  | n :: r => by
    have h2 := dTs_depth r
    have h1 : PyData.depth (dT n) ≤ 1 := by simp [dT, PyData.depth, PyData.depthAll]
    simp only [List.map_cons, PyData.depthAll]
    omega
theorem dP_shaped (ps : List (Int × Int)) : SeqAt.shaped (dP ps) = true := by
  unfold SeqAt.shaped dP
  rw [Bool.and_eq_true]
  refine ⟨by simp only [PyData.canLay0]; exact dTs_lay ps, decide_eq_true ?_⟩
  have h := dTs_depth ps
  simp only [PyData.depth]
  omega
theorem dTs_eqv : ∀ a b : List (Int × Int), PyData.eqvAll (a.map dT) (b.map dT) = decide (a = b)
  | [], [] => by simp [PyData.eqvAll]
  | [], y :: b => by simp [PyData.eqvAll]
  | x :: a, [] => by simp [PyData.eqvAll]
  | x :: a, y :: b => by
    simp only [List.map_cons, PyData.eqvAll, dT_eqv, dTs_eqv a b]
    by_cases h : x = y
    · subst h
      simp
    · simp [h]
theorem dP_eqv (a b : List (Int × Int)) : PyData.eqv (dP a) (dP b) = decide (a = b) := by
  unfold dP
  simp only [PyData.eqv]
  exact dTs_eqv a b
theorem dp_ints {K : PySem.W.Frag} {H : Hp} : ∀ ns : List Int, DpAll K H (ns.map V.int) (ns.map PyData.int)
  | [] => .nil
  | n :: r => .cons (.int n) (dp_ints r)
theorem dp_I {K : PySem.W.Frag} {H : Hp} {a : Addr} {ns : List Int} (h : SqL K H a (ns.map V.int)) : Dp K H (.ref a) (dI ns) := .lst h (dp_ints ns)
theorem dp_T {K : PySem.W.Frag} {H : Hp} {a : Addr} {q : Int × Int} (h : H a = some (.tup [.int q.1, .int q.2])) : Dp K H (.ref a) (dT q) := .tup (SqT.of h) (.cons (.int _) (.cons (.int _) .nil))
theorem dp_Ts {K : PySem.W.Frag} {H : Hp} : ∀ {ts : List Addr} {ps : List (Int × Int)}, Tups H ts ps → DpAll K H (ts.map V.ref) (ps.map dT)
  | _, _, .nil => .nil
  | _, _, .cons h t => .cons (dp_T h) (dp_Ts t)
theorem dp_P {K : PySem.W.Frag} {H : Hp} {a : Addr} {ts : List Addr} {ps : List (Int × Int)} (h : SqL K H a (ts.map V.ref)) (r : Tups H ts ps) : Dp K H (.ref a) (dP ps) := .lst h (dp_Ts r)
/-- the lists at as hold the rows -/
def Rows (H : Hp) (as : List Addr) (rows : List (List Int)) : Prop := Paired (fun a r => H a = some (.lst (r.map V.int))) as rows
theorem Rows.same {H H' : Hp} {as : List Addr} {rs : List (List Int)} (h : Rows H as rs) (s : Same H H') : Rows H' as rs := Paired.mapP h fun _ _ e => s _ _ e
theorem Rows.len {H : Hp} {as : List Addr} {rs : List (List Int)} (h : Rows H as rs) : as.length = rs.length := Paired.length h
theorem Rows.snoc {H : Hp} {as : List Addr} {rs : List (List Int)} {a : Addr} {r : List Int} (h : Rows H as rs) (e : H a = some (.lst (r.map V.int))) : Rows H (as ++ [a]) (rs ++ [r]) := Paired.snoc h e
theorem Rows.get {H : Hp} {as : List Addr} {rs : List (List Int)} (h : Rows H as rs) {i : Nat} {r : List Int} (e : rs[i]? = some r) : ∃ a, as[i]? = some a ∧ H a = some (.lst (r.map V.int)) := by
  have hl := h.len
  have hi : i < as.length := by
    have := (List.getElem?_eq_some_iff.mp e).1
    omega
  refine ⟨as[i], List.getElem?_eq_getElem hi, ?_⟩
  obtain ⟨q', e', hq⟩ := paired_get h (List.getElem?_eq_getElem hi)
  rw [e] at e'
  cases e'
  exact hq
theorem Rows.at {H : Hp} {as : List Addr} {rs : List (List Int)} (h : Rows H as rs) {i : Nat} {a : Addr} (e : as[i]? = some a) : ∃ r, rs[i]? = some r ∧ H a = some (.lst (r.map V.int)) := paired_get h e
theorem Rows.mem {H : Hp} {as : List Addr} {rs : List (List Int)} (h : Rows H as rs) {a : Addr} (e : a ∈ as) : ∃ r, r ∈ rs ∧ H a = some (.lst (r.map V.int)) := by
  obtain ⟨i, hi, rfl⟩ := List.getElem_of_mem e
  obtain ⟨r, h1, h2⟩ := h.at (List.getElem?_eq_getElem hi)
  exact ⟨r, List.mem_of_getElem? h1, h2⟩
/-- a list that is none of the rows may change -/
theorem Rows.upd {H : Hp} {as : List Addr} {rs : List (List Int)} {p : Addr} {o : HO} (h : Rows H as rs) (e : p ∉ as) : Rows (upd H p o) as rs := by
  unfold Rows at *
  induction h with
  | nil => exact .nil
  | cons q t ih =>
    refine .cons ?_ (ih fun z => e (List.mem_cons_of_mem _ z))
    rw [upd_ne (fun z => e (by rw [← z]; exact List.mem_cons_self ..))]
    exact q
theorem Rows.take {H : Hp} {as : List Addr} {rs : List (List Int)} (h : Rows H as rs) (k : Nat) : Rows H (as.take k) (rs.take k) := by
  unfold Rows at *
  induction h generalizing k with
  | nil => rw [List.take_nil, List.take_nil]; exact .nil
  | cons q t ih =>
    cases k with
    | zero => exact .nil
    | succ k => exact .cons q (ih k)
theorem dp_Ls {K : PySem.W.Frag} {H : Hp} : ∀ {as : List Addr} {rs : List (List Int)}, Rows H as rs → DpAll K H (as.map V.ref) (rs.map dI)
  | _, _, .nil => .nil
  | _, _, .cons h t => .cons (dp_I (SqL.of h)) (dp_Ls t)
theorem dp_L {K : PySem.W.Frag} {H : Hp} {a : Addr} {as : List Addr} {rs : List (List Int)} (h : SqL K H a (as.map V.ref)) (r : Rows H as rs) : Dp K H (.ref a) (dL rs) := .lst h (dp_Ls r)
theorem dL_any (rs : List (List Int)) (r : List Int) : ((rs.map dI).any fun z => PyData.eqv z (dI r)) = decide (r ∈ rs) := by
  induction rs with
  | nil => rfl
  | cons x rs ih =>
    rw [List.map_cons, List.any_cons, ih, dI_eqv]
    by_cases h : x = r
    · subst h
      simp
    · by_cases h2 : r ∈ rs
      · simp [h2]
      · simp [h, h2, Ne.symm h]
theorem cut_take (xs : List V) (k : Nat) : cutV xs none (some (k : Int)) = xs.take k := by
  unfold cutV
  rw [HT.sIx_none, HT.sIx_nat, List.drop_zero, Nat.sub_zero]
  by_cases h : k ≤ xs.length
  · rw [Nat.min_eq_left h]
  · rw [Nat.min_eq_right (by omega), List.take_length, List.take_of_length_le (by omega)]
theorem Tups.take {H : Hp} {ts : List Addr} {ps : List (Int × Int)} (h : Tups H ts ps) (k : Nat) : Tups H (ts.take k) (ps.take k) := by
  unfold Tups at *
  induction h generalizing k with
  | nil => rw [List.take_nil, List.take_nil]; exact .nil
  | cons q t ih =>
    cases k with
    | zero => exact .nil
    | succ k => exact .cons q (ih k)
/-! ### what the program's own looks ask -/
def Guard (CM CS : Addr) (m : Int) (ms : List Int) (E : XK) (H : Hp) (good : Prop) : Prop :=
  ((m < 0 ∨ 40 < m) → E (.ref CM) none H) ∧ (¬ (m < 0 ∨ 40 < m) → setOk m (-1) ms = false → E (.ref CS) none H) ∧ (∀ n : Nat, m = (n : Int) → n ≤ 40 → IsSet n ms → good)
theorem Guard.of {CM CS : Addr} {n : Nat} {ms : List Int} {E : XK} {H : Hp} {good : Prop} (hn : n ≤ 40) (h : IsSet n ms) (g : good) : Guard CM CS n ms E H good :=
  ⟨fun z => absurd z (by omega), fun _ z => by rw [setOk_set.mpr h] at z; (cases z), fun _ _ _ _ => g⟩
theorem Guard.imp {CM CS : Addr} {m : Int} {ms : List Int} {E : XK} {H : Hp} {good good' : Prop} (h : Guard CM CS m ms E H good) (g : ∀ n : Nat, m = (n : Int) → n ≤ 40 → IsSet n ms → good → good') : Guard CM CS m ms E H good' :=
  ⟨h.1, h.2.1, fun n e h1 h2 => g n e h1 h2 (h.2.2 n e h1 h2)⟩
/-! ### rules whose reading names the written part (for a comprehension's block) -/
/-! ### texts -/
def txt (L : List Nat) : Str := ⟨L.toArray⟩
theorem txt_len (L : List Nat) : (txt L).length = L.length := rfl
theorem txt_app (L M : List Nat) : txt L ++ txt M = txt (L ++ M) := TL.ext_tl (by rw [TL.tl_append]; rfl)
theorem txt_inj {L M : List Nat} (h : txt L = txt M) : L = M := by
  have := congrArg TL.tl h
  exact this
theorem txt_open : (Str.ofString "(") = txt [40] := by decide +kernel
theorem txt_close : (Str.ofString ")") = txt [41] := by decide +kernel
theorem joinL_ones : ∀ L : List Nat, TL.joinL [] (L.map fun c => [c]) = L
  | [] => rfl
  | [c] => rfl
  | c :: d :: r => by
    show [c] ++ ([] ++ TL.joinL [] ((d :: r).map fun c => [c])) = _
    rw [joinL_ones (d :: r)]
    rfl
theorem txt_join (L : List Nat) : Txt.join (Str.ofString "") (L.map fun c => txt [c]) = txt L := by
  refine TL.ext_tl ?_
  have e0 : TL.tl (Str.ofString "") = [] := by decide +kernel
  rw [TL.join_eq, TL.tl_join, e0, List.map_map]
  exact joinL_ones L
theorem ones_sum : ∀ L : List Nat, ((L.map fun c => txt [c]).map (·.length)).sum = L.length
  | [] => rfl
  | c :: L => by
    rw [List.map_cons, List.map_cons, List.sum_cons, ones_sum L, List.length_cons]
    show 1 + _ = _
    omega
/-! ### a caught exception handed on to a def -/
/-- an exception class, as a name and in an except clause -/
structure XC (K : PySem.W.Frag) (mg : Str → Option Value) (n : Str) (C : Addr) : Prop where
  g : mg n = some (.ref C)
  d : PySem.W.hasDictIn K C = true
  t : PySem.W.typeIn K (.ref C) = some (.type "type")
  b : PySem.W.subIn K (.ref C) (.type "BaseException") = some true
/-- a class that is raised, beside the four that are asked for -/
structure XQ (K : PySem.W.Frag) (D CE C1 C2 C3 C4 : Addr) (b1 b2 b3 b4 : Bool) : Prop where
  e : ExcC K D
  v : PySem.W.subIn K (.ref D) (.type "ValueError") = some true
  self : PySem.W.subIn K (.ref D) (.ref D) = some true
  up : PySem.W.subIn K (.ref D) (.ref CE) = some true
  s1 : PySem.W.subIn K (.ref D) (.ref C1) = some b1
  s2 : PySem.W.subIn K (.ref D) (.ref C2) = some b2
  s3 : PySem.W.subIn K (.ref D) (.ref C3) = some b3
  s4 : PySem.W.subIn K (.ref D) (.ref C4) = some b4
theorem kit_own {K : PySem.W.Frag} {D C : Addr} {b : Bool} (self : PySem.W.subIn K (.ref D) (.ref D) = some true) (hd : PySem.W.hasDictIn K C = true) (ht : PySem.W.typeIn K (.ref C) = some (.type "type")) (hs : PySem.W.subIn K (.ref D) (.ref C) = some b) :
    PySem.W.kitOne K (.ref D) (.ref C) = some b := by
  unfold PySem.W.kitOne
  by_cases h : D = C
  · subst h
    rw [self] at hs
    rw [if_pos (beq_self_eq_true _)]
    exact hs
  · rw [if_neg (fun z => h (Value.ref.inj (beq_iff_eq.mp z)))]
    obtain ⟨cd, hc, _⟩ := PySem.W.any_some hd
    show (if ((PySem.W.clsIn K C).isSome && PySem.W.typeIn K (.ref C) == some (.type "type")) = true then _ else none) = some b
    rw [if_pos (by rw [hc, ht]; rfl)]
    exact hs
theorem kit_val {K : PySem.W.Frag} {D : Addr} (h : PySem.W.subIn K (.ref D) (.type "ValueError") = some true) : PySem.W.kitOne K (.ref D) (.type "ValueError") = some true := by
  unfold PySem.W.kitOne
  rw [if_neg (by intro z; cases beq_iff_eq.mp z)]
  show (if PySem.W.kitMeta "ValueError" = true then _ else none) = some true
  rw [if_pos (by decide +kernel)]
  exact h
/-- what a def promises that is handed the exception at a, of class c -/
abbrev SpE := Addr → Value → Option Addr → Sp
structure FnP (P : Program) (w : World) (K : PySem.W.Frag) (mg : Str → Option Value) (base : Heap) (k : Nat) (f : Addr) (fd : FuncData) (ps : List Str) (sp : SpE) : Prop where
  len : ∀ a c d vs H Q E, sp a c d vs H Q E → vs.length = ps.length
  go : ∀ (A : Around) (up : List Env) (s : Shared) (H : Hp) (as : Args) (us : List Value) (vs : List V) (Q : VK) (p : Addr × Obj) (c : Value) (d : Option Addr), L2H.RoomH k A → Zc c d p.2 → (∃ g, p.2.data = .fields g) → L2H.PinOk up H s p →
    Env0 P w K mg base A up s H → BindsTo s fd as (ps.zip us) → Vals vs us → sp p.1 c d vs H Q E0 → codeAny (model P w) A (.call (.ref f) as) (CR CX0 up P w H s Q E0) s
structure DefP (P : Program) (w : World) (K : PySem.W.Frag) (mg : Str → Option Value) (base : Heap) (k : Nat) (x : Str) (ps : List Str) (sp : SpE) : Prop where
  ex : ∃ (f : Addr) (fd : FuncData), FnP P w K mg base k f fd ps sp ∧ mg x = some (.ref f) ∧ PySem.W.keepIn K (.ref f) = true ∧ Binds K fd ps []
theorem fnP {P : Program} {w : World} {K : PySem.W.Frag} {mg : Str → Option Value} {base : Heap} {x qual : Str} {st : Stmt} {f : Addr} {fd : FuncData} {N ps : List Str} {k : Nat} {sp : SpE} (F : Fun K x qual st f fd) (S : FnScope N ps (defScope st))
    (len : ∀ a c d vs H Q E, sp a c d vs H Q E → vs.length = ps.length)
    (walk : ∀ (cdv : Value) (A : Around) (up : List Env) (s : Shared) (H : Hp) (vs : List V) (Q : VK) (p : Addr × Obj) (c : Value) (d : Option Addr), L2H.RoomH k (A.deeper (envOfC qual (defScope st) s.heap.objs.size f cdv)) → Zc c d p.2 → (∃ g, p.2.data = .fields g) → sp p.1 c d vs H Q E0 →
      ∃ t, PSs (L2H.cxH CX0 P w K mg base N qual (defScope st) f cdv A up s H E0 p) (defBody st) t ∧ t { nx := fun _ H' => Q .non H', rt := Q } (L2.start N vs) H) : FnP P w K mg base (k + 1) f fd ps sp := by
  obtain ⟨c0, d0, kv, dc, pm, an, cdv, ct, sl0, rfl, lk, cd⟩ := F.ex
  refine ⟨len, fun A up s H as us vs Q p c d room zc fl pin e0 bnd rv asked => ?_⟩
  have same := len _ _ _ _ _ _ _ asked
  have here : K.In s.heap := e0.mod.kin.keeps fun b o e => (e0.bs b o e).1
  have open0 : s.heap.NoLimit := e0.mod.nolimit.keeps fun b o e => (e0.bs b o e).1
  have slot : ∀ y ∈ ps.zip us, (defScope st).names.lookup y.1 = some .local ∨
      ((defScope st).names.lookup y.1 = some .cell ∧ ((cellsFrom (s.heap.objs.size + 1) (defScope st).names []).lookup y.1).isSome = true) := by
    rintro ⟨n, u⟩ hy
    rcases S.par n (List.of_mem_zip hy).1 with z | z
    · exact .inl z
    · exact .inr ⟨z, PySem.W.cellsFrom_some _ _ _ (.inl z)⟩
  refine codeAny_call_function room.depth (here _ _ lk) rfl S.co S.gen rfl (PySem.W.codeRec_of here cd) (bnd _ _ _ _ ?_)
  refine wpAny_newFunctionEnv_cells S.kind slot fun env ee s1 xs => ?_
  subst ee
  refine ⟨open0.keeps xs.toInCall.keep, codeAny_func ?_⟩
  obtain ⟨t, ht, hq⟩ := walk cdv A up s H vs Q p c d (room.deeper _) zc fl asked
  have I := L2H.inv_startH (CX := CX0) (E := E0) S pin e0 same rv xs
  refine wpAny_mono (ht.run [] s1 (L2.start N vs) H _ I hq) (fun fw s' ends => ?_) fun _ _ z => z
  cases fw with
  | ret u =>
    obtain ⟨v, σ', H', J, r, q⟩ := ends
    exact ⟨v, H', J.os, J.bare, J.base, J.hok, r, q⟩
  | next =>
    obtain ⟨σ', H', J, q⟩ := ends
    exact ⟨V.non, H', J.os, J.bare, J.base, J.hok, rfl, q⟩
  | brk =>
    obtain ⟨_, _, _, z⟩ := ends
    exact z.elim
  | cont =>
    obtain ⟨_, _, _, z⟩ := ends
    exact z.elim
/-- a call of such a def within an except suite -/
def tCallP (sp : SpE) (a : Addr) (c : Value) (d : Option Addr) (t : TA) : TE := fun σ H Q => t σ H fun vs H1 => sp a c d vs H1 Q E0
theorem pe_callP {X : Cx} {k : Nat} {f : Addr} {fd : FuncData} {ps : List Str} {sp : SpE} {x : Str} {q pos : Pos} {e : Expr} {es : List Expr} {t : TA} {a : Addr} {oe : Obj} {c : Value} {d : Option Addr}
    (F : FnP X.prog X.w X.K X.mg X.base k f fd ps sp) (room : L2H.RoomH k X.A) (hp : (a, oe) ∈ X.pn) (zc : Zc c d oe) (fl : ∃ g, oe.data = .fields g) (hg : Gl X x) (hm : X.mg x = some (.ref f)) (hk : PySem.W.keepIn X.K (.ref f) = true) (hb : Binds X.K fd ps []) (ha : PA X (e :: es) t)
    (nodb : (x == ("__debug__" : Str)) = false := by decide) (first : starEach (e :: es) X.env = (false, eval e X.env) :: starEach es X.env := by rfl) (plain : (backTo pos (starEach es X.env)).any (·.1) = false := by rfl) :
    PE X (.Call (.Name x q) (e :: es) [] pos) (tCallP sp a c d t) := by
  constructor
  intro pins s σ H Q I asked
  refine wpAny_Call_Name_kw (ld_glob I hg hm ?_ nodb)
  refine PySem.W.callWith_K (h₀ := X.base) I.ok.mod.kin hk (thn (ha.run pos pins s σ H _ I asked) fun us s1 ends => ?_) first plain
  obtain ⟨vs, H1, I1, rv, h⟩ := ends
  refine ⟨I1.kIn, ?_⟩
  have lu : us.length = ps.length := rv.length.symm.trans (F.len _ _ _ _ _ _ _ h)
  have bnd := hb s1 us I1.kIn (by rw [List.append_nil]; exact lu)
  rw [List.append_nil] at bnd
  obtain ⟨p1, p2, p3, p4, p5⟩ := I1.pin (a, oe) (List.mem_append_left _ hp)
  have pin : L2H.PinOk X.stack H1 s1 (a, oe) := by
    refine ⟨p1, p2, fun m => ?_, p5⟩
    rcases List.mem_cons.mp (I1.stkSub a m) with z | z
    · exact p3 z
    · exact p4 z
  refine wpAny_call (codeAny_mono (F.go X.A X.stack s1 H1 ⟨us, []⟩ us vs Q (a, oe) c d room zc fl pin I1.env0 bnd rv h) fun r s' got => ?_)
  cases r with
  | error z => exact False.elim got
  | ok fw =>
    cases fw with
    | ret u => exact I1.after got
    | next => exact False.elim got
    | brk => exact False.elim got
    | cont => exact False.elim got
theorem roomP {j k : Nat} {A : Around} {v : Option Value} (r : Room k A) (h : j ≤ k) : L2H.RoomH j (A.mark v) :=
  ⟨by have := r.dp; show A.depth + 3 * j + 5 < _; omega, by have := r.un; show A.units + 16 * j + 200 < _; omega⟩
theorem uH {k : Nat} {A : Around} (r : L2H.RoomH k A) : A.units + 65 < cLine := by have := r.un; omega
/-- isinstance(e, c) of the exception that was handed on -/
theorem call_isP {X : Cx} {p : Addr × Obj} {D : Addr} (C : ExcC X.K D) (hp : p ∈ X.pn) (zc : Zc (.ref D) none p.2) (fl : ∃ g, p.2.data = .fields g) : CallR X (.builtin "isinstance") (rIsE X.K D p.1) := by
  intro pins s σ H xs us Q I r asked
  obtain ⟨c, cv, b, rfl, known, kit, q⟩ := asked
  obtain ⟨u1, u2, rfl, r1, r2⟩ := vals2 r
  cases (show u1 = Value.ref p.1 from r1)
  have e2 := known u2 r2
  subst e2
  have got := (I.pin p (List.mem_append_left _ hp)).1
  obtain ⟨g, hg⟩ := fl
  obtain ⟨a, cl, di, da, sl⟩ := p
  obtain ⟨z1, z2⟩ := zc
  dsimp only at z1 z2 hg got
  subst z1 z2 hg
  have J : PySem.W.InstAt s.heap a ⟨.ref D, none, .fields g, sl⟩ D none := ⟨got, rfl, rfl, trivial⟩
  exact PySem.W.kia_one (PySem.W.handS_kitx_exc C.hg C.hk C.hs C.hd C.ha C.hn C.ht C.hm) I.kIn J kit (fun z => nomatch z) fun tk => ⟨.bl b, H, I.kept (t' := tk) fun _ _ z => z, rfl, q⟩
theorem own_val {C : Addr} {u : Value} (h : RelV (.ref C) u) : u = .ref C := h
theorem ty_val {n : String} {u : Value} (h : RelV (.ty n) u) : u = .type n := h
/-- l.count(x), items that are data of any depth -/
def rCountD (K : PySem.W.Frag) : V → List V → Hp → VK → Prop := fun x xs H Q => ∃ (a : Addr) (y : V) (d : PyData) (ds : List PyData), x = V.ref a ∧ xs = [y] ∧ Dp K H (V.ref a) (.list ds) ∧ Dp K H y d ∧ SeqAt.shaped (.list ds) = true ∧ SeqAt.shaped d = true ∧ Q (.int (ds.countP fun z => PyData.eqv z d : Nat)) H
theorem mt_countD {X : Cx} (hu : X.A.units + 65 < cLine) : MtR X "list.count" (rCountD X.K) := by
  intro pins s σ H x xs v us Q I rx rxs h
  obtain ⟨a, y, d, ds, rfl, rfl, hl, hy, sl, sd, q⟩ := h
  cases rx
  cases rxs with
  | cons ry rt =>
    rename_i uy ut
    cases rt
    obtain ⟨bs, r1⟩ := Dp.reads I d y uy hy ry
    have lay : PyData.canLayAll0 ds = true := SeqAt.canLay_of_shaped sl
    have room : X.A.units + 1 + min (PyData.depthAll ds) d.depth < cLine := room_in_shaped sd hu
    cases hl with
    | lst hs ha =>
      obtain ⟨its, rv, ⟨⟨cls, dd, data, sls⟩, n, ho, hc, hdn, hdt⟩, hlen⟩ := I.list hs
      dsimp only at hc hdt
      subst hc hdt
      obtain ⟨as, h4⟩ := Dp.readsAll I ds _ its ha rv
      have hmap : its.map (SeqAt.readOf s.heap) = ds := SeqAt.readsAll_map ds its as lay h4
      have all : ReadsAll s.heap its.toArray.toList ds as := h4
      refine call_meets PySem.F.slot_list_count ⟨_, ho, rfl⟩ PySem.F.entry_list_count (PySem.F.args_list_count_2 _ _) (SeqAt.list_countAt a its.toArray n dd sls uy fun u => PyData.eqv (SeqAt.readOf s.heap u) d) ⟨ho, SeqAt.items_eqAt all r1 lay (SeqAt.canLay_of_shaped sd) room, ?_⟩
      refine ⟨.int (ds.countP fun z => PyData.eqv z d : Nat), H, I.tok _, ⟨s.toks, ?_⟩, q⟩
      rw [← hmap, List.countP_map]
      rfl
/-- which of the four it is, in a word -/
def OneHot (b1 b2 b3 b4 : Bool) (z : Str) : Prop := (b1 = true ∧ b2 = false ∧ b3 = false ∧ b4 = false ∧ z = Str.ofString "many") ∨ (b1 = false ∧ b2 = true ∧ b3 = false ∧ b4 = false ∧ z = Str.ofString "set") ∨
  (b1 = false ∧ b2 = false ∧ b3 = true ∧ b4 = false ∧ z = Str.ofString "number") ∨ (b1 = false ∧ b2 = false ∧ b3 = false ∧ b4 = true ∧ z = Str.ofString "note")
def spWord (K : PySem.W.Frag) (CE C1 C2 C3 C4 : Addr) : SpE := fun a c d vs H Q _ => vs = [.ref a] ∧ ∃ (D : Addr) (b1 b2 b3 b4 : Bool) (z : Str), c = .ref D ∧ d = none ∧ XQ K D CE C1 C2 C3 C4 b1 b2 b3 b4 ∧ OneHot b1 b2 b3 b4 z ∧ ∀ H', Same H H' → Q (.str z) H'
/-! ### the text -/
def topS (i : Nat) : Stmt := PySem.Challenge.pw_setchains_k16_refused_sets.main.body.getD i (.Pass ⟨0, 0, 0, 0⟩)
abbrev s_asked_many : Stmt := topS 8
theorem sc_asked_many : FnScope ["many", "most"] ["many", "most"] (defScope s_asked_many) := ⟨rfl, rfl, rfl, by decide +kernel, rfl, by decide +kernel, by decide +kernel⟩
abbrev s_asked_set : Stmt := topS 9
theorem sc_asked_set : FnScope ["many", "members", "before", "thing"] ["many", "members"] (defScope s_asked_set) := ⟨rfl, rfl, rfl, by decide +kernel, rfl, by decide +kernel, by decide +kernel⟩
abbrev s_parted : Stmt := topS 10
theorem sc_parted : FnScope ["many", "members", "inside", "thing", "pairs", "alone", "waiting"] ["many", "members"] (defScope s_parted) := ⟨rfl, rfl, rfl, by decide +kernel, rfl, by decide +kernel, by decide +kernel⟩
abbrev s_paired : Stmt := topS 11
theorem sc_paired : FnScope ["many", "members"] ["many", "members"] (defScope s_paired) := ⟨rfl, rfl, rfl, by decide +kernel, rfl, by decide +kernel, by decide +kernel⟩
abbrev s_loose : Stmt := topS 12
theorem sc_loose : FnScope ["many", "members", "pairs", "alone", "waiting"] ["many", "members"] (defScope s_loose) := ⟨rfl, rfl, rfl, by decide +kernel, rfl, by decide +kernel, by decide +kernel⟩
abbrev s_above : Stmt := topS 14
theorem sc_above : FnScope ["many", "members", "waiting"] ["many", "members"] (defScope s_above) := ⟨rfl, rfl, rfl, by decide +kernel, rfl, by decide +kernel, by decide +kernel⟩
abbrev s_below : Stmt := topS 15
theorem sc_below : FnScope ["many", "members", "alone", "thing"] ["many", "members"] (defScope s_below) := ⟨rfl, rfl, rfl, by decide +kernel, rfl, by decide +kernel, by decide +kernel⟩
abbrev s_chain : Stmt := topS 16
theorem sc_chain : FnScope ["many", "members", "alone", "waiting", "thing", "bottom", "found"] ["many", "members"] (defScope s_chain) := ⟨rfl, rfl, rfl, by decide +kernel, rfl, by decide +kernel, by decide +kernel⟩
abbrev s_picks : Stmt := topS 18
theorem sc_picks : FnScope ["total", "some", "ways", "k"] ["total", "some"] (defScope s_picks) := ⟨rfl, rfl, rfl, by decide +kernel, rfl, by decide +kernel, by decide +kernel⟩
abbrev s_endings : Stmt := topS 19
theorem sc_endings : FnScope ["rest", "closing", "waiting"] ["rest", "closing", "waiting"] (defScope s_endings) := ⟨rfl, rfl, rfl, by decide +kernel, rfl, by decide +kernel, by decide +kernel⟩
abbrev s_number_of : Stmt := topS 20
theorem sc_number_of : FnScope ["many", "bottom", "number", "waiting", "met", "thing", "size"] ["many", "bottom"] (defScope s_number_of) := ⟨rfl, rfl, rfl, by decide +kernel, rfl, by decide +kernel, by decide +kernel⟩
abbrev s_address : Stmt := topS 21
theorem sc_address : FnScope ["many", "members", "alone", "thing"] ["many", "members"] (defScope s_address) := ⟨rfl, rfl, rfl, by decide +kernel, rfl, by decide +kernel, by decide +kernel⟩
abbrev s_asked_family : Stmt := topS 23
theorem sc_asked_family : FnScope ["many", "family", "members", "k"] ["many", "family"] (defScope s_asked_family) := ⟨rfl, rfl, rfl, by decide +kernel, rfl, by decide +kernel, by decide +kernel⟩
abbrev s_lies_within : Stmt := topS 24
theorem sc_lies_within : FnScope ["one", "other", "thing"] ["one", "other"] (defScope s_lies_within) := ⟨rfl, rfl, rfl, by decide +kernel, rfl, by decide +kernel, by decide +kernel⟩
abbrev s_clash : Stmt := topS 25
theorem sc_clash : FnScope ["many", "family", "k", "j"] ["many", "family"] (defScope s_clash) := ⟨rfl, rfl, rfl, by decide +kernel, rfl, by decide +kernel, by decide +kernel⟩
abbrev s_common : Stmt := topS 26
theorem sc_common : FnScope ["one", "other"] ["one", "other"] (defScope s_common) := ⟨rfl, rfl, rfl, by decide +kernel, rfl, by decide +kernel, by decide +kernel⟩
abbrev s_share : Stmt := topS 27
theorem sc_share : FnScope ["many", "family", "above", "under", "members", "part", "both"] ["many", "family"] (defScope s_share) := ⟨rfl, rfl, rfl, by decide +kernel, rfl, by decide +kernel, by decide +kernel⟩
abbrev s_shown : Stmt := topS 29
theorem sc_shown : FnScope ["many", "members", "thing"] ["many", "members"] (defScope s_shown) := ⟨rfl, rfl, rfl, by decide +kernel, rfl, by decide +kernel, by decide +kernel⟩
abbrev s__law_cell_at : Stmt := topS 31
theorem sc__law_cell_at : FnScope ["script", "k"] ["script", "k"] (defScope s__law_cell_at) := ⟨rfl, rfl, rfl, by decide +kernel, rfl, by decide +kernel, by decide +kernel⟩
abbrev s__law_set_by : Stmt := topS 32
theorem sc__law_set_by : FnScope ["script", "at", "size", "one", "two", "found", "thing"] ["script", "at", "size"] (defScope s__law_set_by) := ⟨rfl, rfl, rfl, by decide +kernel, rfl, by decide +kernel, by decide +kernel⟩
abbrev s__law_word_of : Stmt := topS 33
theorem sc__law_word_of : FnScope ["e", "kinds"] ["e"] (defScope s__law_word_of) := ⟨rfl, rfl, rfl, by decide +kernel, rfl, by decide +kernel, by decide +kernel⟩
abbrev s__law_called : Stmt := topS 34
theorem sc__law_called : FnScope ["which", "size", "members"] ["which", "size", "members"] (defScope s__law_called) := ⟨rfl, rfl, rfl, by decide +kernel, rfl, by decide +kernel, by decide +kernel⟩
abbrev s__law_tried : Stmt := topS 35
theorem sc__law_tried : FnScope ["which", "size", "given", "e"] ["which", "size", "given"] (defScope s__law_tried) := ⟨rfl, rfl, rfl, by decide +kernel, rfl, by decide +kernel, by decide +kernel⟩
abbrev s__law_spoilt : Stmt := topS 36
theorem sc__law_spoilt : FnScope ["members", "way", "size", "cell", "at", "far"] ["members", "way", "size", "cell"] (defScope s__law_spoilt) := ⟨rfl, rfl, rfl, by decide +kernel, rfl, by decide +kernel, by decide +kernel⟩
abbrev s_law : Stmt := topS 37
theorem sc_law : FnScope ["script", "size", "members", "way", "given", "due", "family", "twice", "told", "far", "which", "row", "other"] ["script"] (defScope s_law) := ⟨rfl, rfl, rfl, by decide +kernel, rfl, by decide +kernel, by decide +kernel⟩
section
variable {X : Cx} (K : PySem.W.Frag)
theorem ix_listK (h : X.K = K := by rfl) : IxR X (rIxL K) := h ▸ ix_list
theorem ix_tupK (h : X.K = K := by rfl) : IxR X (rIxT K) := h ▸ ix_tup
theorem sl_listK (h : X.K = K := by rfl) : SlR X (rSlL K) := h ▸ sl_list
theorem pg_tupK {es : List Expr} {k : Nat} {t : TGs} {n : Nat} {pos : Pos} (hc : X.calm = true) (h : PGs X es t)
    (hn : (assignEach es X.env).length = n := by rfl) (hst : (assignEach es X.env).findIdx? (·.1) = none := by rfl) (hK : X.K = K := by rfl) : PG X (.Tuple es k pos) (gTup K n t) := hK ▸ pg_tup hc h hn hst
theorem op_in_seqK (h : X.K = K := by rfl) : OpR X (compareOp .In) (rIn K false) := h ▸ op_in_seq
theorem op_notIn_seqK (h : X.K = K := by rfl) : OpR X (compareOp .NotIn) (rIn K true) := h ▸ op_notIn_seq
theorem op_eqDK (hu : X.A.units + 64 < cLine) (h : X.K = K := by rfl) : OpR X (compareOp .Eq) (rEqD K) := h ▸ op_eqD hu
theorem op_neDK (hu : X.A.units + 64 < cLine) (h : X.K = K := by rfl) : OpR X (compareOp .NotEq) (rNeD K) := h ▸ op_neD hu
theorem op_inDK (hu : X.A.units + 65 < cLine) (h : X.K = K := by rfl) : OpR X (compareOp .In) (rInD K) := h ▸ op_inD hu
theorem op_notInDK (hu : X.A.units + 65 < cLine) (h : X.K = K := by rfl) : OpR X (compareOp .NotIn) (rNotInD K) := h ▸ op_notInD hu
theorem call_len_seqK (h : X.K = K := by rfl) : CallR X (.builtin "len") (fun xs H Q => ∃ p ys, xs = [.ref p] ∧ (SqL K H p ys ∨ SqT K H p ys) ∧ Q (.int ys.length) H) := h ▸ call_len_seq
theorem call_list_ofK (h : X.K = K := by rfl) : CallR X (.type "list") (fun xs H Q => ∃ p ys, xs = [.ref p] ∧ (SqL K H p ys ∨ SqT K H p ys) ∧ ∀ l, H l = none → Q (.ref l) (upd H l (.lst ys))) := h ▸ call_list_of
end
section
variable {P : Program} {w : World} {K : PySem.W.Frag} {mg : Str → Option Value} {base : Heap} {tM : Tok}
/-! #### asked_many -/
def spMany (C : Addr) : Sp := fun vs H Q E => ∃ m M : Int, vs = [.int m, .int M] ∧ ((m < 0 ∨ M < m) → E (.ref C) none H) ∧ (¬ (m < 0 ∨ M < m) → Q .non H)
theorem ok_asked_many {C_NoMany : Addr} (A : At K mg "asked_many" s_asked_many) (B : Bt mg tM) (X_NoMany : XT K mg "NoMany" C_NoMany) :
    Def P w K mg base (L2.CX P w) 1 "asked_many" ["many", "most"] (spMany C_NoMany) := by
  obtain ⟨f, fd, F, gm⟩ := A
  refine ⟨⟨f, fd, F.okX sc_asked_many (fun vs H Q E h => ?_) (fun cdv A outer s H vs Q E hr h => ?_), gm, F.kp, F.binds fun _ _ _ _ _ _ us hl => match us, hl with | [_, _], _ => rfl⟩⟩
  · obtain ⟨m, M, rfl, _⟩ := h
    rfl
  · obtain ⟨m, M, rfl, kE, kQ⟩ := h
    have tk := takes_of (X := cxOf (L2.CX P w) P w K mg base ["many", "most"] "asked_many" (defScope s_asked_many) f cdv A outer s H E) (E := E) rfl rfl rfl rfl
    refine ⟨_, (pss_one (ps_if (PW.pt (pw_or (pt_cmpR op_lt (pv 0) pe_int (nomark _)) (pw_or1 (pt_cmpR op_gt (pv 0) (pv 1) (nomark _))))) (pss_one (ps_raise rfl tk (pmk_own PySem.F.excBase_ValueError X_NoMany.x X_NoMany.g X_NoMany.k (raises_own X_NoMany.b X_NoMany.t) (by rfl)))) pss_nil)), ?_⟩
    refine ⟨_, rfl, m, 0, rfl, rfl, _, rfl, ite2 (fun h1 => ?_) (fun h1 => ?_)⟩
    · exact iteT (kE (.inl (of_decide_eq_true h1)))
    · have h1' : ¬ m < 0 := fun z => h1 (decide_eq_true z)
      refine ⟨_, rfl, _, rfl, m, M, rfl, rfl, _, rfl, ite2 (fun h2 => ?_) (fun h2 => ?_)⟩
      · exact kE (.inr (of_decide_eq_true h2))
      · exact kQ fun z => z.elim h1' fun q => h2 (decide_eq_true q)
/-! #### asked_set -/
def spSet (K : PySem.W.Frag) (C : Addr) : Sp := fun vs H Q E => ∃ (m : Int) (a : Addr) (ms : List Int), vs = [.int m, .ref a] ∧ SqL K H a (ms.map V.int) ∧ (setOk m (-1) ms = false → E (.ref C) none H) ∧ (setOk m (-1) ms = true → Q .non H)
theorem ok_asked_set {C_NoSet : Addr} (A : At K mg "asked_set" s_asked_set) (B : Bt mg tM) (X_NoSet : XT K mg "NoSet" C_NoSet) :
    Def P w K mg base (L2.CX P w) 1 "asked_set" ["many", "members"] (spSet K C_NoSet) := by
  obtain ⟨f, fd, F, gm⟩ := A
  refine ⟨⟨f, fd, F.okX sc_asked_set (fun vs H Q E h => ?_) (fun cdv A outer s H vs Q E hr h => ?_), gm, F.kp, F.binds fun _ _ _ _ _ _ us hl => match us, hl with | [_, _], _ => rfl⟩⟩
  · obtain ⟨m, a, ms, rfl, _⟩ := h
    rfl
  · obtain ⟨m, a, ms, rfl, hS, kE, kQ⟩ := h
    have tk := takes_of (X := cxOf (L2.CX P w) P w K mg base ["many", "members", "before", "thing"] "asked_set" (defScope s_asked_set) f cdv A outer s H E) (E := E) rfl rfl rfl rfl
    refine ⟨_, (pss_cons (ps_set (i := 2) sc_asked_set.nd rfl (.inl rfl) (pe_un un_neg pe_int))
    (pss_one (ps_for (passes_of rfl) rfl (pi_list (pv 1)) (pg_name (i := 3) sc_asked_set.nd rfl (.inl rfl)) (pss_cons (ps_if (PW.pt (pw_or (pt_cmpR op_le (pv 3) (pv 2) (nomark _)) (pw_or1 (pt_cmpR op_ge (pv 3) (pv 0) (nomark _))))) (pss_one (ps_raise rfl tk (pmk_own PySem.F.excBase_ValueError X_NoSet.x X_NoSet.g X_NoSet.k (raises_own X_NoSet.b X_NoSet.t) (by rfl)))) pss_nil)
    (pss_one (ps_set (i := 2) sc_asked_set.nd rfl (.inl rfl) (pv 3))))))), ?_⟩
    refine ⟨1, rfl, _, rfl, a, rfl, ⟨_, hS⟩, ?_⟩
    refine for_list (K := K) (a := a) (xs := ms.map V.int) (fun i σ H' => H' = H ∧ ∃ (b : Int) (y : Option V), σ = [some (.int m), some (.ref a), some (.int b), y] ∧ setOk m (-1) ms = setOk m b (ms.drop i)) ⟨rfl, -1, none, rfl, rfl⟩ (fun i σ H' _ ⟨e, _⟩ => e ▸ hS) ?_ ?_
    · rintro i x σ H' hi ⟨rfl, b, y, rfl, e⟩
      obtain ⟨v, hv, rfl⟩ := at_map hi
      have ed : ms.drop i = v :: ms.drop (i + 1) := List.drop_eq_getElem?_toList_append.trans (by rw [hv]; rfl)
      rw [ed] at e
      refine ⟨_, rfl, _, rfl, v, b, rfl, rfl, _, rfl, ite2 (fun h1 => ?_) (fun h1 => ?_)⟩
      · refine iteT (kE ?_)
        rw [e]
        exact if_pos (.inl (of_decide_eq_true h1))
      · have h1' : ¬ v ≤ b := fun z => h1 (decide_eq_true z)
        refine ⟨_, rfl, _, rfl, v, m, rfl, rfl, _, rfl, ite2 (fun h2 => ?_) (fun h2 => ?_)⟩
        · refine kE ?_
          rw [e]
          exact if_pos (.inr (of_decide_eq_true h2))
        · have h2' : ¬ m ≤ v := fun z => h2 (decide_eq_true z)
          refine ⟨_, rfl, rfl, v, some (.int v), rfl, ?_⟩
          rw [e]
          exact if_neg (fun z => z.elim h1' h2')
    · rintro σ H' ⟨rfl, b, y, rfl, e⟩
      refine kQ ?_
      rw [e, List.drop_of_length_le (by rw [List.length_map]; exact Nat.le_refl _)]
      all_goals rfl
/-! #### parted -/
/-- what parted tells: a tuple at p of the pairs at s, the loose members at al, the loose others at wa -/
structure Parted (H H' : Hp) (n : Nat) (ms : List Int) (p s al wa : Addr) (ts : List Addr) : Prop where
  same : Same H H'
  np : H p = none
  ns : H s = none
  nal : H al = none
  nwa : H wa = none
  d1 : al ≠ wa
  d2 : s ≠ al
  d3 : s ≠ wa
  tup : H' p = some (.tup [.ref s, .ref al, .ref wa])
  srt : H' s = some (.lst (ts.map V.ref))
  prs : Tups H' ts (psort (fin n ms).prs)
  aln : H' al = some (.lst ((fin n ms).aln.map V.int))
  wt : H' wa = some (.lst ((fin n ms).wt.map V.int))
def spParted (K : PySem.W.Frag) : Sp := fun vs H Q _ => ∃ (n : Nat) (a : Addr) (ms : List Int), vs = [.int (n : Int), .ref a] ∧ n ≤ 60 ∧ ms.length ≤ 100 ∧ SqL K H a (ms.map V.int) ∧
  ∀ H' p s al wa ts, Parted H H' n ms p s al wa ts → Q (.ref p) H'
theorem ok_parted (A : At K mg "parted" s_parted) (B : Bt mg tM) :
    Def P w K mg base CX0 1 "parted" ["many", "members"] (spParted K) := by
  obtain ⟨f, fd, F, gm⟩ := A
  refine ⟨⟨f, fd, F.ok sc_parted (fun vs H Q E h => ?_) (fun cdv A outer s H vs Q E hr h => ?_), gm, F.kp, F.binds fun _ _ _ _ _ _ us hl => match us, hl with | [_, _], _ => rfl⟩⟩
  · obtain ⟨n, a, ms, rfl, _⟩ := h
    rfl
  · obtain ⟨n, a, ms, rfl, hn, hm, hS, q⟩ := h
    refine ⟨_, (pss_cons (ps_set (i := 2) sc_parted.nd rfl (.inl rfl) pe_dnewK)
    (pss_cons (ps_for PassesOwn.never rfl (pi_list (pv 1)) (pg_name (i := 3) sc_parted.nd rfl (.inl rfl)) (pss_one (ps_dput (hu_of hr) (pv 2) (pv 3) pe_bl rfl)))
    (pss_cons (ps_set (i := 4) sc_parted.nd rfl (.inl rfl) (pe_lst pa_nil))
    (pss_cons (ps_set (i := 5) sc_parted.nd rfl (.inl rfl) (pe_lst pa_nil))
    (pss_cons (ps_set (i := 6) sc_parted.nd rfl (.inl rfl) (pe_lst pa_nil))
    (pss_cons (ps_for PassesOwn.never rfl (pi_range1 (by rfl) B.range (pa_cons (pv 0) pa_nil)) (pg_name (i := 3) sc_parted.nd rfl (.inl rfl)) (pss_one (ps_if (pt_cmp (pc_dnotin (hu_of hr) (pv 3) (pv 2)) rfl) (pss_one (ps_expr (pe_bm PySem.F.plainAttrs_list PySem.F.slot_list_append PySem.F.type_list_append mt_append (pv 6) (pa_cons (pv 3) pa_nil)))) (pss_one (ps_if (pt_cmpR op_gt (pe_callB call_len_seq (by rfl) B.len (by decide +kernel) (pa_cons (pv 6) pa_nil)) pe_int (nomark _)) (pss_one (ps_expr (pe_bm PySem.F.plainAttrs_list PySem.F.slot_list_append PySem.F.type_list_append mt_append (pv 4) (pa_cons (pe_tup (pa_cons (pe_bm0 PySem.F.plainAttrs_list PySem.F.slot_list_pop PySem.F.type_list_pop mt_pop (pv 6)) (pa_cons (pv 3) pa_nil))) pa_nil)))) (pss_one (ps_expr (pe_bm PySem.F.plainAttrs_list PySem.F.slot_list_append PySem.F.type_list_append mt_append (pv 5) (pa_cons (pv 3) pa_nil)))))))))
    (pss_one (ps_ret (pe_tup (pa_cons (pe_callB cr_sortedQ (by rfl) B.sorted (by decide +kernel) (pa_cons (pv 4) pa_nil)) (pa_cons (pv 5) (pa_cons (pv 6) pa_nil)))))))))))), ?_⟩
    intro d nd
    have s0 : Same H (upd H d (.dK [])) := same_new nd
    refine ⟨_, rfl, a, rfl, ⟨_, s0.seq hS⟩, ?_⟩
    refine for_list (K := K) (a := a) (xs := ms.map V.int) (fun i σ H' => Same H H' ∧ KD H' d (ms.take i) ∧ ∃ y : Option V, σ = [some (.int (n : Int)), some (.ref a), some (.ref d), y, none, none, none]) ⟨s0, KD.nil upd_same, none, rfl⟩ (fun i σ H' _ ⟨e, _⟩ => e.seq hS) ?_ ?_
    · rintro i x σ H1 hi ⟨s1, kd, y, rfl⟩
      obtain ⟨v, hv, rfl⟩ := at_map hi
      obtain ⟨o, dp, k2⟩ := kd.put (by rw [List.length_take]; omega) v (.bl true)
      refine ⟨_, rfl, _, rfl, d, _, rfl, dp, same_mut s1 nd, ?_, some (.int v), rfl⟩
      rw [take_snoc hv]
      exact k2 _ upd_same
    · rintro σ H1 ⟨s1, kd, y, rfl⟩
      rw [List.length_map, List.take_length] at kd
      refine ⟨sz_le (by show 0 ≤ _; omega), fun pl npl => ?_⟩
      refine ⟨sz_le (by show 0 ≤ _; omega), fun al nal => ?_⟩
      refine ⟨sz_le (by show 0 ≤ _; omega), fun wa nwa => ?_⟩
      have e1 : pl ≠ al := ne_of_none upd_same nal
      have e2 : al ≠ wa := ne_of_none upd_same nwa
      have e3 : pl ≠ wa := ne_of_none (o := .lst []) (by rw [upd_ne e1, upd_same]) nwa
      have s2 : Same H1 (upd (upd (upd H1 pl (.lst [])) al (.lst [])) wa (.lst [])) := ((same_new npl).trans (same_new nal)).trans (same_new nwa)
      have npl0 : H pl = none := s1.free npl
      have nal0 : H al = none := (s1.trans (same_new npl)).free nal
      have nwa0 : H wa = none := ((s1.trans (same_new npl)).trans (same_new nal)).free nwa
      refine ⟨_, rfl, (n : Int), rfl, by omega, by omega, ?_⟩
      refine for_range (lo := 0) (n := ((n : Int)).toNat) (fun i σ H' => Same H H' ∧ KD H' d ms ∧ ∃ (ts : List Addr) (y : Option V), σ = [some (.int (n : Int)), some (.ref a), some (.ref d), y, some (.ref pl), some (.ref al), some (.ref wa)] ∧
        H' pl = some (.lst (ts.map V.ref)) ∧ Tups H' ts (st (mem ms) i).prs ∧ H' al = some (.lst ((st (mem ms) i).aln.map V.int)) ∧ H' wa = some (.lst ((st (mem ms) i).wt.map V.int)))
        ⟨s1.trans s2, kd.same s2, [], y, rfl, by rw [upd_ne e3, upd_ne e1, upd_same]; rfl, .nil, by rw [upd_ne e2, upd_same]; rfl, by rw [upd_same]; rfl⟩ ?_ ?_
      · rintro i σ H2 hi ⟨s3, kd2, ts, y2, rfl, hp, ht, ha, hw⟩
        have hi' : i < n := by omega
        have dne : ∀ b xs, H2 b = some (.lst xs) → d ≠ b := fun b xs e => by
          obtain ⟨kvs, h1, _⟩ := kd2
          exact ne_of h1 e (by intro z; cases z)
        have dpl := dne _ _ hp
        have dal := dne _ _ ha
        have dwa := dne _ _ hw
        obtain ⟨o, dg, ho⟩ := kd2.get ((0 : Int) + (i : Int))
        have ei : ((0 : Int) + (i : Int)) = (i : Int) := Int.zero_add _
        have okS := ok_st (mem ms) i
        have step : st (mem ms) (i + 1) = stp (mem ms i) i (st (mem ms) i) := rfl
        have lens := okS.sum
        refine ⟨_, rfl, _, rfl, d, o, rfl, dg, _, rfl, ?_⟩
        rw [ho, ei]
        cases hc : ms.contains (i : Int) with
        | false =>
          have hc' : mem ms i = false := hc
          rw [hc', stp_no] at step
          refine iteT ?_
          refine ⟨_, rfl, .inl ⟨rfl, _, SqL.of hw⟩, _, rfl, wa, _, _, rfl, rfl, hw, sz_lt (by rw [List.length_map]; omega), ?_⟩
          refine ⟨same_mut s3 nwa0, kd2.at (upd_ne dwa), ts, some (.int (i : Int)), rfl, by rw [upd_ne e3]; exact hp, ?_, ?_, ?_⟩
          · rw [step]; exact ht.upd hw
          · rw [step, upd_ne e2]; exact ha
          · rw [step, upd_same, List.map_append]
            rfl
        | true =>
          have hc' : mem ms i = true := hc
          rw [hc'] at step
          refine iteF ?_
          refine ⟨_, rfl, wa, _, rfl, .inl (SqL.of hw), _, _, rfl, rfl, _, rfl, ?_⟩
          rcases snoc_cases (st (mem ms) i).wt with z | ⟨r, wl, z⟩
          · rw [stp_alone z] at step
            refine ite2 (fun h1 => ?_) (fun _ => ?_)
            · have := of_decide_eq_true h1
              rw [z] at this
              exact absurd this (by decide)
            · refine ⟨_, rfl, .inl ⟨rfl, _, SqL.of ha⟩, _, rfl, al, _, _, rfl, rfl, ha, sz_lt (by rw [List.length_map]; omega), ?_⟩
              refine ⟨same_mut s3 nal0, kd2.at (upd_ne dal), ts, some (.int (i : Int)), rfl, by rw [upd_ne e1]; exact hp, ?_, ?_, ?_⟩
              · rw [step]; exact ht.upd ha
              · rw [step, upd_same, List.map_append]
                rfl
              · rw [step, upd_ne e2.symm, hw, z]
          · rw [stp_pop z] at step
            have hw' := hw
            rw [z, List.map_append] at hw'
            refine ite2 (fun _ => ?_) (fun h1 => ?_)
            · refine ⟨_, rfl, .inl ⟨rfl, _, SqL.of hp⟩, _, rfl, .inl ⟨rfl, _, SqL.of hw'⟩, wa, _, .int wl, rfl, rfl, hw', by simp, _, rfl, sz_le (by show 2 ≤ _; omega), fun T nT => ?_⟩
              have tne : ∀ b xs, H2 b = some xs → b ≠ wa → b ≠ T := fun b xs e n => ne_of_none (H := upd H2 wa (.lst (List.map V.int r ++ List.map V.int [wl]).dropLast)) (o := xs) (by rw [upd_ne n]; exact e) nT
              have Twa : wa ≠ T := ne_of_none upd_same nT
              have hp2 : (upd (upd H2 wa (.lst (List.map V.int r ++ List.map V.int [wl]).dropLast)) T (.tup [V.int wl, V.int (i : Int)])) pl = some (.lst (ts.map V.ref)) := by
                rw [upd_ne (tne _ _ hp e3), upd_ne e3]
                exact hp
              refine ⟨pl, _, _, rfl, rfl, hp2, sz_lt (by rw [List.length_map, ht.len]; omega), ?_⟩
              have s4 : Same H (upd (upd (upd H2 wa (.lst (List.map V.int r ++ List.map V.int [wl]).dropLast)) T (.tup [V.int wl, V.int (i : Int)])) pl (.lst (ts.map V.ref ++ [.ref T]))) :=
                same_mut ((same_mut s3 nwa0).trans (same_new nT)) npl0
              refine ⟨s4, kd2.at ?_, ts ++ [T], some (.int (i : Int)), rfl, ?_, ?_, ?_, ?_⟩
              · obtain ⟨kvs, hk, _⟩ := kd2
                rw [upd_ne dpl, upd_ne (tne _ _ hk dwa), upd_ne dwa]
              · rw [upd_same, List.map_append]
                rfl
              · rw [step]
                refine Tups.upd ?_ hp2
                refine Tups.snoc ?_ ?_
                · exact (ht.upd hw).same (same_new nT)
                · rw [upd_same]
              · rw [step, upd_ne e1.symm, upd_ne (tne _ _ ha e2), upd_ne e2]
                exact ha
              · rw [step, upd_ne e3.symm, upd_ne Twa, upd_same]
                simp
            · refine absurd (decide_eq_true ?_) h1
              rw [z]
              simp
      · rintro σ H2 ⟨s3, kd2, ts, y2, rfl, hp, ht, ha, hw⟩
        refine ⟨_, rfl, pl, ts, _, rfl, SqL.of hp, ht, fun s ts' nS ht' => ?_⟩
        refine ⟨_, rfl, _, rfl, sz_le (by show 3 ≤ _; omega), fun p np => ?_⟩
        have as : al ≠ s := ne_of_none ha nS
        have ws : wa ≠ s := ne_of_none hw nS
        have s5 : Same H (upd H2 s (.lst (ts'.map V.ref))) := s3.trans (same_new nS)
        have ap : al ≠ p := ne_of_none (H := upd H2 s (.lst (ts'.map V.ref))) (by rw [upd_ne as]; exact ha) np
        have wp : wa ≠ p := ne_of_none (H := upd H2 s (.lst (ts'.map V.ref))) (by rw [upd_ne ws]; exact hw) np
        have sp : s ≠ p := ne_of_none upd_same np
        refine q _ p s al wa ts' ⟨s5.trans (same_new np), s5.free np, s3.free nS, nal0, nwa0, e2, as.symm, ws.symm, upd_same, ?_, ?_, ?_, ?_⟩
        · rw [upd_ne sp, upd_same]
        · exact (ht'.same (same_new nS)).same (same_new np)
        · rw [upd_ne ap, upd_ne as]; exact ha
        · rw [upd_ne wp, upd_ne ws]; exact hw
/-! #### paired -/
def spPaired (K : PySem.W.Frag) (CM CS : Addr) : Sp := fun vs H Q E => ∃ (m : Int) (a : Addr) (ms : List Int), vs = [.int m, .ref a] ∧ SqL K H a (ms.map V.int) ∧
  Guard CM CS m ms E H (∀ H' p ts, Same H H' → H p = none → H' p = some (.lst (ts.map V.ref)) → Tups H' ts (psort (fin m.toNat ms).prs) → Q (.ref p) H')
theorem ok_paired {C_NoMany : Addr} {C_NoSet : Addr} (A : At K mg "paired" s_paired) (B : Bt mg tM) (D_asked_many : Def P w K mg base (L2.CX P w) 1 "asked_many" ["many", "most"] (spMany C_NoMany)) (D_asked_set : Def P w K mg base (L2.CX P w) 1 "asked_set" ["many", "members"] (spSet K C_NoSet)) (D_parted : Def P w K mg base CX0 1 "parted" ["many", "members"] (spParted K)) :
    Def P w K mg base (L2.CX P w) 2 "paired" ["many", "members"] (spPaired K C_NoMany C_NoSet) := by
  obtain ⟨f, fd, F, gm⟩ := A
  obtain ⟨f_asked_many, fd_asked_many, G_asked_many, g_asked_many, k_asked_many, b_asked_many⟩ := D_asked_many.ex
  obtain ⟨f_asked_set, fd_asked_set, G_asked_set, g_asked_set, k_asked_set, b_asked_set⟩ := D_asked_set.ex
  obtain ⟨f_parted, fd_parted, G_parted, g_parted, k_parted, b_parted⟩ := D_parted.ex
  refine ⟨⟨f, fd, F.okX sc_paired (fun vs H Q E h => ?_) (fun cdv A outer s H vs Q E hr h => ?_), gm, F.kp, F.binds fun _ _ _ _ _ _ us hl => match us, hl with | [_, _], _ => rfl⟩⟩
  · obtain ⟨m, a, ms, rfl, _⟩ := h
    rfl
  · obtain ⟨m, a, ms, rfl, hS, g⟩ := h
    have tk := takes_of (X := cxOf (L2.CX P w) P w K mg base ["many", "members"] "paired" (defScope s_paired) f cdv A outer s H E) (E := E) rfl rfl rfl rfl
    refine ⟨_, (pss_cons (ps_expr (pe_call G_asked_many (hr.mono (by decide)) (by rfl) g_asked_many k_asked_many b_asked_many .nil (passes_call tk (fun _ _ _ _ h => h)) (pa_cons (pv 0) (pa_cons (pe_glob (v := .int 40) rfl B.MOST ⟨_, rfl⟩) pa_nil))))
    (pss_cons (ps_expr (pe_call G_asked_set (hr.mono (by decide)) (by rfl) g_asked_set k_asked_set b_asked_set .nil (passes_call tk (fun _ _ _ _ h => h)) (pa_cons (pv 0) (pa_cons (pv 1) pa_nil))))
    (pss_one (ps_ret (pe_ix ix_tup (pe_call G_parted (hr.mono (by decide)) (by rfl) g_parted k_parted b_parted .nil pass0 (pa_cons (pv 0) (pa_cons (pv 1) pa_nil))) pe_int (fun _ _ => rfl)))))), ?_⟩
    refine ⟨_, rfl, m, 40, rfl, g.1, fun hm => ?_⟩
    obtain ⟨n, rfl⟩ : ∃ n : Nat, m = (n : Int) := ⟨m.toNat, by omega⟩
    refine ⟨_, rfl, _, rfl, (n : Int), a, ms, rfl, hS, fun z => g.2.1 hm z, fun z => ?_⟩
    have hset := setOk_set.mp z
    have hl := hset.len
    refine ⟨_, rfl, _, rfl, n, a, ms, rfl, by omega, by omega, hS, fun H' p s al wa ts hp => ?_⟩
    refine ⟨p, _, 0, _, rfl, rfl, SqT.of hp.tup, atI_nat (j := 0) rfl, ?_⟩
    exact g.2.2 n rfl (by omega) hset H' s ts hp.same hp.ns hp.srt hp.prs
/-! #### loose -/
/-- a tuple at p of the loose members at al and the loose others at wa -/
structure Loosed (H H' : Hp) (n : Nat) (ms : List Int) (p al wa : Addr) : Prop where
  same : Same H H'
  np : H p = none
  nal : H al = none
  nwa : H wa = none
  d1 : al ≠ wa
  tup : H' p = some (.tup [.ref al, .ref wa])
  aln : H' al = some (.lst ((fin n ms).aln.map V.int))
  wt : H' wa = some (.lst ((fin n ms).wt.map V.int))
def spLoose (K : PySem.W.Frag) (CM CS : Addr) : Sp := fun vs H Q E => ∃ (m : Int) (a : Addr) (ms : List Int), vs = [.int m, .ref a] ∧ SqL K H a (ms.map V.int) ∧
  Guard CM CS m ms E H (∀ H' p al wa, Loosed H H' m.toNat ms p al wa → Q (.ref p) H')
theorem ok_loose {C_NoMany : Addr} {C_NoSet : Addr} (A : At K mg "loose" s_loose) (B : Bt mg tM) (D_asked_many : Def P w K mg base (L2.CX P w) 1 "asked_many" ["many", "most"] (spMany C_NoMany)) (D_asked_set : Def P w K mg base (L2.CX P w) 1 "asked_set" ["many", "members"] (spSet K C_NoSet)) (D_parted : Def P w K mg base CX0 1 "parted" ["many", "members"] (spParted K)) :
    Def P w K mg base (L2.CX P w) 2 "loose" ["many", "members"] (spLoose K C_NoMany C_NoSet) := by
  obtain ⟨f, fd, F, gm⟩ := A
  obtain ⟨f_asked_many, fd_asked_many, G_asked_many, g_asked_many, k_asked_many, b_asked_many⟩ := D_asked_many.ex
  obtain ⟨f_asked_set, fd_asked_set, G_asked_set, g_asked_set, k_asked_set, b_asked_set⟩ := D_asked_set.ex
  obtain ⟨f_parted, fd_parted, G_parted, g_parted, k_parted, b_parted⟩ := D_parted.ex
  refine ⟨⟨f, fd, F.okX sc_loose (fun vs H Q E h => ?_) (fun cdv A outer s H vs Q E hr h => ?_), gm, F.kp, F.binds fun _ _ _ _ _ _ us hl => match us, hl with | [_, _], _ => rfl⟩⟩
  · obtain ⟨m, a, ms, rfl, _⟩ := h
    rfl
  · obtain ⟨m, a, ms, rfl, hS, g⟩ := h
    have tk := takes_of (X := cxOf (L2.CX P w) P w K mg base ["many", "members", "pairs", "alone", "waiting"] "loose" (defScope s_loose) f cdv A outer s H E) (E := E) rfl rfl rfl rfl
    refine ⟨_, (pss_cons (ps_expr (pe_call G_asked_many (hr.mono (by decide)) (by rfl) g_asked_many k_asked_many b_asked_many .nil (passes_call tk (fun _ _ _ _ h => h)) (pa_cons (pv 0) (pa_cons (pe_glob (v := .int 40) rfl B.MOST ⟨_, rfl⟩) pa_nil))))
    (pss_cons (ps_expr (pe_call G_asked_set (hr.mono (by decide)) (by rfl) g_asked_set k_asked_set b_asked_set .nil (passes_call tk (fun _ _ _ _ h => h)) (pa_cons (pv 0) (pa_cons (pv 1) pa_nil))))
    (pss_cons (ps_asg (pe_call G_parted (hr.mono (by decide)) (by rfl) g_parted k_parted b_parted .nil pass0 (pa_cons (pv 0) (pa_cons (pv 1) pa_nil))) (pg_tup (by rfl) (pgs_cons (pg_name (i := 2) sc_loose.nd rfl (.inl rfl)) (pgs_cons (pg_name (i := 3) sc_loose.nd rfl (.inl rfl)) (pgs_cons (pg_name (i := 4) sc_loose.nd rfl (.inl rfl)) pgs_nil)))))
    (pss_one (ps_ret (pe_tup (pa_cons (pv 3) (pa_cons (pv 4) pa_nil)))))))), ?_⟩
    refine ⟨_, rfl, m, 40, rfl, g.1, fun hm => ?_⟩
    obtain ⟨n, rfl⟩ : ∃ n : Nat, m = (n : Int) := ⟨m.toNat, by omega⟩
    refine ⟨_, rfl, _, rfl, (n : Int), a, ms, rfl, hS, fun z => g.2.1 hm z, fun z => ?_⟩
    have hset := setOk_set.mp z
    have hl := hset.len
    refine ⟨_, rfl, _, rfl, n, a, ms, rfl, by omega, by omega, hS, fun H' p s al wa ts hp => ?_⟩
    refine ⟨p, _, rfl, SqT.of hp.tup, rfl, _, _, rfl, _, _, rfl, _, _, rfl, rfl, ?_⟩
    refine ⟨_, rfl, _, rfl, sz_le (by show 2 ≤ _; omega), fun p2 np2 => ?_⟩
    refine g.2.2 n rfl (by omega) hset _ p2 al wa ⟨hp.same.trans (same_new np2), hp.same.free np2, hp.nal, hp.nwa, hp.d1, upd_same, ?_, ?_⟩
    · rw [upd_ne (ne_of_none hp.aln np2)]
      exact hp.aln
    · rw [upd_ne (ne_of_none hp.wt np2)]
      exact hp.wt
/-! #### above -/
/-- v holds the list o, or None -/
def OptL (H : Hp) (v : V) (o : Option (List Int)) : Prop := match o with
  | none => v = .non
  | some l => ∃ u, v = .ref u ∧ H u = some (.lst (l.map V.int))
theorem OptL.same {H H' : Hp} {v : V} {o : Option (List Int)} (h : OptL H v o) (s : Same H H') : OptL H' v o := by
  cases o with
  | none => exact h
  | some l =>
    obtain ⟨u, e, q⟩ := h
    exact ⟨u, e, s _ _ q⟩
def spAbove (K : PySem.W.Frag) (CM CS : Addr) : Sp := fun vs H Q E => ∃ (m : Int) (a : Addr) (ms : List Int), vs = [.int m, .ref a] ∧ H a = some (.lst (ms.map V.int)) ∧
  Guard CM CS m ms E H (∀ H' v, Same H H' → OptL H' v (aboveL m.toNat ms) → Q v H')
theorem ok_above {C_NoMany : Addr} {C_NoSet : Addr} (A : At K mg "above" s_above) (B : Bt mg tM) (D_loose : Def P w K mg base (L2.CX P w) 2 "loose" ["many", "members"] (spLoose K C_NoMany C_NoSet)) :
    Def P w K mg base (L2.CX P w) 3 "above" ["many", "members"] (spAbove K C_NoMany C_NoSet) := by
  obtain ⟨f, fd, F, gm⟩ := A
  obtain ⟨f_loose, fd_loose, G_loose, g_loose, k_loose, b_loose⟩ := D_loose.ex
  refine ⟨⟨f, fd, F.okX sc_above (fun vs H Q E h => ?_) (fun cdv A outer s H vs Q E hr h => ?_), gm, F.kp, F.binds fun _ _ _ _ _ _ us hl => match us, hl with | [_, _], _ => rfl⟩⟩
  · obtain ⟨m, a, ms, rfl, _⟩ := h
    rfl
  · obtain ⟨m, a, ms, rfl, hS, g⟩ := h
    have tk := takes_of (X := cxOf (L2.CX P w) P w K mg base ["many", "members", "waiting"] "above" (defScope s_above) f cdv A outer s H E) (E := E) rfl rfl rfl rfl
    refine ⟨_, (pss_cons (ps_set (i := 2) sc_above.nd rfl (.inl rfl) (pe_ix ix_tup (pe_call G_loose (hr.mono (by decide)) (by rfl) g_loose k_loose b_loose .nil (passes_call tk (fun _ _ _ _ h => h)) (pa_cons (pv 0) (pa_cons (pv 1) pa_nil))) pe_int (fun _ _ => rfl)))
    (pss_cons (ps_if (pt_cmpR op_eq (pe_callB call_len_seq (by rfl) B.len (by decide +kernel) (pa_cons (pv 2) pa_nil)) pe_int (nomark _)) (pss_one (ps_ret pe_non)) pss_nil)
    (pss_one (ps_ret (pe_callB cr_sortedJ (by rfl) B.sorted (by decide +kernel) (pa_cons (pe_op op_cat (pv 1) (pe_lst (pa_cons (pe_ix ix_list (pv 2) pe_int (fun _ _ => rfl)) pa_nil))) pa_nil)))))), ?_⟩
    refine ⟨_, rfl, _, rfl, m, a, ms, rfl, SqL.of hS, g.imp fun n e hn hset gg H' p al wa hp => ?_⟩
    subst e
    rw [show ((n : Int)).toNat = n from rfl] at gg hp
    refine ⟨p, _, 1, _, rfl, rfl, SqT.of hp.tup, atI_nat (j := 1) rfl, ?_⟩
    have hw := hp.wt
    have hS' := hp.same _ _ hS
    cases ew : (fin n ms).wt with
    | nil =>
      rw [ew] at hw
      refine ⟨_, rfl, wa, _, rfl, .inl (SqL.of hw), rfl, _, rfl, ?_⟩
      rw [decide_eq_true (by rfl)]
      refine iteT (gg _ _ hp.same ?_)
      rw [aboveL_nil ew]
      rfl
    | cons x r =>
      rw [ew] at hw
      refine ⟨_, rfl, wa, _, rfl, .inl (SqL.of hw), rfl, _, rfl, ?_⟩
      rw [decide_eq_false (fun z => by have := V.int.inj z; rw [List.length_map, List.length_cons] at this; omega)]
      refine iteF ?_
      refine ⟨_, rfl, _, rfl, wa, _, 0, _, rfl, rfl, SqL.of hw, atI_int (i := 0) (v := x) rfl rfl, sz_le (by show 1 ≤ _; omega), fun l nl => ?_⟩
      have al' : a ≠ l := ne_of_none hS' nl
      have hl := hset.len
      refine ⟨a, l, _, _, rfl, rfl, by rw [upd_ne al']; exact hS', upd_same, sz_le (by rw [List.length_map]; show ms.length + 1 ≤ _; omega), fun c nc => ?_⟩
      refine ⟨c, ms ++ [x], rfl, SqL.of (by rw [upd_same, List.map_append]; rfl), fun p2 np2 => ?_⟩
      refine gg _ _ (((hp.same.trans (same_new nl)).trans (same_new nc)).trans (same_new np2)) ?_
      rw [aboveL_cons ew]
      exact ⟨p2, rfl, upd_same⟩
/-! #### below -/
def spBelow (K : PySem.W.Frag) (CM CS : Addr) : Sp := fun vs H Q E => ∃ (m : Int) (a : Addr) (ms : List Int), vs = [.int m, .ref a] ∧ SqL K H a (ms.map V.int) ∧
  Guard CM CS m ms E H (∀ H' v, Same H H' → OptL H' v (belowL m.toNat ms) → Q v H')
theorem ok_below {C_NoMany : Addr} {C_NoSet : Addr} (A : At K mg "below" s_below) (B : Bt mg tM) (D_loose : Def P w K mg base (L2.CX P w) 2 "loose" ["many", "members"] (spLoose K C_NoMany C_NoSet)) :
    Def P w K mg base (L2.CX P w) 3 "below" ["many", "members"] (spBelow K C_NoMany C_NoSet) := by
  obtain ⟨f, fd, F, gm⟩ := A
  obtain ⟨f_loose, fd_loose, G_loose, g_loose, k_loose, b_loose⟩ := D_loose.ex
  refine ⟨⟨f, fd, F.okX sc_below (fun vs H Q E h => ?_) (fun cdv A outer s H vs Q E hr h => ?_), gm, F.kp, F.binds fun _ _ _ _ _ _ us hl => match us, hl with | [_, _], _ => rfl⟩⟩
  · obtain ⟨m, a, ms, rfl, _⟩ := h
    rfl
  · obtain ⟨m, a, ms, rfl, hS, g⟩ := h
    have tk := takes_of (X := cxOf (L2.CX P w) P w K mg base ["many", "members", "alone", "thing"] "below" (defScope s_below) f cdv A outer s H E) (E := E) rfl rfl rfl rfl
    refine ⟨_, (pss_cons (ps_set (i := 2) sc_below.nd rfl (.inr rfl) (pe_ix ix_tup (pe_call G_loose (hr.mono (by decide)) (by rfl) g_loose k_loose b_loose .nil (passes_call tk (fun _ _ _ _ h => h)) (pa_cons (pv 0) (pa_cons (pv 1) pa_nil))) pe_int (fun _ _ => rfl)))
    (pss_cons (ps_if (pt_cmpR op_eq (pe_callB call_len_seq (by rfl) B.len (by decide +kernel) (pa_cons (pv 2) pa_nil)) pe_int (nomark _)) (pss_one (ps_ret pe_non)) pss_nil)
    (pss_one (ps_ret (pe_lc (own := [("thing", 3)]) (g := gName 3) (by rfl) sc_below.nd (pi_list (pv 1)) (blkOk_by (N := ["many", "members", "alone", "thing"]) (sc := defScope s_below) (by decide +kernel)) (fun _ _ _ _ _ => (pg_name (i := 3) sc_below.nd rfl (.inl rfl))) (fun _ _ _ _ _ => (pts_one (pt_cmpR op_ne (pv 3) (pe_ix (ix_listK K) (pv 2) (pe_un un_neg pe_int) (fun _ _ => rfl)) (nomark _)))) (fun _ _ _ _ _ => (pv 3))))))), ?_⟩
    refine ⟨_, rfl, _, rfl, m, a, ms, rfl, hS, g.imp fun n e hn hset gg H' p al wa hp => ?_⟩
    subst e
    rw [show ((n : Int)).toNat = n from rfl] at gg hp
    refine ⟨p, _, 0, _, rfl, rfl, SqT.of hp.tup, atI_nat (j := 0) rfl, ?_⟩
    have ha := hp.aln
    have hS' := hp.same.seq hS
    rcases snoc_cases (fin n ms).aln with ew | ⟨r, x, ew⟩
    · rw [ew] at ha
      refine ⟨_, rfl, al, _, rfl, .inl (SqL.of ha), rfl, _, rfl, ?_⟩
      rw [decide_eq_true (by rfl)]
      refine iteT (gg _ _ hp.same ?_)
      rw [belowL_nil ew]
      rfl
    · rw [ew, List.map_append] at ha
      refine ⟨_, rfl, al, _, rfl, .inl (SqL.of ha), rfl, _, rfl, ?_⟩
      rw [decide_eq_false (fun z => by have := V.int.inj z; rw [List.length_append, List.length_map, List.length_map, List.length_singleton] at this; omega)]
      refine iteF ?_
      refine ⟨_, rfl, a, rfl, ⟨_, hS'⟩, fun D nD => ?_⟩
      have alD : al ≠ D := ne_of_none ha nD
      have hl := hset.len
      refine lc_list (K := K) (a := a) (xs := ms.map V.int) (fun j H2 => H2 = upd H' D (.lst (((ms.take j).filter fun y => y != x).map V.int))) rfl (fun j H2 _ e => by rw [e]; exact (same_new nD).seq hS') ?_ ?_
      · rintro j y H2 hj rfl
        obtain ⟨v, hv, rfl⟩ := at_map hj
        have jl := (List.getElem?_eq_some_iff.mp hv).1
        have ha2 : (upd H' D (.lst (((ms.take j).filter fun y => y != x).map V.int))) al = some (.lst (r.map V.int ++ [x].map V.int)) := by rw [upd_ne alD]; exact ha
        have no := take_snoc hv
        refine ⟨rfl, _, rfl, _, rfl, 1, rfl, al, _, -1, _, rfl, rfl, SqL.of ha2, atI_last _ _, rfl, _, rfl, ?_⟩
        by_cases ne : v = x
        · rw [decide_eq_true (show V.int v = V.int x by rw [ne])]
          refine iteF ?_
          rw [no, List.filter_append, List.filter_cons, if_neg (by simp [ne]), List.filter_nil, List.append_nil]
        · rw [decide_eq_false (show ¬ V.int v = V.int x from fun z => ne (V.int.inj z))]
          refine iteT ⟨_, rfl, _, upd_same, sz_lt ?_, ?_⟩
          · rw [List.length_map]
            have := List.length_filter_le (fun y => y != x) (ms.take j)
            rw [List.length_take] at this
            omega
          · rw [upd_upd, no, List.filter_append, List.filter_cons, if_pos (by simp [ne]), List.filter_nil, List.map_append]
            rfl
      · rintro H2 rfl
        refine gg _ _ (hp.same.trans (same_new nD)) ?_
        rw [belowL_snoc ew]
        refine ⟨D, rfl, ?_⟩
        rw [upd_same, List.length_map, List.take_length]
/-! #### chain -/
/-- a new list at p of new lists at as, the rows -/
structure NewRows (H H' : Hp) (p : Addr) (as : List Addr) (rows : List (List Int)) : Prop where
  same : Same H H'
  np : H p = none
  nas : ∀ x ∈ as, H x = none
  nd : as.Nodup
  pas : p ∉ as
  lst : H' p = some (.lst (as.map V.ref))
  rows : Rows H' as rows
def spChain (K : PySem.W.Frag) (CM CS : Addr) : Sp := fun vs H Q E => ∃ (m : Int) (a : Addr) (ms : List Int), vs = [.int m, .ref a] ∧ SqL K H a (ms.map V.int) ∧
  Guard CM CS m ms E H (∀ H' p as, NewRows H H' p as (chainL m.toNat ms) → Q (.ref p) H')
theorem ok_chain {C_NoMany : Addr} {C_NoSet : Addr} (A : At K mg "chain" s_chain) (B : Bt mg tM) (D_loose : Def P w K mg base (L2.CX P w) 2 "loose" ["many", "members"] (spLoose K C_NoMany C_NoSet)) :
    Def P w K mg base (L2.CX P w) 3 "chain" ["many", "members"] (spChain K C_NoMany C_NoSet) := by
  obtain ⟨f, fd, F, gm⟩ := A
  obtain ⟨f_loose, fd_loose, G_loose, g_loose, k_loose, b_loose⟩ := D_loose.ex
  refine ⟨⟨f, fd, F.okX sc_chain (fun vs H Q E h => ?_) (fun cdv A outer s H vs Q E hr h => ?_), gm, F.kp, F.binds fun _ _ _ _ _ _ us hl => match us, hl with | [_, _], _ => rfl⟩⟩
  · obtain ⟨m, a, ms, rfl, _⟩ := h
    rfl
  · obtain ⟨m, a, ms, rfl, hS, g⟩ := h
    have tk := takes_of (X := cxOf (L2.CX P w) P w K mg base ["many", "members", "alone", "waiting", "thing", "bottom", "found"] "chain" (defScope s_chain) f cdv A outer s H E) (E := E) rfl rfl rfl rfl
    refine ⟨_, (pss_cons (ps_asg (pe_call G_loose (hr.mono (by decide)) (by rfl) g_loose k_loose b_loose .nil (passes_call tk (fun _ _ _ _ h => h)) (pa_cons (pv 0) (pa_cons (pv 1) pa_nil))) (pg_tup (by rfl) (pgs_cons (pg_name (i := 2) sc_chain.nd rfl (.inr rfl)) (pgs_cons (pg_name (i := 3) sc_chain.nd rfl (.inl rfl)) pgs_nil))))
    (pss_cons (ps_setLc (i := 5) (by rfl) sc_chain.nd rfl rfl (sw_true rfl rfl rfl (by decide +kernel)) (own := [("thing", 4)]) (g := gName 4) (pi_list (pv 1)) (blkOk_by (N := ["many", "members", "alone", "waiting", "thing", "bottom", "found"]) (sc := defScope s_chain) (by decide +kernel)) (fun _ _ _ _ _ => (pg_name (i := 4) sc_chain.nd rfl (.inl rfl))) (fun _ _ _ _ _ => (pts_one (pt_cmpR (op_notIn_seqK K) (pv 4) (pv 2) (by rfl)))) (fun _ _ _ _ _ => (pv 4)))
    (pss_cons (ps_set (i := 6) sc_chain.nd rfl (.inl rfl) (pe_lst (pa_cons (pv 5) pa_nil)))
    (pss_cons (ps_for (passes_of rfl) rfl (pi_list (pe_op op_cat (pv 2) (pv 3))) (pg_name (i := 4) sc_chain.nd rfl (.inl rfl)) (pss_one (ps_expr (pe_bm PySem.F.plainAttrs_list PySem.F.slot_list_append PySem.F.type_list_append mt_append (pv 6) (pa_cons (pe_callB cr_sortedJ (by rfl) B.sorted (by decide +kernel) (pa_cons (pe_op op_cat (pe_ix ix_list (pv 6) (pe_un un_neg pe_int) (fun _ _ => rfl)) (pe_lst (pa_cons (pv 4) pa_nil))) pa_nil)) pa_nil)))))
    (pss_one (ps_ret (pv 6))))))), ?_⟩
    refine ⟨_, rfl, _, rfl, m, a, ms, rfl, hS, g.imp fun n e hn hset gg H' p al wa hp => ?_⟩
    subst e
    rw [show ((n : Int)).toNat = n from rfl] at gg hp
    refine ⟨p, _, rfl, SqT.of hp.tup, rfl, _, _, rfl, _, _, rfl, rfl, ?_⟩
    have ha := hp.aln
    have hw := hp.wt
    have hS' := hp.same.seq hS
    have hl := hset.len
    have sum := fin_sum n ms
    have ll := loo_len n ms
    have sL := hp.same
    have nal := hp.nal
    have nwa := hp.nwa
    clear hp
    -- bottom
    refine ⟨_, rfl, a, rfl, ⟨_, hS'⟩, fun b nb => ?_⟩
    have alb : al ≠ b := ne_of_none ha nb
    refine lc_list (K := K) (a := a) (xs := ms.map V.int) (fun j H2 => H2 = upd H' b (.lst (((ms.take j).filter fun y => !(fin n ms).aln.contains y).map V.int))) rfl (fun j H2 _ e => by rw [e]; exact (same_new nb).seq hS') ?_ ?_
    · rintro j y H2 hj rfl
      obtain ⟨v, hv, rfl⟩ := at_map hj
      have jl := (List.getElem?_eq_some_iff.mp hv).1
      have ha2 : (upd H' b (.lst (((ms.take j).filter fun y => !(fin n ms).aln.contains y).map V.int))) al = some (.lst ((fin n ms).aln.map V.int)) := by rw [upd_ne alb]; exact ha
      have no := take_snoc hv
      refine ⟨rfl, _, rfl, _, rfl, al, _, rfl, .inl (SqL.of ha2), rfl, flat_ints _, _, rfl, ?_⟩
      show if (if true = true then !inV (V.int v) ((fin n ms).aln.map V.int) else _) = true then _ else _
      rw [if_pos rfl, inV_ints]
      cases hc : (fin n ms).aln.contains v with
      | true =>
        refine iteF ?_
        rw [no, List.filter_append, List.filter_cons, if_neg (by rw [hc]; decide), List.filter_nil, List.append_nil]
      | false =>
        refine iteT ⟨_, rfl, _, upd_same, sz_lt ?_, ?_⟩
        · rw [List.length_map]
          have := List.length_filter_le (fun y => !(fin n ms).aln.contains y) (ms.take j)
          rw [List.length_take] at this
          omega
        · rw [upd_upd, no, List.filter_append, List.filter_cons, if_pos (by rw [hc]; rfl), List.filter_nil, List.map_append]
          rfl
    · rintro H2 rfl
      rw [List.length_map, List.take_length, cset_zero hset]
      have hb : (upd H' b (.lst ((cset n ms 0).map V.int))) b = some (.lst ((cset n ms 0).map V.int)) := upd_same
      have s2 : Same H' (upd H' b (.lst ((cset n ms 0).map V.int))) := same_new nb
      have ha2 := s2 _ _ ha
      have hw2 := s2 _ _ hw
      have nb0 : H b = none := sL.free nb
      generalize upd H' b (.lst ((cset n ms 0).map V.int)) = H2 at *
      -- found = [bottom]
      refine ⟨_, rfl, sz_le (by show 1 ≤ _; omega), fun fl nfl => ?_⟩
      have s3 : Same H2 (upd H2 fl (.lst [.ref b])) := same_new nfl
      have hf : (upd H2 fl (.lst [.ref b])) fl = some (.lst [.ref b]) := upd_same
      have bfl : b ≠ fl := ne_of_none hb nfl
      have hb3 := s3 _ _ hb
      have ha3 := s3 _ _ ha2
      have hw3 := s3 _ _ hw2
      have nfl0 : H fl = none := (sL.trans s2).free nfl
      have s03 := (sL.trans s2).trans s3
      generalize upd H2 fl (.lst [.ref b]) = H3 at *
      -- alone + waiting
      refine ⟨_, rfl, _, rfl, al, wa, _, _, rfl, rfl, ha3, hw3, sz_le (by rw [List.length_map, List.length_map]; omega), fun c nc => ?_⟩
      rw [← List.map_append, show (fin n ms).aln ++ (fin n ms).wt = loo n ms from rfl]
      have s4 : Same H3 (upd H3 c (.lst ((loo n ms).map V.int))) := same_new nc
      have hc : (upd H3 c (.lst ((loo n ms).map V.int))) c = some (.lst ((loo n ms).map V.int)) := upd_same
      have hf4 := s4 _ _ hf
      have hb4 := s4 _ _ hb3
      have s04 := s03.trans s4
      have nc0 : H c = none := s03.free nc
      have cfl : c ≠ fl := (ne_of_none hf nc).symm
      generalize upd H3 c (.lst ((loo n ms).map V.int)) = H4 at *
      refine ⟨c, rfl, ⟨_, SqL.of hc⟩, ?_⟩
      refine for_list (K := K) (a := c) (xs := (loo n ms).map V.int) (fun i σ H5 => Same H H5 ∧ H5 c = some (.lst ((loo n ms).map V.int)) ∧ ∃ (as : List Addr) (y : Option V), σ = [some (.int (n : Int)), some (.ref a), some (.ref al), some (.ref wa), y, some (.ref b), some (.ref fl)] ∧
        (∀ x ∈ as, H x = none) ∧ as.Nodup ∧ fl ∉ as ∧ H5 fl = some (.lst (as.map V.ref)) ∧ Rows H5 as ((List.range (i + 1)).map (cset n ms)))
        ⟨s04, hc, [b], none, rfl, ?_, by simp, ?_, hf4, .cons hb4 .nil⟩ (fun i σ H' _ ⟨_, e, _⟩ => SqL.of e) ?_ ?_
      · intro x hx
        rw [List.mem_singleton] at hx
        rw [hx]
        exact nb0
      · intro hx
        rw [List.mem_singleton] at hx
        exact bfl hx.symm
      · rintro i x σ H5 hi ⟨s5, hc5, as, y, rfl, nas, nd, flas, hf5, hr5⟩
        obtain ⟨v, hv, rfl⟩ := at_map hi
        have il := (List.getElem?_eq_some_iff.mp hv).1
        have las : as.length = i + 1 := by
          rw [hr5.len, List.length_map, List.length_range]
        obtain ⟨r, w, ew⟩ : ∃ r w, as = r ++ [w] := by
          rcases snoc_cases as with z | z
          · rw [z] at las; cases las
          · exact z
        have hw5 : H5 w = some (.lst ((cset n ms i).map V.int)) := by
          have gi : ((List.range (i + 1)).map (cset n ms))[i]? = some (cset n ms i) := by
            rw [List.getElem?_map, List.getElem?_range (by omega)]
            rfl
          obtain ⟨w', e1, e2⟩ := hr5.get gi
          have lr : r.length = i := by
            have := las
            rw [ew, List.length_append, List.length_singleton] at this
            omega
          rw [ew, List.getElem?_append_right (by omega), lr, Nat.sub_self] at e1
          cases e1
          exact e2
        have hfl5 : H5 fl = some (.lst (r.map V.ref ++ [.ref w])) := by
          rw [hf5, ew, List.map_append]
          rfl
        have lcs : (cset n ms i).length ≤ n := (cset_set n ms i).len
        refine ⟨_, rfl, .inl ⟨rfl, _, SqL.of hf5⟩, _, rfl, 1, rfl, fl, _, -1, .ref w, rfl, rfl, SqL.of hfl5, atI_last _ _, _, rfl, sz_le (by show 1 ≤ _; omega), fun l nl => ?_⟩
        have s6 : Same H5 (upd H5 l (.lst [.int v])) := same_new nl
        refine ⟨w, l, _, _, rfl, rfl, s6 _ _ hw5, upd_same, sz_le (by rw [List.length_map]; show (cset n ms i).length + 1 ≤ _; omega), fun d nd' => ?_⟩
        have s7 : Same (upd H5 l (.lst [.int v])) (upd (upd H5 l (.lst [.int v])) d (.lst ((cset n ms i).map V.int ++ [.int v]))) := same_new nd'
        refine ⟨d, cset n ms i ++ [v], rfl, SqL.of (by rw [upd_same, List.map_append]; rfl), fun q nq => ?_⟩
        rw [cset_next hv]
        have s8 := (s6.trans s7).trans (same_new (o := .lst ((cset n ms (i + 1)).map V.int)) nq)
        have hq : (upd (upd (upd H5 l (.lst [.int v])) d (.lst ((cset n ms i).map V.int ++ [.int v]))) q (.lst ((cset n ms (i + 1)).map V.int))) q = some (.lst ((cset n ms (i + 1)).map V.int)) := upd_same
        have nq5 : H5 q = none := (s6.trans s7).free nq
        generalize upd (upd (upd H5 l (.lst [.int v])) d (.lst ((cset n ms i).map V.int ++ [.int v]))) q (.lst ((cset n ms (i + 1)).map V.int)) = H8 at *
        have hf8 := s8 _ _ hf5
        have qfl : fl ≠ q := ne_of_none hf5 nq5
        refine ⟨fl, _, _, rfl, rfl, hf8, sz_lt (by rw [List.length_map]; omega), ?_⟩
        refine ⟨same_mut (s5.trans s8) nfl0, by rw [upd_ne cfl]; exact s8 _ _ hc5, as ++ [q], some (.int v), rfl, ?_, ?_, ?_, ?_, ?_⟩
        · intro x hx
          rcases List.mem_append.mp hx with hx | hx
          · exact nas x hx
          · rw [List.mem_singleton] at hx
            rw [hx]
            exact s5.free nq5
        · refine List.nodup_append.mpr ⟨nd, by simp, fun x hx y hy e => ?_⟩
          rw [List.mem_singleton] at hy
          subst hy e
          obtain ⟨_, _, h2⟩ := hr5.mem hx
          rw [h2] at nq5
          cases nq5
        · intro hx
          rcases List.mem_append.mp hx with hx | hx
          · exact flas hx
          · rw [List.mem_singleton] at hx
            exact qfl hx
        · rw [upd_same, List.map_append]
          rfl
        · rw [List.range_succ, List.map_append]
          refine Rows.snoc ((hr5.same s8).upd flas) ?_
          rw [upd_ne qfl.symm]
          exact hq
      · rintro σ H5 ⟨s5, hc5, as, y, rfl, nas, nd, flas, hf5, hr5⟩
        rw [List.length_map] at hr5
        exact ⟨_, rfl, gg _ fl as ⟨s5, nfl0, nas, nd, flas, hf5, hr5⟩⟩
/-! #### picks -/
def spPicks : Sp := fun vs H Q _ => ∃ t s : Int, vs = [.int t, .int s] ∧ t ≤ 60 ∧ Q (.int (picks t s)) H
theorem ok_picks (A : At K mg "picks" s_picks) (B : Bt mg tM) :
    Def P w K mg base CX0 1 "picks" ["total", "some"] spPicks := by
  obtain ⟨f, fd, F, gm⟩ := A
  refine ⟨⟨f, fd, F.ok sc_picks (fun vs H Q E h => ?_) (fun cdv A outer s H vs Q E hr h => ?_), gm, F.kp, F.binds fun _ _ _ _ _ _ us hl => match us, hl with | [_, _], _ => rfl⟩⟩
  · obtain ⟨t, s, rfl, _⟩ := h
    rfl
  · obtain ⟨t, s, rfl, ht, q⟩ := h
    refine ⟨_, (pss_cons (ps_if (PW.pt (pw_or (pt_cmpR op_lt (pv 1) pe_int (nomark _)) (pw_or1 (pt_cmpR op_gt (pv 1) (pv 0) (nomark _))))) (pss_one (ps_ret pe_int)) pss_nil)
    (pss_cons (ps_set (i := 2) sc_picks.nd rfl (.inl rfl) pe_int)
    (pss_cons (ps_for PassesOwn.never rfl (pi_range1 (by rfl) B.range (pa_cons (pv 1) pa_nil)) (pg_name (i := 3) sc_picks.nd rfl (.inl rfl)) (pss_one (ps_set (i := 2) sc_picks.nd rfl (.inl rfl) (pe_op op_fdiv (pe_op op_mul (pv 2) (pe_op op_sub (pv 0) (pv 3))) (pe_op op_add (pv 3) pe_int)))))
    (pss_one (ps_ret (pv 2)))))), ?_⟩
    have fin : (s < 0 ∨ t < s) → Q (.int 0) H := fun h => by
      have e : picks t s = 0 := if_pos h
      rw [← e]
      exact q
    refine ⟨_, rfl, s, 0, rfl, rfl, _, rfl, ite2 (fun h1 => ?_) (fun h1 => ?_)⟩
    · exact iteT (fin (.inl (of_decide_eq_true h1)))
    · have h1' : ¬ s < 0 := fun z => h1 (decide_eq_true z)
      refine ⟨_, rfl, _, rfl, s, t, rfl, rfl, _, rfl, ite2 (fun h2 => ?_) (fun h2 => ?_)⟩
      · exact fin (.inr (of_decide_eq_true h2))
      · have h2' : ¬ t < s := fun z => h2 (decide_eq_true z)
        obtain ⟨n, rfl⟩ : ∃ n : Nat, t = (n : Int) := ⟨t.toNat, by omega⟩
        obtain ⟨k, rfl⟩ : ∃ k : Nat, s = (k : Int) := ⟨s.toNat, by omega⟩
        refine ⟨_, rfl, (k : Int), rfl, by omega, by omega, ?_⟩
        refine for_range (lo := 0) (n := ((k : Int)).toNat) (fun i σ H' => H' = H ∧ ∃ y, σ = [some (.int (n : Int)), some (.int (k : Int)), some (.int (ch n i : Int)), y]) ⟨rfl, none, by rw [ch_zero]; rfl⟩ ?_ ?_
        · rintro i σ H' hi ⟨rfl, y, rfl⟩
          have hi' : i ≤ n := by omega
          have b1 := ch_le n i
          have b2 : (2 : Nat) ^ n ≤ 2 ^ 60 := Nat.pow_le_pow_right (by decide) (by omega)
          refine ⟨_, rfl, _, rfl, _, rfl, _, _, rfl, rfl, _, _, rfl, rfl, .inl ⟨by omega, by omega⟩, _, rfl, _, _, rfl, rfl, _, _, rfl, rfl, ⟨by omega, by omega⟩, rfl, some (.int ((0 : Int) + (i : Int))), ?_⟩
          show _ = [_, _, some (V.int (ch n (i + 1) : Int)), _]
          rw [← ch_div hi', Int.zero_add]
          rfl
        · rintro σ H' ⟨rfl, y, rfl⟩
          refine ⟨_, rfl, ?_⟩
          show Q (.int (ch n ((k : Int)).toNat : Int)) _
          rw [show ((k : Int)).toNat = k from rfl, ← picks_nat]
          exact q
/-! #### endings -/
def spEnd : Sp := fun vs H Q _ => ∃ r c w : Int, vs = [.int r, .int c, .int w] ∧ r ≤ 60 ∧ Q (.int (en r c w)) H
theorem ok_endings (A : At K mg "endings" s_endings) (B : Bt mg tM) (D_picks : Def P w K mg base CX0 1 "picks" ["total", "some"] spPicks) :
    Def P w K mg base CX0 2 "endings" ["rest", "closing", "waiting"] spEnd := by
  obtain ⟨f, fd, F, gm⟩ := A
  obtain ⟨f_picks, fd_picks, G_picks, g_picks, k_picks, b_picks⟩ := D_picks.ex
  refine ⟨⟨f, fd, F.ok sc_endings (fun vs H Q E h => ?_) (fun cdv A outer s H vs Q E hr h => ?_), gm, F.kp, F.binds fun _ _ _ _ _ _ us hl => match us, hl with | [_, _, _], _ => rfl⟩⟩
  · obtain ⟨r, c, w, rfl, _⟩ := h
    rfl
  · obtain ⟨r, c, w, rfl, hr', q⟩ := h
    refine ⟨_, (pss_one (ps_ret (pe_op op_sub (pe_call G_picks (hr.mono (by decide)) (by rfl) g_picks k_picks b_picks .nil pass0 (pa_cons (pv 0) (pa_cons (pv 1) pa_nil))) (pe_call G_picks (hr.mono (by decide)) (by rfl) g_picks k_picks b_picks .nil pass0 (pa_cons (pv 0) (pa_cons (pe_op op_sub (pe_op op_sub (pv 1) (pv 2)) pe_int) pa_nil)))))), ?_⟩
    exact ⟨_, rfl, _, rfl, r, c, rfl, hr', _, rfl, _, rfl, _, rfl, _, _, rfl, rfl, _, _, rfl, rfl, r, c - w - 1, rfl, hr', _, _, rfl, rfl, q⟩
/-! #### number_of -/
theorem en_sum (n : Nat) : ∀ L : Nat, ((List.range L).map fun s : Nat => en n (s : Int) 0).sum = picks n ((L : Int) - 1)
  | 0 => by rw [pk_neg (by omega)]; rfl
  | L + 1 => by
    rw [List.range_succ, List.map_append, List.sum_append, en_sum n L]
    show _ + (en n (L : Int) 0 + 0) = _
    rw [en_top, show (((L + 1 : Nat) : Int) - 1) = (L : Int) by omega, picks_nat]
    omega
def spNumOf (K : PySem.W.Frag) : Sp := fun vs H Q _ => ∃ (n : Nat) (a : Addr) (ms : List Int), vs = [.int (n : Int), .ref a] ∧ n ≤ 60 ∧ ms.length ≤ 60 ∧ SqL K H a (ms.map V.int) ∧ ∀ H', Same H H' → Q (.int (numOf n ms)) H'
theorem ok_number_of (A : At K mg "number_of" s_number_of) (B : Bt mg tM) (D_endings : Def P w K mg base CX0 2 "endings" ["rest", "closing", "waiting"] spEnd) :
    Def P w K mg base CX0 3 "number_of" ["many", "bottom"] (spNumOf K) := by
  obtain ⟨f, fd, F, gm⟩ := A
  obtain ⟨f_endings, fd_endings, G_endings, g_endings, k_endings, b_endings⟩ := D_endings.ex
  refine ⟨⟨f, fd, F.ok sc_number_of (fun vs H Q E h => ?_) (fun cdv A outer s H vs Q E hr h => ?_), gm, F.kp, F.binds fun _ _ _ _ _ _ us hl => match us, hl with | [_, _], _ => rfl⟩⟩
  · obtain ⟨n, a, ms, rfl, _⟩ := h
    rfl
  · obtain ⟨n, a, ms, rfl, hn, hms, hS, q⟩ := h
    refine ⟨_, (pss_cons (ps_set (i := 2) sc_number_of.nd rfl (.inl rfl) (pe_callB (cr_sum rfl) (by rfl) B.sum (by decide +kernel) (pa_cons (pe_lc (own := [("size", 6)]) (g := gName 6) (by rfl) sc_number_of.nd (pi_range1 (by rfl) B.range (pa_cons (pe_callB call_len_seq (by rfl) B.len (by decide +kernel) (pa_cons (pv 1) pa_nil)) pa_nil)) (blkOk_by (N := ["many", "bottom", "number", "waiting", "met", "thing", "size"]) (sc := defScope s_number_of) (by decide +kernel)) (fun _ _ _ _ _ => (pg_name (i := 6) sc_number_of.nd rfl (.inl rfl))) (fun _ _ _ _ _ => pts_nil) (fun _ _ _ _ _ => (pe_call G_endings (hr.mono (by decide)) (by rfl) g_endings k_endings b_endings .nil pass0 (pa_cons (pv 0) (pa_cons (pv 6) (pa_cons pe_int pa_nil)))))) pa_nil)))
    (pss_cons (ps_set (i := 3) sc_number_of.nd rfl (.inl rfl) pe_int)
    (pss_cons (ps_set (i := 4) sc_number_of.nd rfl (.inl rfl) pe_int)
    (pss_cons (ps_for PassesOwn.never rfl (pi_range1 (by rfl) B.range (pa_cons (pv 0) pa_nil)) (pg_name (i := 5) sc_number_of.nd rfl (.inl rfl)) (pss_one (ps_if (pt_cmpR op_in_seq (pv 5) (pv 1) (by rfl)) (pss_cons (ps_set (i := 2) sc_number_of.nd rfl (.inl rfl) (pe_op op_add (pv 2) (pe_call G_endings (hr.mono (by decide)) (by rfl) g_endings k_endings b_endings .nil pass0 (pa_cons (pe_op op_sub (pe_op op_sub (pv 0) (pv 5)) pe_int) (pa_cons (pe_op op_sub (pe_callB call_len_seq (by rfl) B.len (by decide +kernel) (pa_cons (pv 1) pa_nil)) (pv 4)) (pa_cons (pe_op op_add (pv 3) pe_int) pa_nil))))))
    (pss_cons (ps_set (i := 3) sc_number_of.nd rfl (.inl rfl) (pe_op op_sub (pv 3) pe_int))
    (pss_one (ps_set (i := 4) sc_number_of.nd rfl (.inl rfl) (pe_op op_add (pv 4) pe_int))))) (pss_one (ps_set (i := 3) sc_number_of.nd rfl (.inl rfl) (pe_op op_add (pv 3) pe_int))))))
    (pss_one (ps_ret (pv 2))))))), ?_⟩
    refine ⟨_, rfl, a, _, rfl, .inl hS, _, rfl, by omega, by rw [List.length_map]; omega, fun D nD => ?_⟩
    refine lc_range (lo := 0) (n := (((ms.map V.int).length : Nat) : Int).toNat) (fun j H' => H' = upd H D (.lst (((List.range j).map fun s : Nat => en n (s : Int) 0).map V.int))) rfl ?_ ?_
    · rintro j H' hj rfl
      refine ⟨rfl, ?_⟩
      refine tyes ?_
      refine iteT ?_
      have hj' : j < ms.length := by rw [List.length_map] at hj; omega
      refine ⟨_, rfl, _, rfl, (n : Int), (0 : Int) + (j : Int), 0, rfl, by omega, _, upd_same, sz_lt (by rw [List.length_map, List.length_map, List.length_range]; omega), ?_⟩
      rw [upd_upd, List.range_succ, List.map_append, List.map_append, Int.zero_add]
      rfl
    · rintro H' rfl
      have el : (((ms.map V.int).length : Nat) : Int).toNat = ms.length := by rw [List.length_map]; rfl
      rw [el]
      refine ⟨D, _, rfl, SqL.of upd_same, ?_⟩
      rw [en_sum]
      have s1 : Same H (upd H D (.lst (((List.range ms.length).map fun s : Nat => en n (s : Int) 0).map V.int))) := same_new nD
      generalize upd H D (.lst (((List.range ms.length).map fun s : Nat => en n (s : Int) 0).map V.int)) = H1 at *
      have hS1 := s1.seq hS
      refine ⟨_, rfl, (n : Int), rfl, by omega, by omega, ?_⟩
      refine for_range (lo := 0) (n := ((n : Int)).toNat) (fun i σ H' => H' = H1 ∧ ∃ (acc w : Int) (met : Int) (y : Option V), σ = [some (.int (n : Int)), some (.ref a), some (.int acc), some (.int w), some (.int met), y, none] ∧
        acc + nw ((wd n ms).drop i) ((ms.length : Int) - met) w = numOf n ms) ⟨rfl, _, 0, 0, none, rfl, by rw [List.drop_zero, Int.sub_zero]; rfl⟩ ?_ ?_
      · rintro i σ H' hi ⟨rfl, acc, w, met, y, rfl, e⟩
        have hi' : i < n := by omega
        have ei : ((0 : Int) + (i : Int)) = (i : Int) := Int.zero_add _
        rw [wd_drop hi'] at e
        refine ⟨_, rfl, _, rfl, a, _, rfl, .inl hS1, rfl, flat_ints ms, _, rfl, ?_⟩
        show if (if false = true then _ else inV (V.int ((0 : Int) + (i : Int))) (ms.map V.int)) = true then _ else _
        rw [if_neg Bool.false_ne_true, inV_ints, ei]
        cases hc : ms.contains (i : Int) with
        | true =>
          have hm : mem ms i = true := hc
          rw [hm] at e
          refine iteT ?_
          have e1 : (n : Int) - (i : Int) - 1 = (((wd n ms).drop (i + 1)).length : Int) := by
            rw [List.length_drop, wd_len]
            omega
          refine ⟨_, rfl, _, rfl, _, rfl, _, _, rfl, rfl, _, _, rfl, rfl, _, rfl, a, _, rfl, .inl hS1, _, rfl, _, _, rfl, rfl, _, rfl, _, _, rfl, rfl, (n : Int) - (i : Int) - 1, (ms.length : Int) - met, w + 1, ?_, by omega, _, _, rfl, rfl, ?_⟩
          · rw [List.length_map]
            rfl
          refine ⟨_, rfl, _, _, rfl, rfl, ?_⟩
          refine ⟨_, rfl, _, _, rfl, rfl, ?_⟩
          refine ⟨rfl, _, _, _, _, rfl, ?_⟩
          rw [e1]
          have e : acc + (en (((wd n ms).drop (i + 1)).length : Nat) ((ms.length : Int) - met) (w + 1) + nw ((wd n ms).drop (i + 1)) ((ms.length : Int) - met - 1) (w - 1)) = numOf n ms := e
          rw [show (ms.length : Int) - (met + 1) = (ms.length : Int) - met - 1 by omega]
          omega
        | false =>
          have hm : mem ms i = false := hc
          rw [hm] at e
          refine iteF ?_
          refine ⟨_, rfl, _, _, rfl, rfl, ?_⟩
          exact ⟨rfl, acc, w + 1, met, _, rfl, e⟩
      · rintro σ H' ⟨rfl, acc, w, met, y, rfl, e⟩
        rw [List.drop_of_length_le (by rw [wd_len]; omega)] at e
        refine ⟨_, rfl, ?_⟩
        have e : acc + 0 = numOf n ms := e
        rw [Int.add_zero] at e
        show Q (.int acc) _
        rw [e]
        exact q _ s1
/-! #### address -/
def spAddr (K : PySem.W.Frag) (CM CS : Addr) : Sp := fun vs H Q E => ∃ (m : Int) (a : Addr) (ms : List Int), vs = [.int m, .ref a] ∧ SqL K H a (ms.map V.int) ∧
  Guard CM CS m ms E H (∀ H' p, Same H H' → H p = none → H' p = some (.tup [.int (numOf m.toNat (cset m.toNat ms 0)), .int ((fin m.toNat ms).aln.length : Int)]) → Q (.ref p) H')
theorem ok_address {C_NoMany : Addr} {C_NoSet : Addr} (A : At K mg "address" s_address) (B : Bt mg tM) (D_asked_many : Def P w K mg base (L2.CX P w) 1 "asked_many" ["many", "most"] (spMany C_NoMany)) (D_asked_set : Def P w K mg base (L2.CX P w) 1 "asked_set" ["many", "members"] (spSet K C_NoSet)) (D_parted : Def P w K mg base CX0 1 "parted" ["many", "members"] (spParted K)) (D_number_of : Def P w K mg base CX0 3 "number_of" ["many", "bottom"] (spNumOf K)) :
    Def P w K mg base (L2.CX P w) 4 "address" ["many", "members"] (spAddr K C_NoMany C_NoSet) := by
  obtain ⟨f, fd, F, gm⟩ := A
  obtain ⟨f_asked_many, fd_asked_many, G_asked_many, g_asked_many, k_asked_many, b_asked_many⟩ := D_asked_many.ex
  obtain ⟨f_asked_set, fd_asked_set, G_asked_set, g_asked_set, k_asked_set, b_asked_set⟩ := D_asked_set.ex
  obtain ⟨f_parted, fd_parted, G_parted, g_parted, k_parted, b_parted⟩ := D_parted.ex
  obtain ⟨f_number_of, fd_number_of, G_number_of, g_number_of, k_number_of, b_number_of⟩ := D_number_of.ex
  refine ⟨⟨f, fd, F.okX sc_address (fun vs H Q E h => ?_) (fun cdv A outer s H vs Q E hr h => ?_), gm, F.kp, F.binds fun _ _ _ _ _ _ us hl => match us, hl with | [_, _], _ => rfl⟩⟩
  · obtain ⟨m, a, ms, rfl, _⟩ := h
    rfl
  · obtain ⟨m, a, ms, rfl, hS, g⟩ := h
    have tk := takes_of (X := cxOf (L2.CX P w) P w K mg base ["many", "members", "alone", "thing"] "address" (defScope s_address) f cdv A outer s H E) (E := E) rfl rfl rfl rfl
    refine ⟨_, (pss_cons (ps_expr (pe_call G_asked_many (hr.mono (by decide)) (by rfl) g_asked_many k_asked_many b_asked_many .nil (passes_call tk (fun _ _ _ _ h => h)) (pa_cons (pv 0) (pa_cons (pe_glob (v := .int 40) rfl B.MOST ⟨_, rfl⟩) pa_nil))))
    (pss_cons (ps_expr (pe_call G_asked_set (hr.mono (by decide)) (by rfl) g_asked_set k_asked_set b_asked_set .nil (passes_call tk (fun _ _ _ _ h => h)) (pa_cons (pv 0) (pa_cons (pv 1) pa_nil))))
    (pss_cons (ps_set (i := 2) sc_address.nd rfl (.inr rfl) (pe_ix ix_tup (pe_call G_parted (hr.mono (by decide)) (by rfl) g_parted k_parted b_parted .nil pass0 (pa_cons (pv 0) (pa_cons (pv 1) pa_nil))) pe_int (fun _ _ => rfl)))
    (pss_one (ps_ret (pe_tup (pa_cons (pe_call G_number_of (hr.mono (by decide)) (by rfl) g_number_of k_number_of b_number_of .nil pass0 (pa_cons (pv 0) (pa_cons (pe_lc (own := [("thing", 3)]) (g := gName 3) (by rfl) sc_address.nd (pi_list (pv 1)) (blkOk_by (N := ["many", "members", "alone", "thing"]) (sc := defScope s_address) (by decide +kernel)) (fun _ _ _ _ _ => (pg_name (i := 3) sc_address.nd rfl (.inl rfl))) (fun _ _ _ _ _ => (pts_one (pt_cmpR (op_notIn_seqK K) (pv 3) (pv 2) (by rfl)))) (fun _ _ _ _ _ => (pv 3))) pa_nil))) (pa_cons (pe_callB call_len_seq (by rfl) B.len (by decide +kernel) (pa_cons (pv 2) pa_nil)) pa_nil)))))))), ?_⟩
    refine ⟨_, rfl, m, 40, rfl, g.1, fun hm => ?_⟩
    obtain ⟨n, rfl⟩ : ∃ n : Nat, m = (n : Int) := ⟨m.toNat, by omega⟩
    refine ⟨_, rfl, _, rfl, (n : Int), a, ms, rfl, hS, fun z => g.2.1 hm z, fun z => ?_⟩
    have hset := setOk_set.mp z
    have hl := hset.len
    have gg := g.2.2 n rfl (by omega) hset
    rw [show ((n : Int)).toNat = n from rfl] at gg
    refine ⟨_, rfl, _, rfl, n, a, ms, rfl, by omega, by omega, hS, fun H1 t s al wa ts hp => ?_⟩
    refine ⟨t, _, 1, _, rfl, rfl, SqT.of hp.tup, atI_nat (j := 1) rfl, ?_⟩
    have s1 := hp.same
    have ha := hp.aln
    have hS1 := s1.seq hS
    have la : (fin n ms).aln.length ≤ n := (fin_aln_set ms).len
    clear hp
    refine ⟨_, rfl, _, rfl, a, rfl, ⟨_, hS1⟩, fun b nb => ?_⟩
    have alb : al ≠ b := ne_of_none ha nb
    refine lc_list (K := K) (a := a) (xs := ms.map V.int) (fun j H2 => H2 = upd H1 b (.lst (((ms.take j).filter fun y => !(fin n ms).aln.contains y).map V.int))) rfl (fun j H2 _ e => by rw [e]; exact (same_new nb).seq hS1) ?_ ?_
    · rintro j y H2 hj rfl
      obtain ⟨v, hv, rfl⟩ := at_map hj
      have jl := (List.getElem?_eq_some_iff.mp hv).1
      have ha2 : (upd H1 b (.lst (((ms.take j).filter fun y => !(fin n ms).aln.contains y).map V.int))) al = some (.lst ((fin n ms).aln.map V.int)) := by rw [upd_ne alb]; exact ha
      have no := take_snoc hv
      refine ⟨rfl, _, rfl, _, rfl, al, _, rfl, .inl (SqL.of ha2), rfl, flat_ints _, _, rfl, ?_⟩
      show if (if true = true then !inV (V.int v) ((fin n ms).aln.map V.int) else _) = true then _ else _
      rw [if_pos rfl, inV_ints]
      cases hc : (fin n ms).aln.contains v with
      | true =>
        refine iteF ?_
        rw [no, List.filter_append, List.filter_cons, if_neg (by rw [hc]; decide), List.filter_nil, List.append_nil]
      | false =>
        refine iteT ⟨_, rfl, _, upd_same, sz_lt ?_, ?_⟩
        · rw [List.length_map]
          have := List.length_filter_le (fun y => !(fin n ms).aln.contains y) (ms.take j)
          rw [List.length_take] at this
          omega
        · rw [upd_upd, no, List.filter_append, List.filter_cons, if_pos (by rw [hc]; rfl), List.filter_nil, List.map_append]
          rfl
    · rintro H2 rfl
      rw [List.length_map, List.take_length, cset_zero hset]
      have s2 : Same H1 (upd H1 b (.lst ((cset n ms 0).map V.int))) := same_new nb
      have hb : (upd H1 b (.lst ((cset n ms 0).map V.int))) b = some (.lst ((cset n ms 0).map V.int)) := upd_same
      have lb := (cset_set n ms 0).len
      have ha2 := s2 _ _ ha
      generalize upd H1 b (.lst ((cset n ms 0).map V.int)) = H2 at *
      refine ⟨n, b, cset n ms 0, rfl, by omega, by omega, SqL.of hb, fun H3 s3 => ?_⟩
      refine ⟨_, rfl, al, _, rfl, .inl (SqL.of (s3 _ _ ha2)), ?_⟩
      refine ⟨sz_le (by show 2 ≤ _; omega), fun p np => ?_⟩
      refine gg _ p (((s1.trans s2).trans s3).trans (same_new np)) (((s1.trans s2).trans s3).free np) ?_
      rw [upd_same, List.length_map]
/-! #### asked_family -/
def famOk (m : Int) (rows : List (List Int)) : Bool := (rows.all fun r => setOk m (-1) r) && decide rows.Nodup
theorem dup_step {rows : List (List Int)} {k : Nat} {r : List Int} (h : rows[k]? = some r) : (rows.take (k + 1)).Nodup ↔ (rows.take k).Nodup ∧ r ∉ rows.take k := by
  rw [take_snoc h, List.nodup_append]
  constructor
  · rintro ⟨h1, _, h3⟩
    exact ⟨h1, fun z => h3 r z r (List.mem_singleton.mpr rfl) rfl⟩
  · rintro ⟨h1, h2⟩
    refine ⟨h1, by simp, fun a ha b hb e => ?_⟩
    rw [List.mem_singleton] at hb
    subst hb e
    exact h2 ha
theorem famOk_iff {m : Int} {rows : List (List Int)} : famOk m rows = true ↔ (∀ r ∈ rows, setOk m (-1) r = true) ∧ rows.Nodup := by
  unfold famOk
  rw [Bool.and_eq_true, List.all_eq_true, decide_eq_true_eq]
/-- the program's own looks at a family -/
def FGuard (CM CS : Addr) (m : Int) (rows : List (List Int)) (E : XK) (H : Hp) (good : Prop) : Prop :=
  ((m < 0 ∨ 40 < m) → E (.ref CM) none H) ∧ (¬ (m < 0 ∨ 40 < m) → famOk m rows = false → ∀ H', Same H H' → E (.ref CS) none H') ∧ (∀ n : Nat, m = (n : Int) → n ≤ 40 → (∀ r ∈ rows, IsSet n r) → rows.Nodup → good)
theorem FGuard.of {CM CS : Addr} {n : Nat} {rows : List (List Int)} {E : XK} {H : Hp} {good : Prop} (hn : n ≤ 40) (h : ∀ r ∈ rows, IsSet n r) (nd : rows.Nodup) (g : good) : FGuard CM CS n rows E H good :=
  ⟨fun z => absurd z (by omega), fun _ z => by rw [famOk_iff.mpr ⟨fun r hr => setOk_set.mpr (h r hr), nd⟩] at z; (cases z), fun _ _ _ _ _ => g⟩
def spFam (K : PySem.W.Frag) (CM CS : Addr) : Sp := fun vs H Q E => ∃ (m : Int) (a : Addr) (as : List Addr) (rows : List (List Int)), vs = [.int m, .ref a] ∧ SqL K H a (as.map V.ref) ∧ Rows H as rows ∧ rows.length ≤ 1000 ∧
  FGuard CM CS m rows E H (∀ H', Same H H' → Q .non H')
theorem ok_asked_family {C_NoMany : Addr} {C_NoSet : Addr} (A : At K mg "asked_family" s_asked_family) (B : Bt mg tM) (X_NoSet : XT K mg "NoSet" C_NoSet) (D_asked_many : Def P w K mg base (L2.CX P w) 1 "asked_many" ["many", "most"] (spMany C_NoMany)) (D_asked_set : Def P w K mg base (L2.CX P w) 1 "asked_set" ["many", "members"] (spSet K C_NoSet)) :
    Def P w K mg base (L2.CX P w) 2 "asked_family" ["many", "family"] (spFam K C_NoMany C_NoSet) := by
  obtain ⟨f, fd, F, gm⟩ := A
  obtain ⟨f_asked_many, fd_asked_many, G_asked_many, g_asked_many, k_asked_many, b_asked_many⟩ := D_asked_many.ex
  obtain ⟨f_asked_set, fd_asked_set, G_asked_set, g_asked_set, k_asked_set, b_asked_set⟩ := D_asked_set.ex
  refine ⟨⟨f, fd, F.okX sc_asked_family (fun vs H Q E h => ?_) (fun cdv A outer s H vs Q E hr h => ?_), gm, F.kp, F.binds fun _ _ _ _ _ _ us hl => match us, hl with | [_, _], _ => rfl⟩⟩
  · obtain ⟨m, a, as, rows, rfl, _⟩ := h
    rfl
  · obtain ⟨m, a, as, rows, rfl, hS, hr0, hlen, g⟩ := h
    have tk := takes_of (X := cxOf (L2.CX P w) P w K mg base ["many", "family", "members", "k"] "asked_family" (defScope s_asked_family) f cdv A outer s H E) (E := E) rfl rfl rfl rfl
    refine ⟨_, (pss_cons (ps_expr (pe_call G_asked_many (hr.mono (by decide)) (by rfl) g_asked_many k_asked_many b_asked_many .nil (passes_call tk (fun _ _ _ _ h => h)) (pa_cons (pv 0) (pa_cons (pe_glob (v := .int 40) rfl B.MOST ⟨_, rfl⟩) pa_nil))))
    (pss_cons (ps_for (passes_of rfl) rfl (pi_list (pv 1)) (pg_name (i := 2) sc_asked_family.nd rfl (.inl rfl)) (pss_one (ps_expr (pe_call G_asked_set (hr.mono (by decide)) (by rfl) g_asked_set k_asked_set b_asked_set .nil (passes_call tk (fun _ _ _ _ h => h)) (pa_cons (pv 0) (pa_cons (pv 2) pa_nil))))))
    (pss_one (ps_for (passes_of rfl) rfl (pi_range1 (by rfl) B.range (pa_cons (pe_callB call_len_seq (by rfl) B.len (by decide +kernel) (pa_cons (pv 1) pa_nil)) pa_nil)) (pg_name (i := 3) sc_asked_family.nd rfl (.inl rfl)) (pss_one (ps_if (pt_cmpR (op_inD (inD_u hr)) (pe_ix ix_list (pv 1) (pv 3) (fun _ _ => rfl)) (pe_slice sl_list (pv 1) po_none (po_some (pv 3))) (by rfl)) (pss_one (ps_raise rfl tk (pmk_own PySem.F.excBase_ValueError X_NoSet.x X_NoSet.g X_NoSet.k (raises_own X_NoSet.b X_NoSet.t) (by rfl)))) pss_nil)))))), ?_⟩
    refine ⟨_, rfl, m, 40, rfl, g.1, fun hm => ?_⟩
    have las := hr0.len
    refine ⟨_, rfl, a, rfl, ⟨_, hS⟩, ?_⟩
    refine for_list (K := K) (a := a) (xs := as.map V.ref) (fun i σ H' => H' = H ∧ (∀ r ∈ rows.take i, setOk m (-1) r = true) ∧ ∃ y, σ = [some (.int m), some (.ref a), y, none]) ⟨rfl, (fun _ h => nomatch h), none, rfl⟩ (fun i σ H' _ ⟨e, _⟩ => e ▸ hS) ?_ ?_
    · rintro i x σ H' hi ⟨rfl, h1, y, rfl⟩
      obtain ⟨b, eb, rfl⟩ : ∃ b, as[i]? = some b ∧ x = .ref b := by
        rw [List.getElem?_map] at hi
        cases e : as[i]? with
        | none => rw [e] at hi; cases hi
        | some b => rw [e] at hi; exact ⟨b, rfl, (Option.some.inj hi).symm⟩
      obtain ⟨r, er, hb⟩ := hr0.at eb
      refine ⟨_, rfl, _, rfl, m, b, r, rfl, SqL.of hb, fun z => ?_, fun z => ⟨rfl, fun t ht => ?_, _, rfl⟩⟩
      · refine g.2.1 hm ?_ _ (Same.refl _)
        cases e : famOk m rows with
        | false => rfl
        | true =>
          have := (famOk_iff.mp e).1 r (List.mem_of_getElem? er)
          rw [z] at this
          cases this
      · rw [take_snoc er] at ht
        rcases List.mem_append.mp ht with ht | ht
        · exact h1 t ht
        · rw [List.mem_singleton] at ht
          rw [ht]
          exact z
    · rintro σ H' ⟨rfl, h1, y, rfl⟩
      rw [List.length_map, las, List.take_length] at h1
      refine ⟨_, rfl, a, _, rfl, .inl hS, _, rfl, by omega, by rw [List.length_map]; omega, ?_⟩
      refine for_range (lo := 0) (n := (((as.map V.ref).length : Nat) : Int).toNat) (fun i σ H2 => Same H' H2 ∧ (rows.take i).Nodup ∧ ∃ z, σ = [some (.int m), some (.ref a), y, z]) ⟨Same.refl _, by rw [List.take_zero]; exact List.nodup_nil, none, rfl⟩ ?_ ?_
      · rintro i σ H2 hi ⟨s2, nd, z, rfl⟩
        have il : i < rows.length := by rw [List.length_map] at hi; omega
        have gr : rows[i]? = some rows[i] := List.getElem?_eq_getElem il
        generalize rows[i] = r at *
        have hr2 := hr0.same s2
        obtain ⟨b, eb, hb⟩ := hr2.get gr
        have ei : ((0 : Int) + (i : Int)) = (i : Int) := Int.zero_add _
        have ab : atI (as.map V.ref) ((0 : Int) + (i : Int)) = some (.ref b) := by
          rw [ei]
          exact atI_nat (by rw [List.getElem?_map, eb]; rfl)
        refine ⟨_, rfl, _, rfl, a, _, _, _, rfl, rfl, s2.seq hS, ab, _, rfl, _, rfl, _, rfl, a, _, rfl, s2.seq hS, fun c nc => ?_⟩
        have s3 : ∀ o, Same H2 (upd H2 c o) := fun o => same_new nc
        have hc : (upd H2 c (.lst (cutV (as.map V.ref) none (some ((0 : Int) + (i : Int)))))) c = some (.lst ((as.take i).map V.ref)) := by rw [upd_same, ei, cut_take, List.map_take]
        have rt : Rows (upd H2 c (.lst (cutV (as.map V.ref) none (some ((0 : Int) + (i : Int)))))) (as.take i) (rows.take i) := by
          have := hr2.same (s3 (.lst (cutV (as.map V.ref) none (some ((0 : Int) + (i : Int))))))
          exact Rows.take this i
        refine ⟨dI r, (rows.take i).map dI, dp_I (SqL.of (s3 _ _ _ hb)), dp_L (SqL.of hc) rt, dI_shaped _, dL_shaped _, _, rfl, ?_⟩
        rw [dL_any]
        by_cases hd : r ∈ rows.take i
        · rw [decide_eq_true hd]
          refine iteT ?_
          refine g.2.1 hm ?_ _ (s2.trans (s3 _))
          cases e : famOk m rows with
          | false => rfl
          | true =>
            have nd2 : (rows.take (i + 1)).Nodup := (famOk_iff.mp e).2.sublist (List.take_sublist _ _)
            exact absurd hd ((dup_step gr).mp nd2).2
        · rw [decide_eq_false hd]
          exact iteF ⟨s2.trans (s3 _), (dup_step gr).mpr ⟨nd, hd⟩, _, rfl⟩
      · rintro σ H2 ⟨s2, nd, z, rfl⟩
        have en : (((as.map V.ref).length : Nat) : Int).toNat = rows.length := by rw [List.length_map, las]; rfl
        rw [en, List.take_length] at nd
        obtain ⟨n, e⟩ : ∃ n : Nat, m = (n : Int) := ⟨m.toNat, by omega⟩
        refine g.2.2 n e (by omega) (fun r hr => ?_) nd _ s2
        have := h1 r hr
        rw [e] at this
        exact setOk_set.mp this
/-! #### lies_within -/

def spWithin (K : PySem.W.Frag) : Sp := fun vs H Q _ => ∃ (a b : Addr) (xs ys : List Int), vs = [.ref a, .ref b] ∧ SqL K H a (xs.map V.int) ∧ SqL K H b (ys.map V.int) ∧ xs.length ≤ 1000 ∧ ∀ H', Same H H' → Q (.bl (subL xs ys)) H'
theorem ok_lies_within (A : At K mg "lies_within" s_lies_within) (B : Bt mg tM) :
    Def P w K mg base CX0 1 "lies_within" ["one", "other"] (spWithin K) := by
  obtain ⟨f, fd, F, gm⟩ := A
  refine ⟨⟨f, fd, F.ok sc_lies_within (fun vs H Q E h => ?_) (fun cdv A outer s H vs Q E hr h => ?_), gm, F.kp, F.binds fun _ _ _ _ _ _ us hl => match us, hl with | [_, _], _ => rfl⟩⟩
  · obtain ⟨a, b, xs, ys, rfl, _⟩ := h
    rfl
  · obtain ⟨a, b, xs, ys, rfl, ha, hb, hx, q⟩ := h
    refine ⟨_, (pss_one (ps_ret (pe_callB (cr_all rfl) (by rfl) B.all (by decide +kernel) (pa_cons (pe_lc (own := [("thing", 2)]) (g := gName 2) (by rfl) sc_lies_within.nd (pi_list (pv 0)) (blkOk_by (N := ["one", "other", "thing"]) (sc := defScope s_lies_within) (by decide +kernel)) (fun _ _ _ _ _ => (pg_name (i := 2) sc_lies_within.nd rfl (.inl rfl))) (fun _ _ _ _ _ => pts_nil) (fun _ _ _ _ _ => (pe_cmpR (op_in_seqK K) (pv 2) (pv 1) (by rfl)))) pa_nil)))), ?_⟩
    refine ⟨_, rfl, a, rfl, ⟨_, ha⟩, fun D nD => ?_⟩
    have s1 : ∀ o, Same H (upd H D o) := fun o => same_new nD
    refine lc_list (K := K) (a := a) (xs := xs.map V.int) (fun i H' => H' = upd H D (.lst (((xs.take i).map fun x => ys.contains x).map V.bl))) rfl (fun i H' _ e => by rw [e]; exact (s1 _).seq ha) ?_ ?_
    · rintro i x H' hi rfl
      obtain ⟨v, hv, rfl⟩ := at_map hi
      have il := (List.getElem?_eq_some_iff.mp hi).1
      rw [List.length_map] at il
      refine ⟨rfl, ?_⟩
      refine tyes ?_
      refine iteT ?_
      refine ⟨_, rfl, _, rfl, b, _, rfl, .inl ((s1 _).seq hb), rfl, flat_ints ys, ?_⟩
      show ∃ acc, _ = some (HO.lst acc) ∧ acc.length < sizeLine ∧ upd _ D (.lst (acc ++ [V.bl (if false = true then _ else inV (V.int v) (ys.map V.int))])) = _
      rw [if_neg Bool.false_ne_true, inV_ints]
      refine ⟨_, upd_same, sz_lt (by rw [List.length_map, List.length_map, List.length_take]; omega), ?_⟩
      rw [upd_upd, take_snoc hv, List.map_append, List.map_append]
      rfl
    · rintro H' rfl
      rw [List.length_map, List.take_length]
      refine ⟨D, xs.map fun x => ys.contains x, rfl, SqL.of upd_same, ?_⟩
      have e : ((xs.map fun x => ys.contains x).all id) = subL xs ys := by
        unfold subL
        rw [List.all_map]
        rfl
      rw [e]
      exact q _ (s1 _)
/-! #### clash -/
def spClash (K : PySem.W.Frag) (CM CS : Addr) : Sp := fun vs H Q E => ∃ (m : Int) (a : Addr) (as : List Addr) (rows : List (List Int)), vs = [.int m, .ref a] ∧ SqL K H a (as.map V.ref) ∧ Rows H as rows ∧ rows.length ≤ 1000 ∧
  FGuard CM CS m rows E H ((NoHit rows → ∀ H', Same H H' → Q .non H') ∧ (∀ H' p k j, Same H H' → H p = none → First rows k j → H' p = some (.tup [.int (k : Int), .int (j : Int)]) → Q (.ref p) H'))
theorem ok_clash {C_NoMany : Addr} {C_NoSet : Addr} (A : At K mg "clash" s_clash) (B : Bt mg tM) (D_asked_family : Def P w K mg base (L2.CX P w) 2 "asked_family" ["many", "family"] (spFam K C_NoMany C_NoSet)) (D_lies_within : Def P w K mg base CX0 1 "lies_within" ["one", "other"] (spWithin K)) :
    Def P w K mg base (L2.CX P w) 3 "clash" ["many", "family"] (spClash K C_NoMany C_NoSet) := by
  obtain ⟨f, fd, F, gm⟩ := A
  obtain ⟨f_asked_family, fd_asked_family, G_asked_family, g_asked_family, k_asked_family, b_asked_family⟩ := D_asked_family.ex
  obtain ⟨f_lies_within, fd_lies_within, G_lies_within, g_lies_within, k_lies_within, b_lies_within⟩ := D_lies_within.ex
  refine ⟨⟨f, fd, F.okX sc_clash (fun vs H Q E h => ?_) (fun cdv A outer s H vs Q E hr h => ?_), gm, F.kp, F.binds fun _ _ _ _ _ _ us hl => match us, hl with | [_, _], _ => rfl⟩⟩
  · obtain ⟨m, a, as, rows, rfl, _⟩ := h
    rfl
  · obtain ⟨m, a, as, rows, rfl, hS, hr0, hlen, g⟩ := h
    have tk := takes_of (X := cxOf (L2.CX P w) P w K mg base ["many", "family", "k", "j"] "clash" (defScope s_clash) f cdv A outer s H E) (E := E) rfl rfl rfl rfl
    refine ⟨_, (pss_cons (ps_expr (pe_call G_asked_family (hr.mono (by decide)) (by rfl) g_asked_family k_asked_family b_asked_family .nil (passes_call tk (fun _ _ _ _ h => h)) (pa_cons (pv 0) (pa_cons (pv 1) pa_nil))))
    (pss_cons (ps_for (passes_of rfl) rfl (pi_range1 (by rfl) B.range (pa_cons (pe_callB call_len_seq (by rfl) B.len (by decide +kernel) (pa_cons (pv 1) pa_nil)) pa_nil)) (pg_name (i := 2) sc_clash.nd rfl (.inl rfl)) (pss_one (ps_for (passes_of rfl) rfl (pi_range1 (by rfl) B.range (pa_cons (pe_callB call_len_seq (by rfl) B.len (by decide +kernel) (pa_cons (pv 1) pa_nil)) pa_nil)) (pg_name (i := 3) sc_clash.nd rfl (.inl rfl)) (pss_one (ps_if (PW.pt (pw_and (pt_cmpR op_ne (pv 3) (pv 2) (nomark _)) (pw_and1 (pt_val (pe_call G_lies_within (hr.mono (by decide)) (by rfl) g_lies_within k_lies_within b_lies_within .nil pass0 (pa_cons (pe_ix ix_list (pv 1) (pv 2) (fun _ _ => rfl)) (pa_cons (pe_ix ix_list (pv 1) (pv 3) (fun _ _ => rfl)) pa_nil))))))) (pss_one (ps_ret (pe_tup (pa_cons (pv 2) (pa_cons (pv 3) pa_nil))))) pss_nil)))))
    (pss_one (ps_ret pe_non)))), ?_⟩
    have las := hr0.len
    have en : (((as.map V.ref).length : Nat) : Int).toNat = rows.length := by rw [List.length_map, las]; rfl
    refine ⟨_, rfl, _, rfl, m, a, as, rows, rfl, hS, hr0, hlen, g.1, g.2.1, fun n e hn hsets nd H1 s1 => ?_⟩
    obtain ⟨kN, kF⟩ := g.2.2 n e hn hsets nd
    subst e
    refine ⟨_, rfl, a, _, rfl, .inl (s1.seq hS), _, rfl, by omega, by rw [List.length_map]; omega, ?_⟩
    refine for_range (lo := 0) (n := (((as.map V.ref).length : Nat) : Int).toNat) (fun i σ H' => Same H H' ∧ (∀ k j, k < i → j < rows.length → hit rows k j = false) ∧ ∃ y z, σ = [some (.int (n : Int)), some (.ref a), y, z]) ⟨s1, fun k j hk => absurd hk (by omega), none, none, rfl⟩ ?_ ?_
    · rintro i σ H2 hi ⟨s2, h2, y, z, rfl⟩
      rw [en] at hi
      have gi : rows[i]? = some rows[i] := List.getElem?_eq_getElem hi
      refine ⟨_, rfl, a, _, rfl, .inl (s2.seq hS), _, rfl, by omega, by rw [List.length_map]; omega, ?_⟩
      refine for_range (lo := 0) (n := (((as.map V.ref).length : Nat) : Int).toNat) (fun j σ H' => Same H H' ∧ (∀ j', j' < j → hit rows i j' = false) ∧ ∃ z, σ = [some (.int (n : Int)), some (.ref a), some (.int ((0 : Int) + (i : Int))), z]) ⟨s2, fun j hj => absurd hj (by omega), z, rfl⟩ ?_ ?_
      · rintro j σ H3 hj ⟨s3, h3, z, rfl⟩
        rw [en] at hj
        have gj : rows[j]? = some rows[j] := List.getElem?_eq_getElem hj
        have hr3 := hr0.same s3
        obtain ⟨b, eb, hb⟩ := hr3.get gi
        obtain ⟨c, ec, hc⟩ := hr3.get gj
        have li := (hsets _ (List.getElem_mem hi)).len
        have hh := hit_of gi gj
        generalize rows[i] = r at *
        generalize rows[j] = t at *
        have ei : ((0 : Int) + (i : Int)) = (i : Int) := Int.zero_add _
        have ej : ((0 : Int) + (j : Int)) = (j : Int) := Int.zero_add _
        have ab : atI (as.map V.ref) ((0 : Int) + (i : Int)) = some (.ref b) := by
          rw [ei]
          exact atI_nat (by rw [List.getElem?_map, eb]; rfl)
        have ac : atI (as.map V.ref) ((0 : Int) + (j : Int)) = some (.ref c) := by
          rw [ej]
          exact atI_nat (by rw [List.getElem?_map, ec]; rfl)
        have nextj : ∀ H4, Same H H4 → hit rows i j = false → Same H H4 ∧ (∀ j', j' < j + 1 → hit rows i j' = false) ∧ ∃ z, ([some (V.int (n : Int)), some (V.ref a), some (V.int ((0 : Int) + (i : Int))), some (V.int ((0 : Int) + (j : Int)))] : L2.St) = [some (.int (n : Int)), some (.ref a), some (.int ((0 : Int) + (i : Int))), z] := fun H4 s4 hf => by
          refine ⟨s4, fun j' hj' => ?_, _, rfl⟩
          by_cases ejj : j' = j
          · rw [ejj]; exact hf
          · exact h3 j' (by omega)
        refine ⟨_, rfl, _, rfl, rfl, _, rfl, ?_⟩
        by_cases eij : j = i
        · subst eij
          rw [decide_eq_true rfl]
          refine iteF (iteF (nextj _ s3 ?_))
          rw [hh]
          simp
        · rw [decide_eq_false (show ¬ V.int ((0 : Int) + (j : Int)) = V.int ((0 : Int) + (i : Int)) from fun w => by have := V.int.inj w; omega)]
          refine iteT ?_
          refine ⟨_, rfl, _, rfl, a, _, _, _, rfl, rfl, s3.seq hS, ab, _, rfl, _, rfl, a, _, _, _, rfl, rfl, s3.seq hS, ac, b, c, r, t, rfl, SqL.of hb, SqL.of hc, by omega, fun H4 s4 => ?_⟩
          have hb' : hit rows i j = subL r t := by
            rw [hh]
            have : (i != j) = true := by simpa using (fun z => eij z.symm)
            rw [this, Bool.true_and]
          refine ⟨_, rfl, ?_⟩
          cases hs : subL r t with
          | false => exact iteF (nextj _ (s3.trans s4) (by rw [hb', hs]))
          | true =>
            refine iteT ?_
            refine ⟨_, rfl, _, rfl, sz_le (by show 2 ≤ _; omega), fun p np => ?_⟩
            refine kF _ p i j ((s3.trans s4).trans (same_new np)) ((s3.trans s4).free np) ⟨hi, hj, by rw [hb', hs], h2, h3⟩ ?_
            rw [upd_same, ei, ej]
      · rintro σ H3 ⟨s3, h3, z, rfl⟩
        rw [en] at h3
        refine ⟨s3, fun k j hk hj => ?_, _, _, rfl⟩
        by_cases e : k = i
        · rw [e]; exact h3 j hj
        · exact h2 k j (by omega) hj
    · rintro σ H2 ⟨s2, h2, y, z, rfl⟩
      rw [en] at h2
      exact kN (fun k j hk hj => h2 k j hk hj) _ s2
/-! #### common -/
def spCommon : Sp := fun vs H Q _ => ∃ x y : Nat, vs = [.int (x : Int), .int (y : Int)] ∧ Q (.int (Nat.gcd x y : Int)) H
theorem ok_common (A : At K mg "common" s_common) (B : Bt mg tM) :
    Def P w K mg base CX0 1 "common" ["one", "other"] spCommon := by
  obtain ⟨f, fd, F, gm⟩ := A
  refine ⟨⟨f, fd, F.ok sc_common (fun vs H Q E h => ?_) (fun cdv A outer s H vs Q E hr h => ?_), gm, F.kp, F.binds fun _ _ _ _ _ _ us hl => match us, hl with | [_, _], _ => rfl⟩⟩
  · obtain ⟨x, y, rfl, _⟩ := h
    rfl
  · obtain ⟨x, y, rfl, q⟩ := h
    refine ⟨_, (pss_cons (ps_while PassesOwn.never (pt_cmpR op_gt (pv 1) pe_int (nomark _)) (pss_one (ps_par (i := 0) (j := 1) (by rfl) sc_common.nd rfl rfl (by decide) rfl rfl (pa_cons (pv 1) (pa_cons (pe_op op_mod (pv 0) (pv 1)) pa_nil)) (by rfl))))
    (pss_one (ps_ret (pv 0)))), ?_⟩
    refine while_by (fun σ H' => H' = H ∧ ∃ a b : Nat, Nat.gcd a b = Nat.gcd x y ∧ σ = [some (.int (a : Int)), some (.int (b : Int))]) (fun σ _ => match σ with | [_, some (.int b)] => b.toNat | _ => 0) ⟨rfl, x, y, rfl, rfl⟩ ?_ ?_
    · rintro σ H' ⟨rfl, a, b, e, rfl⟩
      refine ⟨_, rfl, _, _, rfl, rfl, _, rfl, ite2 (fun h1 => ?_) (fun h1 => ?_)⟩
      · have h1 : (0 : Int) < (b : Int) := of_decide_eq_true h1
        refine ⟨_, rfl, _, rfl, _, rfl, _, _, rfl, rfl, h1, _, _, rfl, ?_⟩
        refine ⟨⟨rfl, b, a % b, ?_, rfl⟩, ?_⟩
        · rw [← e, Nat.gcd_comm b, ← Nat.gcd_rec, Nat.gcd_comm]
        · show ((a : Int) % (b : Int)).toNat < ((b : Int)).toNat
          have := Nat.mod_lt a (show b > 0 by omega)
          rw [show ((a : Int) % (b : Int)) = ((a % b : Nat) : Int) from rfl]
          omega
      · have h1' : ¬ (0 : Int) < (b : Int) := fun z => h1 (decide_eq_true z)
        have e0 : b = 0 := by omega
        subst e0
        rw [Nat.gcd_zero_right] at e
        refine ⟨_, rfl, ?_⟩
        rw [← e] at q
        exact q
    · rintro σ H' Q1 Q2 imp h
      obtain ⟨x1, h1, a, b, h2, h3, c, h4, h5⟩ := h
      exact ⟨x1, h1, a, b, h2, h3, c, h4, imp _ _ h5⟩
/-! #### share -/
theorem sh_small {n : Nat} {F : List (List Int)} (hn : n ≤ 40) (hF : F.length ≤ 8) : (sh n F).1 < 2 ^ 330 ∧ (sh n F).2 < 2 ^ 330 := by
  have hb : ∀ k, ch n k ≤ 2 ^ 40 := fun k => Nat.le_trans (ch_le n k) (Nat.pow_le_pow_right (by decide) hn)
  obtain ⟨h1, h2⟩ := sh_bound hb (Nat.one_le_two_pow) F
  have e : (2 ^ 40) ^ F.length ≤ 2 ^ 320 := by
    rw [← Nat.pow_mul]
    exact Nat.pow_le_pow_right (by decide) (by omega)
  have h3 : F.length * (2 ^ 40) ^ F.length ≤ 8 * 2 ^ 320 := Nat.mul_le_mul hF e
  have l1 : 8 * 2 ^ 320 < 2 ^ 330 := by decide
  have l2 : 2 ^ 320 < 2 ^ 330 := by decide
  exact ⟨Nat.lt_of_le_of_lt (Nat.le_trans h2 h3) l1, Nat.lt_of_le_of_lt (Nat.le_trans h1 e) l2⟩
/-- x / u is the share, in lowest terms -/
structure Share (n : Nat) (F : List (List Int)) (x u : Nat) : Prop where
  pos : 1 ≤ u
  low : Nat.gcd x u = 1
  eq : x * (sh n F).2 = (sh n F).1 * u
  bx : x ≤ (sh n F).1
  bu : u ≤ (sh n F).2
theorem Share.nil (n : Nat) : Share n [] 0 1 := ⟨by decide, by decide, rfl, Nat.le_refl _, Nat.le_refl _⟩
theorem Share.snoc {n : Nat} {F : List (List Int)} {x u : Nat} {A : List Int} (h : Share n F x u) (hA : A.length ≤ n) :
    let g := Nat.gcd (x * ch n A.length + u) (u * ch n A.length)
    1 ≤ g ∧ g ≤ u * ch n A.length ∧ Share n (F ++ [A]) ((x * ch n A.length + u) / g) ((u * ch n A.length) / g) := by
  obtain ⟨pos, low, eq, bx, bu⟩ := h
  have cp := ch_pos hA
  generalize hc : ch n A.length = c at *
  intro g
  have up : 0 < u * c := Nat.mul_pos (by omega) cp
  have gp : 0 < g := Nat.gcd_pos_of_pos_right _ up
  have d1 : g ∣ x * c + u := Nat.gcd_dvd_left _ _
  have d2 : g ∣ u * c := Nat.gcd_dvd_right _ _
  have gl : g ≤ u * c := Nat.le_of_dvd up d2
  have es := sh_snoc n F A
  rw [hc] at es
  have b1 : x * c + u ≤ (sh n F).1 * c + (sh n F).2 := by
    have := Nat.mul_le_mul_right c bx
    omega
  have b2 : u * c ≤ (sh n F).2 * c := Nat.mul_le_mul_right c bu
  refine ⟨gp, gl, ⟨?_, ?_, ?_, ?_, ?_⟩⟩
  · exact Nat.div_pos gl gp
  · exact Nat.gcd_div_gcd_div_gcd_of_pos_right up
  · rw [es]
    dsimp only
    refine Nat.eq_of_mul_eq_mul_left gp ?_
    have e1 : g * ((x * c + u) / g) = x * c + u := Nat.mul_div_cancel' d1
    have e2 : g * (u * c / g) = u * c := Nat.mul_div_cancel' d2
    have l1 : g * ((x * c + u) / g * ((sh n F).2 * c)) = (x * c + u) * ((sh n F).2 * c) := by rw [← Nat.mul_assoc, e1]
    have r1 : g * (((sh n F).1 * c + (sh n F).2) * (u * c / g)) = ((sh n F).1 * c + (sh n F).2) * (u * c) := by rw [Nat.mul_left_comm, e2]
    rw [l1, r1, Nat.add_mul, Nat.add_mul]
    have e3 : x * c * ((sh n F).2 * c) = (sh n F).1 * c * (u * c) := by
      calc x * c * ((sh n F).2 * c) = (x * (sh n F).2) * (c * c) := by simp only [Nat.mul_assoc, Nat.mul_left_comm]
        _ = ((sh n F).1 * u) * (c * c) := by rw [eq]
        _ = (sh n F).1 * c * (u * c) := by simp only [Nat.mul_assoc, Nat.mul_left_comm]
    have e4 : u * ((sh n F).2 * c) = (sh n F).2 * (u * c) := Nat.mul_left_comm _ _ _
    rw [e3, e4]
  · rw [es]
    exact Nat.le_trans (Nat.div_le_self _ _) b1
  · rw [es]
    exact Nat.le_trans (Nat.div_le_self _ _) b2
def spShare (K : PySem.W.Frag) (CM CS : Addr) : Sp := fun vs H Q E => ∃ (m : Int) (a : Addr) (as : List Addr) (rows : List (List Int)), vs = [.int m, .ref a] ∧ SqL K H a (as.map V.ref) ∧ Rows H as rows ∧ rows.length ≤ 8 ∧
  FGuard CM CS m rows E H (∀ H' p (x u : Nat), Same H H' → H p = none → Share m.toNat rows x u → H' p = some (.tup [.int (x : Int), .int (u : Int)]) → Q (.ref p) H')
theorem ok_share {C_NoMany : Addr} {C_NoSet : Addr} (A : At K mg "share" s_share) (B : Bt mg tM) (D_above : Def P w K mg base (L2.CX P w) 3 "above" ["many", "members"] (spAbove K C_NoMany C_NoSet)) (D_asked_family : Def P w K mg base (L2.CX P w) 2 "asked_family" ["many", "family"] (spFam K C_NoMany C_NoSet)) (D_picks : Def P w K mg base CX0 1 "picks" ["total", "some"] spPicks) (D_common : Def P w K mg base CX0 1 "common" ["one", "other"] spCommon) :
    Def P w K mg base (L2.CX P w) 4 "share" ["many", "family"] (spShare K C_NoMany C_NoSet) := by
  obtain ⟨f, fd, F, gm⟩ := A
  obtain ⟨f_above, fd_above, G_above, g_above, k_above, b_above⟩ := D_above.ex
  obtain ⟨f_asked_family, fd_asked_family, G_asked_family, g_asked_family, k_asked_family, b_asked_family⟩ := D_asked_family.ex
  obtain ⟨f_picks, fd_picks, G_picks, g_picks, k_picks, b_picks⟩ := D_picks.ex
  obtain ⟨f_common, fd_common, G_common, g_common, k_common, b_common⟩ := D_common.ex
  refine ⟨⟨f, fd, F.okX sc_share (fun vs H Q E h => ?_) (fun cdv A outer s H vs Q E hr h => ?_), gm, F.kp, F.binds fun _ _ _ _ _ _ us hl => match us, hl with | [_, _], _ => rfl⟩⟩
  · obtain ⟨m, a, as, rows, rfl, _⟩ := h
    rfl
  · obtain ⟨m, a, as, rows, rfl, hS, hr0, hlen, g⟩ := h
    have tk := takes_of (X := cxOf (L2.CX P w) P w K mg base ["many", "family", "above", "under", "members", "part", "both"] "share" (defScope s_share) f cdv A outer s H E) (E := E) rfl rfl rfl rfl
    refine ⟨_, (pss_cons (ps_expr (pe_call G_asked_family (hr.mono (by decide)) (by rfl) g_asked_family k_asked_family b_asked_family .nil (passes_call tk (fun _ _ _ _ h => h)) (pa_cons (pv 0) (pa_cons (pv 1) pa_nil))))
    (pss_cons (ps_set (i := 2) sc_share.nd rfl (.inl rfl) pe_int)
    (pss_cons (ps_set (i := 3) sc_share.nd rfl (.inl rfl) pe_int)
    (pss_cons (ps_for (passes_of rfl) rfl (pi_list (pv 1)) (pg_name (i := 4) sc_share.nd rfl (.inl rfl)) (pss_cons (ps_set (i := 5) sc_share.nd rfl (.inl rfl) (pe_call G_picks (hr.mono (by decide)) (by rfl) g_picks k_picks b_picks .nil pass0 (pa_cons (pv 0) (pa_cons (pe_callB call_len_seq (by rfl) B.len (by decide +kernel) (pa_cons (pv 4) pa_nil)) pa_nil))))
    (pss_cons (ps_set (i := 2) sc_share.nd rfl (.inl rfl) (pe_op op_add (pe_op op_mulW (pv 2) (pv 5)) (pv 3)))
    (pss_cons (ps_set (i := 3) sc_share.nd rfl (.inl rfl) (pe_op op_mulW (pv 3) (pv 5)))
    (pss_cons (ps_set (i := 6) sc_share.nd rfl (.inl rfl) (pe_call G_common (hr.mono (by decide)) (by rfl) g_common k_common b_common .nil pass0 (pa_cons (pv 2) (pa_cons (pv 3) pa_nil))))
    (pss_cons (ps_set (i := 2) sc_share.nd rfl (.inl rfl) (pe_op op_fdivW (pv 2) (pv 6)))
    (pss_one (ps_set (i := 3) sc_share.nd rfl (.inl rfl) (pe_op op_fdivW (pv 3) (pv 6))))))))))
    (pss_one (ps_ret (pe_tup (pa_cons (pv 2) (pa_cons (pv 3) pa_nil))))))))), ?_⟩
    have las := hr0.len
    refine ⟨_, rfl, _, rfl, m, a, as, rows, rfl, hS, hr0, by omega, g.1, g.2.1, fun n e hn hsets nd H1 s1 => ?_⟩
    have gg := g.2.2 n e hn hsets nd
    subst e
    rw [show ((n : Int)).toNat = n from rfl] at gg
    have hS1 := s1.seq hS
    have hr1 := hr0.same s1
    refine ⟨_, rfl, a, rfl, ⟨_, hS1⟩, ?_⟩
    refine for_list (K := K) (a := a) (xs := as.map V.ref) (fun i σ H' => H1 = H' ∧ ∃ (x u : Nat) (y z w : Option V), Share n (rows.take i) x u ∧ σ = [some (.int (n : Int)), some (.ref a), some (.int (x : Int)), some (.int (u : Int)), y, z, w])
      ⟨rfl, 0, 1, none, none, none, by rw [List.take_zero]; exact Share.nil n, rfl⟩ (fun i σ H' _ ⟨e, _⟩ => e ▸ hS1) ?_ ?_
    · rintro i x0 σ H' hi ⟨rfl, x, u, y, z, w, sh1, rfl⟩
      have il : i < rows.length := by
        have := (List.getElem?_eq_some_iff.mp hi).1
        rw [List.length_map, las] at this
        exact this
      have gi : rows[i]? = some rows[i] := List.getElem?_eq_getElem il
      have hset := hsets _ (List.getElem_mem il)
      generalize rows[i] = r at *
      obtain ⟨b, eb, hb⟩ := hr1.get gi
      have ex : x0 = .ref b := by
        rw [List.getElem?_map, eb] at hi
        exact (Option.some.inj hi).symm
      subst ex
      have hl := hset.len
      have ti := take_snoc gi
      obtain ⟨g1, g2, sh2⟩ := sh1.snoc hl
      have sb := sh_small hn (F := rows.take i) (by rw [List.length_take]; omega)
      have sb2 := sh_small hn (F := rows.take i ++ [r]) (by rw [← ti, List.length_take]; omega)
      rw [sh_snoc] at sb2
      dsimp only at sb2
      have cl : ch n r.length < 2 ^ 41 := Nat.lt_of_le_of_lt (ch_le n r.length) (Nat.pow_lt_pow_right (by decide) (by omega))
      rw [← ti] at sh2
      have bx := sh1.bx
      have bu := sh1.bu
      refine ⟨_, rfl, _, rfl, b, _, rfl, .inl (SqL.of hb), (n : Int), _, rfl, by omega, ?_⟩
      rw [List.length_map, picks_nat]
      generalize hc : ch n r.length = c at *
      have u1 : u * c ≤ (sh n (rows.take i)).2 * c := Nat.mul_le_mul_right c bu
      have hgu : Nat.gcd (x * c + u) (u * c) < 2 ^ 330 := Nat.lt_of_le_of_lt (Nat.le_trans g2 u1) sb2.2
      have W1 : CMulW (x : Int) (c : Int) := wide_mul (a := 330) (b := 41) (by rw [Int.natAbs_natCast]; exact Nat.lt_of_le_of_lt bx sb.1) (by rw [Int.natAbs_natCast]; exact cl) (by decide) (by decide) (by decide)
      have W2 : CMulW (u : Int) (c : Int) := wide_mul (a := 330) (b := 41) (by rw [Int.natAbs_natCast]; exact Nat.lt_of_le_of_lt bu sb.2) (by rw [Int.natAbs_natCast]; exact cl) (by decide) (by decide) (by decide)
      have e1 : (x : Int) * (c : Int) + (u : Int) = ((x * c + u : Nat) : Int) := by rw [Int.natCast_add, Int.natCast_mul]
      have e2 : (u : Int) * (c : Int) = ((u * c : Nat) : Int) := by rw [Int.natCast_mul]
      refine ⟨_, rfl, _, rfl, _, _, rfl, rfl, W1, _, rfl, _, _, rfl, rfl, ?_⟩
      refine ⟨_, rfl, _, rfl, _, _, rfl, rfl, W2, ?_⟩
      refine ⟨_, rfl, _, rfl, x * c + u, u * c, by show [V.int ((x : Int) * (c : Int) + (u : Int)), V.int ((u : Int) * (c : Int))] = _; rw [e1, e2], ?_⟩
      generalize hg : Nat.gcd (x * c + u) (u * c) = G at *
      have W3 : ∀ i : Int, CDivW i (G : Int) := fun i => wide_div (b := 330) (by omega) (by rw [Int.natAbs_natCast]; exact hgu) (by decide) (by decide)
      refine ⟨_, rfl, _, rfl, _, _, rfl, rfl, W3 _, ?_⟩
      refine ⟨_, rfl, _, rfl, _, _, rfl, rfl, W3 _, ?_⟩
      refine ⟨rfl, (x * c + u) / G, u * c / G, some (.ref b), some (.int (c : Int)), some (.int (G : Int)), sh2, ?_⟩
      have e3 : ((x : Int) * (c : Int) + (u : Int)) / (G : Int) = (((x * c + u) / G : Nat) : Int) := by rw [e1]; rfl
      have e4 : ((u : Int) * (c : Int)) / (G : Int) = ((u * c / G : Nat) : Int) := by rw [e2]; rfl
      rw [← e3, ← e4]
      rfl
    · rintro σ H' ⟨rfl, x, u, y, z, w, sh1, rfl⟩
      rw [List.length_map, las, List.take_length] at sh1
      refine ⟨_, rfl, _, rfl, sz_le (by show 2 ≤ _; omega), fun p np => ?_⟩
      exact gg _ p x u (s1.trans (same_new np)) (s1.free np) sh1 upd_same
/-! #### shown -/
def spShown (K : PySem.W.Frag) (CM CS : Addr) : Sp := fun vs H Q E => ∃ (m : Int) (a : Addr) (ms : List Int), vs = [.int m, .ref a] ∧ SqL K H a (ms.map V.int) ∧
  Guard CM CS m ms E H (∀ H', Same H H' → Q (.str (txt (signs m.toNat ms))) H')
theorem ok_shown {C_NoMany : Addr} {C_NoSet : Addr} (A : At K mg "shown" s_shown) (B : Bt mg tM) (D_asked_many : Def P w K mg base (L2.CX P w) 1 "asked_many" ["many", "most"] (spMany C_NoMany)) (D_asked_set : Def P w K mg base (L2.CX P w) 1 "asked_set" ["many", "members"] (spSet K C_NoSet)) :
    Def P w K mg base (L2.CX P w) 2 "shown" ["many", "members"] (spShown K C_NoMany C_NoSet) := by
  obtain ⟨f, fd, F, gm⟩ := A
  obtain ⟨f_asked_many, fd_asked_many, G_asked_many, g_asked_many, k_asked_many, b_asked_many⟩ := D_asked_many.ex
  obtain ⟨f_asked_set, fd_asked_set, G_asked_set, g_asked_set, k_asked_set, b_asked_set⟩ := D_asked_set.ex
  refine ⟨⟨f, fd, F.okX sc_shown (fun vs H Q E h => ?_) (fun cdv A outer s H vs Q E hr h => ?_), gm, F.kp, F.binds fun _ _ _ _ _ _ us hl => match us, hl with | [_, _], _ => rfl⟩⟩
  · obtain ⟨m, a, ms, rfl, _⟩ := h
    rfl
  · obtain ⟨m, a, ms, rfl, hS, g⟩ := h
    have tk := takes_of (X := cxOf (L2.CX P w) P w K mg base ["many", "members", "thing"] "shown" (defScope s_shown) f cdv A outer s H E) (E := E) rfl rfl rfl rfl
    refine ⟨_, (pss_cons (ps_expr (pe_call G_asked_many (hr.mono (by decide)) (by rfl) g_asked_many k_asked_many b_asked_many .nil (passes_call tk (fun _ _ _ _ h => h)) (pa_cons (pv 0) (pa_cons (pe_glob (v := .int 40) rfl B.MOST ⟨_, rfl⟩) pa_nil))))
    (pss_cons (ps_expr (pe_call G_asked_set (hr.mono (by decide)) (by rfl) g_asked_set k_asked_set b_asked_set .nil (passes_call tk (fun _ _ _ _ h => h)) (pa_cons (pv 0) (pa_cons (pv 1) pa_nil))))
    (pss_one (ps_ret (pe_join pe_str (pe_lc (own := [("thing", 2)]) (g := gName 2) (by rfl) sc_shown.nd (pi_range1 (by rfl) B.range (pa_cons (pv 0) pa_nil)) (blkOk_by (N := ["many", "members", "thing"]) (sc := defScope s_shown) (by decide +kernel)) (fun _ _ _ _ _ => (pg_name (i := 2) sc_shown.nd rfl (.inl rfl))) (fun _ _ _ _ _ => pts_nil) (fun _ _ _ _ _ => (pe_ifExp (pt_cmpR (op_in_seqK K) (pv 2) (pv 1) (by rfl)) pe_str pe_str)))))))), ?_⟩
    refine ⟨_, rfl, m, 40, rfl, g.1, fun hm => ?_⟩
    obtain ⟨n, rfl⟩ : ∃ n : Nat, m = (n : Int) := ⟨m.toNat, by omega⟩
    refine ⟨_, rfl, _, rfl, (n : Int), a, ms, rfl, hS, fun z => g.2.1 hm z, fun z => ?_⟩
    have hset := setOk_set.mp z
    have gg := g.2.2 n rfl (by omega) hset
    rw [show ((n : Int)).toNat = n from rfl] at gg
    refine ⟨⟨_, rfl⟩, _, rfl, (n : Int), rfl, by omega, by omega, fun D nD => ?_⟩
    have s1 : ∀ o, Same H (upd H D o) := fun o => same_new nD
    refine lc_range (lo := 0) (n := ((n : Int)).toNat) (fun j H' => H' = upd H D (.lst (((signs j ms).map fun c => txt [c]).map V.str))) rfl ?_ ?_
    · rintro j H' hj rfl
      refine ⟨rfl, ?_⟩
      refine tyes ?_
      refine iteT ?_
      have ej : ((0 : Int) + (j : Int)) = (j : Int) := Int.zero_add _
      have fin : ∀ c : Nat, sgn (mem ms j) = c → ∃ acc, (upd H D (.lst (((signs j ms).map fun c => txt [c]).map V.str))) D = some (HO.lst acc) ∧ acc.length < sizeLine ∧
          upd (upd H D (.lst (((signs j ms).map fun c => txt [c]).map V.str))) D (.lst (acc ++ [V.str (txt [c])])) = upd H D (.lst (((signs (j + 1) ms).map fun c => txt [c]).map V.str)) := fun c hc => by
        refine ⟨_, upd_same, sz_lt (by rw [List.length_map, List.length_map, signs_len]; omega), ?_⟩
        rw [upd_upd, signs_succ, hc, List.map_append, List.map_append]
        rfl
      refine ⟨_, rfl, _, rfl, a, _, rfl, .inl ((s1 _).seq hS), rfl, flat_ints ms, _, rfl, ?_⟩
      show if (if false = true then _ else inV (V.int ((0 : Int) + (j : Int))) (ms.map V.int)) = true then _ else _
      rw [if_neg Bool.false_ne_true, inV_ints, ej]
      cases hc : ms.contains (j : Int) with
      | true =>
        have hc' : mem ms j = true := hc
        refine iteT ?_
        have := fin 41 (by rw [hc']; rfl)
        rw [← txt_close] at this
        exact this
      | false =>
        have hc' : mem ms j = false := hc
        refine iteF ?_
        have := fin 40 (by rw [hc']; rfl)
        rw [← txt_open] at this
        exact this
    · rintro H' rfl
      rw [show ((n : Int)).toNat = n from rfl]
      refine ⟨_, D, (signs n ms).map fun c => txt [c], rfl, rfl, .inl (SqL.of upd_same), ?_, ?_⟩
      · rw [ones_sum, List.length_map, signs_len]
        show n + n * 0 ≤ _
        omega
      · rw [txt_join]
        exact gg _ (s1 _)
/-! #### _law_cell_at -/
def cellI (ns : List Int) (k : Nat) : Int := ns.getD k 0
def spCellAt (K : PySem.W.Frag) : Sp := fun vs H Q _ => ∃ (a : Addr) (ns : List Int) (k : Nat), vs = [.ref a, .int (k : Int)] ∧ SqL K H a (ns.map V.int) ∧ Q (.int (cellI ns k)) H
theorem ok__law_cell_at (A : At K mg "_law_cell_at" s__law_cell_at) (B : Bt mg tM) :
    Def P w K mg base CX0 1 "_law_cell_at" ["script", "k"] (spCellAt K) := by
  obtain ⟨f, fd, F, gm⟩ := A
  refine ⟨⟨f, fd, F.ok sc__law_cell_at (fun vs H Q E h => ?_) (fun cdv A outer s H vs Q E hr h => ?_), gm, F.kp, F.binds fun _ _ _ _ _ _ us hl => match us, hl with | [_, _], _ => rfl⟩⟩
  · obtain ⟨a, ns, k, rfl, _⟩ := h
    rfl
  · obtain ⟨a, ns, k, rfl, hS, q⟩ := h
    refine ⟨_, (pss_cons (ps_if (pt_cmpR op_lt (pv 1) (pe_callB call_len_seq (by rfl) B.len (by decide +kernel) (pa_cons (pv 0) pa_nil)) (nomark _)) (pss_one (ps_ret (pe_ix ix_list (pv 0) (pv 1) (fun _ _ => rfl)))) pss_nil)
    (pss_one (ps_ret pe_int))), ?_⟩
    refine ⟨_, rfl, _, rfl, a, _, rfl, .inl hS, _, _, rfl, rfl, _, rfl, ite2 (fun h1 => ?_) (fun h1 => ?_)⟩
    · have h1 := of_decide_eq_true h1
      rw [List.length_map] at h1
      have hk : k < ns.length := by omega
      have e : ns[k]? = some (cellI ns k) := by
        unfold cellI
        rw [List.getD_eq_getElem?_getD, List.getElem?_eq_getElem hk]
        rfl
      exact ⟨_, rfl, _, rfl, a, _, _, _, rfl, rfl, hS, atI_int rfl e, q⟩
    · have h1 : ¬ _ := fun z => h1 (decide_eq_true z)
      rw [List.length_map] at h1
      have e : cellI ns k = 0 := by
        unfold cellI
        rw [List.getD_eq_getElem?_getD, List.getElem?_eq_none (by omega)]
        rfl
      rw [e] at q
      exact q
/-! #### _law_set_by -/
def spSetBy (K : PySem.W.Frag) : Sp := fun vs H Q _ => ∃ (a : Addr) (ns : List Int) (k n : Nat), vs = [.ref a, .int (k : Int), .int (n : Int)] ∧ n ≤ 60 ∧ SqL K H a (ns.map V.int) ∧
  ∀ H' p ms, Same H H' → H p = none → IsSet n ms → H' p = some (.lst (ms.map V.int)) → Q (.ref p) H'
theorem ok__law_set_by (A : At K mg "_law_set_by" s__law_set_by) (B : Bt mg tM) (D__law_cell_at : Def P w K mg base CX0 1 "_law_cell_at" ["script", "k"] (spCellAt K)) :
    Def P w K mg base CX0 2 "_law_set_by" ["script", "at", "size"] (spSetBy K) := by
  obtain ⟨f, fd, F, gm⟩ := A
  obtain ⟨f__law_cell_at, fd__law_cell_at, G__law_cell_at, g__law_cell_at, k__law_cell_at, b__law_cell_at⟩ := D__law_cell_at.ex
  refine ⟨⟨f, fd, F.ok sc__law_set_by (fun vs H Q E h => ?_) (fun cdv A outer s H vs Q E hr h => ?_), gm, F.kp, F.binds fun _ _ _ _ _ _ us hl => match us, hl with | [_, _, _], _ => rfl⟩⟩
  · obtain ⟨a, ns, k, n, rfl, _⟩ := h
    rfl
  · obtain ⟨a, ns, k, n, rfl, hn, hS, q⟩ := h
    refine ⟨_, (pss_cons (ps_set (i := 3) sc__law_set_by.nd rfl (.inl rfl) (pe_call G__law_cell_at (hr.mono (by decide)) (by rfl) g__law_cell_at k__law_cell_at b__law_cell_at .nil pass0 (pa_cons (pv 0) (pa_cons (pv 1) pa_nil))))
    (pss_cons (ps_set (i := 4) sc__law_set_by.nd rfl (.inl rfl) (pe_call G__law_cell_at (hr.mono (by decide)) (by rfl) g__law_cell_at k__law_cell_at b__law_cell_at .nil pass0 (pa_cons (pv 0) (pa_cons (pe_op op_add (pv 1) pe_int) pa_nil))))
    (pss_cons (ps_set (i := 5) sc__law_set_by.nd rfl (.inl rfl) (pe_lst pa_nil))
    (pss_cons (ps_for PassesOwn.never rfl (pi_range1 (by rfl) B.range (pa_cons (pv 2) pa_nil)) (pg_name (i := 6) sc__law_set_by.nd rfl (.inl rfl)) (pss_cons (ps_if (pt_cmpR op_eq (pe_op op_mod (pv 3) pe_int) pe_int (nomark _)) (pss_one (ps_expr (pe_bm PySem.F.plainAttrs_list PySem.F.slot_list_append PySem.F.type_list_append mt_append (pv 5) (pa_cons (pv 6) pa_nil)))) pss_nil)
    (pss_one (ps_par (i := 3) (j := 4) (by rfl) sc__law_set_by.nd rfl rfl (by decide) rfl rfl (pa_cons (pv 4) (pa_cons (pe_op op_fdivN (pv 3) pe_int) pa_nil)) (by rfl)))))
    (pss_one (ps_ret (pv 5))))))), ?_⟩
    refine ⟨_, rfl, _, rfl, a, ns, k, rfl, hS, _, rfl, _, rfl, _, _, rfl, rfl, a, ns, k + 1, rfl, hS, sz_le (by show 0 ≤ _; omega), fun p np => ?_⟩
    refine ⟨_, rfl, (n : Int), rfl, by omega, by omega, ?_⟩
    refine for_range (lo := 0) (n := ((n : Int)).toNat) (fun i σ H' => Same H H' ∧ ∃ (ms : List Int) (u v : Int) (y : Option V), σ = [some (.ref a), some (.int (k : Int)), some (.int (n : Int)), some (.int u), some (.int v), some (.ref p), y] ∧ IsSet i ms ∧ H' p = some (.lst (ms.map V.int)))
      ⟨same_new np, [], _, _, none, rfl, isSet_nil 0, upd_same⟩ ?_ ?_
    · rintro i σ H1 hi ⟨s1, ms, u, v, y, rfl, hset, hp⟩
      have hl := hset.len
      refine ⟨_, rfl, _, _, rfl, rfl, (by show (0 : Int) < 2; decide), rfl, _, rfl, ite2 (fun _ => ?_) (fun _ => ?_)⟩
      · refine ⟨_, rfl, .inl ⟨rfl, _, SqL.of hp⟩, _, rfl, p, _, _, rfl, rfl, hp, sz_lt (by rw [List.length_map]; omega), ?_⟩
        refine ⟨_, rfl, _, rfl, _, _, rfl, rfl, ⟨by decide, by decide⟩, _, _, rfl, ?_⟩
        refine ⟨same_mut s1 np, ms ++ [(i : Int)], _, _, some (.int ((0 : Int) + (i : Int))), rfl, ⟨?_, ?_, ?_⟩, ?_⟩
        · refine List.pairwise_append.mpr ⟨hset.up, List.pairwise_singleton _ _, fun x hx z hz => ?_⟩
          rw [List.mem_singleton] at hz
          have := hset.hi x hx
          omega
        · intro x hx
          rcases List.mem_append.mp hx with hx | hx
          · exact hset.lo x hx
          · rw [List.mem_singleton] at hx
            omega
        · intro x hx
          rcases List.mem_append.mp hx with hx | hx
          · have := hset.hi x hx
            omega
          · rw [List.mem_singleton] at hx
            omega
        · rw [upd_same, List.map_append, Int.zero_add]
          rfl
      · refine ⟨_, rfl, _, rfl, _, _, rfl, rfl, ⟨by decide, by decide⟩, _, _, rfl, ?_⟩
        exact ⟨s1, ms, _, _, some (.int ((0 : Int) + (i : Int))), rfl, ⟨hset.up, hset.lo, fun x hx => by have := hset.hi x hx; omega⟩, hp⟩
    · rintro σ H1 ⟨s1, ms, u, v, y, rfl, hset, hp⟩
      exact ⟨_, rfl, q H1 p ms s1 np hset hp⟩
/-! #### _law_word_of -/
theorem ok__law_word_of {C_ChainError : Addr} {C_NoMany : Addr} {C_NoSet : Addr} {C_NoNumber : Addr} {C_NoNote : Addr} (A : At K mg "_law_word_of" s__law_word_of) (B : Bt mg tM) (Z_NoMany : XC K mg "NoMany" C_NoMany) (Z_NoSet : XC K mg "NoSet" C_NoSet) (Z_NoNumber : XC K mg "NoNumber" C_NoNumber) (Z_NoNote : XC K mg "NoNote" C_NoNote) :
    DefP P w K mg base 1 "_law_word_of" ["e"] (spWord K C_ChainError C_NoMany C_NoSet C_NoNumber C_NoNote) := by
  obtain ⟨f, fd, F, gm⟩ := A
  refine ⟨⟨f, fd, fnP F sc__law_word_of (fun a c d vs H Q E h => ?_) (fun cdv A outer s H vs Q p c d hr zc fl h => ?_), gm, F.kp, F.binds fun _ _ _ _ _ _ us hl => match us, hl with | [_], _ => rfl⟩⟩
  · obtain ⟨rfl, _⟩ := h
    rfl
  · obtain ⟨rfl, D, b1, b2, b3, b4, z, rfl, rfl, Y, hot, q⟩ := h
    refine ⟨_, (pss_cons (ps_set (i := 1) sc__law_word_of.nd rfl (.inl rfl) (pe_lst (pa_cons (pe_callB (call_isP Y.e (List.mem_singleton.mpr rfl) zc fl) (by rfl) B.isinstance (by decide +kernel) (pa_cons (pv 0) (pa_cons (pe_glob (v := .ref C_NoMany) rfl Z_NoMany.g rfl) pa_nil))) (pa_cons (pe_callB (call_isP Y.e (List.mem_singleton.mpr rfl) zc fl) (by rfl) B.isinstance (by decide +kernel) (pa_cons (pv 0) (pa_cons (pe_glob (v := .ref C_NoSet) rfl Z_NoSet.g rfl) pa_nil))) (pa_cons (pe_callB (call_isP Y.e (List.mem_singleton.mpr rfl) zc fl) (by rfl) B.isinstance (by decide +kernel) (pa_cons (pv 0) (pa_cons (pe_glob (v := .ref C_NoNumber) rfl Z_NoNumber.g rfl) pa_nil))) (pa_cons (pe_callB (call_isP Y.e (List.mem_singleton.mpr rfl) zc fl) (by rfl) B.isinstance (by decide +kernel) (pa_cons (pv 0) (pa_cons (pe_glob (v := .ref C_NoNote) rfl Z_NoNote.g rfl) pa_nil))) pa_nil))))))
    (pss_cons (ps_if (PW.pt (pw_or (pt_cmpR op_ne (pe_bm PySem.F.plainAttrs_list PySem.F.slot_list_count PySem.F.type_list_count (mt_countD (uH hr)) (pv 1) (pa_cons pe_bl pa_nil)) pe_int (nomark _)) (pw_or1 (pt_not (pt_val (pe_callB (call_isP Y.e (List.mem_singleton.mpr rfl) zc fl) (by rfl) B.isinstance (by decide +kernel) (pa_cons (pv 0) (pa_cons (pe_bltn (v := .ty "ValueError") (by rfl) B.ValueError (by decide +kernel) rfl) pa_nil)))))))) (pss_one (ps_ret pe_str)) pss_nil)
    (pss_one (ps_ret (pe_ix ix_list (pe_lst (pa_cons pe_str (pa_cons pe_str (pa_cons pe_str (pa_cons pe_str pa_nil))))) (pe_bm PySem.F.plainAttrs_list PySem.F.slot_list_index PySem.F.type_list_index mt_index (pv 1) (pa_cons pe_bl pa_nil)) (fun _ _ => rfl)))))), ?_⟩
    have k1 := kit_own Y.self Z_NoMany.d Z_NoMany.t Y.s1
    have k2 := kit_own Y.self Z_NoSet.d Z_NoSet.t Y.s2
    have k3 := kit_own Y.self Z_NoNumber.d Z_NoNumber.t Y.s3
    have k4 := kit_own Y.self Z_NoNote.d Z_NoNote.t Y.s4
    have kv := kit_val Y.v
    refine ⟨_, rfl, _, _, b1, rfl, (fun _ => own_val), k1, _, rfl, _, _, b2, rfl, (fun _ => own_val), k2, _, rfl, _, _, b3, rfl, (fun _ => own_val), k3, _, rfl, _, _, b4, rfl, (fun _ => own_val), k4, sz_le (by show 4 ≤ _; omega), fun l nl => ?_⟩
    have s1 : Same H (upd H l (.lst [.bl b1, .bl b2, .bl b3, .bl b4])) := same_new nl
    have hl : (upd H l (.lst [.bl b1, .bl b2, .bl b3, .bl b4])) l = some (.lst [.bl b1, .bl b2, .bl b3, .bl b4]) := upd_same
    generalize upd H l (.lst [.bl b1, .bl b2, .bl b3, .bl b4]) = H1 at *
    rcases hot with ⟨rfl, rfl, rfl, rfl, rfl⟩ | ⟨rfl, rfl, rfl, rfl, rfl⟩ | ⟨rfl, rfl, rfl, rfl, rfl⟩ | ⟨rfl, rfl, rfl, rfl, rfl⟩
    · refine ⟨_, rfl, .inl ⟨rfl, _, SqL.of hl⟩, l, _, .bool true, [.bool true, .bool false, .bool false, .bool false], rfl, rfl, .lst (SqL.of hl) (.cons (.bl _) (.cons (.bl _) (.cons (.bl _) (.cons (.bl _) .nil)))), .bl _, by decide +kernel, by decide +kernel, rfl, _, rfl, ?_⟩
      refine iteF ?_
      refine ⟨_, rfl, _, _, true, rfl, (fun _ => ty_val), kv, true, rfl, iteF ?_⟩
      refine ⟨sz_le (by show 4 ≤ _; omega), fun m nm => ?_⟩
      have s2 := same_new (o := .lst [.str (Str.ofString "many"), .str (Str.ofString "set"), .str (Str.ofString "number"), .str (Str.ofString "note")]) nm
      refine ⟨_, rfl, .inl ⟨rfl, _, SqL.of (s2 _ _ hl)⟩, l, _, _, 0, _, rfl, rfl, SqL.of (s2 _ _ hl), rfl, rfl, rfl, rfl, (fun i y hi => absurd hi (by omega)), m, _, _, _, rfl, rfl, SqL.of upd_same, atI_nat (j := 0) rfl, q _ (s1.trans s2)⟩
    · refine ⟨_, rfl, .inl ⟨rfl, _, SqL.of hl⟩, l, _, .bool true, [.bool false, .bool true, .bool false, .bool false], rfl, rfl, .lst (SqL.of hl) (.cons (.bl _) (.cons (.bl _) (.cons (.bl _) (.cons (.bl _) .nil)))), .bl _, by decide +kernel, by decide +kernel, rfl, _, rfl, ?_⟩
      refine iteF ?_
      refine ⟨_, rfl, _, _, true, rfl, (fun _ => ty_val), kv, true, rfl, iteF ?_⟩
      refine ⟨sz_le (by show 4 ≤ _; omega), fun m nm => ?_⟩
      have s2 := same_new (o := .lst [.str (Str.ofString "many"), .str (Str.ofString "set"), .str (Str.ofString "number"), .str (Str.ofString "note")]) nm
      refine ⟨_, rfl, .inl ⟨rfl, _, SqL.of (s2 _ _ hl)⟩, l, _, _, 1, _, rfl, rfl, SqL.of (s2 _ _ hl), rfl, rfl, rfl, rfl, (fun i y hi hy => ?_), m, _, _, _, rfl, rfl, SqL.of upd_same, atI_nat (j := 1) rfl, q _ (s1.trans s2)⟩
      match i, hi, hy with
      | 0, _, rfl => rfl
    · refine ⟨_, rfl, .inl ⟨rfl, _, SqL.of hl⟩, l, _, .bool true, [.bool false, .bool false, .bool true, .bool false], rfl, rfl, .lst (SqL.of hl) (.cons (.bl _) (.cons (.bl _) (.cons (.bl _) (.cons (.bl _) .nil)))), .bl _, by decide +kernel, by decide +kernel, rfl, _, rfl, ?_⟩
      refine iteF ?_
      refine ⟨_, rfl, _, _, true, rfl, (fun _ => ty_val), kv, true, rfl, iteF ?_⟩
      refine ⟨sz_le (by show 4 ≤ _; omega), fun m nm => ?_⟩
      have s2 := same_new (o := .lst [.str (Str.ofString "many"), .str (Str.ofString "set"), .str (Str.ofString "number"), .str (Str.ofString "note")]) nm
      refine ⟨_, rfl, .inl ⟨rfl, _, SqL.of (s2 _ _ hl)⟩, l, _, _, 2, _, rfl, rfl, SqL.of (s2 _ _ hl), rfl, rfl, rfl, rfl, (fun i y hi hy => ?_), m, _, _, _, rfl, rfl, SqL.of upd_same, atI_nat (j := 2) rfl, q _ (s1.trans s2)⟩
      match i, hi, hy with
      | 0, _, rfl => rfl
      | 1, _, rfl => rfl
    · refine ⟨_, rfl, .inl ⟨rfl, _, SqL.of hl⟩, l, _, .bool true, [.bool false, .bool false, .bool false, .bool true], rfl, rfl, .lst (SqL.of hl) (.cons (.bl _) (.cons (.bl _) (.cons (.bl _) (.cons (.bl _) .nil)))), .bl _, by decide +kernel, by decide +kernel, rfl, _, rfl, ?_⟩
      refine iteF ?_
      refine ⟨_, rfl, _, _, true, rfl, (fun _ => ty_val), kv, true, rfl, iteF ?_⟩
      refine ⟨sz_le (by show 4 ≤ _; omega), fun m nm => ?_⟩
      have s2 := same_new (o := .lst [.str (Str.ofString "many"), .str (Str.ofString "set"), .str (Str.ofString "number"), .str (Str.ofString "note")]) nm
      refine ⟨_, rfl, .inl ⟨rfl, _, SqL.of (s2 _ _ hl)⟩, l, _, _, 3, _, rfl, rfl, SqL.of (s2 _ _ hl), rfl, rfl, rfl, rfl, (fun i y hi hy => ?_), m, _, _, _, rfl, rfl, SqL.of upd_same, atI_nat (j := 3) rfl, q _ (s1.trans s2)⟩
      match i, hi, hy with
      | 0, _, rfl => rfl
      | 1, _, rfl => rfl
      | 2, _, rfl => rfl
/-! #### _law_called -/
def spCalled (CM CS : Addr) : Sp := fun vs H Q E => ∃ (wh m : Int) (a : Addr) (ms : List Int), vs = [.int wh, .int m, .ref a] ∧ H a = some (.lst (ms.map V.int)) ∧ 0 ≤ wh ∧ wh ≤ 6 ∧ Guard CM CS m ms E H (∀ H' v, Same H H' → Q v H')
theorem vi_eq {a b : Int} (h : a = b) : decide (V.int a = V.int b) = true := decide_eq_true (by rw [h])
theorem vi_ne {a b : Int} (h : ¬ a = b) : decide (V.int a = V.int b) = false := decide_eq_false fun z => h (V.int.inj z)
theorem ok__law_called {C_NoMany : Addr} {C_NoSet : Addr} (A : At K mg "_law_called" s__law_called) (B : Bt mg tM) (D_shown : Def P w K mg base (L2.CX P w) 2 "shown" ["many", "members"] (spShown K C_NoMany C_NoSet)) (D_paired : Def P w K mg base (L2.CX P w) 2 "paired" ["many", "members"] (spPaired K C_NoMany C_NoSet)) (D_loose : Def P w K mg base (L2.CX P w) 2 "loose" ["many", "members"] (spLoose K C_NoMany C_NoSet)) (D_above : Def P w K mg base (L2.CX P w) 3 "above" ["many", "members"] (spAbove K C_NoMany C_NoSet)) (D_below : Def P w K mg base (L2.CX P w) 3 "below" ["many", "members"] (spBelow K C_NoMany C_NoSet)) (D_chain : Def P w K mg base (L2.CX P w) 3 "chain" ["many", "members"] (spChain K C_NoMany C_NoSet)) (D_address : Def P w K mg base (L2.CX P w) 4 "address" ["many", "members"] (spAddr K C_NoMany C_NoSet)) :
    Def P w K mg base (L2.CX P w) 5 "_law_called" ["which", "size", "members"] (spCalled C_NoMany C_NoSet) := by
  obtain ⟨f, fd, F, gm⟩ := A
  obtain ⟨f_shown, fd_shown, G_shown, g_shown, k_shown, b_shown⟩ := D_shown.ex
  obtain ⟨f_paired, fd_paired, G_paired, g_paired, k_paired, b_paired⟩ := D_paired.ex
  obtain ⟨f_loose, fd_loose, G_loose, g_loose, k_loose, b_loose⟩ := D_loose.ex
  obtain ⟨f_above, fd_above, G_above, g_above, k_above, b_above⟩ := D_above.ex
  obtain ⟨f_below, fd_below, G_below, g_below, k_below, b_below⟩ := D_below.ex
  obtain ⟨f_chain, fd_chain, G_chain, g_chain, k_chain, b_chain⟩ := D_chain.ex
  obtain ⟨f_address, fd_address, G_address, g_address, k_address, b_address⟩ := D_address.ex
  refine ⟨⟨f, fd, F.okX sc__law_called (fun vs H Q E h => ?_) (fun cdv A outer s H vs Q E hr h => ?_), gm, F.kp, F.binds fun _ _ _ _ _ _ us hl => match us, hl with | [_, _, _], _ => rfl⟩⟩
  · obtain ⟨wh, m, a, ms, rfl, _⟩ := h
    rfl
  · obtain ⟨wh, m, a, ms, rfl, ha, w0, w6, g⟩ := h
    have tk := takes_of (X := cxOf (L2.CX P w) P w K mg base ["which", "size", "members"] "_law_called" (defScope s__law_called) f cdv A outer s H E) (E := E) rfl rfl rfl rfl
    refine ⟨_, (pss_cons (ps_if (pt_cmpR op_eq (pv 0) pe_int (nomark _)) (pss_one (ps_ret (pe_call G_paired (hr.mono (by decide)) (by rfl) g_paired k_paired b_paired .nil (passes_call tk (fun _ _ _ _ h => h)) (pa_cons (pv 1) (pa_cons (pv 2) pa_nil))))) pss_nil)
    (pss_cons (ps_if (pt_cmpR op_eq (pv 0) pe_int (nomark _)) (pss_one (ps_ret (pe_call G_loose (hr.mono (by decide)) (by rfl) g_loose k_loose b_loose .nil (passes_call tk (fun _ _ _ _ h => h)) (pa_cons (pv 1) (pa_cons (pv 2) pa_nil))))) pss_nil)
    (pss_cons (ps_if (pt_cmpR op_eq (pv 0) pe_int (nomark _)) (pss_one (ps_ret (pe_call G_above (hr.mono (by decide)) (by rfl) g_above k_above b_above .nil (passes_call tk (fun _ _ _ _ h => h)) (pa_cons (pv 1) (pa_cons (pv 2) pa_nil))))) pss_nil)
    (pss_cons (ps_if (pt_cmpR op_eq (pv 0) pe_int (nomark _)) (pss_one (ps_ret (pe_call G_below (hr.mono (by decide)) (by rfl) g_below k_below b_below .nil (passes_call tk (fun _ _ _ _ h => h)) (pa_cons (pv 1) (pa_cons (pv 2) pa_nil))))) pss_nil)
    (pss_cons (ps_if (pt_cmpR op_eq (pv 0) pe_int (nomark _)) (pss_one (ps_ret (pe_call G_chain (hr.mono (by decide)) (by rfl) g_chain k_chain b_chain .nil (passes_call tk (fun _ _ _ _ h => h)) (pa_cons (pv 1) (pa_cons (pv 2) pa_nil))))) pss_nil)
    (pss_cons (ps_if (pt_cmpR op_eq (pv 0) pe_int (nomark _)) (pss_one (ps_ret (pe_call G_address (hr.mono (by decide)) (by rfl) g_address k_address b_address .nil (passes_call tk (fun _ _ _ _ h => h)) (pa_cons (pv 1) (pa_cons (pv 2) pa_nil))))) pss_nil)
    (pss_one (ps_ret (pe_call G_shown (hr.mono (by decide)) (by rfl) g_shown k_shown b_shown .nil (passes_call tk (fun _ _ _ _ h => h)) (pa_cons (pv 1) (pa_cons (pv 2) pa_nil))))))))))), ?_⟩
    refine ⟨_, rfl, rfl, _, rfl, ?_⟩
    by_cases e0 : wh = 0
    · rw [vi_eq e0]
      exact iteT ⟨_, rfl, _, rfl, m, a, ms, rfl, SqL.of ha, g.imp fun _ _ _ _ gg H' p ts s _ _ _ => gg _ _ s⟩
    rw [vi_ne e0]
    refine iteF ⟨_, rfl, rfl, _, rfl, ?_⟩
    by_cases e1 : wh = 1
    · rw [vi_eq e1]
      exact iteT ⟨_, rfl, _, rfl, m, a, ms, rfl, SqL.of ha, g.imp fun _ _ _ _ gg H' p al wa L => gg _ _ L.same⟩
    rw [vi_ne e1]
    refine iteF ⟨_, rfl, rfl, _, rfl, ?_⟩
    by_cases e2 : wh = 2
    · rw [vi_eq e2]
      exact iteT ⟨_, rfl, _, rfl, m, a, ms, rfl, ha, g.imp fun _ _ _ _ gg H' v s _ => gg _ _ s⟩
    rw [vi_ne e2]
    refine iteF ⟨_, rfl, rfl, _, rfl, ?_⟩
    by_cases e3 : wh = 3
    · rw [vi_eq e3]
      exact iteT ⟨_, rfl, _, rfl, m, a, ms, rfl, SqL.of ha, g.imp fun _ _ _ _ gg H' v s _ => gg _ _ s⟩
    rw [vi_ne e3]
    refine iteF ⟨_, rfl, rfl, _, rfl, ?_⟩
    by_cases e4 : wh = 4
    · rw [vi_eq e4]
      exact iteT ⟨_, rfl, _, rfl, m, a, ms, rfl, SqL.of ha, g.imp fun _ _ _ _ gg H' p as N => gg _ _ N.same⟩
    rw [vi_ne e4]
    refine iteF ⟨_, rfl, rfl, _, rfl, ?_⟩
    by_cases e5 : wh = 5
    · rw [vi_eq e5]
      exact iteT ⟨_, rfl, _, rfl, m, a, ms, rfl, SqL.of ha, g.imp fun _ _ _ _ gg H' p s _ _ => gg _ _ s⟩
    rw [vi_ne e5]
    exact iteF ⟨_, rfl, _, rfl, m, a, ms, rfl, SqL.of ha, g.imp fun _ _ _ _ gg H' s => gg _ _ s⟩
/-! #### _law_tried -/
abbrev sDone : Str := Str.ofString "done"
abbrev sSet : Str := Str.ofString "set"
abbrev sMany : Str := Str.ofString "many"
def BadM (m : Int) : Prop := m < 0 ∨ 40 < m
def W16s (m : Int) (ms : List Int) (z : Str) : Prop := (BadM m ∧ z = sMany) ∨ (¬ BadM m ∧ setOk m (-1) ms = false ∧ z = sSet) ∨ (∃ n : Nat, m = (n : Int) ∧ n ≤ 40 ∧ IsSet n ms ∧ z = sDone)
def W16f (m : Int) (rows : List (List Int)) (z : Str) : Prop := (BadM m ∧ z = sMany) ∨ (¬ BadM m ∧ famOk m rows = false ∧ z = sSet) ∨ (∃ n : Nat, m = (n : Int) ∧ n ≤ 40 ∧ (∀ r ∈ rows, IsSet n r) ∧ rows.Nodup ∧ z = sDone)
theorem Guard.told {CM CS : Addr} {m : Int} {ms : List Int} {E : XK} {H : Hp} {good : Prop} {z : Str} (h : W16s m ms z) (em : z = sMany → E (.ref CM) none H) (es : z = sSet → E (.ref CS) none H) (g : z = sDone → good) : Guard CM CS m ms E H good := by
  rcases h with ⟨h1, h2⟩ | ⟨h1, h2, h3⟩ | ⟨n, rfl, hn, hs, h3⟩
  · exact ⟨fun _ => em h2, fun z => absurd h1 z, fun n e hn => absurd h1 (by unfold BadM; omega)⟩
  · exact ⟨fun z => absurd z h1, fun _ _ => es h3, fun n e _ hs => by
      subst e
      rw [setOk_set.mpr hs] at h2
      cases h2⟩
  · exact Guard.of hn hs (g h3)
theorem FGuard.told {CM CS : Addr} {m : Int} {rows : List (List Int)} {E : XK} {H : Hp} {good : Prop} {z : Str} (h : W16f m rows z) (em : z = sMany → E (.ref CM) none H) (es : z = sSet → ∀ H', Same H H' → E (.ref CS) none H') (g : z = sDone → good) : FGuard CM CS m rows E H good := by
  rcases h with ⟨h1, h2⟩ | ⟨h1, h2, h3⟩ | ⟨n, rfl, hn, hs, nd, h3⟩
  · exact ⟨fun _ => em h2, fun z => absurd h1 z, fun n e hn => absurd h1 (by unfold BadM; omega)⟩
  · exact ⟨fun z => absurd z h1, fun _ _ => es h3, fun n e _ hs nd => by
      subst e
      rw [famOk_iff.mpr ⟨fun r hr => setOk_set.mpr (hs r hr), nd⟩] at h2
      cases h2⟩
  · exact FGuard.of hn hs nd (g h3)
def spTried : Sp := fun vs H Q _ => ∃ (wh m : Int) (a : Addr) (z : Str), vs = [.int wh, .int m, .ref a] ∧
  ((0 ≤ wh ∧ wh ≤ 6 ∧ ∃ ms : List Int, H a = some (.lst (ms.map V.int)) ∧ W16s m ms z) ∨ ((wh = 7 ∨ wh = 8) ∧ ∃ (as : List Addr) (rows : List (List Int)), H a = some (.lst (as.map V.ref)) ∧ Rows H as rows ∧ rows.length ≤ 8 ∧ W16f m rows z)) ∧ ∀ H', Same H H' → Q (.str z) H'
theorem ok__law_tried {C_NoMany : Addr} {C_NoSet : Addr} {C_ChainError : Addr} {C_NoNumber : Addr} {C_NoNote : Addr} (A : At K mg "_law_tried" s__law_tried) (B : Bt mg tM) (Z_ChainError : XC K mg "ChainError" C_ChainError) (Y_NoMany : XQ K C_NoMany C_ChainError C_NoMany C_NoSet C_NoNumber C_NoNote true false false false) (Y_NoSet : XQ K C_NoSet C_ChainError C_NoMany C_NoSet C_NoNumber C_NoNote false true false false) (D_clash : Def P w K mg base (L2.CX P w) 3 "clash" ["many", "family"] (spClash K C_NoMany C_NoSet)) (D__law_word_of : DefP P w K mg base 1 "_law_word_of" ["e"] (spWord K C_ChainError C_NoMany C_NoSet C_NoNumber C_NoNote)) (D_share : Def P w K mg base (L2.CX P w) 4 "share" ["many", "family"] (spShare K C_NoMany C_NoSet)) (D__law_called : Def P w K mg base (L2.CX P w) 5 "_law_called" ["which", "size", "members"] (spCalled C_NoMany C_NoSet)) :
    Def P w K mg base CX0 6 "_law_tried" ["which", "size", "given"] spTried := by
  obtain ⟨f, fd, F, gm⟩ := A
  obtain ⟨f_clash, fd_clash, G_clash, g_clash, k_clash, b_clash⟩ := D_clash.ex
  obtain ⟨f__law_word_of, fd__law_word_of, G__law_word_of, g__law_word_of, k__law_word_of, b__law_word_of⟩ := D__law_word_of.ex
  obtain ⟨f_share, fd_share, G_share, g_share, k_share, b_share⟩ := D_share.ex
  obtain ⟨f__law_called, fd__law_called, G__law_called, g__law_called, k__law_called, b__law_called⟩ := D__law_called.ex
  refine ⟨⟨f, fd, F.ok sc__law_tried (fun vs H Q E h => ?_) (fun cdv A outer s H vs Q E hr h => ?_), gm, F.kp, F.binds fun _ _ _ _ _ _ us hl => match us, hl with | [_, _, _], _ => rfl⟩⟩
  · obtain ⟨wh, m, a, z, rfl, _⟩ := h
    rfl
  · obtain ⟨wh, m, a, z, rfl, hw, q⟩ := h
    refine ⟨_, (pss_cons (ps_try_as (i := 3) rfl rfl sc__law_tried.nd rfl rfl ⟨rfl, by decide, .inl Z_ChainError.g⟩ takes0 (fun W pn xe tk _ => (pss_one (ps_if (pt_cmpR op_eq (pv 0) pe_int (nomark _)) (pss_one (ps_expr (pe_callS G_clash (hr.mono (by decide)) (by rfl) g_clash k_clash b_clash (fun σ => passAt tk σ) (pa_cons (pv 1) (pa_cons (pv 2) pa_nil))))) (pss_one (ps_if (pt_cmpR op_eq (pv 0) pe_int (nomark _)) (pss_one (ps_expr (pe_callS G_share (hr.mono (by decide)) (by rfl) g_share k_share b_share (fun σ => passAt tk σ) (pa_cons (pv 1) (pa_cons (pv 2) pa_nil))))) (pss_one (ps_expr (pe_callS G__law_called (hr.mono (by decide)) (by rfl) g__law_called k__law_called b__law_called (fun σ => passAt tk σ) (pa_cons (pv 0) (pa_cons (pv 1) (pa_cons (pv 2) pa_nil))))))))))) (fun a oe cls d pn hz hf => (pss_one (ps_ret (pe_callP G__law_word_of (roomP hr (by decide)) (List.mem_cons_self ..) hz hf (by rfl) g__law_word_of k__law_word_of b__law_word_of (pa_cons (pv 3) pa_nil))))))
    (pss_one (ps_ret pe_str))), ?_⟩
    have eM := PySem.W.exm_ref Z_ChainError.b Z_ChainError.d Z_ChainError.t Y_NoMany.up
    have eS := PySem.W.exm_ref Z_ChainError.b Z_ChainError.d Z_ChainError.t Y_NoSet.up
    refine ⟨_, rfl, rfl, _, rfl, ?_⟩
    rcases hw with ⟨w0, w6, ms, ha, W⟩ | ⟨hw, as, rows, ha, hr0, hl, W⟩
    · rw [vi_ne (show ¬ wh = 7 by omega)]
      refine iteF ⟨_, rfl, rfl, _, rfl, ?_⟩
      rw [vi_ne (show ¬ wh = 8 by omega)]
      refine iteF ⟨_, rfl, _, rfl, _, rfl, wh, m, a, ms, rfl, ha, w0, w6, Guard.told W (fun e => ⟨true, eM, (fun _ b nb => ?_), (fun z => nomatch z)⟩) (fun e => ⟨true, eS, (fun _ b nb => ?_), (fun z => nomatch z)⟩) fun e H' v s => ?_⟩
      · exact ⟨_, rfl, rfl, C_NoMany, _, _, _, _, _, rfl, rfl, Y_NoMany, .inl ⟨rfl, rfl, rfl, rfl, rfl⟩, fun H2 s2 => by rw [e] at q; exact q _ s2⟩
      · exact ⟨_, rfl, rfl, C_NoSet, _, _, _, _, _, rfl, rfl, Y_NoSet, .inr (.inl ⟨rfl, rfl, rfl, rfl, rfl⟩), fun H2 s2 => by rw [e] at q; exact q _ s2⟩
      · rw [e] at q
        exact q _ s
    · by_cases e7 : wh = 7
      · rw [vi_eq e7]
        refine iteT ⟨_, rfl, _, rfl, m, a, as, rows, rfl, SqL.of ha, hr0, by omega, FGuard.told W (fun e => ⟨true, eM, (fun _ b nb => ?_), (fun z => nomatch z)⟩) (fun e H1 s1 => ⟨true, eS, (fun _ b nb => ?_), (fun z => nomatch z)⟩) fun e => ⟨fun _ H' s => ?_, fun H' p k j s _ _ _ => ?_⟩⟩
        · exact ⟨_, rfl, rfl, C_NoMany, _, _, _, _, _, rfl, rfl, Y_NoMany, .inl ⟨rfl, rfl, rfl, rfl, rfl⟩, fun H2 s2 => by rw [e] at q; exact q _ s2⟩
        · exact ⟨_, rfl, rfl, C_NoSet, _, _, _, _, _, rfl, rfl, Y_NoSet, .inr (.inl ⟨rfl, rfl, rfl, rfl, rfl⟩), fun H2 s2 => by rw [e] at q; exact q _ (s1.trans s2)⟩
        · rw [e] at q
          exact q _ s
        · rw [e] at q
          exact q _ s
      rw [vi_ne e7]
      refine iteF ⟨_, rfl, rfl, _, rfl, ?_⟩
      rw [vi_eq (show wh = 8 by omega)]
      refine iteT ⟨_, rfl, _, rfl, m, a, as, rows, rfl, SqL.of ha, hr0, hl, FGuard.told W (fun e => ⟨true, eM, (fun _ b nb => ?_), (fun z => nomatch z)⟩) (fun e H1 s1 => ⟨true, eS, (fun _ b nb => ?_), (fun z => nomatch z)⟩) fun e H' p x u s _ _ _ => ?_⟩
      · exact ⟨_, rfl, rfl, C_NoMany, _, _, _, _, _, rfl, rfl, Y_NoMany, .inl ⟨rfl, rfl, rfl, rfl, rfl⟩, fun H2 s2 => by rw [e] at q; exact q _ s2⟩
      · exact ⟨_, rfl, rfl, C_NoSet, _, _, _, _, _, rfl, rfl, Y_NoSet, .inr (.inl ⟨rfl, rfl, rfl, rfl, rfl⟩), fun H2 s2 => by rw [e] at q; exact q _ (s1.trans s2)⟩
      · rw [e] at q
        exact q _ s
/-! #### _law_spoilt -/
theorem cut_drop (xs : List V) (k : Nat) (h : k ≤ xs.length) : cutV xs (some (k : Int)) none = xs.drop k := by
  unfold cutV
  rw [HT.sIx_none, HT.sIx_nat, Nat.min_eq_left h, List.take_of_length_le (by rw [List.length_drop]; omega)]
theorem no_up {P R : List Int} {x y : Int} (h : y ≤ x) (n : Int) : setOk n (-1) (P ++ x :: y :: R) = false := by
  cases e : setOk n (-1) (P ++ x :: y :: R) with
  | false => rfl
  | true =>
    have u := (setOk_iff.mp e).1
    have := (List.pairwise_cons.mp (List.pairwise_append.mp u).2.1).1 y (List.mem_cons_self ..)
    omega
theorem no_lo {l : List Int} {x : Int} (hx : x ∈ l) (h : x ≤ -1) (n : Int) : setOk n (-1) l = false := by
  cases e : setOk n (-1) l with
  | false => rfl
  | true =>
    have := (setOk_iff.mp e).2.1 x hx
    omega
theorem no_hi {l : List Int} {x n : Int} (hx : x ∈ l) (h : n ≤ x) : setOk n (-1) l = false := by
  cases e : setOk n (-1) l with
  | false => rfl
  | true =>
    have := (setOk_iff.mp e).2.2 x hx
    omega
def spSpoilt : Sp := fun vs H Q _ => ∃ (a : Addr) (ms : List Int) (w c : Int) (n : Nat), vs = [.ref a, .int w, .int (n : Int), .int c] ∧ n ≤ 40 ∧ IsSet n ms ∧ H a = some (.lst (ms.map V.int)) ∧
  ∀ H' p gs, Same H H' → H' p = some (.lst (gs.map V.int)) → gs.length ≤ 60 → setOk n (-1) gs = false → Q (.ref p) H'
theorem ok__law_spoilt (A : At K mg "_law_spoilt" s__law_spoilt) (B : Bt mg tM) :
    Def P w K mg base CX0 1 "_law_spoilt" ["members", "way", "size", "cell"] spSpoilt := by
  obtain ⟨f, fd, F, gm⟩ := A
  refine ⟨⟨f, fd, F.ok sc__law_spoilt (fun vs H Q E h => ?_) (fun cdv A outer s H vs Q E hr h => ?_), gm, F.kp, F.binds fun _ _ _ _ _ _ us hl => match us, hl with | [_, _, _, _], _ => rfl⟩⟩
  · obtain ⟨a, ms, w, c, n, rfl, _⟩ := h
    rfl
  · obtain ⟨a, ms, w, c, n, rfl, hn, hset, ha, q⟩ := h
    refine ⟨_, (pss_cons (ps_set (i := 4) sc__law_spoilt.nd rfl (.inl rfl) (pe_op op_mod (pv 3) (pe_op op_add (pe_callB call_len_seq (by rfl) B.len (by decide +kernel) (pa_cons (pv 0) pa_nil)) pe_int)))
    (pss_cons (ps_set (i := 5) sc__law_spoilt.nd rfl (.inl rfl) (pe_op op_mod (pe_op op_fdiv (pv 3) pe_int) (pe_op op_pow pe_int pe_int)))
    (Evl.pss_cut (ps_if (PW.pt (pw_and (pt_cmpR op_eq (pv 1) pe_int (nomark _)) (pw_and1 (pt_cmpR (op_neD hr.units) (pv 0) (pe_lst pa_nil) (nomark _))))) (pss_cons (ps_set (i := 4) sc__law_spoilt.nd rfl (.inl rfl) (pe_op op_mod (pv 3) (pe_callB call_len_seq (by rfl) B.len (by decide +kernel) (pa_cons (pv 0) pa_nil))))
    (pss_one (ps_ret (pe_op op_cat (pe_slice sl_list (pv 0) po_none (po_some (pe_op op_add (pv 4) pe_int))) (pe_slice sl_list (pv 0) (po_some (pv 4)) po_none))))) pss_nil)
    (Evl.pss_cut (ps_if (PW.pt (pw_and (pt_cmpR op_eq (pv 1) pe_int (nomark _)) (pw_and1 (pt_cmpR op_gt (pe_callB call_len_seq (by rfl) B.len (by decide +kernel) (pa_cons (pv 0) pa_nil)) pe_int (nomark _))))) (pss_cons (ps_set (i := 4) sc__law_spoilt.nd rfl (.inl rfl) (pe_op op_mod (pv 3) (pe_op op_sub (pe_callB call_len_seq (by rfl) B.len (by decide +kernel) (pa_cons (pv 0) pa_nil)) pe_int)))
    (pss_one (ps_ret (pe_op op_cat (pe_op op_cat (pe_slice sl_list (pv 0) po_none (po_some (pv 4))) (pe_lst (pa_cons (pe_ix ix_list (pv 0) (pe_op op_add (pv 4) pe_int) (fun _ _ => rfl)) (pa_cons (pe_ix ix_list (pv 0) (pv 4) (fun _ _ => rfl)) pa_nil)))) (pe_slice sl_list (pv 0) (po_some (pe_op op_add (pv 4) pe_int)) po_none))))) pss_nil)
    (Evl.pss_cut (ps_if (pt_cmpR op_eq (pv 1) pe_int (nomark _)) (pss_one (ps_ret (pe_op op_cat (pe_lst (pa_cons (pe_op op_sub (pe_un un_neg pe_int) (pv 5)) pa_nil)) (pv 0)))) pss_nil)
    (pss_one (ps_ret (pe_op op_cat (pv 0) (pe_lst (pa_cons (pe_op op_add (pv 2) (pv 5)) pa_nil)))))))))), ?_⟩
    have hl := hset.len
    refine ⟨_, rfl, _, rfl, a, _, rfl, .inl (SqL.of ha), _, _, rfl, rfl, _, _, rfl, rfl, (by show (0 : Int) < ((ms.map V.int).length : Int) + 1; omega), ?_⟩
    refine ⟨_, rfl, _, _, rfl, rfl, ⟨by decide, by decide⟩, _, _, rfl, rfl, ⟨by decide, by decide, by decide⟩, _, _, rfl, rfl, (by show (0 : Int) < 10 ^ 30; decide), ?_⟩
    show gName 5 (V.int (c / 64 % 10 ^ (30 : Int).toNat)) _ _ _
    have f0 : 0 ≤ c / 64 % 10 ^ (30 : Int).toNat := Int.emod_nonneg _ (by decide)
    generalize c / 64 % 10 ^ (30 : Int).toNat = far at *
    refine ⟨fun σ' H' => Same H H' ∧ σ' = [some (.ref a), some (.int w), some (.int (n : Int)), some (.int c), some (.int (c % (((ms.map V.int).length : Int) + 1))), some (.int far)], ?_, ?_⟩
    · refine ⟨_, rfl, rfl, _, rfl, ?_⟩
      by_cases w0 : w = 0
      · rw [vi_eq w0]
        refine iteT ⟨_, rfl, sz_le (by show 0 ≤ _; omega), fun l nl => ?_⟩
        have s1 : Same H (upd H l (.lst [])) := same_new nl
        have ha1 := s1 _ _ ha
        refine ⟨dI ms, dI [], dp_I (SqL.of ha1), dp_I (ns := []) (SqL.of upd_same), dI_shaped _, dI_shaped _, _, rfl, ?_⟩
        rw [dI_eqv]
        by_cases z : ms = []
        · rw [decide_eq_true z]
          exact iteF ⟨s1, rfl⟩
        rw [decide_eq_false z]
        refine iteT ?_
        have pos : 0 < ms.length := List.length_pos_iff.mpr z
        generalize upd H l (.lst []) = H1 at *
        have pos' : (0 : Int) < ((ms.map V.int).length : Int) := by rw [List.length_map]; omega
        refine ⟨_, rfl, _, rfl, a, _, rfl, .inl (SqL.of ha1), _, _, rfl, rfl, pos', ?_⟩
        show gName 4 (V.int (c % ((ms.map V.int).length : Int))) _ _ _
        obtain ⟨k, hk, ek⟩ : ∃ k : Nat, k < ms.length ∧ c % ((ms.map V.int).length : Int) = (k : Int) := by
          have h1 := Int.emod_nonneg c (b := ((ms.map V.int).length : Int)) (by omega)
          have h2 := Int.emod_lt_of_pos c pos'
          rw [List.length_map] at *
          exact ⟨(c % (ms.length : Int)).toNat, by omega, by omega⟩
        rw [ek]
        have gk : ms[k]? = some ms[k] := List.getElem?_eq_getElem hk
        generalize ms[k] = x at *
        refine ⟨_, rfl, _, rfl, _, _, rfl, rfl, ((k + 1 : Nat) : Int), rfl, a, _, rfl, SqL.of ha1, fun d nd => ?_⟩
        rw [cut_take, ← List.map_take]
        have s2 : Same H1 (upd H1 d (.lst ((ms.take (k + 1)).map V.int))) := same_new nd
        have hd : (upd H1 d (.lst ((ms.take (k + 1)).map V.int))) d = some (.lst ((ms.take (k + 1)).map V.int)) := upd_same
        have ha2 := s2 _ _ ha1
        generalize upd H1 d (.lst ((ms.take (k + 1)).map V.int)) = H2 at *
        refine ⟨_, rfl, _, rfl, (k : Int), rfl, a, _, rfl, SqL.of ha2, fun e ne => ?_⟩
        rw [cut_drop _ _ (by rw [List.length_map]; omega), ← List.map_drop]
        have s3 : Same H2 (upd H2 e (.lst ((ms.drop k).map V.int))) := same_new ne
        refine ⟨d, e, _, _, rfl, rfl, s3 _ _ hd, upd_same, sz_le (by rw [List.length_map, List.length_map, List.length_take, List.length_drop]; omega), fun p np => ?_⟩
        rw [← List.map_append]
        refine q _ p (ms.take (k + 1) ++ ms.drop k) (((s1.trans s2).trans s3).trans (same_new np)) upd_same (by rw [List.length_append, List.length_take, List.length_drop]; omega) ?_
        have ed : ms.drop k = x :: ms.drop (k + 1) := List.drop_eq_getElem?_toList_append.trans (by rw [gk]; rfl)
        rw [take_snoc gk, ed, List.append_assoc]
        exact no_up (Int.le_refl x) n
      · rw [vi_ne w0]
        exact iteF (iteF ⟨Same.refl _, rfl⟩)
    rintro σ' H1 ⟨s1, rfl⟩
    have ha1 := s1 _ _ ha
    refine ⟨fun σ' H' => H1 = H' ∧ σ' = [some (.ref a), some (.int w), some (.int (n : Int)), some (.int c), some (.int (c % (((ms.map V.int).length : Int) + 1))), some (.int far)], ?_, ?_⟩
    · refine ⟨_, rfl, rfl, _, rfl, ?_⟩
      by_cases w1 : w = 1
      · rw [vi_eq w1]
        refine iteT ⟨_, rfl, a, _, rfl, .inl (SqL.of ha1), _, _, rfl, rfl, _, rfl, ?_⟩
        rw [List.length_map]
        by_cases z : (1 : Int) < (ms.length : Int)
        · rw [decide_eq_true z]
          refine iteT ?_
          have pos' : (0 : Int) < ((ms.map V.int).length : Int) - 1 := by rw [List.length_map]; omega
          refine ⟨_, rfl, _, rfl, a, _, rfl, .inl (SqL.of ha1), _, _, rfl, rfl, _, _, rfl, rfl, pos', ?_⟩
          show gName 4 (V.int (c % (((ms.map V.int).length : Int) - 1))) _ _ _
          obtain ⟨k, hk, ek⟩ : ∃ k : Nat, k + 1 < ms.length ∧ c % (((ms.map V.int).length : Int) - 1) = (k : Int) := by
            have h1 := Int.emod_nonneg c (b := ((ms.map V.int).length : Int) - 1) (by omega)
            have h2 := Int.emod_lt_of_pos c pos'
            rw [List.length_map] at *
            exact ⟨(c % ((ms.length : Int) - 1)).toNat, by omega, by omega⟩
          rw [ek]
          have gk : ms[k]? = some ms[k] := List.getElem?_eq_getElem (by omega)
          have gk1 : ms[k + 1]? = some ms[k + 1] := List.getElem?_eq_getElem hk
          have lt : ms[k] < ms[k + 1] := List.pairwise_iff_getElem.mp hset.up k (k + 1) (by omega) hk (by omega)
          generalize ms[k] = x at *
          generalize ms[k + 1] = y at *
          have ax : atI (ms.map V.int) (k : Int) = some (.int x) := atI_int rfl gk
          have ay : atI (ms.map V.int) ((k : Int) + 1) = some (.int y) := atI_int (i := k + 1) (by omega) gk1
          refine ⟨_, rfl, _, rfl, (k : Int), rfl, a, _, rfl, SqL.of ha1, fun d nd => ?_⟩
          rw [cut_take, ← List.map_take]
          have s2 : Same H1 (upd H1 d (.lst ((ms.take k).map V.int))) := same_new nd
          have hd : (upd H1 d (.lst ((ms.take k).map V.int))) d = some (.lst ((ms.take k).map V.int)) := upd_same
          have ha2 := s2 _ _ ha1
          generalize upd H1 d (.lst ((ms.take k).map V.int)) = H2 at *
          refine ⟨_, rfl, _, rfl, _, _, rfl, rfl, a, _, _, _, rfl, rfl, SqL.of ha2, ay, _, rfl, _, rfl, a, _, _, _, rfl, rfl, SqL.of ha2, ax, sz_le (by show 2 ≤ _; omega), fun e ne => ?_⟩
          have s3 : Same H2 (upd H2 e (.lst [.int y, .int x])) := same_new ne
          refine ⟨d, e, _, _, rfl, rfl, s3 _ _ hd, upd_same, sz_le (by rw [List.length_map, List.length_take]; show _ + 2 ≤ _; omega), fun p np => ?_⟩
          have s4 := s3.trans (same_new (o := .lst ((ms.take k).map V.int ++ [.int y, .int x])) np)
          have hp : (upd (upd H2 e (.lst [.int y, .int x])) p (.lst ((ms.take k).map V.int ++ [.int y, .int x]))) p = some (.lst ((ms.take k ++ [y, x]).map V.int)) := by
            rw [upd_same, List.map_append]
            rfl
          have ha4 := s4 _ _ ha2
          generalize upd (upd H2 e (.lst [.int y, .int x])) p (.lst ((ms.take k).map V.int ++ [.int y, .int x])) = H4 at *
          refine ⟨_, rfl, _, rfl, _, _, rfl, rfl, ((k + 2 : Nat) : Int), rfl, a, _, rfl, SqL.of ha4, fun g ng => ?_⟩
          rw [cut_drop _ _ (by rw [List.length_map]; omega), ← List.map_drop]
          have s5 : Same H4 (upd H4 g (.lst ((ms.drop (k + 2)).map V.int))) := same_new ng
          refine ⟨p, g, _, _, rfl, rfl, s5 _ _ hp, upd_same, sz_le (by rw [List.length_map, List.length_map, List.length_append, List.length_take, List.length_drop]; show _ + 2 + _ ≤ _; omega), fun r nr => ?_⟩
          rw [← List.map_append]
          refine q _ r ((ms.take k ++ [y, x]) ++ ms.drop (k + 2)) ((((s1.trans s2).trans s4).trans s5).trans (same_new nr)) upd_same (by rw [List.length_append, List.length_append, List.length_take, List.length_drop]; show _ + 2 + _ ≤ _; omega) ?_
          rw [List.append_assoc]
          exact no_up (Int.le_of_lt lt) n
        · rw [decide_eq_false z]
          exact iteF ⟨rfl, rfl⟩
      · rw [vi_ne w1]
        exact iteF (iteF ⟨rfl, rfl⟩)
    rintro σ' H' ⟨rfl, rfl⟩
    refine ⟨fun σ' H' => H1 = H' ∧ σ' = [some (.ref a), some (.int w), some (.int (n : Int)), some (.int c), some (.int (c % (((ms.map V.int).length : Int) + 1))), some (.int far)], ?_, ?_⟩
    · refine ⟨_, rfl, rfl, _, rfl, ?_⟩
      by_cases w2 : w = 2
      · rw [vi_eq w2]
        refine iteT ⟨1, rfl, _, rfl, _, _, rfl, rfl, sz_le (by show 1 ≤ _; omega), fun d nd => ?_⟩
        have s2 : Same H1 (upd H1 d (.lst [.int (-1 - far)])) := same_new nd
        refine ⟨_, rfl, d, a, _, _, rfl, rfl, upd_same, s2 _ _ ha1, sz_le (by rw [List.length_map]; show 1 + _ ≤ _; omega), fun p np => ?_⟩
        refine q _ p ((-1 - far) :: ms) ((s1.trans s2).trans (same_new np)) ?_ (by rw [List.length_cons]; omega) (no_lo (List.mem_cons_self ..) (by omega) n)
        rw [upd_same]
        rfl
      · rw [vi_ne w2]
        exact iteF ⟨rfl, rfl⟩
    rintro σ' H' ⟨rfl, rfl⟩
    refine ⟨_, rfl, _, rfl, _, rfl, _, _, rfl, rfl, sz_le (by show 1 ≤ _; omega), fun d nd => ?_⟩
    have s2 : Same H1 (upd H1 d (.lst [.int ((n : Int) + far)])) := same_new nd
    refine ⟨a, d, _, _, rfl, rfl, s2 _ _ ha1, upd_same, sz_le (by rw [List.length_map]; show _ + 1 ≤ _; omega), fun p np => ?_⟩
    refine q _ p (ms ++ [(n : Int) + far]) ((s1.trans s2).trans (same_new np)) ?_ (by rw [List.length_append, List.length_singleton]; omega) (no_hi (List.mem_append_right _ (List.mem_singleton.mpr rfl)) (by omega))
    rw [upd_same, List.map_append]
    rfl
/-! #### the law -/
def spLaw (K : PySem.W.Frag) : Sp := fun vs H Q _ => ∃ (a : Addr) (ns : List Int), vs = [.ref a] ∧ SqL K H a (ns.map V.int) ∧ ns.length ≤ 63 ∧ ∀ H', Q (.bl true) H'
theorem pick4 (a0 a1 a2 a3 : Int) (w : Nat) (h : w < 4) : ∃ N, atI [V.int a0, V.int a1, V.int a2, V.int a3] (w : Int) = some (V.int N) ∧ (N = a0 ∨ N = a1 ∨ N = a2 ∨ N = a3) := by
  match w, h with
  | 0, _ => exact ⟨a0, atI_nat rfl, by omega⟩
  | 1, _ => exact ⟨a1, atI_nat rfl, by omega⟩
  | 2, _ => exact ⟨a2, atI_nat rfl, by omega⟩
  | 3, _ => exact ⟨a3, atI_nat rfl, by omega⟩
/-- what is due of one set -/
def G16 (n : Nat) (gs : List Int) (z : Str) : Prop := (setOk n (-1) gs = false ∧ z = sSet) ∨ (IsSet n gs ∧ z = sDone)
/-- what is due of the family -/
def F16 (n : Nat) (rows : List (List Int)) (tw : Bool) (z : Str) : Prop := (tw = true ∧ z = sDone ∧ famOk n rows = false) ∨ (tw = false ∧ z = sSet ∧ famOk n rows = false) ∨ (tw = false ∧ z = sDone ∧ (∀ r ∈ rows, IsSet n r) ∧ rows.Nodup)
theorem fam_bad {n : Int} {rows : List (List Int)} {r : List Int} (h : r ∈ rows) (hb : setOk n (-1) r = false) : famOk n rows = false := by
  cases e : famOk n rows with
  | false => rfl
  | true =>
    have := (famOk_iff.mp e).1 r h
    rw [hb] at this
    cases this
theorem fam_twice {n : Int} {ms : List Int} {X : List (List Int)} : famOk n ((ms :: X) ++ [ms]) = false := by
  cases e : famOk n ((ms :: X) ++ [ms]) with
  | false => rfl
  | true =>
    have nd := (famOk_iff.mp e).2
    exact absurd rfl ((List.nodup_append.mp nd).2.2 ms (List.mem_cons_self ..) ms (List.mem_singleton.mpr rfl))
theorem done_set : ¬ sDone = sSet := by decide +kernel
theorem done_many : ¬ sMany = sDone := by decide +kernel
theorem set_done : ¬ sSet = sDone := by decide +kernel
theorem ok_law {f : Addr} {fd : FuncData} (F : Fun K "law" "law" s_law f fd) (B : Bt mg tM) (D__law_set_by : Def P w K mg base CX0 2 "_law_set_by" ["script", "at", "size"] (spSetBy K)) (D__law_cell_at : Def P w K mg base CX0 1 "_law_cell_at" ["script", "k"] (spCellAt K)) (D__law_spoilt : Def P w K mg base CX0 1 "_law_spoilt" ["members", "way", "size", "cell"] spSpoilt) (D__law_tried : Def P w K mg base CX0 6 "_law_tried" ["which", "size", "given"] spTried) :
    FnOk P w K mg base CX0 7 f fd ["script"] (spLaw K) := by
  obtain ⟨f__law_set_by, fd__law_set_by, G__law_set_by, g__law_set_by, k__law_set_by, b__law_set_by⟩ := D__law_set_by.ex
  obtain ⟨f__law_cell_at, fd__law_cell_at, G__law_cell_at, g__law_cell_at, k__law_cell_at, b__law_cell_at⟩ := D__law_cell_at.ex
  obtain ⟨f__law_spoilt, fd__law_spoilt, G__law_spoilt, g__law_spoilt, k__law_spoilt, b__law_spoilt⟩ := D__law_spoilt.ex
  obtain ⟨f__law_tried, fd__law_tried, G__law_tried, g__law_tried, k__law_tried, b__law_tried⟩ := D__law_tried.ex
  refine F.ok sc_law (fun vs H Q E h => ?_) (fun cdv A outer s H vs Q E hr h => ?_)
  · obtain ⟨a, ns, rfl, _⟩ := h
    rfl
  · obtain ⟨a, ns, rfl, hS, hlen, q⟩ := h
    refine ⟨_, (pss_cons (ps_set (i := 1) sc_law.nd rfl (.inl rfl) (pe_op op_mod (pe_call G__law_cell_at (hr.mono (by decide)) (by rfl) g__law_cell_at k__law_cell_at b__law_cell_at .nil pass0 (pa_cons (pv 0) (pa_cons pe_int pa_nil))) pe_int))
    (pss_cons (ps_set (i := 2) sc_law.nd rfl (.inr rfl) (pe_call G__law_set_by (hr.mono (by decide)) (by rfl) g__law_set_by k__law_set_by b__law_set_by .nil pass0 (pa_cons (pv 0) (pa_cons pe_int (pa_cons (pv 1) pa_nil)))))
    (pss_cons (ps_set (i := 3) sc_law.nd rfl (.inl rfl) (pe_op op_mod (pe_call G__law_cell_at (hr.mono (by decide)) (by rfl) g__law_cell_at k__law_cell_at b__law_cell_at .nil pass0 (pa_cons (pv 0) (pa_cons pe_int pa_nil))) pe_int))
    (pss_cons (ps_set (i := 4) sc_law.nd rfl (.inl rfl) (pv 2))
    (pss_cons (ps_set (i := 5) sc_law.nd rfl (.inl rfl) pe_str)
    (Evl.pss_cut (ps_if (pt_cmpR op_lt (pv 3) pe_int (nomark _)) (pss_cons (ps_set (i := 4) sc_law.nd rfl (.inl rfl) (pe_call G__law_spoilt (hr.mono (by decide)) (by rfl) g__law_spoilt k__law_spoilt b__law_spoilt .nil pass0 (pa_cons (pv 2) (pa_cons (pv 3) (pa_cons (pv 1) (pa_cons (pe_call G__law_cell_at (hr.mono (by decide)) (by rfl) g__law_cell_at k__law_cell_at b__law_cell_at .nil pass0 (pa_cons (pv 0) (pa_cons pe_int pa_nil))) pa_nil))))))
    (pss_one (ps_set (i := 5) sc_law.nd rfl (.inl rfl) pe_str))) pss_nil)
    (pss_cons (ps_set (i := 6) sc_law.nd rfl (.inl rfl) (pe_lst (pa_cons (pe_callTy call_list_of (by rfl) B.list (by decide +kernel) (pa_cons (pv 4) pa_nil)) pa_nil)))
    (Evl.pss_cut (ps_set (i := 7) sc_law.nd rfl (.inl rfl) (pe_and (pe_cmpR op_gt (pv 3) pe_int (nomark _)) (pe_one (pe_cmpR op_eq (pe_op op_mod (pe_call G__law_cell_at (hr.mono (by decide)) (by rfl) g__law_cell_at k__law_cell_at b__law_cell_at .nil pass0 (pa_cons (pv 0) (pa_cons pe_int pa_nil))) pe_int) pe_int (nomark _)))))
    (Evl.pss_cut (ps_if (pt_val (pv 7)) (pss_one (ps_set (i := 6) sc_law.nd rfl (.inl rfl) (pe_op op_cat (pe_op op_cat (pe_lst (pa_cons (pe_callTy call_list_of (by rfl) B.list (by decide +kernel) (pa_cons (pv 2) pa_nil)) pa_nil)) (pe_slice sl_list (pe_lc (own := [("other", 12)]) (g := gName 12) (by rfl) sc_law.nd (pi_list (pe_lst (pa_cons (pe_lst pa_nil) (pa_cons (pe_lst (pa_cons pe_int pa_nil)) pa_nil)))) (blkOk_by (N := ["script", "size", "members", "way", "given", "due", "family", "twice", "told", "far", "which", "row", "other"]) (sc := defScope s_law) (by decide +kernel)) (fun _ _ _ _ _ => (pg_name (i := 12) sc_law.nd rfl (.inl rfl))) (fun _ _ _ _ _ => (pts_one (pt_cmpR (op_neDK K hr.units) (pv 12) (pv 2) (nomark _)))) (fun _ _ _ _ _ => (pv 12))) po_none (po_some (pe_callB (call_min2 rfl) (by rfl) B.min (by decide +kernel) (pa_cons pe_int (pa_cons (pv 1) pa_nil)))))) (pe_lst (pa_cons (pe_callTy call_list_of (by rfl) B.list (by decide +kernel) (pa_cons (pv 2) pa_nil)) pa_nil))))) (pss_one (ps_if (PW.pt (pw_and (pt_cmpR (op_neD hr.units) (pv 2) (pe_lst pa_nil) (nomark _)) (pw_and1 (pt_cmpR (op_neD hr.units) (pv 4) (pe_lst pa_nil) (nomark _))))) (pss_one (ps_expr (pe_bm PySem.F.plainAttrs_list PySem.F.slot_list_insert PySem.F.type_list_insert mt_insert (pv 6) (pa_cons (pe_op op_mod (pe_call G__law_cell_at (hr.mono (by decide)) (by rfl) g__law_cell_at k__law_cell_at b__law_cell_at .nil pass0 (pa_cons (pv 0) (pa_cons pe_int pa_nil))) pe_int) (pa_cons (pe_lst pa_nil) pa_nil))))) pss_nil)))
    (pss_cons (ps_set (i := 8) sc_law.nd rfl (.inl rfl) (pv 1))
    (pss_cons (ps_set (i := 9) sc_law.nd rfl (.inl rfl) (pe_op op_mod (pe_call G__law_cell_at (hr.mono (by decide)) (by rfl) g__law_cell_at k__law_cell_at b__law_cell_at .nil pass0 (pa_cons (pv 0) (pa_cons pe_int pa_nil))) (pe_op op_pow pe_int pe_int)))
    (Evl.pss_cut (ps_if (pt_cmpR op_eq (pe_op op_mod (pe_call G__law_cell_at (hr.mono (by decide)) (by rfl) g__law_cell_at k__law_cell_at b__law_cell_at .nil pass0 (pa_cons (pv 0) (pa_cons pe_int pa_nil))) pe_int) pe_int (nomark _)) (pss_cons (ps_set (i := 8) sc_law.nd rfl (.inl rfl) (pe_ix ix_list (pe_lst (pa_cons (pe_un un_neg pe_int) (pa_cons (pe_op op_sub (pe_un un_neg pe_int) (pv 9)) (pa_cons pe_int (pa_cons (pe_op op_add pe_int (pv 9)) pa_nil))))) (pe_op op_mod (pe_op op_fdiv (pe_call G__law_cell_at (hr.mono (by decide)) (by rfl) g__law_cell_at k__law_cell_at b__law_cell_at .nil pass0 (pa_cons (pv 0) (pa_cons pe_int pa_nil))) pe_int) pe_int) (fun _ _ => rfl)))
    (pss_one (ps_set (i := 5) sc_law.nd rfl (.inl rfl) pe_str))) pss_nil)
    (pss_cons (ps_for PassesOwn.never rfl (pi_range1 (by rfl) B.range (pa_cons pe_int pa_nil)) (pg_name (i := 10) sc_law.nd rfl (.inl rfl)) (pss_one (ps_if (pt_cmpR op_ne (pe_call G__law_tried (hr.mono (by decide)) (by rfl) g__law_tried k__law_tried b__law_tried .nil pass0 (pa_cons (pv 10) (pa_cons (pv 8) (pa_cons (pe_callTy call_list_of (by rfl) B.list (by decide +kernel) (pa_cons (pv 4) pa_nil)) pa_nil)))) (pv 5) (nomark _)) (pss_one (ps_ret pe_bl)) pss_nil)))
    (Evl.pss_cut (ps_if (PW.pt (pw_and (pt_val (pv 7)) (pw_and1 (pt_cmpR op_eq (pv 5) pe_str (nomark _))))) (pss_one (ps_set (i := 5) sc_law.nd rfl (.inl rfl) pe_str)) pss_nil)
    (pss_one (ps_ret (pe_and (pe_cmpR op_eq (pe_call G__law_tried (hr.mono (by decide)) (by rfl) g__law_tried k__law_tried b__law_tried .nil pass0 (pa_cons pe_int (pa_cons (pv 8) (pa_cons (pv 6) pa_nil)))) (pv 5) (nomark _)) (pe_one (pe_cmpR op_eq (pe_call G__law_tried (hr.mono (by decide)) (by rfl) g__law_tried k__law_tried b__law_tried .nil pass0 (pa_cons pe_int (pa_cons (pv 8) (pa_cons (pe_lc (own := [("row", 11)]) (g := gName 11) (by rfl) sc_law.nd (pi_list (pv 6)) (blkOk_by (N := ["script", "size", "members", "way", "given", "due", "family", "twice", "told", "far", "which", "row", "other"]) (sc := defScope s_law) (by decide +kernel)) (fun _ _ _ _ _ => (pg_name (i := 11) sc_law.nd rfl (.inl rfl))) (fun _ _ _ _ _ => pts_nil) (fun _ _ _ _ _ => (pe_callTy (call_list_ofK K) (by rfl) B.list (by decide +kernel) (pa_cons (pv 11) pa_nil)))) pa_nil)))) (pv 5) (nomark _)))))))))))))))))))), ?_⟩
    refine ⟨_, rfl, a, ns, 0, rfl, hS, _, _, rfl, rfl, (by show (0 : Int) < 41; decide), ?_⟩
    obtain ⟨n, hn, e⟩ : ∃ n : Nat, n ≤ 40 ∧ cellI ns 0 % 41 = (n : Int) := ⟨(cellI ns 0 % 41).toNat, by omega, by omega⟩
    show gName 1 (V.int (cellI ns 0 % 41)) _ _ _
    rw [e]
    refine ⟨_, rfl, _, rfl, a, ns, 1, n, rfl, by omega, hS, fun H1 m ms s1 nm hset hm => ?_⟩
    have hl := hset.len
    have hS1 := s1.seq hS
    refine ⟨_, rfl, a, ns, 3, rfl, hS1, _, _, rfl, rfl, (by show (0 : Int) < 8; decide), ?_⟩
    obtain ⟨w, hw, ew⟩ : ∃ w : Nat, w < 8 ∧ cellI ns 3 % 8 = (w : Int) := ⟨(cellI ns 3 % 8).toNat, by omega, by omega⟩
    show gName 3 (V.int (cellI ns 3 % 8)) _ _ _
    rw [ew]
    refine ⟨_, rfl, ?_⟩
    -- given, due
    refine ⟨fun σ' H' => Same H1 H' ∧ ∃ gp gs z, σ' = [some (.ref a), some (.int (n : Int)), some (.ref m), some (.int (w : Int)), some (.ref gp), some (.str z), none, none, none, none, none, none, none] ∧ H' gp = some (.lst (gs.map V.int)) ∧ gs.length ≤ 60 ∧ G16 n gs z ∧ (4 ≤ w → gs = ms ∧ z = sDone), ?_, ?_⟩
    · refine ⟨_, rfl, _, _, rfl, rfl, _, rfl, ?_⟩
      by_cases z : (w : Int) < 4
      · rw [decide_eq_true z]
        refine iteT ⟨_, rfl, _, rfl, _, rfl, _, rfl, a, ns, 4, rfl, hS1, m, ms, (w : Int), _, n, rfl, hn, hset, hm, fun H2 p gs s2 hp hg bad => ?_⟩
        exact ⟨s2, p, gs, _, rfl, hp, hg, .inl ⟨bad, rfl⟩, fun y => by omega⟩
      · rw [decide_eq_false z]
        exact iteF ⟨Same.refl _, m, ms, _, rfl, hm, by omega, .inr ⟨hset, rfl⟩, fun _ => ⟨rfl, rfl⟩⟩
    rintro σ' H2 ⟨s2, gp, gs, z, rfl, hg, glen, hG, g4⟩
    have hm2 := s2 _ _ hm
    -- family = [list(given)]
    refine ⟨_, rfl, gp, _, rfl, .inl (SqL.of hg), fun l nl => ?_⟩
    have s3 : Same H2 (upd H2 l (.lst (gs.map V.int))) := same_new nl
    have hl3 : (upd H2 l (.lst (gs.map V.int))) l = some (.lst (gs.map V.int)) := upd_same
    have hg3 := s3 _ _ hg
    have hm3 := s3 _ _ hm2
    generalize upd H2 l (.lst (gs.map V.int)) = H3 at *
    refine ⟨sz_le (by show 1 ≤ _; omega), fun F nF => ?_⟩
    have s4 : Same H3 (upd H3 F (.lst [.ref l])) := same_new nF
    have hF : (upd H3 F (.lst [.ref l])) F = some (.lst (([l] : List Addr).map V.ref)) := upd_same
    have hg4 := s4 _ _ hg3
    have hm4 := s4 _ _ hm3
    have hl4 := s4 _ _ hl3
    have s14 := (s2.trans s3).trans s4
    have nF1 : H2 F = none := s3.free nF
    generalize upd H3 F (.lst [.ref l]) = H4 at *
    have hS4 := s14.seq hS1
    -- twice
    refine ⟨fun σ' H' => H4 = H' ∧ ∃ tw : Bool, (tw = true → 4 ≤ w) ∧ σ' = [some (.ref a), some (.int (n : Int)), some (.ref m), some (.int (w : Int)), some (.ref gp), some (.str z), some (.ref F), some (.bl tw), none, none, none, none, none], ?_, ?_⟩
    · refine ⟨_, rfl, _, _, rfl, rfl, _, rfl, ?_⟩
      by_cases y : (3 : Int) < (w : Int)
      · rw [decide_eq_true y]
        refine iteT ⟨_, rfl, a, ns, 5, rfl, hS4, _, _, rfl, rfl, (by show (0 : Int) < 4; decide), rfl, ?_⟩
        exact ⟨rfl, _, fun _ => by omega, rfl⟩
      · rw [decide_eq_false y]
        exact iteF ⟨rfl, false, (fun z => nomatch z), rfl⟩
    rintro σ' H' ⟨rfl, tw, htw, rfl⟩
    -- the family
    refine ⟨fun σ' H' => Same H H' ∧ ∃ (F : Addr) (fs : List Addr) (rows : List (List Int)), σ' = [some (.ref a), some (.int (n : Int)), some (.ref m), some (.int (w : Int)), some (.ref gp), some (.str z), some (.ref F), some (.bl tw), none, none, none, none, none] ∧
      H' gp = some (.lst (gs.map V.int)) ∧ H' F = some (.lst (fs.map V.ref)) ∧ Rows H' fs rows ∧ rows.length ≤ 8 ∧ F16 n rows tw z, ?_, ?_⟩
    · refine ⟨_, rfl, tw, rfl, ?_⟩
      cases tw with
      | true =>
        obtain ⟨e1, e2⟩ := g4 (htw rfl)
        refine iteT ?_
        refine ⟨_, rfl, m, _, rfl, .inl (SqL.of hm4), fun l1 nl1 => ?_⟩
        have s5 : Same H4 (upd H4 l1 (.lst (ms.map V.int))) := same_new nl1
        have h1 : (upd H4 l1 (.lst (ms.map V.int))) l1 = some (.lst (ms.map V.int)) := upd_same
        generalize upd H4 l1 (.lst (ms.map V.int)) = H5 at *
        refine ⟨sz_le (by show 1 ≤ _; omega), fun A nA => ?_⟩
        have s6 : Same H5 (upd H5 A (.lst [.ref l1])) := same_new nA
        have hA : (upd H5 A (.lst [.ref l1])) A = some (.lst (([l1] : List Addr).map V.ref)) := upd_same
        have h16 := s6 _ _ h1
        generalize upd H5 A (.lst [.ref l1]) = H6 at *
        refine ⟨sz_le (by show 0 ≤ _; omega), fun e0 ne0 => ?_⟩
        have s7 : Same H6 (upd H6 e0 (.lst [])) := same_new ne0
        have he0 : (upd H6 e0 (.lst [])) e0 = some (.lst (([] : List Int).map V.int)) := upd_same
        generalize upd H6 e0 (.lst []) = H7 at *
        refine ⟨sz_le (by show 1 ≤ _; omega), fun e1' ne1 => ?_⟩
        have s8 : Same H7 (upd H7 e1' (.lst [.int 0])) := same_new ne1
        have he1 : (upd H7 e1' (.lst [.int 0])) e1' = some (.lst (([0] : List Int).map V.int)) := upd_same
        have he08 := s8 _ _ he0
        generalize upd H7 e1' (.lst [.int 0]) = H8 at *
        refine ⟨sz_le (by show 2 ≤ _; omega), fun o no => ?_⟩
        have s9 : Same H8 (upd H8 o (.lst [.ref e0, .ref e1'])) := same_new no
        have ho : (upd H8 o (.lst [.ref e0, .ref e1'])) o = some (.lst (([e0, e1'] : List Addr).map V.ref)) := upd_same
        have hO : Rows (upd H8 o (.lst [.ref e0, .ref e1'])) [e0, e1'] [[], [0]] := .cons (s9 _ _ he08) (.cons (s9 _ _ he1) .nil)
        have s69 := (s7.trans s8).trans s9
        have s49 := (s5.trans s6).trans s69
        generalize upd H8 o (.lst [.ref e0, .ref e1']) = H9 at *
        have hm9 := s49 _ _ hm4
        refine ⟨o, rfl, ⟨_, SqL.of ho⟩, fun D nD => ?_⟩
        have oD : o ≠ D := ne_of_none ho nD
        have mD : m ≠ D := ne_of_none hm9 nD
        refine lc_list (K := K) (a := o) (xs := ([e0, e1'] : List Addr).map V.ref) (fun i H' => ∃ (fs : List Addr) (X : List (List Int)), H' = upd H9 D (.lst (fs.map V.ref)) ∧ Rows H9 fs X ∧ X.length ≤ i) ⟨[], [], rfl, .nil, Nat.le_refl _⟩ (fun i H' _ ⟨_, _, e, _⟩ => by rw [e]; exact SqL.of (by rw [upd_ne oD]; exact ho)) ?_ ?_
        · rintro i x H' hi ⟨fs, X, rfl, hX, lX⟩
          have il : i < ([[], [0]] : List (List Int)).length := by
            have := (List.getElem?_eq_some_iff.mp hi).1
            rw [List.length_map, hO.len] at this
            exact this
          have gi : ([[], [0]] : List (List Int))[i]? = some ([[], [0]] : List (List Int))[i] := List.getElem?_eq_getElem il
          generalize ([[], [0]] : List (List Int))[i] = r at *
          obtain ⟨b, eb, hb⟩ := hO.get gi
          have ex : x = .ref b := by
            rw [List.getElem?_map, eb] at hi
            exact (Option.some.inj hi).symm
          subst ex
          have bD : b ≠ D := ne_of_none hb nD
          refine ⟨rfl, ?_⟩
          refine ⟨_, rfl, _, rfl, dI r, dI ms, dp_I (SqL.of (by rw [upd_ne bD]; exact hb)), dp_I (SqL.of (by rw [upd_ne mD]; exact hm9)), dI_shaped _, dI_shaped _, _, rfl, ?_⟩
          rw [dI_eqv]
          have lfs := hX.len
          cases decide (r = ms) with
          | true => exact iteF ⟨fs, X, rfl, hX, by omega⟩
          | false =>
            have il2 : i < 2 := il
            refine iteT ⟨_, rfl, _, upd_same, sz_lt (by rw [List.length_map]; omega), fs ++ [b], X ++ [r], ?_, Rows.snoc hX hb, by rw [List.length_append, List.length_singleton]; omega⟩
            rw [upd_upd, List.map_append]
            rfl
        rintro H' ⟨fs, X, rfl, hX, lX⟩
        have lX2 : X.length ≤ 2 := lX
        have sA : Same H9 (upd H9 D (.lst (fs.map V.ref))) := same_new nD
        have hD : (upd H9 D (.lst (fs.map V.ref))) D = some (.lst (fs.map V.ref)) := upd_same
        have hX' := hX.same sA
        have s6A := s69.trans sA
        have s4A := s49.trans sA
        generalize upd H9 D (.lst (fs.map V.ref)) = HA at *
        obtain ⟨k, hk, ek⟩ : ∃ k : Nat, k ≤ 1 ∧ (if (n : Int) < 1 then (n : Int) else 1) = (k : Int) := by
          by_cases y : (n : Int) < 1
          · exact ⟨n, by omega, by rw [if_pos y]⟩
          · exact ⟨1, by omega, by rw [if_neg y]; rfl⟩
        refine ⟨_, rfl, 1, (n : Int), rfl, (k : Int), by rw [ek], D, _, rfl, SqL.of hD, fun c nc => ?_⟩
        rw [cut_take, ← List.map_take]
        have sB : Same HA (upd HA c (.lst ((fs.take k).map V.ref))) := same_new nc
        have hc : (upd HA c (.lst ((fs.take k).map V.ref))) c = some (.lst ((fs.take k).map V.ref)) := upd_same
        have hXB := (hX'.take k).same sB
        have hAB := sB _ _ (s6A _ _ hA)
        have h1B := sB _ _ (s6A _ _ h16)
        have s4B := s4A.trans sB
        generalize upd HA c (.lst ((fs.take k).map V.ref)) = HB at *
        have lfs := hX.len
        refine ⟨A, c, _, _, rfl, rfl, hAB, hc, sz_le (by rw [List.length_map, List.length_map, List.length_take]; show 1 + _ ≤ _; omega), fun B1 nB1 => ?_⟩
        rw [← List.map_append]
        have sC : Same HB (upd HB B1 (.lst (([l1] ++ fs.take k).map V.ref))) := same_new nB1
        have hB1 : (upd HB B1 (.lst (([l1] ++ fs.take k).map V.ref))) B1 = some (.lst (([l1] ++ fs.take k).map V.ref)) := upd_same
        have hXC := hXB.same sC
        have h1C := sC _ _ h1B
        have s4C := s4B.trans sC
        generalize upd HB B1 (.lst (([l1] ++ fs.take k).map V.ref)) = HC at *
        refine ⟨_, rfl, m, _, rfl, .inl (SqL.of (s4C _ _ hm4)), fun l2 nl2 => ?_⟩
        have sD : Same HC (upd HC l2 (.lst (ms.map V.int))) := same_new nl2
        have h2 : (upd HC l2 (.lst (ms.map V.int))) l2 = some (.lst (ms.map V.int)) := upd_same
        have hXD := hXC.same sD
        have h1D := sD _ _ h1C
        have hB1D := sD _ _ hB1
        have s4D := s4C.trans sD
        generalize upd HC l2 (.lst (ms.map V.int)) = HD at *
        refine ⟨sz_le (by show 1 ≤ _; omega), fun A2 nA2 => ?_⟩
        have sE : Same HD (upd HD A2 (.lst (([l2] : List Addr).map V.ref))) := same_new nA2
        have hA2 : (upd HD A2 (.lst (([l2] : List Addr).map V.ref))) A2 = some (.lst (([l2] : List Addr).map V.ref)) := upd_same
        have hXE := hXD.same sE
        have h1E := sE _ _ h1D
        have h2E := sE _ _ h2
        have hB1E := sE _ _ hB1D
        have s4E := s4D.trans sE
        generalize hHE : upd HD A2 (.lst (([l2] : List Addr).map V.ref)) = HE at *
        have hHE' : upd HD A2 (.lst [.ref l2]) = HE := hHE
        rw [hHE']
        refine ⟨B1, A2, _, _, rfl, rfl, hB1E, hA2, sz_le (by rw [List.length_map, List.length_map, List.length_append, List.length_take]; show 1 + _ + 1 ≤ _; omega), fun Fp nFp => ?_⟩
        rw [← List.map_append]
        have sF : Same HE (upd HE Fp (.lst ((([l1] ++ fs.take k) ++ [l2]).map V.ref))) := same_new nFp
        have s4F := s4E.trans sF
        refine ⟨(s1.trans s14).trans s4F, Fp, ([l1] ++ fs.take k) ++ [l2], (ms :: X.take k) ++ [ms], rfl, s4F _ _ hg4, upd_same, ?_, by rw [List.length_append, List.length_cons, List.length_take, List.length_singleton]; omega, .inl ⟨rfl, e2, fam_twice⟩⟩
        exact Rows.snoc (.cons (sF _ _ h1E) (hXE.same sF)) (sF _ _ h2E)
      | false =>
        refine iteF ?_
        have one : ∀ H', Same H4 H' → F16 n [gs] false z := fun _ _ => by
          rcases hG with ⟨b1, b2⟩ | ⟨b1, b2⟩
          · exact .inr (.inl ⟨rfl, b2, fam_bad (List.mem_singleton.mpr rfl) b1⟩)
          · exact .inr (.inr ⟨rfl, b2, fun r hr => by rw [List.mem_singleton.mp hr]; exact b1, by simp⟩)
        have keep : ∀ H', Same H4 H' → Same H H' ∧ ∃ (F' : Addr) (fs : List Addr) (rows : List (List Int)), ([some (V.ref a), some (V.int (n : Int)), some (V.ref m), some (V.int (w : Int)), some (V.ref gp), some (V.str z), some (V.ref F), some (V.bl false), none, none, none, none, none] : L2.St) = [some (.ref a), some (.int (n : Int)), some (.ref m), some (.int (w : Int)), some (.ref gp), some (.str z), some (.ref F'), some (.bl false), none, none, none, none, none] ∧
            H' gp = some (.lst (gs.map V.int)) ∧ H' F' = some (.lst (fs.map V.ref)) ∧ Rows H' fs rows ∧ rows.length ≤ 8 ∧ F16 n rows false z := fun H' s' =>
          ⟨(s1.trans s14).trans s', F, [l], [gs], rfl, s' _ _ hg4, s' _ _ hF, .cons (s' _ _ hl4) .nil, by simp, one H' s'⟩
        refine ⟨_, rfl, sz_le (by show 0 ≤ _; omega), fun k1 nk1 => ?_⟩
        have s5 : Same H4 (upd H4 k1 (.lst [])) := same_new nk1
        refine ⟨dI ms, dI [], dp_I (SqL.of (s5 _ _ hm4)), dp_I (ns := []) (SqL.of upd_same), dI_shaped _, dI_shaped _, _, rfl, ?_⟩
        rw [dI_eqv]
        by_cases me : ms = []
        · rw [decide_eq_true me]
          exact iteF (iteF (keep _ s5))
        rw [decide_eq_false me]
        generalize upd H4 k1 (.lst []) = H5 at *
        refine iteT ⟨_, rfl, sz_le (by show 0 ≤ _; omega), fun k2 nk2 => ?_⟩
        have s6 := s5.trans (same_new (o := .lst []) nk2)
        refine ⟨dI gs, dI [], dp_I (SqL.of (s6 _ _ hg4)), dp_I (ns := []) (SqL.of upd_same), dI_shaped _, dI_shaped _, _, rfl, ?_⟩
        rw [dI_eqv]
        by_cases ge : gs = []
        · rw [decide_eq_true ge]
          exact iteF (keep _ s6)
        rw [decide_eq_false ge]
        refine iteT ?_
        generalize upd H5 k2 (.lst []) = H6 at *
        have hF6 := s6 _ _ hF
        refine ⟨_, rfl, .inl ⟨rfl, _, SqL.of hF6⟩, _, rfl, a, ns, 5, rfl, s6.seq hS4, _, _, rfl, rfl, (by show (0 : Int) < 2; decide), sz_le (by show 0 ≤ _; omega), fun k3 nk3 => ?_⟩
        have s7 := s6.trans (same_new (o := .lst []) nk3)
        have hk3 : (upd H6 k3 (.lst [])) k3 = some (.lst (([] : List Int).map V.int)) := upd_same
        have nk4 : H4 k3 = none := s6.free nk3
        generalize upd H6 k3 (.lst []) = H7 at *
        have kF : k3 ≠ F := (ne_of_none hF nk4).symm
        have lF : l ≠ F := ne_of_none hl3 nF
        have gF : gp ≠ F := ne_of_none hg3 nF
        obtain ⟨j, hj, ej⟩ : ∃ j : Nat, j < 2 ∧ cellI ns 5 % 2 = (j : Int) := ⟨(cellI ns 5 % 2).toNat, by omega, by omega⟩
        have hF7 := s7 _ _ hF
        refine ⟨F, _, _, _, rfl, rfl, hF7, sz_lt (by show 1 < _; decide), by omega, by omega, ?_⟩
        show Same H _ ∧ _
        have sF : Same H2 (upd H7 F (.lst ((([l] : List Addr).map V.ref).take (cellI ns 5 % 2).toNat ++ [V.ref k3] ++ (([l] : List Addr).map V.ref).drop (cellI ns 5 % 2).toNat))) := same_mut ((s3.trans s4).trans s7) nF1
        have both : ∀ rows : List (List Int), (∀ r, r ∈ rows ↔ r = [] ∨ r = gs) → rows.Nodup → F16 n rows false z := fun rows hr nd => by
          rcases hG with ⟨b1, b2⟩ | ⟨b1, b2⟩
          · exact .inr (.inl ⟨rfl, b2, fam_bad ((hr gs).mpr (.inr rfl)) b1⟩)
          · refine .inr (.inr ⟨rfl, b2, fun r hr' => ?_, nd⟩)
            rcases (hr r).mp hr' with e | e
            · rw [e]; exact isSet_nil n
            · rw [e]; exact b1
        have e0 : (cellI ns 5 % 2).toNat = j := by omega
        rw [e0] at sF ⊢
        have hk7 : (upd H7 F (.lst ((([l] : List Addr).map V.ref).take j ++ [V.ref k3] ++ (([l] : List Addr).map V.ref).drop j))) k3 = some (.lst (([] : List Int).map V.int)) := by rw [upd_ne kF]; exact hk3
        have hl7 : (upd H7 F (.lst ((([l] : List Addr).map V.ref).take j ++ [V.ref k3] ++ (([l] : List Addr).map V.ref).drop j))) l = some (.lst (gs.map V.int)) := by rw [upd_ne lF]; exact s7 _ _ hl4
        have hg7 : (upd H7 F (.lst ((([l] : List Addr).map V.ref).take j ++ [V.ref k3] ++ (([l] : List Addr).map V.ref).drop j))) gp = some (.lst (gs.map V.int)) := by rw [upd_ne gF]; exact s7 _ _ hg4
        have ge' : ¬ [] = gs := fun z => ge z.symm
        match j, hj with
        | 0, _ =>
          exact ⟨(s1.trans s2).trans sF, F, [k3, l], [[], gs], rfl, hg7, upd_same, .cons hk7 (.cons hl7 .nil), by simp, both _ (fun r => by simp) (by simpa using ge')⟩
        | 1, _ =>
          exact ⟨(s1.trans s2).trans sF, F, [l, k3], [gs, []], rfl, hg7, upd_same, .cons hl7 (.cons hk7 .nil), by simp, both _ (fun r => by simp [or_comm]) (by simpa using ge)⟩
    clear hF hl4 hm4 hg4 hS4 s14 s4 nF1 nF hl3 hg3 hm3 s3 nl
    rintro σ' H5 ⟨s5, F, fs, rows, rfl, hg5, hF5, hR5, lR, hFam⟩
    have hS5 := s5.seq hS
    -- told, far
    refine ⟨_, rfl, ?_⟩
    refine ⟨_, rfl, a, ns, 7, rfl, hS5, _, _, rfl, rfl, ⟨by decide, by decide, by decide⟩, _, _, rfl, rfl, (by show (0 : Int) < 10 ^ 30; decide), ?_⟩
    show gName 9 (V.int (cellI ns 7 % 10 ^ (30 : Int).toNat)) _ _ _
    have f0 : 0 ≤ cellI ns 7 % 10 ^ (30 : Int).toNat := Int.emod_nonneg _ (by decide)
    generalize cellI ns 7 % 10 ^ (30 : Int).toNat = far at *
    refine ⟨fun σ' H' => Same H5 H' ∧ ∃ (t : Int) (z' : Str), σ' = [some (.ref a), some (.int (n : Int)), some (.ref m), some (.int (w : Int)), some (.ref gp), some (.str z'), some (.ref F), some (.bl tw), some (.int t), some (.int far), none, none, none] ∧ ((t = n ∧ z' = z) ∨ (BadM t ∧ z' = sMany)), ?_, ?_⟩
    · refine ⟨_, rfl, a, ns, 6, rfl, hS5, _, _, rfl, rfl, (by show (0 : Int) < 3; decide), rfl, _, rfl, ite2 (fun _ => ?_) (fun _ => ?_)⟩
      · obtain ⟨k, hk, ek⟩ : ∃ k : Nat, k < 4 ∧ cellI ns 6 / 3 % 4 = (k : Int) := ⟨(cellI ns 6 / 3 % 4).toNat, by omega, by omega⟩
        obtain ⟨t, atM, hM⟩ := pick4 (-1) (-1 - far) 41 (41 + far) k hk
        have mbad : BadM t := by unfold BadM; omega
        refine ⟨1, rfl, 1, rfl, _, rfl, _, _, rfl, rfl, _, rfl, _, _, rfl, rfl, sz_le (by show 4 ≤ _; omega), fun l3 nl3 => ?_⟩
        have s7 := same_new (o := .lst [.int (-1), .int (-1 - far), .int 41, .int (41 + far)]) nl3
        refine ⟨_, rfl, a, ns, 6, rfl, s7.seq hS5, _, _, rfl, rfl, ⟨by decide, by decide⟩, _, _, rfl, rfl, (by show (0 : Int) < 4; decide), l3, _, _, V.int t, rfl, rfl, SqL.of upd_same, ?_, ?_⟩
        · show atI _ (cellI ns 6 / 3 % 4) = _
          rw [ek]
          exact atM
        exact ⟨s7, t, _, rfl, .inr ⟨mbad, rfl⟩⟩
      · exact ⟨Same.refl _, n, z, rfl, .inl ⟨rfl, rfl⟩⟩
    rintro σ' H6 ⟨s6, t, z', rfl, ht⟩
    have nbad : ¬ BadM (n : Int) := by unfold BadM; omega
    have Ws : W16s t gs z' := by
      rcases ht with ⟨rfl, rfl⟩ | ⟨h1, rfl⟩
      · rcases hG with ⟨b1, b2⟩ | ⟨b1, b2⟩
        · exact .inr (.inl ⟨nbad, b1, b2⟩)
        · exact .inr (.inr ⟨n, rfl, hn, b1, b2⟩)
      · exact .inl ⟨h1, rfl⟩
    -- the seven
    refine ⟨7, rfl, by decide, by decide, ?_⟩
    refine for_range (lo := 0) (n := (7 : Int).toNat) (fun i σ H' => Same H6 H' ∧ ∃ y, σ = [some (.ref a), some (.int (n : Int)), some (.ref m), some (.int (w : Int)), some (.ref gp), some (.str z'), some (.ref F), some (.bl tw), some (.int t), some (.int far), y, none, none]) ⟨Same.refl _, none, rfl⟩ ?_ ?_
    · rintro i σ H7 hi ⟨s7, y, rfl⟩
      have hi' : i < 7 := hi
      refine ⟨_, rfl, _, rfl, _, rfl, gp, _, rfl, .inl (SqL.of (s7 _ _ (s6 _ _ hg5))), fun l nl => ?_⟩
      have s8 : Same H7 (upd H7 l (.lst (gs.map V.int))) := same_new nl
      refine ⟨(0 : Int) + (i : Int), t, l, z', rfl, .inl ⟨by omega, by omega, gs, upd_same, Ws⟩, fun H8 s9 => ?_⟩
      refine ⟨_, rfl, rfl, _, rfl, ?_⟩
      rw [decide_eq_true rfl]
      exact iteF ⟨(s7.trans s8).trans s9, _, rfl⟩
    rintro σ H7 ⟨s7, y, rfl⟩
    have s57 := s6.trans s7
    -- twice and due == 'done'
    refine ⟨fun σ' H' => H7 = H' ∧ ∃ z'', σ' = [some (.ref a), some (.int (n : Int)), some (.ref m), some (.int (w : Int)), some (.ref gp), some (.str z''), some (.ref F), some (.bl tw), some (.int t), some (.int far), y, none, none] ∧ W16f t rows z'', ?_, ?_⟩
    · refine ⟨_, rfl, tw, rfl, ?_⟩
      cases tw with
      | true =>
        have hz : z = sDone ∧ famOk n rows = false := by
          rcases hFam with ⟨_, b1, b2⟩ | ⟨b, _⟩ | ⟨b, _⟩
          · exact ⟨b1, b2⟩
          · cases b
          · cases b
        refine iteT ⟨_, rfl, rfl, _, rfl, ?_⟩
        rcases ht with ⟨rfl, rfl⟩ | ⟨h1, rfl⟩
        · rw [decide_eq_true (show V.str z' = V.str (Str.ofString "done") by rw [hz.1])]
          exact iteT ⟨rfl, _, rfl, .inr (.inl ⟨nbad, hz.2, rfl⟩)⟩
        · rw [decide_eq_false (show ¬ V.str sMany = V.str (Str.ofString "done") from fun z => done_many (V.str.inj z))]
          exact iteF ⟨rfl, _, rfl, .inl ⟨h1, rfl⟩⟩
      | false =>
        refine iteF (iteF ⟨rfl, z', rfl, ?_⟩)
        rcases ht with ⟨rfl, rfl⟩ | ⟨h1, rfl⟩
        · rcases hFam with ⟨b, _⟩ | ⟨_, b1, b2⟩ | ⟨_, b1, b2, b3⟩
          · cases b
          · exact .inr (.inl ⟨nbad, b2, b1⟩)
          · exact .inr (.inr ⟨n, rfl, hn, b2, b3, b1⟩)
        · exact .inl ⟨h1, rfl⟩
    rintro σ' H' ⟨rfl, z'', rfl, Wf⟩
    have hF7 := s57 _ _ hF5
    have hR7 := hR5.same s57
    -- clash, share
    refine ⟨_, rfl, _, rfl, 7, t, F, z'', rfl, .inr ⟨.inl rfl, fs, rows, hF7, hR7, lR, Wf⟩, fun H8 s8 => ?_⟩
    refine ⟨_, rfl, rfl, _, rfl, ?_⟩
    rw [decide_eq_true rfl]
    refine iteT ?_
    have hF8 := s8 _ _ hF7
    have hR8 := hR7.same s8
    refine ⟨_, rfl, _, rfl, F, rfl, ⟨_, SqL.of hF8⟩, fun D nD => ?_⟩
    refine lc_list (K := K) (a := F) (xs := fs.map V.ref) (fun i H' => Same H8 H' ∧ ∃ ks, H' D = some (.lst (ks.map V.ref)) ∧ Rows H' ks (rows.take i) ∧ D ∉ ks) ⟨same_new nD, [], by rw [upd_same]; rfl, by rw [List.take_zero]; exact .nil, by simp⟩ (fun i H' _ ⟨s, _⟩ => SqL.of (s _ _ hF8)) ?_ ?_
    · rintro i x HC hi ⟨sC, ks, hD, hk, Dk⟩
      have il : i < rows.length := by
        have := (List.getElem?_eq_some_iff.mp hi).1
        rw [List.length_map, hR8.len] at this
        exact this
      have gi : rows[i]? = some rows[i] := List.getElem?_eq_getElem il
      generalize rows[i] = r at *
      obtain ⟨b, eb, hb⟩ := hR8.get gi
      have ex : x = .ref b := by
        rw [List.getElem?_map, eb] at hi
        exact (Option.some.inj hi).symm
      subst ex
      refine ⟨rfl, ?_⟩
      refine tyes ?_
      refine iteT ?_
      refine ⟨_, rfl, b, _, rfl, .inl (SqL.of (sC _ _ hb)), fun l nl => ?_⟩
      have Dl : D ≠ l := ne_of_none hD nl
      have sl : Same HC (upd HC l (.lst (r.map V.int))) := same_new nl
      refine ⟨_, by rw [upd_ne Dl]; exact hD, sz_lt (by rw [List.length_map, hk.len, List.length_take]; omega), same_mut (sC.trans sl) nD, ks ++ [l], ?_, ?_, ?_⟩
      · rw [upd_same, List.map_append]
        rfl
      · rw [take_snoc gi]
        refine Rows.snoc ((hk.same sl).upd Dk) ?_
        rw [upd_ne Dl.symm, upd_same]
      · intro hx
        rcases List.mem_append.mp hx with hx | hx
        · exact Dk hx
        · exact Dl (List.mem_singleton.mp hx)
    rintro H9 ⟨s9, ks, hD, hk, Dk⟩
    rw [List.length_map, hR8.len, List.take_length] at hk
    refine ⟨8, t, D, z'', rfl, .inr ⟨.inr rfl, ks, rows, hD, hk, lR, Wf⟩, fun HE sE => ?_⟩
    refine ⟨_, rfl, rfl, ?_⟩
    rw [decide_eq_true rfl]
    exact q _
end
/-! ### what the top has written; the end -/
theorem all_mk {l : PySem.W.OpenLaw} {w : World} {K : PySem.W.Frag} {h : Heap} {mg : Str → Option Value} {fa f0 f1 f2 f3 f4 f5 f6 f7 f8 f9 f10 f11 f12 f13 f14 f15 f16 f17 f18 f19 f20 f21 f22 f23 f24 C_ChainError C_NoMany C_NoSet C_NoNumber C_NoNote : Addr} {tM : Tok}
    {od0 an0 od1 an1 od2 an2 od3 an3 od4 an4 od5 an5 od6 an6 od7 an7 od8 an8 od9 an9 od10 an10 od11 an11 od12 an12 od13 an13 od14 an14 od15 an15 od16 an16 od17 an17 od18 an18 od19 an19 od20 an20 od21 an21 od22 an22 od23 an23 od24 an24 : Option Addr} {sl0 sl1 sl2 sl3 sl4 sl5 sl6 sl7 sl8 sl9 sl10 sl11 sl12 sl13 sl14 sl15 sl16 sl17 sl18 sl19 sl20 sl21 sl22 sl23 sl24 : Array (Option Value)} {oc0 kV0 dc0 pm0 cd0 ct0 oc1 kV1 dc1 pm1 cd1 ct1 oc2 kV2 dc2 pm2 cd2 ct2 oc3 kV3 dc3 pm3 cd3 ct3 oc4 kV4 dc4 pm4 cd4 ct4 oc5 kV5 dc5 pm5 cd5 ct5 oc6 kV6 dc6 pm6 cd6 ct6 oc7 kV7 dc7 pm7 cd7 ct7 oc8 kV8 dc8 pm8 cd8 ct8 oc9 kV9 dc9 pm9 cd9 ct9 oc10 kV10 dc10 pm10 cd10 ct10 oc11 kV11 dc11 pm11 cd11 ct11 oc12 kV12 dc12 pm12 cd12 ct12 oc13 kV13 dc13 pm13 cd13 ct13 oc14 kV14 dc14 pm14 cd14 ct14 oc15 kV15 dc15 pm15 cd15 ct15 oc16 kV16 dc16 pm16 cd16 ct16 oc17 kV17 dc17 pm17 cd17 ct17 oc18 kV18 dc18 pm18 cd18 ct18 oc19 kV19 dc19 pm19 cd19 ct19 oc20 kV20 dc20 pm20 cd20 ct20 oc21 kV21 dc21 pm21 cd21 ct21 oc22 kV22 dc22 pm22 cd22 ct22 oc23 kV23 dc23 pm23 cd23 ct23 oc24 kV24 dc24 pm24 cd24 ct24 : Value}
    (X : K.In h) (G : h.Ns mainGlobals mg) (hfa : mg "law" = some (.ref fa))
    (xn0 : PySem.W.nsIn K mainGlobals "NoMany" = some (some (.ref C_NoMany)))
    (xx0 : PySem.W.excIn K C_NoMany [.type "ValueError", .type "Exception", .type "BaseException", .type "object"] "ValueError.__new__" = true)
    (xk0 : PySem.W.keepIn K (.ref C_NoMany) = true)
    (xb0 : PySem.W.subIn K (.ref C_NoMany) (.type "BaseException") = some true)
    (xt0 : PySem.W.typeIn K (.ref C_NoMany) = some (.type "type"))
    (xn1 : PySem.W.nsIn K mainGlobals "NoSet" = some (some (.ref C_NoSet)))
    (xx1 : PySem.W.excIn K C_NoSet [.type "ValueError", .type "Exception", .type "BaseException", .type "object"] "ValueError.__new__" = true)
    (xk1 : PySem.W.keepIn K (.ref C_NoSet) = true)
    (xb1 : PySem.W.subIn K (.ref C_NoSet) (.type "BaseException") = some true)
    (xt1 : PySem.W.typeIn K (.ref C_NoSet) = some (.type "type"))
    (zn_ChainError : PySem.W.nsIn K mainGlobals "ChainError" = some (some (.ref C_ChainError)))
    (zd_ChainError : PySem.W.hasDictIn K C_ChainError = true)
    (zt_ChainError : PySem.W.typeIn K (.ref C_ChainError) = some (.type "type"))
    (zb_ChainError : PySem.W.subIn K (.ref C_ChainError) (.type "BaseException") = some true)
    (zn_NoMany : PySem.W.nsIn K mainGlobals "NoMany" = some (some (.ref C_NoMany)))
    (zd_NoMany : PySem.W.hasDictIn K C_NoMany = true)
    (zt_NoMany : PySem.W.typeIn K (.ref C_NoMany) = some (.type "type"))
    (zb_NoMany : PySem.W.subIn K (.ref C_NoMany) (.type "BaseException") = some true)
    (zn_NoSet : PySem.W.nsIn K mainGlobals "NoSet" = some (some (.ref C_NoSet)))
    (zd_NoSet : PySem.W.hasDictIn K C_NoSet = true)
    (zt_NoSet : PySem.W.typeIn K (.ref C_NoSet) = some (.type "type"))
    (zb_NoSet : PySem.W.subIn K (.ref C_NoSet) (.type "BaseException") = some true)
    (zn_NoNumber : PySem.W.nsIn K mainGlobals "NoNumber" = some (some (.ref C_NoNumber)))
    (zd_NoNumber : PySem.W.hasDictIn K C_NoNumber = true)
    (zt_NoNumber : PySem.W.typeIn K (.ref C_NoNumber) = some (.type "type"))
    (zb_NoNumber : PySem.W.subIn K (.ref C_NoNumber) (.type "BaseException") = some true)
    (zn_NoNote : PySem.W.nsIn K mainGlobals "NoNote" = some (some (.ref C_NoNote)))
    (zd_NoNote : PySem.W.hasDictIn K C_NoNote = true)
    (zt_NoNote : PySem.W.typeIn K (.ref C_NoNote) = some (.type "type"))
    (zb_NoNote : PySem.W.subIn K (.ref C_NoNote) (.type "BaseException") = some true)
    (yn : PySem.W.specialIn K (.builtin "object.__class__") "__get__" = some (some (.builtin "getset_descriptor.__get__")))
    (yt : PySem.W.takesIn K (.builtin "object.__class__") = some true)
    (yg_NoMany : PySem.W.findIn K (.ref C_NoMany) "__getattribute__" = some (some (.builtin "BaseException.__getattribute__")))
    (yk_NoMany : PySem.W.findIn K (.ref C_NoMany) "__getattr__" = some none)
    (ya_NoMany : PySem.W.findIn K (.ref C_NoMany) "__class__" = some (some (.builtin "object.__class__")))
    (ym_NoMany : PySem.W.mroIn K C_NoMany (.type "object") = some true)
    (yv_NoMany : PySem.W.subIn K (.ref C_NoMany) (.type "ValueError") = some true)
    (ys_NoMany_ChainError : PySem.W.subIn K (.ref C_NoMany) (.ref C_ChainError) = some true)
    (ys_NoMany_NoMany : PySem.W.subIn K (.ref C_NoMany) (.ref C_NoMany) = some true)
    (ys_NoMany_NoSet : PySem.W.subIn K (.ref C_NoMany) (.ref C_NoSet) = some false)
    (ys_NoMany_NoNumber : PySem.W.subIn K (.ref C_NoMany) (.ref C_NoNumber) = some false)
    (ys_NoMany_NoNote : PySem.W.subIn K (.ref C_NoMany) (.ref C_NoNote) = some false)
    (yg_NoSet : PySem.W.findIn K (.ref C_NoSet) "__getattribute__" = some (some (.builtin "BaseException.__getattribute__")))
    (yk_NoSet : PySem.W.findIn K (.ref C_NoSet) "__getattr__" = some none)
    (ya_NoSet : PySem.W.findIn K (.ref C_NoSet) "__class__" = some (some (.builtin "object.__class__")))
    (ym_NoSet : PySem.W.mroIn K C_NoSet (.type "object") = some true)
    (yv_NoSet : PySem.W.subIn K (.ref C_NoSet) (.type "ValueError") = some true)
    (ys_NoSet_ChainError : PySem.W.subIn K (.ref C_NoSet) (.ref C_ChainError) = some true)
    (ys_NoSet_NoMany : PySem.W.subIn K (.ref C_NoSet) (.ref C_NoMany) = some false)
    (ys_NoSet_NoSet : PySem.W.subIn K (.ref C_NoSet) (.ref C_NoSet) = some true)
    (ys_NoSet_NoNumber : PySem.W.subIn K (.ref C_NoSet) (.ref C_NoNumber) = some false)
    (ys_NoSet_NoNote : PySem.W.subIn K (.ref C_NoSet) (.ref C_NoNote) = some false)
    (a0 : PySem.W.nsIn K mainGlobals "asked_many" = some (some (.ref f0)))
    (l0 : K.lookup f0 = some ⟨oc0, od0, .func (PySem.W.fnOf "asked_many" "asked_many" (defArgs s_asked_many) (defBody s_asked_many) (defScope s_asked_many) .none kV0 dc0 pm0 an0 cd0 ct0), sl0⟩)
    (c0 : PySem.W.codeIn K cd0 "asked_many" = true)
    (k0 : PySem.W.keepIn K (.ref f0) = true)
    (a1 : PySem.W.nsIn K mainGlobals "asked_set" = some (some (.ref f1)))
    (l1 : K.lookup f1 = some ⟨oc1, od1, .func (PySem.W.fnOf "asked_set" "asked_set" (defArgs s_asked_set) (defBody s_asked_set) (defScope s_asked_set) .none kV1 dc1 pm1 an1 cd1 ct1), sl1⟩)
    (c1 : PySem.W.codeIn K cd1 "asked_set" = true)
    (k1 : PySem.W.keepIn K (.ref f1) = true)
    (a2 : PySem.W.nsIn K mainGlobals "parted" = some (some (.ref f2)))
    (l2 : K.lookup f2 = some ⟨oc2, od2, .func (PySem.W.fnOf "parted" "parted" (defArgs s_parted) (defBody s_parted) (defScope s_parted) .none kV2 dc2 pm2 an2 cd2 ct2), sl2⟩)
    (c2 : PySem.W.codeIn K cd2 "parted" = true)
    (k2 : PySem.W.keepIn K (.ref f2) = true)
    (a3 : PySem.W.nsIn K mainGlobals "paired" = some (some (.ref f3)))
    (l3 : K.lookup f3 = some ⟨oc3, od3, .func (PySem.W.fnOf "paired" "paired" (defArgs s_paired) (defBody s_paired) (defScope s_paired) .none kV3 dc3 pm3 an3 cd3 ct3), sl3⟩)
    (c3 : PySem.W.codeIn K cd3 "paired" = true)
    (k3 : PySem.W.keepIn K (.ref f3) = true)
    (a4 : PySem.W.nsIn K mainGlobals "loose" = some (some (.ref f4)))
    (l4 : K.lookup f4 = some ⟨oc4, od4, .func (PySem.W.fnOf "loose" "loose" (defArgs s_loose) (defBody s_loose) (defScope s_loose) .none kV4 dc4 pm4 an4 cd4 ct4), sl4⟩)
    (c4 : PySem.W.codeIn K cd4 "loose" = true)
    (k4 : PySem.W.keepIn K (.ref f4) = true)
    (a5 : PySem.W.nsIn K mainGlobals "above" = some (some (.ref f5)))
    (l5 : K.lookup f5 = some ⟨oc5, od5, .func (PySem.W.fnOf "above" "above" (defArgs s_above) (defBody s_above) (defScope s_above) .none kV5 dc5 pm5 an5 cd5 ct5), sl5⟩)
    (c5 : PySem.W.codeIn K cd5 "above" = true)
    (k5 : PySem.W.keepIn K (.ref f5) = true)
    (a6 : PySem.W.nsIn K mainGlobals "below" = some (some (.ref f6)))
    (l6 : K.lookup f6 = some ⟨oc6, od6, .func (PySem.W.fnOf "below" "below" (defArgs s_below) (defBody s_below) (defScope s_below) .none kV6 dc6 pm6 an6 cd6 ct6), sl6⟩)
    (c6 : PySem.W.codeIn K cd6 "below" = true)
    (k6 : PySem.W.keepIn K (.ref f6) = true)
    (a7 : PySem.W.nsIn K mainGlobals "chain" = some (some (.ref f7)))
    (l7 : K.lookup f7 = some ⟨oc7, od7, .func (PySem.W.fnOf "chain" "chain" (defArgs s_chain) (defBody s_chain) (defScope s_chain) .none kV7 dc7 pm7 an7 cd7 ct7), sl7⟩)
    (c7 : PySem.W.codeIn K cd7 "chain" = true)
    (k7 : PySem.W.keepIn K (.ref f7) = true)
    (a8 : PySem.W.nsIn K mainGlobals "picks" = some (some (.ref f8)))
    (l8 : K.lookup f8 = some ⟨oc8, od8, .func (PySem.W.fnOf "picks" "picks" (defArgs s_picks) (defBody s_picks) (defScope s_picks) .none kV8 dc8 pm8 an8 cd8 ct8), sl8⟩)
    (c8 : PySem.W.codeIn K cd8 "picks" = true)
    (k8 : PySem.W.keepIn K (.ref f8) = true)
    (a9 : PySem.W.nsIn K mainGlobals "endings" = some (some (.ref f9)))
    (l9 : K.lookup f9 = some ⟨oc9, od9, .func (PySem.W.fnOf "endings" "endings" (defArgs s_endings) (defBody s_endings) (defScope s_endings) .none kV9 dc9 pm9 an9 cd9 ct9), sl9⟩)
    (c9 : PySem.W.codeIn K cd9 "endings" = true)
    (k9 : PySem.W.keepIn K (.ref f9) = true)
    (a10 : PySem.W.nsIn K mainGlobals "number_of" = some (some (.ref f10)))
    (l10 : K.lookup f10 = some ⟨oc10, od10, .func (PySem.W.fnOf "number_of" "number_of" (defArgs s_number_of) (defBody s_number_of) (defScope s_number_of) .none kV10 dc10 pm10 an10 cd10 ct10), sl10⟩)
    (c10 : PySem.W.codeIn K cd10 "number_of" = true)
    (k10 : PySem.W.keepIn K (.ref f10) = true)
    (a11 : PySem.W.nsIn K mainGlobals "address" = some (some (.ref f11)))
    (l11 : K.lookup f11 = some ⟨oc11, od11, .func (PySem.W.fnOf "address" "address" (defArgs s_address) (defBody s_address) (defScope s_address) .none kV11 dc11 pm11 an11 cd11 ct11), sl11⟩)
    (c11 : PySem.W.codeIn K cd11 "address" = true)
    (k11 : PySem.W.keepIn K (.ref f11) = true)
    (a12 : PySem.W.nsIn K mainGlobals "asked_family" = some (some (.ref f12)))
    (l12 : K.lookup f12 = some ⟨oc12, od12, .func (PySem.W.fnOf "asked_family" "asked_family" (defArgs s_asked_family) (defBody s_asked_family) (defScope s_asked_family) .none kV12 dc12 pm12 an12 cd12 ct12), sl12⟩)
    (c12 : PySem.W.codeIn K cd12 "asked_family" = true)
    (k12 : PySem.W.keepIn K (.ref f12) = true)
    (a13 : PySem.W.nsIn K mainGlobals "lies_within" = some (some (.ref f13)))
    (l13 : K.lookup f13 = some ⟨oc13, od13, .func (PySem.W.fnOf "lies_within" "lies_within" (defArgs s_lies_within) (defBody s_lies_within) (defScope s_lies_within) .none kV13 dc13 pm13 an13 cd13 ct13), sl13⟩)
    (c13 : PySem.W.codeIn K cd13 "lies_within" = true)
    (k13 : PySem.W.keepIn K (.ref f13) = true)
    (a14 : PySem.W.nsIn K mainGlobals "clash" = some (some (.ref f14)))
    (l14 : K.lookup f14 = some ⟨oc14, od14, .func (PySem.W.fnOf "clash" "clash" (defArgs s_clash) (defBody s_clash) (defScope s_clash) .none kV14 dc14 pm14 an14 cd14 ct14), sl14⟩)
    (c14 : PySem.W.codeIn K cd14 "clash" = true)
    (k14 : PySem.W.keepIn K (.ref f14) = true)
    (a15 : PySem.W.nsIn K mainGlobals "common" = some (some (.ref f15)))
    (l15 : K.lookup f15 = some ⟨oc15, od15, .func (PySem.W.fnOf "common" "common" (defArgs s_common) (defBody s_common) (defScope s_common) .none kV15 dc15 pm15 an15 cd15 ct15), sl15⟩)
    (c15 : PySem.W.codeIn K cd15 "common" = true)
    (k15 : PySem.W.keepIn K (.ref f15) = true)
    (a16 : PySem.W.nsIn K mainGlobals "share" = some (some (.ref f16)))
    (l16 : K.lookup f16 = some ⟨oc16, od16, .func (PySem.W.fnOf "share" "share" (defArgs s_share) (defBody s_share) (defScope s_share) .none kV16 dc16 pm16 an16 cd16 ct16), sl16⟩)
    (c16 : PySem.W.codeIn K cd16 "share" = true)
    (k16 : PySem.W.keepIn K (.ref f16) = true)
    (a17 : PySem.W.nsIn K mainGlobals "shown" = some (some (.ref f17)))
    (l17 : K.lookup f17 = some ⟨oc17, od17, .func (PySem.W.fnOf "shown" "shown" (defArgs s_shown) (defBody s_shown) (defScope s_shown) .none kV17 dc17 pm17 an17 cd17 ct17), sl17⟩)
    (c17 : PySem.W.codeIn K cd17 "shown" = true)
    (k17 : PySem.W.keepIn K (.ref f17) = true)
    (a18 : PySem.W.nsIn K mainGlobals "_law_cell_at" = some (some (.ref f18)))
    (l18 : K.lookup f18 = some ⟨oc18, od18, .func (PySem.W.fnOf "_law_cell_at" "_law_cell_at" (defArgs s__law_cell_at) (defBody s__law_cell_at) (defScope s__law_cell_at) .none kV18 dc18 pm18 an18 cd18 ct18), sl18⟩)
    (c18 : PySem.W.codeIn K cd18 "_law_cell_at" = true)
    (k18 : PySem.W.keepIn K (.ref f18) = true)
    (a19 : PySem.W.nsIn K mainGlobals "_law_set_by" = some (some (.ref f19)))
    (l19 : K.lookup f19 = some ⟨oc19, od19, .func (PySem.W.fnOf "_law_set_by" "_law_set_by" (defArgs s__law_set_by) (defBody s__law_set_by) (defScope s__law_set_by) .none kV19 dc19 pm19 an19 cd19 ct19), sl19⟩)
    (c19 : PySem.W.codeIn K cd19 "_law_set_by" = true)
    (k19 : PySem.W.keepIn K (.ref f19) = true)
    (a20 : PySem.W.nsIn K mainGlobals "_law_word_of" = some (some (.ref f20)))
    (l20 : K.lookup f20 = some ⟨oc20, od20, .func (PySem.W.fnOf "_law_word_of" "_law_word_of" (defArgs s__law_word_of) (defBody s__law_word_of) (defScope s__law_word_of) .none kV20 dc20 pm20 an20 cd20 ct20), sl20⟩)
    (c20 : PySem.W.codeIn K cd20 "_law_word_of" = true)
    (k20 : PySem.W.keepIn K (.ref f20) = true)
    (a21 : PySem.W.nsIn K mainGlobals "_law_called" = some (some (.ref f21)))
    (l21 : K.lookup f21 = some ⟨oc21, od21, .func (PySem.W.fnOf "_law_called" "_law_called" (defArgs s__law_called) (defBody s__law_called) (defScope s__law_called) .none kV21 dc21 pm21 an21 cd21 ct21), sl21⟩)
    (c21 : PySem.W.codeIn K cd21 "_law_called" = true)
    (k21 : PySem.W.keepIn K (.ref f21) = true)
    (a22 : PySem.W.nsIn K mainGlobals "_law_tried" = some (some (.ref f22)))
    (l22 : K.lookup f22 = some ⟨oc22, od22, .func (PySem.W.fnOf "_law_tried" "_law_tried" (defArgs s__law_tried) (defBody s__law_tried) (defScope s__law_tried) .none kV22 dc22 pm22 an22 cd22 ct22), sl22⟩)
    (c22 : PySem.W.codeIn K cd22 "_law_tried" = true)
    (k22 : PySem.W.keepIn K (.ref f22) = true)
    (a23 : PySem.W.nsIn K mainGlobals "_law_spoilt" = some (some (.ref f23)))
    (l23 : K.lookup f23 = some ⟨oc23, od23, .func (PySem.W.fnOf "_law_spoilt" "_law_spoilt" (defArgs s__law_spoilt) (defBody s__law_spoilt) (defScope s__law_spoilt) .none kV23 dc23 pm23 an23 cd23 ct23), sl23⟩)
    (c23 : PySem.W.codeIn K cd23 "_law_spoilt" = true)
    (k23 : PySem.W.keepIn K (.ref f23) = true)
    (a24 : PySem.W.nsIn K mainGlobals "law" = some (some (.ref f24)))
    (l24 : K.lookup f24 = some ⟨oc24, od24, .func (PySem.W.fnOf "law" "law" (defArgs s_law) (defBody s_law) (defScope s_law) .none kV24 dc24 pm24 an24 cd24 ct24), sl24⟩)
    (c24 : PySem.W.codeIn K cd24 "law" = true)
    (k24 : PySem.W.keepIn K (.ref f24) = true)
    (zlen : PySem.W.nsIn K mainGlobals "len" = some none)
    (zrange : PySem.W.nsIn K mainGlobals "range" = some none)
    (zsorted : PySem.W.nsIn K mainGlobals "sorted" = some none)
    (zisinstance : PySem.W.nsIn K mainGlobals "isinstance" = some none)
    (zint : PySem.W.nsIn K mainGlobals "int" = some none)
    (zbool : PySem.W.nsIn K mainGlobals "bool" = some none)
    (zlist : PySem.W.nsIn K mainGlobals "list" = some none)
    (ztuple : PySem.W.nsIn K mainGlobals "tuple" = some none)
    (zstr : PySem.W.nsIn K mainGlobals "str" = some none)
    (zsum : PySem.W.nsIn K mainGlobals "sum" = some none)
    (zall : PySem.W.nsIn K mainGlobals "all" = some none)
    (zmin : PySem.W.nsIn K mainGlobals "min" = some none)
    (zmax : PySem.W.nsIn K mainGlobals "max" = some none)
    (zValueError : PySem.W.nsIn K mainGlobals "ValueError" = some none)
    (zMOST : PySem.W.nsIn K mainGlobals "MOST" = some (some (.int 40 tM))) :
    ∃ fd : FuncData, (∀ (s : Shared) (v : Value), BindsTo s fd ⟨[v], []⟩ [("script", v)]) ∧ ∀ base : Heap, K.In base → base.Ns mainGlobals mg → FnOk l.prog w K mg base CX0 7 fa fd ["script"] (spLaw K) := by
  have e := hfa.symm.trans (PySem.W.mg_of X G a24)
  cases e
  have B : Bt mg tM := ⟨PySem.W.mg_none_of X G zlen, PySem.W.mg_none_of X G zrange, PySem.W.mg_none_of X G zsorted, PySem.W.mg_none_of X G zisinstance, PySem.W.mg_none_of X G zint, PySem.W.mg_none_of X G zbool, PySem.W.mg_none_of X G zlist, PySem.W.mg_none_of X G ztuple, PySem.W.mg_none_of X G zstr, PySem.W.mg_none_of X G zsum, PySem.W.mg_none_of X G zall, PySem.W.mg_none_of X G zmin, PySem.W.mg_none_of X G zmax, PySem.W.mg_none_of X G zValueError, PySem.W.mg_of X G zMOST⟩
  have X_NoMany : XT K mg "NoMany" C_NoMany := ⟨PySem.W.mg_of X G xn0, xx0, xk0, xb0, xt0⟩
  have X_NoSet : XT K mg "NoSet" C_NoSet := ⟨PySem.W.mg_of X G xn1, xx1, xk1, xb1, xt1⟩
  have Z_ChainError : XC K mg "ChainError" C_ChainError := ⟨PySem.W.mg_of X G zn_ChainError, zd_ChainError, zt_ChainError, zb_ChainError⟩
  have Z_NoMany : XC K mg "NoMany" C_NoMany := ⟨PySem.W.mg_of X G zn_NoMany, zd_NoMany, zt_NoMany, zb_NoMany⟩
  have Z_NoSet : XC K mg "NoSet" C_NoSet := ⟨PySem.W.mg_of X G zn_NoSet, zd_NoSet, zt_NoSet, zb_NoSet⟩
  have Z_NoNumber : XC K mg "NoNumber" C_NoNumber := ⟨PySem.W.mg_of X G zn_NoNumber, zd_NoNumber, zt_NoNumber, zb_NoNumber⟩
  have Z_NoNote : XC K mg "NoNote" C_NoNote := ⟨PySem.W.mg_of X G zn_NoNote, zd_NoNote, zt_NoNote, zb_NoNote⟩
  have Y_NoMany : XQ K C_NoMany C_ChainError C_NoMany C_NoSet C_NoNumber C_NoNote true false false false := ⟨⟨yg_NoMany, yk_NoMany, zb_NoMany, zd_NoMany, ya_NoMany, yn, yt, ym_NoMany⟩, yv_NoMany, ys_NoMany_NoMany, ys_NoMany_ChainError, ys_NoMany_NoMany, ys_NoMany_NoSet, ys_NoMany_NoNumber, ys_NoMany_NoNote⟩
  have Y_NoSet : XQ K C_NoSet C_ChainError C_NoMany C_NoSet C_NoNumber C_NoNote false true false false := ⟨⟨yg_NoSet, yk_NoSet, zb_NoSet, zd_NoSet, ya_NoSet, yn, yt, ym_NoSet⟩, yv_NoSet, ys_NoSet_NoSet, ys_NoSet_ChainError, ys_NoSet_NoMany, ys_NoSet_NoSet, ys_NoSet_NoNumber, ys_NoSet_NoNote⟩
  have A_asked_many : At K mg "asked_many" s_asked_many := ⟨f0, _, fun_mk (st := s_asked_many) l0 c0 k0, PySem.W.mg_of X G a0⟩
  have A_asked_set : At K mg "asked_set" s_asked_set := ⟨f1, _, fun_mk (st := s_asked_set) l1 c1 k1, PySem.W.mg_of X G a1⟩
  have A_parted : At K mg "parted" s_parted := ⟨f2, _, fun_mk (st := s_parted) l2 c2 k2, PySem.W.mg_of X G a2⟩
  have A_paired : At K mg "paired" s_paired := ⟨f3, _, fun_mk (st := s_paired) l3 c3 k3, PySem.W.mg_of X G a3⟩
  have A_loose : At K mg "loose" s_loose := ⟨f4, _, fun_mk (st := s_loose) l4 c4 k4, PySem.W.mg_of X G a4⟩
  have A_above : At K mg "above" s_above := ⟨f5, _, fun_mk (st := s_above) l5 c5 k5, PySem.W.mg_of X G a5⟩
  have A_below : At K mg "below" s_below := ⟨f6, _, fun_mk (st := s_below) l6 c6 k6, PySem.W.mg_of X G a6⟩
  have A_chain : At K mg "chain" s_chain := ⟨f7, _, fun_mk (st := s_chain) l7 c7 k7, PySem.W.mg_of X G a7⟩
  have A_picks : At K mg "picks" s_picks := ⟨f8, _, fun_mk (st := s_picks) l8 c8 k8, PySem.W.mg_of X G a8⟩
  have A_endings : At K mg "endings" s_endings := ⟨f9, _, fun_mk (st := s_endings) l9 c9 k9, PySem.W.mg_of X G a9⟩
  have A_number_of : At K mg "number_of" s_number_of := ⟨f10, _, fun_mk (st := s_number_of) l10 c10 k10, PySem.W.mg_of X G a10⟩
  have A_address : At K mg "address" s_address := ⟨f11, _, fun_mk (st := s_address) l11 c11 k11, PySem.W.mg_of X G a11⟩
  have A_asked_family : At K mg "asked_family" s_asked_family := ⟨f12, _, fun_mk (st := s_asked_family) l12 c12 k12, PySem.W.mg_of X G a12⟩
  have A_lies_within : At K mg "lies_within" s_lies_within := ⟨f13, _, fun_mk (st := s_lies_within) l13 c13 k13, PySem.W.mg_of X G a13⟩
  have A_clash : At K mg "clash" s_clash := ⟨f14, _, fun_mk (st := s_clash) l14 c14 k14, PySem.W.mg_of X G a14⟩
  have A_common : At K mg "common" s_common := ⟨f15, _, fun_mk (st := s_common) l15 c15 k15, PySem.W.mg_of X G a15⟩
  have A_share : At K mg "share" s_share := ⟨f16, _, fun_mk (st := s_share) l16 c16 k16, PySem.W.mg_of X G a16⟩
  have A_shown : At K mg "shown" s_shown := ⟨f17, _, fun_mk (st := s_shown) l17 c17 k17, PySem.W.mg_of X G a17⟩
  have A__law_cell_at : At K mg "_law_cell_at" s__law_cell_at := ⟨f18, _, fun_mk (st := s__law_cell_at) l18 c18 k18, PySem.W.mg_of X G a18⟩
  have A__law_set_by : At K mg "_law_set_by" s__law_set_by := ⟨f19, _, fun_mk (st := s__law_set_by) l19 c19 k19, PySem.W.mg_of X G a19⟩
  have A__law_word_of : At K mg "_law_word_of" s__law_word_of := ⟨f20, _, fun_mk (st := s__law_word_of) l20 c20 k20, PySem.W.mg_of X G a20⟩
  have A__law_called : At K mg "_law_called" s__law_called := ⟨f21, _, fun_mk (st := s__law_called) l21 c21 k21, PySem.W.mg_of X G a21⟩
  have A__law_tried : At K mg "_law_tried" s__law_tried := ⟨f22, _, fun_mk (st := s__law_tried) l22 c22 k22, PySem.W.mg_of X G a22⟩
  have A__law_spoilt : At K mg "_law_spoilt" s__law_spoilt := ⟨f23, _, fun_mk (st := s__law_spoilt) l23 c23 k23, PySem.W.mg_of X G a23⟩
  refine ⟨PySem.W.fnOf "law" "law" (defArgs s_law) (defBody s_law) (defScope s_law) .none kV24 dc24 pm24 an24 cd24 ct24, fun s v => .of_eq rfl, fun base _ _ => ?_⟩
  have D_asked_many := ok_asked_many (P := l.prog) (w := w) (base := base) A_asked_many B X_NoMany
  have D_asked_set := ok_asked_set (P := l.prog) (w := w) (base := base) A_asked_set B X_NoSet
  have D_parted := ok_parted (P := l.prog) (w := w) (base := base) A_parted B
  have D_paired := ok_paired (P := l.prog) (w := w) (base := base) A_paired B D_asked_many D_asked_set D_parted
  have D_loose := ok_loose (P := l.prog) (w := w) (base := base) A_loose B D_asked_many D_asked_set D_parted
  have D_above := ok_above (P := l.prog) (w := w) (base := base) A_above B D_loose
  have D_below := ok_below (P := l.prog) (w := w) (base := base) A_below B D_loose
  have D_chain := ok_chain (P := l.prog) (w := w) (base := base) A_chain B D_loose
  have D_picks := ok_picks (P := l.prog) (w := w) (base := base) A_picks B
  have D_endings := ok_endings (P := l.prog) (w := w) (base := base) A_endings B D_picks
  have D_number_of := ok_number_of (P := l.prog) (w := w) (base := base) A_number_of B D_endings
  have D_address := ok_address (P := l.prog) (w := w) (base := base) A_address B D_asked_many D_asked_set D_parted D_number_of
  have D_asked_family := ok_asked_family (P := l.prog) (w := w) (base := base) A_asked_family B X_NoSet D_asked_many D_asked_set
  have D_lies_within := ok_lies_within (P := l.prog) (w := w) (base := base) A_lies_within B
  have D_clash := ok_clash (P := l.prog) (w := w) (base := base) A_clash B D_asked_family D_lies_within
  have D_common := ok_common (P := l.prog) (w := w) (base := base) A_common B
  have D_share := ok_share (P := l.prog) (w := w) (base := base) A_share B D_above D_asked_family D_picks D_common
  have D_shown := ok_shown (P := l.prog) (w := w) (base := base) A_shown B D_asked_many D_asked_set
  have D__law_cell_at := ok__law_cell_at (P := l.prog) (w := w) (base := base) A__law_cell_at B
  have D__law_set_by := ok__law_set_by (P := l.prog) (w := w) (base := base) A__law_set_by B D__law_cell_at
  have D__law_word_of := ok__law_word_of (C_ChainError := C_ChainError) (P := l.prog) (w := w) (base := base) A__law_word_of B Z_NoMany Z_NoSet Z_NoNumber Z_NoNote
  have D__law_called := ok__law_called (P := l.prog) (w := w) (base := base) A__law_called B D_shown D_paired D_loose D_above D_below D_chain D_address
  have D__law_tried := ok__law_tried (P := l.prog) (w := w) (base := base) A__law_tried B Z_ChainError Y_NoMany Y_NoSet D_clash D__law_word_of D_share D__law_called
  have D__law_spoilt := ok__law_spoilt (P := l.prog) (w := w) (base := base) A__law_spoilt B
  exact ok_law (fun_mk (st := s_law) l24 c24 k24) B D__law_set_by D__law_cell_at D__law_spoilt D__law_tried
end SC
open PySem PySem.W PyProof.Rows
set_option maxHeartbeats 0 in
theorem PySem.Challenge.cw_setchains_k16_refused_sets_holds : PySem.Challenge.rw_setchains_k16_refused_sets.Holds := by
  w_on; o_law; k_head; (case hw => w_witness2)
  k_fill
  refine L2.walk_of (l := PySem.Challenge.rw_setchains_k16_refused_sets) (n := 63) (k := 7) (x := "script") (CX := fun _ => L2.CX0) (sp := fun w => SC.spLaw _) rfl (by decide) rfl ⟨rfl, by decide, by decide⟩ (fun w h Y => PySem.W.kIn_of Y) ?F (fun _ _ a ns hl _ hS => ⟨a, ns, rfl, hS, hl, fun _ => rfl⟩) (fun _ _ _ _ _ h => h)
  case F =>
    intro w mg fa h KX G hmg
    refine' SC.all_mk KX G hmg ?xn0 ?xx0 ?xk0 ?xb0 ?xt0 ?xn1 ?xx1 ?xk1 ?xb1 ?xt1 ?zn_ChainError ?zd_ChainError ?zt_ChainError ?zb_ChainError ?zn_NoMany ?zd_NoMany ?zt_NoMany ?zb_NoMany ?zn_NoSet ?zd_NoSet ?zt_NoSet ?zb_NoSet ?zn_NoNumber ?zd_NoNumber ?zt_NoNumber ?zb_NoNumber ?zn_NoNote ?zd_NoNote ?zt_NoNote ?zb_NoNote ?yn ?yt ?yg_NoMany ?yk_NoMany ?ya_NoMany ?ym_NoMany ?yv_NoMany ?ys_NoMany_ChainError ?ys_NoMany_NoMany ?ys_NoMany_NoSet ?ys_NoMany_NoNumber ?ys_NoMany_NoNote ?yg_NoSet ?yk_NoSet ?ya_NoSet ?ym_NoSet ?yv_NoSet ?ys_NoSet_ChainError ?ys_NoSet_NoMany ?ys_NoSet_NoSet ?ys_NoSet_NoNumber ?ys_NoSet_NoNote ?a0 ?l0 ?c0 ?k0 ?a1 ?l1 ?c1 ?k1 ?a2 ?l2 ?c2 ?k2 ?a3 ?l3 ?c3 ?k3 ?a4 ?l4 ?c4 ?k4 ?a5 ?l5 ?c5 ?k5 ?a6 ?l6 ?c6 ?k6 ?a7 ?l7 ?c7 ?k7 ?a8 ?l8 ?c8 ?k8 ?a9 ?l9 ?c9 ?k9 ?a10 ?l10 ?c10 ?k10 ?a11 ?l11 ?c11 ?k11 ?a12 ?l12 ?c12 ?k12 ?a13 ?l13 ?c13 ?k13 ?a14 ?l14 ?c14 ?k14 ?a15 ?l15 ?c15 ?k15 ?a16 ?l16 ?c16 ?k16 ?a17 ?l17 ?c17 ?k17 ?a18 ?l18 ?c18 ?k18 ?a19 ?l19 ?c19 ?k19 ?a20 ?l20 ?c20 ?k20 ?a21 ?l21 ?c21 ?k21 ?a22 ?l22 ?c22 ?k22 ?a23 ?l23 ?c23 ?k23 ?a24 ?l24 ?c24 ?k24 ?zlen ?zrange ?zsorted ?zisinstance ?zint ?zbool ?zlist ?ztuple ?zstr ?zsum ?zall ?zmin ?zmax ?zValueError ?zMOST
    (case xn0 => k_is)
    (case xx0 => k_exc)
    (case xk0 => k_is)
    (case xb0 => k_is)
    (case xt0 => k_is)
    (case xn1 => k_is)
    (case xx1 => k_exc)
    (case xk1 => k_is)
    (case xb1 => k_is)
    (case xt1 => k_is)
    (case zn_ChainError => k_is)
    (case zd_ChainError => k_is)
    (case zt_ChainError => k_is)
    (case zb_ChainError => k_is)
    (case zn_NoMany => k_is)
    (case zd_NoMany => k_is)
    (case zt_NoMany => k_is)
    (case zb_NoMany => k_is)
    (case zn_NoSet => k_is)
    (case zd_NoSet => k_is)
    (case zt_NoSet => k_is)
    (case zb_NoSet => k_is)
    (case zn_NoNumber => k_is)
    (case zd_NoNumber => k_is)
    (case zt_NoNumber => k_is)
    (case zb_NoNumber => k_is)
    (case zn_NoNote => k_is)
    (case zd_NoNote => k_is)
    (case zt_NoNote => k_is)
    (case zb_NoNote => k_is)
    (case yn => k_is)
    (case yt => k_is)
    (case yg_NoMany => k_is)
    (case yk_NoMany => k_is)
    (case ya_NoMany => k_is)
    (case ym_NoMany => k_is)
    (case yv_NoMany => k_is)
    (case ys_NoMany_ChainError => k_is)
    (case ys_NoMany_NoMany => k_is)
    (case ys_NoMany_NoSet => k_is)
    (case ys_NoMany_NoNumber => k_is)
    (case ys_NoMany_NoNote => k_is)
    (case yg_NoSet => k_is)
    (case yk_NoSet => k_is)
    (case ya_NoSet => k_is)
    (case ym_NoSet => k_is)
    (case yv_NoSet => k_is)
    (case ys_NoSet_ChainError => k_is)
    (case ys_NoSet_NoMany => k_is)
    (case ys_NoSet_NoSet => k_is)
    (case ys_NoSet_NoNumber => k_is)
    (case ys_NoSet_NoNote => k_is)
    (case a0 => k_is)
    (case l0 => k_is)
    (case c0 => k_is)
    (case k0 => k_is)
    (case a1 => k_is)
    (case l1 => k_is)
    (case c1 => k_is)
    (case k1 => k_is)
    (case a2 => k_is)
    (case l2 => k_is)
    (case c2 => k_is)
    (case k2 => k_is)
    (case a3 => k_is)
    (case l3 => k_is)
    (case c3 => k_is)
    (case k3 => k_is)
    (case a4 => k_is)
    (case l4 => k_is)
    (case c4 => k_is)
    (case k4 => k_is)
    (case a5 => k_is)
    (case l5 => k_is)
    (case c5 => k_is)
    (case k5 => k_is)
    (case a6 => k_is)
    (case l6 => k_is)
    (case c6 => k_is)
    (case k6 => k_is)
    (case a7 => k_is)
    (case l7 => k_is)
    (case c7 => k_is)
    (case k7 => k_is)
    (case a8 => k_is)
    (case l8 => k_is)
    (case c8 => k_is)
    (case k8 => k_is)
    (case a9 => k_is)
    (case l9 => k_is)
    (case c9 => k_is)
    (case k9 => k_is)
    (case a10 => k_is)
    (case l10 => k_is)
    (case c10 => k_is)
    (case k10 => k_is)
    (case a11 => k_is)
    (case l11 => k_is)
    (case c11 => k_is)
    (case k11 => k_is)
    (case a12 => k_is)
    (case l12 => k_is)
    (case c12 => k_is)
    (case k12 => k_is)
    (case a13 => k_is)
    (case l13 => k_is)
    (case c13 => k_is)
    (case k13 => k_is)
    (case a14 => k_is)
    (case l14 => k_is)
    (case c14 => k_is)
    (case k14 => k_is)
    (case a15 => k_is)
    (case l15 => k_is)
    (case c15 => k_is)
    (case k15 => k_is)
    (case a16 => k_is)
    (case l16 => k_is)
    (case c16 => k_is)
    (case k16 => k_is)
    (case a17 => k_is)
    (case l17 => k_is)
    (case c17 => k_is)
    (case k17 => k_is)
    (case a18 => k_is)
    (case l18 => k_is)
    (case c18 => k_is)
    (case k18 => k_is)
    (case a19 => k_is)
    (case l19 => k_is)
    (case c19 => k_is)
    (case k19 => k_is)
    (case a20 => k_is)
    (case l20 => k_is)
    (case c20 => k_is)
    (case k20 => k_is)
    (case a21 => k_is)
    (case l21 => k_is)
    (case c21 => k_is)
    (case k21 => k_is)
    (case a22 => k_is)
    (case l22 => k_is)
    (case c22 => k_is)
    (case k22 => k_is)
    (case a23 => k_is)
    (case l23 => k_is)
    (case c23 => k_is)
    (case k23 => k_is)
    (case a24 => k_is)
    (case l24 => k_is)
    (case c24 => k_is)
    (case k24 => k_is)
    (case zlen => k_is)
    (case zrange => k_is)
    (case zsorted => k_is)
    (case zisinstance => k_is)
    (case zint => k_is)
    (case zbool => k_is)
    (case zlist => k_is)
    (case ztuple => k_is)
    (case zstr => k_is)
    (case zsum => k_is)
    (case zall => k_is)
    (case zmin => k_is)
    (case zmax => k_is)
    (case zValueError => k_is)
    (case zMOST => k_is)
