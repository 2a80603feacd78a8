/- How many cuts there are: the search for all of them. No program. -/
import Derived.Test.YtcdladnbcamgjaaCuT
namespace Go.Proofs.Ytcdladnbcamgjaa.CuM
open Go.Proofs.Ytcdladnbcamgjaa.Ev Go.Proofs.Ytcdladnbcamgjaa.CL Go.Proofs.Ytcdladnbcamgjaa.CW Go.Proofs.Ytcdladnbcamgjaa.Th Go.Proofs.Ytcdladnbcamgjaa.Cu Go.Proofs.Ytcdladnbcamgjaa.CuT

theorem nodup_le {α : Type} [DecidableEq α] : ∀ (l m : List α), l.Nodup → (∀ x ∈ l, x ∈ m) → l.length ≤ m.length
  | [], m, _, _ => Nat.zero_le _
  | x :: l, m, h, hs => by
    obtain ⟨h1, h2⟩ := List.nodup_cons.1 h
    have hx := hs x (by simp)
    have ih := nodup_le l (m.erase x) h2 (fun y hy => (List.mem_erase_of_ne (fun e => h1 (by rw [← e]; exact hy))).2 (hs y (by simp [hy])))
    rw [List.length_erase_of_mem hx] at ih
    have := List.length_pos_of_mem hx
    simp only [List.length_cons]
    omega
/-- All vectors of a box, and how many. -/
def boxL : List Nat → List (List Int)
  | [] => [[]]
  | n :: r => (List.range (n + 1)).flatMap (fun v : Nat => (boxL r).map (fun c => (v : Int) :: c))
def boxN : List Nat → Nat
  | [] => 1
  | n :: r => (n + 1) * boxN r
theorem flat_len {α β : Type} (f : α → List β) (N : Nat) (hf : ∀ x, (f x).length = N) : ∀ l : List α, (l.flatMap f).length = l.length * N
  | [] => by simp
  | x :: l => by rw [List.flatMap_cons, List.length_append, hf, flat_len f N hf l, List.length_cons, Nat.add_mul, Nat.one_mul, Nat.add_comm]
theorem boxL_len : ∀ ns, (boxL ns).length = boxN ns
  | [] => rfl
  | n :: r => by
    show ((List.range (n + 1)).flatMap (fun v : Nat => (boxL r).map (fun c => (v : Int) :: c))).length = (n + 1) * boxN r
    rw [flat_len _ (boxN r) (fun v => by rw [List.length_map, boxL_len r]), List.length_range]
theorem boxL_mem : ∀ (ns : List Nat) (c : List Int), c.length = ns.length → (∀ i, i < ns.length → 0 ≤ c.getD i 0 ∧ c.getD i 0 ≤ ((ns.getD i 0 : Nat) : Int)) → c ∈ boxL ns
  | [], c, h, _ => by
    have : c = [] := List.eq_nil_of_length_eq_zero h
    subst this; simp [boxL]
  | n :: r, [], h, _ => by simp at h
  | n :: r, v :: c, h, hb => by
    have h0 := hb 0 (by simp)
    simp at h0
    refine List.mem_flatMap.2 ⟨v.toNat, by rw [List.mem_range]; omega, List.mem_map.2 ⟨c, boxL_mem r c (by simpa using h) (fun i hi => ?_), ?_⟩⟩
    · have := hb (i + 1) (by simp; omega)
      simpa using this
    · congr 1
      omega
theorem boxN_pow : ∀ ns : List Nat, boxN ns ≤ 2 ^ ns.sum
  | [] => by simp [boxN]
  | n :: r => by
    show (n + 1) * boxN r ≤ 2 ^ (n :: r).sum
    rw [List.sum_cons, Nat.pow_add]
    exact Nat.mul_le_mul (Nat.lt_two_pow_self) (boxN_pow r)
def cts (l : List Ev) : List Nat := (List.range 8).map (fun p => cnt l p l.length)
theorem cts_len (l : List Ev) : (cts l).length = 8 := by simp [cts]
theorem cts_get (l : List Ev) (p : Nat) (hp : p < 8) : (cts l).getD p 0 = cnt l p l.length := by
  simp only [cts, List.getD_eq_getElem?_getD, List.getElem?_map, List.getElem?_range hp]; rfl
theorem front_up {l : List Ev} (hv : Valid l) {k : Nat} (hk : k < l.length) : frontC l (k + 1) = upC (frontC l k) (ev l k).place := by
  refine ext8 (front_len _ _) (by rw [up_len, front_len]) (fun p hp => ?_)
  rw [front_get _ _ _ hp, up_get _ _ _ (by rw [front_len]; exact pl8 hv hk)]
  simp only [cnt]
  by_cases e : (ev l k).place = p
  · subst e; rw [if_pos rfl, if_pos rfl, front_get _ _ _ hp]; omega
  · rw [if_neg e, if_neg e, front_get _ _ _ hp]; omega
theorem front_sum {l : List Ev} (hv : Valid l) : ∀ k, k ≤ l.length → (frontC l k).sum = (k : Int)
  | 0, _ => by simp [frontC, cnt, show List.range 8 = [0, 1, 2, 3, 4, 5, 6, 7] from rfl]
  | k + 1, h => by
    rw [front_up hv (by omega), sum_up (front_len _ _) (pl8 hv (by omega)), front_sum hv k (by omega)]; omega
theorem cts_sum {l : List Ev} (hv : Valid l) : (cts l).sum = l.length := by
  have h := front_sum hv l.length (Nat.le_refl _)
  have e : (frontC l l.length).sum = (((cts l).sum : Nat) : Int) := by
    simp only [frontC, cts, show List.range 8 = [0, 1, 2, 3, 4, 5, 6, 7] from rfl, List.map_cons, List.map_nil, List.sum_cons, List.sum_nil]
    omega
  omega
theorem vcut_zero (l : List Ev) : VCut l zero8 := ⟨rfl, fun p _ => by rw [zero_get]; exact Int.le_refl _, fun p _ => by rw [zero_get]; omega⟩
theorem front_zero (l : List Ev) : frontC l 0 = zero8 := by simp [frontC, cnt, zero8, show List.range 8 = [0, 1, 2, 3, 4, 5, 6, 7] from rfl]
/-- The search: the row of cuts; number i is looked at, its places below p have been. -/
structure Sr (l : List Ev) (row : List (List Int)) (i p : Nat) : Prop where
  nd : row.Nodup
  ok : ∀ c ∈ row, VCut l c ∧ Whole l c
  z : zero8 ∈ row
  cl : ∀ j, j < row.length → ∀ q, q < 8 → (j < i ∨ (j = i ∧ q < p)) → VCut l (upC (row.getD j []) q) → Whole l (upC (row.getD j []) q) → upC (row.getD j []) q ∈ row
theorem Sr.start {l : List Ev} (hv : Valid l) : Sr l [zero8] 0 0 :=
  ⟨by simp, fun c hc => by
    have : c = zero8 := by simpa using hc
    subst this
    exact ⟨vcut_zero l, by rw [← front_zero l]; exact whole_front hv 0⟩, by simp, fun j hj q hq h => by omega⟩
theorem getD_mem {row : List (List Int)} {j : Nat} (h : j < row.length) : row.getD j [] ∈ row := by
  rw [List.getD_eq_getElem?_getD, List.getElem?_eq_getElem h]; exact List.getElem_mem h
theorem Sr.skip {l : List Ev} {row : List (List Int)} {i p : Nat} (h : Sr l row i p) (hs : VCut l (upC (row.getD i []) p) → Whole l (upC (row.getD i []) p) → upC (row.getD i []) p ∈ row) : Sr l row i (p + 1) :=
  ⟨h.nd, h.ok, h.z, fun j hj q hq hor hc hw => by
    by_cases e : j = i ∧ q = p
    · obtain ⟨rfl, rfl⟩ := e; exact hs hc hw
    · exact h.cl j hj q hq (by omega) hc hw⟩
theorem Sr.push {l : List Ev} {row : List (List Int)} {i p : Nat} (h : Sr l row i p) (hi : i < row.length) {c : List Int} (he : c = upC (row.getD i []) p) (hc : VCut l c) (hw : Whole l c) (hn : c ∉ row) : Sr l (row ++ [c]) i (p + 1) := by
  have hg : ∀ j, j < row.length → (row ++ [c]).getD j [] = row.getD j [] := fun j hj => by
    simp only [List.getD_eq_getElem?_getD, List.getElem?_append_left hj]
  refine ⟨?_, fun x hx => ?_, by simp [h.z], fun j hj q hq hor hc' hw' => ?_⟩
  · rw [List.nodup_append]
    exact ⟨h.nd, by simp, fun a ha b hb => by
      have : b = c := by simpa using hb
      subst this
      exact fun e => hn (by rw [← e]; exact ha)⟩
  · rcases List.mem_append.1 hx with q | q
    · exact h.ok x q
    · have : x = c := by simpa using q
      subst this; exact ⟨hc, hw⟩
  · have hj' : j < row.length := by omega
    rw [hg j hj'] at hc' hw' ⊢
    by_cases e : j = i ∧ q = p
    · obtain ⟨rfl, rfl⟩ := e; rw [← he]; simp
    · exact List.mem_append.2 (.inl (h.cl j hj' q hq (by omega) hc' hw'))
theorem Sr.next {l : List Ev} {row : List (List Int)} {i : Nat} (h : Sr l row i 8) : Sr l row (i + 1) 0 :=
  ⟨h.nd, h.ok, h.z, fun j hj q hq hor hc hw => h.cl j hj q hq (by omega) hc hw⟩
theorem Sr.few {l : List Ev} {row : List (List Int)} {i p : Nat} (h : Sr l row i p) : row.length ≤ boxN (cts l) := by
  rw [← boxL_len]
  refine nodup_le _ _ h.nd (fun c hc => ?_)
  obtain ⟨v, -⟩ := h.ok c hc
  refine boxL_mem _ _ (by rw [v.len, cts_len]) (fun i hi => ?_)
  rw [cts_len] at hi
  rw [cts_get l i hi]
  exact ⟨v.low i hi, v.high i hi⟩
theorem Sr.done {l : List Ev} {row : List (List Int)} {i : Nat} (h : Sr l row i 0) (hi : row.length ≤ i) {c : List Int} (hc : c ∈ row) {q : Nat} (hq : q < 8) (hv : VCut l (upC c q)) (hw : Whole l (upC c q)) : upC c q ∈ row := by
  obtain ⟨j, hj, e⟩ := List.mem_iff_getElem.1 hc
  have e' : row.getD j [] = c := by rw [List.getD_eq_getElem?_getD, List.getElem?_eq_getElem hj]; exact e
  rw [← e'] at hv hw ⊢
  exact h.cl j hj q hq (by omega) hv hw
theorem nodup_map_range {α : Type} (f : Nat → α) (n : Nat) (h : ∀ i j, i < n → j < n → f i = f j → i = j) : ((List.range n).map f).Nodup := by
  rw [List.Nodup, List.pairwise_map]
  refine List.Pairwise.imp_of_mem (fun {a b} ha hb hab => ?_) (List.nodup_range (n := n))
  exact fun e => hab (h a b (List.mem_range.1 ha) (List.mem_range.1 hb) e)
theorem Sr.many {l : List Ev} (hv : Valid l) {row : List (List Int)} {i : Nat} (h : Sr l row i 0) (hi : row.length ≤ i) : l.length + 1 ≤ row.length := by
  have hf : ∀ k, k ≤ l.length → frontC l k ∈ row := fun k hk => by
    induction k with
    | zero => rw [front_zero]; exact h.z
    | succ k ih =>
      have e := front_up hv (k := k) (by omega)
      rw [e]
      exact h.done hi (ih (by omega)) (pl8 hv (by omega)) (by rw [← e]; exact vcut_front l _ hk) (by rw [← e]; exact whole_front hv _)
  have := nodup_le ((List.range (l.length + 1)).map (frontC l)) row (nodup_map_range _ _ (fun a b ha hb e => by
    have := front_sum hv a (by omega)
    have := front_sum hv b (by omega)
    rw [e] at *
    omega)) (fun x hx => by
    obtain ⟨k, hk, rfl⟩ := List.mem_map.1 hx
    exact hf k (by have := List.mem_range.1 hk; omega))
  simpa using this
theorem whole_quiet {l : List Ev} (h : ∀ k, k < l.length → (ev l k).kind = 1) (c : List Int) : Whole l c := fun s k h1 h2 h3 h4 h5 h6 => by
  have := h k h2
  omega
/-- Numbers i and j at places x and y, none elsewhere. -/
def vec (x y i j : Nat) : List Int := (List.range 8).map (fun p => if p = x then (i : Int) else if p = y then (j : Int) else 0)
theorem vec_len (x y i j : Nat) : (vec x y i j).length = 8 := by simp [vec]
theorem vec_get (x y i j p : Nat) (hp : p < 8) : (vec x y i j).getD p 0 = if p = x then (i : Int) else if p = y then (j : Int) else 0 := by
  simp only [vec, List.getD_eq_getElem?_getD, List.getElem?_map, List.getElem?_range hp]; rfl
theorem Sr.quiet {l : List Ev} {row : List (List Int)} {i : Nat} (h : Sr l row i 0) (hi : row.length ≤ i) (x y a b : Nat) (hx : x < 8) (hy : y < 8) (hxy : x ≠ y) (hk : ∀ k, k < l.length → (ev l k).kind = 1)
    (hc : ∀ p, p < 8 → cnt l p l.length = if p = x then a else if p = y then b else 0) : (a + 1) * (b + 1) ≤ row.length := by
  have hvc : ∀ i j, i ≤ a → j ≤ b → VCut l (vec x y i j) := fun i j hi hj => ⟨vec_len _ _ _ _, fun p hp => by
    rw [vec_get _ _ _ _ _ hp]; split <;> (try split) <;> omega, fun p hp => by
    rw [vec_get _ _ _ _ _ hp, hc p hp]; split <;> (try split) <;> omega⟩
  have u1 : ∀ i j, vec x y (i + 1) j = upC (vec x y i j) x := fun i j => ext8 (vec_len _ _ _ _) (by rw [up_len, vec_len]) (fun p hp => by
    rw [up_get _ _ _ (by rw [vec_len]; exact hx), vec_get _ _ _ _ _ hp, vec_get _ _ _ _ _ hx, vec_get _ _ _ _ _ hp]
    by_cases e : p = x
    · subst e; simp
    · have e' : ¬ x = p := fun q => e q.symm
      simp only [if_neg e, if_neg e'])
  have u2 : ∀ i j, vec x y i (j + 1) = upC (vec x y i j) y := fun i j => ext8 (vec_len _ _ _ _) (by rw [up_len, vec_len]) (fun p hp => by
    rw [up_get _ _ _ (by rw [vec_len]; exact hy), vec_get _ _ _ _ _ hp, vec_get _ _ _ _ _ hy, vec_get _ _ _ _ _ hp]
    have hyx : ¬ y = x := fun q => hxy q.symm
    by_cases e : p = y
    · subst e; simp [hyx]
    · have e' : ¬ y = p := fun q => e q.symm
      simp only [if_neg e, if_neg e'])
  have z : vec x y 0 0 = zero8 := ext8 (vec_len _ _ _ _) rfl (fun p hp => by rw [vec_get _ _ _ _ _ hp, zero_get]; simp)
  have m1 : ∀ i, i ≤ a → vec x y i 0 ∈ row := fun i hi' => by
    induction i with
    | zero => rw [z]; exact h.z
    | succ i ih =>
      rw [u1]
      exact h.done hi (ih (by omega)) hx (by rw [← u1]; exact hvc _ _ hi' (by omega)) (whole_quiet hk _)
  have m2 : ∀ i j, i ≤ a → j ≤ b → vec x y i j ∈ row := fun i j hi' hj => by
    induction j with
    | zero => exact m1 i hi'
    | succ j ih =>
      rw [u2]
      exact h.done hi (ih (by omega)) hy (by rw [← u2]; exact hvc _ _ hi' hj) (whole_quiet hk _)
  have hdiv : ∀ t, t < (a + 1) * (b + 1) → t / (b + 1) ≤ a ∧ t % (b + 1) ≤ b := fun t ht =>
    ⟨by have := (Nat.div_lt_iff_lt_mul (by omega : 0 < b + 1)).2 ht; omega, by have := Nat.mod_lt t (by omega : 0 < b + 1); omega⟩
  have := nodup_le ((List.range ((a + 1) * (b + 1))).map (fun t => vec x y (t / (b + 1)) (t % (b + 1)))) row (nodup_map_range _ _ (fun s t hs ht e => by
    have e1 := congrArg (fun c : List Int => c.getD x 0) e
    have e2 := congrArg (fun c : List Int => c.getD y 0) e
    simp only [vec_get _ _ _ _ _ hx, vec_get _ _ _ _ _ hy] at e1 e2
    simp only [if_pos, if_neg (fun q => hxy (Eq.symm q))] at e1 e2
    have d1 := Nat.div_add_mod s (b + 1)
    have d2 := Nat.div_add_mod t (b + 1)
    have e1' : s / (b + 1) = t / (b + 1) := by omega
    have e2' : s % (b + 1) = t % (b + 1) := by omega
    rw [← d1, ← d2, e1', e2'])) (fun c hc' => by
    obtain ⟨t, ht, rfl⟩ := List.mem_map.1 hc'
    have := hdiv t (List.mem_range.1 ht)
    exact m2 _ _ this.1 this.2)
  simpa using this
theorem boxN_two {l : List Ev} (a b : Nat) (x y : Nat) (hc : ∀ p, p < 8 → cnt l p l.length = if p = x then a else if p = y then b else 0) (hxy : (x = 0 ∧ y = 1) ∨ (x = 2 ∧ y = 5)) : boxN (cts l) = (a + 1) * (b + 1) := by
  have e : cts l = (List.range 8).map (fun p => if p = x then a else if p = y then b else 0) := List.map_congr_left (fun p hp => hc p (List.mem_range.1 hp))
  rw [e]
  rcases hxy with ⟨rfl, rfl⟩ | ⟨rfl, rfl⟩ <;> simp [show List.range 8 = [0, 1, 2, 3, 4, 5, 6, 7] from rfl, boxN]
end Go.Proofs.Ytcdladnbcamgjaa.CuM
