/- Gossip: several nodes in memory; the functions gossips and gossipBegun. -/
import Derived.Test.YtgkjkgooonicbaaGn
namespace Go.Proofs.Ytgkjkgooonicbaa.Gs
open Go Go.RowKit Go.Proofs.Ytgkjkgooonicbaa Go.Proofs.Ytgkjkgooonicbaa.K Go.Proofs.Ytgkjkgooonicbaa.M Go.Proofs.Ytgkjkgooonicbaa.O

/-- What put makes of the rows alone. -/
def rput (me : Nat) (l : List Row) (r : Row) : List Row :=
  if hasRow l r.node = true then
    if newer (l.getD (posOf l r.node) noRow) r = true then
      if r.node = me then l.set (posOf l r.node) (if r.says = 1 then r else ⟨me, min (r.turn + 1) 1099511627776, 1⟩)
      else l.set (posOf l r.node) r
    else l
  else insAt l (posOf l r.node) r
theorem gput_rput (s : G) (r : Row) : (gput s r).rows = rput s.me s.rows r ∧ (gput s r).me = s.me ∧ (gput s r).ticks = s.ticks ∧ (gput s r).next = s.next ∧ ∀ x, (gput s r).since x ≤ s.since x := by
  have ha : ∀ x, at1 s.since r.node 0 x ≤ s.since x := fun x => by unfold at1; split <;> omega
  unfold gput rput
  split
  · split
    · split
      · exact ⟨rfl, rfl, rfl, rfl, fun x => Nat.le_refl _⟩
      · exact ⟨rfl, rfl, rfl, rfl, ha⟩
    · exact ⟨rfl, rfl, rfl, rfl, fun x => Nat.le_refl _⟩
  · exact ⟨rfl, rfl, rfl, rfl, ha⟩
def rmerge (me : Nat) (l k : List Row) : List Row := k.foldl (rput me) l
theorem gmerge_rmerge : ∀ (l : List Row) (s : G), (gmerge s l).rows = rmerge s.me s.rows l ∧ (gmerge s l).me = s.me ∧ (gmerge s l).ticks = s.ticks ∧ (gmerge s l).next = s.next ∧ ∀ x, (gmerge s l).since x ≤ s.since x
  | [], s => ⟨rfl, rfl, rfl, rfl, fun x => Nat.le_refl _⟩
  | r :: l, s => by
    obtain ⟨h1, h2, h3, h4, h5⟩ := gput_rput s r
    obtain ⟨i1, i2, i3, i4, i5⟩ := gmerge_rmerge l (gput s r)
    rw [h1, h2] at i1
    exact ⟨i1, i2.trans h2, i3.trans h3, i4.trans h4, fun x => Nat.le_trans (i5 x) (h5 x)⟩
/-- All n nodes live. -/
def rall (n : Nat) : List Row := (List.range n).map (fun i => ⟨i + 1, 0, 1⟩)
theorem rmerge_all : ∀ n < 9, ∀ i < n, rmerge (i + 1) [⟨i + 1, 0, 1⟩] (rall n) = rall n := by decide
theorem rall_len (n : Nat) : (rall n).length = n := by simp [rall]
theorem rall_get (n i : Nat) (h : i < n) : (rall n).getD i noRow = ⟨i + 1, 0, 1⟩ := by
  simp [rall, List.getD_eq_getElem?_getD, List.getElem?_range h]
theorem rall_wf (n : Nat) (h : 0 < n) (h8 : n ≤ 8) : WF (rall n) := by
  refine ⟨fun i j hij hj => ?_, by rw [rall_len]; exact h, fun i hi => ?_⟩
  · rw [rall_len] at hj
    rw [rall_get n i (by omega), rall_get n j hj]
    simp only; omega
  · rw [rall_len] at hi
    rw [rall_get n i hi]
    exact ⟨by simp, by simp only; omega, by simp, by simp, by simp⟩
theorem rall_snoc (n : Nat) : rall (n + 1) = rall n ++ [⟨n + 1, 0, 1⟩] := by simp [rall, List.range_succ]

def upf {α : Type} (f : Nat → α) (i : Nat) (x : α) : Nat → α := fun k => if k = i then x else f k
theorem upf_at {α : Type} (f : Nat → α) (i : Nat) (x : α) : upf f i x i = x := by simp [upf]
theorem upf_ne {α : Type} (f : Nat → α) (i k : Nat) (x : α) (h : k ≠ i) : upf f i x k = f k := by simp [upf, h]
/-- Some nodes in memory: in blocks from B on, apart from one another and from the blocks of Z. -/
structure Net0 (B : Nat) (Z : List Nat) (n : Nat) (w : World) (F : Nat → List Nat) (g : Nat → Nat) (s : Nat → G) : Prop where
  node : ∀ i, i < n → IsG w (F i) (g i) (s i)
  base : ∀ i, i < n → ∀ x ∈ F i, B ≤ x
  apart : ∀ i j, i < n → j < n → i ≠ j → ∀ x ∈ F i, x ∉ F j
  zed : ∀ i, i < n → ∀ x ∈ F i, x ∉ Z
  zlt : ∀ z ∈ Z, z < w.heap.size
def Net (B : Nat) (Z : List Nat) (n : Nat) (w : World) (g : Nat → Nat) (s : Nat → G) : Prop := ∃ F, Net0 B Z n w F g s
/-- What was changed is none of the blocks of Z and lies from B on. -/
def Far (B : Nat) (Z : List Nat) (w w' : World) : Prop := ∃ S, Upd S w w' ∧ (∀ z ∈ Z, z ∉ S) ∧ ∀ x ∈ S, B ≤ x
theorem Far.refl (B : Nat) (Z : List Nat) (w : World) : Far B Z w w := ⟨[], Upd.refl _ _, fun _ _ h => by (cases h), fun _ h => by cases h⟩
theorem Far.trans {B : Nat} {Z : List Nat} {a b c : World} (h : Far B Z a b) (k : Far B Z b c) : Far B Z a c := by
  obtain ⟨S, u, s1, s2⟩ := h
  obtain ⟨T, v, t1, t2⟩ := k
  refine ⟨S ++ T, (u.mono (T := S ++ T) (fun x hx => .inl (by simp [hx]))).trans v (fun x hx => .inl (by simp [hx])), fun z hz hs => ?_, fun x hx => ?_⟩
  · rcases List.mem_append.1 hs with q | q
    · exact s1 z hz q
    · exact t1 z hz q
  · rcases List.mem_append.1 hx with q | q
    · exact s2 x q
    · exact t2 x q
theorem Far.of_nil {B : Nat} {Z : List Nat} {a b : World} (u : Upd [] a b) : Far B Z a b := ⟨[], u, fun _ _ h => by (cases h), fun _ h => by cases h⟩
theorem Far.upd {B : Nat} {Z : List Nat} {w0 a b : World} (h : Far B Z a b) (hB : B = w0.heap.size) (u : Upd [] w0 a) : Upd [] w0 b := by
  obtain ⟨S, v, _, s2⟩ := h
  exact u.trans v (fun x hx => .inr (by rw [← hB]; exact s2 x hx))
theorem Far.size {B : Nat} {Z : List Nat} {a b : World} (h : Far B Z a b) : a.heap.size ≤ b.heap.size := by
  obtain ⟨S, v, _, _⟩ := h
  exact v.size
theorem Far.own {B b0 : Nat} {Z : List Nat} {a b : World} {e : TypeId} {sz n : Nat} {v : Value} {xs : List Value} (h : Far B Z a b) (ho : a.ownsRow b0 e sz v n xs) (hz : ∀ k, v.ownBlock = some k → k ∈ Z) : b.ownsRow b0 e sz v n xs := by
  obtain ⟨S, u, s1, _⟩ := h
  exact own_upd ho u (fun k hk => s1 k (hz k hk))
theorem Far.mono {B : Nat} {Z Z' : List Nat} {a b : World} (h : Far B Z a b) (hz : ∀ z ∈ Z', z ∈ Z) : Far B Z' a b := by
  obtain ⟨S, u, s1, s2⟩ := h
  exact ⟨S, u, fun z hz' => s1 z (hz z hz'), s2⟩
section
variable {B n : Nat} {Z : List Nat} {w w' : World} {g : Nat → Nat} {s : Nat → G}
theorem Net.nil (B : Nat) (w : World) (g : Nat → Nat) (s : Nat → G) : Net B [] 0 w g s := ⟨fun _ => [], fun i h => by omega, fun i h => by omega, fun i j h => by omega, fun i h => by omega, fun z h => by cases h⟩
/-- One node is changed, all others stay. -/
theorem Net.step (h : Net B Z n w g s) {i : Nat} (hi : i < n) : ∃ F, IsG w F (g i) (s i) ∧ (∀ x ∈ F, x ∉ Z ∧ B ≤ x ∧ x < w.heap.size) ∧
    ∀ w' F' s', IsG w' F' (g i) s' → Fresh w F F' → Upd F w w' → B ≤ w.heap.size → Net B Z n w' g (upf s i s') ∧ Far B Z w w' := by
  obtain ⟨F, h⟩ := h
  refine ⟨F i, h.node i hi, fun x hx => ⟨h.zed i hi x hx, h.base i hi x hx, (h.node i hi).lt hx⟩, fun w' F' s' h1 h2 h3 hB => ⟨⟨upf F i F', ?_, ?_, ?_, ?_, ?_⟩, ⟨F i, h3, fun z hz hs => h.zed i hi z hs hz, h.base i hi⟩⟩⟩
  · intro k hk
    by_cases e : k = i
    · subst e; rw [upf_at, upf_at]; exact h1
    · rw [upf_ne _ _ _ _ e, upf_ne _ _ _ _ e]
      exact (h.node k hk).upd h3 (fun x hx => h.apart i k hi hk (fun q => e q.symm) x hx)
  · intro k hk x hx
    by_cases e : k = i
    · subst e; rw [upf_at] at hx
      rcases h2 x hx with q | q
      · exact h.base _ hi x q
      · omega
    · rw [upf_ne _ _ _ _ e] at hx; exact h.base k hk x hx
  · intro k j hk hj hkj x hx
    by_cases e : k = i
    · subst e
      rw [upf_at] at hx
      rw [upf_ne _ _ _ _ (fun q => hkj q.symm)]
      rcases h2 x hx with q | q
      · exact h.apart _ j hi hj hkj x q
      · intro hxj
        have := (h.node j hj).lt hxj
        omega
    · rw [upf_ne _ _ _ _ e] at hx
      by_cases e' : j = i
      · subst e'
        rw [upf_at]
        intro hxj
        rcases h2 x hxj with q | q
        · exact h.apart k _ hk hi e x hx q
        · have := (h.node k hk).lt hx
          omega
      · rw [upf_ne _ _ _ _ e']; exact h.apart k j hk hj hkj x hx
  · intro k hk x hx
    by_cases e : k = i
    · subst e; rw [upf_at] at hx
      rcases h2 x hx with q | q
      · exact h.zed _ hi x q
      · intro hz
        have := h.zlt x hz
        omega
    · rw [upf_ne _ _ _ _ e] at hx; exact h.zed k hk x hx
  · intro z hz
    have := h.zlt z hz
    have := h3.size
    omega
/-- Other blocks are changed; other blocks are kept apart from now on. -/
theorem Net.turn (h : Net B Z n w g s) {S Z' : List Nat} (u : Upd S w w') (hS : ∀ x ∈ S, x ∈ Z) (hZ : ∀ z ∈ Z', (z ∈ Z ∨ w.heap.size ≤ z) ∧ z < w'.heap.size) : Net B Z' n w' g s := by
  obtain ⟨F, h⟩ := h
  refine ⟨F, fun i hi => (h.node i hi).upd u (fun x hx hf => h.zed i hi x hf (hS x hx)), h.base, h.apart, fun i hi x hx hz => ?_, fun z hz => (hZ z hz).2⟩
  rcases (hZ x hz).1 with q | q
  · exact h.zed i hi x hx q
  · have := (h.node i hi).lt hx
    omega
theorem Net.new (h : Net B Z n w g s) (u : Upd [] w w') : Net B Z n w' g s := h.turn u (fun x hx => by cases hx) (fun z hz => by
  obtain ⟨F, h⟩ := h
  have := h.zlt z hz
  have := u.size
  exact ⟨.inl hz, by omega⟩)
theorem Net.zlt (h : Net B Z n w g s) : ∀ z ∈ Z, z < w.heap.size := by obtain ⟨F, h⟩ := h; exact h.zlt
/-- One node more. -/
theorem Net.add (h : Net B Z n w g s) (u : Upd [] w w') (hB : B ≤ w.heap.size) {F' : List Nat} {g' : Nat} {s' : G} (h1 : IsG w' F' g' s') (h2 : ∀ x ∈ F', w.heap.size ≤ x) : Net B Z (n + 1) w' (upf g n g') (upf s n s') := by
  obtain ⟨F, h⟩ := h
  have ne : ∀ k, k < n + 1 → k ≠ n → k < n := fun k h1 h2 => by omega
  refine ⟨upf F n F', ?_, ?_, ?_, ?_, ?_⟩
  · intro k hk
    by_cases e : k = n
    · subst e; rw [upf_at, upf_at, upf_at]; exact h1
    · rw [upf_ne _ _ _ _ e, upf_ne _ _ _ _ e, upf_ne _ _ _ _ e]; exact (h.node k (ne k hk e)).new u
  · intro k hk x hx
    by_cases e : k = n
    · subst e; rw [upf_at] at hx; have := h2 x hx; omega
    · rw [upf_ne _ _ _ _ e] at hx; exact h.base k (ne k hk e) x hx
  · intro k j hk hj hkj x hx
    by_cases e : k = n
    · subst e
      rw [upf_at] at hx
      rw [upf_ne _ _ _ _ (fun q => hkj q.symm)]
      intro hxj
      have := (h.node j (ne j hj (fun q => hkj q.symm))).lt hxj
      have := h2 x hx
      omega
    · rw [upf_ne _ _ _ _ e] at hx
      by_cases e' : j = n
      · subst e'
        rw [upf_at]
        intro hxj
        have := (h.node k (ne k hk e)).lt hx
        have := h2 x hxj
        omega
      · rw [upf_ne _ _ _ _ e']; exact h.apart k j (ne k hk e) (ne j hj e') hkj x hx
  · intro k hk x hx
    by_cases e : k = n
    · subst e; rw [upf_at] at hx
      intro hz
      have := h.zlt x hz
      have := h2 x hx
      omega
    · rw [upf_ne _ _ _ _ e] at hx; exact h.zed k (ne k hk e) x hx
  · intro z hz
    have := h.zlt z hz
    have := u.size
    omega
theorem Net.ext (h : Net B Z n w g s) {g' : Nat → Nat} {s' : Nat → G} (hg : ∀ i, i < n → g' i = g i) (hs : ∀ i, i < n → s' i = s i) : Net B Z n w g' s' := by
  obtain ⟨F, h⟩ := h
  exact ⟨F, fun i hi => by rw [hg i hi, hs i hi]; exact h.node i hi, h.base, h.apart, h.zed, h.zlt⟩
end
/-- Pointers to nodes. -/
def ptrs (g : Nat → Nat) (n : Nat) : List Value := (List.range n).map (fun i => .pointer (some ⟨g i, 0, none⟩))
theorem ptrs_len (g : Nat → Nat) (n : Nat) : (ptrs g n).length = n := by simp [ptrs]
theorem ptrs_get (g : Nat → Nat) (n i : Nat) (h : i < n) : (ptrs g n)[i]? = some (.pointer (some ⟨g i, 0, none⟩)) := by simp [ptrs, List.getElem?_range h]
theorem ptrs_snoc (g : Nat → Nat) (n x : Nat) : ptrs (upf g n x) (n + 1) = ptrs g n ++ [.pointer (some ⟨x, 0, none⟩)] := by
  simp only [ptrs, List.range_succ, List.map_append, List.map_cons, List.map_nil]
  rw [upf_at]
  congr 1
  exact List.map_congr_left (fun i hi => by rw [upf_ne _ _ _ _ (by have := List.mem_range.1 hi; omega)])
theorem ptrs_one (g : Nat → Nat) (n : Nat) : ∀ u ∈ ptrs g n, u.oneCell' = true := fun u hu => by
  simp [ptrs] at hu
  obtain ⟨i, _, rfl⟩ := hu
  rfl
theorem info55 : (Try.prog.info? 55).map (fun i => (i.zero, i.size, i.bytes)) = some (some (.pointer none), 1, 8) := by kernel_rfl
/-- A slice of pointers to nodes. -/
theorem ptr_at {w : World} {b0 : Nat} {v : Value} {n : Nat} {g : Nat → Nat} (h : w.ownsRow b0 55 1 v n (ptrs g n)) {i : Nat} (hi : i < n) :
    ∃ q k, v = .slice (some ⟨q, 0, none⟩) n k ∧ w.cell? ⟨q, i, none⟩ = some (.pointer (some ⟨g i, 0, none⟩)) := by
  obtain ⟨a, k, e, _, _, hc⟩ := own_view h
  obtain ⟨q, rfl, _, c, _⟩ := hc i _ (ptrs_get g n i hi)
  exact ⟨q, k, e, c⟩
theorem rowVals_one (r : Row) : ∀ u ∈ rowVals r, u.oneCell' = true := fun u hu => by
  simp [rowVals] at hu
  rcases hu with rfl | rfl | rfl <;> rfl
/-- A node as it stands at the beginning. -/
def Begun (n tk i : Nat) (s : G) : Prop := s.me = i + 1 ∧ s.ticks = tk ∧ s.rows = rall n ∧ s.next = 0 ∧ ∀ x, s.since x = 0
theorem begun_of (n tk i : Nat) (h : n < 9) (hi : i < n) : Begun n tk i (gmerge (gnew (i + 1) tk) (rall n)) := by
  obtain ⟨h1, h2, h3, h4, h5⟩ := gmerge_rmerge (rall n) (gnew (i + 1) tk)
  exact ⟨h2, h3, h1.trans (rmerge_all n h i hi), h4, fun x => Nat.le_zero.1 (h5 x)⟩
theorem gnew_wf (me tk : Nat) (h1 : 1 ≤ me) (h8 : me ≤ 8) : WF (gnew me tk).rows := by
  refine ⟨fun i j hij hj => ?_, by simp [gnew], fun i hi => ?_⟩
  · simp [gnew] at hj; omega
  · have : i = 0 := by simp [gnew] at hi; omega
    subst this
    exact ⟨h1, h8, by simp [gnew], by simp [gnew], by simp [gnew]⟩

set_option maxHeartbeats 8000000 in
set_option maxRecDepth 100000 in
theorem gossips_any (n tk : Nat) (w : World) (h1 : 1 ≤ n) (h8 : n ≤ 8) (t1 : 1 ≤ tk) (t2 : tk ≤ 100) :
    Calls Try.prog 30 #[.int .i64 (n : Int), .int .i64 (tk : Int)] w fun e w' => ∃ v g s, e = .returned (.tuple #[v, .bool true]) ∧ w'.ownsRow w.heap.size 55 1 v n (ptrs g n) ∧ Net w.heap.size v.ownBlock.toList n w' g s ∧ (∀ i, i < n → Begun n tk i (s i)) ∧ Upd [] w w' := by
  obtain ⟨i55, hi55, hz55a, hz55b, hz55c⟩ := info_parts info55
  obtain ⟨i65, hi65, hz65a, hz65b, hz65c⟩ := info_parts info65
  have HI55 := hid hi55
  have HA55 := hid hz55a
  have HB55 := hid hz55b
  have HC55 := hid hz55c
  have HI65 := hid hi65
  have HA65 := hid hz65a
  have HB65 := hid hz65b
  have HC65 := hid hz65c
  clear hi55 hz55a hz55b hz55c hi65 hz65a hz65b hz65c
  obtain ⟨B, hB⟩ : ∃ B, B = w.heap.size := ⟨_, rfl⟩
  have HBS := hid hB
  have T1 := hid t1
  have T2 := hid t2
  clear t1 t2
  rw [← hB]
  clear hB
  go_enter Try.func30, Try.ntmps30
  go_wp2_with fail
  go_loopg [6, 7, 14] n (fun d v6 v7 v14 wr => ∃ (j : Nat) (g : Nat → Nat), v14 = .int .i64 (j : Int) ∧ j ≤ n ∧ Hid (j + d = n) ∧ Hid (wr.ownsRow B 55 1 v6 j (ptrs g j)) ∧ Hid (wr.ownsRow B 65 3 v7 j (rowCells (rall j))) ∧ Hid (Net B (v6.ownBlock.toList ++ v7.ownBlock.toList) j wr g (fun i => gnew (i + 1) tk)) ∧ Hid (Upd [] w wr))
  case atStart => exact ⟨0, fun _ => 0, rfl, by omega, hid (by omega), hid (World.ownsRow_nil _ _ _ _), hid (World.ownsRow_nil _ _ _ _), hid (Net.nil _ _ _ _), hid (Upd.refl _ _)⟩
  case round =>
    obtain ⟨j, g, rfl, hj, Hd, H6, H7, HN, HU⟩ := hrel
    by_cases hjn : j < n
    · have hj' : (j : Int) < (n : Int) := by omega
      obtain ⟨me, hme⟩ : ∃ me, me = j + 1 := ⟨_, rfl⟩
      have hw : IntKind.i64.wrap ((j : Int) + 1) = (me : Int) := by rw [IntWalk.i64_in _ (by omega)]; omega
      have NW := hid (fun wz => new_any me tk wz (by omega) (by omega) T1.out T2.out)
      have HME := hid hme
      clear hme
      go_wp2_with fail
      refine (NW.out _).mono ?_
      rintro e w1 ⟨F1, g1, rfl, hg1, hu1, hf1⟩
      have HG1 := hid hg1
      have HU1 := hid hu1
      have HF1 := hid hf1
      clear hg1 hu1 hf1
      obtain ⟨a6, k6, e6, -⟩ := own_view H6.out
      obtain ⟨a7, k7, e7, -⟩ := own_view H7.out
      have OW6 := hid (own_new H6.out HU1.out)
      have OW7 := hid (own_new H7.out HU1.out)
      subst e6 e7
      go_wp2_with (first
        | (at_builtin; refine wpList_app (W := w1) rfl (.tmp 30) (.tmp 32) 52 rfl B 55 i55 _ 1 8 Try.underlying52 HI55.out HA55.out HB55.out HC55.out rfl (by decide) (.slice a6 j k6) j (ptrs g j) rfl OW6.out [.pointer (some ⟨g1, 0, none⟩)] 55 (by first | rfl | (rw [World.size_alloc]; rfl)) rfl (by intro u hu; simp at hu; subst hu; rfl) (by omega) (by omega) (by have := HU.out.size; have := HU1.out.size; have := HBS.out; omega) ?_; intro v6' w2 ho6 hu6 hl6; have HO6 := hid ho6; have HU6 := hid hu6; have HL6 := hid hl6; have OX7 := hid (own_upd OW7.out hu6 (fun k hk hs => own_own_ne OW7.out OW6.out (by decide) k hk k (by simpa using hs) rfl)); clear ho6 hu6 hl6)
        | (at_builtin; refine wpList_app (W := w2) rfl (.tmp 34) (.tmp 38) 61 rfl B 65 i65 _ 3 24 Try.underlying61 HI65.out HA65.out HB65.out HC65.out rfl (by decide) (.slice a7 j k7) j (rowCells (rall j)) rfl OX7.out [.int .i64 (me : Int), .int .i64 0, .int .i64 1] 65 (by first | rfl | (rw [World.size_alloc]; rfl)) rfl (rowVals_one ⟨me, 0, 1⟩) (by omega) (by omega) (by have := HU.out.size; have := HU1.out.size; have := HU6.out.size; have := HBS.out; omega) ?_; intro v7' w3 ho7 hu7 hl7; have HO7 := hid ho7; have HU7 := hid hu7; have HL7 := hid hl7; clear ho7 hu7 hl7))
      go_roundg (n - (j + 1))
      case measure => have := Hd.out; omega
      case rel =>
        have hBr : B ≤ wr.heap.size := by have := HU.out.size; have := HBS.out; omega
        have hB1 : B ≤ w1.heap.size := by have := HU1.out.size; omega
        have A1 := HN.out.add HU1.out hBr HG1.out HF1.out
        have A2 := A1.turn (Z' := v6'.ownBlock.toList ++ (Value.slice a7 j k7).ownBlock.toList) HU6.out (fun x hx => List.mem_append_left _ hx) (fun z hz => by
          rcases List.mem_append.1 hz with q | q
          · have q' : v6'.ownBlock = some z := by simpa using q
            refine ⟨?_, own_lt HO6.out z q'⟩
            rcases HL6.out z q' with e | e
            · exact .inl (List.mem_append_left _ (by simpa using e))
            · exact .inr e
          · exact ⟨.inl (List.mem_append_right _ q), own_lt OX7.out z (by simpa using q)⟩)
        have O6 := own_upd HO6.out HU7.out (fun k hk hs => own_own_ne HO6.out OX7.out (by decide) k hk k (by simpa using hs) rfl)
        have A3 := A2.turn (Z' := v6'.ownBlock.toList ++ v7'.ownBlock.toList) HU7.out (fun x hx => List.mem_append_right _ hx) (fun z hz => by
          rcases List.mem_append.1 hz with q | q
          · exact ⟨.inl (List.mem_append_left _ q), own_lt O6 z (by simpa using q)⟩
          · have q' : v7'.ownBlock = some z := by simpa using q
            refine ⟨?_, own_lt HO7.out z q'⟩
            rcases HL7.out z q' with e | e
            · exact .inl (List.mem_append_right _ (by simpa using e))
            · exact .inr e)
        refine ⟨j + 1, upf g j g1, by rw [HME.out], by omega, hid (by omega), hid ?_, hid ?_, hid ?_, hid ?_⟩
        · rw [ptrs_snoc]; exact O6
        · rw [rall_snoc, rowCells_app]
          have h := HO7.out
          rw [HME.out] at h
          exact h
        · refine A3.ext (fun i _ => rfl) (fun i hi => ?_)
          by_cases e : i = j
          · subst e; rw [upf_at, HME.out]
          · rw [upf_ne _ _ _ _ e]
        · have hge : ∀ k, (Value.slice a6 j k6).ownBlock = some k → wr.heap.size ≤ k ∨ B ≤ k := fun k hk => .inr (own_ge OW6.out k hk)
          exact ((HU.out.trans HU1.out (fun x hx => by cases hx)).trans HU6.out (fun x hx => .inr (by rw [← HBS.out]; exact own_ge OW6.out x (by simpa using hx)))).trans HU7.out (fun x hx => .inr (by rw [← HBS.out]; exact own_ge OX7.out x (by simpa using hx)))
    · obtain rfl : j = n := by omega
      obtain ⟨a6, k6, e6, -⟩ := own_view H6.out
      obtain ⟨a7, k7, e7, -⟩ := own_view H7.out
      subst e6 e7
      have Z6 := hid H6.out
      clear hj hjn Hd
      go_wp2_with fail
      go_loopg [43] j (fun d v43 wz => ∃ (i : Nat) (s : Nat → G), v43 = .int .i64 (i : Int) ∧ i ≤ j ∧ Hid (i + d = j) ∧ Hid (Net B ((Value.slice a6 j k6).ownBlock.toList ++ (Value.slice a7 j k7).ownBlock.toList) j wz g s) ∧ Hid (∀ k, k < i → Begun j tk k (s k)) ∧ Hid (∀ k, i ≤ k → s k = gnew (k + 1) tk) ∧ Hid (Upd [] w wz) ∧ Hid (wz.ownsRow B 55 1 (.slice a6 j k6) j (ptrs g j)) ∧ Hid (wz.ownsRow B 65 3 (.slice a7 j k7) j (rowCells (rall j))))
      case atStart => exact ⟨0, _, rfl, by omega, hid (by omega), HN, hid (fun k hk => by omega), hid (fun k _ => rfl), HU, H6, H7⟩
      case round =>
        clear HN HU H6 H7 Z6
        obtain ⟨i, s, rfl, hi, Hd, HN, HS, HT, HU, H6, H7⟩ := hrel
        by_cases hin : i < j
        · have hi' : (i : Int) < (j : Int) := by omega
          obtain ⟨q, k, e, c⟩ := ptr_at H6.out hin
          simp only [Value.slice.injEq] at e
          obtain ⟨rfl, -, rfl⟩ := e
          obtain ⟨F, hg, hF, ST⟩ := HN.out.step hin
          have hs := HT.out i (Nat.le_refl _)
          rw [hs] at hg
          have HA : RowAt wr a7 (rall j) := by
            have h := H7.out
            rw [← rall_len j] at h
            exact rowAt_own (by rw [rall_len] at h ⊢; exact h)
          have h1j : 1 ≤ j := by omega
          have MA := hid (merge_any hg (gnew_wf (i + 1) tk (by omega) (by omega)) ⟨by simp [gnew], by simp [gnew]; omega⟩ a7 (rall j) j k7 (rall_len j).symm (rall_wf j h1j h8).told HA (fun x o e => by
            have q1 : (Value.slice a7 j k7).ownBlock = some x := by rw [e]; rfl
            exact ⟨fun hx => (hF x hx).1 (List.mem_append_right _ (by simpa using q1)), own_lt H7.out x q1⟩))
          have HST := hid ST
          have hBr := hid (show B ≤ wr.heap.size by have := HU.out.size; have := HBS.out; omega)
          clear hg hF ST hs HA h1j
          go_wp2_with fail
          refine MA.out.mono ?_
          rintro e w2 ⟨rfl, F2, m1, m2, m3⟩
          obtain ⟨n1, n2⟩ := HST.out w2 F2 _ m1 m2 m3 hBr.out
          have HN2 := hid n1
          have HF2 := hid n2
          clear m1 m2 m3 n1 n2 HST
          go_wp2_with fail
          go_roundg (j - (i + 1))
          case measure => have := Hd.out; omega
          case rel =>
            refine ⟨i + 1, upf s i (gmerge (gnew (i + 1) tk) (rall j)), by go_num, by omega, hid (by omega), HN2, hid (fun k hk => ?_), hid (fun k hk => ?_), hid (HF2.out.upd HBS.out HU.out), hid ?_, hid ?_⟩
            · by_cases e : k = i
              · subst e; rw [upf_at]; exact begun_of j tk k (by omega) hin
              · rw [upf_ne _ _ _ _ e]; exact HS.out k (by omega)
            · rw [upf_ne _ _ _ _ (by omega)]; exact HT.out k (by omega)
            · exact HF2.out.own H6.out (fun x hx => List.mem_append_left _ (by simpa using hx))
            · exact HF2.out.own H7.out (fun x hx => List.mem_append_right _ (by simpa using hx))
        · go_wp2_with fail
          go_ret2
          have e : i = j := by omega
          refine ⟨_, g, s, rfl, H6.out, HN.out.turn (Upd.refl [] _) (fun x hx => by cases hx) (fun z hz => ⟨.inl (List.mem_append_left _ hz), own_lt H6.out z (by simpa using hz)⟩), fun k hk => HS.out k (by omega), HU.out⟩
end Go.Proofs.Ytgkjkgooonicbaa.Gs
