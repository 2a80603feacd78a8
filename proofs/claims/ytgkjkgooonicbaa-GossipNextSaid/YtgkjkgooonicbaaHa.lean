/- Gossip: Next; round the nodes. -/
import Derived.Test.YtgkjkgooonicbaaGu
namespace Go.Proofs.Ytgkjkgooonicbaa.Gs
open Go Go.RowKit Go.Proofs.Ytgkjkgooonicbaa Go.Proofs.Ytgkjkgooonicbaa.K Go.Proofs.Ytgkjkgooonicbaa.M Go.Proofs.Ytgkjkgooonicbaa.O Go.Proofs.Ytgkjkgooonicbaa.R

/-- Whom to ask after p: the first live one of those that follow. -/
def nxt (live : Nat → Bool) (p : Nat) : Nat → Nat → Option Nat
  | 0, _ => none
  | f + 1, k => if live ((p + k) % 8 + 1) = true then some ((p + k) % 8 + 1) else nxt live p f (k + 1)
theorem nxt_skip (live : Nat → Bool) (p : Nat) : ∀ kk, kk ≤ 8 → (∀ j, j < kk → live ((p + j) % 8 + 1) = false) → nxt live p 8 0 = nxt live p (8 - kk) kk
  | 0, _, _ => rfl
  | kk + 1, h, hj => by
    rw [nxt_skip live p kk (by omega) (fun j q => hj j (by omega)), show 8 - kk = (8 - (kk + 1)) + 1 by omega]
    show (if live ((p + kk) % 8 + 1) = true then _ else _) = _
    rw [if_neg (by rw [hj kk (by omega)]; simp)]
theorem nxt_hit {live : Nat → Bool} {p kk : Nat} (h : kk < 8) (hj : ∀ j, j < kk → live ((p + j) % 8 + 1) = false) (hl : live ((p + kk) % 8 + 1) = true) : nxt live p 8 0 = some ((p + kk) % 8 + 1) := by
  rw [nxt_skip live p kk (by omega) hj, show 8 - kk = (8 - (kk + 1)) + 1 by omega]
  show (if live ((p + kk) % 8 + 1) = true then _ else _) = _
  rw [if_pos hl]
theorem nxt_none {live : Nat → Bool} {p : Nat} (hj : ∀ j, j < 8 → live ((p + j) % 8 + 1) = false) : nxt live p 8 0 = none :=
  nxt_skip live p 8 (by omega) hj
theorem nxt_live {live : Nat → Bool} {p t : Nat} : ∀ f k, nxt live p f k = some t → live t = true ∧ 1 ≤ t ∧ t ≤ 8
  | 0, _, h => by cases h
  | f + 1, k, h => by
    unfold nxt at h
    split at h
    · rename_i q
      cases h
      exact ⟨q, by omega, by omega⟩
    · exact nxt_live f (k + 1) h
/-- A node that may be asked, by the rows. -/
def Lives (s : G) (live : Nat → Bool) : Prop := ∀ t, 1 ≤ t → t ≤ 8 → ((hasRow s.rows t = true ∧ t ≠ s.me ∧ (s.rows.getD (posOf s.rows t) noRow).says ≠ 3) ↔ live t = true)
theorem IsG0.next_set {w : World} {g b : Nat} {s : G} {v : Value} (h : IsG0 w g s v b) (t : Nat) : IsG0 (w.setCell ⟨g, 4, none⟩ (.int .i64 (t : Int))) g { s with next := t } v b := by
  have us : Upd [g] w (w.setCell ⟨g, 4, none⟩ (.int .i64 (t : Int))) := (Upd.refl _ w).setCell (.inl (by simp)) _
  exact ⟨(K.blk_set h.blk 4 _).trans rfl, own_upd h.rows us (fun k hk hs => by simp at hs; subst hs; exact h.vg hk), h.map.upd us (by simpa using h.bg)⟩

set_option maxHeartbeats 4000000 in
set_option maxRecDepth 100000 in
theorem next_any {w : World} {F : List Nat} {g : Nat} {s : G} (h : IsG w F g s) (hs : WF s.rows) (hx : s.next ≤ 8) (live : Nat → Bool) (hl : Lives s live) :
    Calls Try.prog 39 #[.pointer (some ⟨g, 0, none⟩)] w fun e w' => (nxt live s.next 8 0 = none ∧ e = .returned (.tuple #[.int .i64 0, .int .i64 4]) ∧ Upd [] w w') ∨ (∃ t, nxt live s.next 8 0 = some t ∧ e = .returned (.tuple #[.int .i64 (t : Int), .int .i64 0]) ∧ IsG w' F g { s with next := t } ∧ Upd F w w') := by
  obtain ⟨v, b, h0, hF⟩ := h
  obtain ⟨a, k, e1, l1, l2, -⟩ := own_view h0.rows
  subst e1
  obtain ⟨n, hn⟩ : ∃ n, n = s.rows.length := ⟨_, rfl⟩
  obtain ⟨p, hp⟩ : ∃ p, p = s.next := ⟨_, rfl⟩
  have H0 := hid h0
  have HF := hid hF
  have HN := hid hn
  have HP := hid hp
  have HS := hid hs
  have HL := hid hl
  rw [← hn] at l1
  rw [← hp] at hx ⊢
  clear h0 hF hn hs hl hp
  go_enter Try.func39, Try.ntmps39
  go_wp2_with fail
  go_loopg [4] 8 (fun d v4 wr => ∃ (kk : Nat), v4 = .int .i64 (kk : Int) ∧ 1 ≤ kk ∧ kk ≤ 9 ∧ Hid (kk + d = 9) ∧ Hid (∀ j, j + 1 < kk → live ((p + j) % 8 + 1) = false) ∧ Hid (Upd [] w wr))
  case atStart => exact ⟨1, rfl, by omega, by omega, hid (by omega), hid (fun j hj => by omega), hid (Upd.refl _ _)⟩
  case round =>
    obtain ⟨kk, rfl, hk1, hk9, Hd, HA, HU⟩ := hrel
    by_cases hk8 : kk ≤ 8
    · have hk' : (kk : Int) ≤ 8 := by omega
      have HG := hid (H0.out.new HU.out)
      have cg4 := HG.out.cells.2.2.2.2.1
      have cg0 := HG.out.cells.1
      have cg2 := HG.out.cells.2.2.1
      rw [← HP.out] at cg4
      rw [← HN.out] at cg2
      obtain ⟨u1, h1⟩ : ∃ u, u = p + kk := ⟨_, rfl⟩
      obtain ⟨u2, h2⟩ : ∃ u, u = u1 - 1 := ⟨_, rfl⟩
      obtain ⟨u3, h3⟩ : ∃ u, u = u2 % 8 := ⟨_, rfl⟩
      obtain ⟨t, h4⟩ : ∃ t, t = u3 + 1 := ⟨_, rfl⟩
      have hw1 : IntKind.i64.wrap ((p : Int) + (kk : Int)) = (u1 : Int) := by rw [IntWalk.i64_in _ (by omega)]; omega
      have hw2 : IntKind.i64.wrap ((u1 : Int) - 1) = (u2 : Int) := by rw [IntWalk.i64_in _ (by omega)]; omega
      have hw3 : IntKind.i64.wrap ((u2 : Int).tmod 8) = (u3 : Int) := by rw [Int.tmod_eq_emod_of_nonneg (by omega), IntWalk.i64_in _ (by omega)]; omega
      have hw3' : (u2 : Int).tmod 8 = (u3 : Int) := by rw [Int.tmod_eq_emod_of_nonneg (by omega)]; omega
      have hw4 : IntKind.i64.wrap ((u3 : Int) + 1) = (t : Int) := by rw [IntWalk.i64_in _ (by omega)]; omega
      have HT := hid (show t = (p + (kk - 1)) % 8 + 1 by omega)
      clear h1 h2 h3 h4
      have t18 : 1 ≤ t ∧ t ≤ 8 := by have := HT.out; omega
      have LT := hid (HL.out t t18.1 t18.2)
      have NXT := hid (fun (hf : live t = false) => (show ∀ j, j + 1 < kk + 1 → live ((p + j) % 8 + 1) = false from fun j hj => by
        by_cases e : j + 1 = kk
        · rw [show j = kk - 1 by omega, ← HT.out]; exact hf
        · exact HA.out j (by omega)))
      clear t18
      obtain ⟨hb, hhb⟩ : ∃ hb, hb = hasRow s.rows t := ⟨_, rfl⟩
      obtain ⟨ps, hps⟩ : ∃ ps, ps = posOf s.rows t := ⟨_, rfl⟩
      have FD := hid (find_any HG.out HS.out.1 (by have := HS.out.len; omega) t)
      rw [← hhb, ← hps] at FD LT
      have HHB := hid hhb
      have HPS := hid hps
      clear hhb hps
      by_cases hbt : hb = true
      · subst hbt
        have hp1 := (hasRow_iff.1 HHB.out.symm).1
        rw [← HPS.out] at hp1
        obtain ⟨r, k', e, -, -, c2, -⟩ := HG.out.row hp1
        rw [← HN.out] at e hp1
        simp only [Value.slice.injEq] at e
        obtain ⟨rfl, -, rfl⟩ := e
        obtain ⟨sa, hsa⟩ : ∃ x, x = (s.rows.getD ps noRow).says := ⟨_, rfl⟩
        rw [← hsa] at c2 LT
        have hps' : (ps : Int) < (n : Int) := by omega
        clear hsa hp1
        obtain ⟨me, hMe⟩ : ∃ me, me = s.me := ⟨_, rfl⟩
        rw [← hMe] at cg0 LT
        have HMe := hid hMe
        clear hMe
        by_cases hme : t = me
        · have LF := hid (show live t = false by
            rw [Bool.eq_false_iff]
            intro q
            exact (LT.out.2 q).2.1 hme)
          subst hme
          go_wp2_with fail
          refine FD.out.mono ?_
          rintro e w1 ⟨rfl, hu⟩
          have U1 := hid (HU.out.trans hu (fun x hx => by cases hx))
          replace cg0 := hu.cell cg0 (by simp)
          clear hu cg4 cg2 c2
          go_wp2_with fail
          go_roundg (8 - kk)
          case measure => have := Hd.out; omega
          case rel => exact ⟨kk + 1, by go_num, by omega, by omega, hid (by have := Hd.out; omega), hid (NXT.out LF.out), U1⟩
        · have hme' : ((t : Int) != (me : Int)) = true := by rw [bne_iff_ne]; omega
          by_cases hs3 : sa = 3
          · have LF := hid (show live t = false by
              rw [Bool.eq_false_iff]
              intro q
              exact (LT.out.2 q).2.2 hs3)
            subst hs3
            clear hme
            go_wp2_with fail
            refine FD.out.mono ?_
            rintro e w1 ⟨rfl, hu⟩
            have U1 := hid (HU.out.trans hu (fun x hx => by cases hx))
            replace cg0 := hu.cell cg0 (by simp)
            replace cg2 := hu.cell cg2 (by simp)
            replace c2 := hu.cell c2 (by simp)
            clear hu cg4
            go_wp2_with fail
            go_roundg (8 - kk)
            case measure => have := Hd.out; omega
            case rel => exact ⟨kk + 1, by go_num, by omega, by omega, hid (by have := Hd.out; omega), hid (NXT.out LF.out), U1⟩
          · have hsa' : ((sa : Int) != 3) = true := by rw [bne_iff_ne]; omega
            have LF := hid (show live t = true from LT.out.1 ⟨rfl, hme, hs3⟩)
            have K8 := hid hk8
            clear hme hs3
            go_wp2_with fail
            refine FD.out.mono ?_
            rintro e w1 ⟨rfl, hu⟩
            have U1 := hid (HU.out.trans hu (fun x hx => by cases hx))
            have HG1 := hid (HG.out.new hu)
            replace cg0 := hu.cell cg0 (by simp)
            replace cg2 := hu.cell cg2 (by simp)
            replace c2 := hu.cell c2 (by simp)
            replace cg4 := hu.cell cg4 (by simp)
            have fg := K.blk_frozen HG1.out.blk 4
            clear hu
            go_wp2_with fail
            go_ret2
            have us : Upd [g] w1 (w1.setCell ⟨g, 4, none⟩ (.int .i64 (t : Int))) := (Upd.refl _ w1).setCell (.inl (by simp)) _
            refine .inr ⟨t, ?_, rfl, ⟨_, b, HG1.out.next_set t, HF.out⟩, (U1.out.mono (T := F) (fun x hx => by cases hx)).trans us (fun x hx => .inl (by simp at hx; subst hx; rw [HF.out]; exact mem_foot.2 (.inl rfl)))⟩
            have hk := K8.out
            rw [HT.out]
            exact nxt_hit (by omega) (fun j hj => HA.out j (by omega)) (by rw [← HT.out]; exact LF.out)
      · have hbf : hb = false := by simpa using hbt
        subst hbf
        have LF := hid (show live t = false by
          rw [Bool.eq_false_iff]
          intro q
          have := (LT.out.2 q).1
          cases this)
        clear hbt
        go_wp2_with fail
        refine FD.out.mono ?_
        rintro e w1 ⟨rfl, hu⟩
        have U1 := hid (HU.out.trans hu (fun x hx => by cases hx))
        clear hu cg0 cg2 cg4
        go_wp2_with fail
        go_roundg (8 - kk)
        case measure => have := Hd.out; omega
        case rel => exact ⟨kk + 1, by go_num, by omega, by omega, hid (by have := Hd.out; omega), hid (NXT.out LF.out), U1⟩
    · have hk' : ¬ (kk : Int) ≤ 8 := by omega
      go_wp2_with fail
      go_ret2
      refine .inl ⟨nxt_none (fun j hj => HA.out j (by omega)), rfl, HU.out⟩

section
variable {B n : Nat} {Z : List Nat} {w : World} {g : Nat → Nat} {s : Nat → G}
theorem net_next (h : Net B Z n w g s) {i : Nat} (hi : i < n) (hB : B ≤ w.heap.size) (hs : WF (s i).rows) (hx : (s i).next ≤ 8) (live : Nat → Bool) (hl : Lives (s i) live) :
    Calls Try.prog 39 #[.pointer (some ⟨g i, 0, none⟩)] w fun e w' => ∃ s', Net B Z n w' g (upf s i s') ∧ Far B Z w w' ∧ ((nxt live (s i).next 8 0 = none ∧ e = .returned (.tuple #[.int .i64 0, .int .i64 4]) ∧ s' = s i) ∨ (∃ t, nxt live (s i).next 8 0 = some t ∧ e = .returned (.tuple #[.int .i64 (t : Int), .int .i64 0]) ∧ s' = { s i with next := t })) := by
  obtain ⟨F, hg, -, ST⟩ := h.step hi
  refine (next_any hg hs hx live hl).mono ?_
  rintro e w' (⟨h1, rfl, hu⟩ | ⟨t, h1, rfl, h2, h3⟩)
  · refine ⟨s i, ?_, Far.of_nil hu, .inl ⟨h1, rfl, rfl⟩⟩
    have : upf s i (s i) = s := by
      funext k
      unfold upf
      split
      · rename_i q; rw [q]
      · rfl
    rw [this]
    exact h.new hu
  · obtain ⟨n1, n2⟩ := ST w' F _ h2 (fun x hx => .inl hx) h3 hB
    exact ⟨_, n1, n2, .inr ⟨t, h1, rfl, rfl⟩⟩
end
set_option maxHeartbeats 2000000 in
set_option maxRecDepth 100000 in
theorem index_no {w : World} (a : Option Addr) (xs : List Int) (n k : Nat) (x : Int) (hn : n = xs.length) (h : IntRow w a xs) (h8 : xs.length ≤ 100) (hx : x ∉ xs) :
    Calls Try.prog 48 #[.slice a n k, .int .i64 x] w fun e w' => e = .returned (.int .i64 (-1)) ∧ Upd [] w w' := by
  have HN := hid hn
  have H := hid h
  have HX := hid hx
  have hn1 : n ≤ 100 := by omega
  clear hn h hx h8
  go_enter Try.func48, Try.ntmps48
  go_wp2_with fail
  go_loopg [8] n (fun d v8 wr => ∃ (i : Nat), v8 = .int .i64 (i : Int) ∧ i ≤ n ∧ Hid (i + d = n) ∧ Hid (Upd [] w wr))
  case atStart => exact ⟨0, rfl, by omega, hid (by omega), hid (Upd.refl _ _)⟩
  case round =>
    obtain ⟨i, rfl, hi, Hd, HU⟩ := hrel
    by_cases hin : i < n
    · have hil : i < xs.length := by rw [← HN.out]; exact hin
      obtain ⟨xa, rfl, hc⟩ := H.out.upd HU.out i hil
      obtain ⟨y, hy⟩ : ∃ y, y = xs.getD i 0 := ⟨_, rfl⟩
      rw [← hy] at hc
      have hne : (x == y) = false := by
        rw [beq_eq_false_iff_ne]
        intro e
        refine HX.out ?_
        rw [e, hy, List.getD_eq_getElem?_getD, List.getElem?_eq_getElem hil]
        exact List.getElem_mem hil
      have hi' : (i : Int) < (n : Int) := by omega
      clear hy hil
      go_wp2_with fail
      go_roundg (n - (i + 1))
      case measure => have := Hd.out; omega
      case rel => exact ⟨i + 1, by go_num, by omega, hid (by omega), HU⟩
    · go_wp2_with fail
      go_ret
      exact ⟨rfl, HU.out⟩
set_option maxHeartbeats 2000000 in
set_option maxRecDepth 100000 in
theorem contains_no {w : World} (a : Option Addr) (xs : List Int) (n k : Nat) (x : Int) (hn : n = xs.length) (h : IntRow w a xs) (h8 : xs.length ≤ 100) (hx : x ∉ xs) :
    Calls Try.prog 40 #[.slice a n k, .int .i64 x] w fun e w' => e = .returned (.bool false) ∧ Upd [] w w' := by
  have IX := hid (index_no a xs n k x hn h h8 hx)
  clear hn h h8 hx
  go_enter Try.func40, Try.ntmps40
  go_wp2_with fail
  refine IX.out.mono ?_
  rintro e w2 ⟨rfl, hu⟩
  have HU := hid hu
  clear hu
  go_wp2_with fail
  go_ret
  exact ⟨rfl, HU.out⟩
/-- Nodes 1 to n, but for two of them. -/
def liveB (n me dead t : Nat) : Bool := Nat.ble 1 t && (Nat.ble t n && (!(Nat.beq t me) && !(Nat.beq t dead)))
theorem liveB_iff (n me dead t : Nat) : liveB n me dead t = true ↔ 1 ≤ t ∧ t ≤ n ∧ t ≠ me ∧ t ≠ dead := by
  unfold liveB
  simp only [Bool.and_eq_true, Bool.not_eq_true', Nat.ble_eq]
  constructor
  · rintro ⟨h1, h2, h3, h4⟩
    exact ⟨h1, h2, fun q => by rw [q] at h3; simp at h3, fun q => by rw [q] at h4; simp at h4⟩
  · rintro ⟨h1, h2, h3, h4⟩
    exact ⟨h1, h2, by rw [Bool.eq_false_iff]; exact fun q => h3 (Nat.eq_of_beq_eq_true q), by rw [Bool.eq_false_iff]; exact fun q => h4 (Nat.eq_of_beq_eq_true q)⟩
/-- Whom one asks, k times, from p on. -/
def seqN (live : Nat → Bool) : Nat → Nat → List Nat
  | 0, _ => []
  | k + 1, p => match nxt live p 8 0 with
    | none => []
    | some t => t :: seqN live k t
def othersN (n me dead : Nat) : Nat := if me = dead then n - 1 else n - 2
def nodupB : List Nat → Bool
  | [] => true
  | x :: l => !(l.any (fun y => Nat.beq y x)) && nodupB l
def chk (n me dead p : Nat) : Bool :=
  let o := bif Nat.beq me dead then n - 1 else n - 2
  let l := seqN (liveB n me dead) (o + 1) p
  bif Nat.beq o 0 then (l.isEmpty) else (Nat.beq l.length (o + 1) && (nodupB (l.take o) && Nat.beq (l.getD o 0) (l.getD 0 0)))
def chkAll : Bool := (List.range 9).all fun n => (Nat.ble n 1) || (List.range n).all fun me => (List.range n).all fun dead => (List.range 9).all fun p => chk n (me + 1) (dead + 1) p
set_option maxRecDepth 1000000 in
theorem chk_all : chkAll = true := by kernel_rfl
theorem sayAt_get' (l : List Row) (k sa j : Nat) (hk : k < l.length) : (sayAt l k sa).getD j noRow = if j = k then ⟨(l.getD k noRow).node, (l.getD k noRow).turn, sa⟩ else l.getD j noRow := by
  unfold sayAt
  rw [getD_set l k _ j hk]
theorem nodupB_iff : ∀ l : List Nat, nodupB l = true → l.Nodup
  | [], _ => List.nodup_nil
  | x :: l, h => by
    simp only [nodupB, Bool.and_eq_true, Bool.not_eq_true'] at h
    refine List.nodup_cons.2 ⟨fun hx => ?_, nodupB_iff l h.2⟩
    have : l.any (fun y => Nat.beq y x) = true := List.any_eq_true.2 ⟨x, hx, Nat.beq_refl x⟩
    rw [this] at h
    cases h.1
/-- Round the nodes, from whatever node on: each once, ahead of anybody twice. -/
theorem round_all {n me dead p : Nat} (h2 : 2 ≤ n) (h8 : n ≤ 8) (m1 : 1 ≤ me) (m2 : me ≤ n) (d1 : 1 ≤ dead) (d2 : dead ≤ n) (hp : p ≤ 8) {o : Nat} (ho : o = if me = dead then n - 1 else n - 2) :
    (o = 0 → seqN (liveB n me dead) (o + 1) p = []) ∧ (0 < o → (seqN (liveB n me dead) (o + 1) p).length = o + 1 ∧ ((seqN (liveB n me dead) (o + 1) p).take o).Nodup ∧ (seqN (liveB n me dead) (o + 1) p).getD o 0 = (seqN (liveB n me dead) (o + 1) p).getD 0 0) := by
  have h := chk_all
  unfold chkAll at h
  have h := List.all_eq_true.1 h n (List.mem_range.2 (by omega))
  rw [Bool.or_eq_true] at h
  rcases h with h | h
  · rw [Nat.ble_eq] at h; omega
  have h := List.all_eq_true.1 h (me - 1) (List.mem_range.2 (by omega))
  have h := List.all_eq_true.1 h (dead - 1) (List.mem_range.2 (by omega))
  have h := List.all_eq_true.1 h p (List.mem_range.2 (by omega))
  rw [show me - 1 + 1 = me by omega, show dead - 1 + 1 = dead by omega] at h
  unfold chk at h
  have ho' : (bif Nat.beq me dead then n - 1 else n - 2) = o := by
    rw [ho]
    by_cases e : me = dead
    · subst e; rw [Nat.beq_refl, if_pos rfl]; rfl
    · rw [show Nat.beq me dead = false by rw [Bool.eq_false_iff]; exact fun q => e (Nat.eq_of_beq_eq_true q), if_neg e]; rfl
  simp only [ho'] at h
  refine ⟨fun e => ?_, fun e => ?_⟩
  · rw [e] at h ⊢
    have h : (seqN (liveB n me dead) (0 + 1) p).isEmpty = true := h
    exact List.isEmpty_iff.1 h
  · rw [show Nat.beq o 0 = false by rw [Bool.eq_false_iff]; exact fun q => by have := Nat.eq_of_beq_eq_true q; omega] at h
    simp only [cond_false, Bool.and_eq_true] at h
    exact ⟨Nat.eq_of_beq_eq_true h.1, nodupB_iff _ h.2.1, Nat.eq_of_beq_eq_true h.2.2⟩
def nats (l : List Nat) : List Value := l.map (fun t : Nat => .int .i64 (t : Int))
theorem nats_row {w : World} {b0 : Nat} {a : Option Addr} {n k : Nat} {l : List Nat} (h : w.ownsRow b0 3 1 (.slice a n k) n (nats l)) : IntRow w a (l.map (fun t : Nat => (t : Int))) := fun i hi => by
  obtain ⟨a', k', e, _, _, hc⟩ := own_view h
  simp only [Value.slice.injEq] at e
  obtain ⟨rfl, _, _⟩ := e
  have hi' : i < l.length := by simpa using hi
  obtain ⟨g, rfl, _, c, _⟩ := hc i (.int .i64 ((l.map (fun t : Nat => (t : Int))).getD i 0)) (by simp [nats, List.getElem?_map, List.getElem?_eq_getElem hi', List.getD_eq_getElem?_getD])
  exact ⟨_, rfl, by rw [show (⟨g, 0, none⟩ : Addr).add i = ⟨g, i, none⟩ from addl g i]; exact c⟩
theorem info3 : (Try.prog.info? 3).map (fun i => (i.zero, i.size, i.bytes)) = some (some (.int .i64 0), 1, 8) := by kernel_rfl
theorem Full.no {n t : Nat} {l : List Row} (h : Full n l) (ht : n < t) : hasRow l t = false := by
  rw [Bool.eq_false_iff]
  intro q
  obtain ⟨q1, q2⟩ := hasRow_iff.1 q
  have := h.2 _ (by rw [h.1] at q1; exact q1)
  have := h.1
  omega
/-- The node that asks, ready for Next. -/
structure NS (live : Nat → Bool) (s : G) : Prop where
  wf : WF s.rows
  live : Lives s live
  next : s.next ≤ 8
theorem NS.of_full {n me dead : Nat} {s : G} (hw : WF s.rows) (hf : Full n s.rows) (_h8 : n ≤ 8) (hm : s.me = me) (hx : s.next ≤ 8) (hs : ∀ k, k < n → k + 1 ≠ me → ((s.rows.getD k noRow).says = 3 ↔ k + 1 = dead)) : NS (liveB n me dead) s := by
  refine ⟨hw, fun t t1 t8 => ?_, hx⟩
  rw [liveB_iff, hm]
  by_cases ht : t ≤ n
  · obtain ⟨k, rfl⟩ : ∃ k, t = k + 1 := ⟨t - 1, by omega⟩
    rw [hf.pos (k := k) (by omega)]
    have hh := hf.has (k := k) (by omega)
    have := hs k (by omega)
    constructor
    · rintro ⟨_, p1, p2⟩
      exact ⟨t1, ht, p1, fun q => p2 ((this p1).2 q)⟩
    · rintro ⟨_, _, p1, p2⟩
      exact ⟨hh, p1, fun q => p2 ((this p1).1 q)⟩
  · constructor
    · rintro ⟨q, _⟩
      rw [hf.no (by omega)] at q
      cases q
    · rintro ⟨_, q, _⟩
      omega
theorem NS.go {live : Nat → Bool} {s : G} (h : NS live s) {t : Nat} (ht : t ≤ 8) : NS live { s with next := t } := ⟨h.wf, h.live, ht⟩
/-- Doubted and dead at once. -/
theorem tick_dead {n k : Nat} {s : G} (hf : Full n s.rows) (hk : k < n) (ht : s.ticks = 1) (h2 : (s.rows.getD k noRow).says = 2) (h1 : ∀ j, j ≠ k → (s.rows.getD j noRow).says ≠ 2) : (tickN s n).rows = sayAt s.rows k 3 ∧ (tickN s n).me = s.me ∧ (tickN s n).next = s.next := by
  have hkl : k < s.rows.length := by rw [hf.1]; exact hk
  have e0 : tickN s k = s := tickN_quiet s k (fun i hi => h1 i (by omega))
  obtain ⟨s3, hs3⟩ : ∃ s3, s3 = tick1 s k := ⟨_, rfl⟩
  have q : s3.rows = sayAt s.rows k 3 ∧ s3.me = s.me ∧ s3.next = s.next := by
    rw [hs3]
    unfold tick1
    rw [if_pos h2, if_pos (by rw [ht]; omega)]
    exact ⟨rfl, rfl, rfl⟩
  have qs : ∀ i, (s3.rows.getD i noRow).says ≠ 2 := fun i => by
    rw [q.1, sayAt_get' _ _ _ _ hkl]
    split
    · simp
    · rename_i c; exact h1 i c
  have e1 : ∀ m, k < m → tickN s m = s3 := fun m => by
    induction m with
    | zero => intro h; omega
    | succ m ih =>
      intro h
      show tick1 (tickN s m) m = s3
      by_cases c : m = k
      · rw [c, e0, hs3]
      · rw [ih (by omega)]
        exact tick1_quiet s3 m (qs m)
  rw [e1 n hk]
  exact q
end Go.Proofs.Ytgkjkgooonicbaa.Gs
