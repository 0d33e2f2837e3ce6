/- Two that take the same locks, rising, come to an end: the plain law, on lists of numbers. -/
import Derived.Test.YtpemlpahpbpbeaaStep
namespace Go.Proofs.Ytpemlpahpbpbeaa.Lk

theorem set_get (bs : List Int) (x i : Nat) (v : Int) (hx : x < bs.length) : (bs.set x v).getD i 0 = if i = x then v else bs.getD i 0 := by
  by_cases h : i = x
  · subst h; simp [hx]
  · rw [if_neg h]
    simp only [List.getD_eq_getElem?_getD]
    rw [List.getElem?_set_ne (by omega)]
theorem frees_get (l : List Int) (bs : List Int) (i : Nat) (hl : ∀ y ∈ l, y.toNat < bs.length) : (frees bs l).getD i 0 = if ∃ y ∈ l, y.toNat = i then -1 else bs.getD i 0 := by
  unfold frees
  induction l generalizing bs with
  | nil => simp
  | cons x r ih =>
    rw [List.foldl_cons, ih _ (by intro y hy; simpa using hl y (List.mem_cons_of_mem _ hy)), set_get _ _ _ _ (hl x (List.mem_cons_self ..))]
    by_cases h1 : ∃ y ∈ r, y.toNat = i
    · rw [if_pos h1, if_pos (by obtain ⟨y, hy, e⟩ := h1; exact ⟨y, List.mem_cons_of_mem _ hy, e⟩)]
    · rw [if_neg h1]
      by_cases h2 : i = x.toNat
      · rw [if_pos h2, if_pos ⟨x, List.mem_cons_self .., h2.symm⟩]
      · rw [if_neg h2, if_neg (by
          rintro ⟨y, hy, e⟩
          rcases List.mem_cons.1 hy with rfl | hy
          · exact h2 e.symm
          · exact h1 ⟨y, hy, e⟩)]
theorem heldL_mem (bs : List Int) (who : Int) (hw : 0 ≤ who ∧ who < 16) (y : Int) : y ∈ heldL bs who ↔ ∃ k : Nat, k < 5 ∧ bs.getD k 0 = who ∧ y = k := by
  unfold heldL
  rw [if_pos hw]
  unfold heldTo
  rw [List.mem_map]
  constructor
  · rintro ⟨k, hk, rfl⟩
    have := List.mem_filter.1 hk
    exact ⟨k, by simpa using this.1, by simpa using this.2, rfl⟩
  · rintro ⟨k, h5, hb, rfl⟩
    exact ⟨k, List.mem_filter.2 ⟨by simpa using h5, by simpa using hb⟩, rfl⟩
theorem frees_held (bs : List Int) (who : Int) (hw : 0 ≤ who ∧ who < 16) (h5 : bs.length = 5) (i : Nat) (hi : i < 5) : (frees bs (heldL bs who)).getD i 0 = if bs.getD i 0 = who then -1 else bs.getD i 0 := by
  rw [frees_get _ _ _ (by
    intro y hy
    obtain ⟨k, hk, _, rfl⟩ := (heldL_mem bs who hw y).1 hy
    simp; omega)]
  by_cases h : bs.getD i 0 = who
  · rw [if_pos h, if_pos ⟨(i : Int), (heldL_mem bs who hw i).2 ⟨i, hi, h, rfl⟩, by simp⟩]
  · rw [if_neg h, if_neg (by
      rintro ⟨y, hy, e⟩
      obtain ⟨k, hk, hb, rfl⟩ := (heldL_mem bs who hw y).1 hy
      simp at e; subst e; exact h hb)]

/-- Who holds just the locks of the list that lie ahead of place a. -/
def Holds (bs : List Int) (who : Int) (L : List Int) (a : Nat) : Prop := ∀ i : Nat, i < 5 → (bs.getD i 0 = who ↔ a ≤ L.length ∧ ∃ j, j < a ∧ L.getD j 0 = i)
theorem Rise.lt {L : List Int} {k : Nat} (h : Rise L k) (i j : Nat) (hij : i < j) (hj : j < L.length) : L.getD i 0 < L.getD j 0 := by
  induction j with
  | zero => omega
  | succ j ih =>
    have h1 := h.2 j hj
    rcases Nat.lt_or_ge i j with h | h
    · have := ih h (by omega); omega
    · obtain rfl : i = j := by omega
      exact h1

theorem step_law (who oth : Int) (hw : 0 ≤ who ∧ who < 16) (ho : 0 ≤ oth) (hne : who ≠ oth) (L M bs : List Int) (a b : Nat) (h5 : bs.length = 5) (hL : Rise L 5)
    (hA : Holds bs who L a) (hB : Holds bs oth M b) (hall : ∀ i : Nat, i < 5 → bs.getD i 0 = -1 ∨ bs.getD i 0 = who ∨ bs.getD i 0 = oth) (ha : a ≤ L.length + 1) :
    (stB who L bs a).length = 5 ∧ Holds (stB who L bs a) who L (stA who L bs a) ∧ Holds (stB who L bs a) oth M b ∧ (∀ i : Nat, i < 5 → (stB who L bs a).getD i 0 = -1 ∨ (stB who L bs a).getD i 0 = who ∨ (stB who L bs a).getD i 0 = oth) ∧
    stA who L bs a ≤ L.length + 1 ∧ (stA who L bs a = a + 1 ∨ (stA who L bs a = a ∧ stB who L bs a = bs ∧ (a = L.length + 1 ∨ (a < L.length ∧ ∃ x : Nat, x < 5 ∧ L.getD a 0 = x ∧ bs.getD x 0 = oth)))) := by
  by_cases h1 : a < L.length
  · obtain ⟨x, hx5, hx⟩ := hL.1 a h1
    have hab : above bs who x = false := by
      refine above_no (fun i hi hxi hbi => ?_)
      obtain ⟨_, j, hj, hji⟩ := (hA i hi).1 hbi
      have := hL.lt j a hj h1
      omega
    have hr : right who x := ⟨hw, by omega, by omega⟩
    by_cases hf : bs.getD x 0 = -1
    · have e0 : tryE bs who x = 0 := by
        unfold tryE
        rw [if_neg (fun h => h hr), Int.toNat_natCast, if_neg (by rw [hab]; decide), if_neg (fun h => h hf)]
      have eb : stB who L bs a = bs.set x who := by unfold stB tryB; rw [if_pos h1, hx, e0, if_pos rfl, Int.toNat_natCast]
      have ea : stA who L bs a = a + 1 := by unfold stA; rw [if_pos h1, hx, e0, if_pos rfl]
      rw [eb, ea]
      have hget : ∀ i, (bs.set x who).getD i 0 = if i = x then who else bs.getD i 0 := fun i => set_get bs x i who (by omega)
      refine ⟨by simp [h5], ?_, ?_, ?_, by omega, .inl rfl⟩
      · intro i hi
        rw [hget i]
        by_cases e : i = x
        · subst e
          rw [if_pos rfl]
          exact ⟨fun _ => ⟨by omega, a, by omega, hx⟩, fun _ => rfl⟩
        · rw [if_neg e, hA i hi]
          constructor
          · rintro ⟨_, j, hj, hji⟩; exact ⟨by omega, j, by omega, hji⟩
          · rintro ⟨_, j, hj, hji⟩
            refine ⟨by omega, j, ?_, hji⟩
            rcases Nat.lt_or_ge j a with h | h
            · exact h
            · obtain rfl : j = a := by omega
              rw [hx] at hji; omega
      · intro i hi
        rw [hget i]
        by_cases e : i = x
        · subst e
          rw [if_pos rfl]
          exact ⟨fun h => absurd h hne, fun h => by have := (hB i hi).2 h; omega⟩
        · rw [if_neg e]; exact hB i hi
      · intro i hi
        rw [hget i]
        by_cases e : i = x
        · rw [if_pos e]; exact .inr (.inl rfl)
        · rw [if_neg e]; exact hall i hi
    · have e0 : tryE bs who x = 8 := by
        unfold tryE
        rw [if_neg (fun h => h hr), Int.toNat_natCast, if_neg (by rw [hab]; decide), if_pos hf]
      have eb : stB who L bs a = bs := by unfold stB tryB; rw [if_pos h1, hx, e0, if_neg (by decide)]
      have ea : stA who L bs a = a := by unfold stA; rw [if_pos h1, hx, e0, if_neg (by decide)]
      rw [eb, ea]
      refine ⟨h5, hA, hB, hall, ha, .inr ⟨rfl, rfl, .inr ⟨h1, x, hx5, hx, ?_⟩⟩⟩
      rcases hall x hx5 with h | h | h
      · exact absurd h hf
      · obtain ⟨_, j, hj, hji⟩ := (hA x hx5).1 h
        have := hL.lt j a hj h1
        omega
      · exact h
  · by_cases h2 : a = L.length
    · have eb : stB who L bs a = frees bs (heldL bs who) := by unfold stB; rw [if_neg h1, if_pos h2]
      have ea : stA who L bs a = a + 1 := by unfold stA; rw [if_neg h1, if_pos h2]
      rw [eb, ea]
      have hget := frees_held bs who hw h5
      refine ⟨by rw [frees_len, h5], ?_, ?_, ?_, by omega, .inl rfl⟩
      · intro i hi
        rw [hget i hi]
        refine ⟨fun h => ?_, fun h => by omega⟩
        split at h <;> omega
      · intro i hi
        rw [hget i hi]
        by_cases e : bs.getD i 0 = who
        · rw [if_pos e]
          exact ⟨fun h => by omega, fun h => by have := (hB i hi).2 h; omega⟩
        · rw [if_neg e]; exact hB i hi
      · intro i hi
        rw [hget i hi]
        by_cases e : bs.getD i 0 = who
        · rw [if_pos e]; exact .inl rfl
        · rw [if_neg e]; exact hall i hi
    · have eb : stB who L bs a = bs := by unfold stB; rw [if_neg h1, if_neg h2]
      have ea : stA who L bs a = a := by unfold stA; rw [if_neg h1, if_neg h2]
      rw [eb, ea]
      exact ⟨h5, hA, hB, hall, ha, .inr ⟨rfl, rfl, .inl (by omega)⟩⟩

/-- What holds of the two at every point. -/
structure Inv (L M bs : List Int) (a b : Nat) : Prop where
  five : bs.length = 5
  one : Holds bs 0 L a
  two : Holds bs 1 M b
  all : ∀ i : Nat, i < 5 → bs.getD i 0 = -1 ∨ bs.getD i 0 = 0 ∨ bs.getD i 0 = 1
  oneLe : a ≤ L.length + 1
  twoLe : b ≤ M.length + 1
theorem Inv.begin (L M : List Int) : Inv L M noneHeld 0 0 := by
  have h : ∀ i : Nat, i < 5 → noneHeld.getD i 0 = -1 := by
    intro i hi
    match i, hi with
    | 0, _ => rfl
    | 1, _ => rfl
    | 2, _ => rfl
    | 3, _ => rfl
    | 4, _ => rfl
  refine ⟨rfl, fun i hi => ?_, fun i hi => ?_, fun i hi => .inl (h i hi), by omega, by omega⟩
  · rw [h i hi]; exact ⟨fun h => by omega, fun ⟨_, j, hj, _⟩ => by omega⟩
  · rw [h i hi]; exact ⟨fun h => by omega, fun ⟨_, j, hj, _⟩ => by omega⟩
theorem Inv.zero {L M bs : List Int} {a b : Nat} (h : Inv L M bs a b) (hL : Rise L 5) : Inv L M (stB 0 L bs a) (stA 0 L bs a) b := by
  obtain ⟨h1, h2, h3, h4, h5, _⟩ := step_law 0 1 (by decide) (by decide) (by decide) L M bs a b h.five hL h.one h.two h.all h.oneLe
  exact ⟨h1, h2, h3, h4, h5, h.twoLe⟩
theorem Inv.one' {L M bs : List Int} {a b : Nat} (h : Inv L M bs a b) (hM : Rise M 5) : Inv L M (stB 1 M bs b) a (stA 1 M bs b) := by
  obtain ⟨h1, h2, h3, h4, h5, _⟩ := step_law 1 0 (by decide) (by decide) (by decide) M L bs b a h.five hM h.two h.one (fun i hi => by have := h.all i hi; omega) h.twoLe
  exact ⟨h1, h3, h2, fun i hi => by have := h4 i hi; omega, h.oneLe, h5⟩

/-- A turn of each: who is not at the end gets on. -/
theorem both_turn {L M bs : List Int} {a b : Nat} (h : Inv L M bs a b) (hL : Rise L 5) (hM : Rise M 5) :
    (a = L.length + 1 ∧ b = M.length + 1) ∨ a + b + 1 ≤ stA 0 L bs a + stA 1 M (stB 0 L bs a) b := by
  obtain ⟨_, _, _, _, _, h0⟩ := step_law 0 1 (by decide) (by decide) (by decide) L M bs a b h.five hL h.one h.two h.all h.oneLe
  have hi := h.zero hL
  obtain ⟨_, _, _, _, _, h1⟩ := step_law 1 0 (by decide) (by decide) (by decide) M L _ b _ hi.five hM hi.two hi.one (fun i hj => by have := hi.all i hj; omega) hi.twoLe
  rcases h0 with h0 | ⟨h0, hb, h0'⟩
  · right
    rcases h1 with h1 | ⟨h1, _, _⟩ <;> omega
  · rw [hb] at h1
    rw [h0, hb]
    rcases h1 with h1 | ⟨h1, _, h1'⟩
    · right; omega
    · rcases h0' with h0' | ⟨ha, x, hx5, hx, hxo⟩
      · rcases h1' with h1' | ⟨hb', y, hy5, hy, hyo⟩
        · left; exact ⟨h0', h1'⟩
        · have := ((h.one y hy5).1 hyo).1
          omega
      · rcases h1' with h1' | ⟨hb', y, hy5, hy, hyo⟩
        · have := ((h.two x hx5).1 hxo).1
          omega
        · obtain ⟨_, j, hj, hjx⟩ := (h.two x hx5).1 hxo
          obtain ⟨_, i, hi', hiy⟩ := (h.one y hy5).1 hyo
          have q1 := hM.lt j b hj hb'
          have q2 := hL.lt i a hi' ha
          omega
theorem Rise.len {L : List Int} (h : Rise L 5) : L.length ≤ 5 := by
  have key : ∀ i, i < L.length → (i : Int) ≤ L.getD i 0 := by
    intro i hi
    induction i with
    | zero => obtain ⟨m, _, hm⟩ := h.1 0 hi; omega
    | succ i ih => have := ih (by omega); have := h.2 i hi; omega
  rcases Nat.lt_or_ge L.length 6 with h' | h'
  · omega
  · have := key 5 (by omega)
    obtain ⟨m, hm, e⟩ := h.1 5 (by omega)
    omega
end Go.Proofs.Ytpemlpahpbpbeaa.Lk
