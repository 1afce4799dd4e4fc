/-
  Plain law: two lines between points of a grid cross. No program in sight.
-/
import Derived.Test.YtfnkdimgmhhpiaaPl1
set_option linter.unusedVariables false
set_option linter.unusedSimpArgs false
namespace Go.Lg

/-- Twice the area of a triangle, with a sign. -/
def tri (ax ay bx bz cx cy : Int) : Int := (bx - ax) * (cy - ay) - (bz - ay) * (cx - ax)
def opp (p q : Int) : Prop := (p < 0 ∧ 0 < q) ∨ (q < 0 ∧ 0 < p)
def onSeg (ax ay bx bz cx cy : Int) : Prop := tri ax ay bx bz cx cy = 0 ∧ (ax - cx) * (bx - cx) ≤ 0 ∧ (ay - cy) * (bz - cy) ≤ 0
def dotP (ax ay bx bz cx cy : Int) : Int := (cx - ax) * (bx - ax) + (cy - ay) * (bz - ay)

instance (p q : Int) : Decidable (opp p q) := by unfold opp; exact inferInstance
instance (ax ay bx bz cx cy : Int) : Decidable (onSeg ax ay bx bz cx cy) := by unfold onSeg; exact inferInstance

theorem sq_pos {u : Int} (h : u ≠ 0) : 0 < u * u := by
  rcases Int.lt_trichotomy u 0 with h1 | h1 | h1
  · exact Int.mul_pos_of_neg_of_neg h1 h1
  · exact absurd h1 h
  · exact Int.mul_pos h1 h1

theorem sq_nonneg (u : Int) : 0 ≤ u * u := by
  by_cases h : u = 0
  · subst h; decide
  · exact Int.le_of_lt (sq_pos h)

/-- One coordinate: the product of two differences has the sign that it has along the line. -/
theorem diff_le {N X G v : Int} (hN : 0 < N) (h : N * N * X = G * (v * v)) (hG : G ≤ 0) : X ≤ 0 := by
  rw [← Int.not_lt]
  intro hX
  have h1 : 0 < N * N * X := Int.mul_pos (Int.mul_pos hN hN) hX
  have h2 : G * (v * v) ≤ 0 := Int.mul_nonpos_of_nonpos_of_nonneg hG (sq_nonneg v)
  omega

theorem diff_pos {N X G v : Int} (hN : 0 < N) (h : N * N * X = G * (v * v)) (hG : 0 < G) (hv : v ≠ 0) : 0 < X := by
  rw [← Int.not_le]
  intro hX
  have h1 : N * N * X ≤ 0 := Int.mul_nonpos_of_nonneg_of_nonpos (Int.le_of_lt (Int.mul_pos hN hN)) hX
  have h2 : 0 < G * (v * v) := Int.mul_pos hG (sq_pos hv)
  omega

theorem prod_le {x y : Int} : x * y ≤ 0 ↔ (x ≤ 0 ∧ 0 ≤ y) ∨ (0 ≤ x ∧ y ≤ 0) := by
  constructor
  · intro h
    rcases Int.lt_trichotomy x 0 with h1 | h1 | h1
    · left
      refine ⟨by omega, ?_⟩
      rw [← Int.not_lt]
      intro h2
      have := Int.mul_pos_of_neg_of_neg h1 h2
      omega
    · omega
    · right
      refine ⟨by omega, ?_⟩
      rw [← Int.not_lt]
      intro h2
      have := Int.mul_pos h1 h2
      omega
  · rintro (⟨h1, h2⟩ | ⟨h1, h2⟩)
    · exact Int.mul_nonpos_of_nonpos_of_nonneg h1 h2
    · exact Int.mul_nonpos_of_nonneg_of_nonpos h1 h2

/-- A point strictly between two others, on their line. -/
theorem strict {N ux uy gi gj gk xi yi xj yj xk yk : Int} (hN : 0 < N) (hu : ¬ (ux = 0 ∧ uy = 0)) (h1 : N * xi = gi * ux) (h2 : N * yi = gi * uy) (h3 : N * xj = gj * ux) (h4 : N * yj = gj * uy) (h5 : N * xk = gk * ux) (h6 : N * yk = gk * uy) :
    (((xi - xk) * (xj - xk) ≤ 0 ∧ (yi - yk) * (yj - yk) ≤ 0) ∧ ¬ (xk = xi ∧ yk = yi) ∧ ¬ (xk = xj ∧ yk = yj)) ↔ ((gi < gk ∧ gk < gj) ∨ (gj < gk ∧ gk < gi)) := by
  have ex : N * N * ((xi - xk) * (xj - xk)) = ((gi - gk) * (gj - gk)) * (ux * ux) := by
    have : N * N * ((xi - xk) * (xj - xk)) = (N * xi - N * xk) * (N * xj - N * xk) := by grind
    rw [this, h1, h3, h5]; grind
  have ey : N * N * ((yi - yk) * (yj - yk)) = ((gi - gk) * (gj - gk)) * (uy * uy) := by
    have : N * N * ((yi - yk) * (yj - yk)) = (N * yi - N * yk) * (N * yj - N * yk) := by grind
    rw [this, h2, h4, h6]; grind
  have hne : N ≠ 0 := by omega
  have eqi : ∀ {g x y : Int}, N * x = g * ux → N * y = g * uy → ((xk = x ∧ yk = y) ↔ gk = g) := by
    intro g x y e1 e2
    constructor
    · rintro ⟨rfl, rfl⟩
      by_cases hx : ux = 0
      · have hy : uy ≠ 0 := fun h => hu ⟨hx, h⟩
        exact Int.eq_of_mul_eq_mul_right hy (by rw [← h6, ← e2])
      · exact Int.eq_of_mul_eq_mul_right hx (by rw [← h5, ← e1])
    · rintro rfl
      exact ⟨Int.eq_of_mul_eq_mul_left hne (by rw [h5, e1]), Int.eq_of_mul_eq_mul_left hne (by rw [h6, e2])⟩
  rw [eqi h1 h2, eqi h3 h4]
  have hG : ((xi - xk) * (xj - xk) ≤ 0 ∧ (yi - yk) * (yj - yk) ≤ 0) ↔ (gi - gk) * (gj - gk) ≤ 0 := by
    constructor
    · rintro ⟨l1, l2⟩
      rw [← Int.not_lt]
      intro hG
      by_cases hx : ux = 0
      · have hy : uy ≠ 0 := fun h => hu ⟨hx, h⟩
        have := diff_pos hN ey hG hy
        omega
      · have := diff_pos hN ex hG hx
        omega
    · intro hG
      exact ⟨diff_le hN ex hG, diff_le hN ey hG⟩
  rw [hG, prod_le]
  omega

/-- What the program says. -/
def ImplX (ax ay bx bz cx cy dx dy : Int) : Prop :=
  if tri ax ay bx bz cx cy = 0 ∧ tri ax ay bx bz dx dy = 0 then
    max (min (dotP ax ay bx bz cx cy) (dotP ax ay bx bz dx dy)) 0 < min (max (dotP ax ay bx bz cx cy) (dotP ax ay bx bz dx dy)) (dotP ax ay bx bz bx bz)
  else if (ax = cx ∧ ay = cy) ∨ (ax = dx ∧ ay = dy) ∨ (bx = cx ∧ bz = cy) ∨ (bx = dx ∧ bz = dy) then False
  else (opp (tri ax ay bx bz cx cy) (tri ax ay bx bz dx dy) ∧ opp (tri cx cy dx dy ax ay) (tri cx cy dx dy bx bz)) ∨ onSeg ax ay bx bz cx cy ∨ onSeg ax ay bx bz dx dy ∨ onSeg cx cy dx dy ax ay ∨ onSeg cx cy dx dy bx bz

/-- What the reference says. -/
def SpecX (ax ay bx bz cx cy dx dy : Int) : Prop :=
  (((ax = cx ∧ ay = cy) ∧ (bx = dx ∧ bz = dy)) ∨ ((ax = dx ∧ ay = dy) ∧ (bx = cx ∧ bz = cy))) ∨
  (onSeg ax ay bx bz cx cy ∧ ¬ (cx = ax ∧ cy = ay) ∧ ¬ (cx = bx ∧ cy = bz)) ∨ (onSeg ax ay bx bz dx dy ∧ ¬ (dx = ax ∧ dy = ay) ∧ ¬ (dx = bx ∧ dy = bz)) ∨
  (onSeg cx cy dx dy ax ay ∧ ¬ (ax = cx ∧ ay = cy) ∧ ¬ (ax = dx ∧ ay = dy)) ∨ (onSeg cx cy dx dy bx bz ∧ ¬ (bx = cx ∧ bz = cy) ∧ ¬ (bx = dx ∧ bz = dy)) ∨
  (opp (tri ax ay bx bz cx cy) (tri ax ay bx bz dx dy) ∧ opp (tri cx cy dx dy ax ay) (tri cx cy dx dy bx bz))

theorem not_opp_left {q : Int} : ¬ opp 0 q := by unfold opp; omega
theorem not_opp_right {p : Int} : ¬ opp p 0 := by unfold opp; omega

theorem cross_line {ax ay bx bz cx cy dx dy : Int} (hab : ¬ (ax = bx ∧ ay = bz)) (hcd : ¬ (cx = dx ∧ cy = dy)) (hp : tri ax ay bx bz cx cy = 0) (hq : tri ax ay bx bz dx dy = 0) :
    (max (min (dotP ax ay bx bz cx cy) (dotP ax ay bx bz dx dy)) 0 < min (max (dotP ax ay bx bz cx cy) (dotP ax ay bx bz dx dy)) (dotP ax ay bx bz bx bz)) ↔ SpecX ax ay bx bz cx cy dx dy := by
  have hu : ¬ (bx - ax = 0 ∧ bz - ay = 0) := by omega
  have hN : 0 < dotP ax ay bx bz bx bz := by
    unfold dotP
    by_cases h : bx - ax = 0
    · have := sq_pos (u := bz - ay) (fun k => hu ⟨h, k⟩)
      have := sq_nonneg (bx - ax)
      omega
    · have := sq_pos h
      have := sq_nonneg (bz - ay)
      omega
  have hr : tri cx cy dx dy ax ay = 0 := by
    unfold tri dotP at *
    by_cases h : bx - ax = 0
    · have hy : bz - ay ≠ 0 := fun k => hu ⟨h, k⟩
      have e1 : cx - ax = 0 := by
        rw [h] at hp
        rcases Int.mul_eq_zero.1 (show (bz - ay) * (cx - ax) = 0 by omega) with k | k
        · exact absurd k hy
        · exact k
      have e2 : dx - ax = 0 := by
        rw [h] at hq
        rcases Int.mul_eq_zero.1 (show (bz - ay) * (dx - ax) = 0 by omega) with k | k
        · exact absurd k hy
        · exact k
      have e3 : dx - cx = 0 := by omega
      have e4 : ax - cx = 0 := by omega
      rw [e3, e4]; simp
    · have : (bx - ax) * ((dx - cx) * (ay - cy) - (dy - cy) * (ax - cx)) = 0 := by grind
      rcases Int.mul_eq_zero.1 this with k | k
      · exact absurd k h
      · exact k
  have hs : tri cx cy dx dy bx bz = 0 := by
    have : tri cx cy dx dy bx bz = tri cx cy dx dy ax ay + tri ax ay bx bz cx cy - tri ax ay bx bz dx dy := by unfold tri; grind
    rw [this, hr, hp, hq]; rfl
  generalize hγ : dotP ax ay bx bz cx cy = γ
  generalize hδ : dotP ax ay bx bz dx dy = δ
  generalize hNN : dotP ax ay bx bz bx bz = N at hN
  have a1 : N * (ax - ax) = 0 * (bx - ax) := by simp
  have a2 : N * (ay - ay) = 0 * (bz - ay) := by simp
  have b1 : N * (bx - ax) = N * (bx - ax) := rfl
  have b2 : N * (bz - ay) = N * (bz - ay) := rfl
  have c1 : N * (cx - ax) = γ * (bx - ax) := by rw [← hNN, ← hγ]; unfold tri at hp; unfold dotP; grind
  have c2 : N * (cy - ay) = γ * (bz - ay) := by rw [← hNN, ← hγ]; unfold tri at hp; unfold dotP; grind
  have d1 : N * (dx - ax) = δ * (bx - ax) := by rw [← hNN, ← hδ]; unfold tri at hq; unfold dotP; grind
  have d2 : N * (dy - ay) = δ * (bz - ay) := by rw [← hNN, ← hδ]; unfold tri at hq; unfold dotP; grind
  have sh : ∀ {x y : Int}, (ax - ax) - (x - ax) = ax - x := by omega
  have key : ∀ {xi yi xj yj xk yk gi gj gk : Int}, N * (xi - ax) = gi * (bx - ax) → N * (yi - ay) = gi * (bz - ay) → N * (xj - ax) = gj * (bx - ax) → N * (yj - ay) = gj * (bz - ay) → N * (xk - ax) = gk * (bx - ax) → N * (yk - ay) = gk * (bz - ay) → tri xi yi xj yj xk yk = 0 →
      ((onSeg xi yi xj yj xk yk ∧ ¬ (xk = xi ∧ yk = yi) ∧ ¬ (xk = xj ∧ yk = yj)) ↔ ((gi < gk ∧ gk < gj) ∨ (gj < gk ∧ gk < gi))) := by
    intro xi yi xj yj xk yk gi gj gk h1 h2 h3 h4 h5 h6 h7
    rw [← strict hN hu h1 h2 h3 h4 h5 h6]
    unfold onSeg
    rw [show (xi - ax) - (xk - ax) = xi - xk by omega, show (xj - ax) - (xk - ax) = xj - xk by omega, show (yi - ay) - (yk - ay) = yi - yk by omega, show (yj - ay) - (yk - ay) = yj - yk by omega]
    rw [show (xk - ax = xi - ax ∧ yk - ay = yi - ay) ↔ (xk = xi ∧ yk = yi) by omega, show (xk - ax = xj - ax ∧ yk - ay = yj - ay) ↔ (xk = xj ∧ yk = yj) by omega]
    constructor
    · rintro ⟨⟨_, k⟩, l⟩; exact ⟨k, l⟩
    · rintro ⟨k, l⟩; exact ⟨⟨h7, k⟩, l⟩
  have same : ∀ {x y x' y' g g' : Int}, N * (x - ax) = g * (bx - ax) → N * (y - ay) = g * (bz - ay) → N * (x' - ax) = g' * (bx - ax) → N * (y' - ay) = g' * (bz - ay) → ((x = x' ∧ y = y') ↔ g = g') := by
    intro x y x' y' g g' e1 e2 e3 e4
    have hne : N ≠ 0 := by omega
    constructor
    · rintro ⟨rfl, rfl⟩
      by_cases hx : bx - ax = 0
      · exact Int.eq_of_mul_eq_mul_right (fun h => hu ⟨hx, h⟩) (by rw [← e2, ← e4])
      · exact Int.eq_of_mul_eq_mul_right hx (by rw [← e1, ← e3])
    · rintro rfl
      have f1 : x - ax = x' - ax := Int.eq_of_mul_eq_mul_left hne (by rw [e1, e3])
      have f2 : y - ay = y' - ay := Int.eq_of_mul_eq_mul_left hne (by rw [e2, e4])
      omega
  have hcd' : γ ≠ δ := fun h => hcd ((same c1 c2 d1 d2).2 h)
  unfold SpecX
  rw [key a1 a2 b1 b2 c1 c2 hp, key a1 a2 b1 b2 d1 d2 hq, key c1 c2 d1 d2 a1 a2 hr, key c1 c2 d1 d2 b1 b2 hs, same a1 a2 c1 c2, same b1 b2 d1 d2, same a1 a2 d1 d2, same b1 b2 c1 c2, hp, hq]
  have no : ¬ opp 0 (0 : Int) := not_opp_left
  simp only [no, false_and, or_false]
  omega

theorem cross_same {ax ay bx bz cx cy dx dy : Int} (hab : ¬ (ax = bx ∧ ay = bz)) (hcd : ¬ (cx = dx ∧ cy = dy)) : ImplX ax ay bx bz cx cy dx dy ↔ SpecX ax ay bx bz cx cy dx dy := by
  unfold ImplX
  by_cases hl : tri ax ay bx bz cx cy = 0 ∧ tri ax ay bx bz dx dy = 0
  · rw [if_pos hl]
    exact cross_line hab hcd hl.1 hl.2
  · rw [if_neg hl]
    have t1 : ∀ {x y z w : Int}, tri x y z w x y = 0 := by intro x y z w; unfold tri; grind
    have t2 : ∀ {x y z w : Int}, tri x y z w z w = 0 := by intro x y z w; unfold tri; grind
    have t3 : ∀ {x y z w u v : Int}, tri x y u v z w = - tri x y z w u v := by intro x y z w u v; unfold tri; grind
    have t4 : ∀ {x y z w u v : Int}, tri u v x y z w = tri x y z w u v := by intro x y z w u v; unfold tri; grind
    by_cases hsh : (ax = cx ∧ ay = cy) ∨ (ax = dx ∧ ay = dy) ∨ (bx = cx ∧ bz = cy) ∨ (bx = dx ∧ bz = dy)
    · rw [if_pos hsh]
      simp only [false_iff]
      intro hS
      apply hl
      unfold SpecX onSeg at hS
      rcases hsh with ⟨rfl, rfl⟩ | ⟨rfl, rfl⟩ | ⟨rfl, rfl⟩ | ⟨rfl, rfl⟩
      · refine ⟨t1, ?_⟩
        rcases hS with (⟨_, rfl, rfl⟩ | ⟨⟨rfl, rfl⟩, _⟩) | ⟨_, h, _⟩ | ⟨⟨h, _⟩, _⟩ | ⟨_, h, _⟩ | ⟨⟨h, _⟩, _⟩ | ⟨h, _⟩
        · exact t2
        · exact absurd ⟨rfl, rfl⟩ hcd
        · exact absurd ⟨rfl, rfl⟩ h
        · exact h
        · exact absurd ⟨rfl, rfl⟩ h
        · rw [t3] at h; omega
        · rw [t1] at h; exact absurd h not_opp_left
      · refine ⟨?_, t1⟩
        rcases hS with (⟨⟨rfl, rfl⟩, _⟩ | ⟨_, rfl, rfl⟩) | ⟨⟨h, _⟩, _⟩ | ⟨_, h, _⟩ | ⟨_, _, h⟩ | ⟨⟨h, _⟩, _⟩ | ⟨h, _⟩
        · exact absurd ⟨rfl, rfl⟩ hcd
        · exact t2
        · exact h
        · exact absurd ⟨rfl, rfl⟩ h
        · exact absurd ⟨rfl, rfl⟩ h
        · rw [t4] at h; exact h
        · rw [t1] at h; exact absurd h not_opp_right
      · refine ⟨t2, ?_⟩
        rcases hS with (⟨_, rfl, rfl⟩ | ⟨⟨rfl, rfl⟩, _⟩) | ⟨_, _, h⟩ | ⟨⟨h, _⟩, _⟩ | ⟨⟨h, _⟩, _⟩ | ⟨_, h, _⟩ | ⟨h, _⟩
        · exact t2
        · exact t1
        · exact absurd ⟨rfl, rfl⟩ h
        · exact h
        · rw [t4, t4] at h; exact h
        · exact absurd ⟨rfl, rfl⟩ h
        · rw [t2] at h; exact absurd h not_opp_left
      · refine ⟨?_, t2⟩
        rcases hS with (⟨⟨rfl, rfl⟩, _⟩ | ⟨_, rfl, rfl⟩) | ⟨⟨h, _⟩, _⟩ | ⟨_, _, h⟩ | ⟨⟨h, _⟩, _⟩ | ⟨_, _, h⟩ | ⟨h, _⟩
        · exact t1
        · exact t2
        · exact h
        · exact absurd ⟨rfl, rfl⟩ h
        · rw [t3, t4] at h; omega
        · exact absurd ⟨rfl, rfl⟩ h
        · rw [t2] at h; exact absurd h not_opp_right
    · rw [if_neg hsh]
      unfold SpecX
      constructor
      · rintro (h | h | h | h | h)
        · exact .inr (.inr (.inr (.inr (.inr h))))
        · exact .inr (.inl ⟨h, by omega, by omega⟩)
        · exact .inr (.inr (.inl ⟨h, by omega, by omega⟩))
        · exact .inr (.inr (.inr (.inl ⟨h, by omega, by omega⟩)))
        · exact .inr (.inr (.inr (.inr (.inl ⟨h, by omega, by omega⟩))))
      · rintro (h | ⟨h, _⟩ | ⟨h, _⟩ | ⟨h, _⟩ | ⟨h, _⟩ | h)
        · exact absurd h (by omega)
        · exact .inr (.inl h)
        · exact .inr (.inr (.inl h))
        · exact .inr (.inr (.inr (.inl h)))
        · exact .inr (.inr (.inr (.inr h)))
        · exact .inl h

end Go.Lg
