/- Plain number theory for the group of squares modulo a prime: sums and products over 1..k, Gauss's lemma in Schering's form, reciprocity. Nothing of the program. -/
namespace Go.Proofs.YthjglkpkeffmpaaDoor.Num

/-- Sum of f over 1..k. -/
def sm (f : Nat → Nat) : Nat → Nat
  | 0 => 0
  | k + 1 => sm f k + f (k + 1)

/-- Product of f over 1..k. -/
def pd (f : Nat → Nat) : Nat → Nat
  | 0 => 1
  | k + 1 => pd f k * f (k + 1)

theorem sm_congr {f g : Nat → Nat} : ∀ k, (∀ i, 1 ≤ i → i ≤ k → f i = g i) → sm f k = sm g k
  | 0, _ => rfl
  | k + 1, h => by rw [sm, sm, sm_congr k (fun i a b => h i a (by omega)), h (k + 1) (by omega) (by omega)]

theorem pd_congr {f g : Nat → Nat} : ∀ k, (∀ i, 1 ≤ i → i ≤ k → f i = g i) → pd f k = pd g k
  | 0, _ => rfl
  | k + 1, h => by rw [pd, pd, pd_congr k (fun i a b => h i a (by omega)), h (k + 1) (by omega) (by omega)]

theorem sm_add (f g : Nat → Nat) : ∀ k, sm (fun i => f i + g i) k = sm f k + sm g k
  | 0 => rfl
  | k + 1 => by simp only [sm, sm_add f g k]; omega

theorem sm_mul (c : Nat) (f : Nat → Nat) : ∀ k, sm (fun i => c * f i) k = c * sm f k
  | 0 => rfl
  | k + 1 => by simp only [sm, sm_mul c f k, Nat.mul_add]

theorem sm_const (c : Nat) : ∀ k, sm (fun _ => c) k = k * c
  | 0 => by simp [sm]
  | k + 1 => by simp only [sm, sm_const c k, Nat.add_mul]; omega

theorem sm_swap (f : Nat → Nat → Nat) (m : Nat) : ∀ k, sm (fun i => sm (fun j => f i j) m) k = sm (fun j => sm (fun i => f i j) k) m
  | 0 => by simp only [sm]; rw [sm_const]; omega
  | k + 1 => by simp only [sm]; rw [sm_swap f m k, ← sm_add]

/-- the list 1..k -/
def ls : Nat → List Nat
  | 0 => []
  | k + 1 => (k + 1) :: ls k

theorem mem_ls {x : Nat} : ∀ {k}, x ∈ ls k ↔ 1 ≤ x ∧ x ≤ k
  | 0 => by simp [ls]; omega
  | k + 1 => by simp only [ls, List.mem_cons, mem_ls (k := k)]; omega

theorem ls_length : ∀ k, (ls k).length = k
  | 0 => rfl
  | k + 1 => by simp [ls, ls_length k]

theorem ls_nodup : ∀ k, (ls k).Nodup
  | 0 => by simp [ls]
  | k + 1 => by
    simp only [ls, List.nodup_cons]
    exact ⟨fun h => by have := (mem_ls.1 h).2; omega, ls_nodup k⟩

theorem sm_ls (f : Nat → Nat) : ∀ k, sm f k = ((ls k).map f).sum
  | 0 => rfl
  | k + 1 => by simp [sm, ls, sm_ls f k]; omega

/-- product of a list -/
def lp : List Nat → Nat
  | [] => 1
  | x :: r => x * lp r

theorem pd_ls (f : Nat → Nat) : ∀ k, pd f k = lp ((ls k).map f)
  | 0 => rfl
  | k + 1 => by simp only [pd, ls, List.map_cons, lp, pd_ls f k]; exact Nat.mul_comm _ _

theorem perm_sum {l l' : List Nat} (h : l.Perm l') : l.sum = l'.sum := by
  induction h with
  | nil => rfl
  | cons x _ ih => simp [ih]
  | swap x y l => simp; omega
  | trans _ _ a b => exact a.trans b

theorem perm_lp {l l' : List Nat} (h : l.Perm l') : lp l = lp l' := by
  induction h with
  | nil => rfl
  | cons x _ ih => simp [lp, ih]
  | swap x y l => simp [lp, Nat.mul_left_comm]
  | trans _ _ a b => exact a.trans b

theorem perm_of_nodup : ∀ {l l' : List Nat}, l.Nodup → (∀ x ∈ l, x ∈ l') → l'.length ≤ l.length → l.Perm l'
  | [], l', _, _, hl => by
    have : l' = [] := List.eq_nil_of_length_eq_zero (by simpa using hl)
    rw [this]
  | a :: t, l', hn, hs, hl => by
    have ha : a ∈ l' := hs a List.mem_cons_self
    rw [List.nodup_cons] at hn
    have hp := List.perm_cons_erase ha
    refine List.Perm.trans (List.Perm.cons a (perm_of_nodup hn.2 (fun x hx => ?_) ?_)) hp.symm
    · have hxa : x ≠ a := fun e => hn.1 (e ▸ hx)
      exact (List.mem_erase_of_ne hxa).2 (hs x (List.mem_cons_of_mem _ hx))
    · have := hp.length_eq
      simp only [List.length_cons] at this hl
      omega

theorem nodup_map {σ : Nat → Nat} : ∀ {l : List Nat}, l.Nodup → (∀ x ∈ l, ∀ y ∈ l, σ x = σ y → x = y) → (l.map σ).Nodup
  | [], _, _ => by simp
  | a :: t, hn, hi => by
    rw [List.nodup_cons] at hn
    simp only [List.map_cons, List.nodup_cons, List.mem_map]
    refine ⟨?_, nodup_map hn.2 fun x hx y hy => hi x (List.mem_cons_of_mem _ hx) y (List.mem_cons_of_mem _ hy)⟩
    rintro ⟨x, hx, he⟩
    exact hn.1 (hi x (List.mem_cons_of_mem _ hx) a List.mem_cons_self he ▸ hx)

theorem perm_map {σ : Nat → Nat} {k : Nat} (hr : ∀ i, 1 ≤ i → i ≤ k → 1 ≤ σ i ∧ σ i ≤ k)
    (hi : ∀ i j, 1 ≤ i → i ≤ k → 1 ≤ j → j ≤ k → σ i = σ j → i = j) : ((ls k).map σ).Perm (ls k) := by
  refine perm_of_nodup (nodup_map (ls_nodup k) ?_) ?_ (by simp)
  · intro x hx y hy
    have := mem_ls.1 hx; have := mem_ls.1 hy
    exact hi x y (by omega) (by omega) (by omega) (by omega)
  · intro x hx
    obtain ⟨i, hi, rfl⟩ := List.mem_map.1 hx
    have := mem_ls.1 hi
    exact mem_ls.2 (hr i this.1 this.2)

theorem sm_perm {σ : Nat → Nat} {k : Nat} (f : Nat → Nat) (hr : ∀ i, 1 ≤ i → i ≤ k → 1 ≤ σ i ∧ σ i ≤ k)
    (hi : ∀ i j, 1 ≤ i → i ≤ k → 1 ≤ j → j ≤ k → σ i = σ j → i = j) : sm (fun i => f (σ i)) k = sm f k := by
  rw [sm_ls, sm_ls, show (fun i => f (σ i)) = f ∘ σ from rfl, ← List.map_map]
  exact perm_sum ((perm_map hr hi).map f)

theorem pd_perm {σ : Nat → Nat} {k : Nat} (f : Nat → Nat) (hr : ∀ i, 1 ≤ i → i ≤ k → 1 ≤ σ i ∧ σ i ≤ k)
    (hi : ∀ i j, 1 ≤ i → i ≤ k → 1 ≤ j → j ≤ k → σ i = σ j → i = j) : pd (fun i => f (σ i)) k = pd f k := by
  rw [pd_ls, pd_ls, show (fun i => f (σ i)) = f ∘ σ from rfl, ← List.map_map]
  exact perm_lp ((perm_map hr hi).map f)

/-! ### the symbol, for n = 2h+1 -/

/-- the sign of i: 1 if the remainder of a*i modulo 2h+1 is above h -/
def ep (a h i : Nat) : Nat := if h < a * i % (2 * h + 1) then 1 else 0
/-- the absolutely least remainder -/
def ab (a h i : Nat) : Nat := if h < a * i % (2 * h + 1) then 2 * h + 1 - a * i % (2 * h + 1) else a * i % (2 * h + 1)
def mu (a h : Nat) : Nat := sm (ep a h) h

theorem dvd_of_mod {n a b : Nat} (h : a % n = b % n) (hab : b ≤ a) : n ∣ a - b := by
  have h1 := Nat.div_add_mod a n
  have h2 := Nat.div_add_mod b n
  refine ⟨a / n - b / n, ?_⟩
  have h3 : b / n ≤ a / n := Nat.div_le_div_right hab
  rw [Nat.mul_sub]
  omega

theorem dvd_cancel {n a i : Nat} (hc : Nat.gcd a n = 1) (h : n ∣ a * i) : n ∣ i :=
  Nat.Coprime.dvd_of_dvd_mul_left (show Nat.Coprime n a from by rw [Nat.coprime_comm]; exact hc) h

section
variable {a h : Nat} (hc : Nat.gcd a (2 * h + 1) = 1)
include hc

theorem rem_pos {i : Nat} (h1 : 1 ≤ i) (h2 : i ≤ 2 * h) : 1 ≤ a * i % (2 * h + 1) := by
  rcases Nat.eq_zero_or_pos (a * i % (2 * h + 1)) with e | e
  · have := Nat.le_of_dvd h1 (dvd_cancel hc (Nat.dvd_of_mod_eq_zero e)); omega
  · exact e

theorem ab_range (i : Nat) (h1 : 1 ≤ i) (h2 : i ≤ h) : 1 ≤ ab a h i ∧ ab a h i ≤ h := by
  have hp := rem_pos hc h1 (by omega)
  have hl := Nat.mod_lt (a * i) (show 0 < 2 * h + 1 by omega)
  unfold ab; split <;> omega

theorem ab_inj (i j : Nat) (hi1 : 1 ≤ i) (hi2 : i ≤ h) (hj1 : 1 ≤ j) (hj2 : j ≤ h) (he : ab a h i = ab a h j) : i = j := by
  have hli := Nat.mod_lt (a * i) (show 0 < 2 * h + 1 by omega)
  have hlj := Nat.mod_lt (a * j) (show 0 < 2 * h + 1 by omega)
  have same : a * i % (2 * h + 1) = a * j % (2 * h + 1) → i = j := by
    intro e
    rcases Nat.le_total i j with hle | hle
    · have := dvd_of_mod e.symm (Nat.mul_le_mul_left a hle)
      rw [← Nat.mul_sub] at this
      have := dvd_cancel hc this
      rcases Nat.eq_zero_or_pos (j - i) with e0 | e0
      · omega
      · have := Nat.le_of_dvd e0 this; omega
    · have := dvd_of_mod e (Nat.mul_le_mul_left a hle)
      rw [← Nat.mul_sub] at this
      have := dvd_cancel hc this
      rcases Nat.eq_zero_or_pos (i - j) with e0 | e0
      · omega
      · have := Nat.le_of_dvd e0 this; omega
  have other : a * i % (2 * h + 1) + a * j % (2 * h + 1) = 2 * h + 1 → False := by
    intro e
    have : (a * (i + j)) % (2 * h + 1) = 0 := by
      rw [Nat.mul_add, Nat.add_mod, e, Nat.mod_self]
    have := Nat.le_of_dvd (by omega) (dvd_cancel hc (Nat.dvd_of_mod_eq_zero this))
    omega
  unfold ab at he
  split at he <;> split at he <;> first | exact same (by omega) | exact (other (by omega)).elim

/-- Eisenstein, up to parity. -/
theorem mu_floor (ha : a % 2 = 1) : mu a h % 2 = sm (fun i => a * i / (2 * h + 1)) h % 2 := by
  have h1 : sm (fun i => a * i) h = sm (fun i => (2 * h + 1) * (a * i / (2 * h + 1)) + a * i % (2 * h + 1)) h :=
    sm_congr h fun i _ _ => (Nat.div_add_mod _ _).symm
  rw [sm_add, sm_mul, sm_mul] at h1
  have h2 : sm (ab a h) h = sm (fun i => i) h := sm_perm (σ := ab a h) (fun i => i) (fun i => ab_range hc i) (fun i j => ab_inj hc i j)
  -- r = ab + ε (n - 2 ab)
  have h3 : ∀ k, k ≤ h → sm (fun i => a * i % (2 * h + 1)) k % 2 = (sm (ab a h) k + sm (ep a h) k) % 2 := by
    intro k
    induction k with
    | zero => intro _; rfl
    | succ k ih =>
      intro hk
      have := ih (by omega)
      have hl := Nat.mod_lt (a * (k + 1)) (show 0 < 2 * h + 1 by omega)
      simp only [sm]
      have h4 : a * (k + 1) % (2 * h + 1) % 2 = (ab a h (k + 1) + ep a h (k + 1)) % 2 := by
        unfold ab ep; split <;> omega
      omega
  have h5 := h3 h (Nat.le_refl _)
  rw [h2] at h5
  unfold mu
  -- a S = n F + R, a odd, n odd, R ≡ S + mu
  have e1 : a * sm (fun i => i) h % 2 = sm (fun i => i) h % 2 := by rw [Nat.mul_mod, ha]; simp
  have e2 : (2 * h + 1) * sm (fun i => a * i / (2 * h + 1)) h % 2 = sm (fun i => a * i / (2 * h + 1)) h % 2 := by rw [Nat.mul_mod]; simp
  omega
end

theorem mu_mod (a h : Nat) : mu (a % (2 * h + 1)) h = mu a h :=
  sm_congr h fun i _ _ => by unfold ep; rw [Nat.mod_mul_mod]

theorem mu_one (h : Nat) : mu 1 h = 0 := by
  rw [mu, sm_congr (g := fun _ => 0) h (fun i h1 h2 => ?_), sm_const]; rfl
  unfold ep; rw [if_neg]; rw [Nat.one_mul, Nat.mod_eq_of_lt (by omega)]; omega

theorem mu_mul {a b h : Nat} (ha : Nat.gcd a (2 * h + 1) = 1) (hb : Nat.gcd b (2 * h + 1) = 1) : mu (a * b) h % 2 = (mu a h + mu b h) % 2 := by
  have h1 : sm (fun i => ep a h (ab b h i)) h = mu a h := sm_perm (σ := ab b h) (ep a h) (fun i => ab_range hb i) (fun i j => ab_inj hb i j)
  rw [← h1]
  unfold mu
  have : ∀ k, k ≤ h → sm (ep (a * b) h) k % 2 = (sm (fun i => ep a h (ab b h i)) k + sm (ep b h) k) % 2 := by
    intro k
    induction k with
    | zero => intro _; rfl
    | succ k ih =>
      intro hk
      have i1 := ih (by omega)
      simp only [sm]
      have h4 : ep (a * b) h (k + 1) % 2 = (ep a h (ab b h (k + 1)) + ep b h (k + 1)) % 2 := by
        have hm : a * b * (k + 1) % (2 * h + 1) = a * (b * (k + 1) % (2 * h + 1)) % (2 * h + 1) := by
          rw [Nat.mul_assoc, Nat.mul_mod_mod]
        have hp := rem_pos hb (i := k + 1) (by omega) (by omega)
        have hl := Nat.mod_lt (b * (k + 1)) (show 0 < 2 * h + 1 by omega)
        generalize hr : b * (k + 1) % (2 * h + 1) = r at *
        have hp2 := rem_pos ha (i := r) hp (by omega)
        have hl2 := Nat.mod_lt (a * r) (show 0 < 2 * h + 1 by omega)
        unfold ep ab
        rw [hm, hr]
        by_cases hh : h < r
        · have hsum : a * (2 * h + 1 - r) % (2 * h + 1) + a * r % (2 * h + 1) = 2 * h + 1 := by
            have hp3 := rem_pos ha (i := 2 * h + 1 - r) (by omega) (by omega)
            have hl3 := Nat.mod_lt (a * (2 * h + 1 - r)) (show 0 < 2 * h + 1 by omega)
            have : (a * (2 * h + 1 - r) % (2 * h + 1) + a * r % (2 * h + 1)) % (2 * h + 1) = 0 := by
              rw [← Nat.add_mod, ← Nat.mul_add, show 2 * h + 1 - r + r = 2 * h + 1 by omega, Nat.mul_mod_left]
            obtain ⟨c, hc⟩ := Nat.dvd_of_mod_eq_zero this
            have : c = 1 := by
              have h1 : 0 < c := by
                rcases Nat.eq_zero_or_pos c with e | e
                · subst e; omega
                · exact e
              have h2 : c < 2 := by
                rcases Nat.lt_or_ge c 2 with e | e
                · exact e
                · have := Nat.mul_le_mul_left (2 * h + 1) e; omega
              omega
            subst this; omega
          simp only [hh, if_true]
          split <;> split <;> omega
        · simp only [hh, if_false]
          omega
      omega
  exact this h (Nat.le_refl _)

/-- the symbol of 2 -/
theorem mu_two (h : Nat) : mu 2 h = h - h / 2 := by
  have h1 : ∀ k, k ≤ h → sm (ep 2 h) k = k - min k (h / 2) := by
    intro k
    induction k with
    | zero => intro _; rfl
    | succ k ih =>
      intro hk
      simp only [sm, ih (by omega)]
      unfold ep
      rw [Nat.mod_eq_of_lt (by omega)]
      split <;> omega
  rw [mu, h1 h (Nat.le_refl _)]; omega

/-! ### reciprocity -/
def lt1 (x y : Nat) : Nat := if x < y then 1 else 0

theorem count_lt (n a i k : Nat) (hn : 0 < n) (hk : a * i / n ≤ k) (hne : ∀ j, 1 ≤ j → j ≤ k → n * j ≠ a * i) : sm (fun j => lt1 (n * j) (a * i)) k = a * i / n := by
  have : ∀ m, m ≤ k → sm (fun j => lt1 (n * j) (a * i)) m = min m (a * i / n) := by
    intro m
    induction m with
    | zero => intro _; simp [sm]
    | succ m ih =>
      intro hm
      simp only [sm, ih (by omega)]
      have h1 := hne (m + 1) (by omega) hm
      have h2 : n * (m + 1) < a * i ↔ m + 1 ≤ a * i / n := by
        rw [Nat.le_div_iff_mul_le hn, Nat.mul_comm (m + 1) n]; omega
      unfold lt1
      by_cases hh : n * (m + 1) < a * i
      · rw [if_pos hh]; have := h2.1 hh; omega
      · rw [if_neg hh]; have : ¬ (m + 1 ≤ a * i / n) := fun e => hh (h2.2 e); omega
  rw [this k (Nat.le_refl _)]; omega

theorem lattice (h k : Nat) (hc : Nat.gcd (2 * k + 1) (2 * h + 1) = 1) :
    sm (fun i => (2 * k + 1) * i / (2 * h + 1)) h + sm (fun j => (2 * h + 1) * j / (2 * k + 1)) k = h * k := by
  have hne : ∀ i j, 1 ≤ i → i ≤ h → 1 ≤ j → j ≤ k → (2 * h + 1) * j ≠ (2 * k + 1) * i := by
    intro i j h1 h2 h3 h4 e
    have := Nat.le_of_dvd h1 (dvd_cancel hc ⟨j, e.symm⟩)
    omega
  have hle1 : ∀ i, i ≤ h → (2 * k + 1) * i / (2 * h + 1) ≤ k := by
    intro i hi
    rw [← Nat.lt_succ_iff, Nat.div_lt_iff_lt_mul (by omega)]
    have : (2 * k + 1) * i ≤ (2 * k + 1) * h := Nat.mul_le_mul_left _ hi
    have e1 : (2 * k + 1) * h = 2 * (k * h) + h := by rw [Nat.add_mul, Nat.mul_assoc, Nat.one_mul]
    have e2 : k.succ * (2 * h + 1) = 2 * (k * h) + k + 2 * h + 1 := by
      rw [Nat.succ_mul, Nat.mul_add, Nat.mul_one, Nat.mul_left_comm]; omega
    omega
  have hle2 : ∀ j, j ≤ k → (2 * h + 1) * j / (2 * k + 1) ≤ h := by
    intro j hj
    rw [← Nat.lt_succ_iff, Nat.div_lt_iff_lt_mul (by omega)]
    have : (2 * h + 1) * j ≤ (2 * h + 1) * k := Nat.mul_le_mul_left _ hj
    have e1 : (2 * h + 1) * k = 2 * (h * k) + k := by rw [Nat.add_mul, Nat.mul_assoc, Nat.one_mul]
    have e2 : h.succ * (2 * k + 1) = 2 * (h * k) + h + 2 * k + 1 := by
      rw [Nat.succ_mul, Nat.mul_add, Nat.mul_one, Nat.mul_left_comm]; omega
    omega
  rw [← sm_congr (f := fun i => sm (fun j => lt1 ((2 * h + 1) * j) ((2 * k + 1) * i)) k) h fun i h1 h2 => count_lt _ _ i k (by omega) (hle1 i h2) fun j h3 h4 => hne i j h1 h2 h3 h4]
  rw [← sm_congr (f := fun j => sm (fun i => lt1 ((2 * k + 1) * i) ((2 * h + 1) * j)) h) k fun j h1 h2 => count_lt _ _ j h (by omega) (hle2 j h2) fun i h3 h4 => (hne i j h3 h4 h1 h2).symm]
  rw [sm_swap _ h k, ← sm_add]
  rw [sm_congr (g := fun _ => k) h fun i h1 h2 => ?_]
  · rw [sm_const]
  · rw [← sm_add, sm_congr (g := fun _ => 1) k fun j h3 h4 => ?_]
    · rw [sm_const]; omega
    · have := hne i j h1 h2 h3 h4
      unfold lt1; split <;> split <;> omega

theorem recip (h k : Nat) (hc : Nat.gcd (2 * k + 1) (2 * h + 1) = 1) : (mu (2 * k + 1) h + mu (2 * h + 1) k) % 2 = h * k % 2 := by
  have h1 := mu_floor hc (by omega)
  have h2 := mu_floor (a := 2 * h + 1) (h := k) (by rw [Nat.gcd_comm]; exact hc) (by omega)
  have h3 := lattice h k hc
  omega

/-! ### Gauss: the symbol modulo a prime is Euler's power -/
theorem pd_mod (f : Nat → Nat) (n : Nat) : ∀ k, pd f k % n = pd (fun i => f i % n) k % n
  | 0 => rfl
  | k + 1 => by simp only [pd]; rw [Nat.mul_mod, pd_mod f n k, ← Nat.mul_mod_mod, Nat.mod_mul_mod]; simp

theorem pd_mulc (a : Nat) (f : Nat → Nat) : ∀ k, pd (fun i => a * f i) k = a ^ k * pd f k
  | 0 => by simp [pd]
  | k + 1 => by simp only [pd, pd_mulc a f k, Nat.pow_succ]; simp [Nat.mul_assoc, Nat.mul_left_comm]

theorem gauss_part (a h : Nat) : ∀ k, k ≤ h → pd (fun i => a * i % (2 * h + 1)) k % (2 * h + 1) = (2 * h) ^ sm (ep a h) k * pd (ab a h) k % (2 * h + 1)
  | 0, _ => rfl
  | k + 1, hk => by
    simp only [pd, sm, Nat.pow_add]
    have ih := gauss_part a h k (by omega)
    have hl := Nat.mod_lt (a * (k + 1)) (show 0 < 2 * h + 1 by omega)
    have h1 : a * (k + 1) % (2 * h + 1) % (2 * h + 1) = (2 * h) ^ ep a h (k + 1) * ab a h (k + 1) % (2 * h + 1) := by
      unfold ep ab
      split
      · rw [Nat.pow_one]
        generalize a * (k + 1) % (2 * h + 1) = r at *
        rw [Nat.mod_eq_of_lt hl]
        have : 2 * h * (2 * h + 1 - r) = (2 * h + 1) * (2 * h - r) + r := by
          generalize 2 * h = H at *
          obtain ⟨t, rfl⟩ : ∃ t, H = r + t := ⟨H - r, by omega⟩
          rw [show r + t + 1 - r = t + 1 by omega, show r + t - r = t by omega]
          simp only [Nat.mul_add, Nat.add_mul, Nat.one_mul, Nat.mul_one]; omega
        rw [this, Nat.mul_add_mod, Nat.mod_eq_of_lt hl]
      · simp
    rw [Nat.mul_mod, ih, h1, ← Nat.mul_mod]
    congr 1
    simp only [Nat.mul_assoc, Nat.mul_left_comm]

theorem gauss {a h : Nat} (hc : Nat.gcd a (2 * h + 1) = 1) : a ^ h * pd (fun i => i) h % (2 * h + 1) = (2 * h) ^ mu a h * pd (fun i => i) h % (2 * h + 1) := by
  rw [← pd_mulc, pd_mod, gauss_part a h h (Nat.le_refl _)]
  rw [show pd (ab a h) h = pd (fun i => i) h from pd_perm (σ := ab a h) (fun i => i) (fun i => ab_range hc i) (fun i j => ab_inj hc i j)]
  rfl


/-! ### the two primes -/
abbrev PP : Nat := 2147483579
abbrev QQ : Nat := 1073741789

/-- no d with lo ≤ d < lo + 2^k divides p -/
def nd (p : Nat) : Nat → Nat → Bool
  | 0, lo => p % lo != 0
  | k + 1, lo => nd p k lo && nd p k (lo + 2 ^ k)

theorem nd_spec (p : Nat) : ∀ k lo d, nd p k lo = true → lo ≤ d → d < lo + 2 ^ k → p % d ≠ 0
  | 0, lo, d, h, h1, h2 => by
    have : d = lo := by simp at h2; omega
    subst this; simpa [nd] using h
  | k + 1, lo, d, h, h1, h2 => by
    simp only [nd, Bool.and_eq_true] at h
    rw [Nat.pow_succ] at h2
    rcases Nat.lt_or_ge d (lo + 2 ^ k) with e | e
    · exact nd_spec p k lo d h.1 h1 e
    · exact nd_spec p k _ d h.2 e (by omega)

def IsPrime (p : Nat) : Prop := 2 ≤ p ∧ ∀ d, d ∣ p → d = 1 ∨ d = p

theorem prime_of_nd {p : Nat} (h2 : 2 ≤ p) (h : nd p 16 2 = true) (hs : p < 65538 * 65538) : IsPrime p := by
  have small : ∀ d, 2 ≤ d → d < 65538 → ¬ d ∣ p := fun d h1 h2 hd => nd_spec p 16 2 d h h1 (by omega) (Nat.mod_eq_zero_of_dvd hd)
  refine ⟨h2, fun d hd => ?_⟩
  obtain ⟨e, he⟩ := hd
  rcases Nat.lt_or_ge d 2 with h3 | h3
  · left
    have : d ≠ 0 := by intro e0; subst e0; simp at he; omega
    omega
  right
  have hd2 : 65538 ≤ d := by
    rcases Nat.lt_or_ge d 65538 with h4 | h4
    · exact (small d h3 h4 ⟨e, he⟩).elim
    · exact h4
  have he1 : e < 65538 := by
    rcases Nat.lt_or_ge e 65538 with h4 | h4
    · exact h4
    · have := Nat.mul_le_mul hd2 h4; omega
  rcases Nat.lt_or_ge e 2 with h5 | h5
  · have : e ≠ 0 := by intro e0; subst e0; simp at he; omega
    have : e = 1 := by omega
    subst this; omega
  · exact (small e h5 he1 ⟨d, by rw [Nat.mul_comm]; exact he⟩).elim

theorem IsPrime.coprime {p a : Nat} (hp : IsPrime p) (h : ¬ p ∣ a) : Nat.gcd a p = 1 := by
  rcases hp.2 _ (Nat.gcd_dvd_right a p) with e | e
  · exact e
  · exact (h (e ▸ Nat.gcd_dvd_left a p)).elim

theorem IsPrime.coprime_lt {p a : Nat} (hp : IsPrime p) (h1 : 1 ≤ a) (h2 : a < p) : Nat.gcd a p = 1 :=
  hp.coprime fun h => by have := Nat.le_of_dvd h1 h; omega

theorem IsPrime.mul {p a b : Nat} (hp : IsPrime p) (h : p ∣ a * b) : p ∣ a ∨ p ∣ b := by
  rcases Nat.eq_zero_or_pos (a % p) with e | e
  · exact .inl (Nat.dvd_of_mod_eq_zero e)
  · refine .inr (dvd_cancel (hp.coprime fun hd => ?_) h)
    have := Nat.mod_eq_zero_of_dvd hd; omega

theorem prime_P : IsPrime 2147483579 := prime_of_nd (by omega) (by decide +kernel) (by omega)
theorem prime_Q : IsPrime 1073741789 := prime_of_nd (by omega) (by decide +kernel) (by omega)

/-- what is coprime may be cancelled -/
theorem cancel {n a b c : Nat} (hc : Nat.gcd c n = 1) (h : a * c % n = b * c % n) : a % n = b % n := by
  have key : ∀ a b, b ≤ a → a * c % n = b * c % n → a % n = b % n := by
    intro a b hle h
    have h1 := dvd_of_mod h (Nat.mul_le_mul_right c hle)
    rw [← Nat.sub_mul, Nat.mul_comm] at h1
    obtain ⟨d, hd⟩ := dvd_cancel hc h1
    rw [show a = b + n * d by omega, Nat.add_mul_mod_self_left]
  rcases Nat.le_total b a with hle | hle
  · exact key a b hle h
  · exact (key b a hle h.symm).symm

theorem pd_coprime {p : Nat} (hp : IsPrime p) : ∀ k, k < p → Nat.gcd (pd (fun i => i) k) p = 1
  | 0, _ => by simp [pd]
  | k + 1, hk => by
    refine hp.coprime fun hd => ?_
    rcases hp.mul hd with h | h
    · have := pd_coprime hp k (by omega)
      have h3 := Nat.dvd_gcd h (Nat.dvd_refl p)
      rw [this] at h3
      have := Nat.le_of_dvd (by omega) h3
      have := hp.1
      omega
    · have := Nat.le_of_dvd (Nat.succ_pos k) h
      have : k + 1 < p := hk
      exact absurd this (by simp only [Nat.not_lt]; assumption)

/-- minus one to the parity -/
theorem pow_mod_self (a n : Nat) : ∀ k, (a % n) ^ k % n = a ^ k % n := fun k => by rw [← Nat.pow_mod]

theorem neg_one_pow (h m : Nat) (hh : 1 ≤ h) : (2 * h) ^ m % (2 * h + 1) = if m % 2 = 0 then 1 else 2 * h := by
  have sq : (2 * h) * (2 * h) % (2 * h + 1) = 1 := by
    have : (2 * h) * (2 * h) = (2 * h + 1) * (2 * h - 1) + 1 := by
      obtain ⟨t, rfl⟩ : ∃ t, h = t + 1 := ⟨h - 1, by omega⟩
      rw [show 2 * (t + 1) - 1 = 2 * t + 1 by omega, show 2 * (t + 1) = 2 * t + 1 + 1 by omega]
      generalize 2 * t + 1 = s
      simp only [Nat.mul_add, Nat.add_mul, Nat.one_mul, Nat.mul_one]; omega
    rw [this, Nat.mul_add_mod, Nat.mod_eq_of_lt (by omega)]
  induction m with
  | zero => simp; omega
  | succ m ih =>
    rw [Nat.pow_succ, Nat.mul_mod, ih]
    by_cases e : m % 2 = 0
    · rw [if_pos e, if_neg (by omega), Nat.one_mul, Nat.mod_mod, Nat.mod_eq_of_lt (by omega)]
    · rw [if_neg e, if_pos (by omega), Nat.mod_eq_of_lt (show 2 * h < 2 * h + 1 by omega)]; exact sq

theorem euler {h a : Nat} (hp : IsPrime (2 * h + 1)) (hh : 1 ≤ h) (h1 : 1 ≤ a) (h2 : a < 2 * h + 1) : a ^ h % (2 * h + 1) = if mu a h % 2 = 0 then 1 else 2 * h := by
  have hg := gauss (hp.coprime_lt h1 h2)
  rw [← neg_one_pow h _ hh]
  exact cancel (pd_coprime hp h (by omega)) hg

end Go.Proofs.YthjglkpkeffmpaaDoor.Num
