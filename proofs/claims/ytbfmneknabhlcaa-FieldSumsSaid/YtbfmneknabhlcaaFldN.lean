/- Primes: Fermat's little theorem; p is a prime. -/
import Derived.KernelRfl
set_option linter.unusedVariables false
namespace Go.Nt
def Pr (r : Nat) : Prop := 2 ≤ r ∧ ∀ d, d ∣ r → d = 1 ∨ d = r
theorem Pr.coprime {r a : Nat} (h : Pr r) (ha : ¬ r ∣ a) : Nat.gcd r a = 1 := by
  rcases h.2 _ (Nat.gcd_dvd_left r a) with e | e
  · exact e
  · exact absurd (e ▸ Nat.gcd_dvd_right r a) ha
theorem Pr.dvd_mul {r a b : Nat} (h : Pr r) (hd : r ∣ a * b) : r ∣ a ∨ r ∣ b := by
  by_cases ha : r ∣ a
  · exact .inl ha
  · exact .inr (Nat.Coprime.dvd_of_dvd_mul_left (h.coprime ha) hd)
theorem exists_pr : ∀ (n : Nat), 2 ≤ n → ∃ r, Pr r ∧ r ∣ n := by
  intro n
  induction n using Nat.strongRecOn with
  | _ n ih =>
    intro hn
    by_cases h : ∀ d, d ∣ n → d = 1 ∨ d = n
    · exact ⟨n, ⟨hn, h⟩, Nat.dvd_refl n⟩
    · have : ∃ d, d ∣ n ∧ d ≠ 1 ∧ d ≠ n := Classical.byContradiction fun hc => h fun d hd => Classical.byContradiction fun hc2 => hc ⟨d, hd, fun e => hc2 (.inl e), fun e => hc2 (.inr e)⟩
      obtain ⟨d, hd, h1, h2⟩ := this
      have hle := Nat.le_of_dvd (by omega) hd
      have h0 : d ≠ 0 := fun e => by rw [e] at hd; have := Nat.eq_zero_of_zero_dvd hd; omega
      obtain ⟨r, hr, hrd⟩ := ih d (by omega) (by omega)
      exact ⟨r, hr, Nat.dvd_trans hrd hd⟩
theorem pr_of_small {n : Nat} (hn : 2 ≤ n) (h : ∀ r, Pr r → r ∣ n → r * r ≤ n → False) : Pr n := by
  refine ⟨hn, fun d hd => Classical.byContradiction fun hc => ?_⟩
  have h1 : d ≠ 1 := fun e => hc (.inl e)
  have h2 : d ≠ n := fun e => hc (.inr e)
  obtain ⟨e, rfl⟩ := hd
  have hd0 : d ≠ 0 := fun h => by subst h; omega
  have he0 : e ≠ 0 := fun h => by subst h; omega
  have he1 : e ≠ 1 := fun h => by subst h; omega
  by_cases hle : d ≤ e
  · obtain ⟨r, hr, hrd⟩ := exists_pr d (by omega)
    have : r ≤ d := Nat.le_of_dvd (by omega) hrd
    exact h r hr (Nat.dvd_trans hrd ⟨e, rfl⟩) (Nat.mul_le_mul this (by omega))
  · obtain ⟨r, hr, hrd⟩ := exists_pr e (by omega)
    have : r ≤ e := Nat.le_of_dvd (by omega) hrd
    exact h r hr (Nat.dvd_trans hrd ⟨d, Nat.mul_comm d e⟩) (Nat.mul_le_mul (by omega) this)

/-! ### Fermat -/
def prod : List Nat → Nat
  | [] => 1
  | x :: l => x * prod l
theorem prod_perm {l m : List Nat} (h : l.Perm m) : prod l = prod m := by
  induction h with
  | nil => rfl
  | cons x _ ih => simp only [prod, ih]
  | swap x y l => simp only [prod]; rw [Nat.mul_left_comm]
  | trans _ _ h1 h2 => exact h1.trans h2
theorem perm_of : ∀ (m l : List Nat), m.Nodup → (∀ x ∈ m, x ∈ l) → l.length ≤ m.length → m.Perm l
  | [], l, _, _, h => by
    have : l = [] := List.length_eq_zero_iff.1 (by simpa using h)
    subst this; exact .refl _
  | x :: m, l, hn, hs, h => by
    have hx := hs x (by simp)
    have h1 := List.perm_cons_erase hx
    have hn := List.nodup_cons.1 hn
    have h2 : m.Perm (l.erase x) := by
      refine perm_of m (l.erase x) hn.2 (fun y hy => ?_) ?_
      · have hne : y ≠ x := fun e => hn.1 (e ▸ hy)
        exact (List.mem_erase_of_ne hne).2 (hs y (List.mem_cons_of_mem _ hy))
      · rw [List.length_erase_of_mem hx]; simp at h; omega
    exact (List.Perm.cons x h2).trans h1.symm
theorem prod_map_mod (r a : Nat) : ∀ l : List Nat, prod (l.map fun x => a * x % r) % r = a ^ l.length * prod l % r
  | [] => by simp [prod]
  | x :: l => by
    simp only [List.map_cons, prod, List.length_cons]
    rw [Nat.mul_mod, prod_map_mod r a l, Nat.mod_mod, ← Nat.mul_mod, Nat.pow_succ]
    congr 1
    rw [Nat.mul_assoc, Nat.mul_assoc, Nat.mul_left_comm x, Nat.mul_left_comm a]
theorem Pr.not_dvd_prod {r : Nat} (h : Pr r) : ∀ l : List Nat, (∀ x ∈ l, ¬ r ∣ x) → ¬ r ∣ prod l
  | [], _, hd => by
    have := Nat.le_of_dvd (by decide) hd
    have := h.1
    simp [prod] at *; omega
  | x :: l, hl, hd => by
    rcases h.dvd_mul hd with h1 | h1
    · exact hl x (by simp) h1
    · exact Pr.not_dvd_prod h l (fun y hy => hl y (List.mem_cons_of_mem _ hy)) h1
theorem inj_on {r a x y : Nat} (h : Pr r) (ha : ¬ r ∣ a) (hx : x < r) (hy : y < r) (e : a * x % r = a * y % r) : x = y := by
  rcases Nat.lt_or_ge x y with hlt | hge
  · have : r ∣ a * y - a * x := Nat.dvd_of_mod_eq_zero (Nat.sub_mod_eq_zero_of_mod_eq e.symm)
    rw [← Nat.mul_sub] at this
    rcases h.dvd_mul this with h1 | h1
    · exact absurd h1 ha
    · have := Nat.le_of_dvd (by omega) h1; omega
  · rcases Nat.lt_or_ge y x with hlt | hge'
    · have : r ∣ a * x - a * y := Nat.dvd_of_mod_eq_zero (Nat.sub_mod_eq_zero_of_mod_eq e)
      rw [← Nat.mul_sub] at this
      rcases h.dvd_mul this with h1 | h1
      · exact absurd h1 ha
      · have := Nat.le_of_dvd (by omega) h1; omega
    · omega
theorem fermat {r a : Nat} (h : Pr r) (ha : ¬ r ∣ a) : a ^ (r - 1) % r = 1 := by
  have h2 := h.1
  let l := List.range' 1 (r - 1)
  have hl : ∀ x, x ∈ l ↔ 1 ≤ x ∧ x < r := fun x => by
    simp only [l, List.mem_range'_1]; omega
  have hnd : ∀ x ∈ l, ¬ r ∣ x := fun x hx hd => by
    have := (hl x).1 hx
    have := Nat.le_of_dvd (by omega) hd
    omega
  have hp : (l.map fun x => a * x % r).Perm l := by
    refine perm_of _ _ ?_ (fun y hy => ?_) (by simp)
    · have : ∀ m : List Nat, m.Nodup → (∀ x ∈ m, x < r) → (m.map fun x => a * x % r).Nodup := by
        intro m
        induction m with
        | nil => intro _ _; exact List.nodup_nil
        | cons x m ih =>
          intro hn hlt
          have hn := List.nodup_cons.1 hn
          rw [List.map_cons, List.nodup_cons]
          refine ⟨fun hm => ?_, ih hn.2 fun y hy => hlt y (List.mem_cons_of_mem _ hy)⟩
          obtain ⟨y, hy, e⟩ := List.mem_map.1 hm
          have := inj_on h ha (hlt y (List.mem_cons_of_mem _ hy)) (hlt x (by simp)) e
          exact hn.1 (this ▸ hy)
      exact this l List.nodup_range' fun x hx => ((hl x).1 hx).2
    · obtain ⟨x, hx, rfl⟩ := List.mem_map.1 hy
      refine (hl _).2 ⟨?_, Nat.mod_lt _ (by omega)⟩
      rcases Nat.eq_zero_or_pos (a * x % r) with e | e
      · exact absurd (Nat.dvd_of_mod_eq_zero e) fun hd => (h.dvd_mul hd).elim ha (hnd x hx)
      · exact e
  have e1 := prod_map_mod r a l
  rw [prod_perm hp] at e1
  have hlen : l.length = r - 1 := by simp [l]
  rw [hlen] at e1
  have hd : r ∣ a ^ (r - 1) * prod l - prod l := Nat.dvd_of_mod_eq_zero (Nat.sub_mod_eq_zero_of_mod_eq e1.symm)
  have e2 : a ^ (r - 1) * prod l - prod l = (a ^ (r - 1) - 1) * prod l := by rw [Nat.sub_mul, Nat.one_mul]
  rw [e2] at hd
  have ha0 : 0 < a := Nat.pos_of_ne_zero fun e => ha (e ▸ Nat.dvd_zero r)
  have hpos : 0 < a ^ (r - 1) := Nat.pow_pos ha0
  rcases h.dvd_mul hd with h1 | h1
  · obtain ⟨k, hk⟩ := h1
    have : a ^ (r - 1) = 1 + r * k := by omega
    rw [this, Nat.add_mul_mod_self_left, Nat.mod_eq_of_lt (by omega)]
  · exact absurd h1 (h.not_dvd_prod l hnd)

/-! ### a proof that a number is prime -/
theorem pow_mod (a e r : Nat) : (a % r) ^ e % r = a ^ e % r := (Nat.pow_mod a e r).symm
theorem pow_gcd {b r : Nat} (hr : 2 ≤ r) : ∀ (x y : Nat), b ^ x % r = 1 → b ^ y % r = 1 → b ^ (Nat.gcd x y) % r = 1 := by
  intro x y
  induction x, y using Nat.gcd.induction with
  | H0 y => intro _ h; rw [Nat.gcd_zero_left]; exact h
  | H1 x y hx ih =>
    intro h1 h2
    rw [Nat.gcd_rec]
    refine ih ?_ h1
    have e : y = y % x + x * (y / x) := (Nat.mod_add_div y x).symm
    rw [e, Nat.pow_add, Nat.pow_mul, Nat.mul_mod, Nat.pow_mod (b ^ x), h1, Nat.one_pow, Nat.mod_eq_of_lt (show 1 < r by omega), Nat.mul_one, Nat.mod_mod] at h2
    exact h2
theorem pock {n q a c : Nat} (hn : 2 ≤ n) (hq : Pr q) (hd : q * ((n - 1) / q) = n - 1) (h1 : a ^ (n - 1) % n = 1) (hc : a ^ ((n - 1) / q) % n = c) (hg : Nat.gcd (c + n - 1) n = 1) (hc1 : 1 ≤ c) {r : Nat} (hr : Pr r) (hrn : r ∣ n) : q ∣ r - 1 := by
  have h2 := hr.1
  have to_r : ∀ {x y : Nat}, x % n = y → x % r = y % r := fun {x y} e => by
    rw [← e, Nat.mod_mod_of_dvd _ hrn]
  have ha1 : a ^ (n - 1) % r = 1 := by
    rw [to_r h1]; exact Nat.mod_eq_of_lt (by omega)
  have hb : ¬ a ^ ((n - 1) / q) % r = 1 := fun e => by
    rw [to_r hc] at e
    have hrd : r ∣ c + n - 1 := by
      have h3 : r ∣ c - 1 := by
        have := Nat.sub_mod_eq_zero_of_mod_eq (m := c) (n := 1) (k := r) (by rw [e]; exact (Nat.mod_eq_of_lt (by omega)).symm)
        exact Nat.dvd_of_mod_eq_zero this
      rw [show c + n - 1 = (c - 1) + n by omega]
      exact Nat.dvd_add h3 hrn
    have := Nat.dvd_gcd hrd hrn
    rw [hg] at this
    have := Nat.le_of_dvd (by omega) this
    omega
  have hbq : (a ^ ((n - 1) / q)) ^ q % r = 1 := by
    rw [← Nat.pow_mul, Nat.mul_comm, hd]; exact ha1
  have hbr : (a ^ ((n - 1) / q)) ^ (r - 1) % r = 1 := by
    refine fermat hr fun hdv => ?_
    have h0 := Nat.mod_eq_zero_of_dvd hdv
    rw [Nat.pow_mod, h0, Nat.zero_pow (by have := hq.1; omega), Nat.zero_mod] at hbq
    exact absurd hbq (by decide)
  refine Classical.byContradiction fun hnd => ?_
  have := pow_gcd h2 q (r - 1) hbq hbr
  rw [hq.coprime hnd, Nat.pow_one] at this
  exact hb this
/-- No number 1 + k q, for k from 1 to K, divides n. -/
def noDiv (n q : Nat) : Nat → Bool
  | 0 => true
  | k + 1 => cond (Nat.beq (n % (1 + (k + 1) * q)) 0) false (noDiv n q k)
theorem noDiv_ok {n q : Nat} : ∀ {K k : Nat}, noDiv n q K = true → 1 ≤ k → k ≤ K → ¬ (1 + k * q) ∣ n
  | 0, k, _, h1, h2 => by omega
  | K + 1, k, h, h1, h2 => by
    simp only [noDiv] at h
    intro hd
    cases hb : Nat.beq (n % (1 + (K + 1) * q)) 0 with
    | true => rw [hb] at h; exact nomatch h
    | false =>
      rw [hb] at h
      by_cases e : k = K + 1
      · subst e
        have := Nat.mod_eq_zero_of_dvd hd
        rw [this] at hb; exact nomatch hb
      · exact noDiv_ok h h1 (by omega) hd
theorem pr_of_pock {n q a c K : Nat} (hn : 2 ≤ n) (hq : Pr q) (hd : q * ((n - 1) / q) = n - 1) (h1 : a ^ (n - 1) % n = 1) (hc : a ^ ((n - 1) / q) % n = c) (hg : Nat.gcd (c + n - 1) n = 1) (hc1 : 1 ≤ c)
    (hK : n < (1 + (K + 1) * q) * (1 + (K + 1) * q)) (hno : noDiv n q K = true) : Pr n := by
  refine pr_of_small hn fun r hr hrn hrr => ?_
  have h2 := hr.1
  obtain ⟨k, hk⟩ := pock hn hq hd h1 hc hg hc1 hr hrn
  have hk0 : k ≠ 0 := fun e => by subst e; omega
  have hrk : r = 1 + k * q := by rw [Nat.mul_comm]; omega
  by_cases hle : k ≤ K
  · exact noDiv_ok hno (by omega) hle (hrk ▸ hrn)
  · have h3 : 1 + (K + 1) * q ≤ r := by
      rw [hrk]
      have := Nat.mul_le_mul_right q (show K + 1 ≤ k by omega)
      omega
    have := Nat.mul_le_mul h3 h3
    omega
def powm (n : Nat) : Nat → Nat → Nat → Nat
  | 0, _, _ => 1
  | f + 1, a, e => match e with
    | 0 => 1
    | e + 1 => cond (Nat.beq ((e + 1) % 2) 1) (powm n f a ((e + 1) / 2) * powm n f a ((e + 1) / 2) % n * a % n) (powm n f a ((e + 1) / 2) * powm n f a ((e + 1) / 2) % n)
theorem powm_eq (n a : Nat) : ∀ (f e : Nat), e < 2 ^ f → powm n f a e % n = a ^ e % n
  | 0, e, h => by
    have : e = 0 := by simp at h; exact h
    subst this; rfl
  | f + 1, 0, h => rfl
  | f + 1, e + 1, h => by
    rw [Nat.pow_succ] at h
    have ih := powm_eq n a f ((e + 1) / 2) (by omega)
    have hs : powm n f a ((e + 1) / 2) * powm n f a ((e + 1) / 2) % n = a ^ (2 * ((e + 1) / 2)) % n := by
      rw [Nat.mul_mod, ih, ← Nat.mul_mod, ← Nat.pow_add]; congr 2; omega
    simp only [powm]
    cases hb : Nat.beq ((e + 1) % 2) 1 with
    | true =>
      have hb : (e + 1) % 2 = 1 := Nat.eq_of_beq_eq_true hb
      simp only [cond_true, Nat.mod_mod]
      rw [hs, Nat.mul_mod, Nat.mod_mod, ← Nat.mul_mod, ← Nat.pow_succ]
      congr 2; omega
    | false =>
      have hb : (e + 1) % 2 ≠ 1 := fun e' => by rw [e'] at hb; exact nomatch hb
      simp only [cond_false, Nat.mod_mod]
      rw [hs]
      congr 2; omega
/-- The whole test, as the kernel can reckon it. -/
def test (n q a K : Nat) : Bool :=
  Nat.ble 2 n && Nat.beq (q * ((n - 1) / q)) (n - 1) && Nat.beq (powm n 256 a (n - 1) % n) 1 && Nat.beq (Nat.gcd (powm n 256 a ((n - 1) / q) % n + n - 1) n) 1 && Nat.ble 1 (powm n 256 a ((n - 1) / q) % n) &&
    Nat.blt n ((1 + (K + 1) * q) * (1 + (K + 1) * q)) && noDiv n q K && Nat.blt (n - 1) (2 ^ 256)
theorem pr_of_test {n q a K : Nat} (hq : Pr q) (h : test n q a K = true) : Pr n := by
  unfold test at h
  simp only [Bool.and_eq_true] at h
  obtain ⟨⟨⟨⟨⟨⟨⟨a1, a2⟩, a3⟩, a4⟩, a5⟩, a6⟩, a7⟩, a8⟩ := h
  have a1 := Nat.le_of_ble_eq_true a1
  have a2 := Nat.eq_of_beq_eq_true a2
  have a3 := Nat.eq_of_beq_eq_true a3
  have a4 := Nat.eq_of_beq_eq_true a4
  have a5 := Nat.le_of_ble_eq_true a5
  have a6 : n < (1 + (K + 1) * q) * (1 + (K + 1) * q) := by simpa [Nat.blt_eq] using a6
  have a8 : n - 1 < 2 ^ 256 := by simpa [Nat.blt_eq] using a8
  have hle : (n - 1) / q ≤ n - 1 := Nat.div_le_self _ _
  rw [powm_eq n a 256 (n - 1) a8] at a3
  rw [powm_eq n a 256 ((n - 1) / q) (by omega)] at a4 a5
  exact pr_of_pock a1 hq a2 a3 rfl a4 a5 a6 a7
/-- By trial. -/
def trial (n : Nat) : Nat → Bool
  | 0 => true
  | d + 1 => cond (Nat.beq (n % (d + 2)) 0) false (trial n d)
theorem trial_ok {n : Nat} : ∀ {D d : Nat}, trial n D = true → 2 ≤ d → d ≤ D + 1 → ¬ d ∣ n
  | 0, d, _, h1, h2 => by omega
  | D + 1, d, h, h1, h2 => by
    simp only [trial] at h
    intro hd
    cases hb : Nat.beq (n % (D + 2)) 0 with
    | true => rw [hb] at h; exact nomatch h
    | false =>
      rw [hb] at h
      by_cases e : d = D + 2
      · subst e
        have := Nat.mod_eq_zero_of_dvd hd
        rw [this] at hb; exact nomatch hb
      · exact trial_ok h h1 (by omega) hd
theorem pr_of_trial {n D : Nat} (hn : 2 ≤ n) (h : trial n D = true) (hD : n < (D + 2) * (D + 2)) : Pr n := by
  refine pr_of_small hn fun r hr hrn hrr => ?_
  by_cases hle : r ≤ D + 1
  · exact trial_ok h hr.1 hle hrn
  · have := Nat.mul_le_mul (show D + 2 ≤ r by omega) (show D + 2 ≤ r by omega)
    omega
set_option maxRecDepth 100000 in
theorem pr7 : Pr 8574133 := pr_of_trial (D := 2930) (by decide) (by decide +kernel) (by decide)
theorem pr6 : Pr 1919519569386763 := pr_of_test (a := 2) (K := 5) pr7 (by decide +kernel)
theorem pr5 : Pr 75445702479781427272750846543864801 := pr_of_test (a := 2) (K := 143) pr6 (by decide +kernel)
theorem pr4 : Pr 74058212732561358302231226437062788676166966415465897661863160754340907 := pr_of_test (a := 2) (K := 3) pr5 (by decide +kernel)
theorem prP : Pr 57896044618658097711785492504343953926634992332820282019728792003956564819949 := pr_of_test (a := 2) (K := 0) pr4 (by decide +kernel)
end Go.Nt
