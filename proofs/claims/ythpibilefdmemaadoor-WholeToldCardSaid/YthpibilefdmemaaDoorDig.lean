/- Plain words on digits to a base: no program in sight. -/
import Derived.Lib.Hide
namespace Go.Proofs.YthpibilefdmemaaDoor

/-- What digits to the base b come to, the least one first. -/
def val (b : Nat) : List Nat → Nat
  | [] => 0
  | d :: r => d + b * val b r

def Digs (b : Nat) (ds : List Nat) : Prop := ∀ d ∈ ds, d < b
/-- Digits to the base b of which the last one isn't 0. -/
def Canon (b : Nat) (ds : List Nat) : Prop := Digs b ds ∧ ds.getLast? ≠ some 0

theorem val_append (b : Nat) : ∀ (x y : List Nat), val b (x ++ y) = val b x + b ^ x.length * val b y
  | [], y => by simp [val]
  | d :: x, y => by
    simp only [List.cons_append, val, val_append b x y, List.length_cons, Nat.pow_succ, Nat.mul_add]
    rw [Nat.mul_comm (b ^ x.length) b, Nat.mul_assoc]; omega
theorem val_snoc (b : Nat) (x : List Nat) (d : Nat) : val b (x ++ [d]) = val b x + b ^ x.length * d := by
  rw [val_append]; simp [val]
theorem val_lt {b : Nat} : ∀ {ds : List Nat}, Digs b ds → val b ds < b ^ ds.length
  | [], _ => by simp [val]
  | d :: r, h => by
    have h0 : d < b := h d (by simp)
    have ih := val_lt (b := b) (ds := r) (fun x hx => h x (by simp [hx]))
    simp only [val, List.length_cons, Nat.pow_succ]
    have : b * (val b r + 1) ≤ b * b ^ r.length := Nat.mul_le_mul_left b ih
    rw [Nat.mul_comm (b ^ r.length) b]
    rw [Nat.mul_add] at this
    omega
theorem val_zeros (b n : Nat) : val b (List.replicate n 0) = 0 := by
  induction n with
  | zero => rfl
  | succ n ih => simp [List.replicate_succ, val, ih]
theorem Digs.nil (b : Nat) : Digs b [] := fun _ h => by cases h
theorem Digs.snoc {b : Nat} {ds : List Nat} (h : Digs b ds) {d : Nat} (hd : d < b) : Digs b (ds ++ [d]) := by
  intro x hx
  rcases List.mem_append.1 hx with hx | hx
  · exact h x hx
  · simp at hx; omega
theorem Digs.take {b : Nat} {ds : List Nat} (h : Digs b ds) (n : Nat) : Digs b (ds.take n) := fun x hx => h x (List.mem_of_mem_take hx)
theorem Digs.drop {b : Nat} {ds : List Nat} (h : Digs b ds) (n : Nat) : Digs b (ds.drop n) := fun x hx => h x (List.mem_of_mem_drop hx)
theorem Digs.at {b : Nat} {ds : List Nat} (h : Digs b ds) {i : Nat} (hi : i < ds.length) : ds[i] < b := h _ (List.getElem_mem hi)
theorem Canon.nil (b : Nat) : Canon b [] := ⟨Digs.nil b, by simp⟩

theorem Canon.tail {b d : Nat} {r : List Nat} (h : Canon b (d :: r)) : Canon b r := by
  refine ⟨fun x hx => h.1 x (by simp [hx]), ?_⟩
  intro hl
  cases r with
  | nil => simp at hl
  | cons e r => exact h.2 (by rw [List.getLast?_cons_cons]; exact hl)

theorem Canon.pos {b : Nat} : ∀ {ds : List Nat}, 0 < b → Canon b ds → ds ≠ [] → 0 < val b ds
  | [], _, _, h => absurd rfl h
  | [d], _, h, _ => by
    have : d ≠ 0 := fun e => h.2 (by simp [e])
    simp [val]; omega
  | d :: e :: r, hb, h, _ => by
    have := Canon.pos (ds := e :: r) hb h.tail (by simp)
    rw [val]
    have := Nat.mul_pos hb this
    omega

theorem Canon.inj {b : Nat} : ∀ {x y : List Nat}, Canon b x → Canon b y → val b x = val b y → x = y
  | [], [], _, _, _ => rfl
  | [], e :: y, _, h', h => by
    have hb : 0 < b := Nat.lt_of_le_of_lt (Nat.zero_le _) (h'.1 e (by simp))
    have := h'.pos hb (by simp)
    rw [← h] at this
    simp [val] at this
  | d :: x, [], h, _, h' => by
    have hb : 0 < b := Nat.lt_of_le_of_lt (Nat.zero_le _) (h.1 d (by simp))
    have := h.pos hb (by simp)
    rw [h'] at this
    simp [val] at this
  | d :: x, e :: y, h, h', hv => by
    have hd := h.1 d (by simp)
    have he := h'.1 e (by simp)
    simp only [val] at hv
    have h1 : d = e := by
      have := congrArg (· % b) hv
      simpa [Nat.add_mul_mod_self_left, Nat.mod_eq_of_lt hd, Nat.mod_eq_of_lt he] using this
    subst h1
    have h2 : val b x = val b y := Nat.eq_of_mul_eq_mul_left (by omega : 0 < b) (by omega)
    rw [Canon.inj h.tail h'.tail h2]

/-- Digits without the noughts at their end. -/
def trim (ds : List Nat) : List Nat := (ds.reverse.dropWhile (· == 0)).reverse

theorem trim_snoc_zero (ds : List Nat) : trim (ds ++ [0]) = trim ds := by simp [trim]
theorem trim_snoc {d : Nat} (h : d ≠ 0) (ds : List Nat) : trim (ds ++ [d]) = ds ++ [d] := by
  simp [trim, h]
theorem trim_nil : trim [] = [] := rfl

theorem snoc_cases (ds : List Nat) : ds = [] ∨ ∃ r d, ds = r ++ [d] := by
  rcases List.eq_nil_or_concat ds with h | ⟨r, d, h⟩
  · exact .inl h
  · exact .inr ⟨r, d, by simpa using h⟩

theorem trim_facts (b : Nat) : ∀ (n : Nat) (ds : List Nat), ds.length = n → val b (trim ds) = val b ds ∧ (trim ds).getLast? ≠ some 0 ∧ ∃ m, m ≤ ds.length ∧ trim ds = ds.take m
  | 0, ds, h => by
    obtain rfl := List.eq_nil_of_length_eq_zero h
    exact ⟨rfl, by simp [trim], 0, by simp, by simp [trim]⟩
  | n + 1, ds, h => by
    rcases snoc_cases ds with rfl | ⟨r, d, rfl⟩
    · simp at h
    · have ih := trim_facts b n r (by simpa using h)
      by_cases hd : d = 0
      · subst hd
        rw [trim_snoc_zero]
        obtain ⟨h1, h2, m, h3, h4⟩ := ih
        refine ⟨by rw [h1, val_snoc]; simp, h2, m, by simp; omega, ?_⟩
        rw [h4, List.take_append_of_le_length h3]
      · rw [trim_snoc hd]
        exact ⟨rfl, by simpa using hd, (r ++ [d]).length, Nat.le_refl _, List.take_length.symm⟩
theorem trim_val (b : Nat) (ds : List Nat) : val b (trim ds) = val b ds := (trim_facts b _ ds rfl).1
theorem trim_canon {b : Nat} {ds : List Nat} (h : Digs b ds) : Canon b (trim ds) := by
  obtain ⟨_, h2, m, _, h4⟩ := trim_facts b _ ds rfl
  exact ⟨by rw [h4]; exact h.take m, h2⟩
theorem trim_len (ds : List Nat) : (trim ds).length ≤ ds.length := by
  obtain ⟨_, _, m, h3, h4⟩ := trim_facts 1 _ ds rfl
  rw [h4, List.length_take]; omega
theorem trim_canon_self {b : Nat} {ds : List Nat} (h : Canon b ds) : trim ds = ds := by
  rcases snoc_cases ds with rfl | ⟨r, d, rfl⟩
  · rfl
  · exact trim_snoc (fun e => h.2 (by simp [e])) r

/-- The digits of a number. -/
def digs (b : Nat) : Nat → Nat → List Nat
  | 0, _ => []
  | f + 1, n => if n = 0 then [] else n % b :: digs b f (n / b)

theorem digs_facts {b : Nat} (hb : 2 ≤ b) : ∀ (f n : Nat), n < f → Canon b (digs b f n) ∧ val b (digs b f n) = n
  | 0, n, h => by omega
  | f + 1, n, h => by
    rw [digs]
    split
    · rename_i h0; subst h0; exact ⟨Canon.nil b, rfl⟩
    · rename_i h0
      have hlt : n / b < n := Nat.div_lt_self (by omega) hb
      obtain ⟨ih, ihv⟩ := digs_facts hb f (n / b) (by omega)
      have hm : n % b < b := Nat.mod_lt _ (by omega)
      have hv : n % b + b * (n / b) = n := by have := Nat.div_add_mod n b; omega
      refine ⟨⟨?_, ?_⟩, by rw [val, ihv]; exact hv⟩
      · intro x hx
        rcases List.mem_cons.1 hx with rfl | hx
        · exact hm
        · exact ih.1 x hx
      · intro hl
        cases hr : digs b f (n / b) with
        | nil =>
          rw [hr] at hl ihv
          simp at hl
          simp [val] at ihv
          rw [hl, ← ihv] at hv
          simp at hv
          omega
        | cons e r =>
          rw [hr, List.getLast?_cons_cons] at hl
          exact ih.2 (by rw [hr]; exact hl)

/-- The digits of a number to a base, the last one not 0. -/
def dg (b n : Nat) : List Nat := digs b (n + 1) n
theorem dg_canon {b : Nat} (hb : 2 ≤ b) (n : Nat) : Canon b (dg b n) := (digs_facts hb (n + 1) n (by omega)).1
theorem dg_val {b : Nat} (hb : 2 ≤ b) (n : Nat) : val b (dg b n) = n := (digs_facts hb (n + 1) n (by omega)).2
theorem Canon.eq_dg {b : Nat} (hb : 2 ≤ b) {ds : List Nat} (h : Canon b ds) : ds = dg b (val b ds) := h.inj (dg_canon hb _) (dg_val hb _).symm
theorem dg_of {b : Nat} (hb : 2 ≤ b) {ds : List Nat} (h : Canon b ds) {n : Nat} (hn : val b ds = n) : dg b n = ds := by rw [← hn]; exact (h.eq_dg hb).symm
theorem trim_dg {b : Nat} (hb : 2 ≤ b) {ds : List Nat} (h : Digs b ds) : trim ds = dg b (val b ds) := by
  rw [(trim_canon h).eq_dg hb, trim_val]

/-- How long the digits of a number are. -/
theorem Canon.len_le {b : Nat} {ds : List Nat} (h : Canon b ds) {k : Nat} (hk : val b ds < b ^ k) : ds.length ≤ k := by
  rcases snoc_cases ds with rfl | ⟨r, d, rfl⟩
  · simp
  · have hd : d ≠ 0 := fun e => h.2 (by simp [e])
    have hdb : d < b := h.1 d (by simp)
    rw [val_snoc] at hk
    have h1 : b ^ r.length * 1 ≤ b ^ r.length * d := Nat.mul_le_mul_left _ (by omega)
    have h2 : b ^ r.length < b ^ k := by omega
    have h3 : r.length < k := (Nat.pow_lt_pow_iff_right (by omega : 1 < b)).1 h2
    simp; omega
theorem dg_len {b : Nat} (hb : 2 ≤ b) {n k : Nat} (h : n < b ^ k) : (dg b n).length ≤ k := (dg_canon hb n).len_le (by rw [dg_val hb]; exact h)
theorem dg_lt {b : Nat} (hb : 2 ≤ b) (n : Nat) : n < b ^ (dg b n).length := by
  have := val_lt (dg_canon hb n).1
  rwa [dg_val hb] at this
theorem dg_zero (b : Nat) : dg b 0 = [] := rfl
theorem dg_eq_nil {b : Nat} (hb : 2 ≤ b) {n : Nat} : dg b n = [] ↔ n = 0 := by
  constructor
  · intro h; have := dg_val hb n; rw [h] at this; exact this.symm
  · rintro rfl; rfl
theorem dg_len_mono {b : Nat} (hb : 2 ≤ b) {m n : Nat} (h : m ≤ n) : (dg b m).length ≤ (dg b n).length := dg_len hb (Nat.lt_of_le_of_lt h (dg_lt hb n))
theorem dg_len_mul {b : Nat} (hb : 2 ≤ b) (m n : Nat) : (dg b (m * n)).length ≤ (dg b m).length + (dg b n).length := by
  apply dg_len hb
  rw [Nat.pow_add]
  exact Nat.mul_lt_mul'' (dg_lt hb m) (dg_lt hb n)
theorem dg_len_add {b : Nat} (hb : 2 ≤ b) (m n : Nat) : (dg b (m + n)).length ≤ max (dg b m).length (dg b n).length + 1 := by
  apply dg_len hb
  have h1 := Nat.lt_of_lt_of_le (dg_lt hb m) (Nat.pow_le_pow_right (by omega : 0 < b) (Nat.le_max_left _ (dg b n).length))
  have h2 := Nat.lt_of_lt_of_le (dg_lt hb n) (Nat.pow_le_pow_right (by omega : 0 < b) (Nat.le_max_right (dg b m).length _))
  rw [Nat.pow_succ]
  have : b ^ max (dg b m).length (dg b n).length * 2 ≤ b ^ max (dg b m).length (dg b n).length * b := Nat.mul_le_mul_left _ hb
  omega
theorem Canon.lt_of_len {b : Nat} {x y : List Nat} (hx : Canon b x) (hy : Canon b y) (h : x.length < y.length) : val b x < val b y := by
  rcases Nat.lt_or_ge (val b x) (val b y) with h' | h'
  · exact h'
  · have := hy.len_le (k := x.length) (Nat.lt_of_le_of_lt h' (val_lt hx.1))
    omega
/-- The first digits of two rows stand as the rows do, where the later ones are one. -/
theorem val_take_drop (b : Nat) (ds : List Nat) (i : Nat) (hi : i ≤ ds.length) : val b ds = val b (ds.take i) + b ^ i * val b (ds.drop i) := by
  conv => lhs; rw [← List.take_append_drop i ds, val_append]
  rw [List.length_take, Nat.min_eq_left hi]
end Go.Proofs.YthpibilefdmemaaDoor
