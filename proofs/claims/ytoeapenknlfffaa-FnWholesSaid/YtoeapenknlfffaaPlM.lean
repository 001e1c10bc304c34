/- Minors of whole matrices: determinants over lists of places, what divides them, Smith numbers divide each other. No condition. Smith numbers divide each other: what divides the minors of a table of three sizes in a row. No condition. Smith numbers: they divide each other, their product is the determinant, and those of the transposed matrix are the same. No condition. -/
import Derived.Test.YtoeapenknlfffaaPlS
import Derived.Test.YtoeapenknlfffaaPlT
set_option linter.unusedVariables false
set_option linter.unusedSimpArgs false
namespace Go.Pl

/-! ### sums with signs, each of a list taken out once -/
def alt {α : Type} (g : α → List α → Int) : List α → Int
  | [] => 0
  | x :: c => g x c - alt (fun y r => g y (x :: r)) c
section
variable {α β : Type}
theorem alt_congr : ∀ (c : List α) {g g' : α → List α → Int}, (∀ y r, (y :: r).Perm c → g y r = g' y r) → alt g c = alt g' c
  | [], _, _, _ => rfl
  | x :: c, g, g', h => by
    unfold alt
    rw [h x c (List.Perm.refl _), alt_congr c fun y r hp => h y (x :: r) ((List.Perm.swap x y r).trans (hp.cons x))]
theorem alt_zero : ∀ (c : List α), alt (fun _ _ => 0) c = 0
  | [] => rfl
  | x :: c => by unfold alt; rw [alt_zero c]; rfl
theorem alt_add : ∀ (c : List α) (g g' : α → List α → Int), alt (fun y r => g y r + g' y r) c = alt g c + alt g' c
  | [], _, _ => rfl
  | x :: c, g, g' => by unfold alt; rw [alt_add c]; omega
theorem alt_mul (k : Int) : ∀ (c : List α) (g : α → List α → Int), alt (fun y r => k * g y r) c = k * alt g c
  | [], _ => by simp [alt]
  | x :: c, g => by unfold alt; rw [alt_mul k c, Int.mul_sub]
theorem alt_sub (c : List α) (g g' : α → List α → Int) : alt (fun y r => g y r - g' y r) c = alt g c - alt g' c := by
  have h := alt_add c g (fun y r => (-1) * g' y r)
  rw [alt_mul] at h
  rw [show (fun y r => g y r - g' y r) = fun y r => g y r + (-1) * g' y r by funext y r; omega, h]
  omega
theorem alt_neg (c : List α) (g : α → List α → Int) : alt (fun y r => -g y r) c = -alt g c := by
  rw [show (fun y r => -g y r) = fun y r => (-1) * g y r by funext y r; omega, alt_mul]; omega
theorem alt_comm (l : List β) : ∀ (c : List α) (h : α → List α → β → List β → Int), alt (fun x r => alt (fun y s => h x r y s) l) c = alt (fun y s => alt (fun x r => h x r y s) c) l
  | [], h => by simp only [alt]; exact (alt_zero l).symm
  | x :: c, h => by
    simp only [alt]
    rw [alt_comm l c fun x' r y s => h x' (x :: r) y s, alt_sub]
theorem alt_map (f : α → β) : ∀ (l : List α) (g : β → List β → Int), alt g (l.map f) = alt (fun x r => g (f x) (r.map f)) l
  | [], _ => rfl
  | x :: l, g => by simp only [List.map_cons, alt]; rw [alt_map f l]
theorem alt_dvd {d : Int} : ∀ (c : List α) {g : α → List α → Int}, (∀ y r, (y :: r).Perm c → d ∣ g y r) → d ∣ alt g c
  | [], _, _ => Int.dvd_zero _
  | x :: c, g, h => by
    unfold alt
    exact Int.dvd_sub (h x c (List.Perm.refl _)) (alt_dvd c fun y r hp => h y (x :: r) ((List.Perm.swap x y r).trans (hp.cons x)))
/-! ### determinants of rows and columns of a table -/
def dt (f : α → β → Int) : List α → List β → Int
  | [], _ => 1
  | a :: l, c => alt (fun y r => f a y * dt f l r) c
theorem perm_len {y : α} {r c : List α} (h : (y :: r).Perm c) : r.length + 1 = c.length := by have := h.length_eq; simpa using this
/-- by the first column -/
theorem dt_col (f : α → β → Int) (y : β) : ∀ (l : List α) (c : List β), l.length = c.length + 1 → dt f l (y :: c) = alt (fun a s => f a y * dt f s c) l
  | [], _, h => by simp at h
  | a :: l, c, h => by
    have h : l.length = c.length := by simpa using h
    simp only [dt, alt]
    rw [alt_congr c (g' := fun z r => alt (fun b s => f a z * (f b y * dt f s r)) l) fun z r hp => by
      rw [dt_col f y l r (by rw [perm_len hp]; exact h), alt_mul]]
    rw [alt_comm l c]
    congr 1
    refine alt_congr l fun b s hp => ?_
    rw [← alt_mul]
    refine alt_congr c fun z r _ => ?_
    rw [Int.mul_left_comm]
theorem dt_flip (f : α → β → Int) : ∀ (l : List α) (c : List β), l.length = c.length → dt f l c = dt (fun y a => f a y) c l
  | [], [], _ => rfl
  | [], _ :: _, h => by simp at h
  | a :: l, c, h => by
    have h : l.length + 1 = c.length := by simpa using h
    rw [dt_col (fun y a => f a y) a c l (by omega)]
    simp only [dt]
    refine alt_congr c fun y r hp => ?_
    rw [dt_flip f l r (by have := perm_len hp; omega)]
/-- two columns change places -/
theorem dt_swapC (f : α → β → Int) (a b : β) : ∀ (rows : List α) (l : List β), rows.length = l.length + 2 → dt f rows (a :: b :: l) = -dt f rows (b :: a :: l)
  | [], l, h => by simp at h
  | y :: c, l, h => by
    have h : c.length = l.length + 1 := by simpa using h
    simp only [dt, alt]
    rw [alt_congr l (g := fun z r => f y z * dt f c (a :: b :: r)) (g' := fun z r => -(f y z * dt f c (b :: a :: r))) fun z r hp => by
      rw [dt_swapC f a b c r (by have := perm_len hp; omega), Int.mul_neg]]
    rw [alt_neg]
    omega
theorem dt_swap (f : α → β → Int) (a b : α) (l : List α) (c : List β) (h : c.length = l.length + 2) : dt f (a :: b :: l) c = -dt f (b :: a :: l) c := by
  rw [dt_flip f _ c (by simpa using h.symm), dt_swapC _ a b c l h, dt_flip f _ c (by simpa using h.symm)]
theorem dt_twice (f : α → β → Int) (a : α) (l : List α) (c : List β) (h : c.length = l.length + 2) : dt f (a :: a :: l) c = 0 := by
  have := dt_swap f a a l c h
  omega
theorem dt_map {α' β' : Type} (f : α → β → Int) (u : α' → α) (v : β' → β) : ∀ (l : List α') (c : List β'), dt f (l.map u) (c.map v) = dt (fun a b => f (u a) (v b)) l c
  | [], _ => rfl
  | a :: l, c => by
    simp only [List.map_cons, dt]
    rw [alt_map]
    exact alt_congr c fun y r _ => by rw [dt_map f u v l r]
theorem dt_congr {f g : α → β → Int} : ∀ (l : List α) (c : List β), (∀ a ∈ l, ∀ y ∈ c, f a y = g a y) → dt f l c = dt g l c
  | [], _, _ => rfl
  | a :: l, c, h => by
    simp only [dt]
    refine alt_congr c fun y r hp => ?_
    rw [h a (by simp) y (hp.mem_iff.1 (by simp)), dt_congr l r fun b hb z hz => h b (List.mem_cons_of_mem _ hb) z (hp.mem_iff.1 (List.mem_cons_of_mem _ hz))]
/-- rows that are sums -/
theorem dt_lin (f : α → β → Int) (p q s : α) (x : Int) (hp : ∀ y, f p y = f q y + x * f s y) : ∀ (pre post : List α) (c : List β), dt f (pre ++ p :: post) c = dt f (pre ++ q :: post) c + x * dt f (pre ++ s :: post) c
  | [], post, c => by
    simp only [List.nil_append, dt]
    rw [← alt_mul, ← alt_add]
    refine alt_congr c fun y r _ => ?_
    rw [hp, Int.add_mul, Int.mul_assoc]
  | a :: pre, post, c => by
    simp only [List.cons_append, dt]
    rw [← alt_mul, ← alt_add]
    refine alt_congr c fun y r _ => ?_
    rw [dt_lin f p q s x hp pre post r, Int.mul_add, Int.mul_left_comm x]
end
/-! ### what divides the minors of a size -/
def In (n : Nat) (l : List Int) : Prop := ∀ x ∈ l, 0 ≤ x ∧ x < n
/-- d divides all minors of a size, also those with rows or columns twice or in another order -/
def Dv (f : Int → Int → Int) (n m k d : Nat) : Prop := ∀ l c : List Int, l.length = k → c.length = k → In n l → In m c → (d : Int) ∣ dt f l c
theorem Dv.flip {f : Int → Int → Int} {n m k d : Nat} (h : Dv f n m k d) : Dv (fun y a => f a y) m n k d := fun l c hl hc h1 h2 => by
  rw [← dt_flip f c l (by omega)]
  exact h c l hc hl h2 h1
/-- every list of rows is an ascending one, up to its sign, or one with a row twice -/
theorem sorted_ins (f : Int → Int → Int) (n : Nat) : ∀ (r : List Int) (a : Int), Asc n r → (0 ≤ a ∧ a < n) → (∃ r', r'.length = r.length + 1 ∧ Asc n r' ∧ (∀ x, x ∈ r' → x = a ∨ x ∈ r) ∧ ((∀ c : List Int, c.length = r.length + 1 → dt f (a :: r) c = dt f r' c) ∨ ∀ c : List Int, c.length = r.length + 1 → dt f (a :: r) c = -dt f r' c)) ∨ ∀ c : List Int, c.length = r.length + 1 → dt f (a :: r) c = 0
  | [], a, hr, ha => .inl ⟨[a], rfl, ⟨by simpa using ha, by simp⟩, by simp, .inl fun c hc => rfl⟩
  | b :: r, a, hr, ha => by
    obtain ⟨p1, p2⟩ := List.pairwise_cons.1 hr.2
    rcases Int.lt_trichotomy a b with h | h | h
    · refine .inl ⟨a :: b :: r, rfl, ⟨fun x hx => ?_, ?_⟩, by simp, .inl fun c hc => rfl⟩
      · rcases List.mem_cons.1 hx with rfl | hx
        · exact ha
        · exact hr.1 x hx
      · refine List.pairwise_cons.2 ⟨fun x hx => ?_, hr.2⟩
        rcases List.mem_cons.1 hx with rfl | hx
        · exact h
        · exact Int.lt_trans h (p1 x hx)
    · subst h
      exact .inr fun c hc => dt_twice f a r c (by simpa using hc)
    · rcases sorted_ins f n r a (tail_asc hr) ha with ⟨r', e1, e2, e3, e4⟩ | e4
      · have hs : ∀ c : List Int, c.length = r.length + 2 → dt f (a :: b :: r) c = -alt (fun y s => f b y * dt f (a :: r) s) c := fun c hc => dt_swap f a b r c hc
        refine .inl ⟨b :: r', by simp [e1], ⟨fun x hx => ?_, List.pairwise_cons.2 ⟨fun x hx => ?_, e2.2⟩⟩, fun x hx => ?_, ?_⟩
        · rcases List.mem_cons.1 hx with rfl | hx
          · exact hr.1 _ (by simp)
          · exact e2.1 x hx
        · rcases e3 x hx with rfl | hx
          · exact h
          · exact p1 x hx
        · rcases List.mem_cons.1 hx with rfl | hx
          · exact .inr (by simp)
          · rcases e3 x hx with rfl | hx
            · exact .inl rfl
            · exact .inr (List.mem_cons_of_mem _ hx)
        · rcases e4 with e4 | e4
          · refine .inr fun c hc => ?_
            rw [hs c (by simpa using hc)]
            congr 1
            exact alt_congr c fun y s hp => by rw [e4 s (by have := perm_len hp; simp at hc; omega)]
          · refine .inl fun c hc => ?_
            rw [hs c (by simpa using hc), ← alt_neg]
            exact alt_congr c fun y s hp => by rw [e4 s (by have := perm_len hp; simp at hc; omega)]; rw [Int.mul_neg, Int.neg_neg]
      · refine .inr fun c hc => ?_
        rw [dt_swap f a b r c (by simpa using hc)]
        show -alt (fun y s => f b y * dt f (a :: r) s) c = 0
        rw [alt_congr c (g' := fun _ _ => 0) fun y s hp => by rw [e4 s (by have := perm_len hp; simp at hc; omega), Int.mul_zero], alt_zero]; rfl
theorem sorted_of (f : Int → Int → Int) (n : Nat) : ∀ l : List Int, In n l → (∃ r', r'.length = l.length ∧ Asc n r' ∧ ((∀ c : List Int, c.length = l.length → dt f l c = dt f r' c) ∨ ∀ c : List Int, c.length = l.length → dt f l c = -dt f r' c)) ∨ ∀ c : List Int, c.length = l.length → dt f l c = 0
  | [], _ => .inl ⟨[], rfl, ⟨by simp, List.Pairwise.nil⟩, .inl fun _ _ => rfl⟩
  | a :: l, h => by
    have ha := h a (by simp)
    rcases sorted_of f n l (fun x hx => h x (List.mem_cons_of_mem _ hx)) with ⟨r, e1, e2, e3⟩ | e3
    · have hs : (∀ c : List Int, c.length = l.length + 1 → dt f (a :: l) c = dt f (a :: r) c) ∨ ∀ c : List Int, c.length = l.length + 1 → dt f (a :: l) c = -dt f (a :: r) c := by
        rcases e3 with e3 | e3
        · refine .inl fun c hc => ?_
          simp only [dt]
          exact alt_congr c fun y s hp => by rw [e3 s (by have := perm_len hp; omega)]
        · refine .inr fun c hc => ?_
          simp only [dt]
          rw [← alt_neg]
          exact alt_congr c fun y s hp => by rw [e3 s (by have := perm_len hp; omega), Int.mul_neg]
      rcases sorted_ins f n r a e2 ha with ⟨r', g1, g2, _, g4⟩ | g4
      · refine .inl ⟨r', by simp [g1, e1], g2, ?_⟩
        rcases hs with hs | hs <;> rcases g4 with g4 | g4
        · exact .inl fun c hc => by rw [hs c hc, g4 c (by rw [e1]; exact hc)]
        · exact .inr fun c hc => by rw [hs c hc, g4 c (by rw [e1]; exact hc)]
        · exact .inr fun c hc => by rw [hs c hc, g4 c (by rw [e1]; exact hc)]
        · exact .inl fun c hc => by rw [hs c hc, g4 c (by rw [e1]; exact hc), Int.neg_neg]
      · refine .inr fun c hc => ?_
        rcases hs with hs | hs
        · rw [hs c hc, g4 c (by rw [e1]; exact hc)]
        · rw [hs c hc, g4 c (by rw [e1]; exact hc)]; rfl
    · refine .inr fun c hc => ?_
      simp only [dt]
      rw [alt_congr c (g' := fun _ _ => 0) fun y s hp => by rw [e3 s (by have := perm_len hp; simp at hc; omega), Int.mul_zero], alt_zero]
/-- the greatest common divisor of the minors of a size -/
def gk (f : Int → Int → Int) (n m k : Nat) : Nat := gTab (dt f) (chI n k) (chI m k) 0
theorem Asc.in_ {n : Nat} {l : List Int} (h : Asc n l) : In n l := h.1
theorem dvd_asc {f : Int → Int → Int} {n m k d : Nat} : d ∣ gk f n m k ↔ ∀ l c : List Int, l.length = k → c.length = k → Asc n l → Asc m c → (d : Int) ∣ dt f l c := by
  unfold gk
  rw [dvd_gTab]
  constructor
  · rintro ⟨_, h⟩ l c hl hc h1 h2
    exact Int.ofNat_dvd_left.2 (h l ((mem_chI _ _ _).2 ⟨hl, h1⟩) c ((mem_chI _ _ _).2 ⟨hc, h2⟩))
  · intro h
    refine ⟨Nat.dvd_zero _, fun l hl c hc => ?_⟩
    obtain ⟨a1, a2⟩ := (mem_chI _ _ _).1 hl
    obtain ⟨b1, b2⟩ := (mem_chI _ _ _).1 hc
    exact Int.ofNat_dvd_left.1 (h l c a1 b1 a2 b2)
theorem dvd_gk {f : Int → Int → Int} {n m k d : Nat} : d ∣ gk f n m k ↔ Dv f n m k d := by
  rw [dvd_asc]
  refine ⟨fun h l c hl hc h1 h2 => ?_, fun h l c hl hc h1 h2 => h l c hl hc h1.in_ h2.in_⟩
  have key : ∀ l : List Int, l.length = k → Asc n l → ∀ c : List Int, c.length = k → In m c → (d : Int) ∣ dt f l c := by
    intro l hl h1 c hc h2
    rw [dt_flip f l c (by omega)]
    rcases sorted_of (fun y a => f a y) m c h2 with ⟨r, e1, e2, e3⟩ | e3
    · have hh := h l r hl (by omega) h1 e2
      rw [dt_flip f l r (by omega)] at hh
      rcases e3 with e3 | e3
      · rw [e3 l (by omega)]; exact hh
      · rw [e3 l (by omega)]; exact Int.dvd_neg.2 hh
    · rw [e3 l (by omega)]; exact Int.dvd_zero _
  rcases sorted_of f n l h1 with ⟨r, e1, e2, e3⟩ | e3
  · have hh := key r (by omega) e2 c hc h2
    rcases e3 with e3 | e3
    · rw [e3 c (by omega)]; exact hh
    · rw [e3 c (by omega)]; exact Int.dvd_neg.2 hh
  · rw [e3 c (by omega)]; exact Int.dvd_zero _
theorem gk_dv (f : Int → Int → Int) (n m k : Nat) : Dv f n m k (gk f n m k) := dvd_gk.1 (Nat.dvd_refl _)
theorem gk_ext {f g : Int → Int → Int} {n m n' m' k : Nat} (h : ∀ d, Dv f n m k d ↔ Dv g n' m' k d) : gk f n m k = gk g n' m' k :=
  Nat.dvd_antisymm (dvd_gk.2 ((h _).1 (gk_dv f n m k))) (dvd_gk.2 ((h _).2 (gk_dv g n' m' k)))
theorem gk_flip (f : Int → Int → Int) (n m k : Nat) : gk (fun y a => f a y) m n k = gk f n m k := gk_ext fun d => ⟨fun h => h.flip, fun h => h.flip⟩
theorem gk_congr {f g : Int → Int → Int} {n m : Nat} (h : ∀ a y : Int, 0 ≤ a ∧ a < n → 0 ≤ y ∧ y < m → f a y = g a y) (k : Nat) : gk f n m k = gk g n m k := by
  have : ∀ l c : List Int, In n l → In m c → dt f l c = dt g l c := fun l c h1 h2 => dt_congr l c fun a ha y hy => h a y (h1 a ha) (h2 y hy)
  exact gk_ext fun d => ⟨fun hd l c hl hc h1 h2 => by rw [← this l c h1 h2]; exact hd l c hl hc h1 h2, fun hd l c hl hc h1 h2 => by rw [this l c h1 h2]; exact hd l c hl hc h1 h2⟩
theorem gk_zero (f : Int → Int → Int) (n m : Nat) : gk f n m 0 = 1 := by simp [gk, gTab, gRow, chI, dt]
theorem gk_up (f : Int → Int → Int) (n m k : Nat) : gk f n m k ∣ gk f n m (k + 1) := by
  refine dvd_gk.2 fun l c hl hc h1 h2 => ?_
  cases l with
  | nil => simp at hl
  | cons a l =>
    refine alt_dvd c fun y r hp => Int.dvd_trans (gk_dv f n m k l r (by simpa using hl) (by have := perm_len hp; omega) (fun x hx => h1 x (List.mem_cons_of_mem _ hx)) fun x hx => h2 x (hp.mem_iff.1 (List.mem_cons_of_mem _ hx))) (Int.dvd_mul_left _ _)
/-! ### steps that keep the divisors -/
/-- a multiple of one row is added to the others -/
theorem Dv.rows {f g : Int → Int → Int} {n m k d s : Nat} {x : Int → Int} (hs : s < n) (hg : ∀ a y : Int, 0 ≤ a ∧ a < n → g a y = f a y + x a * f s y) (h : Dv f n m k d) : Dv g n m k d := by
  -- rows of both tables side by side
  have key : ∀ (l pre : List Int) (c : List Int), pre.length + l.length = k → c.length = k → In n pre → In n l → In m c →
      (d : Int) ∣ dt (fun (p : Bool × Int) y => if p.1 then g p.2 y else f p.2 y) (pre.map (Prod.mk false) ++ l.map (Prod.mk true)) c := by
    intro l
    induction l with
    | nil =>
      intro pre c hk hc h1 _ h2
      rw [List.map_nil, List.append_nil]
      have := dt_map (fun (p : Bool × Int) y => if p.1 then g p.2 y else f p.2 y) (Prod.mk false) (fun y : Int => y) pre c
      rw [List.map_id'] at this
      rw [this]
      exact h pre c (by simpa using hk) hc h1 h2
    | cons a l ih =>
      intro pre c hk hc h1 h3 h2
      have ha := h3 a (by simp)
      rw [List.map_cons, dt_lin _ (true, a) (false, a) (false, (s : Int)) (x a) (fun y => by simpa using hg a y ha)]
      have e : ∀ b : Int, pre.map (Prod.mk false) ++ (false, b) :: l.map (Prod.mk true) = (pre ++ [b]).map (Prod.mk false) ++ l.map (Prod.mk true) := fun b => by simp
      have hin : ∀ b : Int, (0 ≤ b ∧ b < n) → In n (pre ++ [b]) := fun b hb x hx => by
        rcases List.mem_append.1 hx with hx | hx
        · exact h1 x hx
        · rw [List.mem_singleton.1 hx]; exact hb
      rw [e, e]
      have hl : In n l := fun x hx => h3 x (List.mem_cons_of_mem _ hx)
      have hk2 : ∀ b : Int, (pre ++ [b]).length + l.length = k := fun b => by simp at hk ⊢; omega
      exact Int.dvd_add (ih _ c (hk2 a) hc (hin a ha) hl h2) (Int.dvd_trans (ih _ c (hk2 s) hc (hin s (by omega)) hl h2) (Int.dvd_mul_left _ _))
  intro l c hl hc h1 h2
  have := key l [] c (by simpa using hl) hc (fun _ hx => by cases hx) h1 h2
  rw [List.map_nil, List.nil_append] at this
  have e := dt_map (fun (p : Bool × Int) y => if p.1 then g p.2 y else f p.2 y) (Prod.mk true) (fun y : Int => y) l c
  rw [List.map_id'] at e
  rw [e] at this
  exact this
theorem gk_rows {f g : Int → Int → Int} {n m s : Nat} {x : Int → Int} (hs : s < n) (hx : x s = 0) (hg : ∀ a y : Int, 0 ≤ a ∧ a < n → g a y = f a y + x a * f s y) (k : Nat) : gk g n m k = gk f n m k := by
  refine gk_ext fun d => ⟨fun h => Dv.rows (x := fun a => -x a) hs (fun a y ha => ?_) h, fun h => Dv.rows hs hg h⟩
  have h1 := hg a y ha
  have h2 := hg s y (by omega)
  rw [hx, Int.zero_mul, Int.add_zero] at h2
  rw [h1, h2, Int.neg_mul]; omega
theorem gk_cols {f g : Int → Int → Int} {n m s : Nat} {x : Int → Int} (hs : s < m) (hx : x s = 0) (hg : ∀ a y : Int, 0 ≤ y ∧ y < m → g a y = f a y + x y * f a s) (k : Nat) : gk g n m k = gk f n m k := by
  have h := gk_rows (f := fun y a => f a y) (g := fun y a => g a y) (n := m) (m := n) (x := x) hs hx (fun a y ha => hg y a ha) k
  rw [gk_flip g n m k, gk_flip f n m k] at h
  exact h
/-- rows in another order -/
theorem gk_perm {f : Int → Int → Int} {n m : Nat} (u : Int → Int) (hu : ∀ a : Int, 0 ≤ a ∧ a < n → 0 ≤ u a ∧ u a < n) (huu : ∀ a : Int, 0 ≤ a ∧ a < n → u (u a) = a) (k : Nat) : gk (fun a y => f (u a) y) n m k = gk f n m k := by
  have e : ∀ (f : Int → Int → Int) (l c : List Int), dt f (l.map u) c = dt (fun a y => f (u a) y) l c := fun f l c => by
    have := dt_map f u (fun y : Int => y) l c
    rwa [List.map_id'] at this
  have hin : ∀ l, In n l → In n (l.map u) := fun l h x hx => by
    obtain ⟨a, ha, rfl⟩ := List.mem_map.1 hx
    exact hu a (h a ha)
  refine gk_ext fun d => ⟨fun h l c hl hc h1 h2 => ?_, fun h l c hl hc h1 h2 => ?_⟩
  · have := h (l.map u) c (by simpa using hl) hc (hin l h1) h2
    rw [dt_congr (g := fun a y => f (u a) y) _ _ (fun _ _ _ _ => rfl), ← e, List.map_map] at this
    rw [show l.map (u ∘ u) = l by rw [List.map_congr_left (f := u ∘ u) (g := id) fun a ha => huu a (h1 a ha), List.map_id]] at this
    exact this
  · rw [← e]
    exact h (l.map u) c (by simpa using hl) hc (hin l h1) h2
end Go.Pl

set_option linter.unusedVariables false
set_option linter.unusedSimpArgs false
namespace Go.Pl

theorem gRow_scale {f : List Int → Int} {D x : Nat} : ∀ {C : List (List Int)} {g : Nat}, D ∣ x * g → (∀ c ∈ C, D ∣ x * (f c).natAbs) → D ∣ x * gRow f C g
  | [], _, h, _ => h
  | c :: C, g, h, hc => by
    have := gRow_scale (f := f) (D := D) (x := x) (C := C) (g := Nat.gcd g (f c).natAbs) (by
      rw [← Nat.gcd_mul_left]; exact Nat.dvd_gcd h (hc c List.mem_cons_self)) fun y hy => hc y (List.mem_cons_of_mem _ hy)
    exact this
theorem gTab_scale {f : List Int → List Int → Int} {D x : Nat} {C : List (List Int)} : ∀ {L : List (List Int)} {g : Nat}, D ∣ x * g → (∀ l ∈ L, ∀ c ∈ C, D ∣ x * (f l c).natAbs) → D ∣ x * gTab f L C g
  | [], _, h, _ => h
  | l :: L, g, h, hc => by
    have := gTab_scale (f := f) (D := D) (x := x) (C := C) (L := L) (g := gRow (f l) C g) (gRow_scale h (hc l List.mem_cons_self)) fun y hy => hc y (List.mem_cons_of_mem _ hy)
    exact this
def sh (l : List Int) : List Int := l.map (· + 1)
theorem sh_len (l : List Int) : (sh l).length = l.length := List.length_map _
theorem asc_unsh {n : Nat} {l : List Int} (h : Asc (n + 1) l) (h0 : ∀ x ∈ l, 0 < x) : ∃ l', l = sh l' ∧ Asc n l' := by
  refine ⟨l.map (· - 1), ?_, fun x hx => ?_, ?_⟩
  · unfold sh
    rw [List.map_map]
    exact (List.map_id l).symm.trans (List.map_congr_left fun x _ => by simp)
  · obtain ⟨y, hy, rfl⟩ := List.mem_map.1 hx
    have := h.1 y hy
    have := h0 y hy
    omega
  · exact List.pairwise_map.2 (h.2.imp fun {a b} hab => by omega)
theorem asc_cases {n : Nat} {l : List Int} (h : Asc (n + 1) l) : (∃ l', l = 0 :: sh l' ∧ Asc n l') ∨ ∃ l', l = sh l' ∧ Asc n l' := by
  cases l with
  | nil => exact .inr ⟨[], rfl, ⟨by simp, List.Pairwise.nil⟩⟩
  | cons a l =>
    obtain ⟨p1, p2⟩ := List.pairwise_cons.1 h.2
    have ha := h.1 a (by simp)
    by_cases h0 : a = 0
    · subst h0
      obtain ⟨l', e, hl⟩ := asc_unsh (tail_asc h) p1
      exact .inl ⟨l', by rw [e], hl⟩
    · refine .inr (asc_unsh h fun x hx => ?_)
      rcases List.mem_cons.1 hx with rfl | hx
      · omega
      · have := p1 x hx; omega
theorem asc_sh {n : Nat} {l : List Int} (h : Asc n l) : Asc (n + 1) (sh l) := by
  refine ⟨fun x hx => ?_, List.pairwise_map.2 (h.2.imp fun {a b} hab => by omega)⟩
  obtain ⟨y, hy, rfl⟩ := List.mem_map.1 hx
  have := h.1 y hy
  omega
theorem asc_sh0 {n : Nat} {l : List Int} (h : Asc n l) : Asc (n + 1) (0 :: sh l) := by
  have h2 := asc_sh h
  refine ⟨fun x hx => ?_, List.pairwise_cons.2 ⟨fun x hx => ?_, h2.2⟩⟩
  · rcases List.mem_cons.1 hx with rfl | hx
    · omega
    · exact h2.1 x hx
  · obtain ⟨y, hy, rfl⟩ := List.mem_map.1 hx
    have := h.1 y hy
    omega
theorem dt_scale (e : Int) (h : Int → Int → Int) : ∀ (l c : List Int), dt (fun a y => e * h a y) l c = e ^ l.length * dt h l c
  | [], _ => by simp [dt]
  | a :: l, c => by
    simp only [dt, List.length_cons]
    rw [← alt_mul]
    refine alt_congr c fun y r _ => ?_
    rw [dt_scale e h l r, Int.pow_succ, Int.mul_comm (e ^ l.length) e]
    simp only [Int.mul_assoc]
    congr 1
    rw [Int.mul_left_comm]
/-- a table with one number in its corner and the others multiples of it -/
structure Blk0 (F h : Int → Int → Int) (n m : Nat) (e : Int) : Prop where
  c : F 0 0 = e
  r0 : ∀ y : Int, 0 < y ∧ y < m + 1 → F 0 y = 0
  c0 : ∀ a : Int, 0 < a ∧ a < n + 1 → F a 0 = 0
  s : ∀ a y : Int, 0 ≤ a ∧ a < n → 0 ≤ y ∧ y < m → F (a + 1) (y + 1) = e * h a y
theorem Blk0.flip {F h : Int → Int → Int} {n m : Nat} {e : Int} (b : Blk0 F h n m e) : Blk0 (fun y a => F a y) (fun y a => h a y) m n e := ⟨b.c, b.c0, b.r0, fun a y h1 h2 => b.s y a h2 h1⟩
theorem Blk0.low {F h : Int → Int → Int} {n m : Nat} {e : Int} (b : Blk0 F h n m e) {l c : List Int} (hl : Asc n l) (hc : Asc m c) : dt F (sh l) (sh c) = e ^ l.length * dt h l c := by
  unfold sh
  rw [dt_map, ← dt_scale]
  exact dt_congr l c fun a ha y hy => b.s a y (hl.1 a ha) (hc.1 y hy)
theorem Blk0.row0 {F h : Int → Int → Int} {n m : Nat} {e : Int} (b : Blk0 F h n m e) {c : List Int} (hc : Asc m c) (g : List Int → Int) : alt (fun y r => F 0 y * g r) (sh c) = 0 := by
  rw [alt_congr (sh c) (g' := fun _ _ => 0) fun y r hp => by
    have hy : y ∈ sh c := hp.mem_iff.1 (by simp)
    obtain ⟨z, hz, rfl⟩ := List.mem_map.1 hy
    have := hc.1 z hz
    rw [b.r0 _ (by omega), Int.zero_mul]]
  exact alt_zero _
theorem Blk0.mixed {F h : Int → Int → Int} {n m : Nat} {e : Int} (b : Blk0 F h n m e) {l c : List Int} (hc : Asc m c) : dt F (0 :: sh l) (sh c) = 0 := b.row0 hc fun r => dt F (sh l) r
theorem Blk0.both {F h : Int → Int → Int} {n m : Nat} {e : Int} (b : Blk0 F h n m e) {l c : List Int} (hl : Asc n l) (hc : Asc m c) : dt F (0 :: sh l) (0 :: sh c) = e ^ (l.length + 1) * dt h l c := by
  simp only [dt, alt]
  rw [b.row0 hc fun r => dt F (sh l) (0 :: r), b.low hl hc, b.c, Int.pow_succ, Int.sub_zero, ← Int.mul_assoc, Int.mul_comm e]
theorem Blk0.gk {F h : Int → Int → Int} {n m : Nat} {e : Int} (b : Blk0 F h n m e) (k : Nat) : gk F (n + 1) (m + 1) (k + 1) = e.natAbs ^ (k + 1) * gk h n m k := by
  refine Nat.dvd_antisymm ?_ ?_
  · refine gTab_scale (Nat.dvd_zero _) fun l hl c hc => ?_
    obtain ⟨a1, a2⟩ := (mem_chI _ _ _).1 hl
    obtain ⟨b1, b2⟩ := (mem_chI _ _ _).1 hc
    have := dvd_asc.1 (Nat.dvd_refl (Go.Pl.gk F (n + 1) (m + 1) (k + 1))) (0 :: sh l) (0 :: sh c) (by simp [sh_len, a1]) (by simp [sh_len, b1]) (asc_sh0 a2) (asc_sh0 b2)
    rw [b.both a2 b2, Int.ofNat_dvd_left, Int.natAbs_mul, Int.natAbs_pow, a1] at this
    exact this
  · refine dvd_asc.2 fun l c hl hc h1 h2 => ?_
    have key : ∀ l' c' : List Int, Asc n l' → Asc m c' → l'.length = k → c'.length = k → ((Go.Pl.gk h n m k : Nat) : Int) ∣ dt h l' c' := fun l' c' g1 g2 e1 e2 => gk_dv h n m k l' c' e1 e2 g1.in_ g2.in_
    have key2 : ∀ l' c' : List Int, Asc n l' → Asc m c' → l'.length = k + 1 → c'.length = k + 1 → ((Go.Pl.gk h n m k : Nat) : Int) ∣ dt h l' c' := fun l' c' g1 g2 e1 e2 => dvd_gk.1 (gk_up h n m k) l' c' e1 e2 g1.in_ g2.in_
    have fin : ∀ {x : Int}, ((Go.Pl.gk h n m k : Nat) : Int) ∣ x → ((e.natAbs ^ (k + 1) * Go.Pl.gk h n m k : Nat) : Int) ∣ e ^ (k + 1) * x := by
      intro x hx
      rw [Int.ofNat_dvd_left, Int.natAbs_mul, Int.natAbs_pow]
      exact Nat.mul_dvd_mul (Nat.dvd_refl _) (Int.ofNat_dvd_left.1 hx)
    rcases asc_cases h1 with ⟨l', rfl, g1⟩ | ⟨l', rfl, g1⟩ <;> rcases asc_cases h2 with ⟨c', rfl, g2⟩ | ⟨c', rfl, g2⟩
    · have e1 : l'.length = k := by simpa [sh_len] using hl
      rw [b.both g1 g2, e1]
      exact fin (key l' c' g1 g2 e1 (by simpa [sh_len] using hc))
    · rw [b.mixed g2]; exact Int.dvd_zero _
    · rw [dt_flip F _ _ (by rw [hl, hc]), b.flip.mixed g1]; exact Int.dvd_zero _
    · have e1 : l'.length = k + 1 := by simpa [sh_len] using hl
      rw [b.low g1 g2, e1]
      exact fin (key2 l' c' g1 g2 e1 (by simpa [sh_len] using hc))
theorem gk_none (f : Int → Int → Int) (m k : Nat) : gk f 0 m (k + 1) = 0 := by simp [gk, chI, gTab]
theorem gk_flat {f : Int → Int → Int} {n m : Nat} (h : ∀ a y : Int, 0 ≤ a ∧ a < n → 0 ≤ y ∧ y < m → f a y = 0) (k : Nat) : gk f n m (k + 1) = 0 := by
  refine Nat.eq_zero_of_zero_dvd (dvd_gk.2 fun l c hl hc h1 h2 => ?_)
  cases l with
  | nil => simp at hl
  | cons a l =>
    have : dt f (a :: l) c = 0 := by
      show alt (fun y r => f a y * dt f l r) c = 0
      rw [alt_congr c (g' := fun _ _ => 0) fun y r hp => by rw [h a y (h1 a (by simp)) (h2 y (hp.mem_iff.1 (by simp))), Int.zero_mul], alt_zero]
    rw [this]; exact Int.dvd_refl _
theorem least {S : Nat → Prop} : ∀ v, S v → ∃ v, S v ∧ ∀ w, S w → v ≤ w := by
  intro v
  induction v using Nat.strongRecOn with
  | _ v ih =>
    intro hv
    by_cases h : ∃ w, w < v ∧ S w
    · obtain ⟨w, h1, h2⟩ := h
      exact ih w h1 h2
    · exact ⟨v, hv, fun w hw => Classical.byContradiction fun hn => h ⟨w, by omega, hw⟩⟩
/-- a table with the same divisors whose corner divides everything, its row and its column being empty -/
theorem to_blk {f : Int → Int → Int} {n m : Nat} (hf : ¬ ∀ a y : Int, 0 ≤ a ∧ a < (n + 1 : Nat) → 0 ≤ y ∧ y < (m + 1 : Nat) → f a y = 0) : ∃ (F h : Int → Int → Int) (e : Int), (∀ k, gk F (n + 1) (m + 1) k = gk f (n + 1) (m + 1) k) ∧ Blk0 F h n m e := by
  let Good := fun g : Int → Int → Int => ∀ k, gk g (n + 1) (m + 1) k = gk f (n + 1) (m + 1) k
  let S := fun v : Nat => ∃ g : Int → Int → Int, Good g ∧ ∃ a y : Int, (0 ≤ a ∧ a < (n + 1 : Nat)) ∧ (0 ≤ y ∧ y < (m + 1 : Nat)) ∧ g a y ≠ 0 ∧ (g a y).natAbs = v
  obtain ⟨v0, hv0⟩ : ∃ v, S v := by
    refine Classical.byContradiction fun hn => hf fun a y ha hy => Classical.byContradiction fun hz => hn ⟨_, f, fun _ => rfl, a, y, ha, hy, hz, rfl⟩
  obtain ⟨v, ⟨g0, G0, a0, y0, ha0, hy0, hz0, hv⟩, hmin⟩ := least v0 hv0
  -- to the corner
  let sw := fun (b a : Int) => if a = 0 then b else if a = b then 0 else a
  have sw1 : ∀ (N : Nat) (b : Int), (0 ≤ b ∧ b < (N + 1 : Nat)) → (∀ a : Int, 0 ≤ a ∧ a < (N + 1 : Nat) → 0 ≤ sw b a ∧ sw b a < (N + 1 : Nat)) ∧ ∀ a : Int, 0 ≤ a ∧ a < (N + 1 : Nat) → sw b (sw b a) = a := by
    intro N b hb
    refine ⟨fun a ha => ?_, fun a ha => ?_⟩
    · show 0 ≤ (if a = 0 then b else if a = b then 0 else a) ∧ (if a = 0 then b else if a = b then 0 else a) < ((N + 1 : Nat) : Int)
      split
      · exact hb
      · split
        · omega
        · exact ha
    · show (if (if a = 0 then b else if a = b then 0 else a) = 0 then b else if (if a = 0 then b else if a = b then 0 else a) = b then 0 else (if a = 0 then b else if a = b then 0 else a)) = a
      split <;> split at * <;> (try split at *) <;> (try split) <;> omega
  obtain ⟨u1, u2⟩ := sw1 n a0 ha0
  obtain ⟨u3, u4⟩ := sw1 m y0 hy0
  let g1 := fun a y => g0 (sw a0 a) y
  have G1 : Good g1 := fun k => (gk_perm (sw a0) u1 u2 k).trans (G0 k)
  let g2 := fun a y => g1 a (sw y0 y)
  have G2 : Good g2 := fun k => by
    have h1 := gk_perm (f := fun y a => g1 a y) (n := m + 1) (m := n + 1) (sw y0) u3 u4 k
    rw [gk_flip g1 (n + 1) (m + 1) k] at h1
    have h2 := gk_flip g2 (n + 1) (m + 1) k
    rw [← h2]
    exact h1.trans (G1 k)
  have hg2 : g2 0 0 = g0 a0 y0 := by
    show g0 (sw a0 0) (sw y0 0) = _
    rfl
  generalize he : g0 a0 y0 = e at *
  -- the row and the column of the corner
  have small : ∀ (g : Int → Int → Int), Good g → ∀ a y : Int, (0 ≤ a ∧ a < (n + 1 : Nat)) → (0 ≤ y ∧ y < (m + 1 : Nat)) → (g a y).natAbs < e.natAbs → g a y = 0 := by
    intro g hg a y ha hy hlt
    refine Classical.byContradiction fun hz => ?_
    have := hmin _ ⟨g, hg, a, y, ha, hy, hz, rfl⟩
    omega
  have rem : ∀ x : Int, (x + -(x / e) * e).natAbs < e.natAbs := by
    intro x
    have h1 : x + -(x / e) * e = x % e := by rw [Int.emod_def, Int.neg_mul, Int.mul_comm]; omega
    have h2 := Int.emod_nonneg x hz0
    have h3 := Int.emod_lt x hz0
    rw [h1]; omega
  have rowD : ∀ (g : Int → Int → Int), Good g → g 0 0 = e → ∀ y : Int, 0 ≤ y ∧ y < (m + 1 : Nat) → e ∣ g 0 y := by
    intro g hg h0 y hy
    by_cases y0 : y = 0
    · subst y0; rw [h0]; exact Int.dvd_refl _
    let g' := fun a z => g a z + (if z = y then -(g 0 y / e) else 0) * g a 0
    have G' : Good g' := fun k => (gk_cols (s := 0) (x := fun z => if z = y then -(g 0 y / e) else 0) (by omega) (if_neg (fun h => y0 h.symm)) (fun a z _ => rfl) k).trans (hg k)
    have h1 : g' 0 y = g 0 y + -(g 0 y / e) * e := by
      show g 0 y + (if y = y then -(g 0 y / e) else 0) * g 0 0 = _
      rw [if_pos rfl, h0]
    have h2 := small g' G' 0 y (by omega) hy (by rw [h1]; exact rem _)
    rw [h1] at h2
    exact ⟨g 0 y / e, by rw [Int.neg_mul] at h2; rw [Int.mul_comm]; omega⟩
  have colD : ∀ (g : Int → Int → Int), Good g → g 0 0 = e → ∀ a : Int, 0 ≤ a ∧ a < (n + 1 : Nat) → e ∣ g a 0 := by
    intro g hg h0 a ha
    by_cases a0 : a = 0
    · subst a0; rw [h0]; exact Int.dvd_refl _
    let g' := fun b z => g b z + (if b = a then -(g a 0 / e) else 0) * g 0 z
    have G' : Good g' := fun k => (gk_rows (s := 0) (x := fun b => if b = a then -(g a 0 / e) else 0) (by omega) (if_neg (fun h => a0 h.symm)) (fun b z _ => rfl) k).trans (hg k)
    have h1 : g' a 0 = g a 0 + -(g a 0 / e) * e := by
      show g a 0 + (if a = a then -(g a 0 / e) else 0) * g 0 0 = _
      rw [if_pos rfl, h0]
    have h2 := small g' G' a 0 ha (by omega) (by rw [h1]; exact rem _)
    rw [h1] at h2
    exact ⟨g a 0 / e, by rw [Int.neg_mul] at h2; rw [Int.mul_comm]; omega⟩
  let g3 := fun a y => g2 a y + (if a = 0 then 0 else -(g2 a 0 / e)) * g2 0 y
  have G3 : Good g3 := fun k => (gk_rows (s := 0) (x := fun a => if a = 0 then 0 else -(g2 a 0 / e)) (by omega) (if_pos rfl) (fun a z _ => rfl) k).trans (G2 k)
  have h3r : ∀ y, g3 0 y = g2 0 y := fun y => by
    show g2 0 y + (if (0 : Int) = 0 then 0 else -(g2 0 0 / e)) * g2 0 y = _
    rw [if_pos rfl, Int.zero_mul, Int.add_zero]
  have h3c : ∀ a : Int, 0 < a ∧ a < (n + 1 : Nat) → g3 a 0 = 0 := fun a ha => by
    show g2 a 0 + (if a = 0 then 0 else -(g2 a 0 / e)) * g2 0 0 = _
    rw [if_neg (by omega), hg2, Int.neg_mul, Int.ediv_mul_cancel (colD g2 G2 hg2 a (by omega))]; omega
  let g4 := fun a y => g3 a y + (if y = 0 then 0 else -(g3 0 y / e)) * g3 a 0
  have G4 : Good g4 := fun k => (gk_cols (s := 0) (x := fun y => if y = 0 then 0 else -(g3 0 y / e)) (by omega) (if_pos rfl) (fun a z _ => rfl) k).trans (G3 k)
  have h40 : g4 0 0 = e := by
    show g3 0 0 + (if (0 : Int) = 0 then 0 else -(g3 0 0 / e)) * g3 0 0 = _
    rw [if_pos rfl, Int.zero_mul, Int.add_zero, h3r, hg2]
  have h4r : ∀ y : Int, 0 < y ∧ y < (m + 1 : Nat) → g4 0 y = 0 := fun y hy => by
    show g3 0 y + (if y = 0 then 0 else -(g3 0 y / e)) * g3 0 0 = _
    rw [if_neg (by omega), h3r, h3r, hg2, Int.neg_mul, Int.ediv_mul_cancel (rowD g2 G2 hg2 y (by omega))]; omega
  have h4c : ∀ a : Int, 0 < a ∧ a < (n + 1 : Nat) → g4 a 0 = 0 := fun a ha => by
    show g3 a 0 + (if (0 : Int) = 0 then 0 else -(g3 0 0 / e)) * g3 a 0 = _
    rw [if_pos rfl, Int.zero_mul, Int.add_zero, h3c a ha]
  have h4d : ∀ a y : Int, 0 < a ∧ a < (n + 1 : Nat) → 0 < y ∧ y < (m + 1 : Nat) → e ∣ g4 a y := by
    intro a y ha hy
    let g5 := fun b z => g4 b z + (if b = 0 then 1 else 0) * g4 a z
    have ea : ((a.toNat : Nat) : Int) = a := by omega
    have G5 : Good g5 := fun k => (gk_rows (s := a.toNat) (x := fun b => if b = 0 then 1 else 0) (by omega) (if_neg (by omega)) (fun b z _ => by rw [ea]) k).trans (G4 k)
    have e0 : ∀ z, g5 0 z = g4 0 z + g4 a z := fun z => by
      show g4 0 z + (if (0 : Int) = 0 then 1 else 0) * g4 a z = _
      rw [if_pos rfl, Int.one_mul]
    have := rowD g5 G5 (by rw [e0, h40, h4c a ha, Int.add_zero]) y (by omega)
    rw [e0, h4r y hy, Int.zero_add] at this
    exact this
  refine ⟨g4, fun a y => g4 (a + 1) (y + 1) / e, e, G4, h40, fun y hy => h4r y (by omega), fun a ha => h4c a (by omega), fun a y ha hy => ?_⟩
  exact (Int.mul_ediv_cancel' (h4d (a + 1) (y + 1) (by omega) (by omega))).symm
/-- what divides the minors grows by steps that divide each other -/
theorem gk_convex : ∀ (n m : Nat) (f : Int → Int → Int) (k : Nat), gk f n m (k + 1) * gk f n m (k + 1) ∣ gk f n m k * gk f n m (k + 2)
  | 0, m, f, k => by rw [gk_none f m (k + 1), Nat.mul_zero]; exact Nat.dvd_zero _
  | n + 1, 0, f, k => by rw [← gk_flip f (n + 1) 0 (k + 2), gk_none _ _ (k + 1), Nat.mul_zero]; exact Nat.dvd_zero _
  | n + 1, m + 1, f, k => by
    by_cases hf : ∀ a y : Int, 0 ≤ a ∧ a < (n + 1 : Nat) → 0 ≤ y ∧ y < (m + 1 : Nat) → f a y = 0
    · rw [gk_flat hf (k + 1), Nat.mul_zero]; exact Nat.dvd_zero _
    · obtain ⟨F, h, e, h1, b⟩ := to_blk hf
      rw [← h1, ← h1, ← h1, b.gk, b.gk]
      cases k with
      | zero =>
        rw [gk_zero, gk_zero]
        simp only [Nat.mul_one, Nat.one_mul, Nat.zero_add, Nat.pow_one]
        rw [Nat.pow_succ, Nat.pow_one]
        exact Nat.dvd_mul_right _ _
      | succ k =>
        rw [b.gk, Nat.mul_mul_mul_comm (e.natAbs ^ (k + 1 + 1)) _ (e.natAbs ^ (k + 1 + 1)) _, Nat.mul_mul_mul_comm (e.natAbs ^ (k + 1)) _ (e.natAbs ^ (k + 1 + 1 + 1)) _, ← Nat.pow_add, ← Nat.pow_add]
        rw [show k + 1 + 1 + (k + 1 + 1) = k + 1 + (k + 1 + 1 + 1) by omega]
        exact Nat.mul_dvd_mul (Nat.dvd_refl _) (gk_convex n m h k)
end Go.Pl

set_option linter.unusedVariables false
set_option linter.unusedSimpArgs false
namespace Go.Pl

theorem sm_fst (f : Nat → Int) : ∀ m, sm (m + 1) f = f 0 + sm m fun i => f (i + 1)
  | 0 => by simp [sm]
  | m + 1 => by
    rw [sm, sm_fst f m, sm]; omega
theorem sm_same {f g : Nat → Int} : ∀ {m : Nat}, (∀ i, i < m → f i = g i) → sm m f = sm m g
  | 0, _ => rfl
  | m + 1, h => by rw [sm, sm, sm_same fun i hi => h i (by omega), h m (by omega)]
theorem sm_min (f : Nat → Int) : ∀ m, sm m (fun i => -f i) = -sm m f
  | 0 => rfl
  | m + 1 => by rw [sm, sm, sm_min f m]; omega
theorem sgn_succ (k : Nat) : sgn (k + 1) = -sgn k := by unfold sgn; omega
theorem alt_sm : ∀ (c : List Int) (g : Int → List Int → Int), alt g c = sm c.length fun k => sgn k * g (ith c k) (c.eraseIdx k)
  | [], g => rfl
  | x :: c, g => by
    rw [alt, alt_sm c, List.length_cons, sm_fst, Int.sub_eq_add_neg, ← sm_min]
    congr 1
    · show g x c = sgn 0 * g (ith (x :: c) 0) ((x :: c).eraseIdx 0)
      rw [ith_cons_zero, List.eraseIdx_cons_zero, show sgn 0 = 1 from rfl, Int.one_mul]
    · refine sm_same fun k _ => ?_
      rw [ith_cons_succ, List.eraseIdx_cons_succ, sgn_succ, Int.neg_mul]
/-- the entries of a matrix -/
def entZ (rows : List (List Int)) (a y : Int) : Int := ent rows a.toNat y.toNat
theorem det_dt : ∀ (rows : List (List Int)) (c : List Int), det rows c = dt (fun (r : List Int) (y : Int) => ith r y.toNat) rows c
  | [], _ => rfl
  | r :: rs, c => by
    show sm c.length _ = alt _ c
    rw [alt_sm]
    refine sm_same fun k _ => ?_
    rw [det_dt rs, Int.mul_assoc]
theorem minor_dt (rows : List (List Int)) : minor rows = dt (entZ rows) := by
  funext l c
  have := dt_map (fun (r : List Int) (y : Int) => ith r y.toNat) (fun i : Int => row rows i.toNat) (fun y : Int => y) l c
  rw [List.map_id'] at this
  unfold minor pick
  rw [det_dt, this]
  rfl
theorem gmin_gk (rows : List (List Int)) (k : Nat) : gmin rows k = gk (entZ rows) rows.length (wid rows) k := by
  unfold gmin gk
  rw [minor_dt]
theorem gmin_convex (rows : List (List Int)) (k : Nat) : gmin rows (k + 1) * gmin rows (k + 1) ∣ gmin rows k * gmin rows (k + 2) := by
  rw [gmin_gk, gmin_gk, gmin_gk]
  exact gk_convex _ _ _ _
/-- the numbers one by one -/
theorem smithF_at (rows : List (List Int)) : ∀ (f k i : Nat), i < (smithF rows k f).length → gmin rows (k + i) ≠ 0 ∧ ith (smithF rows k f) i = ((gmin rows (k + i) / gmin rows (k + i - 1) : Nat) : Int)
  | 0, k, i, h => by simp [smithF] at h
  | f + 1, k, i, h => by
    unfold smithF at h ⊢
    split at h
    · simp at h
    · rename_i hk
      rw [if_neg hk]
      cases i with
      | zero => exact ⟨hk, ith_cons_zero _ _⟩
      | succ i =>
        obtain ⟨h1, h2⟩ := smithF_at rows f (k + 1) i (by simpa using h)
        rw [ith_cons_succ, show k + (i + 1) = k + 1 + i by omega]
        exact ⟨h1, h2⟩
theorem smith_at {rows : List (List Int)} {i : Nat} (h : i < (smith rows).length) : gmin rows (i + 1) ≠ 0 ∧ ith (smith rows) i = ((gmin rows (i + 1) / gmin rows i : Nat) : Int) := by
  obtain ⟨h1, h2⟩ := smithF_at rows _ 1 i h
  rw [show 1 + i = i + 1 by omega] at h1 h2
  exact ⟨h1, h2⟩
theorem gmin_pos {rows : List (List Int)} : ∀ {i : Nat}, gmin rows i ≠ 0 → ∀ {j : Nat}, j ≤ i → gmin rows j ≠ 0
  | 0, h, j, hj => by rw [show j = 0 by omega]; exact h
  | i + 1, h, j, hj => by
    rcases Nat.lt_or_ge j (i + 1) with h1 | h1
    · refine gmin_pos (i := i) (fun h2 => ?_) (by omega)
      have := gmin_chain rows i
      rw [h2] at this
      exact h (Nat.eq_zero_of_zero_dvd this)
    · rw [show j = i + 1 by omega]; exact h
/-- each Smith number divides the next one -/
theorem smith_dvd {rows : List (List Int)} {i : Nat} (h : i + 1 < (smith rows).length) : ith (smith rows) i ∣ ith (smith rows) (i + 1) := by
  obtain ⟨a1, a2⟩ := smith_at (show i < (smith rows).length by omega)
  obtain ⟨b1, b2⟩ := smith_at h
  rw [a2, b2]
  refine Int.ofNat_dvd.2 ?_
  have h0 : gmin rows i ≠ 0 := gmin_pos a1 (by omega)
  obtain ⟨p, hp⟩ := gmin_chain rows i
  obtain ⟨q, hq⟩ := gmin_chain rows (i + 1)
  rw [show i + 1 + 1 = i + 2 by omega] at hq ⊢
  have hc := gmin_convex rows i
  rw [hq, Nat.mul_div_cancel_left _ (Nat.pos_of_ne_zero a1)]
  rw [hq] at hc
  have e : gmin rows (i + 1) / gmin rows i = p := by rw [hp, Nat.mul_div_cancel_left _ (Nat.pos_of_ne_zero h0)]
  rw [e]
  have e1 : gmin rows (i + 1) * gmin rows (i + 1) = gmin rows (i + 1) * gmin rows i * p := by
    conv => lhs; rhs; rw [hp]
    rw [Nat.mul_assoc]
  have e2 : gmin rows i * (gmin rows (i + 1) * q) = gmin rows (i + 1) * gmin rows i * q := by rw [← Nat.mul_assoc, Nat.mul_comm (gmin rows i)]
  rw [e1, e2] at hc
  exact Nat.dvd_of_mul_dvd_mul_left (Nat.mul_pos (Nat.pos_of_ne_zero a1) (Nat.pos_of_ne_zero h0)) hc
/-- the product of the first ones -/
theorem smith_take (rows : List (List Int)) : ∀ i, i ≤ (smith rows).length → prd ((smith rows).take i) = (gmin rows i : Int)
  | 0, _ => by rw [gmin_zero]; rfl
  | i + 1, h => by
    obtain ⟨a1, a2⟩ := smith_at (show i < (smith rows).length by omega)
    have hl : i < (smith rows).length := by omega
    rw [List.take_succ_eq_append_getElem hl, prd_snoc, smith_take rows i (by omega), ith_get hl, a2, ← Int.natCast_mul, Nat.mul_div_cancel' (gmin_chain rows i)]
theorem smith_prd (rows : List (List Int)) : prd (smith rows) = (gmin rows (smith rows).length : Int) := by
  rw [← smith_take rows _ (Nat.le_refl _), List.take_length]
theorem smithF_full (rows : List (List Int)) : ∀ (f k : Nat), (∀ i, i < f → gmin rows (k + i) ≠ 0) → (smithF rows k f).length = f
  | 0, _, _ => rfl
  | f + 1, k, h => by
    unfold smithF
    rw [if_neg (show ¬ gmin rows k = 0 from h 0 (by omega)), List.length_cons, smithF_full rows f (k + 1) fun i hi => by rw [show k + 1 + i = k + (i + 1) by omega]; exact h (i + 1) (by omega)]
theorem smith_full {rows : List (List Int)} (h : gmin rows (min rows.length (wid rows)) ≠ 0) : (smith rows).length = min rows.length (wid rows) :=
  smithF_full rows _ 1 fun i hi => gmin_pos h (by omega)
/-! ### squares -/
theorem chI_all : ∀ n, chI n n = [iota n]
  | 0 => rfl
  | n + 1 => by
    rw [chI, chI_few (by omega), chI_all n, iota_succ]; rfl
theorem pick_all (rows : List (List Int)) : pick rows (iota rows.length) = rows := by
  unfold pick iota tab
  rw [List.map_map]
  refine List.ext_getElem (by simp) fun i h1 h2 => ?_
  simp [row, h2]
theorem gmin_sq {rows : List (List Int)} (h : wid rows = rows.length) : gmin rows rows.length = (det rows (iota rows.length)).natAbs := by
  unfold gmin
  rw [h, chI_all]
  unfold gTab gRow minor
  simp only [List.foldl_cons, List.foldl_nil]
  rw [pick_all, Nat.gcd_zero_left]
theorem smith_sq {rows : List (List Int)} (h : wid rows = rows.length) (hd : det rows (iota rows.length) ≠ 0) : (smith rows).length = rows.length ∧ (prd (smith rows) = det rows (iota rows.length) ∨ prd (smith rows) = -det rows (iota rows.length)) := by
  have h1 := gmin_sq h
  have h2 : (smith rows).length = rows.length := by
    have := smith_full (rows := rows) (by rw [h, Nat.min_self, h1]; omega)
    rw [h, Nat.min_self] at this
    exact this
  refine ⟨h2, ?_⟩
  rw [smith_prd, h2, h1]
  omega
/-! ### the transposed matrix -/
theorem smithF_same {A B : List (List Int)} (h : ∀ k, gmin A k = gmin B k) : ∀ (f k : Nat), smithF A k f = smithF B k f
  | 0, _ => rfl
  | f + 1, k => by
    unfold smithF
    rw [h, h, smithF_same h f]
/-- A has the columns of B as rows; both may lack rows -/
theorem smith_flip {A B : List (List Int)} {n m : Nat} (hA : A.length = n) (hB : B.length = m) (wA : 0 < n → wid A = m) (wB : 0 < m → wid B = n) (h : ∀ i j, i < n → j < m → ent A i j = ent B j i) : smith A = smith B := by
  rcases Nat.eq_zero_or_pos n with h0 | h0
  · have e1 : smith A = [] := by unfold smith; rw [hA, h0, Nat.zero_min]; rfl
    have e2 : smith B = [] := by
      unfold smith
      rcases Nat.eq_zero_or_pos m with h1 | h1
      · rw [hB, h1, Nat.zero_min]; rfl
      · rw [wB h1, h0, Nat.min_zero]; rfl
    rw [e1, e2]
  · rcases Nat.eq_zero_or_pos m with h1 | h1
    · have e1 : smith B = [] := by unfold smith; rw [hB, h1, Nat.zero_min]; rfl
      have e2 : smith A = [] := by unfold smith; rw [wA h0, h1, Nat.min_zero]; rfl
      rw [e1, e2]
    · have hg : ∀ k, gmin A k = gmin B k := fun k => by
        rw [gmin_gk, gmin_gk, hA, hB, wA h0, wB h1, ← gk_flip (entZ B) m n k]
        exact gk_congr (fun a y ha hy => h a.toNat y.toNat (by omega) (by omega)) k
      unfold smith
      rw [hA, hB, wA h0, wB h1, Nat.min_comm]
      exact smithF_same hg _ _
end Go.Pl
