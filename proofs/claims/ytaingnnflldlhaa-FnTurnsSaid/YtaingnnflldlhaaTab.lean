/- The turns in whole numbers, and the check of their products, for the kernel. No program in sight. -/
import Derived.Test.YtaingnnflldlhaaErr
namespace Go.Proofs.Ytaingnnflldlhaa.Fl

/-- A round of a series, the divisor's word given. -/
def roundF (y d t : Nat) : Nat := force (divF y d) fun q => force (mulF q t) fun p => sub1F p
def loopF (y : Nat) : List Nat → Nat → Nat
  | [], t => t
  | d :: ds, t => force (roundF y d t) fun t' => loopF y ds t'

def argF (N K : Nat) : Nat := force (fiF K) fun k => force (fiF N) fun n => force (mulF 4618760256179416344 k) fun p => divF p n
def cosF (x : Nat) : Nat := force (mulF x x) fun y => loopF y [4644090825121202176, 4642648265865560064, 4640607572284407808, 4638848353679966208, 4636033603912859648, 4633078116657397760, 4629137466983448576, 4622945017495814144, 4611686018427387904] one
def sinF (x : Nat) : Nat := force (mulF x x) fun y => force (loopF y [4644724143818801152, 4643492690795692032, 4641592734702895104, 4639692778610098176, 4637440978796412928, 4634766966517661696, 4631107791820423168, 4626322717216342016, 4618441417868443648] one) fun s => mulF s x

/-- In units of 2^-64; 2^70 where it is not a plain case. -/
def fxF (r : Nat) : Nat := bif okF r && Nat.ble 1010 (dexp r) then mant r * 2 ^ (dexp r - 1010) else 1180591620717411303424
def cF (n k : Nat) : Nat := bif Nat.beq k 0 then 18446744073709551616 else force (Nat.gcd n k) fun g => force (n / g) fun N => force (k / g) fun K =>
  bif Nat.beq (8 * K) N then 13043817825332783104 else force (argF N K) fun x => force (cosF x) fun r => fxF r
def sF (n k : Nat) : Nat := bif Nat.beq k 0 then 0 else force (Nat.gcd n k) fun g => force (n / g) fun N => force (k / g) fun K =>
  bif Nat.beq (8 * K) N then 13043817825332783104 else force (argF N K) fun x => force (sinF x) fun r => fxF r
def bC (n k : Nat) : Nat := bif Nat.blt n (8 * k) then sF (4 * n) (n - 4 * k) else cF n k
def bS (n k : Nat) : Nat := bif Nat.blt n (8 * k) then cF (4 * n) (n - 4 * k) else sF n k
/-- From here with 2^65 added. -/
def cC (n k : Nat) : Nat := bif Nat.blt n (4 * k) then 36893488147419103232 - bC (2 * n) (n - 2 * k) else 36893488147419103232 + bC n k
def cS (n k : Nat) : Nat := bif Nat.blt n (4 * k) then 36893488147419103232 + bS (2 * n) (n - 2 * k) else 36893488147419103232 + bS n k
def dC (n k : Nat) : Nat := bif Nat.blt n (2 * k) then cC n (n - k) else cC n k
def dS (n k : Nat) : Nat := bif Nat.blt n (2 * k) then 73786976294838206464 - cS n (n - k) else cS n k

def tabGo (n : Nat) : Nat → List (Nat × Nat) → List (Nat × Nat)
  | 0, acc => acc
  | m + 1, acc => force m fun m' => force (dC n m') fun c => force (dS n m') fun s => tabGo n m ((c, s) :: acc)

def rngF (o : Nat) : Bool := Nat.ble 18446744073709551616 o && Nat.ble o 55340232221128654848
def sqF (a b : Nat) : Bool :=
  force (a * a + b * b + 2722258935367507707706996859454145691648) fun L => force (73786976294838206464 * (a + b) + 340282366920938463463374607431768211456) fun R =>
    Nat.ble R (L + 2417851639229258349412352) && Nat.ble L (R + 2417851639229258349412352)
def oneF (x : Nat × Nat) : Bool := match x with | (a, b) => rngF a && (rngF b && sqF a b)

/-- How far apart. -/
def gapF (L R : Nat) : Nat := Nat.add (Nat.sub L R) (Nat.sub R L)
/-- One product. -/
def chkG (K C1 C2 S T a b c d u v : Nat) : Bool :=
  cond (Nat.ble (gapF (Nat.add (Nat.add (Nat.mul a c) (Nat.mul K (Nat.add b d))) C1)
      (Nat.add (Nat.add (Nat.mul b d) (Nat.mul K (Nat.add a c))) (Nat.mul S u))) T)
    (Nat.ble (gapF (Nat.add (Nat.add (Nat.mul a d) (Nat.mul b c)) C2)
      (Nat.add (Nat.mul K (Nat.add (Nat.add a b) (Nat.add c d))) (Nat.mul S v))) T) false
def chkF (a b c d u v : Nat) : Bool := chkG 36893488147419103232 680564733841876926926749214863536422912 3402823669209384634633746074317682114560 18446744073709551616 4835703278458516698824704 a b c d u v

noncomputable def rowF (a b : Nat) (X : List (Nat × Nat)) : List (Nat × Nat) → Bool :=
  List.rec (motive := fun _ => List (Nat × Nat) → Bool) (fun _ => true)
    (fun x _ ih Z => match Z with | [] => true | z :: zs => match x with | (c, d) => match z with | (u, v) => cond (chkF a b c d u v) (ih zs) false) X
noncomputable def outF (X0 Y : List (Nat × Nat)) : List (Nat × Nat) → Bool :=
  List.rec (motive := fun _ => List (Nat × Nat) → Bool) (fun _ => true)
    (fun y _ ih Z => match Z with | [] => true | z :: zs => match y with | (a, b) => cond (rowF a b X0 (z :: zs)) (ih zs) false) Y
noncomputable def allF (X : List (Nat × Nat)) : Bool :=
  List.rec (motive := fun _ => Bool) true (fun x _ ih => cond (oneF x) ih false) X
noncomputable def withF (X : List (Nat × Nat)) : Bool := allF X && outF X X (List.reverseAux (List.reverseAux X []) X)
def forceL {α : Type} (X : List (Nat × Nat)) (f : List (Nat × Nat) → α) : α := match X with | [] => f [] | x :: xs => f (x :: xs)
noncomputable def turnF (n : Nat) : Bool := forceL (tabGo n n []) withF


/-! ### What the swift reckoning gives is what the plain functions give. -/
theorem pl_ne {r : Nat} (h : Pl r) : r ≠ 0 := by unfold Pl at h; omega
theorem okF_zero : okF 0 = false := by unfold okF; rw [ble_f (by omega)]; rfl
theorem mulF_zero (q : Nat) : mulF q 0 = 0 := by unfold mulF; rw [okF_zero, Bool.and_false]; rfl
theorem mulF_zero' (q : Nat) : mulF 0 q = 0 := by unfold mulF; rw [okF_zero, Bool.false_and]; rfl
theorem divF_zero (q : Nat) : divF 0 q = 0 := by unfold divF; rw [okF_zero, Bool.false_and]; rfl
theorem sub1F_zero : sub1F 0 = 0 := by unfold sub1F; rw [okF_zero, Bool.false_and]; rfl
theorem roundF_eq (y d t : Nat) : roundF y d t = sub1F (mulF (divF y d) t) := by unfold roundF; rw [force_eq, force_eq]
theorem roundF_zero (y d : Nat) : roundF y d 0 = 0 := by rw [roundF_eq, mulF_zero, sub1F_zero]
theorem roundF_zero' (d t : Nat) : roundF 0 d t = 0 := by rw [roundF_eq, divF_zero, mulF_zero', sub1F_zero]

theorem fd_of {a b : Nat} (h : divF a b ≠ 0) : fd a b = divF a b := by unfold fd; rw [(divF_ok h).1]; rfl
theorem fm_of {a b : Nat} (h : mulF a b ≠ 0) : fm a b = mulF a b := by unfold fm; rw [(mulF_ok h).1]; rfl

theorem roundF_ok {y D t : Nat} (h : roundF y (fi D) t ≠ 0) : step y D t = roundF y (fi D) t := by
  rw [roundF_eq] at h ⊢
  obtain ⟨e1, _, p1⟩ := sub1F_ok h
  obtain ⟨e2, _, p2, _⟩ := mulF_ok (pl_ne p1)
  unfold step
  rw [fd_of (pl_ne p2), fm_of (pl_ne p1)]
  unfold fs
  rw [e1]; rfl

def refLoop (y : Nat) : List Nat → Nat → Nat
  | [], t => t
  | D :: Ds, t => refLoop y Ds (step y D t)

theorem loopF_cons (y d : Nat) (ds : List Nat) (t : Nat) : loopF y (d :: ds) t = loopF y ds (roundF y d t) := by
  show force _ _ = _
  rw [force_eq]
theorem loopF_zero (y : Nat) (ds : List Nat) : loopF y ds 0 = 0 := by
  induction ds with
  | nil => rfl
  | cons d ds ih => rw [loopF_cons, roundF_zero, ih]
theorem loopF_ok (y : Nat) (Ds : List Nat) : ∀ t, loopF y (Ds.map fi) t ≠ 0 → refLoop y Ds t = loopF y (Ds.map fi) t := by
  induction Ds with
  | nil => intro t _; rfl
  | cons D Ds ih =>
    intro t h
    rw [List.map_cons, loopF_cons] at h ⊢
    have h2 : roundF y (fi D) t ≠ 0 := by
      intro e; rw [e, loopF_zero] at h; exact h rfl
    have e : refLoop y (D :: Ds) t = refLoop y Ds (step y D t) := rfl
    rw [e, roundF_ok h2]
    exact ih _ h

theorem cos_words : [4644090825121202176, 4642648265865560064, 4640607572284407808, 4638848353679966208, 4636033603912859648, 4633078116657397760, 4629137466983448576, 4622945017495814144, 4611686018427387904] = [306, 240, 182, 132, 90, 56, 30, 12, 2].map fi := by decide +kernel
theorem sin_words : [4644724143818801152, 4643492690795692032, 4641592734702895104, 4639692778610098176, 4637440978796412928, 4634766966517661696, 4631107791820423168, 4626322717216342016, 4618441417868443648] = [342, 272, 210, 156, 110, 72, 42, 20, 6].map fi := by decide +kernel
theorem cos_ref (y : Nat) : cosT y 9 = refLoop y [306, 240, 182, 132, 90, 56, 30, 12, 2] one := rfl
theorem sin_ref (y : Nat) : sinT y 9 = refLoop y [342, 272, 210, 156, 110, 72, 42, 20, 6] one := rfl

theorem loopF_y (y d : Nat) (ds : List Nat) (t : Nat) (h : loopF y (d :: ds) t ≠ 0) : y ≠ 0 := by
  intro e
  subst e
  rw [loopF_cons, roundF_zero', loopF_zero] at h
  exact h rfl

theorem cosF_ok {x : Nat} (h : cosF x ≠ 0) : cosT (fm x x) 9 = cosF x := by
  unfold cosF at h ⊢
  rw [force_eq] at h ⊢
  have hy := loopF_y _ _ _ _ h
  rw [cos_words] at h ⊢
  rw [fm_of hy, cos_ref]
  exact loopF_ok _ _ _ h
theorem sinF_ok {x : Nat} (h : sinF x ≠ 0) : fm (sinT (fm x x) 9) x = sinF x := by
  unfold sinF at h ⊢
  rw [force_eq, force_eq] at h ⊢
  have hs := pl_ne (mulF_ok h).2.2.1
  have hy := loopF_y _ _ _ _ hs
  rw [sin_words] at h hs ⊢
  rw [fm_of hy, sin_ref, loopF_ok _ _ _ hs]
  exact fm_of h

theorem argF_ok {N K : Nat} (h : argF N K ≠ 0) : fd (fm 4618760256179416344 (fi K)) (fi N) = argF N K := by
  unfold argF at h ⊢
  rw [force_eq, force_eq, force_eq] at h ⊢
  obtain ⟨_, _, p1, p2⟩ := divF_ok h
  obtain ⟨_, _, _, p3⟩ := mulF_ok (pl_ne p1)
  rw [(fiF_ok (pl_ne p2)).1, (fiF_ok (pl_ne p3)).1, fm_of (pl_ne p1)]
  exact fd_of h

theorem cosF_zero : cosF 0 = 0 := by unfold cosF; rw [force_eq, mulF_zero, loopF_cons, roundF_zero', loopF_zero]
theorem sinF_zero : sinF 0 = 0 := by unfold sinF; rw [force_eq, force_eq, mulF_zero]

def U10 : Nat := 2 ^ 1010
theorem U10_eq : U10 = 2 ^ 1010 := by unfold U10; rfl
theorem pow_gen (c d U : Nat) (hU : U = 2 ^ c) (h : c ≤ d) : 2 ^ d = 2 ^ (d - c) * U := by
  subst hU; exact (Nat.pow_sub_mul_pow 2 h).symm
theorem pow_U (d : Nat) (h : 1010 ≤ d) : 2 ^ d = 2 ^ (d - 1010) * U10 := by
  exact pow_gen 1010 d U10 U10_eq h

/-- A word's number in units of 2^-64. -/
structure Fx (w : Nat) (v : Int) : Prop where
  lt : w < 18446744073709551616
  fin : rung .f64 w < FloatKind.f64.format.infRung
  val : ival .f64 w = v * (U10 : Int)

theorem fxF_ok {r : Nat} (h : fxF r ≤ 18446744073709551616) : Fx r (fxF r) := by
  unfold fxF at h ⊢
  cases e : (okF r && Nat.ble 1010 (dexp r)) with
  | false => rw [e, cond_false] at h; omega
  | true =>
    rw [cond_true]
    rw [Bool.and_eq_true] at e
    obtain ⟨h1, h2⟩ := (okF_iff r).1 e.1
    have h3 := of_ble e.2
    have hr : rung .f64 r = r := by unfold rung; rw [weight64]; exact Nat.mod_eq_of_lt (by omega)
    have hs : sgn .f64 r = false := by unfold sgn; rw [weight64, Nat.div_eq_of_lt (by omega)]; rfl
    refine ⟨by omega, by rw [hr, inf64']; exact h2, ?_⟩
    unfold ival
    rw [hs, hr]
    simp only [Bool.false_eq_true, if_false]
    have hv : vmag FloatKind.f64.format r = mant r * 2 ^ (dexp r - 1010) * U10 := by
      rw [Nat.mul_assoc, ← pow_U _ h3]
      unfold vmag mant dexp
      rw [bin64, if_neg (by omega)]
    rw [hv, Int.natCast_mul]

theorem fx_one : Fx one ((18446744073709551616 : Nat) : Int) := ⟨by decide, by decide +kernel, by decide +kernel⟩
theorem fx_zero : Fx 0 ((0 : Nat) : Int) := ⟨by decide, by decide +kernel, by decide +kernel⟩
theorem fx_half : Fx half ((13043817825332783104 : Nat) : Int) := ⟨by decide, by decide +kernel, by decide +kernel⟩

theorem fxF_zero : fxF 0 = 1180591620717411303424 := by unfold fxF; rw [okF_zero]; rfl

theorem cF_ok {n k : Nat} (hn : 1 ≤ n) (h : cF n k ≤ 18446744073709551616) : Fx (tA n k).1 (cF n k) := by
  obtain ⟨g, N, K, r⟩ := red n k hn
  unfold cF at h ⊢
  unfold tA
  rw [force_eq, force_eq, force_eq, r.gg, r.NN, r.KK] at h ⊢
  by_cases h0 : k = 0
  · have hK : K = 0 := by rw [← r.KK, h0, Nat.zero_div]
    rw [beq_t h0, if_pos hK]; exact fx_one
  · have hK : K ≠ 0 := by intro e; apply h0; rw [r.kk, e, Nat.mul_zero]
    rw [beq_f h0, cond_false] at h ⊢
    rw [if_neg hK]
    by_cases h8 : 8 * K = N
    · rw [beq_t h8, if_pos h8]; exact fx_half
    · rw [beq_f h8, cond_false, force_eq, force_eq] at h ⊢
      rw [if_neg h8, base_eq]
      have hc : cosF (argF N K) ≠ 0 := by intro e; rw [e, fxF_zero] at h; omega
      have ha : argF N K ≠ 0 := by intro e; rw [e] at hc; exact hc cosF_zero
      rw [argF_ok ha]
      show Fx (cosT (fm (argF N K) (argF N K)) 9) _
      rw [cosF_ok hc]
      exact fxF_ok h
theorem sF_ok {n k : Nat} (hn : 1 ≤ n) (h : sF n k ≤ 18446744073709551616) : Fx (tA n k).2 (sF n k) := by
  obtain ⟨g, N, K, r⟩ := red n k hn
  unfold sF at h ⊢
  unfold tA
  rw [force_eq, force_eq, force_eq, r.gg, r.NN, r.KK] at h ⊢
  by_cases h0 : k = 0
  · have hK : K = 0 := by rw [← r.KK, h0, Nat.zero_div]
    rw [beq_t h0, if_pos hK]; exact fx_zero
  · have hK : K ≠ 0 := by intro e; apply h0; rw [r.kk, e, Nat.mul_zero]
    rw [beq_f h0, cond_false] at h ⊢
    rw [if_neg hK]
    by_cases h8 : 8 * K = N
    · rw [beq_t h8, if_pos h8]; exact fx_half
    · rw [beq_f h8, cond_false, force_eq, force_eq] at h ⊢
      rw [if_neg h8, base_eq]
      have hc : sinF (argF N K) ≠ 0 := by intro e; rw [e, fxF_zero] at h; omega
      have ha : argF N K ≠ 0 := by intro e; rw [e] at hc; exact hc sinF_zero
      rw [argF_ok ha]
      show Fx (fm (sinT (fm (argF N K) (argF N K)) 9) (argF N K)) _
      rw [sinF_ok hc]
      exact fxF_ok h

theorem Fx.neg {w : Nat} {v : Int} (h : Fx w v) : Fx (Op.negFloat .f64 w) (-v) := by
  have hb := neg_bits .f64 w h.lt
  have hr := rung_neg h.lt
  refine ⟨?_, by rw [hr]; exact h.fin, ?_⟩
  · have := rung_lt64 w
    rw [hb, weight64]; split <;> omega
  · have hs : sgn .f64 (Op.negFloat .f64 w) = !sgn .f64 w := by
      have hl := rung_lt64 w
      cases e : sgn .f64 w with
      | true =>
        rw [e, if_pos rfl] at hb
        rw [hb]
        unfold sgn
        rw [weight64, Nat.div_eq_of_lt hl]; rfl
      | false =>
        rw [e, if_neg (by decide), weight64] at hb
        rw [hb]
        unfold sgn
        rw [weight64, Nat.add_div_left _ (by omega), Nat.div_eq_of_lt hl]; rfl
    have hv := h.val
    unfold ival at hv ⊢
    rw [hs, hr, Int.neg_mul, ← hv]
    cases sgn .f64 w <;> simp

theorem rngF_ok {o : Nat} (h : rngF o = true) : 18446744073709551616 ≤ o ∧ o ≤ 55340232221128654848 := by
  unfold rngF at h
  rw [Bool.and_eq_true] at h
  exact ⟨of_ble h.1, of_ble h.2⟩

theorem bC_ok {n k : Nat} (hn : 1 ≤ n) (h4 : 4 * k ≤ n) (h : bC n k ≤ 18446744073709551616) : Fx (tB n k).1 (bC n k) := by
  rw [tB_eq hn h4]
  unfold bC at h ⊢
  by_cases c : n < 8 * k
  · rw [blt_t c, cond_true] at h ⊢; rw [if_pos c]; exact sF_ok (by omega) h
  · rw [blt_f (by omega), cond_false] at h ⊢; rw [if_neg c]; exact cF_ok hn h
theorem bS_ok {n k : Nat} (hn : 1 ≤ n) (h4 : 4 * k ≤ n) (h : bS n k ≤ 18446744073709551616) : Fx (tB n k).2 (bS n k) := by
  rw [tB_eq hn h4]
  unfold bS at h ⊢
  by_cases c : n < 8 * k
  · rw [blt_t c, cond_true] at h ⊢; rw [if_pos c]; exact cF_ok (by omega) h
  · rw [blt_f (by omega), cond_false] at h ⊢; rw [if_neg c]; exact sF_ok hn h

/-- The same, 2^65 added to the number. -/
def Off (w o : Nat) : Prop := Fx w ((o : Int) - 36893488147419103232)
theorem off_pos {w v : Nat} (h : Fx w v) : Off w (36893488147419103232 + v) := by
  unfold Off
  rw [show ((36893488147419103232 + v : Nat) : Int) - 36893488147419103232 = v by omega]; exact h
theorem off_neg {w v : Nat} (hv : v ≤ 18446744073709551616) (h : Fx w v) : Off (Op.negFloat .f64 w) (36893488147419103232 - v) := by
  unfold Off
  rw [show ((36893488147419103232 - v : Nat) : Int) - 36893488147419103232 = -v by omega]; exact h.neg

theorem cC_ok {n k : Nat} (hn : 1 ≤ n) (h2 : 2 * k ≤ n) (h : rngF (cC n k) = true) : Off (tC n k).1 (cC n k) := by
  obtain ⟨r1, r2⟩ := rngF_ok h
  rw [tC_eq hn h2]
  unfold cC at r1 r2 ⊢
  by_cases c : n < 4 * k
  · rw [blt_t c, cond_true] at r1 r2 ⊢; rw [if_pos c]
    exact off_neg (by omega) (bC_ok (by omega) (by omega) (by omega))
  · rw [blt_f (by omega), cond_false] at r1 r2 ⊢; rw [if_neg c]
    exact off_pos (bC_ok (by omega) (by omega) (by omega))
theorem cS_ok {n k : Nat} (hn : 1 ≤ n) (h2 : 2 * k ≤ n) (r2 : cS n k ≤ 55340232221128654848) : Off (tC n k).2 (cS n k) := by
  rw [tC_eq hn h2]
  unfold cS at r2 ⊢
  by_cases c : n < 4 * k
  · rw [blt_t c, cond_true] at r2 ⊢; rw [if_pos c]
    exact off_pos (bS_ok (by omega) (by omega) (by omega))
  · rw [blt_f (by omega), cond_false] at r2 ⊢; rw [if_neg c]
    exact off_pos (bS_ok (by omega) (by omega) (by omega))

theorem dC_ok {n k : Nat} (hn : 1 ≤ n) (hk : k ≤ n) (h : rngF (dC n k) = true) : Off (tD n k).1 (dC n k) := by
  rw [tD_eq hn hk]
  unfold dC at h ⊢
  by_cases c : n < 2 * k
  · rw [blt_t c, cond_true] at h ⊢; rw [if_pos c]; exact cC_ok hn (by omega) h
  · rw [blt_f (by omega), cond_false] at h ⊢; rw [if_neg c]; exact cC_ok hn (by omega) h
theorem dS_ok {n k : Nat} (hn : 1 ≤ n) (hk : k ≤ n) (h : rngF (dS n k) = true) : Off (tD n k).2 (dS n k) := by
  obtain ⟨r1, r2⟩ := rngF_ok h
  rw [tD_eq hn hk]
  unfold dS at r1 r2 ⊢
  by_cases c : n < 2 * k
  · rw [blt_t c, cond_true] at r1 r2 ⊢; rw [if_pos c]
    have h1 := cS_ok (n := n) (k := n - k) hn (by omega) (by omega)
    have h2 : Fx (Op.negFloat .f64 (tC n (n - k)).2) _ := Fx.neg h1
    unfold Off
    rw [show ((73786976294838206464 - cS n (n - k) : Nat) : Int) - 36893488147419103232 = -((cS n (n - k) : Int) - 36893488147419103232) by omega]
    exact h2
  · rw [blt_f (by omega), cond_false] at r1 r2 ⊢; rw [if_neg c]
    exact cS_ok hn (by omega) r2

/-! ### The lists. -/
theorem tabGo_eq (n : Nat) : ∀ m acc, tabGo n m acc = (List.range m).map (fun k => (dC n k, dS n k)) ++ acc := by
  intro m
  induction m with
  | zero => intro acc; rfl
  | succ m ih =>
    intro acc
    show force _ _ = _
    rw [force_eq, force_eq, force_eq, ih, List.range_succ, List.map_append, List.append_assoc]
    rfl

theorem rowF_ok (a b : Nat) (X : List (Nat × Nat)) : ∀ Z, rowF a b X Z = true → ∀ (k : Nat) (x z : Nat × Nat), X[k]? = some x → Z[k]? = some z → chkF a b x.1 x.2 z.1 z.2 = true := by
  induction X with
  | nil => intro Z _ k x z h; simp at h
  | cons x0 xs ih =>
    intro Z h k x z hx hz
    cases Z with
    | nil => simp at hz
    | cons z0 zs =>
      obtain ⟨c, d⟩ := x0
      obtain ⟨u, v⟩ := z0
      have e : rowF a b ((c, d) :: xs) ((u, v) :: zs) = cond (chkF a b c d u v) (rowF a b xs zs) false := rfl
      rw [e] at h
      cases hc : chkF a b c d u v with
      | false => rw [hc] at h; exact absurd h Bool.false_ne_true
      | true =>
        rw [hc] at h
        cases k with
        | zero =>
          simp at hx hz
          subst hx hz
          exact hc
        | succ k =>
          simp at hx hz
          exact ih zs h k x z hx hz
theorem outF_ok (X0 Y : List (Nat × Nat)) : ∀ Z, outF X0 Y Z = true → ∀ (j : Nat) (y : Nat × Nat), Y[j]? = some y → ∀ (k : Nat) (x z : Nat × Nat), X0[k]? = some x → Z[j + k]? = some z → chkF y.1 y.2 x.1 x.2 z.1 z.2 = true := by
  induction Y with
  | nil => intro Z _ j y h; simp at h
  | cons y0 ys ih =>
    intro Z h j y hy k x z hx hz
    cases Z with
    | nil => simp at hz
    | cons z0 zs =>
      obtain ⟨a, b⟩ := y0
      have e : outF X0 ((a, b) :: ys) (z0 :: zs) = cond (rowF a b X0 (z0 :: zs)) (outF X0 ys zs) false := rfl
      rw [e] at h
      cases hc : rowF a b X0 (z0 :: zs) with
      | false => rw [hc] at h; exact absurd h Bool.false_ne_true
      | true =>
        rw [hc] at h
        cases j with
        | zero =>
          simp at hy
          subst hy
          rw [Nat.zero_add] at hz
          exact rowF_ok _ _ _ _ hc k x z hx hz
        | succ j =>
          rw [show j + 1 + k = (j + k) + 1 by omega] at hz
          simp at hy hz
          exact ih zs h j y hy k x z hx hz
theorem allF_ok (X : List (Nat × Nat)) : allF X = true → ∀ (k : Nat) (x : Nat × Nat), X[k]? = some x → oneF x = true := by
  induction X with
  | nil => intro _ k x h; simp at h
  | cons x0 xs ih =>
    intro h k x hx
    have e : allF (x0 :: xs) = cond (oneF x0) (allF xs) false := rfl
    rw [e] at h
    cases hc : oneF x0 with
    | false => rw [hc] at h; exact absurd h Bool.false_ne_true
    | true =>
      rw [hc] at h
      cases k with
      | zero => simp at hx; subst hx; exact hc
      | succ k => simp at hx; exact ih h k x hx

theorem forceL_eq {α : Type} (X : List (Nat × Nat)) (f : List (Nat × Nat) → α) : forceL X f = f X := by cases X <;> rfl

/-- What the kernel's check says. -/
theorem turnF_ok {n : Nat} (h : turnF n = true) : (∀ k, k < n → oneF (dC n k, dS n k) = true) ∧
    (∀ j k, j < n → k < n → chkF (dC n j) (dS n j) (dC n k) (dS n k) (dC n ((j + k) % n)) (dS n ((j + k) % n)) = true) := by
  have e : turnF n = withF (tabGo n n []) := by
    unfold turnF; exact forceL_eq _ _
  rw [e, tabGo_eq, List.append_nil] at h
  have hg : ∀ k, k < n → ((List.range n).map (fun k => (dC n k, dS n k)))[k]? = some (dC n k, dS n k) := by
    intro k hk
    rw [List.getElem?_map, List.getElem?_range hk]; rfl
  have hl : ((List.range n).map (fun k => (dC n k, dS n k))).length = n := by rw [List.length_map, List.length_range]
  generalize (List.range n).map (fun k => (dC n k, dS n k)) = X at *
  unfold withF at h
  rw [Bool.and_eq_true] at h
  obtain ⟨h1, h2⟩ := h
  rw [List.reverseAux_eq, List.reverseAux_eq, List.append_nil, List.reverse_reverse] at h2
  refine ⟨fun k hk => allF_ok X h1 k _ (hg k hk), fun j k hj hk => ?_⟩
  have hz : (X ++ X)[j + k]? = some (dC n ((j + k) % n), dS n ((j + k) % n)) := ?_
  · exact outF_ok X X (X ++ X) h2 j (dC n j, dS n j) (hg j hj) k (dC n k, dS n k) (dC n ((j + k) % n), dS n ((j + k) % n)) (hg k hk) hz
  by_cases c : j + k < n
  · rw [List.getElem?_append_left (by omega), Nat.mod_eq_of_lt c]; exact hg _ c
  · rw [List.getElem?_append_right (by omega), hl, Nat.mod_eq_sub_mod (by omega), Nat.mod_eq_of_lt (by omega)]; exact hg _ (by omega)

end Go.Proofs.Ytaingnnflldlhaa.Fl
