/- What each function asks and gives, in plain Lean; printed from the code. No condition. -/
import Derived.Test.YtkcamohhjaibaaaSp
namespace Go.Proofs.Ytkcamohhjaibaaa.Pl
open Go Go.RowKit
def F_in_ (n_ : Int) (low : Int) (high : Int) (K : Bool → Prop) : Prop :=
  ((decide (low ≤ n_)) = true →
    K (decide (n_ ≤ high))) ∧
  ((decide (low ≤ n_)) = false →
    K false)

def F_at_ (code : Int) (index : Int) (K : Fault → Prop) : Prop :=
  K (⟨code, index⟩ : Fault)

def F_linkCode_J3 (K : Int → Prop) (t53 : Bool) : Prop :=
  ((t53) = true →
    K 5) ∧
  ((t53) = false →
    K 0)

def F_linkCode_J2 (l : Link) (K : Int → Prop) (t26 : Bool) : Prop :=
  ((t26) = true →
    K 3) ∧
  ((t26) = false →
    ((l.src == l.dst) = true →
      F_linkCode_J3 K true) ∧
    ((l.src == l.dst) = false →
      F_linkCode_J3 K (decide (l.high < l.low))))

def F_linkCode_J1 (l : Link) (K : Int → Prop) (t5 : Bool) : Prop :=
  ((t5) = true →
    K 3) ∧
  ((t5) = false →
    ∀ x : Int, x = (max (max (max l.low (IntKind.i64.wrap (0 - l.low))) l.high) (IntKind.i64.wrap (0 - l.high))) →
    ((decide (1000 < x)) = true →
      F_linkCode_J2 l K true) ∧
    ((decide (1000 < x)) = false →
      ∀ x2 : Int, x2 = (min (min (min l.low (IntKind.i64.wrap (0 - l.low))) l.high) (IntKind.i64.wrap (0 - l.high))) →
      F_linkCode_J2 l K (decide (x2 < (-1000)))))

def F_linkCode (l : Link) (n_ : Int) (K : Int → Prop) : Prop :=
  ((decide (l.src < 0)) = true →
    F_linkCode_J1 l K true) ∧
  ((decide (l.src < 0)) = false →
    ((decide (n_ ≤ l.src)) = true →
      F_linkCode_J1 l K true) ∧
    ((decide (n_ ≤ l.src)) = false →
      ((decide (l.dst < 0)) = true →
        F_linkCode_J1 l K true) ∧
      ((decide (l.dst < 0)) = false →
        F_linkCode_J1 l K (decide (n_ ≤ l.dst)))))

def F_rLinkCode_J2 (K : Int → Prop) (t42 : Bool) : Prop :=
  ((t42) = true →
    K 5) ∧
  ((t42) = false →
    K 0)

def F_rLinkCode_J1 (l : Link) (K : Int → Prop) (t30 : Bool) : Prop :=
  ((t30) = true →
    K 3) ∧
  ((t30) = false →
    ((l.src == l.dst) = true →
      F_rLinkCode_J2 K true) ∧
    ((l.src == l.dst) = false →
      F_rLinkCode_J2 K (decide (l.high < l.low))))

def F_rLinkCode (l : Link) (n_ : Int) (K : Int → Prop) : Prop :=
  ∀ r2 : Bool, r2 = (sp_in_ l.src 0 (IntKind.i64.wrap (n_ - 1))) →
  ((!r2) = true →
    F_rLinkCode_J1 l K true) ∧
  ((!r2) = false →
    ∀ r3 : Bool, r3 = (sp_in_ l.dst 0 (IntKind.i64.wrap (n_ - 1))) →
    ((!r3) = true →
      F_rLinkCode_J1 l K true) ∧
    ((!r3) = false →
      ∀ r4 : Bool, r4 = (sp_in_ l.low (-1000) 1000) →
      ((!r4) = true →
        F_rLinkCode_J1 l K true) ∧
      ((!r4) = false →
        ∀ r5 : Bool, r5 = (sp_in_ l.high (-1000) 1000) →
        F_rLinkCode_J1 l K (!r5))))

def F_validate_L1 (n_ : Network) (K : Fault → Prop) (t25 : Int) (I1 : Int → Prop) (μ1 : Int → Nat) : Prop :=
  ((decide (t25 < ((n_.links.length : Nat) : Int))) = true →
    (inb n_.links t25) ∧
    ∀ r2 : Int, r2 = (sp_linkCode (gt n_.links t25) n_.events) →
    ((r2 != 0) = true →
      K (⟨r2, t25⟩ : Fault)) ∧
    ((r2 != 0) = false →
      I1 (IntKind.i64.wrap (t25 + 1)) ∧
  μ1 (IntKind.i64.wrap (t25 + 1)) < μ1 t25)) ∧
  ((decide (t25 < ((n_.links.length : Nat) : Int))) = false →
    K (⟨0, 0⟩ : Fault))

def F_validate_J1 (n_ : Network) (K : Fault → Prop) (t6 : Bool) : Prop :=
  ((t6) = true →
    K (⟨3, (-1)⟩ : Fault)) ∧
  ((t6) = false →
    ((decide (30 < ((n_.links.length : Nat) : Int))) = true →
      K (⟨2, (-1)⟩ : Fault)) ∧
    ((decide (30 < ((n_.links.length : Nat) : Int))) = false →
      ∃ (I1 : Int → Prop) (μ1 : Int → Nat), I1 0 ∧ ∀ (t25 : Int), I1 t25 → F_validate_L1 n_ K t25 I1 μ1))

def F_validate (n_ : Network) (K : Fault → Prop) : Prop :=
  ((decide (n_.events < 1)) = true →
    F_validate_J1 n_ K true) ∧
  ((decide (n_.events < 1)) = false →
    F_validate_J1 n_ K (decide (10 < n_.events)))

def F_networkFault_L1 (n_ : Network) (K : Fault → Prop) (i : Int) (I1 : Int → Prop) (μ1 : Int → Nat) : Prop :=
  ((decide (i < ((n_.links.length : Nat) : Int))) = true →
    (inb n_.links i) ∧
    (pre_rLinkCode (gt n_.links i) n_.events) ∧
    ∀ r5 : Int, r5 = (sp_linkCode (gt n_.links i) n_.events) →
    ((r5 != 0) = true →
      ∀ r6 : Fault, r6 = (sp_at_ r5 i) →
      K r6) ∧
    ((r5 != 0) = false →
      I1 (IntKind.i64.wrap (i + 1)) ∧
  μ1 (IntKind.i64.wrap (i + 1)) < μ1 i)) ∧
  ((decide (i < ((n_.links.length : Nat) : Int))) = false →
    K (⟨0, 0⟩ : Fault))

def F_networkFault (n_ : Network) (K : Fault → Prop) : Prop :=
  ∀ r2 : Bool, r2 = (sp_in_ n_.events 1 10) →
  ((!r2) = true →
    ∀ r3 : Fault, r3 = (sp_at_ 3 (-1)) →
    K r3) ∧
  ((!r2) = false →
    ((decide (30 < ((n_.links.length : Nat) : Int))) = true →
      ∀ r4 : Fault, r4 = (sp_at_ 2 (-1)) →
      K r4) ∧
    ((decide (30 < ((n_.links.length : Nat) : Int))) = false →
      ∃ (I1 : Int → Prop) (μ1 : Int → Nat), I1 0 ∧ ∀ (i : Int), I1 i → F_networkFault_L1 n_ K i I1 μ1))

def F_mul64 (x : Int) (y : Int) (K : (Int × Int) → Prop) : Prop :=
  ∀ x2 : Int, x2 = (IntKind.u64.wrap ((bits .and .u64 x 4294967295) * (bits .and .u64 y 4294967295))) →
  ∀ x3 : Int, x3 = (IntKind.u64.wrap ((Int.fdiv x (2 ^ (min ((32 : Int)).toNat (IntKind.bits .u64)))) * (bits .and .u64 y 4294967295))) →
  ∀ x4 : Int, x4 = (IntKind.u64.wrap (x3 + (Int.fdiv x2 (2 ^ (min ((32 : Int)).toNat (IntKind.bits .u64)))))) →
  ∀ x5 : Int, x5 = (IntKind.u64.wrap ((bits .and .u64 x 4294967295) * (Int.fdiv y (2 ^ (min ((32 : Int)).toNat (IntKind.bits .u64)))))) →
  ∀ x6 : Int, x6 = (IntKind.u64.wrap ((Int.fdiv x (2 ^ (min ((32 : Int)).toNat (IntKind.bits .u64)))) * (Int.fdiv y (2 ^ (min ((32 : Int)).toNat (IntKind.bits .u64)))))) →
  ∀ x7 : Int, x7 = (IntKind.u64.wrap (x6 + (Int.fdiv x4 (2 ^ (min ((32 : Int)).toNat (IntKind.bits .u64)))))) →
  ∀ x8 : Int, x8 = (Int.fdiv (IntKind.u64.wrap ((bits .and .u64 x4 4294967295) + x5)) (2 ^ (min ((32 : Int)).toNat (IntKind.bits .u64)))) →
  K (IntKind.u64.wrap (x7 + x8), IntKind.u64.wrap (x * y))

def F_mul (x : Int) (y : Int) (K : (Int × Int) → Prop) : Prop :=
  (pre_mul64 x y) ∧
  ∀ r2 : Int × Int, r2 = (sp_mul64 x y) →
  K (r2.1, r2.2)

def F_repeat_L1 (K : (List Int) → Prop) (r2 : Int × Int) (n_ : Int) (newslice : List Int) (I1 : Int → (List Int) → Prop) (μ1 : Int → (List Int) → Nat) : Prop :=
  ((decide (n_ < (((IntKind.i64.wrap (r2.2)).toNat : Nat) : Int))) = true →
    (0 ≤ n_ ∧ n_ ≤ (((IntKind.i64.wrap (r2.2)).toNat : Nat) : Int)) ∧
    ((min ((n_).toNat) ((IntKind.i64.wrap (r2.2)).toNat - (n_).toNat)) ≤ newslice.length ∧ (n_).toNat + (newslice.take (min ((n_).toNat) ((IntKind.i64.wrap (r2.2)).toNat - (n_).toNat))).length ≤ (IntKind.i64.wrap (r2.2)).toNat) ∧
    ∀ d2 : List Int, d2 = (cpy newslice (n_).toNat (newslice.take (min ((n_).toNat) ((IntKind.i64.wrap (r2.2)).toNat - (n_).toNat)))) →
    I1 (IntKind.i64.wrap (n_ + (((min ((n_).toNat) ((IntKind.i64.wrap (r2.2)).toNat - (n_).toNat)) : Nat) : Int))) d2 ∧
  μ1 (IntKind.i64.wrap (n_ + (((min ((n_).toNat) ((IntKind.i64.wrap (r2.2)).toNat - (n_).toNat)) : Nat) : Int))) d2 < μ1 n_ newslice) ∧
  ((decide (n_ < (((IntKind.i64.wrap (r2.2)).toNat : Nat) : Int))) = false →
    K newslice)

def F_repeat_J1 (x : List Int) (K : (List Int) → Prop) (r2 : Int × Int) (t26 : Bool) : Prop :=
  ((t26) = true →
    False) ∧
  ((t26) = false →
    (mkok (IntKind.i64.wrap (r2.2)) 8) ∧
    ((min x.length ((IntKind.i64.wrap (r2.2)).toNat)) ≤ x.length ∧ 0 + (x.take (min x.length ((IntKind.i64.wrap (r2.2)).toNat))).length ≤ (IntKind.i64.wrap (r2.2)).toNat) ∧
    ∀ d : List Int, d = (cpy (List.replicate (IntKind.i64.wrap (r2.2)).toNat (0 : Int)) 0 (x.take (min x.length ((IntKind.i64.wrap (r2.2)).toNat)))) →
    ∃ (I1 : Int → (List Int) → Prop) (μ1 : Int → (List Int) → Nat), I1 (((min x.length ((IntKind.i64.wrap (r2.2)).toNat)) : Nat) : Int) d ∧ ∀ (n_ : Int) (newslice : List Int), I1 n_ newslice → F_repeat_L1 K r2 n_ newslice I1 μ1)

def F_repeat (x : List Int) (count : Int) (K : (List Int) → Prop) : Prop :=
  ((decide (count < 0)) = true →
    False) ∧
  ((decide (count < 0)) = false →
    (pre_mul64 (IntKind.u64.wrap (((x.length : Nat) : Int))) (IntKind.u64.wrap (count))) ∧
    ∀ r2 : Int × Int, r2 = (sp_mul64 (IntKind.u64.wrap (((x.length : Nat) : Int))) (IntKind.u64.wrap (count))) →
    ((decide (0 < r2.1)) = true →
      F_repeat_J1 x K r2 true) ∧
    ((decide (0 < r2.1)) = false →
      F_repeat_J1 x K r2 (decide (9223372036854775807 < r2.2))))

def F_bounds_L2 (n_ : Network) (K : (List (List Int)) → Prop) (d6 : List (List Int)) (t37 : Int) (I2 : Int → (List (List Int)) → Prop) (μ2 : Int → (List (List Int)) → Nat) : Prop :=
  ((decide (t37 < ((n_.links.length : Nat) : Int))) = true →
    (inb n_.links t37) ∧
    (inb d6 ((gt n_.links t37).src)) ∧
    (inb (gt d6 ((gt n_.links t37).src)) ((gt n_.links t37).dst)) ∧
    ∀ x : Int, x = (if ((gt n_.links t37).high) < (gt (gt d6 ((gt n_.links t37).src)) ((gt n_.links t37).dst)) then ((gt n_.links t37).high) else (gt (gt d6 ((gt n_.links t37).src)) ((gt n_.links t37).dst))) →
    ∀ d8 : List (List Int), d8 = (d6.set ((gt n_.links t37).src).toNat ((gt d6 ((gt n_.links t37).src)).set ((gt n_.links t37).dst).toNat x)) →
    (inb d8 ((gt n_.links t37).dst)) ∧
    (inb (gt d8 ((gt n_.links t37).dst)) ((gt n_.links t37).src)) ∧
    ∀ x2 : Int, x2 = (if (IntKind.i64.wrap (0 - ((gt n_.links t37).low))) < (gt (gt d8 ((gt n_.links t37).dst)) ((gt n_.links t37).src)) then (IntKind.i64.wrap (0 - ((gt n_.links t37).low))) else (gt (gt d8 ((gt n_.links t37).dst)) ((gt n_.links t37).src))) →
    ∀ d9 : List (List Int), d9 = (d8.set ((gt n_.links t37).dst).toNat ((gt d8 ((gt n_.links t37).dst)).set ((gt n_.links t37).src).toNat x2)) →
    I2 (IntKind.i64.wrap (t37 + 1)) d9 ∧
  μ2 (IntKind.i64.wrap (t37 + 1)) d9 < μ2 t37 d6) ∧
  ((decide (t37 < ((n_.links.length : Nat) : Int))) = false →
    K d6)

def F_bounds_L1 (n_ : Network) (K : (List (List Int)) → Prop) (d : List (List Int)) (t12 : Int) (I1 : Int → (List (List Int)) → Prop) (μ1 : Int → (List (List Int)) → Nat) : Prop :=
  ((decide (t12 < (((n_.events).toNat : Nat) : Int))) = true →
    (pre_repeat ([1000000000] : List Int) n_.events) ∧
    ∀ r2 : List Int, r2 = (sp_repeat ([1000000000] : List Int) n_.events) →
    (inb d t12) ∧
    ∀ d3 : List (List Int), d3 = (d.set (t12).toNat r2) →
    (inb d3 t12) ∧
    (inb (gt d3 t12) (0 : Int)) ∧
    ∀ d4 : List (List Int), d4 = (d3.set (t12).toNat ((gt d3 t12).set ((0 : Int)).toNat 0)) →
    (inb d4 t12) ∧
    (inb (gt d4 t12) t12) ∧
    ∀ d5 : List (List Int), d5 = (d4.set (t12).toNat ((gt d4 t12).set (t12).toNat 0)) →
    I1 (IntKind.i64.wrap (t12 + 1)) d5 ∧
  μ1 (IntKind.i64.wrap (t12 + 1)) d5 < μ1 t12 d) ∧
  ((decide (t12 < (((n_.events).toNat : Nat) : Int))) = false →
    ∃ (I2 : Int → (List (List Int)) → Prop) (μ2 : Int → (List (List Int)) → Nat), I2 0 d ∧ ∀ (t37 : Int) (d6 : List (List Int)), I2 t37 d6 → F_bounds_L2 n_ K d6 t37 I2 μ2)

def F_bounds (n_ : Network) (K : (List (List Int)) → Prop) : Prop :=
  (mkok n_.events 24) ∧
  ∃ (I1 : Int → (List (List Int)) → Prop) (μ1 : Int → (List (List Int)) → Nat), I1 0 (List.replicate (n_.events).toNat ([] : List Int) : List (List Int)) ∧ ∀ (t12 : Int) (d : List (List Int)), I1 t12 d → F_bounds_L1 n_ K d t12 I1 μ1

def F_min__L1 (x : List Int) (K : Int → Prop) (m : Int) (i : Int) (I1 : Int → Int → Prop) (μ1 : Int → Int → Nat) : Prop :=
  ((decide (i < ((x.length : Nat) : Int))) = true →
    (inb x i) ∧
    I1 (if (gt x i) < m then (gt x i) else m) (IntKind.i64.wrap (i + 1)) ∧
  μ1 (if (gt x i) < m then (gt x i) else m) (IntKind.i64.wrap (i + 1)) < μ1 m i) ∧
  ((decide (i < ((x.length : Nat) : Int))) = false →
    K m)

def F_min_ (x : List Int) (K : Int → Prop) : Prop :=
  ((decide (((x.length : Nat) : Int) < 1)) = true →
    False) ∧
  ((decide (((x.length : Nat) : Int) < 1)) = false →
    (inb x (0 : Int)) ∧
    ∃ (I1 : Int → Int → Prop) (μ1 : Int → Int → Nat), I1 (gt x (0 : Int)) 1 ∧ ∀ (m : Int) (i : Int), I1 m i → F_min__L1 x K m i I1 μ1)

def F_tighten1 (row : List Int) (K : Bool → Prop) : Prop :=
  (pre_min_ row) ∧
  ∀ r2 : Int, r2 = (sp_min_ row) →
  K (decide (r2 < (-1000000)))

def F_indexR_L1 (s_ : List (List Int)) (pf : (List Int) → Bool) (Df : (List Int) → Prop) (K : Int → Prop) (t8 : Int) (I1 : Int → Prop) (μ1 : Int → Nat) : Prop :=
  ((decide (t8 < ((s_.length : Nat) : Int))) = true →
    (inb s_ t8) ∧
    (Df (gt s_ t8)) ∧
    ∀ r2 : Bool, r2 = (pf (gt s_ t8)) →
    ((r2) = true →
      K t8) ∧
    ((r2) = false →
      I1 (IntKind.i64.wrap (t8 + 1)) ∧
  μ1 (IntKind.i64.wrap (t8 + 1)) < μ1 t8)) ∧
  ((decide (t8 < ((s_.length : Nat) : Int))) = false →
    K (-1))

def F_indexR (s_ : List (List Int)) (pf : (List Int) → Bool) (Df : (List Int) → Prop) (K : Int → Prop) : Prop :=
  ∃ (I1 : Int → Prop) (μ1 : Int → Nat), I1 0 ∧ ∀ (t8 : Int), I1 t8 → F_indexR_L1 s_ pf Df K t8 I1 μ1

def F_containsR (s_ : List (List Int)) (pf : (List Int) → Bool) (Df : (List Int) → Prop) (K : Bool → Prop) : Prop :=
  (pre_any s_ pf Df) ∧
  ∀ r2 : Int, r2 = (sp_index s_ pf Df) →
  K (decide (0 ≤ r2))

def F_indexL_L1 (s_ : List Link) (pf : Link → Bool) (Df : Link → Prop) (K : Int → Prop) (t8 : Int) (I1 : Int → Prop) (μ1 : Int → Nat) : Prop :=
  ((decide (t8 < ((s_.length : Nat) : Int))) = true →
    (inb s_ t8) ∧
    (Df (gt s_ t8)) ∧
    ∀ r2 : Bool, r2 = (pf (gt s_ t8)) →
    ((r2) = true →
      K t8) ∧
    ((r2) = false →
      I1 (IntKind.i64.wrap (t8 + 1)) ∧
  μ1 (IntKind.i64.wrap (t8 + 1)) < μ1 t8)) ∧
  ((decide (t8 < ((s_.length : Nat) : Int))) = false →
    K (-1))

def F_indexL (s_ : List Link) (pf : Link → Bool) (Df : Link → Prop) (K : Int → Prop) : Prop :=
  ∃ (I1 : Int → Prop) (μ1 : Int → Nat), I1 0 ∧ ∀ (t8 : Int), I1 t8 → F_indexL_L1 s_ pf Df K t8 I1 μ1

def F_containsL (s_ : List Link) (pf : Link → Bool) (Df : Link → Prop) (K : Bool → Prop) : Prop :=
  (pre_any s_ pf Df) ∧
  ∀ r2 : Int, r2 = (sp_index s_ pf Df) →
  K (decide (0 ≤ r2))

def F_numbers_L1 (a : List Int) (b : List Int) (K : Bool → Prop) (i : Int) (I1 : Int → Prop) (μ1 : Int → Nat) : Prop :=
  ((decide (i < ((a.length : Nat) : Int))) = true →
    (inb a i) ∧
    (inb b i) ∧
    (((gt a i) != (gt b i)) = true →
      K false) ∧
    (((gt a i) != (gt b i)) = false →
      I1 (IntKind.i64.wrap (i + 1)) ∧
  μ1 (IntKind.i64.wrap (i + 1)) < μ1 i)) ∧
  ((decide (i < ((a.length : Nat) : Int))) = false →
    K true)

def F_numbers (a : List Int) (b : List Int) (K : Bool → Prop) : Prop :=
  ((((a.length : Nat) : Int) != ((b.length : Nat) : Int)) = true →
    K false) ∧
  ((((a.length : Nat) : Int) != ((b.length : Nat) : Int)) = false →
    ∃ (I1 : Int → Prop) (μ1 : Int → Nat), I1 0 ∧ ∀ (i : Int), I1 i → F_numbers_L1 a b K i I1 μ1)

def F_tighten_J1 (t23 : Int) (I3 : Int → (List (List Int)) → Prop) (μ3 : Int → (List (List Int)) → Nat) (d5 : List (List Int)) (d7 : List (List Int)) : Prop :=
  I3 (IntKind.i64.wrap (t23 + 1)) d7 ∧
  μ3 (IntKind.i64.wrap (t23 + 1)) d7 < μ3 t23 d5

def F_tighten_J2 (t43 : Bool) (t23 : Int) (I3 : Int → (List (List Int)) → Prop) (μ3 : Int → (List (List Int)) → Nat) (t18 : Int) (d5 : List (List Int)) (t13 : Int) : Prop :=
  ((t43) = true →
    (inb d5 t18) ∧
    (inb (gt d5 t18) t23) ∧
    (inb (gt d5 t18) t13) ∧
    (inb d5 t13) ∧
    (inb (gt d5 t13) t23) ∧
    ∀ x : Int, x = (if (IntKind.i64.wrap ((gt (gt d5 t18) t13) + (gt (gt d5 t13) t23))) < (gt (gt d5 t18) t23) then (IntKind.i64.wrap ((gt (gt d5 t18) t13) + (gt (gt d5 t13) t23))) else (gt (gt d5 t18) t23)) →
    ∀ d8 : List (List Int), d8 = (d5.set (t18).toNat ((gt d5 t18).set (t23).toNat x)) →
    F_tighten_J1 t23 I3 μ3 d5 d8) ∧
  ((t43) = false →
    F_tighten_J1 t23 I3 μ3 d5 d5)

def F_tighten_L3 (r2 : List (List Int)) (t23 : Int) (d3 : List (List Int)) (I3 : Int → (List (List Int)) → Prop) (μ3 : Int → (List (List Int)) → Nat) (t18 : Int) (d5 : List (List Int)) (I2 : Int → (List (List Int)) → Prop) (μ2 : Int → (List (List Int)) → Nat) (t13 : Int) : Prop :=
  ((decide (t23 < ((r2.length : Nat) : Int))) = true →
    (inb d5 t18) ∧
    (inb (gt d5 t18) t13) ∧
    ((decide ((gt (gt d5 t18) t13) < 1000000000)) = true →
      (inb d5 t13) ∧
      (inb (gt d5 t13) t23) ∧
      F_tighten_J2 (decide ((gt (gt d5 t13) t23) < 1000000000)) t23 I3 μ3 t18 d5 t13) ∧
    ((decide ((gt (gt d5 t18) t13) < 1000000000)) = false →
      F_tighten_J2 false t23 I3 μ3 t18 d5 t13)) ∧
  ((decide (t23 < ((r2.length : Nat) : Int))) = false →
    I2 (IntKind.i64.wrap (t18 + 1)) d5 ∧
  μ2 (IntKind.i64.wrap (t18 + 1)) d5 < μ2 t18 d3)

def F_tighten_L2 (K : (List (List Int) × Bool) → Prop) (r2 : List (List Int)) (d : List (List Int)) (d3 : List (List Int)) (t18 : Int) (I2 : Int → (List (List Int)) → Prop) (μ2 : Int → (List (List Int)) → Nat) (t13 : Int) (I1 : Int → (List (List Int)) → Prop) (μ1 : Int → (List (List Int)) → Nat) : Prop :=
  ((decide (t18 < ((r2.length : Nat) : Int))) = true →
    ∃ (I3 : Int → (List (List Int)) → Prop) (μ3 : Int → (List (List Int)) → Nat), I3 0 d3 ∧ ∀ (t23 : Int) (d5 : List (List Int)), I3 t23 d5 → F_tighten_L3 r2 t23 d3 I3 μ3 t18 d5 I2 μ2 t13) ∧
  ((decide (t18 < ((r2.length : Nat) : Int))) = false →
    (pre_any d3 (fun y_ : List Int => sp_tighten1 y_) (fun y_ : List Int => pre_tighten1 y_)) ∧
    ∀ r3 : Bool, r3 = (sp_any d3 (fun y_ : List Int => sp_tighten1 y_) (fun y_ : List Int => pre_tighten1 y_)) →
    ((r3) = true →
      K (([] : List (List Int)), false)) ∧
    ((r3) = false →
      I1 (IntKind.i64.wrap (t13 + 1)) d3 ∧
  μ1 (IntKind.i64.wrap (t13 + 1)) d3 < μ1 t13 d))

def F_tighten_L4 (K : (List (List Int) × Bool) → Prop) (r2 : List (List Int)) (d : List (List Int)) (t80 : Int) (I4 : Int → Prop) (μ4 : Int → Nat) : Prop :=
  ((decide (t80 < ((r2.length : Nat) : Int))) = true →
    (inb d t80) ∧
    (inb (gt d t80) t80) ∧
    ((decide ((gt (gt d t80) t80) < 0)) = true →
      K (([] : List (List Int)), false)) ∧
    ((decide ((gt (gt d t80) t80) < 0)) = false →
      I4 (IntKind.i64.wrap (t80 + 1)) ∧
  μ4 (IntKind.i64.wrap (t80 + 1)) < μ4 t80)) ∧
  ((decide (t80 < ((r2.length : Nat) : Int))) = false →
    K (d, true))

def F_tighten_L1 (K : (List (List Int) × Bool) → Prop) (r2 : List (List Int)) (d : List (List Int)) (t13 : Int) (I1 : Int → (List (List Int)) → Prop) (μ1 : Int → (List (List Int)) → Nat) : Prop :=
  ((decide (t13 < ((r2.length : Nat) : Int))) = true →
    ∃ (I2 : Int → (List (List Int)) → Prop) (μ2 : Int → (List (List Int)) → Nat), I2 0 d ∧ ∀ (t18 : Int) (d3 : List (List Int)), I2 t18 d3 → F_tighten_L2 K r2 d d3 t18 I2 μ2 t13 I1 μ1) ∧
  ((decide (t13 < ((r2.length : Nat) : Int))) = false →
    ∃ (I4 : Int → Prop) (μ4 : Int → Nat), I4 0 ∧ ∀ (t80 : Int), I4 t80 → F_tighten_L4 K r2 d t80 I4 μ4)

def F_tighten (n_ : Network) (K : (List (List Int) × Bool) → Prop) : Prop :=
  (pre_bounds n_) ∧
  ∀ r2 : List (List Int), r2 = (sp_bounds n_) →
  ∃ (I1 : Int → (List (List Int)) → Prop) (μ1 : Int → (List (List Int)) → Nat), I1 0 r2 ∧ ∀ (t13 : Int) (d : List (List Int)), I1 t13 d → F_tighten_L1 K r2 d t13 I1 μ1

def F_direct_J2 (d2 : Int) (k : Int) (d4 : Int) (I1 : Int → Int → Prop) (μ1 : Int → Int → Nat) : Prop :=
  I1 d4 (IntKind.i64.wrap (k + 1)) ∧
  μ1 d4 (IntKind.i64.wrap (k + 1)) < μ1 d2 k

def F_direct_J5 (n_ : Network) (d2 : Int) (t61 : Bool) (k : Int) (I1 : Int → Int → Prop) (μ1 : Int → Int → Nat) (d5 : Int) : Prop :=
  ((t61) = true →
    F_direct_J2 d2 k (IntKind.i64.wrap (0 - ((gt n_.links k).low))) I1 μ1) ∧
  ((t61) = false →
    F_direct_J2 d2 k d5 I1 μ1)

def F_direct_J4 (n_ : Network) (i : Int) (j : Int) (d2 : Int) (k : Int) (I1 : Int → Int → Prop) (μ1 : Int → Int → Nat) (d5 : Int) : Prop :=
  ((((gt n_.links k).src) == j) = true →
    ((((gt n_.links k).dst) == i) = true →
      F_direct_J5 n_ d2 (decide ((IntKind.i64.wrap (0 - ((gt n_.links k).low))) < d5)) k I1 μ1 d5) ∧
    ((((gt n_.links k).dst) == i) = false →
      F_direct_J5 n_ d2 false k I1 μ1 d5)) ∧
  ((((gt n_.links k).src) == j) = false →
    F_direct_J5 n_ d2 false k I1 μ1 d5)

def F_direct_J3 (n_ : Network) (i : Int) (j : Int) (t42 : Bool) (d2 : Int) (k : Int) (I1 : Int → Int → Prop) (μ1 : Int → Int → Nat) : Prop :=
  ((t42) = true →
    F_direct_J4 n_ i j d2 k I1 μ1 ((gt n_.links k).high)) ∧
  ((t42) = false →
    F_direct_J4 n_ i j d2 k I1 μ1 d2)

def F_direct_L1 (n_ : Network) (i : Int) (j : Int) (K : Int → Prop) (d2 : Int) (k : Int) (I1 : Int → Int → Prop) (μ1 : Int → Int → Nat) : Prop :=
  ((decide (k < ((n_.links.length : Nat) : Int))) = true →
    (inb n_.links k) ∧
    ((((gt n_.links k).src) == i) = true →
      ((((gt n_.links k).dst) == j) = true →
        F_direct_J3 n_ i j (decide (((gt n_.links k).high) < d2)) d2 k I1 μ1) ∧
      ((((gt n_.links k).dst) == j) = false →
        F_direct_J3 n_ i j false d2 k I1 μ1)) ∧
    ((((gt n_.links k).src) == i) = false →
      F_direct_J3 n_ i j false d2 k I1 μ1)) ∧
  ((decide (k < ((n_.links.length : Nat) : Int))) = false →
    K d2)

def F_direct_J1 (n_ : Network) (i : Int) (j : Int) (K : Int → Prop) (d : Int) : Prop :=
  ∃ (I1 : Int → Int → Prop) (μ1 : Int → Int → Nat), I1 d 0 ∧ ∀ (d2 : Int) (k : Int), I1 d2 k → F_direct_L1 n_ i j K d2 k I1 μ1

def F_direct (n_ : Network) (i : Int) (j : Int) (K : Int → Prop) : Prop :=
  ((i == j) = true →
    K 0) ∧
  ((i == j) = false →
    ((j == 0) = true →
      F_direct_J1 n_ i j K 0) ∧
    ((j == 0) = false →
      F_direct_J1 n_ i j K 1000000000))

def F_tightest_J1 (b : Int) (I5 : Int → (List Int) → Prop) (μ5 : Int → (List Int) → Nat) (row7 : List Int) (row9 : List Int) : Prop :=
  I5 (IntKind.i64.wrap (b + 1)) row9 ∧
  μ5 (IntKind.i64.wrap (b + 1)) row9 < μ5 b row7

def F_tightest_J2 (n_ : Network) (K : (List (List Int) × Bool) → Prop) (r2 : Int) (t76 : Bool) (b : Int) (I5 : Int → (List Int) → Prop) (μ5 : Int → (List Int) → Nat) (a2 : Int) (row7 : List Int) (round : Int) : Prop :=
  ((t76) = true →
    ((round == n_.events) = true →
      K (([] : List (List Int)), false)) ∧
    ((round == n_.events) = false →
      (inb row7 a2) ∧
      (inb row7 b) ∧
      ∀ d3 : List Int, d3 = (row7.set (b).toNat (IntKind.i64.wrap ((gt row7 a2) + r2))) →
      F_tightest_J1 b I5 μ5 row7 d3)) ∧
  ((t76) = false →
    F_tightest_J1 b I5 μ5 row7 row7)

def F_tightest_L5 (n_ : Network) (K : (List (List Int) × Bool) → Prop) (b : Int) (I5 : Int → (List Int) → Prop) (μ5 : Int → (List Int) → Nat) (row5 : List Int) (a2 : Int) (I4 : Int → (List Int) → Prop) (μ4 : Int → (List Int) → Nat) (row7 : List Int) (round : Int) : Prop :=
  ((decide (b < n_.events)) = true →
    (pre_direct n_ a2 b) ∧
    ∀ r2 : Int, r2 = (sp_direct n_ a2 b) →
    (inb row7 a2) ∧
    ((decide ((gt row7 a2) < 1000000000)) = true →
      ((decide (r2 < 1000000000)) = true →
        (inb row7 b) ∧
        F_tightest_J2 n_ K r2 (decide ((IntKind.i64.wrap ((gt row7 a2) + r2)) < (gt row7 b))) b I5 μ5 a2 row7 round) ∧
      ((decide (r2 < 1000000000)) = false →
        F_tightest_J2 n_ K r2 false b I5 μ5 a2 row7 round)) ∧
    ((decide ((gt row7 a2) < 1000000000)) = false →
      F_tightest_J2 n_ K r2 false b I5 μ5 a2 row7 round)) ∧
  ((decide (b < n_.events)) = false →
    I4 (IntKind.i64.wrap (a2 + 1)) row7 ∧
  μ4 (IntKind.i64.wrap (a2 + 1)) row7 < μ4 a2 row5)

def F_tightest_L4 (n_ : Network) (K : (List (List Int) × Bool) → Prop) (row3 : List Int) (row5 : List Int) (a2 : Int) (I4 : Int → (List Int) → Prop) (μ4 : Int → (List Int) → Nat) (round : Int) (I3 : Int → (List Int) → Prop) (μ3 : Int → (List Int) → Nat) : Prop :=
  ((decide (a2 < n_.events)) = true →
    ∃ (I5 : Int → (List Int) → Prop) (μ5 : Int → (List Int) → Nat), I5 0 row5 ∧ ∀ (b : Int) (row7 : List Int), I5 b row7 → F_tightest_L5 n_ K b I5 μ5 row5 a2 I4 μ4 row7 round) ∧
  ((decide (a2 < n_.events)) = false →
    I3 (IntKind.i64.wrap (round + 1)) row5 ∧
  μ3 (IntKind.i64.wrap (round + 1)) row5 < μ3 round row3)

def F_tightest_L3 (n_ : Network) (K : (List (List Int) × Bool) → Prop) (row3 : List Int) (round : Int) (I3 : Int → (List Int) → Prop) (μ3 : Int → (List Int) → Nat) (i : Int) (all : List (List Int)) (I1 : Int → (List (List Int)) → Prop) (μ1 : Int → (List (List Int)) → Nat) : Prop :=
  ((decide (round ≤ n_.events)) = true →
    ∃ (I4 : Int → (List Int) → Prop) (μ4 : Int → (List Int) → Nat), I4 0 row3 ∧ ∀ (a2 : Int) (row5 : List Int), I4 a2 row5 → F_tightest_L4 n_ K row3 row5 a2 I4 μ4 round I3 μ3) ∧
  ((decide (round ≤ n_.events)) = false →
    (room ((all ++ ([row3] : List (List Int)))).length 24) ∧
    I1 (IntKind.i64.wrap (i + 1)) (all ++ ([row3] : List (List Int))) ∧
  μ1 (IntKind.i64.wrap (i + 1)) (all ++ ([row3] : List (List Int))) < μ1 i all)

def F_tightest_L2 (n_ : Network) (K : (List (List Int) × Bool) → Prop) (j : Int) (row : List Int) (I2 : Int → (List Int) → Prop) (μ2 : Int → (List Int) → Nat) (i : Int) (all : List (List Int)) (I1 : Int → (List (List Int)) → Prop) (μ1 : Int → (List (List Int)) → Nat) : Prop :=
  ((decide (j < n_.events)) = true →
    (inb row j) ∧
    ∀ d : List Int, d = (row.set (j).toNat 1000000000) →
    I2 (IntKind.i64.wrap (j + 1)) d ∧
  μ2 (IntKind.i64.wrap (j + 1)) d < μ2 j row) ∧
  ((decide (j < n_.events)) = false →
    (inb row i) ∧
    ∀ d2 : List Int, d2 = (row.set (i).toNat 0) →
    ∃ (I3 : Int → (List Int) → Prop) (μ3 : Int → (List Int) → Nat), I3 0 d2 ∧ ∀ (round : Int) (row3 : List Int), I3 round row3 → F_tightest_L3 n_ K row3 round I3 μ3 i all I1 μ1)

def F_tightest_L1 (n_ : Network) (K : (List (List Int) × Bool) → Prop) (i : Int) (all : List (List Int)) (I1 : Int → (List (List Int)) → Prop) (μ1 : Int → (List (List Int)) → Nat) : Prop :=
  ((decide (i < n_.events)) = true →
    (mkok n_.events 8) ∧
    ∃ (I2 : Int → (List Int) → Prop) (μ2 : Int → (List Int) → Nat), I2 0 (List.replicate (n_.events).toNat (0 : Int)) ∧ ∀ (j : Int) (row : List Int), I2 j row → F_tightest_L2 n_ K j row I2 μ2 i all I1 μ1) ∧
  ((decide (i < n_.events)) = false →
    K (all, true))

def F_tightest (n_ : Network) (K : (List (List Int) × Bool) → Prop) : Prop :=
  ∃ (I1 : Int → (List (List Int)) → Prop) (μ1 : Int → (List (List Int)) → Nat), I1 0 ([] : List (List Int)) ∧ ∀ (i : Int) (all : List (List Int)), I1 i all → F_tightest_L1 n_ K i all I1 μ1

def F_uval1 (k : Link) (x : Link) (K : Bool → Prop) : Prop :=
  K (k.dst == x.dst)

def F_uval2 (k : Link) (x : Link) (K : Bool → Prop) : Prop :=
  K (k.dst == x.src)

def F_uvalidate_J2 (u : Uncertain) (K : Fault → Prop) (e_ : Int) (t24 : Int) (I1 : Int → Prop) (μ1 : Int → Nat) : Prop :=
  ((e_ != 0) = true →
    K (⟨e_, IntKind.i64.wrap ((-3) - t24)⟩ : Fault)) ∧
  ((e_ != 0) = false →
    (0 ≤ t24 ∧ t24 ≤ (u.contingent.length : Int)) ∧
    (pre_any (u.contingent.take (t24).toNat) (fun y_ : Link => sp_uval1 y_ (gt u.contingent t24)) (fun _ : Link => True)) ∧
    ∀ r4 : Bool, r4 = (sp_any (u.contingent.take (t24).toNat) (fun y_ : Link => sp_uval1 y_ (gt u.contingent t24)) (fun _ : Link => True)) →
    ((r4) = true →
      K (⟨7, IntKind.i64.wrap ((-3) - t24)⟩ : Fault)) ∧
    ((r4) = false →
      I1 (IntKind.i64.wrap (t24 + 1)) ∧
  μ1 (IntKind.i64.wrap (t24 + 1)) < μ1 t24))

def F_uvalidate_J1 (u : Uncertain) (K : Fault → Prop) (r3 : Int) (t45 : Bool) (t24 : Int) (I1 : Int → Prop) (μ1 : Int → Nat) : Prop :=
  ((t45) = true →
    F_uvalidate_J2 u K 5 t24 I1 μ1) ∧
  ((t45) = false →
    F_uvalidate_J2 u K r3 t24 I1 μ1)

def F_uvalidate_L2 (u : Uncertain) (K : Fault → Prop) (t65 : Int) (I2 : Int → Prop) (μ2 : Int → Nat) : Prop :=
  ((decide (t65 < ((u.contingent.length : Nat) : Int))) = true →
    (inb u.contingent t65) ∧
    (pre_any u.contingent (fun y_ : Link => sp_uval2 y_ (gt u.contingent t65)) (fun _ : Link => True)) ∧
    ∀ r5 : Bool, r5 = (sp_any u.contingent (fun y_ : Link => sp_uval2 y_ (gt u.contingent t65)) (fun _ : Link => True)) →
    ((r5) = true →
      K (⟨8, IntKind.i64.wrap ((-3) - t65)⟩ : Fault)) ∧
    ((r5) = false →
      I2 (IntKind.i64.wrap (t65 + 1)) ∧
  μ2 (IntKind.i64.wrap (t65 + 1)) < μ2 t65)) ∧
  ((decide (t65 < ((u.contingent.length : Nat) : Int))) = false →
    K (⟨0, 0⟩ : Fault))

def F_uvalidate_L1 (u : Uncertain) (K : Fault → Prop) (t24 : Int) (I1 : Int → Prop) (μ1 : Int → Nat) : Prop :=
  ((decide (t24 < ((u.contingent.length : Nat) : Int))) = true →
    (inb u.contingent t24) ∧
    ∀ r3 : Int, r3 = (sp_linkCode (gt u.contingent t24) u.network.events) →
    ((r3 == 0) = true →
      ((decide (((gt u.contingent t24).low) < 1)) = true →
        F_uvalidate_J1 u K r3 true t24 I1 μ1) ∧
      ((decide (((gt u.contingent t24).low) < 1)) = false →
        F_uvalidate_J1 u K r3 (((gt u.contingent t24).dst) == 0) t24 I1 μ1)) ∧
    ((r3 == 0) = false →
      F_uvalidate_J1 u K r3 false t24 I1 μ1)) ∧
  ((decide (t24 < ((u.contingent.length : Nat) : Int))) = false →
    ∃ (I2 : Int → Prop) (μ2 : Int → Nat), I2 0 ∧ ∀ (t65 : Int), I2 t65 → F_uvalidate_L2 u K t65 I2 μ2)

def F_uvalidate (u : Uncertain) (K : Fault → Prop) : Prop :=
  ∀ r2 : Fault, r2 = (sp_validate u.network) →
  ((!((r2.code == 0) && (r2.index == 0))) = true →
    K r2) ∧
  ((!((r2.code == 0) && (r2.index == 0))) = false →
    ((decide (3 < ((u.contingent.length : Nat) : Int))) = true →
      K (⟨2, (-2)⟩ : Fault)) ∧
    ((decide (3 < ((u.contingent.length : Nat) : Int))) = false →
      ∃ (I1 : Int → Prop) (μ1 : Int → Nat), I1 0 ∧ ∀ (t24 : Int), I1 t24 → F_uvalidate_L1 u K t24 I1 μ1))

def F_uncertainFault_J3 (e_2 : Int) (k : Int) (I2 : Int → Int → Prop) (μ2 : Int → Int → Nat) (e_4 : Int) : Prop :=
  I2 e_4 (IntKind.i64.wrap (k + 1)) ∧
  μ2 e_4 (IntKind.i64.wrap (k + 1)) < μ2 e_2 k

def F_uncertainFault_J4 (t74 : Bool) (e_2 : Int) (k : Int) (I2 : Int → Int → Prop) (μ2 : Int → Int → Nat) : Prop :=
  ((t74) = true →
    F_uncertainFault_J3 e_2 k I2 μ2 7) ∧
  ((t74) = false →
    F_uncertainFault_J3 e_2 k I2 μ2 e_2)

def F_uncertainFault_L2 (u : Uncertain) (K : Fault → Prop) (e_2 : Int) (k : Int) (I2 : Int → Int → Prop) (μ2 : Int → Int → Nat) (i : Int) (I1 : Int → Prop) (μ1 : Int → Nat) : Prop :=
  ((decide (k < i)) = true →
    ((e_2 == 0) = true →
      (inb u.contingent k) ∧
      F_uncertainFault_J4 (((gt u.contingent k).dst) == ((gt u.contingent i).dst)) e_2 k I2 μ2) ∧
    ((e_2 == 0) = false →
      F_uncertainFault_J4 false e_2 k I2 μ2)) ∧
  ((decide (k < i)) = false →
    ((e_2 != 0) = true →
      ∀ r5 : Fault, r5 = (sp_at_ e_2 (IntKind.i64.wrap ((-3) - i))) →
      K r5) ∧
    ((e_2 != 0) = false →
      I1 (IntKind.i64.wrap (i + 1)) ∧
  μ1 (IntKind.i64.wrap (i + 1)) < μ1 i))

def F_uncertainFault_J2 (u : Uncertain) (K : Fault → Prop) (e_ : Int) (i : Int) (I1 : Int → Prop) (μ1 : Int → Nat) : Prop :=
  ∃ (I2 : Int → Int → Prop) (μ2 : Int → Int → Nat), I2 e_ 0 ∧ ∀ (e_2 : Int) (k : Int), I2 e_2 k → F_uncertainFault_L2 u K e_2 k I2 μ2 i I1 μ1

def F_uncertainFault_J1 (u : Uncertain) (K : Fault → Prop) (r4 : Int) (t54 : Bool) (i : Int) (I1 : Int → Prop) (μ1 : Int → Nat) : Prop :=
  ((t54) = true →
    F_uncertainFault_J2 u K 5 i I1 μ1) ∧
  ((t54) = false →
    F_uncertainFault_J2 u K r4 i I1 μ1)

def F_uncertainFault_L4 (u : Uncertain) (K : Fault → Prop) (k3 : Int) (I4 : Int → Prop) (μ4 : Int → Nat) (i3 : Int) (I3 : Int → Prop) (μ3 : Int → Nat) : Prop :=
  ((decide (k3 < ((u.contingent.length : Nat) : Int))) = true →
    (inb u.contingent k3) ∧
    (inb u.contingent i3) ∧
    ((((gt u.contingent k3).dst) == ((gt u.contingent i3).src)) = true →
      ∀ r6 : Fault, r6 = (sp_at_ 8 (IntKind.i64.wrap ((-3) - i3))) →
      K r6) ∧
    ((((gt u.contingent k3).dst) == ((gt u.contingent i3).src)) = false →
      I4 (IntKind.i64.wrap (k3 + 1)) ∧
  μ4 (IntKind.i64.wrap (k3 + 1)) < μ4 k3)) ∧
  ((decide (k3 < ((u.contingent.length : Nat) : Int))) = false →
    I3 (IntKind.i64.wrap (i3 + 1)) ∧
  μ3 (IntKind.i64.wrap (i3 + 1)) < μ3 i3)

def F_uncertainFault_L3 (u : Uncertain) (K : Fault → Prop) (i3 : Int) (I3 : Int → Prop) (μ3 : Int → Nat) : Prop :=
  ((decide (i3 < ((u.contingent.length : Nat) : Int))) = true →
    ∃ (I4 : Int → Prop) (μ4 : Int → Nat), I4 0 ∧ ∀ (k3 : Int), I4 k3 → F_uncertainFault_L4 u K k3 I4 μ4 i3 I3 μ3) ∧
  ((decide (i3 < ((u.contingent.length : Nat) : Int))) = false →
    K (⟨0, 0⟩ : Fault))

def F_uncertainFault_L1 (u : Uncertain) (K : Fault → Prop) (i : Int) (I1 : Int → Prop) (μ1 : Int → Nat) : Prop :=
  ((decide (i < ((u.contingent.length : Nat) : Int))) = true →
    (inb u.contingent i) ∧
    (pre_rLinkCode (gt u.contingent i) u.network.events) ∧
    ∀ r4 : Int, r4 = (sp_linkCode (gt u.contingent i) u.network.events) →
    ((r4 == 0) = true →
      ((decide (((gt u.contingent i).low) < 1)) = true →
        F_uncertainFault_J1 u K r4 true i I1 μ1) ∧
      ((decide (((gt u.contingent i).low) < 1)) = false →
        F_uncertainFault_J1 u K r4 (((gt u.contingent i).dst) == 0) i I1 μ1)) ∧
    ((r4 == 0) = false →
      F_uncertainFault_J1 u K r4 false i I1 μ1)) ∧
  ((decide (i < ((u.contingent.length : Nat) : Int))) = false →
    ∃ (I3 : Int → Prop) (μ3 : Int → Nat), I3 0 ∧ ∀ (i3 : Int), I3 i3 → F_uncertainFault_L3 u K i3 I3 μ3)

def F_uncertainFault (u : Uncertain) (K : Fault → Prop) : Prop :=
  ∀ r2 : Fault, r2 = (sp_validate u.network) →
  ((r2.code != 0) = true →
    K r2) ∧
  ((r2.code != 0) = false →
    ((decide (3 < ((u.contingent.length : Nat) : Int))) = true →
      ∀ r3 : Fault, r3 = (sp_at_ 2 (-2)) →
      K r3) ∧
    ((decide (3 < ((u.contingent.length : Nat) : Int))) = false →
      ∃ (I1 : Int → Prop) (μ1 : Int → Nat), I1 0 ∧ ∀ (i : Int), I1 i → F_uncertainFault_L1 u K i I1 μ1))

def F_clone (s_ : List Link) (K : (List Link) → Prop) : Prop :=
  (s_ = [] → 
    K ([] : List Link)) ∧
  (room ((([] : List Link) ++ s_)).length 32) ∧
  K (([] : List Link) ++ s_)

def F_with__L1 (u : Uncertain) (durations : List Int) (K : Network → Prop) (t19 : Int) (l2 : List Link) (I1 : Int → (List Link) → Prop) (μ1 : Int → (List Link) → Nat) : Prop :=
  ((decide (t19 < ((u.contingent.length : Nat) : Int))) = true →
    (inb u.contingent t19) ∧
    (inb durations t19) ∧
    (room ((l2 ++ ([(⟨(gt u.contingent t19).src, (gt u.contingent t19).dst, (gt durations t19), (gt durations t19)⟩ : Link)] : List Link))).length 32) ∧
    I1 (IntKind.i64.wrap (t19 + 1)) (l2 ++ ([(⟨(gt u.contingent t19).src, (gt u.contingent t19).dst, (gt durations t19), (gt durations t19)⟩ : Link)] : List Link)) ∧
  μ1 (IntKind.i64.wrap (t19 + 1)) (l2 ++ ([(⟨(gt u.contingent t19).src, (gt u.contingent t19).dst, (gt durations t19), (gt durations t19)⟩ : Link)] : List Link)) < μ1 t19 l2) ∧
  ((decide (t19 < ((u.contingent.length : Nat) : Int))) = false →
    K (⟨u.network.events, l2⟩ : Network))

def F_with__J1 (u : Uncertain) (durations : List Int) (K : Network → Prop) (l : List Link) : Prop :=
  ∃ (I1 : Int → (List Link) → Prop) (μ1 : Int → (List Link) → Nat), I1 0 l ∧ ∀ (t19 : Int) (l2 : List Link), I1 t19 l2 → F_with__L1 u durations K t19 l2 I1 μ1

def F_with_ (u : Uncertain) (durations : List Int) (K : Network → Prop) : Prop :=
  (pre_clone u.network.links) ∧
  ∀ r2 : List Link, r2 = (sp_clone u.network.links) →
  F_with__J1 u durations K r2

def F_fixed_L1 (u : Uncertain) (d : List Int) (K : Network → Prop) (i : Int) (l : List Link) (I1 : Int → (List Link) → Prop) (μ1 : Int → (List Link) → Nat) : Prop :=
  ((decide (i < ((d.length : Nat) : Int))) = true →
    (inb u.contingent i) ∧
    (inb d i) ∧
    (room ((l ++ ([(⟨(gt u.contingent i).src, (gt u.contingent i).dst, (gt d i), (gt d i)⟩ : Link)] : List Link))).length 32) ∧
    I1 (IntKind.i64.wrap (i + 1)) (l ++ ([(⟨(gt u.contingent i).src, (gt u.contingent i).dst, (gt d i), (gt d i)⟩ : Link)] : List Link)) ∧
  μ1 (IntKind.i64.wrap (i + 1)) (l ++ ([(⟨(gt u.contingent i).src, (gt u.contingent i).dst, (gt d i), (gt d i)⟩ : Link)] : List Link)) < μ1 i l) ∧
  ((decide (i < ((d.length : Nat) : Int))) = false →
    K (⟨u.network.events, l⟩ : Network))

def F_fixed (u : Uncertain) (d : List Int) (K : Network → Prop) : Prop :=
  (room ((([] : List Link) ++ u.network.links)).length 32) ∧
  ∃ (I1 : Int → (List Link) → Prop) (μ1 : Int → (List Link) → Nat), I1 0 (([] : List Link) ++ u.network.links) ∧ ∀ (i : Int) (l : List Link), I1 i l → F_fixed_L1 u d K i l I1 μ1

def F_choices_L1 (u : Uncertain) (K : Int → Prop) (n_ : Int) (i : Int) (I1 : Int → Int → Prop) (μ1 : Int → Int → Nat) : Prop :=
  ((decide (i < ((u.contingent.length : Nat) : Int))) = true →
    (inb u.contingent i) ∧
    ∀ x : Int, x = (IntKind.i64.wrap (((gt u.contingent i).high) - ((gt u.contingent i).low))) →
    ∀ x2 : Bool, x2 = (decide (1000 < (IntKind.i64.wrap (n_ * (IntKind.i64.wrap (x + 1)))))) →
    ((x2) = true →
      K 1000) ∧
    ((x2) = false →
      I1 (IntKind.i64.wrap (n_ * (IntKind.i64.wrap (x + 1)))) (IntKind.i64.wrap (i + 1)) ∧
  μ1 (IntKind.i64.wrap (n_ * (IntKind.i64.wrap (x + 1)))) (IntKind.i64.wrap (i + 1)) < μ1 n_ i)) ∧
  ((decide (i < ((u.contingent.length : Nat) : Int))) = false →
    K n_)

def F_choices (u : Uncertain) (K : Int → Prop) : Prop :=
  ∃ (I1 : Int → Int → Prop) (μ1 : Int → Int → Nat), I1 1 0 ∧ ∀ (n_ : Int) (i : Int), I1 n_ i → F_choices_L1 u K n_ i I1 μ1

def F_choice_L1 (u : Uncertain) (K : (List Int) → Prop) (k2 : Int) (i : Int) (d : List Int) (I1 : Int → Int → (List Int) → Prop) (μ1 : Int → Int → (List Int) → Nat) : Prop :=
  ((decide (i < ((u.contingent.length : Nat) : Int))) = true →
    (inb u.contingent i) ∧
    ∀ x : Int, x = (IntKind.i64.wrap (((gt u.contingent i).high) - ((gt u.contingent i).low))) →
    ((IntKind.i64.wrap (x + 1)) ≠ 0) ∧
    (room ((d ++ ([IntKind.i64.wrap (((gt u.contingent i).low) + (Int.tmod k2 (IntKind.i64.wrap (x + 1))))] : List Int))).length 8) ∧
    I1 (IntKind.i64.wrap (Int.tdiv k2 (IntKind.i64.wrap (x + 1)))) (IntKind.i64.wrap (i + 1)) (d ++ ([IntKind.i64.wrap (((gt u.contingent i).low) + (Int.tmod k2 (IntKind.i64.wrap (x + 1))))] : List Int)) ∧
  μ1 (IntKind.i64.wrap (Int.tdiv k2 (IntKind.i64.wrap (x + 1)))) (IntKind.i64.wrap (i + 1)) (d ++ ([IntKind.i64.wrap (((gt u.contingent i).low) + (Int.tmod k2 (IntKind.i64.wrap (x + 1))))] : List Int)) < μ1 k2 i d) ∧
  ((decide (i < ((u.contingent.length : Nat) : Int))) = false →
    K d)

def F_choice (u : Uncertain) (k : Int) (K : (List Int) → Prop) : Prop :=
  ∃ (I1 : Int → Int → (List Int) → Prop) (μ1 : Int → Int → (List Int) → Nat), I1 k 0 ([] : List Int) ∧ ∀ (k2 : Int) (i : Int) (d : List Int), I1 k2 i d → F_choice_L1 u K k2 i d I1 μ1

def F_places_L2 (u : Uncertain) (K : (List Place) → Prop) (t22 : Int) (out3 : List Place) (I2 : Int → (List Place) → Prop) (μ2 : Int → (List Place) → Nat) : Prop :=
  ((decide (t22 < ((u.contingent.length : Nat) : Int))) = true →
    (inb u.contingent t22) ∧
    (inb out3 ((gt u.contingent t22).dst)) ∧
    ∀ d : List Place, d = (out3.set ((gt u.contingent t22).dst).toNat (⟨(gt u.contingent t22).src, (gt u.contingent t22).low, (gt u.contingent t22).high⟩ : Place)) →
    I2 (IntKind.i64.wrap (t22 + 1)) d ∧
  μ2 (IntKind.i64.wrap (t22 + 1)) d < μ2 t22 out3) ∧
  ((decide (t22 < ((u.contingent.length : Nat) : Int))) = false →
    K out3)

def F_places_L1 (u : Uncertain) (K : (List Place) → Prop) (t10 : Int) (out : List Place) (I1 : Int → (List Place) → Prop) (μ1 : Int → (List Place) → Nat) : Prop :=
  ((decide (t10 < u.network.events)) = true →
    (room ((out ++ ([(⟨t10, 0, 0⟩ : Place)] : List Place))).length 24) ∧
    I1 (IntKind.i64.wrap (t10 + 1)) (out ++ ([(⟨t10, 0, 0⟩ : Place)] : List Place)) ∧
  μ1 (IntKind.i64.wrap (t10 + 1)) (out ++ ([(⟨t10, 0, 0⟩ : Place)] : List Place)) < μ1 t10 out) ∧
  ((decide (t10 < u.network.events)) = false →
    ∃ (I2 : Int → (List Place) → Prop) (μ2 : Int → (List Place) → Nat), I2 0 out ∧ ∀ (t22 : Int) (out3 : List Place), I2 t22 out3 → F_places_L2 u K t22 out3 I2 μ2)

def F_places (u : Uncertain) (K : (List Place) → Prop) : Prop :=
  ∃ (I1 : Int → (List Place) → Prop) (μ1 : Int → (List Place) → Nat), I1 0 ([] : List Place) ∧ ∀ (t10 : Int) (out : List Place), I1 t10 out → F_places_L1 u K t10 out I1 μ1

def F_strong__J1 (l : List Link) (t22 : Int) (I1 : Int → (List Link) → Prop) (μ1 : Int → (List Link) → Nat) (l3 : List Link) : Prop :=
  I1 (IntKind.i64.wrap (t22 + 1)) l3 ∧
  μ1 (IntKind.i64.wrap (t22 + 1)) l3 < μ1 t22 l

def F_strong__J3 (u : Uncertain) (K : (Network × Bool) → Prop) (t62 : Bool) (l : List Link) (t22 : Int) (I1 : Int → (List Link) → Prop) (μ1 : Int → (List Link) → Nat) : Prop :=
  ((t62) = true →
    K ((⟨u.network.events, l⟩ : Network), false)) ∧
  ((t62) = false →
    F_strong__J1 l t22 I1 μ1 l)

def F_strong__J2 (u : Uncertain) (K : (Network × Bool) → Prop) (r2 : List Place) (l : List Link) (t22 : Int) (I1 : Int → (List Link) → Prop) (μ1 : Int → (List Link) → Nat) : Prop :=
  ∀ x : Int, x = (IntKind.i64.wrap (((gt u.network.links t22).low) - ((gt r2 ((gt u.network.links t22).dst)).low))) →
  ∀ x2 : Int, x2 = (IntKind.i64.wrap (x + ((gt r2 ((gt u.network.links t22).src)).high))) →
  ∀ x3 : Int, x3 = (IntKind.i64.wrap (((gt u.network.links t22).high) - ((gt r2 ((gt u.network.links t22).dst)).high))) →
  ∀ x4 : Int, x4 = (IntKind.i64.wrap (x3 + ((gt r2 ((gt u.network.links t22).src)).low))) →
  ∀ x5 : Bool, x5 = (((gt r2 ((gt u.network.links t22).src)).base) == ((gt r2 ((gt u.network.links t22).dst)).base)) →
  ((x5) = true →
    ((decide (0 < x2)) = true →
      F_strong__J3 u K true l t22 I1 μ1) ∧
    ((decide (0 < x2)) = false →
      F_strong__J3 u K (decide (x4 < 0)) l t22 I1 μ1)) ∧
  ((x5) = false →
    ((decide (x4 < x2)) = true →
      K ((⟨u.network.events, l⟩ : Network), false)) ∧
    ((decide (x4 < x2)) = false →
      (room ((l ++ ([(⟨(gt r2 ((gt u.network.links t22).src)).base, (gt r2 ((gt u.network.links t22).dst)).base, x2, x4⟩ : Link)] : List Link))).length 32) ∧
      F_strong__J1 l t22 I1 μ1 (l ++ ([(⟨(gt r2 ((gt u.network.links t22).src)).base, (gt r2 ((gt u.network.links t22).dst)).base, x2, x4⟩ : Link)] : List Link))))

def F_strong__L1 (u : Uncertain) (K : (Network × Bool) → Prop) (r2 : List Place) (l : List Link) (t22 : Int) (I1 : Int → (List Link) → Prop) (μ1 : Int → (List Link) → Nat) : Prop :=
  ((decide (t22 < ((u.network.links.length : Nat) : Int))) = true →
    (inb u.network.links t22) ∧
    (inb r2 ((gt u.network.links t22).src)) ∧
    (inb r2 ((gt u.network.links t22).dst)) ∧
    F_strong__J2 u K r2 l t22 I1 μ1) ∧
  ((decide (t22 < ((u.network.links.length : Nat) : Int))) = false →
    K ((⟨u.network.events, l⟩ : Network), true))

def F_strong_ (u : Uncertain) (K : (Network × Bool) → Prop) : Prop :=
  (pre_places u) ∧
  ∀ r2 : List Place, r2 = (sp_places u) →
  ∃ (I1 : Int → (List Link) → Prop) (μ1 : Int → (List Link) → Nat), I1 0 ([] : List Link) ∧ ∀ (t22 : Int) (l : List Link), I1 t22 l → F_strong__L1 u K r2 l t22 I1 μ1

def F_strong_J1 (out : List Int) (t37 : Int) (I1 : Int → (List Int) → Prop) (μ1 : Int → (List Int) → Nat) (out3 : List Int) : Prop :=
  I1 (IntKind.i64.wrap (t37 + 1)) out3 ∧
  μ1 (IntKind.i64.wrap (t37 + 1)) out3 < μ1 t37 out

def F_strong_L1 (K : (List Int × Bool × Fault) → Prop) (r4 : List (List Int) × Bool) (r5 : List Place) (out : List Int) (t37 : Int) (I1 : Int → (List Int) → Prop) (μ1 : Int → (List Int) → Nat) : Prop :=
  ((decide (t37 < ((r5.length : Nat) : Int))) = true →
    (inb r5 t37) ∧
    ((((gt r5 t37).base) == t37) = true →
      (inb r4.1 t37) ∧
      (inb (gt r4.1 t37) (0 : Int)) ∧
      (room ((out ++ ([IntKind.i64.wrap (0 - (gt (gt r4.1 t37) (0 : Int)))] : List Int))).length 8) ∧
      F_strong_J1 out t37 I1 μ1 (out ++ ([IntKind.i64.wrap (0 - (gt (gt r4.1 t37) (0 : Int)))] : List Int))) ∧
    ((((gt r5 t37).base) == t37) = false →
      (room ((out ++ ([(-1)] : List Int))).length 8) ∧
      F_strong_J1 out t37 I1 μ1 (out ++ ([(-1)] : List Int)))) ∧
  ((decide (t37 < ((r5.length : Nat) : Int))) = false →
    K (out, true, (⟨0, 0⟩ : Fault)))

def F_strong (u : Uncertain) (K : (List Int × Bool × Fault) → Prop) : Prop :=
  ∀ r2 : Fault, r2 = (sp_uvalidate u) →
  ((!((r2.code == 0) && (r2.index == 0))) = true →
    K (([] : List Int), false, r2)) ∧
  ((!((r2.code == 0) && (r2.index == 0))) = false →
    (pre_strong_ u) ∧
    ∀ r3 : Network × Bool, r3 = (sp_strong_ u) →
    ((!r3.2) = true →
      K (([] : List Int), false, (⟨0, 0⟩ : Fault))) ∧
    ((!r3.2) = false →
      (pre_tighten r3.1) ∧
      ∀ r4 : List (List Int) × Bool, r4 = (sp_tighten r3.1) →
      ((!r4.2) = true →
        K (([] : List Int), false, (⟨0, 0⟩ : Fault))) ∧
      ((!r4.2) = false →
        (pre_places u) ∧
        ∀ r5 : List Place, r5 = (sp_places u) →
        ∃ (I1 : Int → (List Int) → Prop) (μ1 : Int → (List Int) → Nat), I1 0 ([] : List Int) ∧ ∀ (t37 : Int) (out : List Int), I1 t37 out → F_strong_L1 K r4 r5 out t37 I1 μ1)))

def F_extremes (_ : Uncertain) (K : Unit → Prop) : Prop :=
  K ()

def F_weak_J1 (f : List Int) (t17 : Int) (I2 : Int → (List Int) → Prop) (μ2 : Int → (List Int) → Nat) (f3 : List Int) : Prop :=
  I2 (IntKind.i64.wrap (t17 + 1)) f3 ∧
  μ2 (IntKind.i64.wrap (t17 + 1)) f3 < μ2 t17 f

def F_weak_L2 (u : Uncertain) (K : (Bool × Fault) → Prop) (f : List Int) (t17 : Int) (I2 : Int → (List Int) → Prop) (μ2 : Int → (List Int) → Nat) (t11 : Int) (I1 : Int → Prop) (μ1 : Int → Nat) : Prop :=
  ((decide (t17 < ((u.contingent.length : Nat) : Int))) = true →
    (inb u.contingent t17) ∧
    (0 ≤ t17) ∧
    ∀ x2 : Int, x2 = (bits .and .i64 (Int.fdiv t11 (2 ^ (min ((t17 : Int)).toNat (IntKind.bits .i64)))) 1) →
    ((x2 == 0) = true →
      (room ((f ++ ([(gt u.contingent t17).low] : List Int))).length 8) ∧
      F_weak_J1 f t17 I2 μ2 (f ++ ([(gt u.contingent t17).low] : List Int))) ∧
    ((x2 == 0) = false →
      (room ((f ++ ([(gt u.contingent t17).high] : List Int))).length 8) ∧
      F_weak_J1 f t17 I2 μ2 (f ++ ([(gt u.contingent t17).high] : List Int)))) ∧
  ((decide (t17 < ((u.contingent.length : Nat) : Int))) = false →
    (pre_with_ u f) ∧
    ∀ r4 : Network, r4 = (sp_with_ u f) →
    (pre_tighten r4) ∧
    ∀ r5 : List (List Int) × Bool, r5 = (sp_tighten r4) →
    ((!r5.2) = true →
      K (false, (⟨0, 0⟩ : Fault))) ∧
    ((!r5.2) = false →
      I1 (IntKind.i64.wrap (t11 + 1)) ∧
  μ1 (IntKind.i64.wrap (t11 + 1)) < μ1 t11))

def F_weak_L1 (u : Uncertain) (K : (Bool × Fault) → Prop) (x : Int) (t11 : Int) (I1 : Int → Prop) (μ1 : Int → Nat) : Prop :=
  ((decide (t11 < x)) = true →
    ∃ (I2 : Int → (List Int) → Prop) (μ2 : Int → (List Int) → Nat), I2 0 ([] : List Int) ∧ ∀ (t17 : Int) (f : List Int), I2 t17 f → F_weak_L2 u K f t17 I2 μ2 t11 I1 μ1) ∧
  ((decide (t11 < x)) = false →
    K (true, (⟨0, 0⟩ : Fault)))

def F_weak (u : Uncertain) (K : (Bool × Fault) → Prop) : Prop :=
  ∀ r2 : Fault, r2 = (sp_uvalidate u) →
  ((!((r2.code == 0) && (r2.index == 0))) = true →
    K (false, r2)) ∧
  ((!((r2.code == 0) && (r2.index == 0))) = false →
    ∀ r3 : Unit, r3 = (sp_extremes u) →
    (0 ≤ ((u.contingent.length : Nat) : Int)) ∧
    ∀ x : Int, x = (IntKind.i64.wrap (1 * 2 ^ (min ((((u.contingent.length : Nat) : Int) : Int)).toNat (IntKind.bits .i64)))) →
    ∃ (I1 : Int → Prop) (μ1 : Int → Nat), I1 0 ∧ ∀ (t11 : Int), I1 t11 → F_weak_L1 u K x t11 I1 μ1)

def F_weakFor_L1 (u : Uncertain) (K : Bool → Prop) (k : Int) (I1 : Int → Prop) (μ1 : Int → Nat) : Prop :=
  (pre_choices u) ∧
  ∀ r2 : Int, r2 = (sp_choices u) →
  ((decide (k < r2)) = true →
    (pre_choice u k) ∧
    ∀ r3 : List Int, r3 = (sp_choice u k) →
    (pre_fixed u r3) ∧
    ∀ r4 : Network, r4 = (sp_with_ u r3) →
    (pre_tightest r4) ∧
    ∀ r5 : List (List Int) × Bool, r5 = (sp_tighten r4) →
    ((!r5.2) = true →
      K false) ∧
    ((!r5.2) = false →
      I1 (IntKind.i64.wrap (k + 1)) ∧
  μ1 (IntKind.i64.wrap (k + 1)) < μ1 k)) ∧
  ((decide (k < r2)) = false →
    K true)

def F_weakFor (u : Uncertain) (K : Bool → Prop) : Prop :=
  ∃ (I1 : Int → Prop) (μ1 : Int → Nat), I1 0 ∧ ∀ (k : Int), I1 k → F_weakFor_L1 u K k I1 μ1

def F_awaited (K : Bool → Prop) : Prop :=
  ∀ r2 : List Int × Bool × Fault, r2 = (sp_strong (⟨(⟨3, ([(⟨1, 2, 0, 9⟩ : Link)] : List Link)⟩ : Network), ([(⟨0, 1, 1, 3⟩ : Link)] : List Link)⟩ : Uncertain)) →
  ((r2.2.2.code == 0) = true →
    ((r2.2.1) = true →
      (pre_numbers r2.1 ([0, (-1), 3] : List Int)) ∧
      ∀ r3 : Bool, r3 = (sp_numbers r2.1 ([0, (-1), 3] : List Int)) →
      K r3) ∧
    ((r2.2.1) = false →
      K false)) ∧
  ((r2.2.2.code == 0) = false →
    K false)

def F_lawWeakMatchesSpec (u : Uncertain) (K : Bool → Prop) : Prop :=
  ∀ r2 : Bool × Fault, r2 = (sp_weak u) →
  ∀ r3 : Fault, r3 = (sp_uvalidate u) →
  ((r3.code != 0) = true →
    (((r2.2.code == r3.code) && (r2.2.index == r3.index)) = true →
      ((!r2.1) = true →
        ∀ r4 : Bool, r4 = sp_awaited →
        K r4) ∧
      ((!r2.1) = false →
        K false)) ∧
    (((r2.2.code == r3.code) && (r2.2.index == r3.index)) = false →
      K false)) ∧
  ((r3.code != 0) = false →
    ((r2.2.code == 0) = true →
      (pre_choices u) ∧
      ∀ r5 : Int, r5 = (sp_choices u) →
      ((decide (200 < r5)) = true →
        ∀ r6 : Bool, r6 = sp_awaited →
        K r6) ∧
      ((decide (200 < r5)) = false →
        (pre_weakFor u) ∧
        ∀ r7 : Bool, r7 = (sp_weakFor u) →
        ((r2.1 == r7) = true →
          ∀ r8 : Bool, r8 = sp_awaited →
          K r8) ∧
        ((r2.1 == r7) = false →
          K false))) ∧
    ((r2.2.code == 0) = false →
      K false))

def F_lawStrongImpliesWeak_J1 (K : Bool → Prop) (r2 : List Int × Bool × Fault) (r3 : Bool × Fault) (t26 : Bool) : Prop :=
  ((t26) = true →
    (((r2.2.2.code == r3.2.code) && (r2.2.2.index == r3.2.index)) = true →
      ∀ r4 : Bool, r4 = sp_awaited →
      K r4) ∧
    (((r2.2.2.code == r3.2.code) && (r2.2.2.index == r3.2.index)) = false →
      K false)) ∧
  ((t26) = false →
    ((!r2.2.1) = true →
      ∀ r5 : Bool, r5 = sp_awaited →
      K r5) ∧
    ((!r2.2.1) = false →
      ((r3.1) = true →
        ∀ r6 : Bool, r6 = sp_awaited →
        K r6) ∧
      ((r3.1) = false →
        K false)))

def F_lawStrongImpliesWeak (u : Uncertain) (K : Bool → Prop) : Prop :=
  ∀ r2 : List Int × Bool × Fault, r2 = (sp_strong u) →
  ∀ r3 : Bool × Fault, r3 = (sp_weak u) →
  ((r2.2.2.code != 0) = true →
    F_lawStrongImpliesWeak_J1 K r2 r3 true) ∧
  ((r2.2.2.code != 0) = false →
    F_lawStrongImpliesWeak_J1 K r2 r3 (r3.2.code != 0))
end Go.Proofs.Ytkcamohhjaibaaa.Pl
