/- What each function asks and gives, in plain Lean; printed from the code. No condition. -/
import Derived.Test.YtijicdmpidbacaaSp
namespace Go.Proofs.Ytijicdmpidbacaa.Pl
open Go Go.RowKit
def F_in_ (n_ : Int) (low : Int) (high : Int) (K : Bool → Prop) : Prop :=
  ((decide (low ≤ n_)) = true →
    K (decide (n_ ≤ high))) ∧
  ((decide (low ≤ n_)) = false →
    K false)

def F_at_ (code : Int) (index : Int) (K : Fault → Prop) : Prop :=
  K (⟨code, index⟩ : Fault)

def F_linkCode_J3 (K : Int → Prop) (t53 : Bool) : Prop :=
  ((t53) = true →
    K 5) ∧
  ((t53) = false →
    K 0)

def F_linkCode_J2 (l : Link) (K : Int → Prop) (t26 : Bool) : Prop :=
  ((t26) = true →
    K 3) ∧
  ((t26) = false →
    ((l.src == l.dst) = true →
      F_linkCode_J3 K true) ∧
    ((l.src == l.dst) = false →
      F_linkCode_J3 K (decide (l.high < l.low))))

def F_linkCode_J1 (l : Link) (K : Int → Prop) (t5 : Bool) : Prop :=
  ((t5) = true →
    K 3) ∧
  ((t5) = false →
    ∀ x : Int, x = (max (max (max l.low (IntKind.i64.wrap (0 - l.low))) l.high) (IntKind.i64.wrap (0 - l.high))) →
    ((decide (1000 < x)) = true →
      F_linkCode_J2 l K true) ∧
    ((decide (1000 < x)) = false →
      ∀ x2 : Int, x2 = (min (min (min l.low (IntKind.i64.wrap (0 - l.low))) l.high) (IntKind.i64.wrap (0 - l.high))) →
      F_linkCode_J2 l K (decide (x2 < (-1000)))))

def F_linkCode (l : Link) (n_ : Int) (K : Int → Prop) : Prop :=
  ((decide (l.src < 0)) = true →
    F_linkCode_J1 l K true) ∧
  ((decide (l.src < 0)) = false →
    ((decide (n_ ≤ l.src)) = true →
      F_linkCode_J1 l K true) ∧
    ((decide (n_ ≤ l.src)) = false →
      ((decide (l.dst < 0)) = true →
        F_linkCode_J1 l K true) ∧
      ((decide (l.dst < 0)) = false →
        F_linkCode_J1 l K (decide (n_ ≤ l.dst)))))

def F_rLinkCode_J2 (K : Int → Prop) (t42 : Bool) : Prop :=
  ((t42) = true →
    K 5) ∧
  ((t42) = false →
    K 0)

def F_rLinkCode_J1 (l : Link) (K : Int → Prop) (t30 : Bool) : Prop :=
  ((t30) = true →
    K 3) ∧
  ((t30) = false →
    ((l.src == l.dst) = true →
      F_rLinkCode_J2 K true) ∧
    ((l.src == l.dst) = false →
      F_rLinkCode_J2 K (decide (l.high < l.low))))

def F_rLinkCode (l : Link) (n_ : Int) (K : Int → Prop) : Prop :=
  ∀ r2 : Bool, r2 = (sp_in_ l.src 0 (IntKind.i64.wrap (n_ - 1))) →
  ((!r2) = true →
    F_rLinkCode_J1 l K true) ∧
  ((!r2) = false →
    ∀ r3 : Bool, r3 = (sp_in_ l.dst 0 (IntKind.i64.wrap (n_ - 1))) →
    ((!r3) = true →
      F_rLinkCode_J1 l K true) ∧
    ((!r3) = false →
      ∀ r4 : Bool, r4 = (sp_in_ l.low (-1000) 1000) →
      ((!r4) = true →
        F_rLinkCode_J1 l K true) ∧
      ((!r4) = false →
        ∀ r5 : Bool, r5 = (sp_in_ l.high (-1000) 1000) →
        F_rLinkCode_J1 l K (!r5))))

def F_validate_L1 (n_ : Network) (K : Fault → Prop) (t25 : Int) (I1 : Int → Prop) (μ1 : Int → Nat) : Prop :=
  ((decide (t25 < ((n_.links.length : Nat) : Int))) = true →
    (inb n_.links t25) ∧
    ∀ r2 : Int, r2 = (sp_linkCode (gt n_.links t25) n_.events) →
    ((r2 != 0) = true →
      K (⟨r2, t25⟩ : Fault)) ∧
    ((r2 != 0) = false →
      I1 (IntKind.i64.wrap (t25 + 1)) ∧
  μ1 (IntKind.i64.wrap (t25 + 1)) < μ1 t25)) ∧
  ((decide (t25 < ((n_.links.length : Nat) : Int))) = false →
    K (⟨0, 0⟩ : Fault))

def F_validate_J1 (n_ : Network) (K : Fault → Prop) (t6 : Bool) : Prop :=
  ((t6) = true →
    K (⟨3, (-1)⟩ : Fault)) ∧
  ((t6) = false →
    ((decide (30 < ((n_.links.length : Nat) : Int))) = true →
      K (⟨2, (-1)⟩ : Fault)) ∧
    ((decide (30 < ((n_.links.length : Nat) : Int))) = false →
      ∃ (I1 : Int → Prop) (μ1 : Int → Nat), I1 0 ∧ ∀ (t25 : Int), I1 t25 → F_validate_L1 n_ K t25 I1 μ1))

def F_validate (n_ : Network) (K : Fault → Prop) : Prop :=
  ((decide (n_.events < 1)) = true →
    F_validate_J1 n_ K true) ∧
  ((decide (n_.events < 1)) = false →
    F_validate_J1 n_ K (decide (10 < n_.events)))

def F_networkFault_L1 (n_ : Network) (K : Fault → Prop) (i : Int) (I1 : Int → Prop) (μ1 : Int → Nat) : Prop :=
  ((decide (i < ((n_.links.length : Nat) : Int))) = true →
    (inb n_.links i) ∧
    (pre_rLinkCode (gt n_.links i) n_.events) ∧
    ∀ r5 : Int, r5 = (sp_linkCode (gt n_.links i) n_.events) →
    ((r5 != 0) = true →
      ∀ r6 : Fault, r6 = (sp_at_ r5 i) →
      K r6) ∧
    ((r5 != 0) = false →
      I1 (IntKind.i64.wrap (i + 1)) ∧
  μ1 (IntKind.i64.wrap (i + 1)) < μ1 i)) ∧
  ((decide (i < ((n_.links.length : Nat) : Int))) = false →
    K (⟨0, 0⟩ : Fault))

def F_networkFault (n_ : Network) (K : Fault → Prop) : Prop :=
  ∀ r2 : Bool, r2 = (sp_in_ n_.events 1 10) →
  ((!r2) = true →
    ∀ r3 : Fault, r3 = (sp_at_ 3 (-1)) →
    K r3) ∧
  ((!r2) = false →
    ((decide (30 < ((n_.links.length : Nat) : Int))) = true →
      ∀ r4 : Fault, r4 = (sp_at_ 2 (-1)) →
      K r4) ∧
    ((decide (30 < ((n_.links.length : Nat) : Int))) = false →
      ∃ (I1 : Int → Prop) (μ1 : Int → Nat), I1 0 ∧ ∀ (i : Int), I1 i → F_networkFault_L1 n_ K i I1 μ1))

def F_mul64 (x : Int) (y : Int) (K : (Int × Int) → Prop) : Prop :=
  ∀ x2 : Int, x2 = (IntKind.u64.wrap ((bits .and .u64 x 4294967295) * (bits .and .u64 y 4294967295))) →
  ∀ x3 : Int, x3 = (IntKind.u64.wrap ((Int.fdiv x (2 ^ (min ((32 : Int)).toNat (IntKind.bits .u64)))) * (bits .and .u64 y 4294967295))) →
  ∀ x4 : Int, x4 = (IntKind.u64.wrap (x3 + (Int.fdiv x2 (2 ^ (min ((32 : Int)).toNat (IntKind.bits .u64)))))) →
  ∀ x5 : Int, x5 = (IntKind.u64.wrap ((bits .and .u64 x 4294967295) * (Int.fdiv y (2 ^ (min ((32 : Int)).toNat (IntKind.bits .u64)))))) →
  ∀ x6 : Int, x6 = (IntKind.u64.wrap ((Int.fdiv x (2 ^ (min ((32 : Int)).toNat (IntKind.bits .u64)))) * (Int.fdiv y (2 ^ (min ((32 : Int)).toNat (IntKind.bits .u64)))))) →
  ∀ x7 : Int, x7 = (IntKind.u64.wrap (x6 + (Int.fdiv x4 (2 ^ (min ((32 : Int)).toNat (IntKind.bits .u64)))))) →
  ∀ x8 : Int, x8 = (Int.fdiv (IntKind.u64.wrap ((bits .and .u64 x4 4294967295) + x5)) (2 ^ (min ((32 : Int)).toNat (IntKind.bits .u64)))) →
  K (IntKind.u64.wrap (x7 + x8), IntKind.u64.wrap (x * y))

def F_mul (x : Int) (y : Int) (K : (Int × Int) → Prop) : Prop :=
  (pre_mul64 x y) ∧
  ∀ r2 : Int × Int, r2 = (sp_mul64 x y) →
  K (r2.1, r2.2)

def F_repeat_L1 (K : (List Int) → Prop) (r2 : Int × Int) (n_ : Int) (newslice : List Int) (I1 : Int → (List Int) → Prop) (μ1 : Int → (List Int) → Nat) : Prop :=
  ((decide (n_ < (((IntKind.i64.wrap (r2.2)).toNat : Nat) : Int))) = true →
    (0 ≤ n_ ∧ n_ ≤ (((IntKind.i64.wrap (r2.2)).toNat : Nat) : Int)) ∧
    ((min ((n_).toNat) ((IntKind.i64.wrap (r2.2)).toNat - (n_).toNat)) ≤ newslice.length ∧ (n_).toNat + (newslice.take (min ((n_).toNat) ((IntKind.i64.wrap (r2.2)).toNat - (n_).toNat))).length ≤ (IntKind.i64.wrap (r2.2)).toNat) ∧
    ∀ d2 : List Int, d2 = (cpy newslice (n_).toNat (newslice.take (min ((n_).toNat) ((IntKind.i64.wrap (r2.2)).toNat - (n_).toNat)))) →
    I1 (IntKind.i64.wrap (n_ + (((min ((n_).toNat) ((IntKind.i64.wrap (r2.2)).toNat - (n_).toNat)) : Nat) : Int))) d2 ∧
  μ1 (IntKind.i64.wrap (n_ + (((min ((n_).toNat) ((IntKind.i64.wrap (r2.2)).toNat - (n_).toNat)) : Nat) : Int))) d2 < μ1 n_ newslice) ∧
  ((decide (n_ < (((IntKind.i64.wrap (r2.2)).toNat : Nat) : Int))) = false →
    K newslice)

def F_repeat_J1 (x : List Int) (K : (List Int) → Prop) (r2 : Int × Int) (t26 : Bool) : Prop :=
  ((t26) = true →
    False) ∧
  ((t26) = false →
    (mkok (IntKind.i64.wrap (r2.2)) 8) ∧
    ((min x.length ((IntKind.i64.wrap (r2.2)).toNat)) ≤ x.length ∧ 0 + (x.take (min x.length ((IntKind.i64.wrap (r2.2)).toNat))).length ≤ (IntKind.i64.wrap (r2.2)).toNat) ∧
    ∀ d : List Int, d = (cpy (List.replicate (IntKind.i64.wrap (r2.2)).toNat (0 : Int)) 0 (x.take (min x.length ((IntKind.i64.wrap (r2.2)).toNat)))) →
    ∃ (I1 : Int → (List Int) → Prop) (μ1 : Int → (List Int) → Nat), I1 (((min x.length ((IntKind.i64.wrap (r2.2)).toNat)) : Nat) : Int) d ∧ ∀ (n_ : Int) (newslice : List Int), I1 n_ newslice → F_repeat_L1 K r2 n_ newslice I1 μ1)

def F_repeat (x : List Int) (count : Int) (K : (List Int) → Prop) : Prop :=
  ((decide (count < 0)) = true →
    False) ∧
  ((decide (count < 0)) = false →
    (pre_mul64 (IntKind.u64.wrap (((x.length : Nat) : Int))) (IntKind.u64.wrap (count))) ∧
    ∀ r2 : Int × Int, r2 = (sp_mul64 (IntKind.u64.wrap (((x.length : Nat) : Int))) (IntKind.u64.wrap (count))) →
    ((decide (0 < r2.1)) = true →
      F_repeat_J1 x K r2 true) ∧
    ((decide (0 < r2.1)) = false →
      F_repeat_J1 x K r2 (decide (9223372036854775807 < r2.2))))

def F_bounds_L2 (n_ : Network) (K : (List (List Int)) → Prop) (d6 : List (List Int)) (t37 : Int) (I2 : Int → (List (List Int)) → Prop) (μ2 : Int → (List (List Int)) → Nat) : Prop :=
  ((decide (t37 < ((n_.links.length : Nat) : Int))) = true →
    (inb n_.links t37) ∧
    (inb d6 ((gt n_.links t37).src)) ∧
    (inb (gt d6 ((gt n_.links t37).src)) ((gt n_.links t37).dst)) ∧
    ∀ x : Int, x = (if ((gt n_.links t37).high) < (gt (gt d6 ((gt n_.links t37).src)) ((gt n_.links t37).dst)) then ((gt n_.links t37).high) else (gt (gt d6 ((gt n_.links t37).src)) ((gt n_.links t37).dst))) →
    ∀ d8 : List (List Int), d8 = (d6.set ((gt n_.links t37).src).toNat ((gt d6 ((gt n_.links t37).src)).set ((gt n_.links t37).dst).toNat x)) →
    (inb d8 ((gt n_.links t37).dst)) ∧
    (inb (gt d8 ((gt n_.links t37).dst)) ((gt n_.links t37).src)) ∧
    ∀ x2 : Int, x2 = (if (IntKind.i64.wrap (0 - ((gt n_.links t37).low))) < (gt (gt d8 ((gt n_.links t37).dst)) ((gt n_.links t37).src)) then (IntKind.i64.wrap (0 - ((gt n_.links t37).low))) else (gt (gt d8 ((gt n_.links t37).dst)) ((gt n_.links t37).src))) →
    ∀ d9 : List (List Int), d9 = (d8.set ((gt n_.links t37).dst).toNat ((gt d8 ((gt n_.links t37).dst)).set ((gt n_.links t37).src).toNat x2)) →
    I2 (IntKind.i64.wrap (t37 + 1)) d9 ∧
  μ2 (IntKind.i64.wrap (t37 + 1)) d9 < μ2 t37 d6) ∧
  ((decide (t37 < ((n_.links.length : Nat) : Int))) = false →
    K d6)

def F_bounds_L1 (n_ : Network) (K : (List (List Int)) → Prop) (d : List (List Int)) (t12 : Int) (I1 : Int → (List (List Int)) → Prop) (μ1 : Int → (List (List Int)) → Nat) : Prop :=
  ((decide (t12 < (((n_.events).toNat : Nat) : Int))) = true →
    (pre_repeat ([1000000000] : List Int) n_.events) ∧
    ∀ r2 : List Int, r2 = (sp_repeat ([1000000000] : List Int) n_.events) →
    (inb d t12) ∧
    ∀ d3 : List (List Int), d3 = (d.set (t12).toNat r2) →
    (inb d3 t12) ∧
    (inb (gt d3 t12) (0 : Int)) ∧
    ∀ d4 : List (List Int), d4 = (d3.set (t12).toNat ((gt d3 t12).set ((0 : Int)).toNat 0)) →
    (inb d4 t12) ∧
    (inb (gt d4 t12) t12) ∧
    ∀ d5 : List (List Int), d5 = (d4.set (t12).toNat ((gt d4 t12).set (t12).toNat 0)) →
    I1 (IntKind.i64.wrap (t12 + 1)) d5 ∧
  μ1 (IntKind.i64.wrap (t12 + 1)) d5 < μ1 t12 d) ∧
  ((decide (t12 < (((n_.events).toNat : Nat) : Int))) = false →
    ∃ (I2 : Int → (List (List Int)) → Prop) (μ2 : Int → (List (List Int)) → Nat), I2 0 d ∧ ∀ (t37 : Int) (d6 : List (List Int)), I2 t37 d6 → F_bounds_L2 n_ K d6 t37 I2 μ2)

def F_bounds (n_ : Network) (K : (List (List Int)) → Prop) : Prop :=
  (mkok n_.events 24) ∧
  ∃ (I1 : Int → (List (List Int)) → Prop) (μ1 : Int → (List (List Int)) → Nat), I1 0 (List.replicate (n_.events).toNat ([] : List Int) : List (List Int)) ∧ ∀ (t12 : Int) (d : List (List Int)), I1 t12 d → F_bounds_L1 n_ K d t12 I1 μ1

def F_min__L1 (x : List Int) (K : Int → Prop) (m : Int) (i : Int) (I1 : Int → Int → Prop) (μ1 : Int → Int → Nat) : Prop :=
  ((decide (i < ((x.length : Nat) : Int))) = true →
    (inb x i) ∧
    I1 (if (gt x i) < m then (gt x i) else m) (IntKind.i64.wrap (i + 1)) ∧
  μ1 (if (gt x i) < m then (gt x i) else m) (IntKind.i64.wrap (i + 1)) < μ1 m i) ∧
  ((decide (i < ((x.length : Nat) : Int))) = false →
    K m)

def F_min_ (x : List Int) (K : Int → Prop) : Prop :=
  ((decide (((x.length : Nat) : Int) < 1)) = true →
    False) ∧
  ((decide (((x.length : Nat) : Int) < 1)) = false →
    (inb x (0 : Int)) ∧
    ∃ (I1 : Int → Int → Prop) (μ1 : Int → Int → Nat), I1 (gt x (0 : Int)) 1 ∧ ∀ (m : Int) (i : Int), I1 m i → F_min__L1 x K m i I1 μ1)

def F_tighten1 (row : List Int) (K : Bool → Prop) : Prop :=
  (pre_min_ row) ∧
  ∀ r2 : Int, r2 = (sp_min_ row) →
  K (decide (r2 < (-1000000)))

def F_indexR_L1 (s_ : List (List Int)) (pf : (List Int) → Bool) (Df : (List Int) → Prop) (K : Int → Prop) (t8 : Int) (I1 : Int → Prop) (μ1 : Int → Nat) : Prop :=
  ((decide (t8 < ((s_.length : Nat) : Int))) = true →
    (inb s_ t8) ∧
    (Df (gt s_ t8)) ∧
    ∀ r2 : Bool, r2 = (pf (gt s_ t8)) →
    ((r2) = true →
      K t8) ∧
    ((r2) = false →
      I1 (IntKind.i64.wrap (t8 + 1)) ∧
  μ1 (IntKind.i64.wrap (t8 + 1)) < μ1 t8)) ∧
  ((decide (t8 < ((s_.length : Nat) : Int))) = false →
    K (-1))

def F_indexR (s_ : List (List Int)) (pf : (List Int) → Bool) (Df : (List Int) → Prop) (K : Int → Prop) : Prop :=
  ∃ (I1 : Int → Prop) (μ1 : Int → Nat), I1 0 ∧ ∀ (t8 : Int), I1 t8 → F_indexR_L1 s_ pf Df K t8 I1 μ1

def F_containsR (s_ : List (List Int)) (pf : (List Int) → Bool) (Df : (List Int) → Prop) (K : Bool → Prop) : Prop :=
  (pre_any s_ pf Df) ∧
  ∀ r2 : Int, r2 = (sp_index s_ pf Df) →
  K (decide (0 ≤ r2))

def F_indexL_L1 (s_ : List Link) (pf : Link → Bool) (Df : Link → Prop) (K : Int → Prop) (t8 : Int) (I1 : Int → Prop) (μ1 : Int → Nat) : Prop :=
  ((decide (t8 < ((s_.length : Nat) : Int))) = true →
    (inb s_ t8) ∧
    (Df (gt s_ t8)) ∧
    ∀ r2 : Bool, r2 = (pf (gt s_ t8)) →
    ((r2) = true →
      K t8) ∧
    ((r2) = false →
      I1 (IntKind.i64.wrap (t8 + 1)) ∧
  μ1 (IntKind.i64.wrap (t8 + 1)) < μ1 t8)) ∧
  ((decide (t8 < ((s_.length : Nat) : Int))) = false →
    K (-1))

def F_indexL (s_ : List Link) (pf : Link → Bool) (Df : Link → Prop) (K : Int → Prop) : Prop :=
  ∃ (I1 : Int → Prop) (μ1 : Int → Nat), I1 0 ∧ ∀ (t8 : Int), I1 t8 → F_indexL_L1 s_ pf Df K t8 I1 μ1

def F_containsL (s_ : List Link) (pf : Link → Bool) (Df : Link → Prop) (K : Bool → Prop) : Prop :=
  (pre_any s_ pf Df) ∧
  ∀ r2 : Int, r2 = (sp_index s_ pf Df) →
  K (decide (0 ≤ r2))

def F_numbers_L1 (a : List Int) (b : List Int) (K : Bool → Prop) (i : Int) (I1 : Int → Prop) (μ1 : Int → Nat) : Prop :=
  ((decide (i < ((a.length : Nat) : Int))) = true →
    (inb a i) ∧
    (inb b i) ∧
    (((gt a i) != (gt b i)) = true →
      K false) ∧
    (((gt a i) != (gt b i)) = false →
      I1 (IntKind.i64.wrap (i + 1)) ∧
  μ1 (IntKind.i64.wrap (i + 1)) < μ1 i)) ∧
  ((decide (i < ((a.length : Nat) : Int))) = false →
    K true)

def F_numbers (a : List Int) (b : List Int) (K : Bool → Prop) : Prop :=
  ((((a.length : Nat) : Int) != ((b.length : Nat) : Int)) = true →
    K false) ∧
  ((((a.length : Nat) : Int) != ((b.length : Nat) : Int)) = false →
    ∃ (I1 : Int → Prop) (μ1 : Int → Nat), I1 0 ∧ ∀ (i : Int), I1 i → F_numbers_L1 a b K i I1 μ1)

def F_tighten_J1 (t23 : Int) (I3 : Int → (List (List Int)) → Prop) (μ3 : Int → (List (List Int)) → Nat) (d5 : List (List Int)) (d7 : List (List Int)) : Prop :=
  I3 (IntKind.i64.wrap (t23 + 1)) d7 ∧
  μ3 (IntKind.i64.wrap (t23 + 1)) d7 < μ3 t23 d5

def F_tighten_J2 (t43 : Bool) (t23 : Int) (I3 : Int → (List (List Int)) → Prop) (μ3 : Int → (List (List Int)) → Nat) (t18 : Int) (d5 : List (List Int)) (t13 : Int) : Prop :=
  ((t43) = true →
    (inb d5 t18) ∧
    (inb (gt d5 t18) t23) ∧
    (inb (gt d5 t18) t13) ∧
    (inb d5 t13) ∧
    (inb (gt d5 t13) t23) ∧
    ∀ x : Int, x = (if (IntKind.i64.wrap ((gt (gt d5 t18) t13) + (gt (gt d5 t13) t23))) < (gt (gt d5 t18) t23) then (IntKind.i64.wrap ((gt (gt d5 t18) t13) + (gt (gt d5 t13) t23))) else (gt (gt d5 t18) t23)) →
    ∀ d8 : List (List Int), d8 = (d5.set (t18).toNat ((gt d5 t18).set (t23).toNat x)) →
    F_tighten_J1 t23 I3 μ3 d5 d8) ∧
  ((t43) = false →
    F_tighten_J1 t23 I3 μ3 d5 d5)

def F_tighten_L3 (r2 : List (List Int)) (t23 : Int) (d3 : List (List Int)) (I3 : Int → (List (List Int)) → Prop) (μ3 : Int → (List (List Int)) → Nat) (t18 : Int) (d5 : List (List Int)) (I2 : Int → (List (List Int)) → Prop) (μ2 : Int → (List (List Int)) → Nat) (t13 : Int) : Prop :=
  ((decide (t23 < ((r2.length : Nat) : Int))) = true →
    (inb d5 t18) ∧
    (inb (gt d5 t18) t13) ∧
    ((decide ((gt (gt d5 t18) t13) < 1000000000)) = true →
      (inb d5 t13) ∧
      (inb (gt d5 t13) t23) ∧
      F_tighten_J2 (decide ((gt (gt d5 t13) t23) < 1000000000)) t23 I3 μ3 t18 d5 t13) ∧
    ((decide ((gt (gt d5 t18) t13) < 1000000000)) = false →
      F_tighten_J2 false t23 I3 μ3 t18 d5 t13)) ∧
  ((decide (t23 < ((r2.length : Nat) : Int))) = false →
    I2 (IntKind.i64.wrap (t18 + 1)) d5 ∧
  μ2 (IntKind.i64.wrap (t18 + 1)) d5 < μ2 t18 d3)

def F_tighten_L2 (K : (List (List Int) × Bool) → Prop) (r2 : List (List Int)) (d : List (List Int)) (d3 : List (List Int)) (t18 : Int) (I2 : Int → (List (List Int)) → Prop) (μ2 : Int → (List (List Int)) → Nat) (t13 : Int) (I1 : Int → (List (List Int)) → Prop) (μ1 : Int → (List (List Int)) → Nat) : Prop :=
  ((decide (t18 < ((r2.length : Nat) : Int))) = true →
    ∃ (I3 : Int → (List (List Int)) → Prop) (μ3 : Int → (List (List Int)) → Nat), I3 0 d3 ∧ ∀ (t23 : Int) (d5 : List (List Int)), I3 t23 d5 → F_tighten_L3 r2 t23 d3 I3 μ3 t18 d5 I2 μ2 t13) ∧
  ((decide (t18 < ((r2.length : Nat) : Int))) = false →
    (pre_any d3 (fun y_ : List Int => sp_tighten1 y_) (fun y_ : List Int => pre_tighten1 y_)) ∧
    ∀ r3 : Bool, r3 = (sp_any d3 (fun y_ : List Int => sp_tighten1 y_) (fun y_ : List Int => pre_tighten1 y_)) →
    ((r3) = true →
      K (([] : List (List Int)), false)) ∧
    ((r3) = false →
      I1 (IntKind.i64.wrap (t13 + 1)) d3 ∧
  μ1 (IntKind.i64.wrap (t13 + 1)) d3 < μ1 t13 d))

def F_tighten_L4 (K : (List (List Int) × Bool) → Prop) (r2 : List (List Int)) (d : List (List Int)) (t80 : Int) (I4 : Int → Prop) (μ4 : Int → Nat) : Prop :=
  ((decide (t80 < ((r2.length : Nat) : Int))) = true →
    (inb d t80) ∧
    (inb (gt d t80) t80) ∧
    ((decide ((gt (gt d t80) t80) < 0)) = true →
      K (([] : List (List Int)), false)) ∧
    ((decide ((gt (gt d t80) t80) < 0)) = false →
      I4 (IntKind.i64.wrap (t80 + 1)) ∧
  μ4 (IntKind.i64.wrap (t80 + 1)) < μ4 t80)) ∧
  ((decide (t80 < ((r2.length : Nat) : Int))) = false →
    K (d, true))

def F_tighten_L1 (K : (List (List Int) × Bool) → Prop) (r2 : List (List Int)) (d : List (List Int)) (t13 : Int) (I1 : Int → (List (List Int)) → Prop) (μ1 : Int → (List (List Int)) → Nat) : Prop :=
  ((decide (t13 < ((r2.length : Nat) : Int))) = true →
    ∃ (I2 : Int → (List (List Int)) → Prop) (μ2 : Int → (List (List Int)) → Nat), I2 0 d ∧ ∀ (t18 : Int) (d3 : List (List Int)), I2 t18 d3 → F_tighten_L2 K r2 d d3 t18 I2 μ2 t13 I1 μ1) ∧
  ((decide (t13 < ((r2.length : Nat) : Int))) = false →
    ∃ (I4 : Int → Prop) (μ4 : Int → Nat), I4 0 ∧ ∀ (t80 : Int), I4 t80 → F_tighten_L4 K r2 d t80 I4 μ4)

def F_tighten (n_ : Network) (K : (List (List Int) × Bool) → Prop) : Prop :=
  (pre_bounds n_) ∧
  ∀ r2 : List (List Int), r2 = (sp_bounds n_) →
  ∃ (I1 : Int → (List (List Int)) → Prop) (μ1 : Int → (List (List Int)) → Nat), I1 0 r2 ∧ ∀ (t13 : Int) (d : List (List Int)), I1 t13 d → F_tighten_L1 K r2 d t13 I1 μ1

def F_direct_J2 (d2 : Int) (k : Int) (d4 : Int) (I1 : Int → Int → Prop) (μ1 : Int → Int → Nat) : Prop :=
  I1 d4 (IntKind.i64.wrap (k + 1)) ∧
  μ1 d4 (IntKind.i64.wrap (k + 1)) < μ1 d2 k

def F_direct_J5 (n_ : Network) (d2 : Int) (t61 : Bool) (k : Int) (I1 : Int → Int → Prop) (μ1 : Int → Int → Nat) (d5 : Int) : Prop :=
  ((t61) = true →
    F_direct_J2 d2 k (IntKind.i64.wrap (0 - ((gt n_.links k).low))) I1 μ1) ∧
  ((t61) = false →
    F_direct_J2 d2 k d5 I1 μ1)

def F_direct_J4 (n_ : Network) (i : Int) (j : Int) (d2 : Int) (k : Int) (I1 : Int → Int → Prop) (μ1 : Int → Int → Nat) (d5 : Int) : Prop :=
  ((((gt n_.links k).src) == j) = true →
    ((((gt n_.links k).dst) == i) = true →
      F_direct_J5 n_ d2 (decide ((IntKind.i64.wrap (0 - ((gt n_.links k).low))) < d5)) k I1 μ1 d5) ∧
    ((((gt n_.links k).dst) == i) = false →
      F_direct_J5 n_ d2 false k I1 μ1 d5)) ∧
  ((((gt n_.links k).src) == j) = false →
    F_direct_J5 n_ d2 false k I1 μ1 d5)

def F_direct_J3 (n_ : Network) (i : Int) (j : Int) (t42 : Bool) (d2 : Int) (k : Int) (I1 : Int → Int → Prop) (μ1 : Int → Int → Nat) : Prop :=
  ((t42) = true →
    F_direct_J4 n_ i j d2 k I1 μ1 ((gt n_.links k).high)) ∧
  ((t42) = false →
    F_direct_J4 n_ i j d2 k I1 μ1 d2)

def F_direct_L1 (n_ : Network) (i : Int) (j : Int) (K : Int → Prop) (d2 : Int) (k : Int) (I1 : Int → Int → Prop) (μ1 : Int → Int → Nat) : Prop :=
  ((decide (k < ((n_.links.length : Nat) : Int))) = true →
    (inb n_.links k) ∧
    ((((gt n_.links k).src) == i) = true →
      ((((gt n_.links k).dst) == j) = true →
        F_direct_J3 n_ i j (decide (((gt n_.links k).high) < d2)) d2 k I1 μ1) ∧
      ((((gt n_.links k).dst) == j) = false →
        F_direct_J3 n_ i j false d2 k I1 μ1)) ∧
    ((((gt n_.links k).src) == i) = false →
      F_direct_J3 n_ i j false d2 k I1 μ1)) ∧
  ((decide (k < ((n_.links.length : Nat) : Int))) = false →
    K d2)

def F_direct_J1 (n_ : Network) (i : Int) (j : Int) (K : Int → Prop) (d : Int) : Prop :=
  ∃ (I1 : Int → Int → Prop) (μ1 : Int → Int → Nat), I1 d 0 ∧ ∀ (d2 : Int) (k : Int), I1 d2 k → F_direct_L1 n_ i j K d2 k I1 μ1

def F_direct (n_ : Network) (i : Int) (j : Int) (K : Int → Prop) : Prop :=
  ((i == j) = true →
    K 0) ∧
  ((i == j) = false →
    ((j == 0) = true →
      F_direct_J1 n_ i j K 0) ∧
    ((j == 0) = false →
      F_direct_J1 n_ i j K 1000000000))

def F_tightest_J1 (b : Int) (I5 : Int → (List Int) → Prop) (μ5 : Int → (List Int) → Nat) (row7 : List Int) (row9 : List Int) : Prop :=
  I5 (IntKind.i64.wrap (b + 1)) row9 ∧
  μ5 (IntKind.i64.wrap (b + 1)) row9 < μ5 b row7

def F_tightest_J2 (n_ : Network) (K : (List (List Int) × Bool) → Prop) (r2 : Int) (t76 : Bool) (b : Int) (I5 : Int → (List Int) → Prop) (μ5 : Int → (List Int) → Nat) (a2 : Int) (row7 : List Int) (round : Int) : Prop :=
  ((t76) = true →
    ((round == n_.events) = true →
      K (([] : List (List Int)), false)) ∧
    ((round == n_.events) = false →
      (inb row7 a2) ∧
      (inb row7 b) ∧
      ∀ d3 : List Int, d3 = (row7.set (b).toNat (IntKind.i64.wrap ((gt row7 a2) + r2))) →
      F_tightest_J1 b I5 μ5 row7 d3)) ∧
  ((t76) = false →
    F_tightest_J1 b I5 μ5 row7 row7)

def F_tightest_L5 (n_ : Network) (K : (List (List Int) × Bool) → Prop) (b : Int) (I5 : Int → (List Int) → Prop) (μ5 : Int → (List Int) → Nat) (row5 : List Int) (a2 : Int) (I4 : Int → (List Int) → Prop) (μ4 : Int → (List Int) → Nat) (row7 : List Int) (round : Int) : Prop :=
  ((decide (b < n_.events)) = true →
    (pre_direct n_ a2 b) ∧
    ∀ r2 : Int, r2 = (sp_direct n_ a2 b) →
    (inb row7 a2) ∧
    ((decide ((gt row7 a2) < 1000000000)) = true →
      ((decide (r2 < 1000000000)) = true →
        (inb row7 b) ∧
        F_tightest_J2 n_ K r2 (decide ((IntKind.i64.wrap ((gt row7 a2) + r2)) < (gt row7 b))) b I5 μ5 a2 row7 round) ∧
      ((decide (r2 < 1000000000)) = false →
        F_tightest_J2 n_ K r2 false b I5 μ5 a2 row7 round)) ∧
    ((decide ((gt row7 a2) < 1000000000)) = false →
      F_tightest_J2 n_ K r2 false b I5 μ5 a2 row7 round)) ∧
  ((decide (b < n_.events)) = false →
    I4 (IntKind.i64.wrap (a2 + 1)) row7 ∧
  μ4 (IntKind.i64.wrap (a2 + 1)) row7 < μ4 a2 row5)

def F_tightest_L4 (n_ : Network) (K : (List (List Int) × Bool) → Prop) (row3 : List Int) (row5 : List Int) (a2 : Int) (I4 : Int → (List Int) → Prop) (μ4 : Int → (List Int) → Nat) (round : Int) (I3 : Int → (List Int) → Prop) (μ3 : Int → (List Int) → Nat) : Prop :=
  ((decide (a2 < n_.events)) = true →
    ∃ (I5 : Int → (List Int) → Prop) (μ5 : Int → (List Int) → Nat), I5 0 row5 ∧ ∀ (b : Int) (row7 : List Int), I5 b row7 → F_tightest_L5 n_ K b I5 μ5 row5 a2 I4 μ4 row7 round) ∧
  ((decide (a2 < n_.events)) = false →
    I3 (IntKind.i64.wrap (round + 1)) row5 ∧
  μ3 (IntKind.i64.wrap (round + 1)) row5 < μ3 round row3)

def F_tightest_L3 (n_ : Network) (K : (List (List Int) × Bool) → Prop) (row3 : List Int) (round : Int) (I3 : Int → (List Int) → Prop) (μ3 : Int → (List Int) → Nat) (i : Int) (all : List (List Int)) (I1 : Int → (List (List Int)) → Prop) (μ1 : Int → (List (List Int)) → Nat) : Prop :=
  ((decide (round ≤ n_.events)) = true →
    ∃ (I4 : Int → (List Int) → Prop) (μ4 : Int → (List Int) → Nat), I4 0 row3 ∧ ∀ (a2 : Int) (row5 : List Int), I4 a2 row5 → F_tightest_L4 n_ K row3 row5 a2 I4 μ4 round I3 μ3) ∧
  ((decide (round ≤ n_.events)) = false →
    (room ((all ++ ([row3] : List (List Int)))).length 24) ∧
    I1 (IntKind.i64.wrap (i + 1)) (all ++ ([row3] : List (List Int))) ∧
  μ1 (IntKind.i64.wrap (i + 1)) (all ++ ([row3] : List (List Int))) < μ1 i all)

def F_tightest_L2 (n_ : Network) (K : (List (List Int) × Bool) → Prop) (j : Int) (row : List Int) (I2 : Int → (List Int) → Prop) (μ2 : Int → (List Int) → Nat) (i : Int) (all : List (List Int)) (I1 : Int → (List (List Int)) → Prop) (μ1 : Int → (List (List Int)) → Nat) : Prop :=
  ((decide (j < n_.events)) = true →
    (inb row j) ∧
    ∀ d : List Int, d = (row.set (j).toNat 1000000000) →
    I2 (IntKind.i64.wrap (j + 1)) d ∧
  μ2 (IntKind.i64.wrap (j + 1)) d < μ2 j row) ∧
  ((decide (j < n_.events)) = false →
    (inb row i) ∧
    ∀ d2 : List Int, d2 = (row.set (i).toNat 0) →
    ∃ (I3 : Int → (List Int) → Prop) (μ3 : Int → (List Int) → Nat), I3 0 d2 ∧ ∀ (round : Int) (row3 : List Int), I3 round row3 → F_tightest_L3 n_ K row3 round I3 μ3 i all I1 μ1)

def F_tightest_L1 (n_ : Network) (K : (List (List Int) × Bool) → Prop) (i : Int) (all : List (List Int)) (I1 : Int → (List (List Int)) → Prop) (μ1 : Int → (List (List Int)) → Nat) : Prop :=
  ((decide (i < n_.events)) = true →
    (mkok n_.events 8) ∧
    ∃ (I2 : Int → (List Int) → Prop) (μ2 : Int → (List Int) → Nat), I2 0 (List.replicate (n_.events).toNat (0 : Int)) ∧ ∀ (j : Int) (row : List Int), I2 j row → F_tightest_L2 n_ K j row I2 μ2 i all I1 μ1) ∧
  ((decide (i < n_.events)) = false →
    K (all, true))

def F_tightest (n_ : Network) (K : (List (List Int) × Bool) → Prop) : Prop :=
  ∃ (I1 : Int → (List (List Int)) → Prop) (μ1 : Int → (List (List Int)) → Nat), I1 0 ([] : List (List Int)) ∧ ∀ (i : Int) (all : List (List Int)), I1 i all → F_tightest_L1 n_ K i all I1 μ1

def F_uval1 (k : Link) (x : Link) (K : Bool → Prop) : Prop :=
  K (k.dst == x.dst)

def F_uval2 (k : Link) (x : Link) (K : Bool → Prop) : Prop :=
  K (k.dst == x.src)

def F_uvalidate_J2 (u : Uncertain) (K : Fault → Prop) (e_ : Int) (t24 : Int) (I1 : Int → Prop) (μ1 : Int → Nat) : Prop :=
  ((e_ != 0) = true →
    K (⟨e_, IntKind.i64.wrap ((-3) - t24)⟩ : Fault)) ∧
  ((e_ != 0) = false →
    (0 ≤ t24 ∧ t24 ≤ (u.contingent.length : Int)) ∧
    (pre_any (u.contingent.take (t24).toNat) (fun y_ : Link => sp_uval1 y_ (gt u.contingent t24)) (fun _ : Link => True)) ∧
    ∀ r4 : Bool, r4 = (sp_any (u.contingent.take (t24).toNat) (fun y_ : Link => sp_uval1 y_ (gt u.contingent t24)) (fun _ : Link => True)) →
    ((r4) = true →
      K (⟨7, IntKind.i64.wrap ((-3) - t24)⟩ : Fault)) ∧
    ((r4) = false →
      I1 (IntKind.i64.wrap (t24 + 1)) ∧
  μ1 (IntKind.i64.wrap (t24 + 1)) < μ1 t24))

def F_uvalidate_J1 (u : Uncertain) (K : Fault → Prop) (r3 : Int) (t45 : Bool) (t24 : Int) (I1 : Int → Prop) (μ1 : Int → Nat) : Prop :=
  ((t45) = true →
    F_uvalidate_J2 u K 5 t24 I1 μ1) ∧
  ((t45) = false →
    F_uvalidate_J2 u K r3 t24 I1 μ1)

def F_uvalidate_L2 (u : Uncertain) (K : Fault → Prop) (t65 : Int) (I2 : Int → Prop) (μ2 : Int → Nat) : Prop :=
  ((decide (t65 < ((u.contingent.length : Nat) : Int))) = true →
    (inb u.contingent t65) ∧
    (pre_any u.contingent (fun y_ : Link => sp_uval2 y_ (gt u.contingent t65)) (fun _ : Link => True)) ∧
    ∀ r5 : Bool, r5 = (sp_any u.contingent (fun y_ : Link => sp_uval2 y_ (gt u.contingent t65)) (fun _ : Link => True)) →
    ((r5) = true →
      K (⟨8, IntKind.i64.wrap ((-3) - t65)⟩ : Fault)) ∧
    ((r5) = false →
      I2 (IntKind.i64.wrap (t65 + 1)) ∧
  μ2 (IntKind.i64.wrap (t65 + 1)) < μ2 t65)) ∧
  ((decide (t65 < ((u.contingent.length : Nat) : Int))) = false →
    K (⟨0, 0⟩ : Fault))

def F_uvalidate_L1 (u : Uncertain) (K : Fault → Prop) (t24 : Int) (I1 : Int → Prop) (μ1 : Int → Nat) : Prop :=
  ((decide (t24 < ((u.contingent.length : Nat) : Int))) = true →
    (inb u.contingent t24) ∧
    ∀ r3 : Int, r3 = (sp_linkCode (gt u.contingent t24) u.network.events) →
    ((r3 == 0) = true →
      ((decide (((gt u.contingent t24).low) < 1)) = true →
        F_uvalidate_J1 u K r3 true t24 I1 μ1) ∧
      ((decide (((gt u.contingent t24).low) < 1)) = false →
        F_uvalidate_J1 u K r3 (((gt u.contingent t24).dst) == 0) t24 I1 μ1)) ∧
    ((r3 == 0) = false →
      F_uvalidate_J1 u K r3 false t24 I1 μ1)) ∧
  ((decide (t24 < ((u.contingent.length : Nat) : Int))) = false →
    ∃ (I2 : Int → Prop) (μ2 : Int → Nat), I2 0 ∧ ∀ (t65 : Int), I2 t65 → F_uvalidate_L2 u K t65 I2 μ2)

def F_uvalidate (u : Uncertain) (K : Fault → Prop) : Prop :=
  ∀ r2 : Fault, r2 = (sp_validate u.network) →
  ((!((r2.code == 0) && (r2.index == 0))) = true →
    K r2) ∧
  ((!((r2.code == 0) && (r2.index == 0))) = false →
    ((decide (3 < ((u.contingent.length : Nat) : Int))) = true →
      K (⟨2, (-2)⟩ : Fault)) ∧
    ((decide (3 < ((u.contingent.length : Nat) : Int))) = false →
      ∃ (I1 : Int → Prop) (μ1 : Int → Nat), I1 0 ∧ ∀ (t24 : Int), I1 t24 → F_uvalidate_L1 u K t24 I1 μ1))

def F_uncertainFault_J3 (e_2 : Int) (k : Int) (I2 : Int → Int → Prop) (μ2 : Int → Int → Nat) (e_4 : Int) : Prop :=
  I2 e_4 (IntKind.i64.wrap (k + 1)) ∧
  μ2 e_4 (IntKind.i64.wrap (k + 1)) < μ2 e_2 k

def F_uncertainFault_J4 (t74 : Bool) (e_2 : Int) (k : Int) (I2 : Int → Int → Prop) (μ2 : Int → Int → Nat) : Prop :=
  ((t74) = true →
    F_uncertainFault_J3 e_2 k I2 μ2 7) ∧
  ((t74) = false →
    F_uncertainFault_J3 e_2 k I2 μ2 e_2)

def F_uncertainFault_L2 (u : Uncertain) (K : Fault → Prop) (e_2 : Int) (k : Int) (I2 : Int → Int → Prop) (μ2 : Int → Int → Nat) (i : Int) (I1 : Int → Prop) (μ1 : Int → Nat) : Prop :=
  ((decide (k < i)) = true →
    ((e_2 == 0) = true →
      (inb u.contingent k) ∧
      F_uncertainFault_J4 (((gt u.contingent k).dst) == ((gt u.contingent i).dst)) e_2 k I2 μ2) ∧
    ((e_2 == 0) = false →
      F_uncertainFault_J4 false e_2 k I2 μ2)) ∧
  ((decide (k < i)) = false →
    ((e_2 != 0) = true →
      ∀ r5 : Fault, r5 = (sp_at_ e_2 (IntKind.i64.wrap ((-3) - i))) →
      K r5) ∧
    ((e_2 != 0) = false →
      I1 (IntKind.i64.wrap (i + 1)) ∧
  μ1 (IntKind.i64.wrap (i + 1)) < μ1 i))

def F_uncertainFault_J2 (u : Uncertain) (K : Fault → Prop) (e_ : Int) (i : Int) (I1 : Int → Prop) (μ1 : Int → Nat) : Prop :=
  ∃ (I2 : Int → Int → Prop) (μ2 : Int → Int → Nat), I2 e_ 0 ∧ ∀ (e_2 : Int) (k : Int), I2 e_2 k → F_uncertainFault_L2 u K e_2 k I2 μ2 i I1 μ1

def F_uncertainFault_J1 (u : Uncertain) (K : Fault → Prop) (r4 : Int) (t54 : Bool) (i : Int) (I1 : Int → Prop) (μ1 : Int → Nat) : Prop :=
  ((t54) = true →
    F_uncertainFault_J2 u K 5 i I1 μ1) ∧
  ((t54) = false →
    F_uncertainFault_J2 u K r4 i I1 μ1)

def F_uncertainFault_L4 (u : Uncertain) (K : Fault → Prop) (k3 : Int) (I4 : Int → Prop) (μ4 : Int → Nat) (i3 : Int) (I3 : Int → Prop) (μ3 : Int → Nat) : Prop :=
  ((decide (k3 < ((u.contingent.length : Nat) : Int))) = true →
    (inb u.contingent k3) ∧
    (inb u.contingent i3) ∧
    ((((gt u.contingent k3).dst) == ((gt u.contingent i3).src)) = true →
      ∀ r6 : Fault, r6 = (sp_at_ 8 (IntKind.i64.wrap ((-3) - i3))) →
      K r6) ∧
    ((((gt u.contingent k3).dst) == ((gt u.contingent i3).src)) = false →
      I4 (IntKind.i64.wrap (k3 + 1)) ∧
  μ4 (IntKind.i64.wrap (k3 + 1)) < μ4 k3)) ∧
  ((decide (k3 < ((u.contingent.length : Nat) : Int))) = false →
    I3 (IntKind.i64.wrap (i3 + 1)) ∧
  μ3 (IntKind.i64.wrap (i3 + 1)) < μ3 i3)

def F_uncertainFault_L3 (u : Uncertain) (K : Fault → Prop) (i3 : Int) (I3 : Int → Prop) (μ3 : Int → Nat) : Prop :=
  ((decide (i3 < ((u.contingent.length : Nat) : Int))) = true →
    ∃ (I4 : Int → Prop) (μ4 : Int → Nat), I4 0 ∧ ∀ (k3 : Int), I4 k3 → F_uncertainFault_L4 u K k3 I4 μ4 i3 I3 μ3) ∧
  ((decide (i3 < ((u.contingent.length : Nat) : Int))) = false →
    K (⟨0, 0⟩ : Fault))

def F_uncertainFault_L1 (u : Uncertain) (K : Fault → Prop) (i : Int) (I1 : Int → Prop) (μ1 : Int → Nat) : Prop :=
  ((decide (i < ((u.contingent.length : Nat) : Int))) = true →
    (inb u.contingent i) ∧
    (pre_rLinkCode (gt u.contingent i) u.network.events) ∧
    ∀ r4 : Int, r4 = (sp_linkCode (gt u.contingent i) u.network.events) →
    ((r4 == 0) = true →
      ((decide (((gt u.contingent i).low) < 1)) = true →
        F_uncertainFault_J1 u K r4 true i I1 μ1) ∧
      ((decide (((gt u.contingent i).low) < 1)) = false →
        F_uncertainFault_J1 u K r4 (((gt u.contingent i).dst) == 0) i I1 μ1)) ∧
    ((r4 == 0) = false →
      F_uncertainFault_J1 u K r4 false i I1 μ1)) ∧
  ((decide (i < ((u.contingent.length : Nat) : Int))) = false →
    ∃ (I3 : Int → Prop) (μ3 : Int → Nat), I3 0 ∧ ∀ (i3 : Int), I3 i3 → F_uncertainFault_L3 u K i3 I3 μ3)

def F_uncertainFault (u : Uncertain) (K : Fault → Prop) : Prop :=
  ∀ r2 : Fault, r2 = (sp_validate u.network) →
  ((r2.code != 0) = true →
    K r2) ∧
  ((r2.code != 0) = false →
    ((decide (3 < ((u.contingent.length : Nat) : Int))) = true →
      ∀ r3 : Fault, r3 = (sp_at_ 2 (-2)) →
      K r3) ∧
    ((decide (3 < ((u.contingent.length : Nat) : Int))) = false →
      ∃ (I1 : Int → Prop) (μ1 : Int → Nat), I1 0 ∧ ∀ (i : Int), I1 i → F_uncertainFault_L1 u K i I1 μ1))

def F_check_J1 (K : Fault → Prop) (t45 : Bool) (t23 : Int) (I1 : Int → Prop) (μ1 : Int → Nat) : Prop :=
  ((t45) = true →
    K (⟨3, IntKind.i64.wrap ((-11) - t23)⟩ : Fault)) ∧
  ((t45) = false →
    I1 (IntKind.i64.wrap (t23 + 1)) ∧
  μ1 (IntKind.i64.wrap (t23 + 1)) < μ1 t23)

def F_check_L1 (u : Uncertain) (durations : List Int) (K : Fault → Prop) (t23 : Int) (I1 : Int → Prop) (μ1 : Int → Nat) : Prop :=
  ((decide (t23 < ((durations.length : Nat) : Int))) = true →
    (inb durations t23) ∧
    (inb u.contingent t23) ∧
    ((decide ((gt durations t23) < ((gt u.contingent t23).low))) = true →
      F_check_J1 K true t23 I1 μ1) ∧
    ((decide ((gt durations t23) < ((gt u.contingent t23).low))) = false →
      F_check_J1 K (decide (((gt u.contingent t23).high) < (gt durations t23))) t23 I1 μ1)) ∧
  ((decide (t23 < ((durations.length : Nat) : Int))) = false →
    K (⟨0, 0⟩ : Fault))

def F_check (u : Uncertain) (durations : List Int) (K : Fault → Prop) : Prop :=
  ∀ r2 : Fault, r2 = (sp_uvalidate u) →
  ((!((r2.code == 0) && (r2.index == 0))) = true →
    K r2) ∧
  ((!((r2.code == 0) && (r2.index == 0))) = false →
    ∀ x : Bool, x = (((durations.length : Nat) : Int) != ((u.contingent.length : Nat) : Int)) →
    ((x) = true →
      K (⟨9, (-10)⟩ : Fault)) ∧
    ((x) = false →
      ∃ (I1 : Int → Prop) (μ1 : Int → Nat), I1 0 ∧ ∀ (t23 : Int), I1 t23 → F_check_L1 u durations K t23 I1 μ1))

def F_durationsFault_L1 (u : Uncertain) (d : List Int) (K : Fault → Prop) (i : Int) (I1 : Int → Prop) (μ1 : Int → Nat) : Prop :=
  ((decide (i < ((d.length : Nat) : Int))) = true →
    (inb d i) ∧
    (inb u.contingent i) ∧
    ∀ r4 : Bool, r4 = (sp_in_ (gt d i) ((gt u.contingent i).low) ((gt u.contingent i).high)) →
    ((!r4) = true →
      ∀ r5 : Fault, r5 = (sp_at_ 3 (IntKind.i64.wrap ((-11) - i))) →
      K r5) ∧
    ((!r4) = false →
      I1 (IntKind.i64.wrap (i + 1)) ∧
  μ1 (IntKind.i64.wrap (i + 1)) < μ1 i)) ∧
  ((decide (i < ((d.length : Nat) : Int))) = false →
    K (⟨0, 0⟩ : Fault))

def F_durationsFault (u : Uncertain) (d : List Int) (K : Fault → Prop) : Prop :=
  ∀ r2 : Fault, r2 = (sp_uvalidate u) →
  ((r2.code != 0) = true →
    K r2) ∧
  ((r2.code != 0) = false →
    ((((d.length : Nat) : Int) != ((u.contingent.length : Nat) : Int)) = true →
      ∀ r3 : Fault, r3 = (sp_at_ 9 (-10)) →
      K r3) ∧
    ((((d.length : Nat) : Int) != ((u.contingent.length : Nat) : Int)) = false →
      ∃ (I1 : Int → Prop) (μ1 : Int → Nat), I1 0 ∧ ∀ (i : Int), I1 i → F_durationsFault_L1 u d K i I1 μ1))

def F_clone (s_ : List Link) (K : (List Link) → Prop) : Prop :=
  (s_ = [] → 
    K ([] : List Link)) ∧
  (room ((([] : List Link) ++ s_)).length 32) ∧
  K (([] : List Link) ++ s_)

def F_with__L1 (u : Uncertain) (durations : List Int) (K : Network → Prop) (t19 : Int) (l2 : List Link) (I1 : Int → (List Link) → Prop) (μ1 : Int → (List Link) → Nat) : Prop :=
  ((decide (t19 < ((u.contingent.length : Nat) : Int))) = true →
    (inb u.contingent t19) ∧
    (inb durations t19) ∧
    (room ((l2 ++ ([(⟨(gt u.contingent t19).src, (gt u.contingent t19).dst, (gt durations t19), (gt durations t19)⟩ : Link)] : List Link))).length 32) ∧
    I1 (IntKind.i64.wrap (t19 + 1)) (l2 ++ ([(⟨(gt u.contingent t19).src, (gt u.contingent t19).dst, (gt durations t19), (gt durations t19)⟩ : Link)] : List Link)) ∧
  μ1 (IntKind.i64.wrap (t19 + 1)) (l2 ++ ([(⟨(gt u.contingent t19).src, (gt u.contingent t19).dst, (gt durations t19), (gt durations t19)⟩ : Link)] : List Link)) < μ1 t19 l2) ∧
  ((decide (t19 < ((u.contingent.length : Nat) : Int))) = false →
    K (⟨u.network.events, l2⟩ : Network))

def F_with__J1 (u : Uncertain) (durations : List Int) (K : Network → Prop) (l : List Link) : Prop :=
  ∃ (I1 : Int → (List Link) → Prop) (μ1 : Int → (List Link) → Nat), I1 0 l ∧ ∀ (t19 : Int) (l2 : List Link), I1 t19 l2 → F_with__L1 u durations K t19 l2 I1 μ1

def F_with_ (u : Uncertain) (durations : List Int) (K : Network → Prop) : Prop :=
  (pre_clone u.network.links) ∧
  ∀ r2 : List Link, r2 = (sp_clone u.network.links) →
  F_with__J1 u durations K r2

def F_fixed_L1 (u : Uncertain) (d : List Int) (K : Network → Prop) (i : Int) (l : List Link) (I1 : Int → (List Link) → Prop) (μ1 : Int → (List Link) → Nat) : Prop :=
  ((decide (i < ((d.length : Nat) : Int))) = true →
    (inb u.contingent i) ∧
    (inb d i) ∧
    (room ((l ++ ([(⟨(gt u.contingent i).src, (gt u.contingent i).dst, (gt d i), (gt d i)⟩ : Link)] : List Link))).length 32) ∧
    I1 (IntKind.i64.wrap (i + 1)) (l ++ ([(⟨(gt u.contingent i).src, (gt u.contingent i).dst, (gt d i), (gt d i)⟩ : Link)] : List Link)) ∧
  μ1 (IntKind.i64.wrap (i + 1)) (l ++ ([(⟨(gt u.contingent i).src, (gt u.contingent i).dst, (gt d i), (gt d i)⟩ : Link)] : List Link)) < μ1 i l) ∧
  ((decide (i < ((d.length : Nat) : Int))) = false →
    K (⟨u.network.events, l⟩ : Network))

def F_fixed (u : Uncertain) (d : List Int) (K : Network → Prop) : Prop :=
  (room ((([] : List Link) ++ u.network.links)).length 32) ∧
  ∃ (I1 : Int → (List Link) → Prop) (μ1 : Int → (List Link) → Nat), I1 0 (([] : List Link) ++ u.network.links) ∧ ∀ (i : Int) (l : List Link), I1 i l → F_fixed_L1 u d K i l I1 μ1

def F_fix (u : Uncertain) (durations : List Int) (K : (Network × Fault) → Prop) : Prop :=
  ∀ r2 : Fault, r2 = (sp_check u durations) →
  ((!((r2.code == 0) && (r2.index == 0))) = true →
    K ((⟨0, []⟩ : Network), r2)) ∧
  ((!((r2.code == 0) && (r2.index == 0))) = false →
    (pre_with_ u durations) ∧
    ∀ r3 : Network, r3 = (sp_with_ u durations) →
    ((decide (30 < ((r3.links.length : Nat) : Int))) = true →
      K ((⟨0, []⟩ : Network), (⟨10, (-1)⟩ : Fault))) ∧
    ((decide (30 < ((r3.links.length : Nat) : Int))) = false →
      K (r3, (⟨0, 0⟩ : Fault))))

def F_choices_L1 (u : Uncertain) (K : Int → Prop) (n_ : Int) (i : Int) (I1 : Int → Int → Prop) (μ1 : Int → Int → Nat) : Prop :=
  ((decide (i < ((u.contingent.length : Nat) : Int))) = true →
    (inb u.contingent i) ∧
    ∀ x : Int, x = (IntKind.i64.wrap (((gt u.contingent i).high) - ((gt u.contingent i).low))) →
    ∀ x2 : Bool, x2 = (decide (1000 < (IntKind.i64.wrap (n_ * (IntKind.i64.wrap (x + 1)))))) →
    ((x2) = true →
      K 1000) ∧
    ((x2) = false →
      I1 (IntKind.i64.wrap (n_ * (IntKind.i64.wrap (x + 1)))) (IntKind.i64.wrap (i + 1)) ∧
  μ1 (IntKind.i64.wrap (n_ * (IntKind.i64.wrap (x + 1)))) (IntKind.i64.wrap (i + 1)) < μ1 n_ i)) ∧
  ((decide (i < ((u.contingent.length : Nat) : Int))) = false →
    K n_)

def F_choices (u : Uncertain) (K : Int → Prop) : Prop :=
  ∃ (I1 : Int → Int → Prop) (μ1 : Int → Int → Nat), I1 1 0 ∧ ∀ (n_ : Int) (i : Int), I1 n_ i → F_choices_L1 u K n_ i I1 μ1

def F_choice_L1 (u : Uncertain) (K : (List Int) → Prop) (k2 : Int) (i : Int) (d : List Int) (I1 : Int → Int → (List Int) → Prop) (μ1 : Int → Int → (List Int) → Nat) : Prop :=
  ((decide (i < ((u.contingent.length : Nat) : Int))) = true →
    (inb u.contingent i) ∧
    ∀ x : Int, x = (IntKind.i64.wrap (((gt u.contingent i).high) - ((gt u.contingent i).low))) →
    ((IntKind.i64.wrap (x + 1)) ≠ 0) ∧
    (room ((d ++ ([IntKind.i64.wrap (((gt u.contingent i).low) + (Int.tmod k2 (IntKind.i64.wrap (x + 1))))] : List Int))).length 8) ∧
    I1 (IntKind.i64.wrap (Int.tdiv k2 (IntKind.i64.wrap (x + 1)))) (IntKind.i64.wrap (i + 1)) (d ++ ([IntKind.i64.wrap (((gt u.contingent i).low) + (Int.tmod k2 (IntKind.i64.wrap (x + 1))))] : List Int)) ∧
  μ1 (IntKind.i64.wrap (Int.tdiv k2 (IntKind.i64.wrap (x + 1)))) (IntKind.i64.wrap (i + 1)) (d ++ ([IntKind.i64.wrap (((gt u.contingent i).low) + (Int.tmod k2 (IntKind.i64.wrap (x + 1))))] : List Int)) < μ1 k2 i d) ∧
  ((decide (i < ((u.contingent.length : Nat) : Int))) = false →
    K d)

def F_choice (u : Uncertain) (k : Int) (K : (List Int) → Prop) : Prop :=
  ∃ (I1 : Int → Int → (List Int) → Prop) (μ1 : Int → Int → (List Int) → Nat), I1 k 0 ([] : List Int) ∧ ∀ (k2 : Int) (i : Int) (d : List Int), I1 k2 i d → F_choice_L1 u K k2 i d I1 μ1

def F_baseOf_L1 (u : Uncertain) (event : Int) (K : Int → Prop) (i : Int) (I1 : Int → Prop) (μ1 : Int → Nat) : Prop :=
  ((decide (i < ((u.contingent.length : Nat) : Int))) = true →
    (inb u.contingent i) ∧
    ((((gt u.contingent i).dst) == event) = true →
      K ((gt u.contingent i).src)) ∧
    ((((gt u.contingent i).dst) == event) = false →
      I1 (IntKind.i64.wrap (i + 1)) ∧
  μ1 (IntKind.i64.wrap (i + 1)) < μ1 i)) ∧
  ((decide (i < ((u.contingent.length : Nat) : Int))) = false →
    K event)

def F_baseOf (u : Uncertain) (event : Int) (K : Int → Prop) : Prop :=
  ∃ (I1 : Int → Prop) (μ1 : Int → Nat), I1 0 ∧ ∀ (i : Int), I1 i → F_baseOf_L1 u event K i I1 μ1

def F_outcome_L1 (u : Uncertain) (d : List Int) (K : (List Int) → Prop) (i : Int) (out : List Int) (I1 : Int → (List Int) → Prop) (μ1 : Int → (List Int) → Nat) : Prop :=
  ((decide (i < ((d.length : Nat) : Int))) = true →
    (inb u.contingent i) ∧
    (inb out ((gt u.contingent i).src)) ∧
    (inb d i) ∧
    (inb out ((gt u.contingent i).dst)) ∧
    ∀ d2 : List Int, d2 = (out.set ((gt u.contingent i).dst).toNat (IntKind.i64.wrap ((gt out ((gt u.contingent i).src)) + (gt d i)))) →
    I1 (IntKind.i64.wrap (i + 1)) d2 ∧
  μ1 (IntKind.i64.wrap (i + 1)) d2 < μ1 i out) ∧
  ((decide (i < ((d.length : Nat) : Int))) = false →
    K out)

def F_outcome (u : Uncertain) (times : List Int) (d : List Int) (K : (List Int) → Prop) : Prop :=
  (room ((([] : List Int) ++ times)).length 8) ∧
  ∃ (I1 : Int → (List Int) → Prop) (μ1 : Int → (List Int) → Nat), I1 0 (([] : List Int) ++ times) ∧ ∀ (i : Int) (out : List Int), I1 i out → F_outcome_L1 u d K i out I1 μ1

def F_places_L2 (u : Uncertain) (K : (List Place) → Prop) (t22 : Int) (out3 : List Place) (I2 : Int → (List Place) → Prop) (μ2 : Int → (List Place) → Nat) : Prop :=
  ((decide (t22 < ((u.contingent.length : Nat) : Int))) = true →
    (inb u.contingent t22) ∧
    (inb out3 ((gt u.contingent t22).dst)) ∧
    ∀ d : List Place, d = (out3.set ((gt u.contingent t22).dst).toNat (⟨(gt u.contingent t22).src, (gt u.contingent t22).low, (gt u.contingent t22).high⟩ : Place)) →
    I2 (IntKind.i64.wrap (t22 + 1)) d ∧
  μ2 (IntKind.i64.wrap (t22 + 1)) d < μ2 t22 out3) ∧
  ((decide (t22 < ((u.contingent.length : Nat) : Int))) = false →
    K out3)

def F_places_L1 (u : Uncertain) (K : (List Place) → Prop) (t10 : Int) (out : List Place) (I1 : Int → (List Place) → Prop) (μ1 : Int → (List Place) → Nat) : Prop :=
  ((decide (t10 < u.network.events)) = true →
    (room ((out ++ ([(⟨t10, 0, 0⟩ : Place)] : List Place))).length 24) ∧
    I1 (IntKind.i64.wrap (t10 + 1)) (out ++ ([(⟨t10, 0, 0⟩ : Place)] : List Place)) ∧
  μ1 (IntKind.i64.wrap (t10 + 1)) (out ++ ([(⟨t10, 0, 0⟩ : Place)] : List Place)) < μ1 t10 out) ∧
  ((decide (t10 < u.network.events)) = false →
    ∃ (I2 : Int → (List Place) → Prop) (μ2 : Int → (List Place) → Nat), I2 0 out ∧ ∀ (t22 : Int) (out3 : List Place), I2 t22 out3 → F_places_L2 u K t22 out3 I2 μ2)

def F_places (u : Uncertain) (K : (List Place) → Prop) : Prop :=
  ∃ (I1 : Int → (List Place) → Prop) (μ1 : Int → (List Place) → Nat), I1 0 ([] : List Place) ∧ ∀ (t10 : Int) (out : List Place), I1 t10 out → F_places_L1 u K t10 out I1 μ1

def F_strong__J1 (l : List Link) (t22 : Int) (I1 : Int → (List Link) → Prop) (μ1 : Int → (List Link) → Nat) (l3 : List Link) : Prop :=
  I1 (IntKind.i64.wrap (t22 + 1)) l3 ∧
  μ1 (IntKind.i64.wrap (t22 + 1)) l3 < μ1 t22 l

def F_strong__J3 (u : Uncertain) (K : (Network × Bool) → Prop) (t62 : Bool) (l : List Link) (t22 : Int) (I1 : Int → (List Link) → Prop) (μ1 : Int → (List Link) → Nat) : Prop :=
  ((t62) = true →
    K ((⟨u.network.events, l⟩ : Network), false)) ∧
  ((t62) = false →
    F_strong__J1 l t22 I1 μ1 l)

def F_strong__J2 (u : Uncertain) (K : (Network × Bool) → Prop) (r2 : List Place) (l : List Link) (t22 : Int) (I1 : Int → (List Link) → Prop) (μ1 : Int → (List Link) → Nat) : Prop :=
  ∀ x : Int, x = (IntKind.i64.wrap (((gt u.network.links t22).low) - ((gt r2 ((gt u.network.links t22).dst)).low))) →
  ∀ x2 : Int, x2 = (IntKind.i64.wrap (x + ((gt r2 ((gt u.network.links t22).src)).high))) →
  ∀ x3 : Int, x3 = (IntKind.i64.wrap (((gt u.network.links t22).high) - ((gt r2 ((gt u.network.links t22).dst)).high))) →
  ∀ x4 : Int, x4 = (IntKind.i64.wrap (x3 + ((gt r2 ((gt u.network.links t22).src)).low))) →
  ∀ x5 : Bool, x5 = (((gt r2 ((gt u.network.links t22).src)).base) == ((gt r2 ((gt u.network.links t22).dst)).base)) →
  ((x5) = true →
    ((decide (0 < x2)) = true →
      F_strong__J3 u K true l t22 I1 μ1) ∧
    ((decide (0 < x2)) = false →
      F_strong__J3 u K (decide (x4 < 0)) l t22 I1 μ1)) ∧
  ((x5) = false →
    ((decide (x4 < x2)) = true →
      K ((⟨u.network.events, l⟩ : Network), false)) ∧
    ((decide (x4 < x2)) = false →
      (room ((l ++ ([(⟨(gt r2 ((gt u.network.links t22).src)).base, (gt r2 ((gt u.network.links t22).dst)).base, x2, x4⟩ : Link)] : List Link))).length 32) ∧
      F_strong__J1 l t22 I1 μ1 (l ++ ([(⟨(gt r2 ((gt u.network.links t22).src)).base, (gt r2 ((gt u.network.links t22).dst)).base, x2, x4⟩ : Link)] : List Link))))

def F_strong__L1 (u : Uncertain) (K : (Network × Bool) → Prop) (r2 : List Place) (l : List Link) (t22 : Int) (I1 : Int → (List Link) → Prop) (μ1 : Int → (List Link) → Nat) : Prop :=
  ((decide (t22 < ((u.network.links.length : Nat) : Int))) = true →
    (inb u.network.links t22) ∧
    (inb r2 ((gt u.network.links t22).src)) ∧
    (inb r2 ((gt u.network.links t22).dst)) ∧
    F_strong__J2 u K r2 l t22 I1 μ1) ∧
  ((decide (t22 < ((u.network.links.length : Nat) : Int))) = false →
    K ((⟨u.network.events, l⟩ : Network), true))

def F_strong_ (u : Uncertain) (K : (Network × Bool) → Prop) : Prop :=
  (pre_places u) ∧
  ∀ r2 : List Place, r2 = (sp_places u) →
  ∃ (I1 : Int → (List Link) → Prop) (μ1 : Int → (List Link) → Nat), I1 0 ([] : List Link) ∧ ∀ (t22 : Int) (l : List Link), I1 t22 l → F_strong__L1 u K r2 l t22 I1 μ1

def F_strong_J1 (out : List Int) (t37 : Int) (I1 : Int → (List Int) → Prop) (μ1 : Int → (List Int) → Nat) (out3 : List Int) : Prop :=
  I1 (IntKind.i64.wrap (t37 + 1)) out3 ∧
  μ1 (IntKind.i64.wrap (t37 + 1)) out3 < μ1 t37 out

def F_strong_L1 (K : (List Int × Bool × Fault) → Prop) (r4 : List (List Int) × Bool) (r5 : List Place) (out : List Int) (t37 : Int) (I1 : Int → (List Int) → Prop) (μ1 : Int → (List Int) → Nat) : Prop :=
  ((decide (t37 < ((r5.length : Nat) : Int))) = true →
    (inb r5 t37) ∧
    ((((gt r5 t37).base) == t37) = true →
      (inb r4.1 t37) ∧
      (inb (gt r4.1 t37) (0 : Int)) ∧
      (room ((out ++ ([IntKind.i64.wrap (0 - (gt (gt r4.1 t37) (0 : Int)))] : List Int))).length 8) ∧
      F_strong_J1 out t37 I1 μ1 (out ++ ([IntKind.i64.wrap (0 - (gt (gt r4.1 t37) (0 : Int)))] : List Int))) ∧
    ((((gt r5 t37).base) == t37) = false →
      (room ((out ++ ([(-1)] : List Int))).length 8) ∧
      F_strong_J1 out t37 I1 μ1 (out ++ ([(-1)] : List Int)))) ∧
  ((decide (t37 < ((r5.length : Nat) : Int))) = false →
    K (out, true, (⟨0, 0⟩ : Fault)))

def F_strong (u : Uncertain) (K : (List Int × Bool × Fault) → Prop) : Prop :=
  ∀ r2 : Fault, r2 = (sp_uvalidate u) →
  ((!((r2.code == 0) && (r2.index == 0))) = true →
    K (([] : List Int), false, r2)) ∧
  ((!((r2.code == 0) && (r2.index == 0))) = false →
    (pre_strong_ u) ∧
    ∀ r3 : Network × Bool, r3 = (sp_strong_ u) →
    ((!r3.2) = true →
      K (([] : List Int), false, (⟨0, 0⟩ : Fault))) ∧
    ((!r3.2) = false →
      (pre_tighten r3.1) ∧
      ∀ r4 : List (List Int) × Bool, r4 = (sp_tighten r3.1) →
      ((!r4.2) = true →
        K (([] : List Int), false, (⟨0, 0⟩ : Fault))) ∧
      ((!r4.2) = false →
        (pre_places u) ∧
        ∀ r5 : List Place, r5 = (sp_places u) →
        ∃ (I1 : Int → (List Int) → Prop) (μ1 : Int → (List Int) → Nat), I1 0 ([] : List Int) ∧ ∀ (t37 : Int) (out : List Int), I1 t37 out → F_strong_L1 K r4 r5 out t37 I1 μ1)))

def F_strongTimes_J1 (i : Int) (I3 : Bool → Int → (List Int) → Prop) (μ3 : Bool → Int → (List Int) → Nat) (again5 : Bool) (times5 : List Int) (again7 : Bool) (times7 : List Int) : Prop :=
  I3 again7 (IntKind.i64.wrap (i + 1)) times7 ∧
  μ3 again7 (IntKind.i64.wrap (i + 1)) times7 < μ3 again5 i times5

def F_strongTimes_J4 (K : (List Int × Bool) → Prop) (up : Int) (by_ : Int) (t107 : Bool) (i : Int) (I3 : Bool → Int → (List Int) → Prop) (μ3 : Bool → Int → (List Int) → Nat) (again5 : Bool) (times5 : List Int) : Prop :=
  ((t107) = true →
    K (([] : List Int), false)) ∧
  ((t107) = false →
    (inb times5 up) ∧
    ∀ d : List Int, d = (times5.set (up).toNat (IntKind.i64.wrap ((gt times5 up) + by_))) →
    F_strongTimes_J1 i I3 μ3 again5 times5 true d)

def F_strongTimes_J3 (u : Uncertain) (K : (List Int × Bool) → Prop) (up : Int) (by_ : Int) (i : Int) (I3 : Bool → Int → (List Int) → Prop) (μ3 : Bool → Int → (List Int) → Nat) (again5 : Bool) (times5 : List Int) : Prop :=
  ((up == 0) = true →
    F_strongTimes_J4 K up by_ true i I3 μ3 again5 times5) ∧
  ((up == 0) = false →
    ∀ r6 : Int, r6 = (sp_baseOf u ((gt u.network.links i).dst)) →
    (pre_baseOf u ((gt u.network.links i).src)) ∧
    ∀ r7 : Int, r7 = (sp_baseOf u ((gt u.network.links i).src)) →
    ((r6 == r7) = true →
      F_strongTimes_J4 K up by_ true i I3 μ3 again5 times5) ∧
    ((r6 == r7) = false →
      (inb times5 up) ∧
      F_strongTimes_J4 K up by_ (decide (100000 < (IntKind.i64.wrap ((gt times5 up) + by_)))) i I3 μ3 again5 times5))

def F_strongTimes_J2 (u : Uncertain) (K : (List Int × Bool) → Prop) (x : Int) (t65 : Bool) (i : Int) (I3 : Bool → Int → (List Int) → Prop) (μ3 : Bool → Int → (List Int) → Nat) (again5 : Bool) (times5 : List Int) : Prop :=
  ((t65) = true →
    F_strongTimes_J1 i I3 μ3 again5 times5 again5 times5) ∧
  ((t65) = false →
    (pre_baseOf u ((gt u.network.links i).dst)) ∧
    ∀ r5 : Int, r5 = (sp_baseOf u ((gt u.network.links i).dst)) →
    ((decide (((gt u.network.links i).high) < x)) = true →
      (pre_baseOf u ((gt u.network.links i).src)) ∧
      ∀ r8 : Int, r8 = (sp_baseOf u ((gt u.network.links i).src)) →
      F_strongTimes_J3 u K r8 (IntKind.i64.wrap (x - ((gt u.network.links i).high))) i I3 μ3 again5 times5) ∧
    ((decide (((gt u.network.links i).high) < x)) = false →
      F_strongTimes_J3 u K r5 (IntKind.i64.wrap (((gt u.network.links i).low) - x)) i I3 μ3 again5 times5))

def F_strongTimes_L3 (u : Uncertain) (K : (List Int × Bool) → Prop) (i : Int) (I3 : Bool → Int → (List Int) → Prop) (μ3 : Bool → Int → (List Int) → Nat) (again3 : Bool) (times3 : List Int) (k : Int) (I2 : Bool → Int → (List Int) → Prop) (μ2 : Bool → Int → (List Int) → Nat) (again5 : Bool) (times5 : List Int) : Prop :=
  ((decide (i < ((u.network.links.length : Nat) : Int))) = true →
    (inb u.network.links i) ∧
    (pre_choice u k) ∧
    ∀ r3 : List Int, r3 = (sp_choice u k) →
    (pre_outcome u times5 r3) ∧
    ∀ r4 : List Int, r4 = (sp_outcome u times5 r3) →
    (inb r4 ((gt u.network.links i).dst)) ∧
    (inb r4 ((gt u.network.links i).src)) ∧
    ∀ x : Int, x = (IntKind.i64.wrap ((gt r4 ((gt u.network.links i).dst)) - (gt r4 ((gt u.network.links i).src)))) →
    ((decide (((gt u.network.links i).low) ≤ x)) = true →
      F_strongTimes_J2 u K x (decide (x ≤ ((gt u.network.links i).high))) i I3 μ3 again5 times5) ∧
    ((decide (((gt u.network.links i).low) ≤ x)) = false →
      F_strongTimes_J2 u K x false i I3 μ3 again5 times5)) ∧
  ((decide (i < ((u.network.links.length : Nat) : Int))) = false →
    I2 again5 (IntKind.i64.wrap (k + 1)) times5 ∧
  μ2 again5 (IntKind.i64.wrap (k + 1)) times5 < μ2 again3 k times3)

def F_strongTimes_L2 (u : Uncertain) (K : (List Int × Bool) → Prop) (again : Bool) (times : List Int) (again3 : Bool) (times3 : List Int) (k : Int) (I2 : Bool → Int → (List Int) → Prop) (μ2 : Bool → Int → (List Int) → Nat) (I1 : Bool → (List Int) → Prop) (μ1 : Bool → (List Int) → Nat) : Prop :=
  (pre_choices u) ∧
  ∀ r2 : Int, r2 = (sp_choices u) →
  ((decide (k < r2)) = true →
    ∃ (I3 : Bool → Int → (List Int) → Prop) (μ3 : Bool → Int → (List Int) → Nat), I3 again3 0 times3 ∧ ∀ (again5 : Bool) (i : Int) (times5 : List Int), I3 again5 i times5 → F_strongTimes_L3 u K i I3 μ3 again3 times3 k I2 μ2 again5 times5) ∧
  ((decide (k < r2)) = false →
    I1 again3 times3 ∧
  μ1 again3 times3 < μ1 again times)

def F_strongTimes_L4 (u : Uncertain) (K : (List Int × Bool) → Prop) (i3 : Int) (times8 : List Int) (I4 : Int → (List Int) → Prop) (μ4 : Int → (List Int) → Nat) : Prop :=
  ((decide (i3 < ((u.contingent.length : Nat) : Int))) = true →
    (inb u.contingent i3) ∧
    (inb times8 ((gt u.contingent i3).dst)) ∧
    ∀ d2 : List Int, d2 = (times8.set ((gt u.contingent i3).dst).toNat (-1)) →
    I4 (IntKind.i64.wrap (i3 + 1)) d2 ∧
  μ4 (IntKind.i64.wrap (i3 + 1)) d2 < μ4 i3 times8) ∧
  ((decide (i3 < ((u.contingent.length : Nat) : Int))) = false →
    K (times8, true))

def F_strongTimes_L1 (u : Uncertain) (K : (List Int × Bool) → Prop) (again : Bool) (times : List Int) (I1 : Bool → (List Int) → Prop) (μ1 : Bool → (List Int) → Nat) : Prop :=
  ((again) = true →
    ∃ (I2 : Bool → Int → (List Int) → Prop) (μ2 : Bool → Int → (List Int) → Nat), I2 false 0 times ∧ ∀ (again3 : Bool) (k : Int) (times3 : List Int), I2 again3 k times3 → F_strongTimes_L2 u K again times again3 times3 k I2 μ2 I1 μ1) ∧
  ((again) = false →
    ∃ (I4 : Int → (List Int) → Prop) (μ4 : Int → (List Int) → Nat), I4 0 times ∧ ∀ (i3 : Int) (times8 : List Int), I4 i3 times8 → F_strongTimes_L4 u K i3 times8 I4 μ4)

def F_strongTimes (u : Uncertain) (K : (List Int × Bool) → Prop) : Prop :=
  (mkok u.network.events 8) ∧
  ∃ (I1 : Bool → (List Int) → Prop) (μ1 : Bool → (List Int) → Nat), I1 true (List.replicate (u.network.events).toNat (0 : Int)) ∧ ∀ (again : Bool) (times : List Int), I1 again times → F_strongTimes_L1 u K again times I1 μ1

def F_dispatch_L1 (u : Uncertain) (durations : List Int) (K : (List Int × Bool × Fault) → Prop) (r3 : List Int × Bool × Fault) (t32 : Int) (out : List Int) (I1 : Int → (List Int) → Prop) (μ1 : Int → (List Int) → Nat) : Prop :=
  ((decide (t32 < ((u.contingent.length : Nat) : Int))) = true →
    (inb u.contingent t32) ∧
    (inb out ((gt u.contingent t32).src)) ∧
    (inb durations t32) ∧
    ∀ x : Int, x = (IntKind.i64.wrap ((gt out ((gt u.contingent t32).src)) + (gt durations t32))) →
    (inb out ((gt u.contingent t32).dst)) ∧
    ∀ d : List Int, d = (out.set ((gt u.contingent t32).dst).toNat x) →
    I1 (IntKind.i64.wrap (t32 + 1)) d ∧
  μ1 (IntKind.i64.wrap (t32 + 1)) d < μ1 t32 out) ∧
  ((decide (t32 < ((u.contingent.length : Nat) : Int))) = false →
    K (out, true, r3.2.2))

def F_dispatch (u : Uncertain) (durations : List Int) (K : (List Int × Bool × Fault) → Prop) : Prop :=
  ∀ r2 : Fault, r2 = (sp_check u durations) →
  ((!((r2.code == 0) && (r2.index == 0))) = true →
    K (([] : List Int), false, r2)) ∧
  ((!((r2.code == 0) && (r2.index == 0))) = false →
    ∀ r3 : List Int × Bool × Fault, r3 = (sp_strong u) →
    ((!r3.2.1) = true →
      K (([] : List Int), false, r3.2.2)) ∧
    ((!r3.2.1) = false →
      ∃ (I1 : Int → (List Int) → Prop) (μ1 : Int → (List Int) → Nat), I1 0 r3.1 ∧ ∀ (t32 : Int) (out : List Int), I1 t32 out → F_dispatch_L1 u durations K r3 t32 out I1 μ1))

def F_net_L1 (a : Network) (b : Network) (K : Bool → Prop) (i : Int) (I1 : Int → Prop) (μ1 : Int → Nat) : Prop :=
  ((decide (i < ((a.links.length : Nat) : Int))) = true →
    (inb a.links i) ∧
    (inb b.links i) ∧
    ∀ x : Bool, x = (!(((((gt a.links i).src) == ((gt b.links i).src)) && (((gt a.links i).dst) == ((gt b.links i).dst))) && ((((gt a.links i).low) == ((gt b.links i).low)) && (((gt a.links i).high) == ((gt b.links i).high))))) →
    ((x) = true →
      K false) ∧
    ((x) = false →
      I1 (IntKind.i64.wrap (i + 1)) ∧
  μ1 (IntKind.i64.wrap (i + 1)) < μ1 i)) ∧
  ((decide (i < ((a.links.length : Nat) : Int))) = false →
    K true)

def F_net_J1 (a : Network) (b : Network) (K : Bool → Prop) (t19 : Bool) : Prop :=
  ((t19) = true →
    K false) ∧
  ((t19) = false →
    ∃ (I1 : Int → Prop) (μ1 : Int → Nat), I1 0 ∧ ∀ (i : Int), I1 i → F_net_L1 a b K i I1 μ1)

def F_net (a : Network) (b : Network) (K : Bool → Prop) : Prop :=
  ((a.events != b.events) = true →
    F_net_J1 a b K true) ∧
  ((a.events != b.events) = false →
    F_net_J1 a b K (((a.links.length : Nat) : Int) != ((b.links.length : Nat) : Int)))

def F_awaited (K : Bool → Prop) : Prop :=
  ∀ r2 : List Int × Bool × Fault, r2 = (sp_strong (⟨(⟨3, ([(⟨1, 2, 0, 9⟩ : Link)] : List Link)⟩ : Network), ([(⟨0, 1, 1, 3⟩ : Link)] : List Link)⟩ : Uncertain)) →
  ((r2.2.2.code == 0) = true →
    ((r2.2.1) = true →
      (pre_numbers r2.1 ([0, (-1), 3] : List Int)) ∧
      ∀ r3 : Bool, r3 = (sp_numbers r2.1 ([0, (-1), 3] : List Int)) →
      K r3) ∧
    ((r2.2.1) = false →
      K false)) ∧
  ((r2.2.2.code == 0) = false →
    K false)

def F_fits1 (l : Link) (x : List Int) (K : Bool → Prop) : Prop :=
  (inb x l.dst) ∧
  (inb x l.src) ∧
  ∀ x2 : Bool, x2 = (decide ((IntKind.i64.wrap ((gt x l.dst) - (gt x l.src))) < l.low)) →
  ((x2) = true →
    K true) ∧
  ((x2) = false →
    ∀ x3 : Bool, x3 = (decide (l.high < (IntKind.i64.wrap ((gt x l.dst) - (gt x l.src))))) →
    K x3)

def F_fits_J1 (n_ : Network) (times : List Int) (K : Bool → Prop) (t13 : Bool) : Prop :=
  ((t13) = true →
    K false) ∧
  ((t13) = false →
    (pre_any n_.links (fun y_ : Link => sp_fits1 y_ times) (fun y_ : Link => pre_fits1 y_ times)) ∧
    ∀ r2 : Bool, r2 = (sp_any n_.links (fun y_ : Link => sp_fits1 y_ times) (fun y_ : Link => pre_fits1 y_ times)) →
    K (!r2))

def F_fits (n_ : Network) (times : List Int) (K : Bool → Prop) : Prop :=
  (inb times (0 : Int)) ∧
  (((gt times (0 : Int)) != 0) = true →
    F_fits_J1 n_ times K true) ∧
  (((gt times (0 : Int)) != 0) = false →
    (pre_min_ times) ∧
    ∀ r3 : Int, r3 = (sp_min_ times) →
    F_fits_J1 n_ times K (decide (r3 < 0)))

def F_respects_J1 (K : (Bool × Fault) → Prop) (t33 : Bool) (t23 : Int) (I1 : Int → Prop) (μ1 : Int → Nat) : Prop :=
  ((t33) = true →
    K (false, (⟨3, IntKind.i64.wrap ((-3) - t23)⟩ : Fault))) ∧
  ((t33) = false →
    I1 (IntKind.i64.wrap (t23 + 1)) ∧
  μ1 (IntKind.i64.wrap (t23 + 1)) < μ1 t23)

def F_respects_L1 (n_ : Network) (times : List Int) (K : (Bool × Fault) → Prop) (t23 : Int) (I1 : Int → Prop) (μ1 : Int → Nat) : Prop :=
  ((decide (t23 < ((times.length : Nat) : Int))) = true →
    (inb times t23) ∧
    ((decide ((gt times t23) < (-1000000))) = true →
      F_respects_J1 K true t23 I1 μ1) ∧
    ((decide ((gt times t23) < (-1000000))) = false →
      F_respects_J1 K (decide (1000000 < (gt times t23))) t23 I1 μ1)) ∧
  ((decide (t23 < ((times.length : Nat) : Int))) = false →
    (pre_fits n_ times) ∧
    ∀ r3 : Bool, r3 = (sp_fits n_ times) →
    K (r3, (⟨0, 0⟩ : Fault)))

def F_respects (n_ : Network) (times : List Int) (K : (Bool × Fault) → Prop) : Prop :=
  ∀ r2 : Fault, r2 = (sp_validate n_) →
  ((!((r2.code == 0) && (r2.index == 0))) = true →
    K (false, r2)) ∧
  ((!((r2.code == 0) && (r2.index == 0))) = false →
    ((((times.length : Nat) : Int) != n_.events) = true →
      K (false, (⟨9, (-2)⟩ : Fault))) ∧
    ((((times.length : Nat) : Int) != n_.events) = false →
      ∃ (I1 : Int → Prop) (μ1 : Int → Nat), I1 0 ∧ ∀ (t23 : Int), I1 t23 → F_respects_L1 n_ times K t23 I1 μ1))

def F_lawStrongMatchesSpec (u : Uncertain) (K : Bool → Prop) : Prop :=
  ∀ r2 : List Int × Bool × Fault, r2 = (sp_strong u) →
  ∀ r3 : Fault, r3 = (sp_uvalidate u) →
  ((r3.code != 0) = true →
    (((r2.2.2.code == r3.code) && (r2.2.2.index == r3.index)) = true →
      ((!r2.2.1) = true →
        ((((r2.1.length : Nat) : Int) == 0) = true →
          ∀ r4 : Bool, r4 = sp_awaited →
          K r4) ∧
        ((((r2.1.length : Nat) : Int) == 0) = false →
          K false)) ∧
      ((!r2.2.1) = false →
        K false)) ∧
    (((r2.2.2.code == r3.code) && (r2.2.2.index == r3.index)) = false →
      K false)) ∧
  ((r3.code != 0) = false →
    ((r2.2.2.code != 0) = true →
      K false) ∧
    ((r2.2.2.code != 0) = false →
      (pre_choices u) ∧
      ∀ r5 : Int, r5 = (sp_choices u) →
      ((decide (200 < r5)) = true →
        ∀ r6 : Bool, r6 = sp_awaited →
        K r6) ∧
      ((decide (200 < r5)) = false →
        (pre_strongTimes u) ∧
        ∀ r7 : List Int × Bool, r7 = (sp_strongTimes u) →
        ((r2.2.1 == r7.2) = true →
          (pre_numbers r2.1 r7.1) ∧
          ∀ r8 : Bool, r8 = (sp_numbers r2.1 r7.1) →
          ((r8) = true →
            ∀ r9 : Bool, r9 = sp_awaited →
            K r9) ∧
          ((r8) = false →
            K false)) ∧
        ((r2.2.1 == r7.2) = false →
          K false))))

def F_lawDispatchIsSteady_J3 (contingent : Bool) (k : Int) (I2 : Bool → Int → Prop) (μ2 : Bool → Int → Nat) (contingent3 : Bool) : Prop :=
  I2 contingent3 (IntKind.i64.wrap (k + 1)) ∧
  μ2 contingent3 (IntKind.i64.wrap (k + 1)) < μ2 contingent k

def F_lawDispatchIsSteady_J4 (K : Bool → Prop) (t112 : Bool) (i : Int) (I1 : Int → Prop) (μ1 : Int → Nat) : Prop :=
  ((t112) = true →
    K false) ∧
  ((t112) = false →
    I1 (IntKind.i64.wrap (i + 1)) ∧
  μ1 (IntKind.i64.wrap (i + 1)) < μ1 i)

def F_lawDispatchIsSteady_L2 (u : Uncertain) (K : Bool → Prop) (r2 : List Int × Bool × Fault) (r3 : List Int × Bool × Fault) (contingent : Bool) (k : Int) (I2 : Bool → Int → Prop) (μ2 : Bool → Int → Nat) (i : Int) (I1 : Int → Prop) (μ1 : Int → Nat) : Prop :=
  ((decide (k < ((u.contingent.length : Nat) : Int))) = true →
    ((contingent) = true →
      F_lawDispatchIsSteady_J3 contingent k I2 μ2 true) ∧
    ((contingent) = false →
      (inb u.contingent k) ∧
      F_lawDispatchIsSteady_J3 contingent k I2 μ2 (((gt u.contingent k).dst) == i))) ∧
  ((decide (k < ((u.contingent.length : Nat) : Int))) = false →
    ((!contingent) = true →
      (inb r2.1 i) ∧
      (inb r3.1 i) ∧
      F_lawDispatchIsSteady_J4 K ((gt r2.1 i) != (gt r3.1 i)) i I1 μ1) ∧
    ((!contingent) = false →
      F_lawDispatchIsSteady_J4 K false i I1 μ1))

def F_lawDispatchIsSteady_L1 (u : Uncertain) (K : Bool → Prop) (r2 : List Int × Bool × Fault) (r3 : List Int × Bool × Fault) (i : Int) (I1 : Int → Prop) (μ1 : Int → Nat) : Prop :=
  ((decide (i < ((r2.1.length : Nat) : Int))) = true →
    ∃ (I2 : Bool → Int → Prop) (μ2 : Bool → Int → Nat), I2 false 0 ∧ ∀ (contingent : Bool) (k : Int), I2 contingent k → F_lawDispatchIsSteady_L2 u K r2 r3 contingent k I2 μ2 i I1 μ1) ∧
  ((decide (i < ((r2.1.length : Nat) : Int))) = false →
    ∀ r7 : Bool, r7 = sp_awaited →
    K r7)

def F_lawDispatchIsSteady_J2 (u : Uncertain) (K : Bool → Prop) (r2 : List Int × Bool × Fault) (r3 : List Int × Bool × Fault) (t75 : Bool) : Prop :=
  ((t75) = true →
    K false) ∧
  ((t75) = false →
    ∃ (I1 : Int → Prop) (μ1 : Int → Nat), I1 0 ∧ ∀ (i : Int), I1 i → F_lawDispatchIsSteady_L1 u K r2 r3 i I1 μ1)

def F_lawDispatchIsSteady_J1 (u : Uncertain) (K : Bool → Prop) (r2 : List Int × Bool × Fault) (r3 : List Int × Bool × Fault) (t45 : Bool) : Prop :=
  ((t45) = true →
    ((r2.2.2.code != 0) = true →
      ∀ r4 : Bool, r4 = sp_awaited →
      K r4) ∧
    ((r2.2.2.code != 0) = false →
      ((r3.2.2.code != 0) = true →
        ∀ r5 : Bool, r5 = sp_awaited →
        K r5) ∧
      ((r3.2.2.code != 0) = false →
        ((r2.2.1 == r3.2.1) = true →
          ∀ r6 : Bool, r6 = sp_awaited →
          K r6) ∧
        ((r2.2.1 == r3.2.1) = false →
          K false)))) ∧
  ((t45) = false →
    ((((r2.1.length : Nat) : Int) != u.network.events) = true →
      F_lawDispatchIsSteady_J2 u K r2 r3 true) ∧
    ((((r2.1.length : Nat) : Int) != u.network.events) = false →
      F_lawDispatchIsSteady_J2 u K r2 r3 (((r3.1.length : Nat) : Int) != u.network.events)))

def F_lawDispatchIsSteady (u : Uncertain) (d : List Int) (e_ : List Int) (K : Bool → Prop) : Prop :=
  ∀ r2 : List Int × Bool × Fault, r2 = (sp_dispatch u d) →
  ∀ r3 : List Int × Bool × Fault, r3 = (sp_dispatch u e_) →
  ((r2.2.2.code != 0) = true →
    F_lawDispatchIsSteady_J1 u K r2 r3 true) ∧
  ((r2.2.2.code != 0) = false →
    ((r3.2.2.code != 0) = true →
      F_lawDispatchIsSteady_J1 u K r2 r3 true) ∧
    ((r3.2.2.code != 0) = false →
      ((!r2.2.1) = true →
        F_lawDispatchIsSteady_J1 u K r2 r3 true) ∧
      ((!r2.2.1) = false →
        F_lawDispatchIsSteady_J1 u K r2 r3 (!r3.2.1))))

def F_lawUncertainMatchesSpec_J2 (u : Uncertain) (d : List Int) (K : Bool → Prop) (r3 : List Int × Bool × Fault) : Prop :=
  (pre_choices u) ∧
  ∀ r6 : Int, r6 = (sp_choices u) →
  ((decide (200 < r6)) = true →
    ∀ r7 : Bool, r7 = sp_awaited →
    K r7) ∧
  ((decide (200 < r6)) = false →
    (pre_strongTimes u) ∧
    ∀ r8 : List Int × Bool, r8 = (sp_strongTimes u) →
    ((r3.2.1 != r8.2) = true →
      K false) ∧
    ((r3.2.1 != r8.2) = false →
      ((!r8.2) = true →
        ((((r3.1.length : Nat) : Int) == 0) = true →
          ∀ r9 : Bool, r9 = sp_awaited →
          K r9) ∧
        ((((r3.1.length : Nat) : Int) == 0) = false →
          ((r8.2) = true →
            (pre_outcome u r8.1 d) ∧
            ∀ r10 : List Int, r10 = (sp_outcome u r8.1 d) →
            (pre_numbers r3.1 r10) ∧
            ∀ r11 : Bool, r11 = (sp_numbers r3.1 r10) →
            ((r11) = true →
              ∀ r12 : Bool, r12 = sp_awaited →
              K r12) ∧
            ((r11) = false →
              K false)) ∧
          ((r8.2) = false →
            K false))) ∧
      ((!r8.2) = false →
        ((r8.2) = true →
          (pre_outcome u r8.1 d) ∧
          ∀ r13 : List Int, r13 = (sp_outcome u r8.1 d) →
          (pre_numbers r3.1 r13) ∧
          ∀ r14 : Bool, r14 = (sp_numbers r3.1 r13) →
          ((r14) = true →
            ∀ r15 : Bool, r15 = sp_awaited →
            K r15) ∧
          ((r14) = false →
            K false)) ∧
        ((r8.2) = false →
          K false))))

def F_lawUncertainMatchesSpec_J3 (u : Uncertain) (d : List Int) (K : Bool → Prop) (r3 : List Int × Bool × Fault) (t83 : Bool) : Prop :=
  ((t83) = true →
    K false) ∧
  ((t83) = false →
    F_lawUncertainMatchesSpec_J2 u d K r3)

def F_lawUncertainMatchesSpec_J4 (u : Uncertain) (d : List Int) (K : Bool → Prop) (r3 : List Int × Bool × Fault) (t94 : Bool) : Prop :=
  ((t94) = true →
    K false) ∧
  ((t94) = false →
    F_lawUncertainMatchesSpec_J2 u d K r3)

def F_lawUncertainMatchesSpec_J1 (u : Uncertain) (d : List Int) (K : Bool → Prop) (r2 : Network × Fault) (r3 : List Int × Bool × Fault) (r4 : Fault) (t38 : Bool) : Prop :=
  ((t38) = true →
    K false) ∧
  ((t38) = false →
    ((r4.code != 0) = true →
      (((r2.2.code == r4.code) && (r2.2.index == r4.index)) = true →
        ((!r3.2.1) = true →
          ∀ x : Int, x = (IntKind.i64.wrap (((r3.1.length : Nat) : Int) + ((r2.1.links.length : Nat) : Int))) →
          (((IntKind.i64.wrap (x + r2.1.events)) == 0) = true →
            ∀ r5 : Bool, r5 = sp_awaited →
            K r5) ∧
          (((IntKind.i64.wrap (x + r2.1.events)) == 0) = false →
            K false)) ∧
        ((!r3.2.1) = false →
          K false)) ∧
      (((r2.2.code == r4.code) && (r2.2.index == r4.index)) = false →
        K false)) ∧
    ((r4.code != 0) = false →
      ∀ x2 : Int, x2 = (IntKind.i64.wrap (((u.network.links.length : Nat) : Int) + ((d.length : Nat) : Int))) →
      ((decide (30 < x2)) = true →
        ∀ r16 : Fault, r16 = (sp_at_ 10 (-1)) →
        ((!((r2.2.code == r16.code) && (r2.2.index == r16.index))) = true →
          F_lawUncertainMatchesSpec_J3 u d K r3 true) ∧
        ((!((r2.2.code == r16.code) && (r2.2.index == r16.index))) = false →
          ∀ x3 : Int, x3 = (IntKind.i64.wrap (((r2.1.links.length : Nat) : Int) + r2.1.events)) →
          F_lawUncertainMatchesSpec_J3 u d K r3 (decide (0 < x3)))) ∧
      ((decide (30 < x2)) = false →
        ((r2.2.code != 0) = true →
          F_lawUncertainMatchesSpec_J4 u d K r3 true) ∧
        ((r2.2.code != 0) = false →
          (pre_fixed u d) ∧
          ∀ r17 : Network, r17 = (sp_with_ u d) →
          (pre_net r2.1 r17) ∧
          ∀ r18 : Bool, r18 = (sp_net r2.1 r17) →
          F_lawUncertainMatchesSpec_J4 u d K r3 (!r18)))))

def F_lawUncertainMatchesSpec (u : Uncertain) (d : List Int) (K : Bool → Prop) : Prop :=
  ∀ r2 : Network × Fault, r2 = (sp_fix u d) →
  ∀ r3 : List Int × Bool × Fault, r3 = (sp_dispatch u d) →
  ∀ r4 : Fault, r4 = (sp_check u d) →
  ∀ r19 : Fault, r19 = (sp_uvalidate u) →
  ∀ r20 : Fault, r20 = (sp_uvalidate u) →
  ((!((r19.code == r20.code) && (r19.index == r20.index))) = true →
    F_lawUncertainMatchesSpec_J1 u d K r2 r3 r4 true) ∧
  ((!((r19.code == r20.code) && (r19.index == r20.index))) = false →
    F_lawUncertainMatchesSpec_J1 u d K r2 r3 r4 (!((r3.2.2.code == r4.code) && (r3.2.2.index == r4.index))))

def F_lawDispatchRespects_J1 (K : Bool → Prop) (r2 : List Int × Bool × Fault) (r3 : Network × Fault) (t36 : Bool) : Prop :=
  ((t36) = true →
    ∀ r4 : Bool, r4 = sp_awaited →
    K r4) ∧
  ((t36) = false →
    ∀ r5 : Bool × Fault, r5 = (sp_respects r3.1 r2.1) →
    ((r5.2.code == 0) = true →
      ((r5.1) = true →
        ∀ r6 : Bool, r6 = sp_awaited →
        K r6) ∧
      ((r5.1) = false →
        K false)) ∧
    ((r5.2.code == 0) = false →
      K false))

def F_lawDispatchRespects (u : Uncertain) (d : List Int) (K : Bool → Prop) : Prop :=
  ∀ r2 : List Int × Bool × Fault, r2 = (sp_dispatch u d) →
  ∀ r3 : Network × Fault, r3 = (sp_fix u d) →
  ((r2.2.2.code != 0) = true →
    F_lawDispatchRespects_J1 K r2 r3 true) ∧
  ((r2.2.2.code != 0) = false →
    ((r3.2.code != 0) = true →
      F_lawDispatchRespects_J1 K r2 r3 true) ∧
    ((r3.2.code != 0) = false →
      F_lawDispatchRespects_J1 K r2 r3 (!r2.2.1)))

def F_sets_L1 (a : List (List Int)) (b : List (List Int)) (K : Bool → Prop) (i : Int) (I1 : Int → Prop) (μ1 : Int → Nat) : Prop :=
  ((decide (i < ((a.length : Nat) : Int))) = true →
    (inb a i) ∧
    (inb b i) ∧
    (pre_numbers (gt a i) (gt b i)) ∧
    ∀ r2 : Bool, r2 = (sp_numbers (gt a i) (gt b i)) →
    ((!r2) = true →
      K false) ∧
    ((!r2) = false →
      I1 (IntKind.i64.wrap (i + 1)) ∧
  μ1 (IntKind.i64.wrap (i + 1)) < μ1 i)) ∧
  ((decide (i < ((a.length : Nat) : Int))) = false →
    K true)

def F_sets (a : List (List Int)) (b : List (List Int)) (K : Bool → Prop) : Prop :=
  ((((a.length : Nat) : Int) != ((b.length : Nat) : Int)) = true →
    K false) ∧
  ((((a.length : Nat) : Int) != ((b.length : Nat) : Int)) = false →
    ∃ (I1 : Int → Prop) (μ1 : Int → Nat), I1 0 ∧ ∀ (i : Int), I1 i → F_sets_L1 a b K i I1 μ1)

def F_pair (low : Int) (high : Int) (K : Network → Prop) : Prop :=
  K (⟨2, ([(⟨0, 1, low, high⟩ : Link)] : List Link)⟩ : Network)

def F_minimal (n_ : Network) (K : (List (List Int) × Bool × Fault) → Prop) : Prop :=
  ∀ r2 : Fault, r2 = (sp_validate n_) →
  ((!((r2.code == 0) && (r2.index == 0))) = true →
    K (([] : List (List Int)), false, r2)) ∧
  ((!((r2.code == 0) && (r2.index == 0))) = false →
    (pre_tighten n_) ∧
    ∀ r3 : List (List Int) × Bool, r3 = (sp_tighten n_) →
    K (r3.1, r3.2, (⟨0, 0⟩ : Fault)))

def F_bounded (K : Bool → Prop) : Prop :=
  ∀ r2 : Network, r2 = (sp_pair 2 5) →
  ∀ r3 : List (List Int) × Bool × Fault, r3 = (sp_minimal r2) →
  ((r3.2.2.code == 0) = true →
    ((r3.2.1) = true →
      (pre_sets r3.1 ([([0, 5] : List Int), ([(-2), 0] : List Int)] : List (List Int))) ∧
      ∀ r4 : Bool, r4 = (sp_sets r3.1 ([([0, 5] : List Int), ([(-2), 0] : List Int)] : List (List Int))) →
      K r4) ∧
    ((r3.2.1) = false →
      K false)) ∧
  ((r3.2.2.code == 0) = false →
    K false)

def F_earliest_L1 (K : (List Int × Bool × Fault) → Prop) (r2 : List (List Int) × Bool × Fault) (t21 : Int) (out : List Int) (I1 : Int → (List Int) → Prop) (μ1 : Int → (List Int) → Nat) : Prop :=
  ((decide (t21 < ((r2.1.length : Nat) : Int))) = true →
    (inb r2.1 t21) ∧
    (inb (gt r2.1 t21) (0 : Int)) ∧
    (room ((out ++ ([IntKind.i64.wrap (0 - (gt (gt r2.1 t21) (0 : Int)))] : List Int))).length 8) ∧
    I1 (IntKind.i64.wrap (t21 + 1)) (out ++ ([IntKind.i64.wrap (0 - (gt (gt r2.1 t21) (0 : Int)))] : List Int)) ∧
  μ1 (IntKind.i64.wrap (t21 + 1)) (out ++ ([IntKind.i64.wrap (0 - (gt (gt r2.1 t21) (0 : Int)))] : List Int)) < μ1 t21 out) ∧
  ((decide (t21 < ((r2.1.length : Nat) : Int))) = false →
    K (out, true, r2.2.2))

def F_earliest (n_ : Network) (K : (List Int × Bool × Fault) → Prop) : Prop :=
  ∀ r2 : List (List Int) × Bool × Fault, r2 = (sp_minimal n_) →
  ((!r2.2.1) = true →
    K (([] : List Int), false, r2.2.2)) ∧
  ((!r2.2.1) = false →
    ∃ (I1 : Int → (List Int) → Prop) (μ1 : Int → (List Int) → Nat), I1 0 ([] : List Int) ∧ ∀ (t21 : Int) (out : List Int), I1 t21 out → F_earliest_L1 K r2 t21 out I1 μ1)

def F_lawTriangle_J2 (i : Int) (j : Int) (k : Int) (K : Bool → Prop) (r2 : List (List Int) × Bool × Fault) (t74 : Bool) : Prop :=
  ((t74) = true →
    K false) ∧
  ((t74) = false →
    (inb r2.1 i) ∧
    (inb (gt r2.1 i) i) ∧
    (((gt (gt r2.1 i) i) == 0) = true →
      (inb (gt r2.1 i) j) ∧
      (((gt (gt r2.1 i) j) == 1000000000) = true →
        ∀ r4 : Bool, r4 = sp_bounded →
        K r4) ∧
      (((gt (gt r2.1 i) j) == 1000000000) = false →
        (inb r2.1 j) ∧
        (inb (gt r2.1 j) k) ∧
        (((gt (gt r2.1 j) k) == 1000000000) = true →
          ∀ r5 : Bool, r5 = sp_bounded →
          K r5) ∧
        (((gt (gt r2.1 j) k) == 1000000000) = false →
          (inb (gt r2.1 i) k) ∧
          ∀ x : Bool, x = (decide ((gt (gt r2.1 i) k) ≤ (IntKind.i64.wrap ((gt (gt r2.1 i) j) + (gt (gt r2.1 j) k))))) →
          ((x) = true →
            ∀ r6 : Bool, r6 = sp_bounded →
            K r6) ∧
          ((x) = false →
            K false)))) ∧
    (((gt (gt r2.1 i) i) == 0) = false →
      K false))

def F_lawTriangle_J1 (n_ : Network) (i : Int) (j : Int) (k : Int) (K : Bool → Prop) (r2 : List (List Int) × Bool × Fault) (t48 : Bool) : Prop :=
  ((t48) = true →
    ∀ r3 : Bool, r3 = sp_bounded →
    K r3) ∧
  ((t48) = false →
    ((((r2.1.length : Nat) : Int) != n_.events) = true →
      F_lawTriangle_J2 i j k K r2 true) ∧
    ((((r2.1.length : Nat) : Int) != n_.events) = false →
      (inb r2.1 i) ∧
      (((((gt r2.1 i).length : Nat) : Int) != n_.events) = true →
        F_lawTriangle_J2 i j k K r2 true) ∧
      (((((gt r2.1 i).length : Nat) : Int) != n_.events) = false →
        (inb r2.1 j) ∧
        F_lawTriangle_J2 i j k K r2 ((((gt r2.1 j).length : Nat) : Int) != n_.events))))

def F_lawTriangle (n_ : Network) (i : Int) (j : Int) (k : Int) (K : Bool → Prop) : Prop :=
  ∀ r2 : List (List Int) × Bool × Fault, r2 = (sp_minimal n_) →
  ((r2.2.2.code != 0) = true →
    F_lawTriangle_J1 n_ i j k K r2 true) ∧
  ((r2.2.2.code != 0) = false →
    ((!r2.2.1) = true →
      F_lawTriangle_J1 n_ i j k K r2 true) ∧
    ((!r2.2.1) = false →
      ∀ r7 : Bool, r7 = (sp_in_ i 0 (IntKind.i64.wrap (n_.events - 1))) →
      ((!r7) = true →
        F_lawTriangle_J1 n_ i j k K r2 true) ∧
      ((!r7) = false →
        ∀ r8 : Bool, r8 = (sp_in_ j 0 (IntKind.i64.wrap (n_.events - 1))) →
        ((!r8) = true →
          F_lawTriangle_J1 n_ i j k K r2 true) ∧
        ((!r8) = false →
          ∀ r9 : Bool, r9 = (sp_in_ k 0 (IntKind.i64.wrap (n_.events - 1))) →
          F_lawTriangle_J1 n_ i j k K r2 (!r9)))))

def F_lawBoundsHold_J1 (n_ : Network) (times : List Int) (i : Int) (j : Int) (K : Bool → Prop) (t42 : Bool) : Prop :=
  ((t42) = true →
    ∀ r3 : Bool, r3 = sp_bounded →
    K r3) ∧
  ((t42) = false →
    ∀ r4 : List (List Int) × Bool × Fault, r4 = (sp_minimal n_) →
    ((r4.2.2.code == 0) = true →
      ((r4.2.1) = true →
        ((((r4.1.length : Nat) : Int) == n_.events) = true →
          (inb r4.1 i) ∧
          (((((gt r4.1 i).length : Nat) : Int) == n_.events) = true →
            (inb times j) ∧
            (inb times i) ∧
            (inb (gt r4.1 i) j) ∧
            ∀ x : Bool, x = (decide ((IntKind.i64.wrap ((gt times j) - (gt times i))) ≤ (gt (gt r4.1 i) j))) →
            ((x) = true →
              ∀ r5 : Bool, r5 = sp_bounded →
              K r5) ∧
            ((x) = false →
              K false)) ∧
          (((((gt r4.1 i).length : Nat) : Int) == n_.events) = false →
            K false)) ∧
        ((((r4.1.length : Nat) : Int) == n_.events) = false →
          K false)) ∧
      ((r4.2.1) = false →
        K false)) ∧
    ((r4.2.2.code == 0) = false →
      K false))

def F_lawBoundsHold (n_ : Network) (times : List Int) (i : Int) (j : Int) (K : Bool → Prop) : Prop :=
  ∀ r2 : Bool × Fault, r2 = (sp_respects n_ times) →
  ((r2.2.code != 0) = true →
    F_lawBoundsHold_J1 n_ times i j K true) ∧
  ((r2.2.code != 0) = false →
    ((!r2.1) = true →
      F_lawBoundsHold_J1 n_ times i j K true) ∧
    ((!r2.1) = false →
      ∀ r6 : Bool, r6 = (sp_in_ i 0 (IntKind.i64.wrap (n_.events - 1))) →
      ((!r6) = true →
        F_lawBoundsHold_J1 n_ times i j K true) ∧
      ((!r6) = false →
        ∀ r7 : Bool, r7 = (sp_in_ j 0 (IntKind.i64.wrap (n_.events - 1))) →
        F_lawBoundsHold_J1 n_ times i j K (!r7))))

def F_lawEarliestIsLeast_L1 (times : List Int) (K : Bool → Prop) (r4 : List Int × Bool × Fault) (i : Int) (I1 : Int → Prop) (μ1 : Int → Nat) : Prop :=
  ((decide (i < ((times.length : Nat) : Int))) = true →
    (inb r4.1 i) ∧
    (inb times i) ∧
    ((decide ((gt times i) < (gt r4.1 i))) = true →
      K false) ∧
    ((decide ((gt times i) < (gt r4.1 i))) = false →
      I1 (IntKind.i64.wrap (i + 1)) ∧
  μ1 (IntKind.i64.wrap (i + 1)) < μ1 i)) ∧
  ((decide (i < ((times.length : Nat) : Int))) = false →
    ∀ r5 : Bool, r5 = sp_bounded →
    K r5)

def F_lawEarliestIsLeast_J2 (times : List Int) (K : Bool → Prop) (r4 : List Int × Bool × Fault) (t44 : Bool) : Prop :=
  ((t44) = true →
    K false) ∧
  ((t44) = false →
    ∃ (I1 : Int → Prop) (μ1 : Int → Nat), I1 0 ∧ ∀ (i : Int), I1 i → F_lawEarliestIsLeast_L1 times K r4 i I1 μ1)

def F_lawEarliestIsLeast_J1 (n_ : Network) (times : List Int) (K : Bool → Prop) (t23 : Bool) : Prop :=
  ((t23) = true →
    ∀ r3 : Bool, r3 = sp_bounded →
    K r3) ∧
  ((t23) = false →
    ∀ r4 : List Int × Bool × Fault, r4 = (sp_earliest n_) →
    ((r4.2.2.code != 0) = true →
      F_lawEarliestIsLeast_J2 times K r4 true) ∧
    ((r4.2.2.code != 0) = false →
      ((!r4.2.1) = true →
        F_lawEarliestIsLeast_J2 times K r4 true) ∧
      ((!r4.2.1) = false →
        F_lawEarliestIsLeast_J2 times K r4 (((r4.1.length : Nat) : Int) != ((times.length : Nat) : Int)))))

def F_lawEarliestIsLeast (n_ : Network) (times : List Int) (K : Bool → Prop) : Prop :=
  ∀ r2 : Bool × Fault, r2 = (sp_respects n_ times) →
  ((r2.2.code != 0) = true →
    F_lawEarliestIsLeast_J1 n_ times K true) ∧
  ((r2.2.code != 0) = false →
    F_lawEarliestIsLeast_J1 n_ times K (!r2.1))

def F_isSchedule_L2 (n_ : Network) (times : List Int) (K : Bool → Prop) (k : Int) (I2 : Int → Prop) (μ2 : Int → Nat) : Prop :=
  ((decide (k < ((n_.links.length : Nat) : Int))) = true →
    (inb n_.links k) ∧
    (inb times ((gt n_.links k).dst)) ∧
    (inb times ((gt n_.links k).src)) ∧
    ∀ x : Int, x = (IntKind.i64.wrap ((gt times ((gt n_.links k).dst)) - (gt times ((gt n_.links k).src)))) →
    ∀ r2 : Bool, r2 = (sp_in_ x ((gt n_.links k).low) ((gt n_.links k).high)) →
    ((!r2) = true →
      K false) ∧
    ((!r2) = false →
      I2 (IntKind.i64.wrap (k + 1)) ∧
  μ2 (IntKind.i64.wrap (k + 1)) < μ2 k)) ∧
  ((decide (k < ((n_.links.length : Nat) : Int))) = false →
    (inb times (0 : Int)) ∧
    K ((gt times (0 : Int)) == 0))

def F_isSchedule_L1 (n_ : Network) (times : List Int) (K : Bool → Prop) (i : Int) (I1 : Int → Prop) (μ1 : Int → Nat) : Prop :=
  ((decide (i < ((times.length : Nat) : Int))) = true →
    (inb times i) ∧
    ((decide ((gt times i) < 0)) = true →
      K false) ∧
    ((decide ((gt times i) < 0)) = false →
      I1 (IntKind.i64.wrap (i + 1)) ∧
  μ1 (IntKind.i64.wrap (i + 1)) < μ1 i)) ∧
  ((decide (i < ((times.length : Nat) : Int))) = false →
    ∃ (I2 : Int → Prop) (μ2 : Int → Nat), I2 0 ∧ ∀ (k : Int), I2 k → F_isSchedule_L2 n_ times K k I2 μ2)

def F_isSchedule (n_ : Network) (times : List Int) (K : Bool → Prop) : Prop :=
  ∃ (I1 : Int → Prop) (μ1 : Int → Nat), I1 0 ∧ ∀ (i : Int), I1 i → F_isSchedule_L1 n_ times K i I1 μ1

def F_negative_J2 (K : (Bool × Fault) → Prop) (t43 : Bool) (t31 : Int) (I1 : Int → Prop) (μ1 : Int → Nat) : Prop :=
  ((t43) = true →
    K (false, (⟨3, IntKind.i64.wrap ((-3) - t31)⟩ : Fault))) ∧
  ((t43) = false →
    I1 (IntKind.i64.wrap (t31 + 1)) ∧
  μ1 (IntKind.i64.wrap (t31 + 1)) < μ1 t31)

def F_negative_L2 (cycle : List Int) (K : (Bool × Fault) → Prop) (r3 : List (List Int)) (sum : Int) (t52 : Int) (I2 : Int → Int → Prop) (μ2 : Int → Int → Nat) : Prop :=
  ((decide (t52 < ((cycle.length : Nat) : Int))) = true →
    (inb cycle t52) ∧
    (inb r3 (gt cycle t52)) ∧
    (((cycle.length : Nat) : Int) ≠ 0) ∧
    ∀ x : Int, x = (Int.tmod (IntKind.i64.wrap (t52 + 1)) ((cycle.length : Nat) : Int)) →
    (inb cycle x) ∧
    (inb (gt r3 (gt cycle t52)) (gt cycle x)) ∧
    (((gt (gt r3 (gt cycle t52)) (gt cycle x)) == 1000000000) = true →
      K (false, (⟨0, 0⟩ : Fault))) ∧
    (((gt (gt r3 (gt cycle t52)) (gt cycle x)) == 1000000000) = false →
      ∀ x2 : Int, x2 = (IntKind.i64.wrap (sum + (gt (gt r3 (gt cycle t52)) (gt cycle x)))) →
      I2 x2 (IntKind.i64.wrap (t52 + 1)) ∧
  μ2 x2 (IntKind.i64.wrap (t52 + 1)) < μ2 sum t52)) ∧
  ((decide (t52 < ((cycle.length : Nat) : Int))) = false →
    K (decide (sum < 0), (⟨0, 0⟩ : Fault)))

def F_negative_L1 (n_ : Network) (cycle : List Int) (K : (Bool × Fault) → Prop) (t31 : Int) (I1 : Int → Prop) (μ1 : Int → Nat) : Prop :=
  ((decide (t31 < ((cycle.length : Nat) : Int))) = true →
    (inb cycle t31) ∧
    ((decide ((gt cycle t31) < 0)) = true →
      F_negative_J2 K true t31 I1 μ1) ∧
    ((decide ((gt cycle t31) < 0)) = false →
      F_negative_J2 K (decide (n_.events ≤ (gt cycle t31))) t31 I1 μ1)) ∧
  ((decide (t31 < ((cycle.length : Nat) : Int))) = false →
    (pre_bounds n_) ∧
    ∀ r3 : List (List Int), r3 = (sp_bounds n_) →
    ∃ (I2 : Int → Int → Prop) (μ2 : Int → Int → Nat), I2 0 0 ∧ ∀ (sum : Int) (t52 : Int), I2 sum t52 → F_negative_L2 cycle K r3 sum t52 I2 μ2)

def F_negative_J1 (n_ : Network) (cycle : List Int) (K : (Bool × Fault) → Prop) (t27 : Bool) : Prop :=
  ((t27) = true →
    K (false, (⟨9, (-2)⟩ : Fault))) ∧
  ((t27) = false →
    ∃ (I1 : Int → Prop) (μ1 : Int → Nat), I1 0 ∧ ∀ (t31 : Int), I1 t31 → F_negative_L1 n_ cycle K t31 I1 μ1)

def F_negative (n_ : Network) (cycle : List Int) (K : (Bool × Fault) → Prop) : Prop :=
  ∀ r2 : Fault, r2 = (sp_validate n_) →
  ((!((r2.code == 0) && (r2.index == 0))) = true →
    K (false, r2)) ∧
  ((!((r2.code == 0) && (r2.index == 0))) = false →
    ((decide (((cycle.length : Nat) : Int) < 2)) = true →
      F_negative_J1 n_ cycle K true) ∧
    ((decide (((cycle.length : Nat) : Int) < 2)) = false →
      F_negative_J1 n_ cycle K (decide (10 < ((cycle.length : Nat) : Int)))))

def F_lawMatchesSpec_J6 (k : Int) (I1 : Int → Int → Int → Prop) (μ1 : Int → Int → Int → Nat) (x4 : Int) (x5 : Int) (x8 : Int) (x9 : Int) : Prop :=
  I1 (IntKind.i64.wrap (k + 1)) x8 x9 ∧
  μ1 (IntKind.i64.wrap (k + 1)) x8 x9 < μ1 k x4 x5

def F_lawMatchesSpec_J10 (x12 : Int) (x13 : Int) (k3 : Int) (I2 : Int → Int → Int → Prop) (μ2 : Int → Int → Int → Nat) (x16 : Int) (x17 : Int) : Prop :=
  I2 (IntKind.i64.wrap (k3 + 1)) x16 x17 ∧
  μ2 (IntKind.i64.wrap (k3 + 1)) x16 x17 < μ2 k3 x12 x13

def F_lawMatchesSpec_J11 (n_ : Network) (cycle : List Int) (next : Int) (sum : Int) (k5 : Int) (I3 : Int → Int → Prop) (μ3 : Int → Int → Nat) : Prop :=
  (inb cycle k5) ∧
  (pre_direct n_ (gt cycle k5) next) ∧
  ∀ r15 : Int, r15 = (sp_direct n_ (gt cycle k5) next) →
  I3 (IntKind.i64.wrap (sum + r15)) (IntKind.i64.wrap (k5 + 1)) ∧
  μ3 (IntKind.i64.wrap (sum + r15)) (IntKind.i64.wrap (k5 + 1)) < μ3 sum k5

def F_lawMatchesSpec_L3 (n_ : Network) (cycle : List Int) (K : Bool → Prop) (r6 : Bool × Fault) (sum : Int) (k5 : Int) (I3 : Int → Int → Prop) (μ3 : Int → Int → Nat) : Prop :=
  ((decide (k5 < ((cycle.length : Nat) : Int))) = true →
    (inb cycle (0 : Int)) ∧
    ∀ x18 : Bool, x18 = (decide ((IntKind.i64.wrap (k5 + 1)) < ((cycle.length : Nat) : Int))) →
    ((x18) = true →
      (inb cycle (IntKind.i64.wrap (k5 + 1))) ∧
      F_lawMatchesSpec_J11 n_ cycle (gt cycle (IntKind.i64.wrap (k5 + 1))) sum k5 I3 μ3) ∧
    ((x18) = false →
      F_lawMatchesSpec_J11 n_ cycle (gt cycle (0 : Int)) sum k5 I3 μ3)) ∧
  ((decide (k5 < ((cycle.length : Nat) : Int))) = false →
    ((r6.2.code == 0) = true →
      ((r6.1 == (decide (sum < 0))) = true →
        ∀ r16 : Bool, r16 = sp_bounded →
        K r16) ∧
      ((r6.1 == (decide (sum < 0))) = false →
        K false)) ∧
    ((r6.2.code == 0) = false →
      K false))

def F_lawMatchesSpec_J9 (n_ : Network) (cycle : List Int) (K : Bool → Prop) (r6 : Bool × Fault) (t208 : Bool) (x12 : Int) (x13 : Int) (k3 : Int) (I2 : Int → Int → Int → Prop) (μ2 : Int → Int → Int → Nat) : Prop :=
  ((t208) = true →
    (inb cycle k3) ∧
    ∀ r12 : Bool, r12 = (sp_in_ (gt cycle k3) 0 (IntKind.i64.wrap (n_.events - 1))) →
    ((!r12) = true →
      ∀ r13 : Fault, r13 = (sp_at_ 3 (IntKind.i64.wrap ((-3) - k3))) →
      F_lawMatchesSpec_J10 x12 x13 k3 I2 μ2 r13.code r13.index) ∧
    ((!r12) = false →
      F_lawMatchesSpec_J10 x12 x13 k3 I2 μ2 x12 x13)) ∧
  ((t208) = false →
    ((x12 != 0) = true →
      (((r6.2.code == x12) && (r6.2.index == x13)) = true →
        ((!r6.1) = true →
          ∀ r14 : Bool, r14 = sp_bounded →
          K r14) ∧
        ((!r6.1) = false →
          K false)) ∧
      (((r6.2.code == x12) && (r6.2.index == x13)) = false →
        K false)) ∧
    ((x12 != 0) = false →
      ∃ (I3 : Int → Int → Prop) (μ3 : Int → Int → Nat), I3 0 0 ∧ ∀ (sum : Int) (k5 : Int), I3 sum k5 → F_lawMatchesSpec_L3 n_ cycle K r6 sum k5 I3 μ3))

def F_lawMatchesSpec_L2 (n_ : Network) (cycle : List Int) (K : Bool → Prop) (r6 : Bool × Fault) (x12 : Int) (x13 : Int) (k3 : Int) (I2 : Int → Int → Int → Prop) (μ2 : Int → Int → Int → Nat) : Prop :=
  ((decide (k3 < ((cycle.length : Nat) : Int))) = true →
    F_lawMatchesSpec_J9 n_ cycle K r6 (x12 == 0) x12 x13 k3 I2 μ2) ∧
  ((decide (k3 < ((cycle.length : Nat) : Int))) = false →
    F_lawMatchesSpec_J9 n_ cycle K r6 false x12 x13 k3 I2 μ2)

def F_lawMatchesSpec_J8 (n_ : Network) (cycle : List Int) (K : Bool → Prop) (r6 : Bool × Fault) (x10 : Int) (x11 : Int) : Prop :=
  ∃ (I2 : Int → Int → Int → Prop) (μ2 : Int → Int → Int → Nat), I2 0 x10 x11 ∧ ∀ (k3 : Int) (x12 : Int) (x13 : Int), I2 k3 x12 x13 → F_lawMatchesSpec_L2 n_ cycle K r6 x12 x13 k3 I2 μ2

def F_lawMatchesSpec_J7 (n_ : Network) (cycle : List Int) (K : Bool → Prop) (r6 : Bool × Fault) (t193 : Bool) : Prop :=
  ((t193) = true →
    K false) ∧
  ((t193) = false →
    ∀ r11 : Bool, r11 = (sp_in_ ((cycle.length : Nat) : Int) 2 10) →
    ((!r11) = true →
      ∀ r17 : Fault, r17 = (sp_at_ 9 (-2)) →
      F_lawMatchesSpec_J8 n_ cycle K r6 r17.code r17.index) ∧
    ((!r11) = false →
      F_lawMatchesSpec_J8 n_ cycle K r6 0 0))

def F_lawMatchesSpec_J5 (n_ : Network) (times : List Int) (cycle : List Int) (K : Bool → Prop) (r5 : Bool × Fault) (r6 : Bool × Fault) (k : Int) (I1 : Int → Int → Int → Prop) (μ1 : Int → Int → Int → Nat) (t167 : Bool) (x4 : Int) (x5 : Int) : Prop :=
  ((t167) = true →
    (inb times k) ∧
    ∀ r9 : Bool, r9 = (sp_in_ (gt times k) (-1000000) 1000000) →
    ((!r9) = true →
      ∀ r10 : Fault, r10 = (sp_at_ 3 (IntKind.i64.wrap ((-3) - k))) →
      F_lawMatchesSpec_J6 k I1 μ1 x4 x5 r10.code r10.index) ∧
    ((!r9) = false →
      F_lawMatchesSpec_J6 k I1 μ1 x4 x5 x4 x5)) ∧
  ((t167) = false →
    ((!((r5.2.code == x4) && (r5.2.index == x5))) = true →
      F_lawMatchesSpec_J7 n_ cycle K r6 true) ∧
    ((!((r5.2.code == x4) && (r5.2.index == x5))) = false →
      ((x4 == 0) = true →
        (pre_isSchedule n_ times) ∧
        ∀ r18 : Bool, r18 = (sp_isSchedule n_ times) →
        F_lawMatchesSpec_J7 n_ cycle K r6 (r5.1 != r18)) ∧
      ((x4 == 0) = false →
        F_lawMatchesSpec_J7 n_ cycle K r6 (r5.1 != false))))

def F_lawMatchesSpec_L1 (n_ : Network) (times : List Int) (cycle : List Int) (K : Bool → Prop) (r5 : Bool × Fault) (r6 : Bool × Fault) (k : Int) (I1 : Int → Int → Int → Prop) (μ1 : Int → Int → Int → Nat) (x4 : Int) (x5 : Int) : Prop :=
  ((decide (k < ((times.length : Nat) : Int))) = true →
    F_lawMatchesSpec_J5 n_ times cycle K r5 r6 k I1 μ1 (x4 == 0) x4 x5) ∧
  ((decide (k < ((times.length : Nat) : Int))) = false →
    F_lawMatchesSpec_J5 n_ times cycle K r5 r6 k I1 μ1 false x4 x5)

def F_lawMatchesSpec_J4 (n_ : Network) (times : List Int) (cycle : List Int) (K : Bool → Prop) (r5 : Bool × Fault) (r6 : Bool × Fault) (x2 : Int) (x3 : Int) : Prop :=
  ∃ (I1 : Int → Int → Int → Prop) (μ1 : Int → Int → Int → Nat), I1 0 x2 x3 ∧ ∀ (k : Int) (x4 : Int) (x5 : Int), I1 k x4 x5 → F_lawMatchesSpec_L1 n_ times cycle K r5 r6 k I1 μ1 x4 x5

def F_lawMatchesSpec_J3 (n_ : Network) (times : List Int) (cycle : List Int) (K : Bool → Prop) (r5 : Bool × Fault) (r6 : Bool × Fault) : Prop :=
  ((((times.length : Nat) : Int) != n_.events) = true →
    ∀ r19 : Fault, r19 = (sp_at_ 9 (-2)) →
    F_lawMatchesSpec_J4 n_ times cycle K r5 r6 r19.code r19.index) ∧
  ((((times.length : Nat) : Int) != n_.events) = false →
    F_lawMatchesSpec_J4 n_ times cycle K r5 r6 0 0)

def F_lawMatchesSpec_J12 (K : Bool → Prop) (t148 : Bool) (k7 : Int) (I4 : Int → Prop) (μ4 : Int → Nat) : Prop :=
  ((t148) = true →
    K false) ∧
  ((t148) = false →
    I4 (IntKind.i64.wrap (k7 + 1)) ∧
  μ4 (IntKind.i64.wrap (k7 + 1)) < μ4 k7)

def F_lawMatchesSpec_L4 (n_ : Network) (times : List Int) (cycle : List Int) (K : Bool → Prop) (r4 : List Int × Bool × Fault) (r5 : Bool × Fault) (r6 : Bool × Fault) (r8 : List (List Int) × Bool) (k7 : Int) (I4 : Int → Prop) (μ4 : Int → Nat) : Prop :=
  ((decide (k7 < n_.events)) = true →
    ((((r4.1.length : Nat) : Int) != n_.events) = true →
      F_lawMatchesSpec_J12 K true k7 I4 μ4) ∧
    ((((r4.1.length : Nat) : Int) != n_.events) = false →
      (inb r4.1 k7) ∧
      (inb r8.1 k7) ∧
      (inb (gt r8.1 k7) (0 : Int)) ∧
      ∀ x19 : Bool, x19 = ((gt r4.1 k7) != (IntKind.i64.wrap (0 - (gt (gt r8.1 k7) (0 : Int))))) →
      F_lawMatchesSpec_J12 K x19 k7 I4 μ4)) ∧
  ((decide (k7 < n_.events)) = false →
    F_lawMatchesSpec_J3 n_ times cycle K r5 r6)

def F_lawMatchesSpec_J2 (n_ : Network) (times : List Int) (cycle : List Int) (K : Bool → Prop) (r4 : List Int × Bool × Fault) (r5 : Bool × Fault) (r6 : Bool × Fault) (r8 : List (List Int) × Bool) (t122 : Bool) : Prop :=
  ((t122) = true →
    K false) ∧
  ((t122) = false →
    ((r8.2) = true →
      ∃ (I4 : Int → Prop) (μ4 : Int → Nat), I4 0 ∧ ∀ (k7 : Int), I4 k7 → F_lawMatchesSpec_L4 n_ times cycle K r4 r5 r6 r8 k7 I4 μ4) ∧
    ((r8.2) = false →
      ((decide (0 < ((r4.1.length : Nat) : Int))) = true →
        K false) ∧
      ((decide (0 < ((r4.1.length : Nat) : Int))) = false →
        F_lawMatchesSpec_J3 n_ times cycle K r5 r6)))

def F_lawMatchesSpec_J1 (n_ : Network) (times : List Int) (cycle : List Int) (K : Bool → Prop) (r2 : Fault) (r3 : List (List Int) × Bool × Fault) (r4 : List Int × Bool × Fault) (r5 : Bool × Fault) (r6 : Bool × Fault) (t65 : Bool) : Prop :=
  ((t65) = true →
    K false) ∧
  ((t65) = false →
    ((r2.code != 0) = true →
      ((!r3.2.1) = true →
        ((!r4.2.1) = true →
          ((!r5.1) = true →
            ((!r6.1) = true →
              (((r5.2.code == r2.code) && (r5.2.index == r2.index)) = true →
                (((r6.2.code == r2.code) && (r6.2.index == r2.index)) = true →
                  ∀ x : Int, x = (IntKind.i64.wrap (((r3.1.length : Nat) : Int) + ((r4.1.length : Nat) : Int))) →
                  ((x == 0) = true →
                    ∀ r7 : Bool, r7 = sp_bounded →
                    K r7) ∧
                  ((x == 0) = false →
                    K false)) ∧
                (((r6.2.code == r2.code) && (r6.2.index == r2.index)) = false →
                  K false)) ∧
              (((r5.2.code == r2.code) && (r5.2.index == r2.index)) = false →
                K false)) ∧
            ((!r6.1) = false →
              K false)) ∧
          ((!r5.1) = false →
            K false)) ∧
        ((!r4.2.1) = false →
          K false)) ∧
      ((!r3.2.1) = false →
        K false)) ∧
    ((r2.code != 0) = false →
      (pre_tightest n_) ∧
      ∀ r8 : List (List Int) × Bool, r8 = (sp_tighten n_) →
      ((r3.2.1 != r8.2) = true →
        F_lawMatchesSpec_J2 n_ times cycle K r4 r5 r6 r8 true) ∧
      ((r3.2.1 != r8.2) = false →
        ((r4.2.1 != r8.2) = true →
          F_lawMatchesSpec_J2 n_ times cycle K r4 r5 r6 r8 true) ∧
        ((r4.2.1 != r8.2) = false →
          (pre_sets r3.1 r8.1) ∧
          ∀ r20 : Bool, r20 = (sp_sets r3.1 r8.1) →
          F_lawMatchesSpec_J2 n_ times cycle K r4 r5 r6 r8 (!r20)))))

def F_lawMatchesSpec (n_ : Network) (times : List Int) (cycle : List Int) (K : Bool → Prop) : Prop :=
  ∀ r2 : Fault, r2 = (sp_validate n_) →
  ∀ r3 : List (List Int) × Bool × Fault, r3 = (sp_minimal n_) →
  ∀ r4 : List Int × Bool × Fault, r4 = (sp_earliest n_) →
  ∀ r5 : Bool × Fault, r5 = (sp_respects n_ times) →
  ∀ r6 : Bool × Fault, r6 = (sp_negative n_ cycle) →
  ∀ r21 : Fault, r21 = (sp_validate n_) →
  ((!((r21.code == r2.code) && (r21.index == r2.index))) = true →
    F_lawMatchesSpec_J1 n_ times cycle K r2 r3 r4 r5 r6 true) ∧
  ((!((r21.code == r2.code) && (r21.index == r2.index))) = false →
    ((!((r3.2.2.code == r2.code) && (r3.2.2.index == r2.index))) = true →
      F_lawMatchesSpec_J1 n_ times cycle K r2 r3 r4 r5 r6 true) ∧
    ((!((r3.2.2.code == r2.code) && (r3.2.2.index == r2.index))) = false →
      F_lawMatchesSpec_J1 n_ times cycle K r2 r3 r4 r5 r6 (!((r4.2.2.code == r2.code) && (r4.2.2.index == r2.index)))))

def F_lawMoreLinks_J2 (n_ : Network) (i : Int) (j : Int) (K : Bool → Prop) (r2 : List (List Int) × Bool × Fault) (r3 : List (List Int) × Bool × Fault) (t65 : Bool) : Prop :=
  ((t65) = true →
    ∀ r4 : Bool, r4 = sp_bounded →
    K r4) ∧
  ((t65) = false →
    ((r2.2.1) = true →
      ((((r2.1.length : Nat) : Int) == n_.events) = true →
        ((((r3.1.length : Nat) : Int) == n_.events) = true →
          (inb r2.1 i) ∧
          (((((gt r2.1 i).length : Nat) : Int) == n_.events) = true →
            (inb r3.1 i) ∧
            (((((gt r3.1 i).length : Nat) : Int) == n_.events) = true →
              (inb (gt r3.1 i) j) ∧
              (inb (gt r2.1 i) j) ∧
              ((decide ((gt (gt r3.1 i) j) ≤ (gt (gt r2.1 i) j))) = true →
                ∀ r5 : Bool, r5 = sp_bounded →
                K r5) ∧
              ((decide ((gt (gt r3.1 i) j) ≤ (gt (gt r2.1 i) j))) = false →
                K false)) ∧
            (((((gt r3.1 i).length : Nat) : Int) == n_.events) = false →
              K false)) ∧
          (((((gt r2.1 i).length : Nat) : Int) == n_.events) = false →
            K false)) ∧
        ((((r3.1.length : Nat) : Int) == n_.events) = false →
          K false)) ∧
      ((((r2.1.length : Nat) : Int) == n_.events) = false →
        K false)) ∧
    ((r2.2.1) = false →
      K false))

def F_lawMoreLinks_J1 (n_ : Network) (l : Link) (i : Int) (j : Int) (K : Bool → Prop) : Prop :=
  ∀ r2 : List (List Int) × Bool × Fault, r2 = (sp_minimal n_) →
  ∀ r3 : List (List Int) × Bool × Fault, r3 = (sp_minimal (⟨n_.events, ((([] : List Link) ++ n_.links) ++ ([l] : List Link))⟩ : Network)) →
  ((r2.2.2.code != 0) = true →
    F_lawMoreLinks_J2 n_ i j K r2 r3 true) ∧
  ((r2.2.2.code != 0) = false →
    ((r3.2.2.code != 0) = true →
      F_lawMoreLinks_J2 n_ i j K r2 r3 true) ∧
    ((r3.2.2.code != 0) = false →
      ((!r3.2.1) = true →
        F_lawMoreLinks_J2 n_ i j K r2 r3 true) ∧
      ((!r3.2.1) = false →
        ∀ r6 : Bool, r6 = (sp_in_ i 0 (IntKind.i64.wrap (n_.events - 1))) →
        ((!r6) = true →
          F_lawMoreLinks_J2 n_ i j K r2 r3 true) ∧
        ((!r6) = false →
          ∀ r7 : Bool, r7 = (sp_in_ j 0 (IntKind.i64.wrap (n_.events - 1))) →
          F_lawMoreLinks_J2 n_ i j K r2 r3 (!r7)))))

def F_lawMoreLinks (n_ : Network) (l : Link) (i : Int) (j : Int) (K : Bool → Prop) : Prop :=
  (room ((([] : List Link) ++ n_.links)).length 32) ∧
  (room (((([] : List Link) ++ n_.links) ++ ([l] : List Link))).length 32) ∧
  F_lawMoreLinks_J1 n_ l i j K

def F_has_L1 (l : List Int) (n_ : Int) (K : Bool → Prop) (i : Int) (I1 : Int → Prop) (μ1 : Int → Nat) : Prop :=
  ((decide (i < ((l.length : Nat) : Int))) = true →
    (inb l i) ∧
    (((gt l i) == n_) = true →
      K true) ∧
    (((gt l i) == n_) = false →
      I1 (IntKind.i64.wrap (i + 1)) ∧
  μ1 (IntKind.i64.wrap (i + 1)) < μ1 i)) ∧
  ((decide (i < ((l.length : Nat) : Int))) = false →
    K false)

def F_has (l : List Int) (n_ : Int) (K : Bool → Prop) : Prop :=
  ∃ (I1 : Int → Prop) (μ1 : Int → Nat), I1 0 ∧ ∀ (i : Int), I1 i → F_has_L1 l n_ K i I1 μ1

def F_reverse_L1 (K : (List Int) → Prop) (i : Int) (j : Int) (s_2 : List Int) (I1 : Int → Int → (List Int) → Prop) (μ1 : Int → Int → (List Int) → Nat) : Prop :=
  ((decide (i < j)) = true →
    (inb s_2 j) ∧
    (inb s_2 i) ∧
    ∀ d : List Int, d = (s_2.set (i).toNat (gt s_2 j)) →
    (inb d j) ∧
    ∀ d2 : List Int, d2 = (d.set (j).toNat (gt s_2 i)) →
    I1 (IntKind.i64.wrap (i + 1)) (IntKind.i64.wrap (j - 1)) d2 ∧
  μ1 (IntKind.i64.wrap (i + 1)) (IntKind.i64.wrap (j - 1)) d2 < μ1 i j s_2) ∧
  ((decide (i < j)) = false →
    K s_2)

def F_reverse (s_ : List Int) (K : (List Int) → Prop) : Prop :=
  ∃ (I1 : Int → Int → (List Int) → Prop) (μ1 : Int → Int → (List Int) → Nat), I1 0 (IntKind.i64.wrap (((s_.length : Nat) : Int) - 1)) s_ ∧ ∀ (i : Int) (j : Int) (s_2 : List Int), I1 i j s_2 → F_reverse_L1 K i j s_2 I1 μ1

def F_cycle_J1 (t40 : Int) (I3 : Int → Int → (List Int) → (List Int) → Prop) (μ3 : Int → Int → (List Int) → (List Int) → Nat) (last5 : Int) (dist5 : List Int) (from_5 : List Int) (last7 : Int) (dist7 : List Int) (from_7 : List Int) : Prop :=
  I3 last7 (IntKind.i64.wrap (t40 + 1)) dist7 from_7 ∧
  μ3 last7 (IntKind.i64.wrap (t40 + 1)) dist7 from_7 < μ3 last5 t40 dist5 from_5

def F_cycle_J2 (r3 : List (List Int)) (t74 : Bool) (t40 : Int) (I3 : Int → Int → (List Int) → (List Int) → Prop) (μ3 : Int → Int → (List Int) → (List Int) → Nat) (t35 : Int) (last5 : Int) (dist5 : List Int) (from_5 : List Int) : Prop :=
  ((t74) = true →
    (inb dist5 t35) ∧
    (inb r3 t35) ∧
    (inb (gt r3 t35) t40) ∧
    (inb dist5 t40) ∧
    ∀ d : List Int, d = (dist5.set (t40).toNat (IntKind.i64.wrap ((gt dist5 t35) + (gt (gt r3 t35) t40)))) →
    (inb from_5 t40) ∧
    ∀ d2 : List Int, d2 = (from_5.set (t40).toNat t35) →
    F_cycle_J1 t40 I3 μ3 last5 dist5 from_5 t40 d d2) ∧
  ((t74) = false →
    F_cycle_J1 t40 I3 μ3 last5 dist5 from_5 last5 dist5 from_5)

def F_cycle_L3 (r3 : List (List Int)) (t40 : Int) (I3 : Int → Int → (List Int) → (List Int) → Prop) (μ3 : Int → Int → (List Int) → (List Int) → Nat) (last3 : Int) (dist3 : List Int) (from_3 : List Int) (t35 : Int) (I2 : Int → Int → (List Int) → (List Int) → Prop) (μ2 : Int → Int → (List Int) → (List Int) → Nat) (last5 : Int) (dist5 : List Int) (from_5 : List Int) : Prop :=
  ((decide (t40 < ((r3.length : Nat) : Int))) = true →
    ((t35 != t40) = true →
      (inb r3 t35) ∧
      (inb (gt r3 t35) t40) ∧
      ((decide ((gt (gt r3 t35) t40) < 1000000000)) = true →
        (inb dist5 t35) ∧
        (inb dist5 t40) ∧
        ∀ x : Bool, x = (decide ((IntKind.i64.wrap ((gt dist5 t35) + (gt (gt r3 t35) t40))) < (gt dist5 t40))) →
        F_cycle_J2 r3 x t40 I3 μ3 t35 last5 dist5 from_5) ∧
      ((decide ((gt (gt r3 t35) t40) < 1000000000)) = false →
        F_cycle_J2 r3 false t40 I3 μ3 t35 last5 dist5 from_5)) ∧
    ((t35 != t40) = false →
      F_cycle_J2 r3 false t40 I3 μ3 t35 last5 dist5 from_5)) ∧
  ((decide (t40 < ((r3.length : Nat) : Int))) = false →
    I2 last5 (IntKind.i64.wrap (t35 + 1)) dist5 from_5 ∧
  μ2 last5 (IntKind.i64.wrap (t35 + 1)) dist5 from_5 < μ2 last3 t35 dist3 from_3)

def F_cycle_L2 (r3 : List (List Int)) (last : Int) (dist : List Int) (from_ : List Int) (last3 : Int) (dist3 : List Int) (from_3 : List Int) (t35 : Int) (I2 : Int → Int → (List Int) → (List Int) → Prop) (μ2 : Int → Int → (List Int) → (List Int) → Nat) (t31 : Int) (I1 : Int → Int → (List Int) → (List Int) → Prop) (μ1 : Int → Int → (List Int) → (List Int) → Nat) : Prop :=
  ((decide (t35 < ((r3.length : Nat) : Int))) = true →
    ∃ (I3 : Int → Int → (List Int) → (List Int) → Prop) (μ3 : Int → Int → (List Int) → (List Int) → Nat), I3 last3 0 dist3 from_3 ∧ ∀ (last5 : Int) (t40 : Int) (dist5 : List Int) (from_5 : List Int), I3 last5 t40 dist5 from_5 → F_cycle_L3 r3 t40 I3 μ3 last3 dist3 from_3 t35 I2 μ2 last5 dist5 from_5) ∧
  ((decide (t35 < ((r3.length : Nat) : Int))) = false →
    I1 last3 (IntKind.i64.wrap (t31 + 1)) dist3 from_3 ∧
  μ1 last3 (IntKind.i64.wrap (t31 + 1)) dist3 from_3 < μ1 last t31 dist from_)

def F_cycle_L5 (K : (List Int × Bool × Fault) → Prop) (from_ : List Int) (last8 : Int) (e_ : Int) (out : List Int) (I5 : Int → (List Int) → Prop) (μ5 : Int → (List Int) → Nat) : Prop :=
  ((e_ != last8) = true →
    (room ((out ++ ([e_] : List Int))).length 8) ∧
    (inb from_ e_) ∧
    I5 (gt from_ e_) (out ++ ([e_] : List Int)) ∧
  μ5 (gt from_ e_) (out ++ ([e_] : List Int)) < μ5 e_ out) ∧
  ((e_ != last8) = false →
    (pre_reverse out) ∧
    ∀ r5 : List Int, r5 = (sp_reverse out) →
    K (r5, true, (⟨0, 0⟩ : Fault)))

def F_cycle_L4 (n_ : Network) (K : (List Int × Bool × Fault) → Prop) (from_ : List Int) (last8 : Int) (t103 : Int) (I4 : Int → Int → Prop) (μ4 : Int → Int → Nat) : Prop :=
  ((decide (t103 < n_.events)) = true →
    (inb from_ last8) ∧
    I4 (gt from_ last8) (IntKind.i64.wrap (t103 + 1)) ∧
  μ4 (gt from_ last8) (IntKind.i64.wrap (t103 + 1)) < μ4 last8 t103) ∧
  ((decide (t103 < n_.events)) = false →
    (inb from_ last8) ∧
    ∃ (I5 : Int → (List Int) → Prop) (μ5 : Int → (List Int) → Nat), I5 (gt from_ last8) ([last8] : List Int) ∧ ∀ (e_ : Int) (out : List Int), I5 e_ out → F_cycle_L5 K from_ last8 e_ out I5 μ5)

def F_cycle_L1 (n_ : Network) (K : (List Int × Bool × Fault) → Prop) (r3 : List (List Int)) (last : Int) (dist : List Int) (from_ : List Int) (t31 : Int) (I1 : Int → Int → (List Int) → (List Int) → Prop) (μ1 : Int → Int → (List Int) → (List Int) → Nat) : Prop :=
  ((decide (t31 < n_.events)) = true →
    ∃ (I2 : Int → Int → (List Int) → (List Int) → Prop) (μ2 : Int → Int → (List Int) → (List Int) → Nat), I2 (-1) 0 dist from_ ∧ ∀ (last3 : Int) (t35 : Int) (dist3 : List Int) (from_3 : List Int), I2 last3 t35 dist3 from_3 → F_cycle_L2 r3 last dist from_ last3 dist3 from_3 t35 I2 μ2 t31 I1 μ1) ∧
  ((decide (t31 < n_.events)) = false →
    ((decide (last < 0)) = true →
      K (([] : List Int), false, (⟨0, 0⟩ : Fault))) ∧
    ((decide (last < 0)) = false →
      ∃ (I4 : Int → Int → Prop) (μ4 : Int → Int → Nat), I4 last 0 ∧ ∀ (last8 : Int) (t103 : Int), I4 last8 t103 → F_cycle_L4 n_ K from_ last8 t103 I4 μ4))

def F_cycle (n_ : Network) (K : (List Int × Bool × Fault) → Prop) : Prop :=
  ∀ r2 : Fault, r2 = (sp_validate n_) →
  ((!((r2.code == 0) && (r2.index == 0))) = true →
    K (([] : List Int), false, r2)) ∧
  ((!((r2.code == 0) && (r2.index == 0))) = false →
    (pre_bounds n_) ∧
    ∀ r3 : List (List Int), r3 = (sp_bounds n_) →
    (mkok n_.events 8) ∧
    (pre_repeat ([(-1)] : List Int) n_.events) ∧
    ∀ r4 : List Int, r4 = (sp_repeat ([(-1)] : List Int) n_.events) →
    ∃ (I1 : Int → Int → (List Int) → (List Int) → Prop) (μ1 : Int → Int → (List Int) → (List Int) → Nat), I1 (-1) 0 (List.replicate (n_.events).toNat (0 : Int)) r4 ∧ ∀ (last : Int) (t31 : Int) (dist : List Int) (from_ : List Int), I1 last t31 dist from_ → F_cycle_L1 n_ K r3 last dist from_ t31 I1 μ1)

def F_lawConsistentOrCycle_L1 (n_ : Network) (K : Bool → Prop) (r3 : List Int × Bool × Fault) (i : Int) (I1 : Int → Prop) (μ1 : Int → Nat) : Prop :=
  ((decide (i < ((r3.1.length : Nat) : Int))) = true →
    (0 ≤ i ∧ i ≤ (r3.1.length : Int)) ∧
    (inb r3.1 i) ∧
    (pre_has (r3.1.take (i).toNat) (gt r3.1 i)) ∧
    ∀ r7 : Bool, r7 = (sp_has (r3.1.take (i).toNat) (gt r3.1 i)) →
    ((r7) = true →
      K false) ∧
    ((r7) = false →
      I1 (IntKind.i64.wrap (i + 1)) ∧
  μ1 (IntKind.i64.wrap (i + 1)) < μ1 i)) ∧
  ((decide (i < ((r3.1.length : Nat) : Int))) = false →
    ∀ r8 : Bool × Fault, r8 = (sp_negative n_ r3.1) →
    ((r8.2.code == 0) = true →
      ((r8.1) = true →
        ∀ r9 : Bool, r9 = sp_bounded →
        K r9) ∧
      ((r8.1) = false →
        K false)) ∧
    ((r8.2.code == 0) = false →
      K false))

def F_lawConsistentOrCycle_J1 (n_ : Network) (K : Bool → Prop) (r2 : List Int × Bool × Fault) (r3 : List Int × Bool × Fault) (t33 : Bool) : Prop :=
  ((t33) = true →
    (((r2.2.2.code == r3.2.2.code) && (r2.2.2.index == r3.2.2.index)) = true →
      ∀ r4 : Bool, r4 = sp_bounded →
      K r4) ∧
    (((r2.2.2.code == r3.2.2.code) && (r2.2.2.index == r3.2.2.index)) = false →
      K false)) ∧
  ((t33) = false →
    ((r2.2.1 == r3.2.1) = true →
      K false) ∧
    ((r2.2.1 == r3.2.1) = false →
      ((r2.2.1) = true →
        ∀ r5 : Bool × Fault, r5 = (sp_respects n_ r2.1) →
        ((r5.2.code == 0) = true →
          ((r5.1) = true →
            ((((r3.1.length : Nat) : Int) == 0) = true →
              ∀ r6 : Bool, r6 = sp_bounded →
              K r6) ∧
            ((((r3.1.length : Nat) : Int) == 0) = false →
              K false)) ∧
          ((r5.1) = false →
            K false)) ∧
        ((r5.2.code == 0) = false →
          K false)) ∧
      ((r2.2.1) = false →
        ∃ (I1 : Int → Prop) (μ1 : Int → Nat), I1 0 ∧ ∀ (i : Int), I1 i → F_lawConsistentOrCycle_L1 n_ K r3 i I1 μ1)))

def F_lawConsistentOrCycle (n_ : Network) (K : Bool → Prop) : Prop :=
  ∀ r2 : List Int × Bool × Fault, r2 = (sp_earliest n_) →
  ∀ r3 : List Int × Bool × Fault, r3 = (sp_cycle n_) →
  ((r2.2.2.code != 0) = true →
    F_lawConsistentOrCycle_J1 n_ K r2 r3 true) ∧
  ((r2.2.2.code != 0) = false →
    F_lawConsistentOrCycle_J1 n_ K r2 r3 (r3.2.2.code != 0))
end Go.Proofs.Ytijicdmpidbacaa.Pl
