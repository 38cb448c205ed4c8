/- What each function asks and gives, in plain Lean; printed from the code. No condition. -/
import Derived.Test.YtijicdmpidbacaaSp
namespace Go.Proofs.Ytijicdmpidbacaa.Pl
open Go Go.RowKit
def F_in_ (n_ : Int) (low : Int) (high : Int) (K : Bool → Prop) : Prop :=
  ((decide (low ≤ n_)) = true →
    K (decide (n_ ≤ high))) ∧
  ((decide (low ≤ n_)) = false →
    K false)

def F_at_ (code : Int) (index : Int) (K : Fault → Prop) : Prop :=
  K (⟨code, index⟩ : Fault)

def F_linkCode_J3 (K : Int → Prop) (t53 : Bool) : Prop :=
  ((t53) = true →
    K 5) ∧
  ((t53) = false →
    K 0)

def F_linkCode_J2 (l : Link) (K : Int → Prop) (t26 : Bool) : Prop :=
  ((t26) = true →
    K 3) ∧
  ((t26) = false →
    ((l.src == l.dst) = true →
      F_linkCode_J3 K true) ∧
    ((l.src == l.dst) = false →
      F_linkCode_J3 K (decide (l.high < l.low))))

def F_linkCode_J1 (l : Link) (K : Int → Prop) (t5 : Bool) : Prop :=
  ((t5) = true →
    K 3) ∧
  ((t5) = false →
    ∀ x : Int, x = (max (max (max l.low (IntKind.i64.wrap (0 - l.low))) l.high) (IntKind.i64.wrap (0 - l.high))) →
    ((decide (1000 < x)) = true →
      F_linkCode_J2 l K true) ∧
    ((decide (1000 < x)) = false →
      ∀ x2 : Int, x2 = (min (min (min l.low (IntKind.i64.wrap (0 - l.low))) l.high) (IntKind.i64.wrap (0 - l.high))) →
      F_linkCode_J2 l K (decide (x2 < (-1000)))))

def F_linkCode (l : Link) (n_ : Int) (K : Int → Prop) : Prop :=
  ((decide (l.src < 0)) = true →
    F_linkCode_J1 l K true) ∧
  ((decide (l.src < 0)) = false →
    ((decide (n_ ≤ l.src)) = true →
      F_linkCode_J1 l K true) ∧
    ((decide (n_ ≤ l.src)) = false →
      ((decide (l.dst < 0)) = true →
        F_linkCode_J1 l K true) ∧
      ((decide (l.dst < 0)) = false →
        F_linkCode_J1 l K (decide (n_ ≤ l.dst)))))

def F_rLinkCode_J2 (K : Int → Prop) (t42 : Bool) : Prop :=
  ((t42) = true →
    K 5) ∧
  ((t42) = false →
    K 0)

def F_rLinkCode_J1 (l : Link) (K : Int → Prop) (t30 : Bool) : Prop :=
  ((t30) = true →
    K 3) ∧
  ((t30) = false →
    ((l.src == l.dst) = true →
      F_rLinkCode_J2 K true) ∧
    ((l.src == l.dst) = false →
      F_rLinkCode_J2 K (decide (l.high < l.low))))

def F_rLinkCode (l : Link) (n_ : Int) (K : Int → Prop) : Prop :=
  ∀ r2 : Bool, r2 = (sp_in_ l.src 0 (IntKind.i64.wrap (n_ - 1))) →
  ((!r2) = true →
    F_rLinkCode_J1 l K true) ∧
  ((!r2) = false →
    ∀ r3 : Bool, r3 = (sp_in_ l.dst 0 (IntKind.i64.wrap (n_ - 1))) →
    ((!r3) = true →
      F_rLinkCode_J1 l K true) ∧
    ((!r3) = false →
      ∀ r4 : Bool, r4 = (sp_in_ l.low (-1000) 1000) →
      ((!r4) = true →
        F_rLinkCode_J1 l K true) ∧
      ((!r4) = false →
        ∀ r5 : Bool, r5 = (sp_in_ l.high (-1000) 1000) →
        F_rLinkCode_J1 l K (!r5))))

def F_validate_L1 (n_ : Network) (K : Fault → Prop) (t25 : Int) (I1 : Int → Prop) (μ1 : Int → Nat) : Prop :=
  ((decide (t25 < ((n_.links.length : Nat) : Int))) = true →
    (inb n_.links t25) ∧
    ∀ r2 : Int, r2 = (sp_linkCode (gt n_.links t25) n_.events) →
    ((r2 != 0) = true →
      K (⟨r2, t25⟩ : Fault)) ∧
    ((r2 != 0) = false →
      I1 (IntKind.i64.wrap (t25 + 1)) ∧
  μ1 (IntKind.i64.wrap (t25 + 1)) < μ1 t25)) ∧
  ((decide (t25 < ((n_.links.length : Nat) : Int))) = false →
    K (⟨0, 0⟩ : Fault))

def F_validate_J1 (n_ : Network) (K : Fault → Prop) (t6 : Bool) : Prop :=
  ((t6) = true →
    K (⟨3, (-1)⟩ : Fault)) ∧
  ((t6) = false →
    ((decide (30 < ((n_.links.length : Nat) : Int))) = true →
      K (⟨2, (-1)⟩ : Fault)) ∧
    ((decide (30 < ((n_.links.length : Nat) : Int))) = false →
      ∃ (I1 : Int → Prop) (μ1 : Int → Nat), I1 0 ∧ ∀ (t25 : Int), I1 t25 → F_validate_L1 n_ K t25 I1 μ1))

def F_validate (n_ : Network) (K : Fault → Prop) : Prop :=
  ((decide (n_.events < 1)) = true →
    F_validate_J1 n_ K true) ∧
  ((decide (n_.events < 1)) = false →
    F_validate_J1 n_ K (decide (10 < n_.events)))

def F_networkFault_L1 (n_ : Network) (K : Fault → Prop) (i : Int) (I1 : Int → Prop) (μ1 : Int → Nat) : Prop :=
  ((decide (i < ((n_.links.length : Nat) : Int))) = true →
    (inb n_.links i) ∧
    (pre_rLinkCode (gt n_.links i) n_.events) ∧
    ∀ r5 : Int, r5 = (sp_linkCode (gt n_.links i) n_.events) →
    ((r5 != 0) = true →
      ∀ r6 : Fault, r6 = (sp_at_ r5 i) →
      K r6) ∧
    ((r5 != 0) = false →
      I1 (IntKind.i64.wrap (i + 1)) ∧
  μ1 (IntKind.i64.wrap (i + 1)) < μ1 i)) ∧
  ((decide (i < ((n_.links.length : Nat) : Int))) = false →
    K (⟨0, 0⟩ : Fault))

def F_networkFault (n_ : Network) (K : Fault → Prop) : Prop :=
  ∀ r2 : Bool, r2 = (sp_in_ n_.events 1 10) →
  ((!r2) = true →
    ∀ r3 : Fault, r3 = (sp_at_ 3 (-1)) →
    K r3) ∧
  ((!r2) = false →
    ((decide (30 < ((n_.links.length : Nat) : Int))) = true →
      ∀ r4 : Fault, r4 = (sp_at_ 2 (-1)) →
      K r4) ∧
    ((decide (30 < ((n_.links.length : Nat) : Int))) = false →
      ∃ (I1 : Int → Prop) (μ1 : Int → Nat), I1 0 ∧ ∀ (i : Int), I1 i → F_networkFault_L1 n_ K i I1 μ1))

def F_direct_J2 (d2 : Int) (k : Int) (d4 : Int) (I1 : Int → Int → Prop) (μ1 : Int → Int → Nat) : Prop :=
  I1 d4 (IntKind.i64.wrap (k + 1)) ∧
  μ1 d4 (IntKind.i64.wrap (k + 1)) < μ1 d2 k

def F_direct_J5 (n_ : Network) (d2 : Int) (t61 : Bool) (k : Int) (I1 : Int → Int → Prop) (μ1 : Int → Int → Nat) (d5 : Int) : Prop :=
  ((t61) = true →
    F_direct_J2 d2 k (IntKind.i64.wrap (0 - ((gt n_.links k).low))) I1 μ1) ∧
  ((t61) = false →
    F_direct_J2 d2 k d5 I1 μ1)

def F_direct_J4 (n_ : Network) (i : Int) (j : Int) (d2 : Int) (k : Int) (I1 : Int → Int → Prop) (μ1 : Int → Int → Nat) (d5 : Int) : Prop :=
  ((((gt n_.links k).src) == j) = true →
    ((((gt n_.links k).dst) == i) = true →
      F_direct_J5 n_ d2 (decide ((IntKind.i64.wrap (0 - ((gt n_.links k).low))) < d5)) k I1 μ1 d5) ∧
    ((((gt n_.links k).dst) == i) = false →
      F_direct_J5 n_ d2 false k I1 μ1 d5)) ∧
  ((((gt n_.links k).src) == j) = false →
    F_direct_J5 n_ d2 false k I1 μ1 d5)

def F_direct_J3 (n_ : Network) (i : Int) (j : Int) (t42 : Bool) (d2 : Int) (k : Int) (I1 : Int → Int → Prop) (μ1 : Int → Int → Nat) : Prop :=
  ((t42) = true →
    F_direct_J4 n_ i j d2 k I1 μ1 ((gt n_.links k).high)) ∧
  ((t42) = false →
    F_direct_J4 n_ i j d2 k I1 μ1 d2)

def F_direct_L1 (n_ : Network) (i : Int) (j : Int) (K : Int → Prop) (d2 : Int) (k : Int) (I1 : Int → Int → Prop) (μ1 : Int → Int → Nat) : Prop :=
  ((decide (k < ((n_.links.length : Nat) : Int))) = true →
    (inb n_.links k) ∧
    ((((gt n_.links k).src) == i) = true →
      ((((gt n_.links k).dst) == j) = true →
        F_direct_J3 n_ i j (decide (((gt n_.links k).high) < d2)) d2 k I1 μ1) ∧
      ((((gt n_.links k).dst) == j) = false →
        F_direct_J3 n_ i j false d2 k I1 μ1)) ∧
    ((((gt n_.links k).src) == i) = false →
      F_direct_J3 n_ i j false d2 k I1 μ1)) ∧
  ((decide (k < ((n_.links.length : Nat) : Int))) = false →
    K d2)

def F_direct_J1 (n_ : Network) (i : Int) (j : Int) (K : Int → Prop) (d : Int) : Prop :=
  ∃ (I1 : Int → Int → Prop) (μ1 : Int → Int → Nat), I1 d 0 ∧ ∀ (d2 : Int) (k : Int), I1 d2 k → F_direct_L1 n_ i j K d2 k I1 μ1

def F_direct (n_ : Network) (i : Int) (j : Int) (K : Int → Prop) : Prop :=
  ((i == j) = true →
    K 0) ∧
  ((i == j) = false →
    ((j == 0) = true →
      F_direct_J1 n_ i j K 0) ∧
    ((j == 0) = false →
      F_direct_J1 n_ i j K 1000000000))

def F_isSchedule_L2 (n_ : Network) (times : List Int) (K : Bool → Prop) (k : Int) (I2 : Int → Prop) (μ2 : Int → Nat) : Prop :=
  ((decide (k < ((n_.links.length : Nat) : Int))) = true →
    (inb n_.links k) ∧
    (inb times ((gt n_.links k).dst)) ∧
    (inb times ((gt n_.links k).src)) ∧
    ∀ x : Int, x = (IntKind.i64.wrap ((gt times ((gt n_.links k).dst)) - (gt times ((gt n_.links k).src)))) →
    ∀ r2 : Bool, r2 = (sp_in_ x ((gt n_.links k).low) ((gt n_.links k).high)) →
    ((!r2) = true →
      K false) ∧
    ((!r2) = false →
      I2 (IntKind.i64.wrap (k + 1)) ∧
  μ2 (IntKind.i64.wrap (k + 1)) < μ2 k)) ∧
  ((decide (k < ((n_.links.length : Nat) : Int))) = false →
    (inb times (0 : Int)) ∧
    K ((gt times (0 : Int)) == 0))

def F_isSchedule_L1 (n_ : Network) (times : List Int) (K : Bool → Prop) (i : Int) (I1 : Int → Prop) (μ1 : Int → Nat) : Prop :=
  ((decide (i < ((times.length : Nat) : Int))) = true →
    (inb times i) ∧
    ((decide ((gt times i) < 0)) = true →
      K false) ∧
    ((decide ((gt times i) < 0)) = false →
      I1 (IntKind.i64.wrap (i + 1)) ∧
  μ1 (IntKind.i64.wrap (i + 1)) < μ1 i)) ∧
  ((decide (i < ((times.length : Nat) : Int))) = false →
    ∃ (I2 : Int → Prop) (μ2 : Int → Nat), I2 0 ∧ ∀ (k : Int), I2 k → F_isSchedule_L2 n_ times K k I2 μ2)

def F_isSchedule (n_ : Network) (times : List Int) (K : Bool → Prop) : Prop :=
  ∃ (I1 : Int → Prop) (μ1 : Int → Nat), I1 0 ∧ ∀ (i : Int), I1 i → F_isSchedule_L1 n_ times K i I1 μ1

def F_numbers_L1 (a : List Int) (b : List Int) (K : Bool → Prop) (i : Int) (I1 : Int → Prop) (μ1 : Int → Nat) : Prop :=
  ((decide (i < ((a.length : Nat) : Int))) = true →
    (inb a i) ∧
    (inb b i) ∧
    (((gt a i) != (gt b i)) = true →
      K false) ∧
    (((gt a i) != (gt b i)) = false →
      I1 (IntKind.i64.wrap (i + 1)) ∧
  μ1 (IntKind.i64.wrap (i + 1)) < μ1 i)) ∧
  ((decide (i < ((a.length : Nat) : Int))) = false →
    K true)

def F_numbers (a : List Int) (b : List Int) (K : Bool → Prop) : Prop :=
  ((((a.length : Nat) : Int) != ((b.length : Nat) : Int)) = true →
    K false) ∧
  ((((a.length : Nat) : Int) != ((b.length : Nat) : Int)) = false →
    ∃ (I1 : Int → Prop) (μ1 : Int → Nat), I1 0 ∧ ∀ (i : Int), I1 i → F_numbers_L1 a b K i I1 μ1)

def F_sets_L1 (a : List (List Int)) (b : List (List Int)) (K : Bool → Prop) (i : Int) (I1 : Int → Prop) (μ1 : Int → Nat) : Prop :=
  ((decide (i < ((a.length : Nat) : Int))) = true →
    (inb a i) ∧
    (inb b i) ∧
    (pre_numbers (gt a i) (gt b i)) ∧
    ∀ r2 : Bool, r2 = (sp_numbers (gt a i) (gt b i)) →
    ((!r2) = true →
      K false) ∧
    ((!r2) = false →
      I1 (IntKind.i64.wrap (i + 1)) ∧
  μ1 (IntKind.i64.wrap (i + 1)) < μ1 i)) ∧
  ((decide (i < ((a.length : Nat) : Int))) = false →
    K true)

def F_sets (a : List (List Int)) (b : List (List Int)) (K : Bool → Prop) : Prop :=
  ((((a.length : Nat) : Int) != ((b.length : Nat) : Int)) = true →
    K false) ∧
  ((((a.length : Nat) : Int) != ((b.length : Nat) : Int)) = false →
    ∃ (I1 : Int → Prop) (μ1 : Int → Nat), I1 0 ∧ ∀ (i : Int), I1 i → F_sets_L1 a b K i I1 μ1)

def F_mul64 (x : Int) (y : Int) (K : (Int × Int) → Prop) : Prop :=
  ∀ x2 : Int, x2 = (IntKind.u64.wrap ((bits .and .u64 x 4294967295) * (bits .and .u64 y 4294967295))) →
  ∀ x3 : Int, x3 = (IntKind.u64.wrap ((Int.fdiv x (2 ^ (min ((32 : Int)).toNat (IntKind.bits .u64)))) * (bits .and .u64 y 4294967295))) →
  ∀ x4 : Int, x4 = (IntKind.u64.wrap (x3 + (Int.fdiv x2 (2 ^ (min ((32 : Int)).toNat (IntKind.bits .u64)))))) →
  ∀ x5 : Int, x5 = (IntKind.u64.wrap ((bits .and .u64 x 4294967295) * (Int.fdiv y (2 ^ (min ((32 : Int)).toNat (IntKind.bits .u64)))))) →
  ∀ x6 : Int, x6 = (IntKind.u64.wrap ((Int.fdiv x (2 ^ (min ((32 : Int)).toNat (IntKind.bits .u64)))) * (Int.fdiv y (2 ^ (min ((32 : Int)).toNat (IntKind.bits .u64)))))) →
  ∀ x7 : Int, x7 = (IntKind.u64.wrap (x6 + (Int.fdiv x4 (2 ^ (min ((32 : Int)).toNat (IntKind.bits .u64)))))) →
  ∀ x8 : Int, x8 = (Int.fdiv (IntKind.u64.wrap ((bits .and .u64 x4 4294967295) + x5)) (2 ^ (min ((32 : Int)).toNat (IntKind.bits .u64)))) →
  K (IntKind.u64.wrap (x7 + x8), IntKind.u64.wrap (x * y))

def F_mul (x : Int) (y : Int) (K : (Int × Int) → Prop) : Prop :=
  (pre_mul64 x y) ∧
  ∀ r2 : Int × Int, r2 = (sp_mul64 x y) →
  K (r2.1, r2.2)

def F_repeat_L1 (K : (List Int) → Prop) (r2 : Int × Int) (n_ : Int) (newslice : List Int) (I1 : Int → (List Int) → Prop) (μ1 : Int → (List Int) → Nat) : Prop :=
  ((decide (n_ < (((IntKind.i64.wrap (r2.2)).toNat : Nat) : Int))) = true →
    (0 ≤ n_ ∧ n_ ≤ (((IntKind.i64.wrap (r2.2)).toNat : Nat) : Int)) ∧
    ((min ((n_).toNat) ((IntKind.i64.wrap (r2.2)).toNat - (n_).toNat)) ≤ newslice.length ∧ (n_).toNat + (newslice.take (min ((n_).toNat) ((IntKind.i64.wrap (r2.2)).toNat - (n_).toNat))).length ≤ (IntKind.i64.wrap (r2.2)).toNat) ∧
    ∀ d2 : List Int, d2 = (cpy newslice (n_).toNat (newslice.take (min ((n_).toNat) ((IntKind.i64.wrap (r2.2)).toNat - (n_).toNat)))) →
    I1 (IntKind.i64.wrap (n_ + (((min ((n_).toNat) ((IntKind.i64.wrap (r2.2)).toNat - (n_).toNat)) : Nat) : Int))) d2 ∧
  μ1 (IntKind.i64.wrap (n_ + (((min ((n_).toNat) ((IntKind.i64.wrap (r2.2)).toNat - (n_).toNat)) : Nat) : Int))) d2 < μ1 n_ newslice) ∧
  ((decide (n_ < (((IntKind.i64.wrap (r2.2)).toNat : Nat) : Int))) = false →
    K newslice)

def F_repeat_J1 (x : List Int) (K : (List Int) → Prop) (r2 : Int × Int) (t26 : Bool) : Prop :=
  ((t26) = true →
    False) ∧
  ((t26) = false →
    (mkok (IntKind.i64.wrap (r2.2)) 8) ∧
    ((min x.length ((IntKind.i64.wrap (r2.2)).toNat)) ≤ x.length ∧ 0 + (x.take (min x.length ((IntKind.i64.wrap (r2.2)).toNat))).length ≤ (IntKind.i64.wrap (r2.2)).toNat) ∧
    ∀ d : List Int, d = (cpy (List.replicate (IntKind.i64.wrap (r2.2)).toNat (0 : Int)) 0 (x.take (min x.length ((IntKind.i64.wrap (r2.2)).toNat)))) →
    ∃ (I1 : Int → (List Int) → Prop) (μ1 : Int → (List Int) → Nat), I1 (((min x.length ((IntKind.i64.wrap (r2.2)).toNat)) : Nat) : Int) d ∧ ∀ (n_ : Int) (newslice : List Int), I1 n_ newslice → F_repeat_L1 K r2 n_ newslice I1 μ1)

def F_repeat (x : List Int) (count : Int) (K : (List Int) → Prop) : Prop :=
  ((decide (count < 0)) = true →
    False) ∧
  ((decide (count < 0)) = false →
    (pre_mul64 (IntKind.u64.wrap (((x.length : Nat) : Int))) (IntKind.u64.wrap (count))) ∧
    ∀ r2 : Int × Int, r2 = (sp_mul64 (IntKind.u64.wrap (((x.length : Nat) : Int))) (IntKind.u64.wrap (count))) →
    ((decide (0 < r2.1)) = true →
      F_repeat_J1 x K r2 true) ∧
    ((decide (0 < r2.1)) = false →
      F_repeat_J1 x K r2 (decide (9223372036854775807 < r2.2))))

def F_min__L1 (x : List Int) (K : Int → Prop) (m : Int) (i : Int) (I1 : Int → Int → Prop) (μ1 : Int → Int → Nat) : Prop :=
  ((decide (i < ((x.length : Nat) : Int))) = true →
    (inb x i) ∧
    I1 (if (gt x i) < m then (gt x i) else m) (IntKind.i64.wrap (i + 1)) ∧
  μ1 (if (gt x i) < m then (gt x i) else m) (IntKind.i64.wrap (i + 1)) < μ1 m i) ∧
  ((decide (i < ((x.length : Nat) : Int))) = false →
    K m)

def F_min_ (x : List Int) (K : Int → Prop) : Prop :=
  ((decide (((x.length : Nat) : Int) < 1)) = true →
    False) ∧
  ((decide (((x.length : Nat) : Int) < 1)) = false →
    (inb x (0 : Int)) ∧
    ∃ (I1 : Int → Int → Prop) (μ1 : Int → Int → Nat), I1 (gt x (0 : Int)) 1 ∧ ∀ (m : Int) (i : Int), I1 m i → F_min__L1 x K m i I1 μ1)

def F_bounds_L2 (n_ : Network) (K : (List (List Int)) → Prop) (d6 : List (List Int)) (t37 : Int) (I2 : Int → (List (List Int)) → Prop) (μ2 : Int → (List (List Int)) → Nat) : Prop :=
  ((decide (t37 < ((n_.links.length : Nat) : Int))) = true →
    (inb n_.links t37) ∧
    (inb d6 ((gt n_.links t37).src)) ∧
    (inb (gt d6 ((gt n_.links t37).src)) ((gt n_.links t37).dst)) ∧
    ∀ x : Int, x = (if ((gt n_.links t37).high) < (gt (gt d6 ((gt n_.links t37).src)) ((gt n_.links t37).dst)) then ((gt n_.links t37).high) else (gt (gt d6 ((gt n_.links t37).src)) ((gt n_.links t37).dst))) →
    ∀ d8 : List (List Int), d8 = (d6.set ((gt n_.links t37).src).toNat ((gt d6 ((gt n_.links t37).src)).set ((gt n_.links t37).dst).toNat x)) →
    (inb d8 ((gt n_.links t37).dst)) ∧
    (inb (gt d8 ((gt n_.links t37).dst)) ((gt n_.links t37).src)) ∧
    ∀ x2 : Int, x2 = (if (IntKind.i64.wrap (0 - ((gt n_.links t37).low))) < (gt (gt d8 ((gt n_.links t37).dst)) ((gt n_.links t37).src)) then (IntKind.i64.wrap (0 - ((gt n_.links t37).low))) else (gt (gt d8 ((gt n_.links t37).dst)) ((gt n_.links t37).src))) →
    ∀ d9 : List (List Int), d9 = (d8.set ((gt n_.links t37).dst).toNat ((gt d8 ((gt n_.links t37).dst)).set ((gt n_.links t37).src).toNat x2)) →
    I2 (IntKind.i64.wrap (t37 + 1)) d9 ∧
  μ2 (IntKind.i64.wrap (t37 + 1)) d9 < μ2 t37 d6) ∧
  ((decide (t37 < ((n_.links.length : Nat) : Int))) = false →
    K d6)

def F_bounds_L1 (n_ : Network) (K : (List (List Int)) → Prop) (d : List (List Int)) (t12 : Int) (I1 : Int → (List (List Int)) → Prop) (μ1 : Int → (List (List Int)) → Nat) : Prop :=
  ((decide (t12 < (((n_.events).toNat : Nat) : Int))) = true →
    (pre_repeat ([1000000000] : List Int) n_.events) ∧
    ∀ r2 : List Int, r2 = (sp_repeat ([1000000000] : List Int) n_.events) →
    (inb d t12) ∧
    ∀ d3 : List (List Int), d3 = (d.set (t12).toNat r2) →
    (inb d3 t12) ∧
    (inb (gt d3 t12) (0 : Int)) ∧
    ∀ d4 : List (List Int), d4 = (d3.set (t12).toNat ((gt d3 t12).set ((0 : Int)).toNat 0)) →
    (inb d4 t12) ∧
    (inb (gt d4 t12) t12) ∧
    ∀ d5 : List (List Int), d5 = (d4.set (t12).toNat ((gt d4 t12).set (t12).toNat 0)) →
    I1 (IntKind.i64.wrap (t12 + 1)) d5 ∧
  μ1 (IntKind.i64.wrap (t12 + 1)) d5 < μ1 t12 d) ∧
  ((decide (t12 < (((n_.events).toNat : Nat) : Int))) = false →
    ∃ (I2 : Int → (List (List Int)) → Prop) (μ2 : Int → (List (List Int)) → Nat), I2 0 d ∧ ∀ (t37 : Int) (d6 : List (List Int)), I2 t37 d6 → F_bounds_L2 n_ K d6 t37 I2 μ2)

def F_bounds (n_ : Network) (K : (List (List Int)) → Prop) : Prop :=
  (mkok n_.events 24) ∧
  ∃ (I1 : Int → (List (List Int)) → Prop) (μ1 : Int → (List (List Int)) → Nat), I1 0 (List.replicate (n_.events).toNat [] : List (List Int)) ∧ ∀ (t12 : Int) (d : List (List Int)), I1 t12 d → F_bounds_L1 n_ K d t12 I1 μ1

def F_pair (low : Int) (high : Int) (K : Network → Prop) : Prop :=
  K (⟨2, ([(⟨0, 1, low, high⟩ : Link)] : List Link)⟩ : Network)

def F_indexL_L1 (s_ : List Link) (pf : Link → Bool) (Df : Link → Prop) (K : Int → Prop) (t8 : Int) (I1 : Int → Prop) (μ1 : Int → Nat) : Prop :=
  ((decide (t8 < ((s_.length : Nat) : Int))) = true →
    (inb s_ t8) ∧
    (Df (gt s_ t8)) ∧
    ∀ r2 : Bool, r2 = (pf (gt s_ t8)) →
    ((r2) = true →
      K t8) ∧
    ((r2) = false →
      I1 (IntKind.i64.wrap (t8 + 1)) ∧
  μ1 (IntKind.i64.wrap (t8 + 1)) < μ1 t8)) ∧
  ((decide (t8 < ((s_.length : Nat) : Int))) = false →
    K (-1))

def F_indexL (s_ : List Link) (pf : Link → Bool) (Df : Link → Prop) (K : Int → Prop) : Prop :=
  ∃ (I1 : Int → Prop) (μ1 : Int → Nat), I1 0 ∧ ∀ (t8 : Int), I1 t8 → F_indexL_L1 s_ pf Df K t8 I1 μ1

def F_containsL (s_ : List Link) (pf : Link → Bool) (Df : Link → Prop) (K : Bool → Prop) : Prop :=
  (pre_any s_ pf Df) ∧
  ∀ r2 : Int, r2 = (sp_index s_ pf Df) →
  K (decide (0 ≤ r2))

def F_indexR_L1 (s_ : List (List Int)) (pf : (List Int) → Bool) (Df : (List Int) → Prop) (K : Int → Prop) (t8 : Int) (I1 : Int → Prop) (μ1 : Int → Nat) : Prop :=
  ((decide (t8 < ((s_.length : Nat) : Int))) = true →
    (inb s_ t8) ∧
    (Df (gt s_ t8)) ∧
    ∀ r2 : Bool, r2 = (pf (gt s_ t8)) →
    ((r2) = true →
      K t8) ∧
    ((r2) = false →
      I1 (IntKind.i64.wrap (t8 + 1)) ∧
  μ1 (IntKind.i64.wrap (t8 + 1)) < μ1 t8)) ∧
  ((decide (t8 < ((s_.length : Nat) : Int))) = false →
    K (-1))

def F_indexR (s_ : List (List Int)) (pf : (List Int) → Bool) (Df : (List Int) → Prop) (K : Int → Prop) : Prop :=
  ∃ (I1 : Int → Prop) (μ1 : Int → Nat), I1 0 ∧ ∀ (t8 : Int), I1 t8 → F_indexR_L1 s_ pf Df K t8 I1 μ1

def F_containsR (s_ : List (List Int)) (pf : (List Int) → Bool) (Df : (List Int) → Prop) (K : Bool → Prop) : Prop :=
  (pre_any s_ pf Df) ∧
  ∀ r2 : Int, r2 = (sp_index s_ pf Df) →
  K (decide (0 ≤ r2))

def F_tighten1 (row : List Int) (K : Bool → Prop) : Prop :=
  (pre_min_ row) ∧
  ∀ r2 : Int, r2 = (sp_min_ row) →
  K (decide (r2 < (-1000000)))

def F_tighten_J1 (t23 : Int) (I3 : Int → (List (List Int)) → Prop) (μ3 : Int → (List (List Int)) → Nat) (d5 : List (List Int)) (d7 : List (List Int)) : Prop :=
  I3 (IntKind.i64.wrap (t23 + 1)) d7 ∧
  μ3 (IntKind.i64.wrap (t23 + 1)) d7 < μ3 t23 d5

def F_tighten_J2 (t43 : Bool) (t23 : Int) (I3 : Int → (List (List Int)) → Prop) (μ3 : Int → (List (List Int)) → Nat) (t18 : Int) (d5 : List (List Int)) (t13 : Int) : Prop :=
  ((t43) = true →
    (inb d5 t18) ∧
    (inb (gt d5 t18) t23) ∧
    (inb (gt d5 t18) t13) ∧
    (inb d5 t13) ∧
    (inb (gt d5 t13) t23) ∧
    ∀ x : Int, x = (if (IntKind.i64.wrap ((gt (gt d5 t18) t13) + (gt (gt d5 t13) t23))) < (gt (gt d5 t18) t23) then (IntKind.i64.wrap ((gt (gt d5 t18) t13) + (gt (gt d5 t13) t23))) else (gt (gt d5 t18) t23)) →
    ∀ d8 : List (List Int), d8 = (d5.set (t18).toNat ((gt d5 t18).set (t23).toNat x)) →
    F_tighten_J1 t23 I3 μ3 d5 d8) ∧
  ((t43) = false →
    F_tighten_J1 t23 I3 μ3 d5 d5)

def F_tighten_L3 (r2 : List (List Int)) (t23 : Int) (d3 : List (List Int)) (I3 : Int → (List (List Int)) → Prop) (μ3 : Int → (List (List Int)) → Nat) (t18 : Int) (d5 : List (List Int)) (I2 : Int → (List (List Int)) → Prop) (μ2 : Int → (List (List Int)) → Nat) (t13 : Int) : Prop :=
  ((decide (t23 < ((r2.length : Nat) : Int))) = true →
    (inb d5 t18) ∧
    (inb (gt d5 t18) t13) ∧
    ((decide ((gt (gt d5 t18) t13) < 1000000000)) = true →
      (inb d5 t13) ∧
      (inb (gt d5 t13) t23) ∧
      F_tighten_J2 (decide ((gt (gt d5 t13) t23) < 1000000000)) t23 I3 μ3 t18 d5 t13) ∧
    ((decide ((gt (gt d5 t18) t13) < 1000000000)) = false →
      F_tighten_J2 false t23 I3 μ3 t18 d5 t13)) ∧
  ((decide (t23 < ((r2.length : Nat) : Int))) = false →
    I2 (IntKind.i64.wrap (t18 + 1)) d5 ∧
  μ2 (IntKind.i64.wrap (t18 + 1)) d5 < μ2 t18 d3)

def F_tighten_L2 (K : (List (List Int) × Bool) → Prop) (r2 : List (List Int)) (d : List (List Int)) (d3 : List (List Int)) (t18 : Int) (I2 : Int → (List (List Int)) → Prop) (μ2 : Int → (List (List Int)) → Nat) (t13 : Int) (I1 : Int → (List (List Int)) → Prop) (μ1 : Int → (List (List Int)) → Nat) : Prop :=
  ((decide (t18 < ((r2.length : Nat) : Int))) = true →
    ∃ (I3 : Int → (List (List Int)) → Prop) (μ3 : Int → (List (List Int)) → Nat), I3 0 d3 ∧ ∀ (t23 : Int) (d5 : List (List Int)), I3 t23 d5 → F_tighten_L3 r2 t23 d3 I3 μ3 t18 d5 I2 μ2 t13) ∧
  ((decide (t18 < ((r2.length : Nat) : Int))) = false →
    (pre_any d3 (fun y_ : List Int => sp_tighten1 y_) (fun y_ : List Int => pre_tighten1 y_)) ∧
    ∀ r3 : Bool, r3 = (sp_any d3 (fun y_ : List Int => sp_tighten1 y_) (fun y_ : List Int => pre_tighten1 y_)) →
    ((r3) = true →
      K (([] : List (List Int)), false)) ∧
    ((r3) = false →
      I1 (IntKind.i64.wrap (t13 + 1)) d3 ∧
  μ1 (IntKind.i64.wrap (t13 + 1)) d3 < μ1 t13 d))

def F_tighten_L4 (K : (List (List Int) × Bool) → Prop) (r2 : List (List Int)) (d : List (List Int)) (t80 : Int) (I4 : Int → Prop) (μ4 : Int → Nat) : Prop :=
  ((decide (t80 < ((r2.length : Nat) : Int))) = true →
    (inb d t80) ∧
    (inb (gt d t80) t80) ∧
    ((decide ((gt (gt d t80) t80) < 0)) = true →
      K (([] : List (List Int)), false)) ∧
    ((decide ((gt (gt d t80) t80) < 0)) = false →
      I4 (IntKind.i64.wrap (t80 + 1)) ∧
  μ4 (IntKind.i64.wrap (t80 + 1)) < μ4 t80)) ∧
  ((decide (t80 < ((r2.length : Nat) : Int))) = false →
    K (d, true))

def F_tighten_L1 (K : (List (List Int) × Bool) → Prop) (r2 : List (List Int)) (d : List (List Int)) (t13 : Int) (I1 : Int → (List (List Int)) → Prop) (μ1 : Int → (List (List Int)) → Nat) : Prop :=
  ((decide (t13 < ((r2.length : Nat) : Int))) = true →
    ∃ (I2 : Int → (List (List Int)) → Prop) (μ2 : Int → (List (List Int)) → Nat), I2 0 d ∧ ∀ (t18 : Int) (d3 : List (List Int)), I2 t18 d3 → F_tighten_L2 K r2 d d3 t18 I2 μ2 t13 I1 μ1) ∧
  ((decide (t13 < ((r2.length : Nat) : Int))) = false →
    ∃ (I4 : Int → Prop) (μ4 : Int → Nat), I4 0 ∧ ∀ (t80 : Int), I4 t80 → F_tighten_L4 K r2 d t80 I4 μ4)

def F_tighten (n_ : Network) (K : (List (List Int) × Bool) → Prop) : Prop :=
  (pre_bounds n_) ∧
  ∀ r2 : List (List Int), r2 = (sp_bounds n_) →
  ∃ (I1 : Int → (List (List Int)) → Prop) (μ1 : Int → (List (List Int)) → Nat), I1 0 r2 ∧ ∀ (t13 : Int) (d : List (List Int)), I1 t13 d → F_tighten_L1 K r2 d t13 I1 μ1

def F_minimal (n_ : Network) (K : (List (List Int) × Bool × Fault) → Prop) : Prop :=
  ∀ r2 : Fault, r2 = (sp_validate n_) →
  ((!((r2.code == 0) && (r2.index == 0))) = true →
    K (([] : List (List Int)), false, r2)) ∧
  ((!((r2.code == 0) && (r2.index == 0))) = false →
    (pre_tighten n_) ∧
    ∀ r3 : List (List Int) × Bool, r3 = (sp_tighten n_) →
    K (r3.1, r3.2, (⟨0, 0⟩ : Fault)))

def F_earliest_L1 (K : (List Int × Bool × Fault) → Prop) (r2 : List (List Int) × Bool × Fault) (t21 : Int) (out : List Int) (I1 : Int → (List Int) → Prop) (μ1 : Int → (List Int) → Nat) : Prop :=
  ((decide (t21 < ((r2.1.length : Nat) : Int))) = true →
    (inb r2.1 t21) ∧
    (inb (gt r2.1 t21) (0 : Int)) ∧
    (room ((out ++ ([IntKind.i64.wrap (0 - (gt (gt r2.1 t21) (0 : Int)))] : List Int))).length 8) ∧
    I1 (IntKind.i64.wrap (t21 + 1)) (out ++ ([IntKind.i64.wrap (0 - (gt (gt r2.1 t21) (0 : Int)))] : List Int)) ∧
  μ1 (IntKind.i64.wrap (t21 + 1)) (out ++ ([IntKind.i64.wrap (0 - (gt (gt r2.1 t21) (0 : Int)))] : List Int)) < μ1 t21 out) ∧
  ((decide (t21 < ((r2.1.length : Nat) : Int))) = false →
    K (out, true, r2.2.2))

def F_earliest (n_ : Network) (K : (List Int × Bool × Fault) → Prop) : Prop :=
  ∀ r2 : List (List Int) × Bool × Fault, r2 = (sp_minimal n_) →
  ((!r2.2.1) = true →
    K (([] : List Int), false, r2.2.2)) ∧
  ((!r2.2.1) = false →
    ∃ (I1 : Int → (List Int) → Prop) (μ1 : Int → (List Int) → Nat), I1 0 ([] : List Int) ∧ ∀ (t21 : Int) (out : List Int), I1 t21 out → F_earliest_L1 K r2 t21 out I1 μ1)

def F_fits1 (l : Link) (x : List Int) (K : Bool → Prop) : Prop :=
  (inb x l.dst) ∧
  (inb x l.src) ∧
  ∀ x2 : Bool, x2 = (decide ((IntKind.i64.wrap ((gt x l.dst) - (gt x l.src))) < l.low)) →
  ((x2) = true →
    K true) ∧
  ((x2) = false →
    ∀ x3 : Bool, x3 = (decide (l.high < (IntKind.i64.wrap ((gt x l.dst) - (gt x l.src))))) →
    K x3)

def F_fits_J1 (n_ : Network) (times : List Int) (K : Bool → Prop) (t13 : Bool) : Prop :=
  ((t13) = true →
    K false) ∧
  ((t13) = false →
    (pre_any n_.links (fun y_ : Link => sp_fits1 y_ times) (fun y_ : Link => pre_fits1 y_ times)) ∧
    ∀ r2 : Bool, r2 = (sp_any n_.links (fun y_ : Link => sp_fits1 y_ times) (fun y_ : Link => pre_fits1 y_ times)) →
    K (!r2))

def F_fits (n_ : Network) (times : List Int) (K : Bool → Prop) : Prop :=
  (inb times (0 : Int)) ∧
  (((gt times (0 : Int)) != 0) = true →
    F_fits_J1 n_ times K true) ∧
  (((gt times (0 : Int)) != 0) = false →
    (pre_min_ times) ∧
    ∀ r3 : Int, r3 = (sp_min_ times) →
    F_fits_J1 n_ times K (decide (r3 < 0)))

def F_respects_J1 (K : (Bool × Fault) → Prop) (t33 : Bool) (t23 : Int) (I1 : Int → Prop) (μ1 : Int → Nat) : Prop :=
  ((t33) = true →
    K (false, (⟨3, IntKind.i64.wrap ((-3) - t23)⟩ : Fault))) ∧
  ((t33) = false →
    I1 (IntKind.i64.wrap (t23 + 1)) ∧
  μ1 (IntKind.i64.wrap (t23 + 1)) < μ1 t23)

def F_respects_L1 (n_ : Network) (times : List Int) (K : (Bool × Fault) → Prop) (t23 : Int) (I1 : Int → Prop) (μ1 : Int → Nat) : Prop :=
  ((decide (t23 < ((times.length : Nat) : Int))) = true →
    (inb times t23) ∧
    ((decide ((gt times t23) < (-1000000))) = true →
      F_respects_J1 K true t23 I1 μ1) ∧
    ((decide ((gt times t23) < (-1000000))) = false →
      F_respects_J1 K (decide (1000000 < (gt times t23))) t23 I1 μ1)) ∧
  ((decide (t23 < ((times.length : Nat) : Int))) = false →
    (pre_fits n_ times) ∧
    ∀ r3 : Bool, r3 = (sp_fits n_ times) →
    K (r3, (⟨0, 0⟩ : Fault)))

def F_respects (n_ : Network) (times : List Int) (K : (Bool × Fault) → Prop) : Prop :=
  ∀ r2 : Fault, r2 = (sp_validate n_) →
  ((!((r2.code == 0) && (r2.index == 0))) = true →
    K (false, r2)) ∧
  ((!((r2.code == 0) && (r2.index == 0))) = false →
    ((((times.length : Nat) : Int) != n_.events) = true →
      K (false, (⟨9, (-2)⟩ : Fault))) ∧
    ((((times.length : Nat) : Int) != n_.events) = false →
      ∃ (I1 : Int → Prop) (μ1 : Int → Nat), I1 0 ∧ ∀ (t23 : Int), I1 t23 → F_respects_L1 n_ times K t23 I1 μ1))

def F_negative_J2 (K : (Bool × Fault) → Prop) (t43 : Bool) (t31 : Int) (I1 : Int → Prop) (μ1 : Int → Nat) : Prop :=
  ((t43) = true →
    K (false, (⟨3, IntKind.i64.wrap ((-3) - t31)⟩ : Fault))) ∧
  ((t43) = false →
    I1 (IntKind.i64.wrap (t31 + 1)) ∧
  μ1 (IntKind.i64.wrap (t31 + 1)) < μ1 t31)

def F_negative_L2 (cycle : List Int) (K : (Bool × Fault) → Prop) (r3 : List (List Int)) (sum : Int) (t52 : Int) (I2 : Int → Int → Prop) (μ2 : Int → Int → Nat) : Prop :=
  ((decide (t52 < ((cycle.length : Nat) : Int))) = true →
    (inb cycle t52) ∧
    (inb r3 (gt cycle t52)) ∧
    (((cycle.length : Nat) : Int) ≠ 0) ∧
    ∀ x : Int, x = (Int.tmod (IntKind.i64.wrap (t52 + 1)) ((cycle.length : Nat) : Int)) →
    (inb cycle x) ∧
    (inb (gt r3 (gt cycle t52)) (gt cycle x)) ∧
    (((gt (gt r3 (gt cycle t52)) (gt cycle x)) == 1000000000) = true →
      K (false, (⟨0, 0⟩ : Fault))) ∧
    (((gt (gt r3 (gt cycle t52)) (gt cycle x)) == 1000000000) = false →
      ∀ x2 : Int, x2 = (IntKind.i64.wrap (sum + (gt (gt r3 (gt cycle t52)) (gt cycle x)))) →
      I2 x2 (IntKind.i64.wrap (t52 + 1)) ∧
  μ2 x2 (IntKind.i64.wrap (t52 + 1)) < μ2 sum t52)) ∧
  ((decide (t52 < ((cycle.length : Nat) : Int))) = false →
    K (decide (sum < 0), (⟨0, 0⟩ : Fault)))

def F_negative_L1 (n_ : Network) (cycle : List Int) (K : (Bool × Fault) → Prop) (t31 : Int) (I1 : Int → Prop) (μ1 : Int → Nat) : Prop :=
  ((decide (t31 < ((cycle.length : Nat) : Int))) = true →
    (inb cycle t31) ∧
    ((decide ((gt cycle t31) < 0)) = true →
      F_negative_J2 K true t31 I1 μ1) ∧
    ((decide ((gt cycle t31) < 0)) = false →
      F_negative_J2 K (decide (n_.events ≤ (gt cycle t31))) t31 I1 μ1)) ∧
  ((decide (t31 < ((cycle.length : Nat) : Int))) = false →
    (pre_bounds n_) ∧
    ∀ r3 : List (List Int), r3 = (sp_bounds n_) →
    ∃ (I2 : Int → Int → Prop) (μ2 : Int → Int → Nat), I2 0 0 ∧ ∀ (sum : Int) (t52 : Int), I2 sum t52 → F_negative_L2 cycle K r3 sum t52 I2 μ2)

def F_negative_J1 (n_ : Network) (cycle : List Int) (K : (Bool × Fault) → Prop) (t27 : Bool) : Prop :=
  ((t27) = true →
    K (false, (⟨9, (-2)⟩ : Fault))) ∧
  ((t27) = false →
    ∃ (I1 : Int → Prop) (μ1 : Int → Nat), I1 0 ∧ ∀ (t31 : Int), I1 t31 → F_negative_L1 n_ cycle K t31 I1 μ1)

def F_negative (n_ : Network) (cycle : List Int) (K : (Bool × Fault) → Prop) : Prop :=
  ∀ r2 : Fault, r2 = (sp_validate n_) →
  ((!((r2.code == 0) && (r2.index == 0))) = true →
    K (false, r2)) ∧
  ((!((r2.code == 0) && (r2.index == 0))) = false →
    ((decide (((cycle.length : Nat) : Int) < 2)) = true →
      F_negative_J1 n_ cycle K true) ∧
    ((decide (((cycle.length : Nat) : Int) < 2)) = false →
      F_negative_J1 n_ cycle K (decide (10 < ((cycle.length : Nat) : Int)))))

def F_tightest_J1 (b : Int) (I5 : Int → (List Int) → Prop) (μ5 : Int → (List Int) → Nat) (row7 : List Int) (row9 : List Int) : Prop :=
  I5 (IntKind.i64.wrap (b + 1)) row9 ∧
  μ5 (IntKind.i64.wrap (b + 1)) row9 < μ5 b row7

def F_tightest_J2 (n_ : Network) (K : (List (List Int) × Bool) → Prop) (r2 : Int) (t76 : Bool) (b : Int) (I5 : Int → (List Int) → Prop) (μ5 : Int → (List Int) → Nat) (a2 : Int) (row7 : List Int) (round : Int) : Prop :=
  ((t76) = true →
    ((round == n_.events) = true →
      K (([] : List (List Int)), false)) ∧
    ((round == n_.events) = false →
      (inb row7 a2) ∧
      (inb row7 b) ∧
      ∀ d3 : List Int, d3 = (row7.set (b).toNat (IntKind.i64.wrap ((gt row7 a2) + r2))) →
      F_tightest_J1 b I5 μ5 row7 d3)) ∧
  ((t76) = false →
    F_tightest_J1 b I5 μ5 row7 row7)

def F_tightest_L5 (n_ : Network) (K : (List (List Int) × Bool) → Prop) (b : Int) (I5 : Int → (List Int) → Prop) (μ5 : Int → (List Int) → Nat) (row5 : List Int) (a2 : Int) (I4 : Int → (List Int) → Prop) (μ4 : Int → (List Int) → Nat) (row7 : List Int) (round : Int) : Prop :=
  ((decide (b < n_.events)) = true →
    (pre_direct n_ a2 b) ∧
    ∀ r2 : Int, r2 = (sp_direct n_ a2 b) →
    (inb row7 a2) ∧
    ((decide ((gt row7 a2) < 1000000000)) = true →
      ((decide (r2 < 1000000000)) = true →
        (inb row7 b) ∧
        F_tightest_J2 n_ K r2 (decide ((IntKind.i64.wrap ((gt row7 a2) + r2)) < (gt row7 b))) b I5 μ5 a2 row7 round) ∧
      ((decide (r2 < 1000000000)) = false →
        F_tightest_J2 n_ K r2 false b I5 μ5 a2 row7 round)) ∧
    ((decide ((gt row7 a2) < 1000000000)) = false →
      F_tightest_J2 n_ K r2 false b I5 μ5 a2 row7 round)) ∧
  ((decide (b < n_.events)) = false →
    I4 (IntKind.i64.wrap (a2 + 1)) row7 ∧
  μ4 (IntKind.i64.wrap (a2 + 1)) row7 < μ4 a2 row5)

def F_tightest_L4 (n_ : Network) (K : (List (List Int) × Bool) → Prop) (row3 : List Int) (row5 : List Int) (a2 : Int) (I4 : Int → (List Int) → Prop) (μ4 : Int → (List Int) → Nat) (round : Int) (I3 : Int → (List Int) → Prop) (μ3 : Int → (List Int) → Nat) : Prop :=
  ((decide (a2 < n_.events)) = true →
    ∃ (I5 : Int → (List Int) → Prop) (μ5 : Int → (List Int) → Nat), I5 0 row5 ∧ ∀ (b : Int) (row7 : List Int), I5 b row7 → F_tightest_L5 n_ K b I5 μ5 row5 a2 I4 μ4 row7 round) ∧
  ((decide (a2 < n_.events)) = false →
    I3 (IntKind.i64.wrap (round + 1)) row5 ∧
  μ3 (IntKind.i64.wrap (round + 1)) row5 < μ3 round row3)

def F_tightest_L3 (n_ : Network) (K : (List (List Int) × Bool) → Prop) (row3 : List Int) (round : Int) (I3 : Int → (List Int) → Prop) (μ3 : Int → (List Int) → Nat) (i : Int) (all : List (List Int)) (I1 : Int → (List (List Int)) → Prop) (μ1 : Int → (List (List Int)) → Nat) : Prop :=
  ((decide (round ≤ n_.events)) = true →
    ∃ (I4 : Int → (List Int) → Prop) (μ4 : Int → (List Int) → Nat), I4 0 row3 ∧ ∀ (a2 : Int) (row5 : List Int), I4 a2 row5 → F_tightest_L4 n_ K row3 row5 a2 I4 μ4 round I3 μ3) ∧
  ((decide (round ≤ n_.events)) = false →
    (room ((all ++ ([row3] : List (List Int)))).length 24) ∧
    I1 (IntKind.i64.wrap (i + 1)) (all ++ ([row3] : List (List Int))) ∧
  μ1 (IntKind.i64.wrap (i + 1)) (all ++ ([row3] : List (List Int))) < μ1 i all)

def F_tightest_L2 (n_ : Network) (K : (List (List Int) × Bool) → Prop) (j : Int) (row : List Int) (I2 : Int → (List Int) → Prop) (μ2 : Int → (List Int) → Nat) (i : Int) (all : List (List Int)) (I1 : Int → (List (List Int)) → Prop) (μ1 : Int → (List (List Int)) → Nat) : Prop :=
  ((decide (j < n_.events)) = true →
    (inb row j) ∧
    ∀ d : List Int, d = (row.set (j).toNat 1000000000) →
    I2 (IntKind.i64.wrap (j + 1)) d ∧
  μ2 (IntKind.i64.wrap (j + 1)) d < μ2 j row) ∧
  ((decide (j < n_.events)) = false →
    (inb row i) ∧
    ∀ d2 : List Int, d2 = (row.set (i).toNat 0) →
    ∃ (I3 : Int → (List Int) → Prop) (μ3 : Int → (List Int) → Nat), I3 0 d2 ∧ ∀ (round : Int) (row3 : List Int), I3 round row3 → F_tightest_L3 n_ K row3 round I3 μ3 i all I1 μ1)

def F_tightest_L1 (n_ : Network) (K : (List (List Int) × Bool) → Prop) (i : Int) (all : List (List Int)) (I1 : Int → (List (List Int)) → Prop) (μ1 : Int → (List (List Int)) → Nat) : Prop :=
  ((decide (i < n_.events)) = true →
    (mkok n_.events 8) ∧
    ∃ (I2 : Int → (List Int) → Prop) (μ2 : Int → (List Int) → Nat), I2 0 (List.replicate (n_.events).toNat (0 : Int)) ∧ ∀ (j : Int) (row : List Int), I2 j row → F_tightest_L2 n_ K j row I2 μ2 i all I1 μ1) ∧
  ((decide (i < n_.events)) = false →
    K (all, true))

def F_tightest (n_ : Network) (K : (List (List Int) × Bool) → Prop) : Prop :=
  ∃ (I1 : Int → (List (List Int)) → Prop) (μ1 : Int → (List (List Int)) → Nat), I1 0 ([] : List (List Int)) ∧ ∀ (i : Int) (all : List (List Int)), I1 i all → F_tightest_L1 n_ K i all I1 μ1

def F_bounded (K : Bool → Prop) : Prop :=
  ∀ r2 : Network, r2 = (sp_pair 2 5) →
  ∀ r3 : List (List Int) × Bool × Fault, r3 = (sp_minimal r2) →
  ((r3.2.2.code == 0) = true →
    ((r3.2.1) = true →
      (pre_sets r3.1 ([([0, 5] : List Int), ([(-2), 0] : List Int)] : List (List Int))) ∧
      ∀ r4 : Bool, r4 = (sp_sets r3.1 ([([0, 5] : List Int), ([(-2), 0] : List Int)] : List (List Int))) →
      K r4) ∧
    ((r3.2.1) = false →
      K false)) ∧
  ((r3.2.2.code == 0) = false →
    K false)

def F_lawTriangle_J2 (i : Int) (j : Int) (k : Int) (K : Bool → Prop) (r2 : List (List Int) × Bool × Fault) (t74 : Bool) : Prop :=
  ((t74) = true →
    K false) ∧
  ((t74) = false →
    (inb r2.1 i) ∧
    (inb (gt r2.1 i) i) ∧
    (((gt (gt r2.1 i) i) == 0) = true →
      (inb (gt r2.1 i) j) ∧
      (((gt (gt r2.1 i) j) == 1000000000) = true →
        ∀ r4 : Bool, r4 = sp_bounded →
        K r4) ∧
      (((gt (gt r2.1 i) j) == 1000000000) = false →
        (inb r2.1 j) ∧
        (inb (gt r2.1 j) k) ∧
        (((gt (gt r2.1 j) k) == 1000000000) = true →
          ∀ r5 : Bool, r5 = sp_bounded →
          K r5) ∧
        (((gt (gt r2.1 j) k) == 1000000000) = false →
          (inb (gt r2.1 i) k) ∧
          ∀ x : Bool, x = (decide ((gt (gt r2.1 i) k) ≤ (IntKind.i64.wrap ((gt (gt r2.1 i) j) + (gt (gt r2.1 j) k))))) →
          ((x) = true →
            ∀ r6 : Bool, r6 = sp_bounded →
            K r6) ∧
          ((x) = false →
            K false)))) ∧
    (((gt (gt r2.1 i) i) == 0) = false →
      K false))

def F_lawTriangle_J1 (n_ : Network) (i : Int) (j : Int) (k : Int) (K : Bool → Prop) (r2 : List (List Int) × Bool × Fault) (t48 : Bool) : Prop :=
  ((t48) = true →
    ∀ r3 : Bool, r3 = sp_bounded →
    K r3) ∧
  ((t48) = false →
    ((((r2.1.length : Nat) : Int) != n_.events) = true →
      F_lawTriangle_J2 i j k K r2 true) ∧
    ((((r2.1.length : Nat) : Int) != n_.events) = false →
      (inb r2.1 i) ∧
      (((((gt r2.1 i).length : Nat) : Int) != n_.events) = true →
        F_lawTriangle_J2 i j k K r2 true) ∧
      (((((gt r2.1 i).length : Nat) : Int) != n_.events) = false →
        (inb r2.1 j) ∧
        F_lawTriangle_J2 i j k K r2 ((((gt r2.1 j).length : Nat) : Int) != n_.events))))

def F_lawTriangle (n_ : Network) (i : Int) (j : Int) (k : Int) (K : Bool → Prop) : Prop :=
  ∀ r2 : List (List Int) × Bool × Fault, r2 = (sp_minimal n_) →
  ((r2.2.2.code != 0) = true →
    F_lawTriangle_J1 n_ i j k K r2 true) ∧
  ((r2.2.2.code != 0) = false →
    ((!r2.2.1) = true →
      F_lawTriangle_J1 n_ i j k K r2 true) ∧
    ((!r2.2.1) = false →
      ∀ r7 : Bool, r7 = (sp_in_ i 0 (IntKind.i64.wrap (n_.events - 1))) →
      ((!r7) = true →
        F_lawTriangle_J1 n_ i j k K r2 true) ∧
      ((!r7) = false →
        ∀ r8 : Bool, r8 = (sp_in_ j 0 (IntKind.i64.wrap (n_.events - 1))) →
        ((!r8) = true →
          F_lawTriangle_J1 n_ i j k K r2 true) ∧
        ((!r8) = false →
          ∀ r9 : Bool, r9 = (sp_in_ k 0 (IntKind.i64.wrap (n_.events - 1))) →
          F_lawTriangle_J1 n_ i j k K r2 (!r9)))))

def F_lawMoreLinks_J2 (n_ : Network) (i : Int) (j : Int) (K : Bool → Prop) (r2 : List (List Int) × Bool × Fault) (r3 : List (List Int) × Bool × Fault) (t65 : Bool) : Prop :=
  ((t65) = true →
    ∀ r4 : Bool, r4 = sp_bounded →
    K r4) ∧
  ((t65) = false →
    ((r2.2.1) = true →
      ((((r2.1.length : Nat) : Int) == n_.events) = true →
        ((((r3.1.length : Nat) : Int) == n_.events) = true →
          (inb r2.1 i) ∧
          (((((gt r2.1 i).length : Nat) : Int) == n_.events) = true →
            (inb r3.1 i) ∧
            (((((gt r3.1 i).length : Nat) : Int) == n_.events) = true →
              (inb (gt r3.1 i) j) ∧
              (inb (gt r2.1 i) j) ∧
              ((decide ((gt (gt r3.1 i) j) ≤ (gt (gt r2.1 i) j))) = true →
                ∀ r5 : Bool, r5 = sp_bounded →
                K r5) ∧
              ((decide ((gt (gt r3.1 i) j) ≤ (gt (gt r2.1 i) j))) = false →
                K false)) ∧
            (((((gt r3.1 i).length : Nat) : Int) == n_.events) = false →
              K false)) ∧
          (((((gt r2.1 i).length : Nat) : Int) == n_.events) = false →
            K false)) ∧
        ((((r3.1.length : Nat) : Int) == n_.events) = false →
          K false)) ∧
      ((((r2.1.length : Nat) : Int) == n_.events) = false →
        K false)) ∧
    ((r2.2.1) = false →
      K false))

def F_lawMoreLinks_J1 (n_ : Network) (l : Link) (i : Int) (j : Int) (K : Bool → Prop) : Prop :=
  ∀ r2 : List (List Int) × Bool × Fault, r2 = (sp_minimal n_) →
  ∀ r3 : List (List Int) × Bool × Fault, r3 = (sp_minimal (⟨n_.events, ((([] : List Link) ++ n_.links) ++ ([l] : List Link))⟩ : Network)) →
  ((r2.2.2.code != 0) = true →
    F_lawMoreLinks_J2 n_ i j K r2 r3 true) ∧
  ((r2.2.2.code != 0) = false →
    ((r3.2.2.code != 0) = true →
      F_lawMoreLinks_J2 n_ i j K r2 r3 true) ∧
    ((r3.2.2.code != 0) = false →
      ((!r3.2.1) = true →
        F_lawMoreLinks_J2 n_ i j K r2 r3 true) ∧
      ((!r3.2.1) = false →
        ∀ r6 : Bool, r6 = (sp_in_ i 0 (IntKind.i64.wrap (n_.events - 1))) →
        ((!r6) = true →
          F_lawMoreLinks_J2 n_ i j K r2 r3 true) ∧
        ((!r6) = false →
          ∀ r7 : Bool, r7 = (sp_in_ j 0 (IntKind.i64.wrap (n_.events - 1))) →
          F_lawMoreLinks_J2 n_ i j K r2 r3 (!r7)))))

def F_lawMoreLinks (n_ : Network) (l : Link) (i : Int) (j : Int) (K : Bool → Prop) : Prop :=
  (room ((([] : List Link) ++ n_.links)).length 32) ∧
  (room (((([] : List Link) ++ n_.links) ++ ([l] : List Link))).length 32) ∧
  F_lawMoreLinks_J1 n_ l i j K

def F_lawBoundsHold_J1 (n_ : Network) (times : List Int) (i : Int) (j : Int) (K : Bool → Prop) (t42 : Bool) : Prop :=
  ((t42) = true →
    ∀ r3 : Bool, r3 = sp_bounded →
    K r3) ∧
  ((t42) = false →
    ∀ r4 : List (List Int) × Bool × Fault, r4 = (sp_minimal n_) →
    ((r4.2.2.code == 0) = true →
      ((r4.2.1) = true →
        ((((r4.1.length : Nat) : Int) == n_.events) = true →
          (inb r4.1 i) ∧
          (((((gt r4.1 i).length : Nat) : Int) == n_.events) = true →
            (inb times j) ∧
            (inb times i) ∧
            (inb (gt r4.1 i) j) ∧
            ∀ x : Bool, x = (decide ((IntKind.i64.wrap ((gt times j) - (gt times i))) ≤ (gt (gt r4.1 i) j))) →
            ((x) = true →
              ∀ r5 : Bool, r5 = sp_bounded →
              K r5) ∧
            ((x) = false →
              K false)) ∧
          (((((gt r4.1 i).length : Nat) : Int) == n_.events) = false →
            K false)) ∧
        ((((r4.1.length : Nat) : Int) == n_.events) = false →
          K false)) ∧
      ((r4.2.1) = false →
        K false)) ∧
    ((r4.2.2.code == 0) = false →
      K false))

def F_lawBoundsHold (n_ : Network) (times : List Int) (i : Int) (j : Int) (K : Bool → Prop) : Prop :=
  ∀ r2 : Bool × Fault, r2 = (sp_respects n_ times) →
  ((r2.2.code != 0) = true →
    F_lawBoundsHold_J1 n_ times i j K true) ∧
  ((r2.2.code != 0) = false →
    ((!r2.1) = true →
      F_lawBoundsHold_J1 n_ times i j K true) ∧
    ((!r2.1) = false →
      ∀ r6 : Bool, r6 = (sp_in_ i 0 (IntKind.i64.wrap (n_.events - 1))) →
      ((!r6) = true →
        F_lawBoundsHold_J1 n_ times i j K true) ∧
      ((!r6) = false →
        ∀ r7 : Bool, r7 = (sp_in_ j 0 (IntKind.i64.wrap (n_.events - 1))) →
        F_lawBoundsHold_J1 n_ times i j K (!r7))))

def F_lawEarliestIsLeast_L1 (times : List Int) (K : Bool → Prop) (r4 : List Int × Bool × Fault) (i : Int) (I1 : Int → Prop) (μ1 : Int → Nat) : Prop :=
  ((decide (i < ((times.length : Nat) : Int))) = true →
    (inb r4.1 i) ∧
    (inb times i) ∧
    ((decide ((gt times i) < (gt r4.1 i))) = true →
      K false) ∧
    ((decide ((gt times i) < (gt r4.1 i))) = false →
      I1 (IntKind.i64.wrap (i + 1)) ∧
  μ1 (IntKind.i64.wrap (i + 1)) < μ1 i)) ∧
  ((decide (i < ((times.length : Nat) : Int))) = false →
    ∀ r5 : Bool, r5 = sp_bounded →
    K r5)

def F_lawEarliestIsLeast_J2 (times : List Int) (K : Bool → Prop) (r4 : List Int × Bool × Fault) (t44 : Bool) : Prop :=
  ((t44) = true →
    K false) ∧
  ((t44) = false →
    ∃ (I1 : Int → Prop) (μ1 : Int → Nat), I1 0 ∧ ∀ (i : Int), I1 i → F_lawEarliestIsLeast_L1 times K r4 i I1 μ1)

def F_lawEarliestIsLeast_J1 (n_ : Network) (times : List Int) (K : Bool → Prop) (t23 : Bool) : Prop :=
  ((t23) = true →
    ∀ r3 : Bool, r3 = sp_bounded →
    K r3) ∧
  ((t23) = false →
    ∀ r4 : List Int × Bool × Fault, r4 = (sp_earliest n_) →
    ((r4.2.2.code != 0) = true →
      F_lawEarliestIsLeast_J2 times K r4 true) ∧
    ((r4.2.2.code != 0) = false →
      ((!r4.2.1) = true →
        F_lawEarliestIsLeast_J2 times K r4 true) ∧
      ((!r4.2.1) = false →
        F_lawEarliestIsLeast_J2 times K r4 (((r4.1.length : Nat) : Int) != ((times.length : Nat) : Int)))))

def F_lawEarliestIsLeast (n_ : Network) (times : List Int) (K : Bool → Prop) : Prop :=
  ∀ r2 : Bool × Fault, r2 = (sp_respects n_ times) →
  ((r2.2.code != 0) = true →
    F_lawEarliestIsLeast_J1 n_ times K true) ∧
  ((r2.2.code != 0) = false →
    F_lawEarliestIsLeast_J1 n_ times K (!r2.1))

def F_lawMatchesSpec_J6 (k : Int) (I1 : Int → Int → Int → Prop) (μ1 : Int → Int → Int → Nat) (x4 : Int) (x5 : Int) (x8 : Int) (x9 : Int) : Prop :=
  I1 (IntKind.i64.wrap (k + 1)) x8 x9 ∧
  μ1 (IntKind.i64.wrap (k + 1)) x8 x9 < μ1 k x4 x5

def F_lawMatchesSpec_J10 (x12 : Int) (x13 : Int) (k3 : Int) (I2 : Int → Int → Int → Prop) (μ2 : Int → Int → Int → Nat) (x16 : Int) (x17 : Int) : Prop :=
  I2 (IntKind.i64.wrap (k3 + 1)) x16 x17 ∧
  μ2 (IntKind.i64.wrap (k3 + 1)) x16 x17 < μ2 k3 x12 x13

def F_lawMatchesSpec_J11 (n_ : Network) (cycle : List Int) (next : Int) (sum : Int) (k5 : Int) (I3 : Int → Int → Prop) (μ3 : Int → Int → Nat) : Prop :=
  (inb cycle k5) ∧
  (pre_direct n_ (gt cycle k5) next) ∧
  ∀ r15 : Int, r15 = (sp_direct n_ (gt cycle k5) next) →
  I3 (IntKind.i64.wrap (sum + r15)) (IntKind.i64.wrap (k5 + 1)) ∧
  μ3 (IntKind.i64.wrap (sum + r15)) (IntKind.i64.wrap (k5 + 1)) < μ3 sum k5

def F_lawMatchesSpec_L3 (n_ : Network) (cycle : List Int) (K : Bool → Prop) (r6 : Bool × Fault) (sum : Int) (k5 : Int) (I3 : Int → Int → Prop) (μ3 : Int → Int → Nat) : Prop :=
  ((decide (k5 < ((cycle.length : Nat) : Int))) = true →
    (inb cycle (0 : Int)) ∧
    ∀ x18 : Bool, x18 = (decide ((IntKind.i64.wrap (k5 + 1)) < ((cycle.length : Nat) : Int))) →
    ((x18) = true →
      (inb cycle (IntKind.i64.wrap (k5 + 1))) ∧
      F_lawMatchesSpec_J11 n_ cycle (gt cycle (IntKind.i64.wrap (k5 + 1))) sum k5 I3 μ3) ∧
    ((x18) = false →
      F_lawMatchesSpec_J11 n_ cycle (gt cycle (0 : Int)) sum k5 I3 μ3)) ∧
  ((decide (k5 < ((cycle.length : Nat) : Int))) = false →
    ((r6.2.code == 0) = true →
      ((r6.1 == (decide (sum < 0))) = true →
        ∀ r16 : Bool, r16 = sp_bounded →
        K r16) ∧
      ((r6.1 == (decide (sum < 0))) = false →
        K false)) ∧
    ((r6.2.code == 0) = false →
      K false))

def F_lawMatchesSpec_J9 (n_ : Network) (cycle : List Int) (K : Bool → Prop) (r6 : Bool × Fault) (t208 : Bool) (x12 : Int) (x13 : Int) (k3 : Int) (I2 : Int → Int → Int → Prop) (μ2 : Int → Int → Int → Nat) : Prop :=
  ((t208) = true →
    (inb cycle k3) ∧
    ∀ r12 : Bool, r12 = (sp_in_ (gt cycle k3) 0 (IntKind.i64.wrap (n_.events - 1))) →
    ((!r12) = true →
      ∀ r13 : Fault, r13 = (sp_at_ 3 (IntKind.i64.wrap ((-3) - k3))) →
      F_lawMatchesSpec_J10 x12 x13 k3 I2 μ2 r13.code r13.index) ∧
    ((!r12) = false →
      F_lawMatchesSpec_J10 x12 x13 k3 I2 μ2 x12 x13)) ∧
  ((t208) = false →
    ((x12 != 0) = true →
      (((r6.2.code == x12) && (r6.2.index == x13)) = true →
        ((!r6.1) = true →
          ∀ r14 : Bool, r14 = sp_bounded →
          K r14) ∧
        ((!r6.1) = false →
          K false)) ∧
      (((r6.2.code == x12) && (r6.2.index == x13)) = false →
        K false)) ∧
    ((x12 != 0) = false →
      ∃ (I3 : Int → Int → Prop) (μ3 : Int → Int → Nat), I3 0 0 ∧ ∀ (sum : Int) (k5 : Int), I3 sum k5 → F_lawMatchesSpec_L3 n_ cycle K r6 sum k5 I3 μ3))

def F_lawMatchesSpec_L2 (n_ : Network) (cycle : List Int) (K : Bool → Prop) (r6 : Bool × Fault) (x12 : Int) (x13 : Int) (k3 : Int) (I2 : Int → Int → Int → Prop) (μ2 : Int → Int → Int → Nat) : Prop :=
  ((decide (k3 < ((cycle.length : Nat) : Int))) = true →
    F_lawMatchesSpec_J9 n_ cycle K r6 (x12 == 0) x12 x13 k3 I2 μ2) ∧
  ((decide (k3 < ((cycle.length : Nat) : Int))) = false →
    F_lawMatchesSpec_J9 n_ cycle K r6 false x12 x13 k3 I2 μ2)

def F_lawMatchesSpec_J8 (n_ : Network) (cycle : List Int) (K : Bool → Prop) (r6 : Bool × Fault) (x10 : Int) (x11 : Int) : Prop :=
  ∃ (I2 : Int → Int → Int → Prop) (μ2 : Int → Int → Int → Nat), I2 0 x10 x11 ∧ ∀ (k3 : Int) (x12 : Int) (x13 : Int), I2 k3 x12 x13 → F_lawMatchesSpec_L2 n_ cycle K r6 x12 x13 k3 I2 μ2

def F_lawMatchesSpec_J7 (n_ : Network) (cycle : List Int) (K : Bool → Prop) (r6 : Bool × Fault) (t193 : Bool) : Prop :=
  ((t193) = true →
    K false) ∧
  ((t193) = false →
    ∀ r11 : Bool, r11 = (sp_in_ ((cycle.length : Nat) : Int) 2 10) →
    ((!r11) = true →
      ∀ r17 : Fault, r17 = (sp_at_ 9 (-2)) →
      F_lawMatchesSpec_J8 n_ cycle K r6 r17.code r17.index) ∧
    ((!r11) = false →
      F_lawMatchesSpec_J8 n_ cycle K r6 0 0))

def F_lawMatchesSpec_J5 (n_ : Network) (times : List Int) (cycle : List Int) (K : Bool → Prop) (r5 : Bool × Fault) (r6 : Bool × Fault) (k : Int) (I1 : Int → Int → Int → Prop) (μ1 : Int → Int → Int → Nat) (t167 : Bool) (x4 : Int) (x5 : Int) : Prop :=
  ((t167) = true →
    (inb times k) ∧
    ∀ r9 : Bool, r9 = (sp_in_ (gt times k) (-1000000) 1000000) →
    ((!r9) = true →
      ∀ r10 : Fault, r10 = (sp_at_ 3 (IntKind.i64.wrap ((-3) - k))) →
      F_lawMatchesSpec_J6 k I1 μ1 x4 x5 r10.code r10.index) ∧
    ((!r9) = false →
      F_lawMatchesSpec_J6 k I1 μ1 x4 x5 x4 x5)) ∧
  ((t167) = false →
    ((!((r5.2.code == x4) && (r5.2.index == x5))) = true →
      F_lawMatchesSpec_J7 n_ cycle K r6 true) ∧
    ((!((r5.2.code == x4) && (r5.2.index == x5))) = false →
      ((x4 == 0) = true →
        (pre_isSchedule n_ times) ∧
        ∀ r18 : Bool, r18 = (sp_isSchedule n_ times) →
        F_lawMatchesSpec_J7 n_ cycle K r6 (r5.1 != r18)) ∧
      ((x4 == 0) = false →
        F_lawMatchesSpec_J7 n_ cycle K r6 (r5.1 != false))))

def F_lawMatchesSpec_L1 (n_ : Network) (times : List Int) (cycle : List Int) (K : Bool → Prop) (r5 : Bool × Fault) (r6 : Bool × Fault) (k : Int) (I1 : Int → Int → Int → Prop) (μ1 : Int → Int → Int → Nat) (x4 : Int) (x5 : Int) : Prop :=
  ((decide (k < ((times.length : Nat) : Int))) = true →
    F_lawMatchesSpec_J5 n_ times cycle K r5 r6 k I1 μ1 (x4 == 0) x4 x5) ∧
  ((decide (k < ((times.length : Nat) : Int))) = false →
    F_lawMatchesSpec_J5 n_ times cycle K r5 r6 k I1 μ1 false x4 x5)

def F_lawMatchesSpec_J4 (n_ : Network) (times : List Int) (cycle : List Int) (K : Bool → Prop) (r5 : Bool × Fault) (r6 : Bool × Fault) (x2 : Int) (x3 : Int) : Prop :=
  ∃ (I1 : Int → Int → Int → Prop) (μ1 : Int → Int → Int → Nat), I1 0 x2 x3 ∧ ∀ (k : Int) (x4 : Int) (x5 : Int), I1 k x4 x5 → F_lawMatchesSpec_L1 n_ times cycle K r5 r6 k I1 μ1 x4 x5

def F_lawMatchesSpec_J3 (n_ : Network) (times : List Int) (cycle : List Int) (K : Bool → Prop) (r5 : Bool × Fault) (r6 : Bool × Fault) : Prop :=
  ((((times.length : Nat) : Int) != n_.events) = true →
    ∀ r19 : Fault, r19 = (sp_at_ 9 (-2)) →
    F_lawMatchesSpec_J4 n_ times cycle K r5 r6 r19.code r19.index) ∧
  ((((times.length : Nat) : Int) != n_.events) = false →
    F_lawMatchesSpec_J4 n_ times cycle K r5 r6 0 0)

def F_lawMatchesSpec_J12 (K : Bool → Prop) (t148 : Bool) (k7 : Int) (I4 : Int → Prop) (μ4 : Int → Nat) : Prop :=
  ((t148) = true →
    K false) ∧
  ((t148) = false →
    I4 (IntKind.i64.wrap (k7 + 1)) ∧
  μ4 (IntKind.i64.wrap (k7 + 1)) < μ4 k7)

def F_lawMatchesSpec_L4 (n_ : Network) (times : List Int) (cycle : List Int) (K : Bool → Prop) (r4 : List Int × Bool × Fault) (r5 : Bool × Fault) (r6 : Bool × Fault) (r8 : List (List Int) × Bool) (k7 : Int) (I4 : Int → Prop) (μ4 : Int → Nat) : Prop :=
  ((decide (k7 < n_.events)) = true →
    ((((r4.1.length : Nat) : Int) != n_.events) = true →
      F_lawMatchesSpec_J12 K true k7 I4 μ4) ∧
    ((((r4.1.length : Nat) : Int) != n_.events) = false →
      (inb r4.1 k7) ∧
      (inb r8.1 k7) ∧
      (inb (gt r8.1 k7) (0 : Int)) ∧
      ∀ x19 : Bool, x19 = ((gt r4.1 k7) != (IntKind.i64.wrap (0 - (gt (gt r8.1 k7) (0 : Int))))) →
      F_lawMatchesSpec_J12 K x19 k7 I4 μ4)) ∧
  ((decide (k7 < n_.events)) = false →
    F_lawMatchesSpec_J3 n_ times cycle K r5 r6)

def F_lawMatchesSpec_J2 (n_ : Network) (times : List Int) (cycle : List Int) (K : Bool → Prop) (r4 : List Int × Bool × Fault) (r5 : Bool × Fault) (r6 : Bool × Fault) (r8 : List (List Int) × Bool) (t122 : Bool) : Prop :=
  ((t122) = true →
    K false) ∧
  ((t122) = false →
    ((r8.2) = true →
      ∃ (I4 : Int → Prop) (μ4 : Int → Nat), I4 0 ∧ ∀ (k7 : Int), I4 k7 → F_lawMatchesSpec_L4 n_ times cycle K r4 r5 r6 r8 k7 I4 μ4) ∧
    ((r8.2) = false →
      ((decide (0 < ((r4.1.length : Nat) : Int))) = true →
        K false) ∧
      ((decide (0 < ((r4.1.length : Nat) : Int))) = false →
        F_lawMatchesSpec_J3 n_ times cycle K r5 r6)))

def F_lawMatchesSpec_J1 (n_ : Network) (times : List Int) (cycle : List Int) (K : Bool → Prop) (r2 : Fault) (r3 : List (List Int) × Bool × Fault) (r4 : List Int × Bool × Fault) (r5 : Bool × Fault) (r6 : Bool × Fault) (t65 : Bool) : Prop :=
  ((t65) = true →
    K false) ∧
  ((t65) = false →
    ((r2.code != 0) = true →
      ((!r3.2.1) = true →
        ((!r4.2.1) = true →
          ((!r5.1) = true →
            ((!r6.1) = true →
              (((r5.2.code == r2.code) && (r5.2.index == r2.index)) = true →
                (((r6.2.code == r2.code) && (r6.2.index == r2.index)) = true →
                  ∀ x : Int, x = (IntKind.i64.wrap (((r3.1.length : Nat) : Int) + ((r4.1.length : Nat) : Int))) →
                  ((x == 0) = true →
                    ∀ r7 : Bool, r7 = sp_bounded →
                    K r7) ∧
                  ((x == 0) = false →
                    K false)) ∧
                (((r6.2.code == r2.code) && (r6.2.index == r2.index)) = false →
                  K false)) ∧
              (((r5.2.code == r2.code) && (r5.2.index == r2.index)) = false →
                K false)) ∧
            ((!r6.1) = false →
              K false)) ∧
          ((!r5.1) = false →
            K false)) ∧
        ((!r4.2.1) = false →
          K false)) ∧
      ((!r3.2.1) = false →
        K false)) ∧
    ((r2.code != 0) = false →
      (pre_tightest n_) ∧
      ∀ r8 : List (List Int) × Bool, r8 = (sp_tighten n_) →
      ((r3.2.1 != r8.2) = true →
        F_lawMatchesSpec_J2 n_ times cycle K r4 r5 r6 r8 true) ∧
      ((r3.2.1 != r8.2) = false →
        ((r4.2.1 != r8.2) = true →
          F_lawMatchesSpec_J2 n_ times cycle K r4 r5 r6 r8 true) ∧
        ((r4.2.1 != r8.2) = false →
          (pre_sets r3.1 r8.1) ∧
          ∀ r20 : Bool, r20 = (sp_sets r3.1 r8.1) →
          F_lawMatchesSpec_J2 n_ times cycle K r4 r5 r6 r8 (!r20)))))

def F_lawMatchesSpec (n_ : Network) (times : List Int) (cycle : List Int) (K : Bool → Prop) : Prop :=
  ∀ r2 : Fault, r2 = (sp_validate n_) →
  ∀ r3 : List (List Int) × Bool × Fault, r3 = (sp_minimal n_) →
  ∀ r4 : List Int × Bool × Fault, r4 = (sp_earliest n_) →
  ∀ r5 : Bool × Fault, r5 = (sp_respects n_ times) →
  ∀ r6 : Bool × Fault, r6 = (sp_negative n_ cycle) →
  ∀ r21 : Fault, r21 = (sp_validate n_) →
  ((!((r21.code == r2.code) && (r21.index == r2.index))) = true →
    F_lawMatchesSpec_J1 n_ times cycle K r2 r3 r4 r5 r6 true) ∧
  ((!((r21.code == r2.code) && (r21.index == r2.index))) = false →
    ((!((r3.2.2.code == r2.code) && (r3.2.2.index == r2.index))) = true →
      F_lawMatchesSpec_J1 n_ times cycle K r2 r3 r4 r5 r6 true) ∧
    ((!((r3.2.2.code == r2.code) && (r3.2.2.index == r2.index))) = false →
      F_lawMatchesSpec_J1 n_ times cycle K r2 r3 r4 r5 r6 (!((r4.2.2.code == r2.code) && (r4.2.2.index == r2.index)))))
end Go.Proofs.Ytijicdmpidbacaa.Pl
