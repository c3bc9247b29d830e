import Derived.Test.YtdkbfcmekppnmaaGreatDoorWkTk3
namespace Go.Proofs.YtdkbfcmekppnmaaGreatDoor
open Go.Sx Go.Sy IntKind Tryz
attribute [local irreducible] Go.wpList Go.wpStill Go.wpQuiet Go.Code.wp
set_option maxRecDepth 100000
set_option maxHeartbeats 1000000
set_option linter.unusedVariables false
set_option linter.unusedSimpArgs false
mutual
def spec_l3out_text.l0 : Nat → GL3out → ((List (List Cell)) × (List Cell)) → (List UInt8) → Int → Option (List UInt8)
 | 0, _, _, _, _ => none
 | k128 + 1, x1, t103, x121, x122 => (if x122 < (t103.1.length : Int) then (if x122 > 0 then (if x121.length + ([44] : List UInt8).length ≤ 9223372036854775807 then (spec_l3out_text.l2 k128 x1 t103 x122 (x121 ++ ([44] : List UInt8))) else none) else (spec_l3out_text.l2 k128 x1 t103 x122 x121)) else ((spec_l2is.f t103.2 ([91, 93] : List UInt8) 0).bind fun t182 => (if ¬ (t182 = true) then ((spec_l3out_text.f k128 x1 t103.2 999).bind fun t189 => (if ([124] : List UInt8).length + t189.length ≤ 9223372036854775807 then (if x121.length + (([124] : List UInt8) ++ t189).length ≤ 9223372036854775807 then (spec_l3out_text.l3 k128 (x121 ++ (([124] : List UInt8) ++ t189))) else none) else none)) else (spec_l3out_text.l3 k128 x121))))
def spec_l3out_text.l1 : Nat → GL3out → ((List (List Cell)) × (List Cell)) → Int → (List UInt8) → Option (List UInt8)
 | 0, _, _, _, _ => none
 | k138 + 1, x1, t103, x122, x133 => (spec_l3out_text.l0 k138 x1 t103 x133 (i64.wrap (x122 + 1)))
def spec_l3out_text.l2 : Nat → GL3out → ((List (List Cell)) × (List Cell)) → Int → (List UInt8) → Option (List UInt8)
 | 0, _, _, _, _ => none
 | k147 + 1, x1, t103, x122, x142 => (if 0 ≤ x122 then ((spec_l3out_text.f k147 x1 (t103.1.getD ((x122).toNat) ([] : List Cell)) 999).bind fun t164 => (if x142.length + t164.length ≤ 9223372036854775807 then (spec_l3out_text.l1 k147 x1 t103 x122 (x142 ++ t164)) else none)) else none)
def spec_l3out_text.l3 : Nat → (List UInt8) → Option (List UInt8)
 | 0, _ => none
 | k180 + 1, x175 => (if x175.length + ([93] : List UInt8).length ≤ 9223372036854775807 then some (x175 ++ ([93] : List UInt8)) else none)
def spec_l3out_compound.l0 : Nat → GL3out → Int → (List (List Cell)) → Int → (List UInt8) → Option (List UInt8)
 | 0, _, _, _, _, _ => none
 | k83 + 1, x1, x17, t18, t30, x78 => ((spec_l3prefix.f ((x1.ops_.getD ((t30).toNat) z86).typ)).bind fun t86 => (if t86 = true then (if 0 < (t18.length : Int) then ((spec_l3right.f (x1.ops_.getD ((t30).toNat) z86)).bind fun t111 => ((spec_l3out_operand.f k83 x1 (t18.getD 0 ([] : List Cell)) t111 false (x1.ops_.getD ((t30).toNat) z86)).bind fun t113 => ((spec_l3gap.f k83 x78 t113).bind fun t119 => (if t113 ≠ ([] : List UInt8) then (if 0 < (t113.length : Int) then (if ((t113.getD (0 : Int).toNat (0 : UInt8)).toNat : Int) = 40 then (spec_l3out_compound.l1 k83 x1 x17 t30 x78 t113 ([32] : List UInt8)) else (if (x1.ops_.getD ((t30).toNat) z86).name = ([45] : List UInt8) then ((spec_l1digit.f (t113.getD (0 : Int).toNat (0 : UInt8))).bind fun t138 => (if t138 = true then (spec_l3out_compound.l1 k83 x1 x17 t30 x78 t113 ([32] : List UInt8)) else (spec_l3out_compound.l1 k83 x1 x17 t30 x78 t113 t119))) else (spec_l3out_compound.l1 k83 x1 x17 t30 x78 t113 t119))) else none) else (spec_l3out_compound.l1 k83 x1 x17 t30 x78 t113 t119))))) else none) else (if 0 < (t18.length : Int) then ((spec_l3left.f (x1.ops_.getD ((t30).toNat) z86)).bind fun t186 => ((spec_l3out_operand.f k83 x1 (t18.getD 0 ([] : List Cell)) t186 true (x1.ops_.getD ((t30).toNat) z86)).bind fun t188 => ((spec_l3gap.f k83 t188 x78).bind fun t194 => ((spec_l3spaced.f k83 ((x1.ops_.getD ((t30).toNat) z86).name)).bind fun t209 => (if t209 = true then (spec_l3out_compound.l3 k83 x1 x17 t18 t30 x78 t188 ([32] : List UInt8)) else (spec_l3out_compound.l3 k83 x1 x17 t18 t30 x78 t188 t194)))))) else none)))
def spec_l3out_compound.l1 : Nat → GL3out → Int → Int → (List UInt8) → (List UInt8) → (List UInt8) → Option (List UInt8)
 | 0, _, _, _, _, _, _ => none
 | k132 + 1, x1, x17, t30, x78, t113, x127 => ((spec_l3spaced.f k132 ((x1.ops_.getD ((t30).toNat) z86).name)).bind fun t154 => (if t154 = true then (spec_l3out_compound.l2 k132 x1 x17 t30 x78 t113 ([32] : List UInt8)) else (spec_l3out_compound.l2 k132 x1 x17 t30 x78 t113 x127)))
def spec_l3out_compound.l2 : Nat → GL3out → Int → Int → (List UInt8) → (List UInt8) → (List UInt8) → Option (List UInt8)
 | 0, _, _, _, _, _, _ => none
 | k152 + 1, x1, x17, t30, x78, t113, x147 => (if x78.length + x147.length ≤ 9223372036854775807 then (if (x78 ++ x147).length + t113.length ≤ 9223372036854775807 then (if ((x1.ops_.getD ((t30).toNat) z86).pri) > x17 then (if ([40] : List UInt8).length + ((x78 ++ x147) ++ t113).length ≤ 9223372036854775807 then (if (([40] : List UInt8) ++ ((x78 ++ x147) ++ t113)).length + ([41] : List UInt8).length ≤ 9223372036854775807 then some ((([40] : List UInt8) ++ ((x78 ++ x147) ++ t113)) ++ ([41] : List UInt8)) else none) else none) else some ((x78 ++ x147) ++ t113)) else none) else none)
def spec_l3out_compound.l3 : Nat → GL3out → Int → (List (List Cell)) → Int → (List UInt8) → (List UInt8) → (List UInt8) → Option (List UInt8)
 | 0, _, _, _, _, _, _, _ => none
 | k207 + 1, x1, x17, t18, t30, x78, t188, x202 => (if t188.length + x202.length ≤ 9223372036854775807 then (if (t188 ++ x202).length + x78.length ≤ 9223372036854775807 then ((spec_l3infix.f ((x1.ops_.getD ((t30).toNat) z86).typ)).bind fun t218 => (if t218 = true then (if 1 < (t18.length : Int) then ((spec_l3right.f (x1.ops_.getD ((t30).toNat) z86)).bind fun t236 => ((spec_l3out_operand.f k207 x1 (t18.getD 1 ([] : List Cell)) t236 false (x1.ops_.getD ((t30).toNat) z86)).bind fun t238 => ((spec_l3gap.f k207 x78 t238).bind fun t244 => ((spec_l3spaced.f k207 ((x1.ops_.getD ((t30).toNat) z86).name)).bind fun t259 => (if t259 = true then (spec_l3out_compound.l4 k207 x1 x17 t30 x78 t188 x202 t238 ([32] : List UInt8)) else (spec_l3out_compound.l4 k207 x1 x17 t30 x78 t188 x202 t238 t244)))))) else none) else (if ((x1.ops_.getD ((t30).toNat) z86).pri) > x17 then (if ([40] : List UInt8).length + ((t188 ++ x202) ++ x78).length ≤ 9223372036854775807 then (if (([40] : List UInt8) ++ ((t188 ++ x202) ++ x78)).length + ([41] : List UInt8).length ≤ 9223372036854775807 then some ((([40] : List UInt8) ++ ((t188 ++ x202) ++ x78)) ++ ([41] : List UInt8)) else none) else none) else some ((t188 ++ x202) ++ x78)))) else none) else none)
def spec_l3out_compound.l4 : Nat → GL3out → Int → Int → (List UInt8) → (List UInt8) → (List UInt8) → (List UInt8) → (List UInt8) → Option (List UInt8)
 | 0, _, _, _, _, _, _, _, _ => none
 | k257 + 1, x1, x17, t30, x78, t188, x202, t238, x252 => (if x252.length + t238.length ≤ 9223372036854775807 then (if ((t188 ++ x202) ++ x78).length + (x252 ++ t238).length ≤ 9223372036854775807 then (if ((x1.ops_.getD ((t30).toNat) z86).pri) > x17 then (if ([40] : List UInt8).length + (((t188 ++ x202) ++ x78) ++ (x252 ++ t238)).length ≤ 9223372036854775807 then (if (([40] : List UInt8) ++ (((t188 ++ x202) ++ x78) ++ (x252 ++ t238))).length + ([41] : List UInt8).length ≤ 9223372036854775807 then some ((([40] : List UInt8) ++ (((t188 ++ x202) ++ x78) ++ (x252 ++ t238))) ++ ([41] : List UInt8)) else none) else none) else some (((t188 ++ x202) ++ x78) ++ (x252 ++ t238))) else none) else none)
def spec_l3out_plain.l0 : Nat → GL3out → (List (List Cell)) → (List UInt8) → Option (List UInt8)
 | 0, _, _, _ => none
 | k46 + 1, x1, x17, x41 => (if x41.length + ([40] : List UInt8).length ≤ 9223372036854775807 then (spec_l3out_plain.l1 k46 x1 x17 (x41 ++ ([40] : List UInt8)) 0) else none)
def spec_l3out_plain.l1 : Nat → GL3out → (List (List Cell)) → (List UInt8) → Int → Option (List UInt8)
 | 0, _, _, _, _ => none
 | k65 + 1, x1, x17, x58, x59 => (if x59 < (x17.length : Int) then (if x59 > 0 then (if x58.length + ([44] : List UInt8).length ≤ 9223372036854775807 then (spec_l3out_plain.l2 k65 x1 x17 x59 (x58 ++ ([44] : List UInt8))) else none) else (spec_l3out_plain.l2 k65 x1 x17 x59 x58)) else (if x58.length + ([41] : List UInt8).length ≤ 9223372036854775807 then some (x58 ++ ([41] : List UInt8)) else none))
def spec_l3out_plain.l2 : Nat → GL3out → (List (List Cell)) → Int → (List UInt8) → Option (List UInt8)
 | 0, _, _, _, _ => none
 | k74 + 1, x1, x17, x59, x69 => (if 0 ≤ x59 then ((spec_l3out_text.f k74 x1 (x17.getD ((x59).toNat) ([] : List Cell)) 999).bind fun t89 => (if x69.length + t89.length ≤ 9223372036854775807 then (spec_l3out_plain.l1 k74 x1 x17 (x69 ++ t89) (i64.wrap (x59 + 1))) else none)) else none)
def spec_l3out_text.f : Nat → GL3out → (List Cell) → Int → Option (List UInt8)
 | 0, _, _, _ => none
 | k1_ + 1, x1, x12, x17 => (if 0 < (x12.length : Int) then (if ((x12.getD 0 z70).kind) = 0 then (if ((x12.getD 0 z70).n) < (x1.names_.length : Int) then (if 0 ≤ ((x12.getD 0 z70).n) then (if ((x1.names_.getD (((x12.getD 0 z70).n).toNat) ([] : List UInt8)).length : Int) > 0 then some (x1.names_.getD (((x12.getD 0 z70).n).toNat) ([] : List UInt8)) else ((spec_l3dec.f k1_ ((x12.getD 0 z70).n)).bind fun t68 => (if ([95] : List UInt8).length + t68.length ≤ 9223372036854775807 then some (([95] : List UInt8) ++ t68) else none))) else none) else ((spec_l3dec.f k1_ ((x12.getD 0 z70).n)).bind fun t75 => (if ([95] : List UInt8).length + t75.length ≤ 9223372036854775807 then some (([95] : List UInt8) ++ t75) else none))) else (if ((x12.getD 0 z70).kind) = 1 then ((spec_l3dec.f k1_ ((x12.getD 0 z70).n)).bind fun t83 => some t83) else (if ((x12.getD 0 z70).kind) = 2 then ((spec_l3out_atom.f k1_ x1 ((x12.getD 0 z70).text)).bind fun t90 => some t90) else ((spec_l2is.f x12 ([46] : List UInt8) 2).bind fun t96 => (if t96 = true then ((spec_l2items.f k1_ x12).bind fun t103 => (spec_l3out_text.l0 k1_ x1 t103 ([91] : List UInt8) 0)) else ((spec_l2is.f x12 ([123, 125] : List UInt8) 1).bind fun t201 => (if t201 = true then (if 1 ≤ (x12.length : Int) then ((spec_l3out_text.f k1_ x1 (x12.drop ((1 : Int).toNat)) 1200).bind fun t213 => (if ([123] : List UInt8).length + t213.length ≤ 9223372036854775807 then (if (([123] : List UInt8) ++ t213).length + ([125] : List UInt8).length ≤ 9223372036854775807 then some ((([123] : List UInt8) ++ t213) ++ ([125] : List UInt8)) else none) else none)) else none) else ((spec_l3out_compound.f k1_ x1 x12 x17).bind fun t221 => some t221)))))))) else none)
def spec_l3out_compound.f : Nat → GL3out → (List Cell) → Int → Option (List UInt8)
 | 0, _, _, _ => none
 | k1_ + 1, x1, x12, x17 => ((spec_l2args.f k1_ x12).bind fun t18 => ((spec_l3out_top.f k1_ x1 x12).bind fun t30 => (if t30 < 0 then ((spec_l3out_plain.f k1_ x1 x12 t18).bind fun t37 => some t37) else (if 0 ≤ t30 then (if t30 < (x1.ops_.length : Int) then ((spec_l3out_atom.f k1_ x1 ((x1.ops_.getD ((t30).toNat) z86).name)).bind fun t70 => (if (x1.ops_.getD ((t30).toNat) z86).name = ([44] : List UInt8) then (spec_l3out_compound.l0 k1_ x1 x17 t18 t30 ([44] : List UInt8)) else (spec_l3out_compound.l0 k1_ x1 x17 t18 t30 t70))) else none) else none))))
def spec_l3out_plain.f : Nat → GL3out → (List Cell) → (List (List Cell)) → Option (List UInt8)
 | 0, _, _, _ => none
 | k1_ + 1, x1, x12, x17 => (if 0 < (x12.length : Int) then ((spec_l3out_atom.f k1_ x1 ((x12.getD 0 z70).text)).bind fun t33 => (if x1.quoted_ = true then (if t33 = ([91, 93] : List UInt8) then (if ([39] : List UInt8).length + t33.length ≤ 9223372036854775807 then (if (([39] : List UInt8) ++ t33).length + ([39] : List UInt8).length ≤ 9223372036854775807 then (spec_l3out_plain.l0 k1_ x1 x17 ((([39] : List UInt8) ++ t33) ++ ([39] : List UInt8))) else none) else none) else (if t33 = ([123, 125] : List UInt8) then (if ([39] : List UInt8).length + t33.length ≤ 9223372036854775807 then (if (([39] : List UInt8) ++ t33).length + ([39] : List UInt8).length ≤ 9223372036854775807 then (spec_l3out_plain.l0 k1_ x1 x17 ((([39] : List UInt8) ++ t33) ++ ([39] : List UInt8))) else none) else none) else (spec_l3out_plain.l0 k1_ x1 x17 t33))) else (spec_l3out_plain.l0 k1_ x1 x17 t33))) else none)
def spec_l3out_operand.f : Nat → GL3out → (List Cell) → Int → Bool → Sy.Op → Option (List UInt8)
 | 0, _, _, _, _, _ => none
 | k1_ + 1, x1, x12, x17, x18, x19 => ((spec_l3out_text.f k1_ x1 x12 x17).bind fun t29 => (if 0 < (x12.length : Int) then (if ((x12.getD 0 z70).kind) = 2 then ((spec_l3find.f k1_ x1.ops_ ((x12.getD 0 z70).text) true).bind fun t57 => (if t57 ≥ 0 then (if ([40] : List UInt8).length + t29.length ≤ 9223372036854775807 then (if (([40] : List UInt8) ++ t29).length + ([41] : List UInt8).length ≤ 9223372036854775807 then some ((([40] : List UInt8) ++ t29) ++ ([41] : List UInt8)) else none) else none) else ((spec_l3find.f k1_ x1.ops_ ((x12.getD 0 z70).text) false).bind fun t76 => (if t76 ≥ 0 then (if ([40] : List UInt8).length + t29.length ≤ 9223372036854775807 then (if (([40] : List UInt8) ++ t29).length + ([41] : List UInt8).length ≤ 9223372036854775807 then some ((([40] : List UInt8) ++ t29) ++ ([41] : List UInt8)) else none) else none) else ((spec_l3out_top.f k1_ x1 x12).bind fun t85 => (if x18 = true then (if t85 ≥ 0 then (if 0 ≤ t85 then (if t85 < (x1.ops_.length : Int) then (if ((x1.ops_.getD ((t85).toNat) z86).pri) = x19.pri then (if x17 = x19.pri then (if ((x1.ops_.getD ((t85).toNat) z86).typ) = 1 then (if ([40] : List UInt8).length + t29.length ≤ 9223372036854775807 then (if (([40] : List UInt8) ++ t29).length + ([41] : List UInt8).length ≤ 9223372036854775807 then some ((([40] : List UInt8) ++ t29) ++ ([41] : List UInt8)) else none) else none) else (if ((x1.ops_.getD ((t85).toNat) z86).typ) = 3 then (if ([40] : List UInt8).length + t29.length ≤ 9223372036854775807 then (if (([40] : List UInt8) ++ t29).length + ([41] : List UInt8).length ≤ 9223372036854775807 then some ((([40] : List UInt8) ++ t29) ++ ([41] : List UInt8)) else none) else none) else some t29)) else some t29) else some t29) else none) else none) else some t29) else some t29)))))) else ((spec_l3out_top.f k1_ x1 x12).bind fun t140 => (if x18 = true then (if t140 ≥ 0 then (if 0 ≤ t140 then (if t140 < (x1.ops_.length : Int) then (if ((x1.ops_.getD ((t140).toNat) z86).pri) = x19.pri then (if x17 = x19.pri then (if ((x1.ops_.getD ((t140).toNat) z86).typ) = 1 then (if ([40] : List UInt8).length + t29.length ≤ 9223372036854775807 then (if (([40] : List UInt8) ++ t29).length + ([41] : List UInt8).length ≤ 9223372036854775807 then some ((([40] : List UInt8) ++ t29) ++ ([41] : List UInt8)) else none) else none) else (if ((x1.ops_.getD ((t140).toNat) z86).typ) = 3 then (if ([40] : List UInt8).length + t29.length ≤ 9223372036854775807 then (if (([40] : List UInt8) ++ t29).length + ([41] : List UInt8).length ≤ 9223372036854775807 then some ((([40] : List UInt8) ++ t29) ++ ([41] : List UInt8)) else none) else none) else some t29)) else some t29) else some t29) else none) else none) else some t29) else some t29))) else none))
end
theorem spec_l3out_text.all : ∀ (K : Nat), (∀ (k : Nat), k < K → ∀ (w : World) (H : Hp) (x1 : GL3out) (g2 : Nat) (A4 : Option Addr) (c5 : Nat) (A8 : Option Addr) (c9 : Nat) (x12 : List Cell) (A13 : Option Addr) (c14 : Nat) (x17 : Int) (h6 : Rd st86 H A4 x1.ops_) (l7 : x1.ops_.length ≤ c5) (h10 : Rd sl5 H A8 x1.names_) (l11 : x1.names_.length ≤ c9) (b3 : H g2 = some (.cells #[.slice A4 x1.ops_.length c5, .slice A8 x1.names_.length c9, .bool x1.quoted_] 80 (0, 0))) (h15 : Rd st70 H A13 x12) (l16 : x12.length ≤ c14) (S : Own [] H w) (r : List UInt8) (M : spec_l3out_text.f k x1 x12 x17 = some r), Calls Tryz.prog 61 #[.pointer (some ⟨g2, 0, none⟩), .slice A13 x12.length c14, .int .i64 x17] w (fun e e_w => e = .returned (str r) ∧ Chg no w e_w)) ∧ (∀ (k : Nat), k < K → ∀ (w : World) (H : Hp) (x1 : GL3out) (g2 : Nat) (A4 : Option Addr) (c5 : Nat) (A8 : Option Addr) (c9 : Nat) (x12 : List Cell) (A13 : Option Addr) (c14 : Nat) (x17 : Int) (h6 : Rd st86 H A4 x1.ops_) (l7 : x1.ops_.length ≤ c5) (h10 : Rd sl5 H A8 x1.names_) (l11 : x1.names_.length ≤ c9) (b3 : H g2 = some (.cells #[.slice A4 x1.ops_.length c5, .slice A8 x1.names_.length c9, .bool x1.quoted_] 80 (0, 0))) (h15 : Rd st70 H A13 x12) (l16 : x12.length ≤ c14) (S : Own [] H w) (r : List UInt8) (M : spec_l3out_compound.f k x1 x12 x17 = some r), Calls Tryz.prog 80 #[.pointer (some ⟨g2, 0, none⟩), .slice A13 x12.length c14, .int .i64 x17] w (fun e e_w => e = .returned (str r) ∧ Chg no w e_w)) ∧ (∀ (k : Nat), k < K → ∀ (w : World) (H : Hp) (x1 : GL3out) (g2 : Nat) (A4 : Option Addr) (c5 : Nat) (A8 : Option Addr) (c9 : Nat) (x12 : List Cell) (A13 : Option Addr) (c14 : Nat) (x17 : List (List Cell)) (A18 : Option Addr) (c19 : Nat) (h6 : Rd st86 H A4 x1.ops_) (l7 : x1.ops_.length ≤ c5) (h10 : Rd sl5 H A8 x1.names_) (l11 : x1.names_.length ≤ c9) (b3 : H g2 = some (.cells #[.slice A4 x1.ops_.length c5, .slice A8 x1.names_.length c9, .bool x1.quoted_] 80 (0, 0))) (h15 : Rd st70 H A13 x12) (l16 : x12.length ≤ c14) (h20 : Rd sl70 H A18 x17) (l21 : x17.length ≤ c19) (S : Own [] H w) (r : List UInt8) (M : spec_l3out_plain.f k x1 x12 x17 = some r), Calls Tryz.prog 86 #[.pointer (some ⟨g2, 0, none⟩), .slice A13 x12.length c14, .slice A18 x17.length c19] w (fun e e_w => e = .returned (str r) ∧ Chg no w e_w)) ∧ (∀ (k : Nat), k < K → ∀ (w : World) (H : Hp) (x1 : GL3out) (g2 : Nat) (A4 : Option Addr) (c5 : Nat) (A8 : Option Addr) (c9 : Nat) (x12 : List Cell) (A13 : Option Addr) (c14 : Nat) (x17 : Int) (x18 : Bool) (x19 : Sy.Op) (A20 : Option Addr) (c21 : Nat) (h6 : Rd st86 H A4 x1.ops_) (l7 : x1.ops_.length ≤ c5) (h10 : Rd sl5 H A8 x1.names_) (l11 : x1.names_.length ≤ c9) (b3 : H g2 = some (.cells #[.slice A4 x1.ops_.length c5, .slice A8 x1.names_.length c9, .bool x1.quoted_] 80 (0, 0))) (h15 : Rd st70 H A13 x12) (l16 : x12.length ≤ c14) (h22 : Rd tByte H A20 x19.name) (l23 : x19.name.length ≤ c21) (S : Own [] H w) (r : List UInt8) (M : spec_l3out_operand.f k x1 x12 x17 x18 x19 = some r), Calls Tryz.prog 87 #[.pointer (some ⟨g2, 0, none⟩), .slice A13 x12.length c14, .int .i64 x17, .bool x18, .agg #[.slice A20 x19.name.length c21, .int .i64 x19.pri, .int .i64 x19.typ]] w (fun e e_w => e = .returned (str r) ∧ Chg no w e_w)) := by
 intro K
 induction K with
 | zero => exact ⟨fun k hk => by omega, fun k hk => by omega, fun k hk => by omega, fun k hk => by omega⟩
 | succ K ih =>
  refine ⟨?_, ?_, ?_, ?_⟩
  ·intro k hk w H x1 g2 A4 c5 A8 c9 x12 A13 c14 x17 h6 l7 h10 l11 b3 h15 l16 S r M
   rcases k with _ | k1_
   ·rw [spec_l3out_text.f] at M
    cases M
   rw [spec_l3out_text.f] at M
   refine enter (l := [.pointer (some ⟨g2, 0, none⟩), .slice A13 x12.length c14, .int .i64 x17]) 112 func61 rfl rfl rfl ?_
   have S0_ := S.st
   refine wQ (wR (lP 1 (wN (tN (wQ (wR (lP 1 ?_)))))))
   obtain ⟨q18, M⟩ := chk M
   obtain ⟨b19, o20, e21⟩ := Rd.addr h15 (show 0 < x12.length by omega)
   obtain ⟨y22, r23, k24⟩ := Rd.at h15 e21 (getD_some z70 (show 0 < x12.length by omega))
   obtain ⟨A25, c26, rfl, l27, h28⟩ := st70_open r23
   refine lV 13 (e_indexAddr (b := b19) (off := o20) (n := x12.length) (c := c14) (sz := 3) (i := 0) (k := .i64) underlying43 e21 kr kr rfl (by omega) q18) (lV 14 (e_loadS (b := b19) (off := o20 + (0 : Int).toNat * 3) (cs := [.int .i64 ((x12.getD 0 z70).kind), .int .i64 ((x12.getD 0 z70).n), .slice A25 ((x12.getD 0 z70).text).length c26]) underlying70 rfl kr kr (fun j_ u_ e_ => (hpx (S0_.inv.cell (k24 j_ u_ e_))))) ?_)
   refine lW 7 (nB #[.int .i64 0, .int .i64 0, .slice none 0 0] 70 S0_) ?_
   rintro _ w29 ⟨g30, rfl, b31, S32, K33⟩
   refine lE (eSa g30 0 [.int .i64 ((x12.getD 0 z70).kind), .int .i64 ((x12.getD 0 z70).n), .slice A25 ((x12.getD 0 z70).text).length c26] S32 b31) ?_
   rintro w34 ⟨b35, S36, K37⟩
   clear b31
   refine wN (tN (wQ (wQ (wR (lP 1 (lV 16 (eB 0 b35) (lP 1 (wN (tN ?_)))))))))
   obtain ⟨q38, M⟩ | ⟨q38, M⟩ := ifc M
   ·refine cT (bT q38) (wQ (wQ ?_))
    refine region_still kr kr S36 ?_
    intro w39 S40 K41
    replace b35 := K41.b 0 b35
    refine sP 1 (sV 19 (eB 1 b35) (sP 3 (sV 23 (eB 1 (S40.inv _ _ b3)) (sP 3 ?_))))
    obtain ⟨q42, M⟩ | ⟨q42, M⟩ := ifd M
    ·refine sP1 11 26 (bF q42) (wpStill_nil (tN (cond_f rfl kr (wK (tN (wQ (wR (lP 1 (lV 48 (eB 1 b35) ?_)))))))))
     obtain ⟨t75, u76, M⟩ := bnd M
     refine lC 49 (eE func76) (spec_l3dec.calls  S40.own0 u76) ?_
     rintro _ w77 ⟨rfl, C78⟩
     refine ⟨_, rfl, ?_⟩
     obtain ⟨S79, K80⟩ := S40.still C78
     obtain ⟨q81, M⟩ := chk M
     refine lV 50 (e_sadd (p := ([95] : List UInt8)) (q := t75) rfl kr q81) (lP 1 (wN (tN (wT (tR ?_)))))
     obtain rfl := sj M
     exact ret1 rfl rfl  kr ⟨rfl, S79.chg⟩
    refine sP1 3 26 (bT q42) (sG 30 26 (bT q42) (eB 1 (S40.inv _ _ b3)) (sP1 1 26 (bT q42) (sG 32 26 (bT q42) (eB 1 b35) ?_)))
    obtain ⟨q43, M⟩ := chk M
    obtain ⟨b44, o45, e46⟩ := Rd.addr h10 (show ((x12.getD 0 z70).n).toNat < x1.names_.length by omega)
    obtain ⟨y47, r48, k49⟩ := Rd.at h10 e46 (getD_some ([] : List UInt8) (show ((x12.getD 0 z70).n).toNat < x1.names_.length by omega))
    obtain ⟨A50, c51, rfl, l52, h53⟩ := r48
    refine sG 33 26 (bT q42) (eJ underlying76 e46 q43 q42) (sG 34 26 (bT q42) (eK underlying22 (hpx (S40.inv.cell (k49 0 _ rfl)))) (sP1 3 26 (bT q42) (wpStill_nil (tN ?_))))
    obtain ⟨q54, M⟩ | ⟨q54, M⟩ := ifd M
    ·refine cF (bF q54) (wK (tN (wQ (wR (lP 1 (lV 48 (eB 1 b35) ?_))))))
     obtain ⟨t68, u69, M⟩ := bnd M
     refine lC 49 (eE func76) (spec_l3dec.calls  S40.own0 u69) ?_
     rintro _ w70 ⟨rfl, C71⟩
     refine ⟨_, rfl, ?_⟩
     obtain ⟨S72, K73⟩ := S40.still C71
     obtain ⟨q74, M⟩ := chk M
     refine lV 50 (e_sadd (p := ([95] : List UInt8)) (q := t68) rfl kr q74) (lP 1 (wN (tN (wT (tR ?_)))))
     obtain rfl := sj M
     exact ret1 rfl rfl  kr ⟨rfl, S72.chg⟩
    refine cT (bT q54) (wQ ?_)
    refine region_still kr kr S40 ?_
    intro w55 S56 K57
    replace b35 := K57.b 0 b35
    refine sP 3 (sV 41 (eB 1 (S56.inv _ _ b3)) (sP 1 (sV 43 (eB 1 b35) ?_)))
    obtain ⟨b58, o59, e60⟩ := Rd.addr h10 (show ((x12.getD 0 z70).n).toNat < x1.names_.length by omega)
    obtain ⟨y61, r62, k63⟩ := Rd.at h10 e60 (getD_some ([] : List UInt8) (show ((x12.getD 0 z70).n).toNat < x1.names_.length by omega))
    obtain ⟨A64, c65, rfl, l66, h67⟩ := r62
    refine sV 44 (eJ underlying76 e60 q43 q42) (sV 45 (eK underlying22 (hpx (S56.inv.cell (k63 0 _ rfl)))) (sV 46 (e_conv_bs (A := A64) (n := (x1.names_.getD (((x12.getD 0 z70).n).toNat) ([] : List UInt8)).length) (c := c65) (xs := (x1.names_.getD (((x12.getD 0 z70).n).toNat) ([] : List UInt8))) underlying22 underlying5 underlying9 kr rfl (Rd.bytesE S56.inv h67)) (sP 1 (wpStill_nil (tN (wT (tR (tR ?_))))))))
    obtain rfl := sj M
    exact ret1 rfl rfl  kr ⟨rfl, S56.chg⟩
   refine cF (bF q38) (wK (tN (wQ (wQ (wR (lP 1 (lV 52 (eB 0 b35) (lP 1 (wN (tN ?_))))))))))
   obtain ⟨q82, M⟩ | ⟨q82, M⟩ := ifc M
   ·refine cT (bT q82) (wQ (wR (lP 1 (lV 55 (eB 1 b35) ?_))))
    obtain ⟨t83, u84, M⟩ := bnd M
    refine lC 56 (eE func76) (spec_l3dec.calls  S36.own0 u84) ?_
    rintro _ w85 ⟨rfl, C86⟩
    refine ⟨_, rfl, ?_⟩
    obtain ⟨S87, K88⟩ := S36.still C86
    refine lP 1 (wN (tN (wT (tR ?_))))
    obtain rfl := sj M
    exact ret1 rfl rfl  kr ⟨rfl, S87.chg⟩
   refine cF (bF q82) (wK (tN (wQ (wQ (wR (lP 1 (lV 58 (eB 0 b35) (lP 1 (wN (tN ?_))))))))))
   obtain ⟨q89, M⟩ | ⟨q89, M⟩ := ifc M
   ·refine cT (bT q89) (wQ (wR (lP 2 (lV 62 (eB 2 b35) ?_))))
    obtain ⟨t90, u91, M⟩ := bnd M
    refine lC 63 (eE func77) (spec_l3out_atom.calls x1 h6 l7 h10 l11 b3 h28 l27 S36.own0 u91) ?_
    rintro _ w92 ⟨rfl, C93⟩
    refine ⟨_, rfl, ?_⟩
    obtain ⟨S94, K95⟩ := S36.still C93
    refine lP 1 (wN (tN (wT (tR ?_))))
    obtain rfl := sj M
    exact ret1 rfl rfl  kr ⟨rfl, S94.chg⟩
   refine cF (bF q89) (wK (tN (wQ (wQ (wR (lP 1 ?_))))))
   obtain ⟨t96, u97, M⟩ := bnd M
   refine lC 65 (eE func78) (spec_l2is.calls h15 l16 S36.own0 u97) ?_
   rintro _ w98 ⟨rfl, C99⟩
   refine ⟨_, rfl, ?_⟩
   obtain ⟨S100, K101⟩ := S36.still C99
   refine wN (tN ?_)
   obtain ⟨q102, M⟩ | ⟨q102, M⟩ := ifd M
   ·refine cF (bvf q102 kr) (wK (tN (wQ (wQ (wR (lP 1 ?_))))))
    obtain ⟨t201, u202, M⟩ := bnd M
    refine lC 101 (eE func78) (spec_l2is.calls h15 l16 S100.own0 u202) ?_
    rintro _ w203 ⟨rfl, C204⟩
    refine ⟨_, rfl, ?_⟩
    obtain ⟨S205, K206⟩ := S100.still C204
    refine wN (tN ?_)
    obtain ⟨q207, M⟩ | ⟨q207, M⟩ := ifd M
    ·refine cF (bvf q207 kr) (wK (tN (wQ (wR (lP 3 ?_)))))
     obtain ⟨t221, u222, M⟩ := bnd M
     refine lC 111 (eE func80) (ih.2.1 k1_ (by omega) w203 H x1 g2 A4 c5 A8 c9 x12 A13 c14 x17 h6 l7 h10 l11 b3 h15 l16 S205.own0 t221 u222) ?_
     rintro _ w223 ⟨rfl, C224⟩
     refine ⟨_, rfl, ?_⟩
     obtain ⟨S225, K226⟩ := S205.still C224
     refine lP 1 (wN (tN (wT ?_)))
     obtain rfl := sj M
     exact ret1 rfl rfl  kr ⟨rfl, S225.chg⟩
    refine cT (bvt q207 kr) (wQ (wR (lP 2 ?_)))
    obtain ⟨q208, M⟩ := chk M
    obtain ⟨A209, h212, l211, h210⟩ := Rd.sub1 (d := st70) (n := x12.length) (m := 3) (cap := c14) (a := 1) rfl h15 (by decide) q208 rfl l16
    refine lV 104 (e_slice_l (n := x12.length) (m := 3) (cap := c14) (A := A13) (a := 1) (k := .i64) underlying43 kr kr rfl (by decide) q208 l16 h212) ?_
    obtain ⟨t213, u214, M⟩ := bnd M
    refine lC 105 (eE func61) (ih.1 k1_ (by omega) w203 H x1 g2 A4 c5 A8 c9 (x12.drop ((1 : Int).toNat)) A209 (c14 - ((1 : Int).toNat)) 1200 h6 l7 h10 l11 b3 h210 l211 S205.own0 t213 u214) ?_
    rintro _ w215 ⟨rfl, C216⟩
    refine ⟨_, rfl, ?_⟩
    obtain ⟨S217, K218⟩ := S205.still C216
    obtain ⟨q219, M⟩ := chk M
    refine lV 106 (e_sadd (p := ([123] : List UInt8)) (q := t213) rfl kr q219) ?_
    obtain ⟨q220, M⟩ := chk M
    refine lV 107 (e_sadd (p := (([123] : List UInt8) ++ t213)) (q := ([125] : List UInt8)) kr rfl q220) (lP 1 (wN (tN (wT (tR ?_)))))
    obtain rfl := sj M
    exact ret1 rfl rfl  kr ⟨rfl, S217.chg⟩
   refine cT (bvt q102 kr) (wQ (wR (lP 1 ?_)))
   obtain ⟨t103, u104, M⟩ := bnd M
   refine lC 68 (eE func79) (spec_l2items.calls h15 l16 (St.own' (Fa := []) (Fr := [(is g30)]) S100) u104) ?_
   rintro _ w105 ⟨A108, c109, F111, A112, c113, H106, rfl, h110, h114, l115, T107⟩
   refine ⟨_, rfl, ?_⟩
   obtain ⟨S116, K117⟩ := St.call (Fa := []) (Fr := [(is g30)]) S100 T107
   have E118 := T107.ext
   refine lP 5 (wN (tN (wQ (wR (lP 1 (wN (tN (wQ (wQ (wR (lP 1 (wN (tN (wp_block ?_))))))))))))))
   have S129 := St.first (Fa := [F111]) (Fr := [(is g30)]) S116
   refine wp_loop_g (fun k126 a127 w119 => ∃ (f120 : Nat → Value) (x121 : List UInt8) (x122 : Int), k126 < K ∧ a127 = mk 112 (upd (upd (upd (upd (upd f120 0 (.pointer (some ⟨g2, 0, none⟩))) 8 (.slice A108 t103.1.length c109)) 9 (.slice A112 t103.2.length c113)) 10 (str x121)) 11 (.int .i64 x122)) ∧ Row (ro sl70) 43 H106 (hp w119) F111 A108 c109 t103.1 ∧ St (anyOf []) H w [F111] H106 w119 ∧ spec_l3out_text.l0 k126 x1 t103 x121 x122 = some r) k1_ ⟨_, ([91] : List UInt8), 0, (by omega), (hdw (hdc (hdc (hdc (hdc (hdc rfl kr) kr) kr) kr) kr)), h110, S129, M⟩ ?_
   clear M
   rintro k126 a127 w119 ⟨f120, x121, x122, z124, rfl, h110, S123, M⟩
   rcases k126 with _ | k128
   ·rw [spec_l3out_text.l0] at M
    cases M
   rw [spec_l3out_text.l0] at M
   refine wQ (wQ (wR (lP 4 (wN (tN ?_)))))
   obtain ⟨q130, M⟩ | ⟨q130, M⟩ := ifd M
   ·refine cF (bF q130) (wp_exit (tE (tE (inb_hit (tN ?_)))))
    refine wp_seq_cut (fun a179 w173 => ∃ (k181 : Nat), k181 ≤ k128 ∧ ∃ (f174 : Nat → Value) (x175 : List UInt8), k181 < K ∧ a179 = mk 112 (upd f174 10 (str x175)) ∧ St (anyOf []) H w [] H106 w173 ∧ spec_l3out_text.l3 k181 x175 = some r) ?_ ?_
    ·refine wQ (wR (lP 1 ?_))
     obtain ⟨t182, u183, M⟩ := bnd M
     refine lC 90 (eE func78) (spec_l2is.calls h114 l115 S123.own0 u183) ?_
     rintro _ w184 ⟨rfl, C185⟩
     refine ⟨_, rfl, ?_⟩
     obtain ⟨S186, K187⟩ := S123.still C185
     refine lV 91 (e_notv (c := t182) kr) (wN (tN ?_))
     obtain ⟨q188, M⟩ | ⟨q188, M⟩ := ifd M
     ·refine cF (bF q188) (wK (tN ?_))
      have S198 := St.first (Fa := []) (Fr := [F111]) S186
      exact ⟨k128, (by omega), _, x121, (by omega), (hdw (hdc rfl kr)), S198, M⟩
     refine cT (bT q188) (wR (lP 3 ?_))
     obtain ⟨t189, u190, M⟩ := bnd M
     refine lC 95 (eE func61) (ih.1 k128 (by omega) w184 H106 x1 g2 A4 c5 A8 c9 t103.2 A112 c113 999 (h6.ext E118) l7 (h10.ext E118) l11 (E118 _ _ b3) h114 l115 S186.own0 t189 u190) ?_
     rintro _ w191 ⟨rfl, C192⟩
     refine ⟨_, rfl, ?_⟩
     obtain ⟨S193, K194⟩ := S186.still C192
     obtain ⟨q195, M⟩ := chk M
     refine lV 96 (e_sadd (p := ([124] : List UInt8)) (q := t189) rfl kr q195) ?_
     obtain ⟨q196, M⟩ := chk M
     refine lV 97 (e_sadd (p := x121) (q := (([124] : List UInt8) ++ t189)) kr kr q196) (lP 1 (wN (tN ?_)))
     have S197 := St.first (Fa := []) (Fr := [F111]) S193
     exact ⟨k128, (by omega), _, (x121 ++ (([124] : List UInt8) ++ t189)), (by omega), (hdw (hdc rfl kr)), S197, M⟩
    clear M
    rintro a179 w173 ⟨k181, z200, f174, x175, z177, rfl, S176, M⟩
    rcases k181 with _ | k180
    ·rw [spec_l3out_text.l3] at M
     cases M
    rw [spec_l3out_text.l3] at M
    refine wQ (wR (lP 1 ?_))
    obtain ⟨q199, M⟩ := chk M
    refine lV 99 (e_sadd (p := x175) (q := ([93] : List UInt8)) kr rfl q199) (lP 1 (wN (tN (wT (tR ?_)))))
    obtain rfl := sj M
    exact ret1 rfl rfl  kr ⟨rfl, S176.chg⟩
   refine cT (bT q130) (wK (tN ?_))
   refine wp_seq_cut (fun a137 w131 => ∃ (k139 : Nat), k139 ≤ k128 ∧ ∃ (f132 : Nat → Value) (x133 : List UInt8), k139 < K ∧ a137 = mk 112 (upd (upd (upd (upd (upd f132 0 (.pointer (some ⟨g2, 0, none⟩))) 8 (.slice A108 t103.1.length c109)) 9 (.slice A112 t103.2.length c113)) 10 (str x133)) 11 (.int .i64 x122)) ∧ Row (ro sl70) 43 H106 (hp w131) F111 A108 c109 t103.1 ∧ St (anyOf []) H w [F111] H106 w131 ∧ spec_l3out_text.l1 k139 x1 t103 x122 x133 = some r) ?_ ?_
   ·refine wp_block ?_
    refine wp_seq_cut (fun a146 w140 => ∃ (k148 : Nat), k148 ≤ k128 ∧ ∃ (f141 : Nat → Value) (x142 : List UInt8), k148 < K ∧ a146 = mk 112 (upd (upd (upd (upd (upd f141 0 (.pointer (some ⟨g2, 0, none⟩))) 8 (.slice A108 t103.1.length c109)) 9 (.slice A112 t103.2.length c113)) 10 (str x142)) 11 (.int .i64 x122)) ∧ Row (ro sl70) 43 H106 (hp w140) F111 A108 c109 t103.1 ∧ St (anyOf []) H w [F111] H106 w140 ∧ spec_l3out_text.l2 k148 x1 t103 x122 x142 = some r) ?_ ?_
    ·refine wQ (wR (lP 2 (wN (tN ?_))))
     obtain ⟨q149, M⟩ | ⟨q149, M⟩ := ifd M
     ·refine cF (bF q149) (wK (tN ?_))
      exact ⟨k128, (by omega), _, x121, (by omega), (hdw (hdc (hdc (hdc (hdc (hdc rfl kr) kr) kr) kr) kr)), h110, S123, M⟩
     refine cT (bT q149) (wR (lP 1 ?_))
     obtain ⟨q150, M⟩ := chk M
     refine lV 80 (e_sadd (p := x121) (q := ([44] : List UInt8)) kr rfl q150) (lP 1 (wN (tN ?_)))
     exact ⟨k128, (by omega), _, (x121 ++ ([44] : List UInt8)), (by omega), (hdw (hdc (hdc (hdc (hdc (hdc rfl kr) kr) kr) kr) kr)), h110, S123, M⟩
    clear M
    rintro a146 w140 ⟨k148, z171, f141, x142, z144, rfl, h110, S143, M⟩
    rcases k148 with _ | k147
    ·rw [spec_l3out_text.l2] at M
     cases M
    rw [spec_l3out_text.l2] at M
    refine wR (lP 4 ?_)
    obtain ⟨q151, M⟩ := chk M
    obtain ⟨b152, e154⟩ := Row.addr h110 (show (x122).toNat < t103.1.length by omega)
    refine lV 85 (eJ underlying71 e154 q151 q130) ?_
    obtain ⟨y155, F156, r157, s158, k159⟩ := Row.at h110 e154 (getD_some ([] : List Cell) (show (x122).toNat < t103.1.length by omega))
    obtain ⟨A160, c161, rfl, l162, h163⟩ := r157
    refine lV 86 (eK underlying43 (hpx (k159 0 _ rfl))) ?_
    obtain ⟨t164, u165, M⟩ := bnd M
    refine lC 87 (eE func61) (ih.1 k147 (by omega) w140 H106 x1 g2 A4 c5 A8 c9 (t103.1.getD ((x122).toNat) ([] : List Cell)) A160 c161 999 (h6.ext E118) l7 (h10.ext E118) l11 (E118 _ _ b3) h163 l162 S143.own0 t164 u165) ?_
    rintro _ w166 ⟨rfl, C167⟩
    refine ⟨_, rfl, ?_⟩
    obtain ⟨S168, K169⟩ := S143.still C167
    replace h110 := h110.move (K169.a 0)
    obtain ⟨q170, M⟩ := chk M
    refine lV 88 (e_sadd (p := x142) (q := t164) kr kr q170) (lP 1 (wN (inb_n (tN ?_))))
    exact ⟨k147, (by omega), _, (x142 ++ t164), (by omega), (hdw (hdc (hdc (hdc (hdc (hdc rfl kr) kr) kr) kr) kr)), h110, S168, M⟩
   clear M
   rintro a137 w131 ⟨k139, z172, f132, x133, z135, rfl, h110, S134, M⟩
   rcases k139 with _ | k138
   ·rw [spec_l3out_text.l1] at M
    cases M
   rw [spec_l3out_text.l1] at M
   refine wR (lP 3 (wN (tN ?_)))
   exact ⟨k138, (by omega), _, x133, (i64.wrap (x122 + 1)), (by omega), (hdw (hdc (hdc (hdc (hdc (hdc rfl kr) kr) kr) kr) kr)), h110, S134, M⟩
  ·intro k hk w H x1 g2 A4 c5 A8 c9 x12 A13 c14 x17 h6 l7 h10 l11 b3 h15 l16 S r M
   rcases k with _ | k1_
   ·rw [spec_l3out_compound.f] at M
    cases M
   rw [spec_l3out_compound.f] at M
   refine enter (l := [.pointer (some ⟨g2, 0, none⟩), .slice A13 x12.length c14, .int .i64 x17]) 132 func80 rfl rfl rfl ?_
   have S0_ := S.st
   refine wQ (wR (lP 1 (wN (tN (wQ (wR (lP 1 ?_)))))))
   obtain ⟨t18, u19, M⟩ := bnd M
   refine lC 18 (eE func84) (spec_l2args.calls h15 l16 (St.own' (Fa := []) (Fr := []) S0_) u19) ?_
   rintro _ w20 ⟨A23, c24, F26, H21, rfl, h25, T22⟩
   refine ⟨_, rfl, ?_⟩
   obtain ⟨S27, K28⟩ := St.call (Fa := []) (Fr := []) S0_ T22
   have E29 := T22.ext
   refine lP 1 (wN (tN (wQ (wR (lP 2 ?_)))))
   obtain ⟨t30, u31, M⟩ := bnd M
   refine lC 21 (eE func85) (spec_l3out_top.calls x1 (h6.ext E29) l7 (h10.ext E29) l11 (E29 _ _ b3) (h15.ext E29) l16 S27.own0 u31) ?_
   rintro _ w32 ⟨rfl, C33⟩
   refine ⟨_, rfl, ?_⟩
   obtain ⟨S34, K35⟩ := S27.still C33
   replace h25 := h25.move (K35.a 0)
   refine lP 1 (wN (tN (wQ (wQ (wR (lP 2 (wN (tN ?_))))))))
   obtain ⟨q36, M⟩ | ⟨q36, M⟩ := ifc M
   ·refine cT (bT q36) (wQ (wR (lP 3 ?_)))
    obtain ⟨t37, u38, M⟩ := bnd M
    refine lC 27 (eE func86) (by have l39 := h25.le; obtain ⟨H40, S41, E42, h43, z44⟩ := S34.frzRow h25; replace h43 := h43.unro; exact (ih.2.2.1 k1_ (by omega) w32 H40 x1 g2 A4 c5 A8 c9 x12 A13 c14 t18 A23 c24 (h6.ext (E29.trans E42)) l7 (h10.ext (E29.trans E42)) l11 ((E29.trans E42) _ _ b3) (h15.ext (E29.trans E42)) l16 h43 l39 S41.own0 t37 u38)) ?_
    rintro _ w45 ⟨rfl, C46⟩
    refine ⟨_, rfl, ?_⟩
    obtain ⟨S47, K48⟩ := S34.still C46
    refine lP 1 (wN (tN (wT (tR ?_))))
    obtain rfl := sj M
    exact ret1 rfl rfl  kr ⟨rfl, S47.chg⟩
   refine cF (bF q36) (wK (tN (wQ (wR (lP 3 (lV 31 (eB 0 (S34.inv _ _ (E29 _ _ b3))) (lP 1 ?_)))))))
   obtain ⟨q49, M⟩ := chk M
   obtain ⟨q50, M⟩ := chk M
   obtain ⟨b51, o52, e53⟩ := Rd.addr h6 (show (t30).toNat < x1.ops_.length by omega)
   obtain ⟨y54, r55, k56⟩ := Rd.at h6 e53 (getD_some z86 (show (t30).toNat < x1.ops_.length by omega))
   obtain ⟨A57, c58, rfl, l59, h60⟩ := st86_open r55
   refine lV 33 (eJ underlying48 e53 q49 q50) (lV 34 (e_loadS (b := b51) (off := o52 + (t30 : Int).toNat * 3) (cs := [.slice A57 ((x1.ops_.getD ((t30).toNat) z86).name).length c58, .int .i64 ((x1.ops_.getD ((t30).toNat) z86).pri), .int .i64 ((x1.ops_.getD ((t30).toNat) z86).typ)]) underlying86 rfl kr kr (fun j_ u_ e_ => (hpx (S34.inv.cell (E29.cell (k56 j_ u_ e_)))))) ?_)
   refine lW 9 (nB #[.slice none 0 0, .int .i64 0, .int .i64 0] 86 S34) ?_
   rintro _ w61 ⟨g62, rfl, b63, S64, K65⟩
   replace h25 := h25.move (K65.a 0)
   refine lE (eSa g62 0 [.slice A57 ((x1.ops_.getD ((t30).toNat) z86).name).length c58, .int .i64 ((x1.ops_.getD ((t30).toNat) z86).pri), .int .i64 ((x1.ops_.getD ((t30).toNat) z86).typ)] S64 b63) ?_
   rintro w66 ⟨b67, S68, K69⟩
   replace h25 := h25.move (K69.a 0)
   clear b63
   refine wN (tN (wQ (wR (lP 2 (lV 37 (eB 0 b67) ?_)))))
   obtain ⟨t70, u71, M⟩ := bnd M
   refine lC 38 (eE func77) (spec_l3out_atom.calls x1 (h6.ext E29) l7 (h10.ext E29) l11 (E29 _ _ b3) (h60.ext E29) l59 S68.own0 u71) ?_
   rintro _ w72 ⟨rfl, C73⟩
   refine ⟨_, rfl, ?_⟩
   obtain ⟨S74, K75⟩ := S68.still C73
   replace b67 := K75.b 0 b67
   replace h25 := h25.move (K75.a 1)
   refine lP 1 (wN (tN ?_))
   refine wp_seq_cut (fun a82 w76 => ∃ (k84 : Nat), k84 ≤ k1_ ∧ ∃ (f77 : Nat → Value) (x78 : List UInt8), k84 < K ∧ a82 = mk 132 (upd (upd (upd (upd (upd f77 0 (.pointer (some ⟨g2, 0, none⟩))) 2 (.int .i64 x17)) 7 (.slice A23 t18.length c24)) 9 (.pointer (some ⟨g62, 0, none⟩))) 10 (str x78)) ∧ w76.heap[g62]? = some (.cells #[.slice A57 ((x1.ops_.getD ((t30).toNat) z86).name).length c58, .int .i64 ((x1.ops_.getD ((t30).toNat) z86).pri), .int .i64 ((x1.ops_.getD ((t30).toNat) z86).typ)] 86 (0, 0)) ∧ Row (ro sl70) 43 H21 (hp w76) F26 A23 c24 t18 ∧ St (anyOf []) H w [(is g62), F26] H21 w76 ∧ spec_l3out_compound.l0 k84 x1 x17 t18 t30 x78 = some r) ?_ ?_
   ·refine wQ (wR (lP 1 (lV 40 (eB 0 b67) (lV 41 (e_conv_bs (A := A57) (n := ((x1.ops_.getD ((t30).toNat) z86).name).length) (c := c58) (xs := (x1.ops_.getD ((t30).toNat) z86).name) underlying22 underlying5 underlying9 kr rfl (Rd.bytesE S74.inv (h60.ext E29))) (lV 42 (e_seql (p := (x1.ops_.getD ((t30).toNat) z86).name) (q := ([44] : List UInt8)) kr rfl) (wN (tN ?_)))))))
    obtain ⟨q85, M⟩ | ⟨q85, M⟩ := ifd M
    ·refine cF (bF q85) (wK (tN ?_))
     exact ⟨k1_, (by omega), _, t70, (by omega), (hdw (hdc (hdc (hdc (hdc (hdc rfl kr) kr) kr) kr) kr)), b67, h25, S74, M⟩
    refine cT (bT q85) (wR (lP 1 (wN (tN ?_))))
    exact ⟨k1_, (by omega), _, ([44] : List UInt8), (by omega), (hdw (hdc (hdc (hdc (hdc (hdc rfl kr) kr) kr) kr) kr)), b67, h25, S74, M⟩
   clear M
   rintro a82 w76 ⟨k84, z276, f77, x78, z80, rfl, b67, h25, S79, M⟩
   rcases k84 with _ | k83
   ·rw [spec_l3out_compound.l0] at M
    cases M
   rw [spec_l3out_compound.l0] at M
   refine wQ (wR (lP 1 (wN (tN (wQ (wQ (wR (lP 1 (lV 44 (eB 2 b67) ?_)))))))))
   obtain ⟨t86, u87, M⟩ := bnd M
   refine lC 45 (eE func75) (spec_l3prefix.calls  S79.own0 u87) ?_
   rintro _ w88 ⟨rfl, C89⟩
   refine ⟨_, rfl, ?_⟩
   obtain ⟨S90, K91⟩ := S79.still C89
   replace b67 := K91.b 0 b67
   replace h25 := h25.move (K91.a 1)
   refine wN (tN ?_)
   obtain ⟨q92, M⟩ | ⟨q92, M⟩ := ifc M
   ·refine cT (bvt q92 kr) (wQ ?_)
    have l93 := h25.le
    have S94 := S90.pulls [F26, (is g62)] [1] rfl
    obtain ⟨H95, S96, E97, h98, z99⟩ := S94.frzRow h25
    replace h98 := h98.unro
    refine region_quiet kr kr (qV 46 (fun wq_ hq_ => eM (.pointer (some ⟨g2, 0, none⟩))) (qV 47 (fun wq_ hq_ => eM (.slice A23 t18.length c24)) ?_))
    obtain ⟨q100, M⟩ := chk M
    obtain ⟨b101, o102, e103⟩ := Rd.addr h98 (show 0 < t18.length by omega)
    obtain ⟨y104, r105, k106⟩ := Rd.at h98 e103 (getD_some ([] : List Cell) (show 0 < t18.length by omega))
    obtain ⟨A107, c108, rfl, l109, h110⟩ := r105
    refine qV 48 (fun wq_ hq_ => e_indexAddr (b := b101) (off := o102) (n := t18.length) (c := c24) (sz := 1) (i := 0) (k := .i64) underlying71 e103 kr kr rfl (by omega) q100) (qV 49 (fun wq_ hq_ => eK underlying43 (hpx ((S96.still hq_).1.inv.cell (k106 0 _ rfl)))) (qV 50 (fun wq_ hq_ => e_loadS (b := g62) (off := 0) (cs := [.slice A57 ((x1.ops_.getD ((t30).toNat) z86).name).length c58, .int .i64 ((x1.ops_.getD ((t30).toNat) z86).pri), .int .i64 ((x1.ops_.getD ((t30).toNat) z86).typ)]) underlying86 rfl kr kr (blk_cells ((S96.still hq_).2.blk 0 rfl b67) rfl)) ?_))
    obtain ⟨t111, u112, M⟩ := bnd M
    refine qcall (v := .int .i64 t111) (d := 51) rfl rfl kr (fun w_ => eE func88) (fun wq_ hq_ => (by obtain ⟨S_, K_⟩ := S96.still hq_; replace b67 := K_.b 0 b67; exact (spec_l3right.calls (x1.ops_.getD ((t30).toNat) z86) (h60.ext (E29.trans E97)) l59 S_.own0 u112))) (qV 52 (fun wq_ hq_ => e_loadS (b := g62) (off := 0) (cs := [.slice A57 ((x1.ops_.getD ((t30).toNat) z86).name).length c58, .int .i64 ((x1.ops_.getD ((t30).toNat) z86).pri), .int .i64 ((x1.ops_.getD ((t30).toNat) z86).typ)]) underlying86 rfl kr kr (blk_cells ((S96.still hq_).2.blk 0 rfl b67) rfl)) ?_)
    obtain ⟨t113, u114, M⟩ := bnd M
    refine qcall (v := str t113) (d := 53) rfl rfl kr (fun w_ => eE func87) (fun wq_ hq_ => (by obtain ⟨S_, K_⟩ := S96.still hq_; replace b67 := K_.b 0 b67; exact (ih.2.2.2 k83 (by omega) wq_ H95 x1 g2 A4 c5 A8 c9 (t18.getD 0 ([] : List Cell)) A107 c108 t111 false (x1.ops_.getD ((t30).toNat) z86) A57 c58 (h6.ext (E29.trans E97)) l7 (h10.ext (E29.trans E97)) l11 ((E29.trans E97) _ _ b3) h110 l109 (h60.ext (E29.trans E97)) l59 S_.own0 t113 u114))) (qV 12 (fun wq_ hq_ => eA (str t113)) ?_)
    refine wpQuiet_nil ?_
    intro w115 C118
    obtain ⟨S116, K117⟩ := S96.still C118
    replace b67 := K117.b 0 b67
    refine tN (wQ (wR (lP 2 ?_)))
    obtain ⟨t119, u120, M⟩ := bnd M
    refine lC 56 (eE func89) (spec_l3gap.calls  S116.own0 u120) ?_
    rintro _ w121 ⟨rfl, C122⟩
    refine ⟨_, rfl, ?_⟩
    obtain ⟨S123, K124⟩ := S116.still C122
    replace b67 := K124.b 0 b67
    refine lP 1 (wN (tN ?_))
    refine wp_seq_cut (fun a131 w125 => ∃ (k133 : Nat), k133 ≤ k83 ∧ ∃ (f126 : Nat → Value) (x127 : List UInt8), k133 < K ∧ a131 = mk 132 (upd (upd (upd (upd (upd f126 2 (.int .i64 x17)) 9 (.pointer (some ⟨g62, 0, none⟩))) 10 (str x78)) 12 (str t113)) 13 (str x127)) ∧ w125.heap[g62]? = some (.cells #[.slice A57 ((x1.ops_.getD ((t30).toNat) z86).name).length c58, .int .i64 ((x1.ops_.getD ((t30).toNat) z86).pri), .int .i64 ((x1.ops_.getD ((t30).toNat) z86).typ)] 86 (0, 0)) ∧ St (anyOf []) H w [(is g62)] H95 w125 ∧ spec_l3out_compound.l1 k133 x1 x17 t30 x78 t113 x127 = some r) ?_ ?_
    ·refine wQ (wR (lP 1 (lV 58 (e_sneq (p := t113) (q := ([] : List UInt8)) kr rfl) (lP 1 ?_))))
     obtain ⟨q134, M⟩ | ⟨q134, M⟩ := ifd M
     ·refine lP1 15 59 (bF q134) (wN (tN (cond_f rfl kr (wK (tN ?_)))))
      exact ⟨k83, (by omega), _, t119, (by omega), (hdw (hdc (hdc (hdc (hdc (hdc rfl kr) kr) kr) kr) kr)), b67, S123, M⟩
     refine lP1 1 59 (bT q134) ?_
     obtain ⟨q135, M⟩ := chk M
     refine lG 61 59 (bT q134) (e_sindex (p := t113) (i := 0) (k := .i64) underlying9 kr rfl (by decide) q135) (lP1 2 59 (bT q134) ?_)
     obtain ⟨q136, M⟩ | ⟨q136, M⟩ := ifc M
     ·refine lP2 11 63 (bT q136) 59 (bT q134) (wN (tN (cond_t rfl kr (wR (lP 1 (wN (tN ?_)))))))
      exact ⟨k83, (by omega), _, ([32] : List UInt8), (by omega), (hdw (hdc (hdc (hdc (hdc (hdc rfl kr) kr) kr) kr) kr)), b67, S123, M⟩
     refine lP1 1 63 (bF q136) (lG 65 63 (bF q136) (eB 0 b67) (lG 66 63 (bF q136) (e_conv_bs (A := A57) (n := ((x1.ops_.getD ((t30).toNat) z86).name).length) (c := c58) (xs := (x1.ops_.getD ((t30).toNat) z86).name) underlying22 underlying5 underlying9 kr rfl (Rd.bytesE S123.inv (h60.ext (E29.trans E97)))) (lG 67 63 (bF q136) (e_seql (p := (x1.ops_.getD ((t30).toNat) z86).name) (q := ([45] : List UInt8)) kr rfl) (lP1 1 63 (bF q136) ?_))))
     obtain ⟨q137, M⟩ | ⟨q137, M⟩ := ifd M
     ·refine lP3 6 68 (bF q137) 63 (bF q136) 59 (bT q134) (wN (tN (cond_f rfl kr (wK (tN ?_)))))
      exact ⟨k83, (by omega), _, t119, (by omega), (hdw (hdc (hdc (hdc (hdc (hdc rfl kr) kr) kr) kr) kr)), b67, S123, M⟩
     refine lP1 1 68 (bT q137) (lG 70 68 (bT q137) (e_sindex (p := t113) (i := 0) (k := .i64) underlying9 kr rfl (by decide) q135) ?_)
     obtain ⟨t138, u139, M⟩ := bnd M
     refine lcallg (d := 71) (t := 68) rfl kr rfl (bT q137) rfl kr (eE func28) (spec_l1digit.calls  S123.own0 u139) ?_
     rintro _ w140 ⟨rfl, C141⟩
     refine ⟨_, rfl, ?_⟩
     obtain ⟨S142, K143⟩ := S123.still C141
     replace b67 := K143.b 0 b67
     refine lP3 3 63 (bF q136) 68 (bT q137) 59 (bT q134) (wN (tN ?_))
     obtain ⟨q144, M⟩ | ⟨q144, M⟩ := ifd M
     ·refine cF (bvf q144 kr) (wK (tN ?_))
      exact ⟨k83, (by omega), _, t119, (by omega), (hdw (hdc (hdc (hdc (hdc (hdc rfl kr) kr) kr) kr) kr)), b67, S142, M⟩
     refine cT (bvt q144 kr) (wR (lP 1 (wN (tN ?_))))
     exact ⟨k83, (by omega), _, ([32] : List UInt8), (by omega), (hdw (hdc (hdc (hdc (hdc (hdc rfl kr) kr) kr) kr) kr)), b67, S142, M⟩
    clear M
    rintro a131 w125 ⟨k133, z167, f126, x127, z129, rfl, b67, S128, M⟩
    rcases k133 with _ | k132
    ·rw [spec_l3out_compound.l1] at M
     cases M
    rw [spec_l3out_compound.l1] at M
    refine wp_seq_cut (fun a151 w145 => ∃ (k153 : Nat), k153 ≤ k132 ∧ ∃ (f146 : Nat → Value) (x147 : List UInt8), k153 < K ∧ a151 = mk 132 (upd (upd (upd (upd (upd f146 2 (.int .i64 x17)) 9 (.pointer (some ⟨g62, 0, none⟩))) 10 (str x78)) 12 (str t113)) 13 (str x147)) ∧ w145.heap[g62]? = some (.cells #[.slice A57 ((x1.ops_.getD ((t30).toNat) z86).name).length c58, .int .i64 ((x1.ops_.getD ((t30).toNat) z86).pri), .int .i64 ((x1.ops_.getD ((t30).toNat) z86).typ)] 86 (0, 0)) ∧ St (anyOf []) H w [(is g62)] H95 w145 ∧ spec_l3out_compound.l2 k153 x1 x17 t30 x78 t113 x147 = some r) ?_ ?_
    ·refine wQ (wR (lP 1 (lV 76 (eB 0 b67) ?_)))
     obtain ⟨t154, u155, M⟩ := bnd M
     refine lC 77 (eE func90) (spec_l3spaced.calls (h60.ext (E29.trans E97)) l59 S128.own0 u155) ?_
     rintro _ w156 ⟨rfl, C157⟩
     refine ⟨_, rfl, ?_⟩
     obtain ⟨S158, K159⟩ := S128.still C157
     replace b67 := K159.b 0 b67
     refine wN (tN ?_)
     obtain ⟨q160, M⟩ | ⟨q160, M⟩ := ifd M
     ·refine cF (bvf q160 kr) (wK (tN ?_))
      exact ⟨k132, (by omega), _, x127, (by omega), (hdw (hdc (hdc (hdc (hdc (hdc rfl kr) kr) kr) kr) kr)), b67, S158, M⟩
     refine cT (bvt q160 kr) (wR (lP 1 (wN (tN ?_))))
     exact ⟨k132, (by omega), _, ([32] : List UInt8), (by omega), (hdw (hdc (hdc (hdc (hdc (hdc rfl kr) kr) kr) kr) kr)), b67, S158, M⟩
    clear M
    rintro a151 w145 ⟨k153, z166, f146, x147, z149, rfl, b67, S148, M⟩
    rcases k153 with _ | k152
    ·rw [spec_l3out_compound.l2] at M
     cases M
    rw [spec_l3out_compound.l2] at M
    refine wR (lP 2 ?_)
    obtain ⟨q161, M⟩ := chk M
    refine lV 80 (e_sadd (p := x78) (q := x147) kr kr q161) (lP 1 ?_)
    obtain ⟨q162, M⟩ := chk M
    refine lV 82 (e_sadd (p := (x78 ++ x147)) (q := t113) kr kr q162) (lP 1 (wN (tN (wQ (wQ (wR (lP 1 (lV 125 (eB 1 b67) (lP 2 (wN (tN ?_)))))))))))
    obtain ⟨q163, M⟩ | ⟨q163, M⟩ := ifd M
    ·refine cF (bF q163) (wK (tN (wQ (wR (lP 2 (wN (tN (wT ?_))))))))
     obtain rfl := sj M
     exact ret1 rfl rfl  kr ⟨rfl, S148.chg⟩
    refine cT (bT q163) (wQ (wR (lP 1 ?_)))
    obtain ⟨q164, M⟩ := chk M
    refine lV 129 (e_sadd (p := ([40] : List UInt8)) (q := ((x78 ++ x147) ++ t113)) rfl kr q164) ?_
    obtain ⟨q165, M⟩ := chk M
    refine lV 130 (e_sadd (p := (([40] : List UInt8) ++ ((x78 ++ x147) ++ t113))) (q := ([41] : List UInt8)) kr rfl q165) (lP 1 (wN (tN (wT (tR ?_)))))
    obtain rfl := sj M
    exact ret1 rfl rfl  kr ⟨rfl, S148.chg⟩
   refine cF (bvf q92 kr) (wQ ?_)
   have l168 := h25.le
   have S169 := S90.pulls [F26, (is g62)] [1] rfl
   obtain ⟨H170, S171, E172, h173, z174⟩ := S169.frzRow h25
   replace h173 := h173.unro
   refine region_quiet kr kr (qV 83 (fun wq_ hq_ => eM (.pointer (some ⟨g2, 0, none⟩))) (qV 84 (fun wq_ hq_ => eM (.slice A23 t18.length c24)) ?_))
   obtain ⟨q175, M⟩ := chk M
   obtain ⟨b176, o177, e178⟩ := Rd.addr h173 (show 0 < t18.length by omega)
   obtain ⟨y179, r180, k181⟩ := Rd.at h173 e178 (getD_some ([] : List Cell) (show 0 < t18.length by omega))
   obtain ⟨A182, c183, rfl, l184, h185⟩ := r180
   refine qV 85 (fun wq_ hq_ => e_indexAddr (b := b176) (off := o177) (n := t18.length) (c := c24) (sz := 1) (i := 0) (k := .i64) underlying71 e178 kr kr rfl (by omega) q175) (qV 86 (fun wq_ hq_ => eK underlying43 (hpx ((S171.still hq_).1.inv.cell (k181 0 _ rfl)))) (qV 87 (fun wq_ hq_ => e_loadS (b := g62) (off := 0) (cs := [.slice A57 ((x1.ops_.getD ((t30).toNat) z86).name).length c58, .int .i64 ((x1.ops_.getD ((t30).toNat) z86).pri), .int .i64 ((x1.ops_.getD ((t30).toNat) z86).typ)]) underlying86 rfl kr kr (blk_cells ((S171.still hq_).2.blk 0 rfl b67) rfl)) ?_))
   obtain ⟨t186, u187, M⟩ := bnd M
   refine qcall (v := .int .i64 t186) (d := 88) rfl rfl kr (fun w_ => eE func91) (fun wq_ hq_ => (by obtain ⟨S_, K_⟩ := S171.still hq_; replace b67 := K_.b 0 b67; exact (spec_l3left.calls (x1.ops_.getD ((t30).toNat) z86) (h60.ext (E29.trans E172)) l59 S_.own0 u187))) (qV 89 (fun wq_ hq_ => e_loadS (b := g62) (off := 0) (cs := [.slice A57 ((x1.ops_.getD ((t30).toNat) z86).name).length c58, .int .i64 ((x1.ops_.getD ((t30).toNat) z86).pri), .int .i64 ((x1.ops_.getD ((t30).toNat) z86).typ)]) underlying86 rfl kr kr (blk_cells ((S171.still hq_).2.blk 0 rfl b67) rfl)) ?_)
   obtain ⟨t188, u189, M⟩ := bnd M
   refine qcall (v := str t188) (d := 90) rfl rfl kr (fun w_ => eE func87) (fun wq_ hq_ => (by obtain ⟨S_, K_⟩ := S171.still hq_; replace b67 := K_.b 0 b67; exact (ih.2.2.2 k83 (by omega) wq_ H170 x1 g2 A4 c5 A8 c9 (t18.getD 0 ([] : List Cell)) A182 c183 t186 true (x1.ops_.getD ((t30).toNat) z86) A57 c58 (h6.ext (E29.trans E172)) l7 (h10.ext (E29.trans E172)) l11 ((E29.trans E172) _ _ b3) h185 l184 (h60.ext (E29.trans E172)) l59 S_.own0 t188 u189))) (qV 14 (fun wq_ hq_ => eA (str t188)) ?_)
   refine wpQuiet_nil ?_
   intro w190 C193
   obtain ⟨S191, K192⟩ := S171.still C193
   replace b67 := K192.b 0 b67
   refine tN (wQ (wR (lP 2 ?_)))
   obtain ⟨t194, u195, M⟩ := bnd M
   refine lC 93 (eE func89) (spec_l3gap.calls  S191.own0 u195) ?_
   rintro _ w196 ⟨rfl, C197⟩
   refine ⟨_, rfl, ?_⟩
   obtain ⟨S198, K199⟩ := S191.still C197
   replace b67 := K199.b 0 b67
   refine lP 1 (wN (tN ?_))
   refine wp_seq_cut (fun a206 w200 => ∃ (k208 : Nat), k208 ≤ k83 ∧ ∃ (f201 : Nat → Value) (x202 : List UInt8), k208 < K ∧ a206 = mk 132 (upd (upd (upd (upd (upd (upd (upd f201 0 (.pointer (some ⟨g2, 0, none⟩))) 2 (.int .i64 x17)) 7 (.slice A23 t18.length c24)) 9 (.pointer (some ⟨g62, 0, none⟩))) 10 (str x78)) 14 (str t188)) 15 (str x202)) ∧ w200.heap[g62]? = some (.cells #[.slice A57 ((x1.ops_.getD ((t30).toNat) z86).name).length c58, .int .i64 ((x1.ops_.getD ((t30).toNat) z86).pri), .int .i64 ((x1.ops_.getD ((t30).toNat) z86).typ)] 86 (0, 0)) ∧ St (anyOf []) H w [(is g62)] H170 w200 ∧ spec_l3out_compound.l3 k208 x1 x17 t18 t30 x78 t188 x202 = some r) ?_ ?_
   ·refine wQ (wR (lP 1 (lV 95 (eB 0 b67) ?_)))
    obtain ⟨t209, u210, M⟩ := bnd M
    refine lC 96 (eE func90) (spec_l3spaced.calls (h60.ext (E29.trans E172)) l59 S198.own0 u210) ?_
    rintro _ w211 ⟨rfl, C212⟩
    refine ⟨_, rfl, ?_⟩
    obtain ⟨S213, K214⟩ := S198.still C212
    replace b67 := K214.b 0 b67
    refine wN (tN ?_)
    obtain ⟨q215, M⟩ | ⟨q215, M⟩ := ifd M
    ·refine cF (bvf q215 kr) (wK (tN ?_))
     exact ⟨k83, (by omega), _, t194, (by omega), (hdw (hdc (hdc (hdc (hdc (hdc (hdc (hdc rfl kr) kr) kr) kr) kr) kr) kr)), b67, S213, M⟩
    refine cT (bvt q215 kr) (wR (lP 1 (wN (tN ?_))))
    exact ⟨k83, (by omega), _, ([32] : List UInt8), (by omega), (hdw (hdc (hdc (hdc (hdc (hdc (hdc (hdc rfl kr) kr) kr) kr) kr) kr) kr)), b67, S213, M⟩
   clear M
   rintro a206 w200 ⟨k208, z275, f201, x202, z204, rfl, b67, S203, M⟩
   rcases k208 with _ | k207
   ·rw [spec_l3out_compound.l3] at M
    cases M
   rw [spec_l3out_compound.l3] at M
   refine wQ (wR (lP 2 ?_))
   obtain ⟨q216, M⟩ := chk M
   refine lV 99 (e_sadd (p := t188) (q := x202) kr kr q216) (lP 1 ?_)
   obtain ⟨q217, M⟩ := chk M
   refine lV 101 (e_sadd (p := (t188 ++ x202)) (q := x78) kr kr q217) (lP 1 (wN (tN (wQ (wR (lP 1 (lV 103 (eB 2 b67) ?_)))))))
   obtain ⟨t218, u219, M⟩ := bnd M
   refine lC 104 (eE func92) (spec_l3infix.calls  S203.own0 u219) ?_
   rintro _ w220 ⟨rfl, C221⟩
   refine ⟨_, rfl, ?_⟩
   obtain ⟨S222, K223⟩ := S203.still C221
   replace b67 := K223.b 0 b67
   refine wN (tN ?_)
   obtain ⟨q224, M⟩ | ⟨q224, M⟩ := ifd M
   ·refine cF (bvf q224 kr) (wK (tN (wQ (wQ (wR (lP 1 (lV 125 (eB 1 b67) (lP 2 (wN (tN ?_))))))))))
    obtain ⟨q272, M⟩ | ⟨q272, M⟩ := ifd M
    ·refine cF (bF q272) (wK (tN (wQ (wR (lP 2 (wN (tN (wT ?_))))))))
     obtain rfl := sj M
     exact ret1 rfl rfl  kr ⟨rfl, S222.chg⟩
    refine cT (bT q272) (wQ (wR (lP 1 ?_)))
    obtain ⟨q273, M⟩ := chk M
    refine lV 129 (e_sadd (p := ([40] : List UInt8)) (q := ((t188 ++ x202) ++ x78)) rfl kr q273) ?_
    obtain ⟨q274, M⟩ := chk M
    refine lV 130 (e_sadd (p := (([40] : List UInt8) ++ ((t188 ++ x202) ++ x78))) (q := ([41] : List UInt8)) kr rfl q274) (lP 1 (wN (tN (wT (tR ?_)))))
    obtain rfl := sj M
    exact ret1 rfl rfl  kr ⟨rfl, S222.chg⟩
   refine cT (bvt q224 kr) (wQ ?_)
   refine region_quiet kr kr (qV 105 (fun wq_ hq_ => eM (.pointer (some ⟨g2, 0, none⟩))) (qV 106 (fun wq_ hq_ => eM (.slice A23 t18.length c24)) ?_))
   obtain ⟨q225, M⟩ := chk M
   obtain ⟨b226, o227, e228⟩ := Rd.addr h173 (show 1 < t18.length by omega)
   obtain ⟨y229, r230, k231⟩ := Rd.at h173 e228 (getD_some ([] : List Cell) (show 1 < t18.length by omega))
   obtain ⟨A232, c233, rfl, l234, h235⟩ := r230
   refine qV 107 (fun wq_ hq_ => e_indexAddr (b := b226) (off := o227) (n := t18.length) (c := c24) (sz := 1) (i := 1) (k := .i64) underlying71 e228 kr kr rfl (by omega) q225) (qV 108 (fun wq_ hq_ => eK underlying43 (hpx ((S222.still hq_).1.inv.cell (k231 0 _ rfl)))) (qV 109 (fun wq_ hq_ => e_loadS (b := g62) (off := 0) (cs := [.slice A57 ((x1.ops_.getD ((t30).toNat) z86).name).length c58, .int .i64 ((x1.ops_.getD ((t30).toNat) z86).pri), .int .i64 ((x1.ops_.getD ((t30).toNat) z86).typ)]) underlying86 rfl kr kr (blk_cells ((S222.still hq_).2.blk 0 rfl b67) rfl)) ?_))
   obtain ⟨t236, u237, M⟩ := bnd M
   refine qcall (v := .int .i64 t236) (d := 110) rfl rfl kr (fun w_ => eE func88) (fun wq_ hq_ => (by obtain ⟨S_, K_⟩ := S222.still hq_; replace b67 := K_.b 0 b67; exact (spec_l3right.calls (x1.ops_.getD ((t30).toNat) z86) (h60.ext (E29.trans E172)) l59 S_.own0 u237))) (qV 111 (fun wq_ hq_ => e_loadS (b := g62) (off := 0) (cs := [.slice A57 ((x1.ops_.getD ((t30).toNat) z86).name).length c58, .int .i64 ((x1.ops_.getD ((t30).toNat) z86).pri), .int .i64 ((x1.ops_.getD ((t30).toNat) z86).typ)]) underlying86 rfl kr kr (blk_cells ((S222.still hq_).2.blk 0 rfl b67) rfl)) ?_)
   obtain ⟨t238, u239, M⟩ := bnd M
   refine qcall (v := str t238) (d := 112) rfl rfl kr (fun w_ => eE func87) (fun wq_ hq_ => (by obtain ⟨S_, K_⟩ := S222.still hq_; replace b67 := K_.b 0 b67; exact (ih.2.2.2 k207 (by omega) wq_ H170 x1 g2 A4 c5 A8 c9 (t18.getD 1 ([] : List Cell)) A232 c233 t236 false (x1.ops_.getD ((t30).toNat) z86) A57 c58 (h6.ext (E29.trans E172)) l7 (h10.ext (E29.trans E172)) l11 ((E29.trans E172) _ _ b3) h235 l234 (h60.ext (E29.trans E172)) l59 S_.own0 t238 u239))) (qV 16 (fun wq_ hq_ => eA (str t238)) ?_)
   refine wpQuiet_nil ?_
   intro w240 C243
   obtain ⟨S241, K242⟩ := S222.still C243
   replace b67 := K242.b 0 b67
   refine tN (wQ (wR (lP 2 ?_)))
   obtain ⟨t244, u245, M⟩ := bnd M
   refine lC 115 (eE func89) (spec_l3gap.calls  S241.own0 u245) ?_
   rintro _ w246 ⟨rfl, C247⟩
   refine ⟨_, rfl, ?_⟩
   obtain ⟨S248, K249⟩ := S241.still C247
   replace b67 := K249.b 0 b67
   refine lP 1 (wN (tN ?_))
   refine wp_seq_cut (fun a256 w250 => ∃ (k258 : Nat), k258 ≤ k207 ∧ ∃ (f251 : Nat → Value) (x252 : List UInt8), k258 < K ∧ a256 = mk 132 (upd (upd (upd (upd (upd f251 2 (.int .i64 x17)) 9 (.pointer (some ⟨g62, 0, none⟩))) 11 (str ((t188 ++ x202) ++ x78))) 15 (str x252)) 16 (str t238)) ∧ w250.heap[g62]? = some (.cells #[.slice A57 ((x1.ops_.getD ((t30).toNat) z86).name).length c58, .int .i64 ((x1.ops_.getD ((t30).toNat) z86).pri), .int .i64 ((x1.ops_.getD ((t30).toNat) z86).typ)] 86 (0, 0)) ∧ St (anyOf []) H w [(is g62)] H170 w250 ∧ spec_l3out_compound.l4 k258 x1 x17 t30 x78 t188 x202 t238 x252 = some r) ?_ ?_
   ·refine wQ (wR (lP 1 (lV 117 (eB 0 b67) ?_)))
    obtain ⟨t259, u260, M⟩ := bnd M
    refine lC 118 (eE func90) (spec_l3spaced.calls (h60.ext (E29.trans E172)) l59 S248.own0 u260) ?_
    rintro _ w261 ⟨rfl, C262⟩
    refine ⟨_, rfl, ?_⟩
    obtain ⟨S263, K264⟩ := S248.still C262
    replace b67 := K264.b 0 b67
    refine wN (tN ?_)
    obtain ⟨q265, M⟩ | ⟨q265, M⟩ := ifd M
    ·refine cF (bvf q265 kr) (wK (tN ?_))
     exact ⟨k207, (by omega), _, t244, (by omega), (hdw (hdc (hdc (hdc (hdc (hdc rfl kr) kr) kr) kr) kr)), b67, S263, M⟩
    refine cT (bvt q265 kr) (wR (lP 1 (wN (tN ?_))))
    exact ⟨k207, (by omega), _, ([32] : List UInt8), (by omega), (hdw (hdc (hdc (hdc (hdc (hdc rfl kr) kr) kr) kr) kr)), b67, S263, M⟩
   clear M
   rintro a256 w250 ⟨k258, z271, f251, x252, z254, rfl, b67, S253, M⟩
   rcases k258 with _ | k257
   ·rw [spec_l3out_compound.l4] at M
    cases M
   rw [spec_l3out_compound.l4] at M
   refine wR (lP 3 ?_)
   obtain ⟨q266, M⟩ := chk M
   refine lV 122 (e_sadd (p := x252) (q := t238) kr kr q266) ?_
   obtain ⟨q267, M⟩ := chk M
   refine lV 123 (e_sadd (p := ((t188 ++ x202) ++ x78)) (q := (x252 ++ t238)) kr kr q267) (lP 1 (wN (tN (wQ (wQ (wR (lP 1 (lV 125 (eB 1 b67) (lP 2 (wN (tN ?_)))))))))))
   obtain ⟨q268, M⟩ | ⟨q268, M⟩ := ifd M
   ·refine cF (bF q268) (wK (tN (wQ (wR (lP 2 (wN (tN (wT ?_))))))))
    obtain rfl := sj M
    exact ret1 rfl rfl  kr ⟨rfl, S253.chg⟩
   refine cT (bT q268) (wQ (wR (lP 1 ?_)))
   obtain ⟨q269, M⟩ := chk M
   refine lV 129 (e_sadd (p := ([40] : List UInt8)) (q := (((t188 ++ x202) ++ x78) ++ (x252 ++ t238))) rfl kr q269) ?_
   obtain ⟨q270, M⟩ := chk M
   refine lV 130 (e_sadd (p := (([40] : List UInt8) ++ (((t188 ++ x202) ++ x78) ++ (x252 ++ t238)))) (q := ([41] : List UInt8)) kr rfl q270) (lP 1 (wN (tN (wT (tR ?_)))))
   obtain rfl := sj M
   exact ret1 rfl rfl  kr ⟨rfl, S253.chg⟩
  ·intro k hk w H x1 g2 A4 c5 A8 c9 x12 A13 c14 x17 A18 c19 h6 l7 h10 l11 b3 h15 l16 h20 l21 S r M
   rcases k with _ | k1_
   ·rw [spec_l3out_plain.f] at M
    cases M
   rw [spec_l3out_plain.f] at M
   refine enter (l := [.pointer (some ⟨g2, 0, none⟩), .slice A13 x12.length c14, .slice A18 x17.length c19]) 53 func86 rfl rfl rfl ?_
   have S0_ := S.st
   refine wQ (wR (lP 1 (wN (tN (wQ (wR (lP 2 ?_)))))))
   obtain ⟨q22, M⟩ := chk M
   obtain ⟨b23, o24, e25⟩ := Rd.addr h15 (show 0 < x12.length by omega)
   obtain ⟨y26, r27, k28⟩ := Rd.at h15 e25 (getD_some z70 (show 0 < x12.length by omega))
   obtain ⟨A29, c30, rfl, l31, h32⟩ := st70_open r27
   refine lV 12 (e_indexAddr (b := b23) (off := o24) (n := x12.length) (c := c14) (sz := 3) (i := 0) (k := .i64) underlying43 e25 kr kr rfl (by omega) q22) (lP 1 (lV 14 (eK underlying22 (hpx (S0_.inv.cell (k28 2 _ rfl)))) ?_))
   obtain ⟨t33, u34, M⟩ := bnd M
   refine lC 15 (eE func77) (spec_l3out_atom.calls x1 h6 l7 h10 l11 b3 h32 l31 S0_.own0 u34) ?_
   rintro _ w35 ⟨rfl, C36⟩
   refine ⟨_, rfl, ?_⟩
   obtain ⟨S37, K38⟩ := S0_.still C36
   refine lP 1 (wN (tN ?_))
   refine wp_seq_cut (fun a45 w39 => ∃ (k47 : Nat), k47 ≤ k1_ ∧ ∃ (f40 : Nat → Value) (x41 : List UInt8), k47 < K ∧ a45 = mk 53 (upd (upd (upd f40 0 (.pointer (some ⟨g2, 0, none⟩))) 2 (.slice A18 x17.length c19)) 7 (str x41)) ∧ St (anyOf []) H w [] H w39 ∧ spec_l3out_plain.l0 k47 x1 x17 x41 = some r) ?_ ?_
   ·refine wQ (wR (lP 3 (lV 19 (eB 2 (S37.inv _ _ b3)) (lP 1 ?_))))
    obtain ⟨q48, M⟩ | ⟨q48, M⟩ := ifd M
    ·refine lP1 7 20 (bvf q48 kr) (wN (tN (cond_f rfl kr (wK (tN ?_)))))
     exact ⟨k1_, (by omega), _, t33, (by omega), (hdw (hdc (hdc (hdc rfl kr) kr) kr)), S37, M⟩
    refine lP1 1 20 (bvt q48 kr) (lG 22 20 (bvt q48 kr) (e_seql (p := t33) (q := ([91, 93] : List UInt8)) kr rfl) (lP1 1 20 (bvt q48 kr) ?_))
    obtain ⟨q49, M⟩ | ⟨q49, M⟩ := ifc M
    ·refine lP2 4 23 (bT q49) 20 (bvt q48 kr) (wN (tN (cond_t rfl kr (wR (lP 1 ?_)))))
     obtain ⟨q50, M⟩ := chk M
     refine lV 29 (e_sadd (p := ([39] : List UInt8)) (q := t33) rfl kr q50) ?_
     obtain ⟨q51, M⟩ := chk M
     refine lV 30 (e_sadd (p := (([39] : List UInt8) ++ t33)) (q := ([39] : List UInt8)) kr rfl q51) (lP 1 (wN (tN ?_)))
     exact ⟨k1_, (by omega), _, ((([39] : List UInt8) ++ t33) ++ ([39] : List UInt8)), (by omega), (hdw (hdc (hdc (hdc rfl kr) kr) kr)), S37, M⟩
    refine lP1 1 23 (bF q49) (lG 25 23 (bF q49) (e_seql (p := t33) (q := ([123, 125] : List UInt8)) kr rfl) (lP2 2 20 (bvt q48 kr) 23 (bF q49) (wN (tN ?_))))
    obtain ⟨q52, M⟩ | ⟨q52, M⟩ := ifd M
    ·refine cF (bF q52) (wK (tN ?_))
     exact ⟨k1_, (by omega), _, t33, (by omega), (hdw (hdc (hdc (hdc rfl kr) kr) kr)), S37, M⟩
    refine cT (bT q52) (wR (lP 1 ?_))
    obtain ⟨q53, M⟩ := chk M
    refine lV 29 (e_sadd (p := ([39] : List UInt8)) (q := t33) rfl kr q53) ?_
    obtain ⟨q54, M⟩ := chk M
    refine lV 30 (e_sadd (p := (([39] : List UInt8) ++ t33)) (q := ([39] : List UInt8)) kr rfl q54) (lP 1 (wN (tN ?_)))
    exact ⟨k1_, (by omega), _, ((([39] : List UInt8) ++ t33) ++ ([39] : List UInt8)), (by omega), (hdw (hdc (hdc (hdc rfl kr) kr) kr)), S37, M⟩
   clear M
   rintro a45 w39 ⟨k47, z98, f40, x41, z43, rfl, S42, M⟩
   rcases k47 with _ | k46
   ·rw [spec_l3out_plain.l0] at M
    cases M
   rw [spec_l3out_plain.l0] at M
   refine wQ (wR (lP 1 ?_))
   obtain ⟨q55, M⟩ := chk M
   refine lV 32 (e_sadd (p := x41) (q := ([40] : List UInt8)) kr rfl q55) (lP 1 (wN (tN (wQ (wQ (wR (lP 1 (wN (tN (wp_block ?_))))))))))
   refine wp_loop_g (fun k63 a64 w56 => ∃ (f57 : Nat → Value) (x58 : List UInt8) (x59 : Int), k63 < K ∧ a64 = mk 53 (upd (upd (upd (upd f57 0 (.pointer (some ⟨g2, 0, none⟩))) 2 (.slice A18 x17.length c19)) 8 (str x58)) 9 (.int .i64 x59)) ∧ St (anyOf []) H w [] H w56 ∧ spec_l3out_plain.l1 k63 x1 x17 x58 x59 = some r) k46 ⟨_, (x41 ++ ([40] : List UInt8)), 0, (by omega), (hdw (hdc (hdc (hdc (hdc rfl kr) kr) kr) kr)), S42, M⟩ ?_
   clear M
   rintro k63 a64 w56 ⟨f57, x58, x59, z61, rfl, S60, M⟩
   rcases k63 with _ | k65
   ·rw [spec_l3out_plain.l1] at M
    cases M
   rw [spec_l3out_plain.l1] at M
   refine wQ (wQ (wR (lP 4 (wN (tN ?_)))))
   obtain ⟨q66, M⟩ | ⟨q66, M⟩ := ifd M
   ·refine cF (bF q66) (wp_exit (tE (tE (inb_hit (tN (wQ (wR (lP 1 ?_))))))))
    obtain ⟨q97, M⟩ := chk M
    refine lV 52 (e_sadd (p := x58) (q := ([41] : List UInt8)) kr rfl q97) (lP 1 (wN (tN (wT ?_))))
    obtain rfl := sj M
    exact ret1 rfl rfl  kr ⟨rfl, S60.chg⟩
   refine cT (bT q66) (wK (tN (wQ (wp_block ?_))))
   refine wp_seq_cut (fun a73 w67 => ∃ (k75 : Nat), k75 ≤ k65 ∧ ∃ (f68 : Nat → Value) (x69 : List UInt8), k75 < K ∧ a73 = mk 53 (upd (upd (upd (upd f68 0 (.pointer (some ⟨g2, 0, none⟩))) 2 (.slice A18 x17.length c19)) 8 (str x69)) 9 (.int .i64 x59)) ∧ St (anyOf []) H w [] H w67 ∧ spec_l3out_plain.l2 k75 x1 x17 x59 x69 = some r) ?_ ?_
   ·refine wQ (wR (lP 2 (wN (tN ?_))))
    obtain ⟨q76, M⟩ | ⟨q76, M⟩ := ifd M
    ·refine cF (bF q76) (wK (tN ?_))
     exact ⟨k65, (by omega), _, x58, (by omega), (hdw (hdc (hdc (hdc (hdc rfl kr) kr) kr) kr)), S60, M⟩
    refine cT (bT q76) (wR (lP 1 ?_))
    obtain ⟨q77, M⟩ := chk M
    refine lV 42 (e_sadd (p := x58) (q := ([44] : List UInt8)) kr rfl q77) (lP 1 (wN (tN ?_)))
    exact ⟨k65, (by omega), _, (x58 ++ ([44] : List UInt8)), (by omega), (hdw (hdc (hdc (hdc (hdc rfl kr) kr) kr) kr)), S60, M⟩
   clear M
   rintro a73 w67 ⟨k75, z96, f68, x69, z71, rfl, S70, M⟩
   rcases k75 with _ | k74
   ·rw [spec_l3out_plain.l2] at M
    cases M
   rw [spec_l3out_plain.l2] at M
   refine wR (lP 4 ?_)
   obtain ⟨q78, M⟩ := chk M
   obtain ⟨b79, o80, e81⟩ := Rd.addr h20 (show (x59).toNat < x17.length by omega)
   obtain ⟨y82, r83, k84⟩ := Rd.at h20 e81 (getD_some ([] : List Cell) (show (x59).toNat < x17.length by omega))
   obtain ⟨A85, c86, rfl, l87, h88⟩ := r83
   refine lV 47 (eJ underlying71 e81 q78 q66) (lV 48 (eK underlying43 (hpx (S70.inv.cell (k84 0 _ rfl)))) ?_)
   obtain ⟨t89, u90, M⟩ := bnd M
   refine lC 49 (eE func61) (ih.1 k74 (by omega) w67 H x1 g2 A4 c5 A8 c9 (x17.getD ((x59).toNat) ([] : List Cell)) A85 c86 999 h6 l7 h10 l11 b3 h88 l87 S70.own0 t89 u90) ?_
   rintro _ w91 ⟨rfl, C92⟩
   refine ⟨_, rfl, ?_⟩
   obtain ⟨S93, K94⟩ := S70.still C92
   obtain ⟨q95, M⟩ := chk M
   refine lV 50 (e_sadd (p := x69) (q := t89) kr kr q95) (lP 1 (wN (inb_n (tN (wR (lP 3 (wN (tN ?_))))))))
   exact ⟨k74, (by omega), _, (x69 ++ t89), (i64.wrap (x59 + 1)), (by omega), (hdw (hdc (hdc (hdc (hdc rfl kr) kr) kr) kr)), S93, M⟩
  ·intro k hk w H x1 g2 A4 c5 A8 c9 x12 A13 c14 x17 x18 x19 A20 c21 h6 l7 h10 l11 b3 h15 l16 h22 l23 S r M
   rcases k with _ | k1_
   ·rw [spec_l3out_operand.f] at M
    cases M
   rw [spec_l3out_operand.f] at M
   refine enter (l := [.pointer (some ⟨g2, 0, none⟩), .slice A13 x12.length c14, .int .i64 x17, .bool x18, .agg #[.slice A20 x19.name.length c21, .int .i64 x19.pri, .int .i64 x19.typ]]) 102 func87 rfl rfl rfl ?_
   have S0_ := S.st
   refine wQ (wR ?_)
   refine lW 9 (nB #[.slice A20 x19.name.length c21, .int .i64 x19.pri, .int .i64 x19.typ] 86 S0_) ?_
   rintro _ w24 ⟨g25, rfl, b26, S27, K28⟩
   refine lP 1 (wN (tN (wQ (wR (lP 3 ?_)))))
   obtain ⟨t29, u30, M⟩ := bnd M
   refine lC 16 (eE func61) (ih.1 k1_ (by omega) w24 H x1 g2 A4 c5 A8 c9 x12 A13 c14 x17 h6 l7 h10 l11 b3 h15 l16 S27.own0 t29 u30) ?_
   rintro _ w31 ⟨rfl, C32⟩
   refine ⟨_, rfl, ?_⟩
   obtain ⟨S33, K34⟩ := S27.still C32
   replace b26 := K34.b 0 b26
   refine lP 1 (wN (tN (wQ (wQ ?_))))
   refine region_quiet kr kr (qV 17 (fun wq_ hq_ => eM (.slice A13 x12.length c14)) ?_)
   obtain ⟨q35, M⟩ := chk M
   obtain ⟨b36, o37, e38⟩ := Rd.addr h15 (show 0 < x12.length by omega)
   obtain ⟨y39, r40, k41⟩ := Rd.at h15 e38 (getD_some z70 (show 0 < x12.length by omega))
   obtain ⟨A42, c43, rfl, l44, h45⟩ := st70_open r40
   refine qV 18 (fun wq_ hq_ => e_indexAddr (b := b36) (off := o37) (n := x12.length) (c := c14) (sz := 3) (i := 0) (k := .i64) underlying43 e38 kr kr rfl (by omega) q35) (qV 19 (fun wq_ hq_ => eD b36 (o37 + (0 : Int).toNat * 3) 0 1 underlying70) (qV 20 (fun wq_ hq_ => eK underlying3 (hpx ((S33.still hq_).1.inv.cell (k41 0 _ rfl)))) (qV 21 (fun wq_ hq_ => eEq .i64 (x12.getD 0 z70).kind 2) (qV 22 (fun wq_ hq_ => eM (.bool (decide (((x12.getD 0 z70).kind) = 2)))) ?_))))
   obtain ⟨q46, M⟩ | ⟨q46, M⟩ := ifd M
   ·refine qP1 11 22 (bF q46) ?_
    refine qP 1 ?_
    refine qP 1 ?_
    refine qP 1 ?_
    refine qP 1 ?_
    refine qP 1 ?_
    refine qP 1 ?_
    refine qP 1 ?_
    refine qP 1 ?_
    refine qP 1 ?_
    refine qP1 2 22 (bF q46) (qV 45 (fun wq_ hq_ => eF (.bool false) (bF q46)) ?_)
    refine wpQuiet_nil ?_
    intro w136 C139
    obtain ⟨S137, K138⟩ := S33.still C139
    replace b26 := K138.b 0 b26
    refine tN (cond_f rfl kr (wK (tN (wQ (wR (lP 2 ?_))))))
    obtain ⟨t140, u141, M⟩ := bnd M
    refine lC 51 (eE func85) (spec_l3out_top.calls x1 h6 l7 h10 l11 b3 h15 l16 S137.own0 u141) ?_
    rintro _ w142 ⟨rfl, C143⟩
    refine ⟨_, rfl, ?_⟩
    obtain ⟨S144, K145⟩ := S137.still C143
    replace b26 := K145.b 0 b26
    refine lP 1 (wN (tN (wQ (wQ ?_))))
    refine region_still kr kr S144 ?_
    intro w146 S147 K148
    replace b26 := K148.b 0 b26
    refine sP 2 ?_
    obtain ⟨q149, M⟩ | ⟨q149, M⟩ := ifd M
    ·refine sP1 44 53 (bvf q149 kr) (wpStill_nil (tN (cond_f rfl kr (wK (tN (wQ (wR (lP 2 (wN (tN (wT ?_)))))))))))
     obtain rfl := sj M
     exact ret1 rfl rfl  kr ⟨rfl, S147.chg⟩
    refine sP1 4 53 (bvt q149 kr) ?_
    obtain ⟨q150, M⟩ | ⟨q150, M⟩ := ifd M
    ·refine sP1 40 57 (bF q150) (wpStill_nil (tN (cond_f rfl kr (wK (tN (wQ (wR (lP 2 (wN (tN (wT ?_)))))))))))
     obtain rfl := sj M
     exact ret1 rfl rfl  kr ⟨rfl, S147.chg⟩
    refine sP1 3 57 (bT q150) (sG 61 57 (bT q150) (eB 0 (S147.inv _ _ b3)) (sP1 1 57 (bT q150) ?_))
    obtain ⟨q151, M⟩ := chk M
    obtain ⟨q152, M⟩ := chk M
    obtain ⟨b153, o154, e155⟩ := Rd.addr h6 (show (t140).toNat < x1.ops_.length by omega)
    obtain ⟨y156, r157, k158⟩ := Rd.at h6 e155 (getD_some z86 (show (t140).toNat < x1.ops_.length by omega))
    obtain ⟨A159, c160, rfl, l161, h162⟩ := st86_open r157
    refine sG 63 57 (bT q150) (eJ underlying48 e155 q151 q152) (sP1 1 57 (bT q150) (sG 65 57 (bT q150) (eK underlying3 (hpx (S147.inv.cell (k158 1 _ rfl)))) (sP1 1 57 (bT q150) (sG 67 57 (bT q150) (eB 1 b26) (sP1 3 57 (bT q150) ?_)))))
    obtain ⟨q163, M⟩ | ⟨q163, M⟩ := ifd M
    ·refine sP1 27 70 (bF q163) (wpStill_nil (tN (cond_f rfl kr (wK (tN (wQ (wR (lP 2 (wN (tN (wT ?_)))))))))))
     obtain rfl := sj M
     exact ret1 rfl rfl  kr ⟨rfl, S147.chg⟩
    refine sP1 2 70 (bT q163) (sG 73 70 (bT q163) (eB 1 b26) (sP1 3 70 (bT q163) ?_))
    obtain ⟨q164, M⟩ | ⟨q164, M⟩ := ifd M
    ·refine sP1 21 76 (bF q164) (wpStill_nil (tN (cond_f rfl kr (wK (tN (wQ (wR (lP 2 (wN (tN (wT ?_)))))))))))
     obtain rfl := sj M
     exact ret1 rfl rfl  kr ⟨rfl, S147.chg⟩
    refine sP1 3 76 (bT q164) (sG 80 76 (bT q164) (eB 0 (S147.inv _ _ b3)) (sP1 1 76 (bT q164) ?_))
    obtain ⟨b165, o166, e167⟩ := Rd.addr h6 (show (t140).toNat < x1.ops_.length by omega)
    obtain ⟨y168, r169, k170⟩ := Rd.at h6 e167 (getD_some z86 (show (t140).toNat < x1.ops_.length by omega))
    obtain ⟨A171, c172, rfl, l173, h174⟩ := st86_open r169
    refine sG 82 76 (bT q164) (eJ underlying48 e167 q151 q152) (sP1 1 76 (bT q164) (sG 84 76 (bT q164) (eK underlying3 (hpx (S147.inv.cell (k170 2 _ rfl)))) (sP1 2 76 (bT q164) ?_)))
    obtain ⟨q175, M⟩ | ⟨q175, M⟩ := ifc M
    ·refine sP2 11 86 (bT q175) 76 (bT q164) (wpStill_nil (tN (cond_t rfl kr (wQ (wR (lP 1 ?_))))))
     obtain ⟨q176, M⟩ := chk M
     refine lV 99 (e_sadd (p := ([40] : List UInt8)) (q := t29) rfl kr q176) ?_
     obtain ⟨q177, M⟩ := chk M
     refine lV 100 (e_sadd (p := (([40] : List UInt8) ++ t29)) (q := ([41] : List UInt8)) kr rfl q177) (lP 1 (wN (tN (wT (tR ?_)))))
     obtain rfl := sj M
     exact ret1 rfl rfl  kr ⟨rfl, S147.chg⟩
    refine sP1 3 86 (bF q175) (sG 90 86 (bF q175) (eB 0 (S147.inv _ _ b3)) (sP1 1 86 (bF q175) ?_))
    obtain ⟨b178, o179, e180⟩ := Rd.addr h6 (show (t140).toNat < x1.ops_.length by omega)
    obtain ⟨y181, r182, k183⟩ := Rd.at h6 e180 (getD_some z86 (show (t140).toNat < x1.ops_.length by omega))
    obtain ⟨A184, c185, rfl, l186, h187⟩ := st86_open r182
    refine sG 92 86 (bF q175) (eJ underlying48 e180 q151 q152) (sP1 1 86 (bF q175) (sG 94 86 (bF q175) (eK underlying3 (hpx (S147.inv.cell (k183 2 _ rfl)))) (sP2 3 86 (bF q175) 76 (bT q164) (wpStill_nil (tN ?_)))))
    obtain ⟨q188, M⟩ | ⟨q188, M⟩ := ifd M
    ·refine cF (bF q188) (wK (tN (wQ (wR (lP 2 (wN (tN (wT ?_))))))))
     obtain rfl := sj M
     exact ret1 rfl rfl  kr ⟨rfl, S147.chg⟩
    refine cT (bT q188) (wQ (wR (lP 1 ?_)))
    obtain ⟨q189, M⟩ := chk M
    refine lV 99 (e_sadd (p := ([40] : List UInt8)) (q := t29) rfl kr q189) ?_
    obtain ⟨q190, M⟩ := chk M
    refine lV 100 (e_sadd (p := (([40] : List UInt8) ++ t29)) (q := ([41] : List UInt8)) kr rfl q190) (lP 1 (wN (tN (wT (tR ?_)))))
    obtain rfl := sj M
    exact ret1 rfl rfl  kr ⟨rfl, S147.chg⟩
   refine qG 23 22 (bT q46) (fun wq_ hq_ => eM (.pointer (some ⟨g2, 0, none⟩))) (qG 24 22 (bT q46) (fun wq_ hq_ => eN ⟨g2, 0, none⟩) (qG 25 22 (bT q46) (fun wq_ hq_ => eD g2 0 0 1 underlying80) (qG 26 22 (bT q46) (fun wq_ hq_ => eB 0 ((S33.still hq_).1.inv _ _ b3)) (qG 27 22 (bT q46) (fun wq_ hq_ => eM (.slice A13 x12.length c14)) ?_))))
   obtain ⟨b47, o48, e49⟩ := Rd.addr h15 (show 0 < x12.length by omega)
   obtain ⟨y50, r51, k52⟩ := Rd.at h15 e49 (getD_some z70 (show 0 < x12.length by omega))
   obtain ⟨A53, c54, rfl, l55, h56⟩ := st70_open r51
   refine qG 28 22 (bT q46) (fun wq_ hq_ => e_indexAddr (b := b47) (off := o48) (n := x12.length) (c := c14) (sz := 3) (i := 0) (k := .i64) underlying43 e49 kr kr rfl (by omega) q35) (qG 29 22 (bT q46) (fun wq_ hq_ => eD b47 (o48 + (0 : Int).toNat * 3) 2 1 underlying70) (qG 30 22 (bT q46) (fun wq_ hq_ => eK underlying22 (hpx ((S33.still hq_).1.inv.cell (k52 2 _ rfl)))) ?_))
   obtain ⟨t57, u58, M⟩ := bnd M
   refine qcallg (v := .int .i64 t57) (d := 31) (t := 22) rfl kr rfl (bT q46) rfl kr (fun w_ => eE func99) (fun wq_ hq_ => (by obtain ⟨S_, K_⟩ := S33.still hq_; replace b26 := K_.b 0 b26; exact (spec_l3find.calls h6 l7 h56 l55 S_.own0 u58))) (qG 32 22 (bT q46) (fun wq_ hq_ => e_geq (k := .i64) (a := t57) (b := 0) kr rfl) (qG 33 22 (bT q46) (fun wq_ hq_ => eM (.bool (decide (t57 ≥ 0)))) ?_))
   obtain ⟨q59, M⟩ | ⟨q59, M⟩ := ifc M
   ·refine qP1 10 33 (bT q59) (qG 44 22 (bT q46) (fun wq_ hq_ => eT (.bool true) (bT q59)) (qV 45 (fun wq_ hq_ => eT (.bool true) (bT q46)) ?_))
    refine wpQuiet_nil ?_
    intro w60 C63
    obtain ⟨S61, K62⟩ := S33.still C63
    refine tN (cond_t rfl kr (wQ (wR (lP 1 ?_))))
    obtain ⟨q64, M⟩ := chk M
    refine lV 47 (e_sadd (p := ([40] : List UInt8)) (q := t29) rfl kr q64) ?_
    obtain ⟨q65, M⟩ := chk M
    refine lV 48 (e_sadd (p := (([40] : List UInt8) ++ t29)) (q := ([41] : List UInt8)) kr rfl q65) (lP 1 (wN (tN (wT (tR ?_)))))
    obtain rfl := sj M
    exact ret1 rfl rfl  kr ⟨rfl, S61.chg⟩
   refine qG 34 33 (bF q59) (fun wq_ hq_ => eM (.pointer (some ⟨g2, 0, none⟩))) (qG 35 33 (bF q59) (fun wq_ hq_ => eN ⟨g2, 0, none⟩) (qG 36 33 (bF q59) (fun wq_ hq_ => eD g2 0 0 1 underlying80) (qG 37 33 (bF q59) (fun wq_ hq_ => eB 0 ((S33.still hq_).1.inv _ _ b3)) (qG 38 33 (bF q59) (fun wq_ hq_ => eM (.slice A13 x12.length c14)) ?_))))
   obtain ⟨b66, o67, e68⟩ := Rd.addr h15 (show 0 < x12.length by omega)
   obtain ⟨y69, r70, k71⟩ := Rd.at h15 e68 (getD_some z70 (show 0 < x12.length by omega))
   obtain ⟨A72, c73, rfl, l74, h75⟩ := st70_open r70
   refine qG 39 33 (bF q59) (fun wq_ hq_ => e_indexAddr (b := b66) (off := o67) (n := x12.length) (c := c14) (sz := 3) (i := 0) (k := .i64) underlying43 e68 kr kr rfl (by omega) q35) (qG 40 33 (bF q59) (fun wq_ hq_ => eD b66 (o67 + (0 : Int).toNat * 3) 2 1 underlying70) (qG 41 33 (bF q59) (fun wq_ hq_ => eK underlying22 (hpx ((S33.still hq_).1.inv.cell (k71 2 _ rfl)))) ?_))
   obtain ⟨t76, u77, M⟩ := bnd M
   refine qcallg (v := .int .i64 t76) (d := 42) (t := 33) rfl kr rfl (bF q59) rfl kr (fun w_ => eE func99) (fun wq_ hq_ => (by obtain ⟨S_, K_⟩ := S33.still hq_; replace b26 := K_.b 0 b26; exact (spec_l3find.calls h6 l7 h75 l74 S_.own0 u77))) (qG 43 33 (bF q59) (fun wq_ hq_ => e_geq (k := .i64) (a := t76) (b := 0) kr rfl) (qG 44 22 (bT q46) (fun wq_ hq_ => eF (.bool (decide (t76 ≥ 0))) (bF q59)) (qV 45 (fun wq_ hq_ => eT (.bool (decide (t76 ≥ 0))) (bT q46)) ?_)))
   refine wpQuiet_nil ?_
   intro w78 C81
   obtain ⟨S79, K80⟩ := S33.still C81
   replace b26 := K80.b 0 b26
   refine tN ?_
   obtain ⟨q82, M⟩ | ⟨q82, M⟩ := ifc M
   ·refine cT (bT q82) (wQ (wR (lP 1 ?_)))
    obtain ⟨q83, M⟩ := chk M
    refine lV 47 (e_sadd (p := ([40] : List UInt8)) (q := t29) rfl kr q83) ?_
    obtain ⟨q84, M⟩ := chk M
    refine lV 48 (e_sadd (p := (([40] : List UInt8) ++ t29)) (q := ([41] : List UInt8)) kr rfl q84) (lP 1 (wN (tN (wT (tR ?_)))))
    obtain rfl := sj M
    exact ret1 rfl rfl  kr ⟨rfl, S79.chg⟩
   refine cF (bF q82) (wK (tN (wQ (wR (lP 2 ?_)))))
   obtain ⟨t85, u86, M⟩ := bnd M
   refine lC 51 (eE func85) (spec_l3out_top.calls x1 h6 l7 h10 l11 b3 h15 l16 S79.own0 u86) ?_
   rintro _ w87 ⟨rfl, C88⟩
   refine ⟨_, rfl, ?_⟩
   obtain ⟨S89, K90⟩ := S79.still C88
   replace b26 := K90.b 0 b26
   refine lP 1 (wN (tN (wQ (wQ ?_))))
   refine region_still kr kr S89 ?_
   intro w91 S92 K93
   replace b26 := K93.b 0 b26
   refine sP 2 ?_
   obtain ⟨q94, M⟩ | ⟨q94, M⟩ := ifd M
   ·refine sP1 44 53 (bvf q94 kr) (wpStill_nil (tN (cond_f rfl kr (wK (tN (wQ (wR (lP 2 (wN (tN (wT ?_)))))))))))
    obtain rfl := sj M
    exact ret1 rfl rfl  kr ⟨rfl, S92.chg⟩
   refine sP1 4 53 (bvt q94 kr) ?_
   obtain ⟨q95, M⟩ | ⟨q95, M⟩ := ifd M
   ·refine sP1 40 57 (bF q95) (wpStill_nil (tN (cond_f rfl kr (wK (tN (wQ (wR (lP 2 (wN (tN (wT ?_)))))))))))
    obtain rfl := sj M
    exact ret1 rfl rfl  kr ⟨rfl, S92.chg⟩
   refine sP1 3 57 (bT q95) (sG 61 57 (bT q95) (eB 0 (S92.inv _ _ b3)) (sP1 1 57 (bT q95) ?_))
   obtain ⟨q96, M⟩ := chk M
   obtain ⟨q97, M⟩ := chk M
   obtain ⟨b98, o99, e100⟩ := Rd.addr h6 (show (t85).toNat < x1.ops_.length by omega)
   obtain ⟨y101, r102, k103⟩ := Rd.at h6 e100 (getD_some z86 (show (t85).toNat < x1.ops_.length by omega))
   obtain ⟨A104, c105, rfl, l106, h107⟩ := st86_open r102
   refine sG 63 57 (bT q95) (eJ underlying48 e100 q96 q97) (sP1 1 57 (bT q95) (sG 65 57 (bT q95) (eK underlying3 (hpx (S92.inv.cell (k103 1 _ rfl)))) (sP1 1 57 (bT q95) (sG 67 57 (bT q95) (eB 1 b26) (sP1 3 57 (bT q95) ?_)))))
   obtain ⟨q108, M⟩ | ⟨q108, M⟩ := ifd M
   ·refine sP1 27 70 (bF q108) (wpStill_nil (tN (cond_f rfl kr (wK (tN (wQ (wR (lP 2 (wN (tN (wT ?_)))))))))))
    obtain rfl := sj M
    exact ret1 rfl rfl  kr ⟨rfl, S92.chg⟩
   refine sP1 2 70 (bT q108) (sG 73 70 (bT q108) (eB 1 b26) (sP1 3 70 (bT q108) ?_))
   obtain ⟨q109, M⟩ | ⟨q109, M⟩ := ifd M
   ·refine sP1 21 76 (bF q109) (wpStill_nil (tN (cond_f rfl kr (wK (tN (wQ (wR (lP 2 (wN (tN (wT ?_)))))))))))
    obtain rfl := sj M
    exact ret1 rfl rfl  kr ⟨rfl, S92.chg⟩
   refine sP1 3 76 (bT q109) (sG 80 76 (bT q109) (eB 0 (S92.inv _ _ b3)) (sP1 1 76 (bT q109) ?_))
   obtain ⟨b110, o111, e112⟩ := Rd.addr h6 (show (t85).toNat < x1.ops_.length by omega)
   obtain ⟨y113, r114, k115⟩ := Rd.at h6 e112 (getD_some z86 (show (t85).toNat < x1.ops_.length by omega))
   obtain ⟨A116, c117, rfl, l118, h119⟩ := st86_open r114
   refine sG 82 76 (bT q109) (eJ underlying48 e112 q96 q97) (sP1 1 76 (bT q109) (sG 84 76 (bT q109) (eK underlying3 (hpx (S92.inv.cell (k115 2 _ rfl)))) (sP1 2 76 (bT q109) ?_)))
   obtain ⟨q120, M⟩ | ⟨q120, M⟩ := ifc M
   ·refine sP2 11 86 (bT q120) 76 (bT q109) (wpStill_nil (tN (cond_t rfl kr (wQ (wR (lP 1 ?_))))))
    obtain ⟨q121, M⟩ := chk M
    refine lV 99 (e_sadd (p := ([40] : List UInt8)) (q := t29) rfl kr q121) ?_
    obtain ⟨q122, M⟩ := chk M
    refine lV 100 (e_sadd (p := (([40] : List UInt8) ++ t29)) (q := ([41] : List UInt8)) kr rfl q122) (lP 1 (wN (tN (wT (tR ?_)))))
    obtain rfl := sj M
    exact ret1 rfl rfl  kr ⟨rfl, S92.chg⟩
   refine sP1 3 86 (bF q120) (sG 90 86 (bF q120) (eB 0 (S92.inv _ _ b3)) (sP1 1 86 (bF q120) ?_))
   obtain ⟨b123, o124, e125⟩ := Rd.addr h6 (show (t85).toNat < x1.ops_.length by omega)
   obtain ⟨y126, r127, k128⟩ := Rd.at h6 e125 (getD_some z86 (show (t85).toNat < x1.ops_.length by omega))
   obtain ⟨A129, c130, rfl, l131, h132⟩ := st86_open r127
   refine sG 92 86 (bF q120) (eJ underlying48 e125 q96 q97) (sP1 1 86 (bF q120) (sG 94 86 (bF q120) (eK underlying3 (hpx (S92.inv.cell (k128 2 _ rfl)))) (sP2 3 86 (bF q120) 76 (bT q109) (wpStill_nil (tN ?_)))))
   obtain ⟨q133, M⟩ | ⟨q133, M⟩ := ifd M
   ·refine cF (bF q133) (wK (tN (wQ (wR (lP 2 (wN (tN (wT ?_))))))))
    obtain rfl := sj M
    exact ret1 rfl rfl  kr ⟨rfl, S92.chg⟩
   refine cT (bT q133) (wQ (wR (lP 1 ?_)))
   obtain ⟨q134, M⟩ := chk M
   refine lV 99 (e_sadd (p := ([40] : List UInt8)) (q := t29) rfl kr q134) ?_
   obtain ⟨q135, M⟩ := chk M
   refine lV 100 (e_sadd (p := (([40] : List UInt8) ++ t29)) (q := ([41] : List UInt8)) kr rfl q135) (lP 1 (wN (tN (wT (tR ?_)))))
   obtain rfl := sj M
   exact ret1 rfl rfl  kr ⟨rfl, S92.chg⟩
theorem spec_l3out_text.calls {k : Nat} {w : World} {H : Hp} (x1 : GL3out) {g2 : Nat} {A4 : Option Addr} {c5 : Nat} {A8 : Option Addr} {c9 : Nat} {x12 : List Cell} {A13 : Option Addr} {c14 : Nat} {x17 : Int} (h6 : Rd st86 H A4 x1.ops_) (l7 : x1.ops_.length ≤ c5) (h10 : Rd sl5 H A8 x1.names_) (l11 : x1.names_.length ≤ c9) (b3 : H g2 = some (.cells #[.slice A4 x1.ops_.length c5, .slice A8 x1.names_.length c9, .bool x1.quoted_] 80 (0, 0))) (h15 : Rd st70 H A13 x12) (l16 : x12.length ≤ c14) (S : Own [] H w) {r : List UInt8} (M : spec_l3out_text.f k x1 x12 x17 = some r) :
  Calls Tryz.prog 61 #[.pointer (some ⟨g2, 0, none⟩), .slice A13 x12.length c14, .int .i64 x17] w (fun e e_w => e = .returned (str r) ∧ Chg no w e_w) := (spec_l3out_text.all (k + 1)).1 k (Nat.lt_succ_self k) w H x1 g2 A4 c5 A8 c9 x12 A13 c14 x17 h6 l7 h10 l11 b3 h15 l16 S r M
theorem spec_l3out_compound.calls {k : Nat} {w : World} {H : Hp} (x1 : GL3out) {g2 : Nat} {A4 : Option Addr} {c5 : Nat} {A8 : Option Addr} {c9 : Nat} {x12 : List Cell} {A13 : Option Addr} {c14 : Nat} {x17 : Int} (h6 : Rd st86 H A4 x1.ops_) (l7 : x1.ops_.length ≤ c5) (h10 : Rd sl5 H A8 x1.names_) (l11 : x1.names_.length ≤ c9) (b3 : H g2 = some (.cells #[.slice A4 x1.ops_.length c5, .slice A8 x1.names_.length c9, .bool x1.quoted_] 80 (0, 0))) (h15 : Rd st70 H A13 x12) (l16 : x12.length ≤ c14) (S : Own [] H w) {r : List UInt8} (M : spec_l3out_compound.f k x1 x12 x17 = some r) :
  Calls Tryz.prog 80 #[.pointer (some ⟨g2, 0, none⟩), .slice A13 x12.length c14, .int .i64 x17] w (fun e e_w => e = .returned (str r) ∧ Chg no w e_w) := (spec_l3out_text.all (k + 1)).2.1 k (Nat.lt_succ_self k) w H x1 g2 A4 c5 A8 c9 x12 A13 c14 x17 h6 l7 h10 l11 b3 h15 l16 S r M
theorem spec_l3out_plain.calls {k : Nat} {w : World} {H : Hp} (x1 : GL3out) {g2 : Nat} {A4 : Option Addr} {c5 : Nat} {A8 : Option Addr} {c9 : Nat} {x12 : List Cell} {A13 : Option Addr} {c14 : Nat} {x17 : List (List Cell)} {A18 : Option Addr} {c19 : Nat} (h6 : Rd st86 H A4 x1.ops_) (l7 : x1.ops_.length ≤ c5) (h10 : Rd sl5 H A8 x1.names_) (l11 : x1.names_.length ≤ c9) (b3 : H g2 = some (.cells #[.slice A4 x1.ops_.length c5, .slice A8 x1.names_.length c9, .bool x1.quoted_] 80 (0, 0))) (h15 : Rd st70 H A13 x12) (l16 : x12.length ≤ c14) (h20 : Rd sl70 H A18 x17) (l21 : x17.length ≤ c19) (S : Own [] H w) {r : List UInt8} (M : spec_l3out_plain.f k x1 x12 x17 = some r) :
  Calls Tryz.prog 86 #[.pointer (some ⟨g2, 0, none⟩), .slice A13 x12.length c14, .slice A18 x17.length c19] w (fun e e_w => e = .returned (str r) ∧ Chg no w e_w) := (spec_l3out_text.all (k + 1)).2.2.1 k (Nat.lt_succ_self k) w H x1 g2 A4 c5 A8 c9 x12 A13 c14 x17 A18 c19 h6 l7 h10 l11 b3 h15 l16 h20 l21 S r M
theorem spec_l3out_operand.calls {k : Nat} {w : World} {H : Hp} (x1 : GL3out) {g2 : Nat} {A4 : Option Addr} {c5 : Nat} {A8 : Option Addr} {c9 : Nat} {x12 : List Cell} {A13 : Option Addr} {c14 : Nat} {x17 : Int} {x18 : Bool} (x19 : Sy.Op) {A20 : Option Addr} {c21 : Nat} (h6 : Rd st86 H A4 x1.ops_) (l7 : x1.ops_.length ≤ c5) (h10 : Rd sl5 H A8 x1.names_) (l11 : x1.names_.length ≤ c9) (b3 : H g2 = some (.cells #[.slice A4 x1.ops_.length c5, .slice A8 x1.names_.length c9, .bool x1.quoted_] 80 (0, 0))) (h15 : Rd st70 H A13 x12) (l16 : x12.length ≤ c14) (h22 : Rd tByte H A20 x19.name) (l23 : x19.name.length ≤ c21) (S : Own [] H w) {r : List UInt8} (M : spec_l3out_operand.f k x1 x12 x17 x18 x19 = some r) :
  Calls Tryz.prog 87 #[.pointer (some ⟨g2, 0, none⟩), .slice A13 x12.length c14, .int .i64 x17, .bool x18, .agg #[.slice A20 x19.name.length c21, .int .i64 x19.pri, .int .i64 x19.typ]] w (fun e e_w => e = .returned (str r) ∧ Chg no w e_w) := (spec_l3out_text.all (k + 1)).2.2.2 k (Nat.lt_succ_self k) w H x1 g2 A4 c5 A8 c9 x12 A13 c14 x17 x18 x19 A20 c21 h6 l7 h10 l11 b3 h15 l16 h22 l23 S r M
def spec_WriteTerm.f (k : Nat) (x1 : List Sy.Op) (x6 : List Cell) (x11 : List (List UInt8)) (x16 : Bool) : Option (List UInt8) := ((spec_ValidOps.f k x1).bind fun t17 => (if ¬ (t17 = true) then some [] else ((spec_ValidTerm.f k x6).bind fun t25 => (if ¬ (t25 = true) then some [] else ((spec_l3out_text.f k (⟨x1, x11, x16⟩ : GL3out) x6 1200).bind fun t38 => (if t38.length ≤ 9223372036854775807 then some t38 else none))))))
theorem spec_WriteTerm.calls {k : Nat} {w : World} {H : Hp} {x1 : List Sy.Op} {A2 : Option Addr} {c3 : Nat} {x6 : List Cell} {A7 : Option Addr} {c8 : Nat} {x11 : List (List UInt8)} {A12 : Option Addr} {c13 : Nat} {x16 : Bool} (h4 : Rd st86 H A2 x1) (l5 : x1.length ≤ c3) (h9 : Rd st70 H A7 x6) (l10 : x6.length ≤ c8) (h14 : Rd sl5 H A12 x11) (l15 : x11.length ≤ c13) (S : Own [] H w) {r : List UInt8} (M : spec_WriteTerm.f k x1 x6 x11 x16 = some r) :
  Calls Tryz.prog 25 #[.slice A2 x1.length c3, .slice A7 x6.length c8, .slice A12 x11.length c13, .bool x16] w (fun e e_w => ∃ (A_1 : Option Addr) (c_1 : Nat) (F_1 : Foot) (H_ : Hp), e = .returned (.slice A_1 r.length c_1) ∧ Row tByte 5 H_ (hp e_w) F_1 A_1 c_1 r ∧ St (anyOf []) H w [F_1] H_ e_w) := by
 rw [spec_WriteTerm.f] at M
 refine enter (l := [.slice A2 x1.length c3, .slice A7 x6.length c8, .slice A12 x11.length c13, .bool x16]) 27 func25 rfl rfl rfl ?_
 have S0_ := S.st
 refine wQ (wR (lP 1 (wN (tN (wQ (wQ (wR (lP 1 ?_))))))))
 obtain ⟨t17, u18, M⟩ := bnd M
 refine lC 11 (eE func60) (spec_ValidOps.calls h4 l5 S0_.own0 u18) ?_
 rintro _ w19 ⟨rfl, C20⟩
 refine ⟨_, rfl, ?_⟩
 obtain ⟨S21, K22⟩ := S0_.still C20
 refine lV 12 (e_notv (c := t17) kr) (lP 1 ?_)
 obtain ⟨q23, M⟩ | ⟨q23, M⟩ := ifc M
 ·refine lP1 4 13 (bT q23) (wN (tN (cond_t rfl kr (wQ (wR (lP 1 (wN (tN (wT (tR ?_))))))))))
  obtain rfl := sj M
  have S24 := S21.unit
  exact ret1 rfl rfl  kr ⟨none, 0, no, H, rfl, (Row.nil _ _ _ _ no), S24⟩
 refine lP1 1 13 (bF q23) ?_
 obtain ⟨t25, u26, M⟩ := bnd M
 refine lcallg (d := 15) (t := 13) rfl kr rfl (bF q23) rfl kr (eE func23) (spec_ValidTerm.calls h9 l10 S21.own0 u26) ?_
 rintro _ w27 ⟨rfl, C28⟩
 refine ⟨_, rfl, ?_⟩
 obtain ⟨S29, K30⟩ := S21.still C28
 refine lG 16 13 (bF q23) (e_notv (c := t25) kr) (lP1 1 13 (bF q23) (wN (tN ?_)))
 obtain ⟨q31, M⟩ | ⟨q31, M⟩ := ifc M
 ·refine cT (bT q31) (wQ (wR (lP 1 (wN (tN (wT (tR ?_)))))))
  obtain rfl := sj M
  have S32 := S29.unit
  exact ret1 rfl rfl  kr ⟨none, 0, no, H, rfl, (Row.nil _ _ _ _ no), S32⟩
 refine cF (bF q31) (wK (tN (wQ (wR (lP 4 ?_)))))
 refine lW 22 (nB #[.slice A2 x1.length c3, .slice A12 x11.length c13, .bool x16] 80 S29) ?_
 rintro _ w33 ⟨g34, rfl, b35, S36, K37⟩
 refine lP 1 (wN (tN (wQ (wR (lP 2 ?_)))))
 obtain ⟨t38, u39, M⟩ := bnd M
 refine lC 25 (eE func61) (by obtain ⟨H40, S41, E42, h43, z44⟩ := S36.frzBlk b35; exact (spec_l3out_text.calls (⟨x1, x11, x16⟩ : GL3out) (h4.ext E42) l5 (h14.ext E42) l15 h43 (h9.ext E42) l10 S41.own0 u39)) ?_
 rintro _ w45 ⟨rfl, C46⟩
 refine ⟨_, rfl, ?_⟩
 obtain ⟨S47, K48⟩ := S36.still C46
 obtain ⟨q49, M⟩ := chk M
 refine lW 26 (e_conv_sb (xs := t38) S47 underlying9 underlying22 underlying5 kr q49) ?_
 rintro _ w50 ⟨A51, c52, F53, rfl, h54, S55, K56⟩
 refine lP 1 (wN (tN (wT ?_)))
 obtain rfl := sj M
 have S57 := St.first (Fa := [F53]) (Fr := [(is g34)]) S55
 exact ret1 rfl rfl  kr ⟨A51, c52, F53, H, rfl, h54, S57⟩
def spec_l4source.l0 : Nat → (Int × GL4rd) → (List UInt8) → Int → Option ((List UInt8) × GL4rd)
 | 0, _, _, _ => none
 | k224 + 1, t198, x213, x218 => (if x218 < (i64.wrap (18 + (Int.tmod t198.1 3))) then (if x213.length + ([44, 49] : List UInt8).length ≤ 140737488355328 then (spec_l4source.l0 k224 t198 (x213 ++ ([44, 49] : List UInt8)) (i64.wrap (x218 + 1))) else none) else (if x213.length + ([41, 46] : List UInt8).length ≤ 140737488355328 then some ((x213 ++ ([41, 46] : List UInt8)), t198.2) else none))
def spec_l4source.l1 : Nat → (Int × GL4rd) → (List UInt8) → Int → Option ((List UInt8) × GL4rd)
 | 0, _, _, _ => none
 | k287 + 1, t261, x276, x281 => (if x281 < (i64.wrap (1000 + (Int.tmod t261.1 2))) then (if x276.length + ([43, 49] : List UInt8).length ≤ 140737488355328 then (spec_l4source.l1 k287 t261 (x276 ++ ([43, 49] : List UInt8)) (i64.wrap (x281 + 1))) else none) else (if x276.length + ([32, 46] : List UInt8).length ≤ 140737488355328 then some ((x276 ++ ([32, 46] : List UInt8)), t261.2) else none))
def spec_l4source.f (k : Nat) (x1 : GL4rd) : Option ((List UInt8) × GL4rd) := ((spec_l4rd_next_2.f x1).bind fun t8 => (if (Int.tmod t8.1 4) = 0 then ((spec_l4soup.f k t8.2).bind fun t22 => some (t22.1, t22.2)) else (if (Int.tmod t8.1 4) = 1 then ((spec_l4oddText.f t8.2).bind fun t40 => some (t40.1, t40.2)) else (if t8.1 = 250 then ((spec_l4rd_next_2.f t8.2).bind fun t58 => ((spec_l4fill.f k (97 : UInt8) (i64.wrap (99 + (Int.tmod t58.1 3)))).bind fun t71 => (if t71.length + ([32, 46] : List UInt8).length ≤ 140737488355328 then ((spec_l4rd_next_2.f t58.2).bind fun t94 => ((spec_l4fill.f k (32 : UInt8) t94.1).bind fun t107 => (if (t71 ++ ([32, 46] : List UInt8)).length + t107.length ≤ 140737488355328 then some (((t71 ++ ([32, 46] : List UInt8)) ++ t107), t94.2) else none))) else none))) else (if t8.1 = 254 then ((spec_l4rd_next_2.f t8.2).bind fun t146 => ((spec_l4fill.f k (32 : UInt8) (i64.wrap (9997 + (Int.tmod t146.1 3)))).bind fun t159 => (if 2 + t159.length ≤ 140737488355328 then some (([(97 : UInt8), (46 : UInt8)] ++ t159), t146.2) else none))) else (if t8.1 = 246 then ((spec_l4rd_next_2.f t8.2).bind fun t198 => (spec_l4source.l0 k t198 [(102 : UInt8), (40 : UInt8), (49 : UInt8)] 0)) else (if t8.1 = 242 then ((spec_l4rd_next_2.f t8.2).bind fun t261 => (spec_l4source.l1 k t261 [(120 : UInt8)] 0)) else ((spec_l4term.f k t8.2 4).bind fun t313 => ((spec_ValidTerm.f k t313.1).bind fun t330 => (if ¬ (t330 = true) then ((spec_l2atom.f ([97] : List UInt8)).bind fun t344 => ((spec_DefaultOps.f k ).bind fun t356 => ((spec_WriteTerm.f k t356 t344 [] true).bind fun t380 => (if t380.length + ([32, 46, 10] : List UInt8).length ≤ 140737488355328 then some ((t380 ++ ([32, 46, 10] : List UInt8)), t313.2) else none)))) else ((spec_DefaultOps.f k ).bind fun t404 => ((spec_WriteTerm.f k t404 t313.1 [] true).bind fun t429 => (if t429.length + ([32, 46, 10] : List UInt8).length ≤ 140737488355328 then some ((t429 ++ ([32, 46, 10] : List UInt8)), t313.2) else none)))))))))))))
theorem spec_l4source.calls {k : Nat} {w : World} {H : Hp} (x1 : GL4rd) {g2 : Nat} {A4 : Option Addr} {c5 : Nat} (h6 : Rd tByte H A4 x1.b_) (l7 : x1.b_.length ≤ c5) (b3 : w.heap[g2]? = some (.cells #[.slice A4 x1.b_.length c5, .int .i64 x1.i_] 51 (0, 0))) (S : Own [(is g2)] H w) {r : (List UInt8) × GL4rd} (M : spec_l4source.f k x1 = some r) :
  Calls Tryz.prog 10 #[.pointer (some ⟨g2, 0, none⟩)] w (fun e e_w => ∃ (A_1 : Option Addr) (c_1 : Nat) (A_2 : Option Addr) (c_2 : Nat) (F_1 : Foot) (H_ : Hp), e = .returned (.slice A_2 r.1.length c_2) ∧ Rd tByte H_ A_1 r.2.b_ ∧ r.2.b_.length ≤ c_1 ∧ e_w.heap[g2]? = some (.cells #[.slice A_1 r.2.b_.length c_1, .int .i64 r.2.i_] 51 (0, 0)) ∧ Row tByte 5 H_ (hp e_w) F_1 A_2 c_2 r.1 ∧ St (anyOf [(is g2)]) H w [(is g2), F_1] H_ e_w) := by
 rw [spec_l4source.f] at M
 refine enter (l := [.pointer (some ⟨g2, 0, none⟩)]) 91 func10 rfl rfl rfl ?_
 have S0_ := S.st
 refine wQ (wR (lP 1 (wN (tN (wQ (wR (lP 1 ?_)))))))
 obtain ⟨t8, u9, M⟩ := bnd M
 refine lC 13 (eE func18) (spec_l4rd_next_2.calls x1 h6 l7 b3 (St.own' (Fa := [(is g2)]) (Fr := []) S0_) u9) ?_
 rintro _ w10 ⟨A13, c14, H11, rfl, h15, l16, b17, T12⟩
 refine ⟨_, rfl, ?_⟩
 obtain ⟨S18, K19⟩ := St.call (Fa := [(is g2)]) (Fr := []) S0_ T12
 have E20 := T12.ext
 refine lP 1 (wN (tN (wQ (wQ (wR (lP 3 (wN (tN ?_))))))))
 obtain ⟨q21, M⟩ | ⟨q21, M⟩ := ifc M
 ·refine cT (bT q21) (wQ (wR (lP 1 ?_)))
  obtain ⟨t22, u23, M⟩ := bnd M
  refine lC 18 (eE func19) (spec_l4soup.calls t8.2 h15 l16 b17 (St.own' (Fa := [(is g2)]) (Fr := []) S18) u23) ?_
  rintro _ w24 ⟨A27, c28, A32, c33, F35, H25, rfl, h29, l30, b31, h34, T26⟩
  refine ⟨_, rfl, ?_⟩
  obtain ⟨S36, K37⟩ := St.call (Fa := [(is g2)]) (Fr := []) S18 T26
  have E38 := T26.ext
  refine lP 1 (wN (tN (wT (tR ?_))))
  obtain rfl := sj M
  exact ret1 rfl rfl  kr ⟨A27, c28, A32, c33, F35, H25, rfl, h29, l30, b31, h34, S36⟩
 refine cF (bF q21) (wK (tN (wQ (wQ (wR (lP 3 (wN (tN ?_))))))))
 obtain ⟨q39, M⟩ | ⟨q39, M⟩ := ifc M
 ·refine cT (bT q39) (wQ (wR (lP 1 ?_)))
  obtain ⟨t40, u41, M⟩ := bnd M
  refine lC 23 (eE func20) (spec_l4oddText.calls t8.2 h15 l16 b17 (St.own' (Fa := [(is g2)]) (Fr := []) S18) u41) ?_
  rintro _ w42 ⟨A45, c46, A50, c51, F53, H43, rfl, h47, l48, b49, h52, T44⟩
  refine ⟨_, rfl, ?_⟩
  obtain ⟨S54, K55⟩ := St.call (Fa := [(is g2)]) (Fr := []) S18 T44
  have E56 := T44.ext
  refine lP 1 (wN (tN (wT (tR ?_))))
  obtain rfl := sj M
  exact ret1 rfl rfl  kr ⟨A45, c46, A50, c51, F53, H43, rfl, h47, l48, b49, h52, S54⟩
 refine cF (bF q39) (wK (tN (wQ (wQ (wR (lP 2 (wN (tN ?_))))))))
 obtain ⟨q57, M⟩ | ⟨q57, M⟩ := ifc M
 ·refine cT (bT q57) (wQ (wR (lP 1 ?_)))
  obtain ⟨t58, u59, M⟩ := bnd M
  refine lC 27 (eE func18) (spec_l4rd_next_2.calls t8.2 h15 l16 b17 (St.own' (Fa := [(is g2)]) (Fr := []) S18) u59) ?_
  rintro _ w60 ⟨A63, c64, H61, rfl, h65, l66, b67, T62⟩
  refine ⟨_, rfl, ?_⟩
  obtain ⟨S68, K69⟩ := St.call (Fa := [(is g2)]) (Fr := []) S18 T62
  have E70 := T62.ext
  refine lP 2 ?_
  obtain ⟨t71, u72, M⟩ := bnd M
  refine lC 30 (eE func21) (spec_l4fill.calls  (St.own' (Fa := []) (Fr := [(is g2)]) S68) u72) ?_
  rintro _ w73 ⟨A76, c77, F79, H74, rfl, h78, T75⟩
  refine ⟨_, rfl, ?_⟩
  obtain ⟨S80, K81⟩ := St.call (Fa := []) (Fr := [(is g2)]) S68 T75
  replace b67 := K81.b 0 b67
  have E82 := T75.ext
  obtain ⟨q83, M⟩ := chk M
  have S84 := S80.unit
  have S85 := S84.pulls [F79, no, (is g2)] [1] rfl
  refine lW 31 (e_append_str (n := t71.length) (xs := t71) (cap := c77) (A := A76) (ys := ([32, 46] : List UInt8)) (z := .int .u8 0) (bytes := 1) S85 underlying22 underlying9 kr rfl kr rfl rfl h78 (show (t71.length + ([32, 46] : List UInt8).length) * 1 ≤ _ by omega) (by decide)) ?_
  rintro _ w86 ⟨A87, c88, F89, rfl, h90, S91, K92⟩
  replace b67 := K92.b 0 b67
  refine lP 1 ?_
  have S93 := S91.pulls [(is g2), F89] [1] rfl
  obtain ⟨t94, u95, M⟩ := bnd M
  refine lC 33 (eE func18) (spec_l4rd_next_2.calls t58.2 (h65.ext E82) l66 b67 (St.own' (Fa := [(is g2)]) (Fr := [F89]) S93) u95) ?_
  rintro _ w96 ⟨A99, c100, H97, rfl, h101, l102, b103, T98⟩
  refine ⟨_, rfl, ?_⟩
  obtain ⟨S104, K105⟩ := St.call (Fa := [(is g2)]) (Fr := [F89]) S93 T98
  replace h90 := h90.move (K105.a 0)
  have E106 := T98.ext
  replace h90 := h90.ext E106
  obtain ⟨t107, u108, M⟩ := bnd M
  refine lC 34 (eE func21) (spec_l4fill.calls  (St.own' (Fa := []) (Fr := [(is g2), F89]) S104) u108) ?_
  rintro _ w109 ⟨A112, c113, F115, H110, rfl, h114, T111⟩
  refine ⟨_, rfl, ?_⟩
  obtain ⟨S116, K117⟩ := St.call (Fa := []) (Fr := [(is g2), F89]) S104 T111
  replace b103 := K117.b 0 b103
  replace h90 := h90.move (K117.a 1)
  have E118 := T111.ext
  replace h90 := h90.ext E118
  obtain ⟨y119, h120, h121⟩ := Row.news0 (d := tByte) (oo_scal _ _) h114
  obtain ⟨q122, M⟩ := chk M
  have S123 := S116.pulls [F89, F115, (is g2)] [2] rfl
  have S124 := S123.unit
  have S125 := S124.pulls [F89, no, F115, (is g2)] [1] rfl
  refine lW 35 (e_append (d := tByte) (n := (t71 ++ ([32, 46] : List UInt8)).length) (xs := (t71 ++ ([32, 46] : List UInt8))) (cap := c88) (A := A87) (ys := t107) (A2 := A112) (c2 := c113) (z := .int .u8 0) (bytes := 1) S125 underlying22 kr rfl (by decide) kr rfl kr h90 h120 h121 (show ((t71 ++ ([32, 46] : List UInt8)).length + t107.length) * 1 ≤ _ by first | omega | (simp only [List.length_cons, List.length_nil]; omega)) (by decide)) ?_
  rintro _ w126 ⟨A127, c128, F129, rfl, h130, S131, K132⟩
  replace b103 := K132.b 1 b103
  refine lP 1 (wN (tN (wT (tR ?_))))
  obtain rfl := sj M
  have S133 := S131.pulls [(is g2), F129, F115] [2] rfl
  have S134 := St.first (Fa := [(is g2), F129]) (Fr := [F115]) S133
  exact ret1 rfl rfl  kr ⟨A99, c100, A127, c128, F129, H110, rfl, (h101.ext E118), l102, b103, h130, S134⟩
 refine cF (bF q57) (wK (tN (wQ (wQ (wR (lP 2 (wN (tN ?_))))))))
 obtain ⟨q135, M⟩ | ⟨q135, M⟩ := ifc M
 ·refine cT (bT q135) (wQ (wR ?_))
  refine lW 38 (new_blk (v := fun g_ => .slice (some ⟨g_, 0, none⟩) 2 2) (cs := #[.int .u8 97, .int .u8 46]) (t := 5) S18 kr) ?_
  rintro _ w136 ⟨g137, rfl, b138, S139, K140⟩
  replace b17 := K140.b 0 b17
  refine lW 39 (e_conv_lit (g := g137) (n := 2) (cur := #[.int .u8 97, .int .u8 46]) (xs := [(97 : UInt8), (46 : UInt8)]) S139 b138 underlying22 underlying5 kr rfl rfl (by decide)) ?_
  rintro _ w141 ⟨rfl, h142, S143, K144⟩
  replace b17 := K144.b 0 b17
  clear b138
  refine lP 1 ?_
  have S145 := S143.pulls [(is g2), (is g137)] [1] rfl
  obtain ⟨t146, u147, M⟩ := bnd M
  refine lC 41 (eE func18) (spec_l4rd_next_2.calls t8.2 h15 l16 b17 (St.own' (Fa := [(is g2)]) (Fr := [(is g137)]) S145) u147) ?_
  rintro _ w148 ⟨A151, c152, H149, rfl, h153, l154, b155, T150⟩
  refine ⟨_, rfl, ?_⟩
  obtain ⟨S156, K157⟩ := St.call (Fa := [(is g2)]) (Fr := [(is g137)]) S145 T150
  replace h142 := h142.move (K157.a 0)
  have E158 := T150.ext
  replace h142 := h142.ext E158
  refine lP 2 ?_
  obtain ⟨t159, u160, M⟩ := bnd M
  refine lC 44 (eE func21) (spec_l4fill.calls  (St.own' (Fa := []) (Fr := [(is g2), (is g137)]) S156) u160) ?_
  rintro _ w161 ⟨A164, c165, F167, H162, rfl, h166, T163⟩
  refine ⟨_, rfl, ?_⟩
  obtain ⟨S168, K169⟩ := St.call (Fa := []) (Fr := [(is g2), (is g137)]) S156 T163
  replace b155 := K169.b 0 b155
  replace h142 := h142.move (K169.a 1)
  have E170 := T163.ext
  replace h142 := h142.ext E170
  obtain ⟨y171, h172, h173⟩ := Row.news0 (d := tByte) (oo_scal _ _) h166
  obtain ⟨q174, M⟩ := chk M
  have S175 := S168.pulls [(is g137), F167, (is g2)] [2] rfl
  have S176 := S175.unit
  have S177 := S176.pulls [(is g137), no, F167, (is g2)] [1] rfl
  refine lW 45 (e_append (d := tByte) (n := 2) (xs := [(97 : UInt8), (46 : UInt8)]) (cap := 2) (A := (some ⟨g137, 0, none⟩)) (ys := t159) (A2 := A164) (c2 := c165) (z := .int .u8 0) (bytes := 1) S177 underlying22 kr rfl (by decide) kr rfl kr h142 h172 h173 (show (2 + t159.length) * 1 ≤ _ by first | omega | (simp only [List.length_cons, List.length_nil]; omega)) (by decide)) ?_
  rintro _ w178 ⟨A179, c180, F181, rfl, h182, S183, K184⟩
  replace b155 := K184.b 1 b155
  refine lP 1 (wN (tN (wT (tR ?_))))
  obtain rfl := sj M
  have S185 := S183.pulls [(is g2), F181, F167] [2] rfl
  have S186 := St.first (Fa := [(is g2), F181]) (Fr := [F167]) S185
  exact ret1 rfl rfl  kr ⟨A151, c152, A179, c180, F181, H162, rfl, (h153.ext E170), l154, b155, h182, S186⟩
 refine cF (bF q135) (wK (tN (wQ (wQ (wR (lP 2 (wN (tN ?_))))))))
 obtain ⟨q187, M⟩ | ⟨q187, M⟩ := ifc M
 ·refine cT (bT q187) (wQ (wR ?_))
  refine lW 48 (new_blk (v := fun g_ => .slice (some ⟨g_, 0, none⟩) 3 3) (cs := #[.int .u8 102, .int .u8 40, .int .u8 49]) (t := 5) S18 kr) ?_
  rintro _ w188 ⟨g189, rfl, b190, S191, K192⟩
  replace b17 := K192.b 0 b17
  refine lW 49 (e_conv_lit (g := g189) (n := 3) (cur := #[.int .u8 102, .int .u8 40, .int .u8 49]) (xs := [(102 : UInt8), (40 : UInt8), (49 : UInt8)]) S191 b190 underlying22 underlying5 kr rfl rfl (by decide)) ?_
  rintro _ w193 ⟨rfl, h194, S195, K196⟩
  replace b17 := K196.b 0 b17
  clear b190
  refine lP 1 (wN (tN (wQ (wR (lP 1 ?_)))))
  have S197 := S195.pulls [(is g2), (is g189)] [1] rfl
  obtain ⟨t198, u199, M⟩ := bnd M
  refine lC 51 (eE func18) (spec_l4rd_next_2.calls t8.2 h15 l16 b17 (St.own' (Fa := [(is g2)]) (Fr := [(is g189)]) S197) u199) ?_
  rintro _ w200 ⟨A203, c204, H201, rfl, h205, l206, b207, T202⟩
  refine ⟨_, rfl, ?_⟩
  obtain ⟨S208, K209⟩ := St.call (Fa := [(is g2)]) (Fr := [(is g189)]) S197 T202
  replace h194 := h194.move (K209.a 0)
  have E210 := T202.ext
  replace h194 := h194.ext E210
  refine lP 3 (wN (tN (wQ (wQ (wR (lP 1 (wN (tN (wp_block ?_)))))))))
  refine wp_loop_g (fun k222 a223 w211 => ∃ (f212 : Nat → Value) (x213 : List UInt8) (A214 : Option Addr) (c215 : Nat) (F216 : Foot) (x218 : Int), a223 = mk 91 (upd (upd (upd f212 4 (.slice A214 x213.length c215)) 5 (.int .i64 (i64.wrap (18 + (Int.tmod t198.1 3))))) 6 (.int .i64 x218)) ∧ w211.heap[g2]? = some (.cells #[.slice A203 t198.2.b_.length c204, .int .i64 t198.2.i_] 51 (0, 0)) ∧ Row tByte 5 H201 (hp w211) F216 A214 c215 x213 ∧ St (anyOf [(is g2)]) H w [(is g2), F216] H201 w211 ∧ spec_l4source.l0 k222 t198 x213 x218 = some r) k ⟨_, [(102 : UInt8), (40 : UInt8), (49 : UInt8)], (some ⟨g189, 0, none⟩), 3, (is g189), 0, (hdw (hdc (hdc (hdc rfl kr) kr) kr)), b207, h194, S208, M⟩ ?_
  clear M
  rintro k222 a223 w211 ⟨f212, x213, A214, c215, F216, x218, rfl, b207, h217, S219, M⟩
  rcases k222 with _ | k224
  ·rw [spec_l4source.l0] at M
   cases M
  rw [spec_l4source.l0] at M
  refine wQ (wQ (wR (lP 3 (wN (tN ?_)))))
  obtain ⟨q225, M⟩ | ⟨q225, M⟩ := ifd M
  ·refine cF (bF q225) (wp_exit (tE (tE (inb_hit (tN (wQ (wR (lP 1 ?_))))))))
   obtain ⟨q238, M⟩ := chk M
   have S239 := S219.pulls [F216, (is g2)] [1] rfl
   have S240 := S239.unit
   have S241 := S240.pulls [F216, no, (is g2)] [1] rfl
   refine lW 62 (e_append_str (n := x213.length) (xs := x213) (cap := c215) (A := A214) (ys := ([41, 46] : List UInt8)) (z := .int .u8 0) (bytes := 1) S241 underlying22 underlying9 kr rfl kr rfl rfl h217 (show (x213.length + ([41, 46] : List UInt8).length) * 1 ≤ _ by omega) (by decide)) ?_
   rintro _ w242 ⟨A243, c244, F245, rfl, h246, S247, K248⟩
   replace b207 := K248.b 0 b207
   refine lP 1 (wN (tN (wT (tR ?_))))
   obtain rfl := sj M
   have S249 := S247.pulls [(is g2), F245] [1] rfl
   exact ret1 rfl rfl  kr ⟨A203, c204, A243, c244, F245, H201, rfl, h205, l206, b207, h246, S249⟩
  refine cT (bT q225) (wK (tN (wQ (wp_block (wR (lP 1 ?_))))))
  obtain ⟨q226, M⟩ := chk M
  have S227 := S219.pulls [F216, (is g2)] [1] rfl
  have S228 := S227.unit
  have S229 := S228.pulls [F216, no, (is g2)] [1] rfl
  refine lW 60 (e_append_str (n := x213.length) (xs := x213) (cap := c215) (A := A214) (ys := ([44, 49] : List UInt8)) (z := .int .u8 0) (bytes := 1) S229 underlying22 underlying9 kr rfl kr rfl rfl h217 (show (x213.length + ([44, 49] : List UInt8).length) * 1 ≤ _ by omega) (by decide)) ?_
  rintro _ w230 ⟨A231, c232, F233, rfl, h234, S235, K236⟩
  replace b207 := K236.b 0 b207
  refine lP 1 (wN (inb_n (tN (wR (lP 3 (wN (tN ?_)))))))
  have S237 := S235.pulls [(is g2), F233] [1] rfl
  exact ⟨k224, (by omega), _, (x213 ++ ([44, 49] : List UInt8)), A231, c232, F233, (i64.wrap (x218 + 1)), (hdw (hdc (hdc (hdc rfl kr) kr) kr)), b207, h234, S237, M⟩
 refine cF (bF q187) (wK (tN (wQ (wQ (wR (lP 2 (wN (tN ?_))))))))
 obtain ⟨q250, M⟩ | ⟨q250, M⟩ := ifc M
 ·refine cT (bT q250) (wQ (wR ?_))
  refine lW 65 (new_blk (v := fun g_ => .slice (some ⟨g_, 0, none⟩) 1 1) (cs := #[.int .u8 120]) (t := 5) S18 kr) ?_
  rintro _ w251 ⟨g252, rfl, b253, S254, K255⟩
  replace b17 := K255.b 0 b17
  refine lW 66 (e_conv_lit (g := g252) (n := 1) (cur := #[.int .u8 120]) (xs := [(120 : UInt8)]) S254 b253 underlying22 underlying5 kr rfl rfl (by decide)) ?_
  rintro _ w256 ⟨rfl, h257, S258, K259⟩
  replace b17 := K259.b 0 b17
  clear b253
  refine lP 1 (wN (tN (wQ (wR (lP 1 ?_)))))
  have S260 := S258.pulls [(is g2), (is g252)] [1] rfl
  obtain ⟨t261, u262, M⟩ := bnd M
  refine lC 68 (eE func18) (spec_l4rd_next_2.calls t8.2 h15 l16 b17 (St.own' (Fa := [(is g2)]) (Fr := [(is g252)]) S260) u262) ?_
  rintro _ w263 ⟨A266, c267, H264, rfl, h268, l269, b270, T265⟩
  refine ⟨_, rfl, ?_⟩
  obtain ⟨S271, K272⟩ := St.call (Fa := [(is g2)]) (Fr := [(is g252)]) S260 T265
  replace h257 := h257.move (K272.a 0)
  have E273 := T265.ext
  replace h257 := h257.ext E273
  refine lP 3 (wN (tN (wQ (wQ (wR (lP 1 (wN (tN (wp_block ?_)))))))))
  refine wp_loop_g (fun k285 a286 w274 => ∃ (f275 : Nat → Value) (x276 : List UInt8) (A277 : Option Addr) (c278 : Nat) (F279 : Foot) (x281 : Int), a286 = mk 91 (upd (upd (upd f275 7 (.slice A277 x276.length c278)) 8 (.int .i64 (i64.wrap (1000 + (Int.tmod t261.1 2))))) 9 (.int .i64 x281)) ∧ w274.heap[g2]? = some (.cells #[.slice A266 t261.2.b_.length c267, .int .i64 t261.2.i_] 51 (0, 0)) ∧ Row tByte 5 H264 (hp w274) F279 A277 c278 x276 ∧ St (anyOf [(is g2)]) H w [(is g2), F279] H264 w274 ∧ spec_l4source.l1 k285 t261 x276 x281 = some r) k ⟨_, [(120 : UInt8)], (some ⟨g252, 0, none⟩), 1, (is g252), 0, (hdw (hdc (hdc (hdc rfl kr) kr) kr)), b270, h257, S271, M⟩ ?_
  clear M
  rintro k285 a286 w274 ⟨f275, x276, A277, c278, F279, x281, rfl, b270, h280, S282, M⟩
  rcases k285 with _ | k287
  ·rw [spec_l4source.l1] at M
   cases M
  rw [spec_l4source.l1] at M
  refine wQ (wQ (wR (lP 3 (wN (tN ?_)))))
  obtain ⟨q288, M⟩ | ⟨q288, M⟩ := ifd M
  ·refine cF (bF q288) (wp_exit (tE (tE (inb_hit (tN (wQ (wR (lP 1 ?_))))))))
   obtain ⟨q301, M⟩ := chk M
   have S302 := S282.pulls [F279, (is g2)] [1] rfl
   have S303 := S302.unit
   have S304 := S303.pulls [F279, no, (is g2)] [1] rfl
   refine lW 79 (e_append_str (n := x276.length) (xs := x276) (cap := c278) (A := A277) (ys := ([32, 46] : List UInt8)) (z := .int .u8 0) (bytes := 1) S304 underlying22 underlying9 kr rfl kr rfl rfl h280 (show (x276.length + ([32, 46] : List UInt8).length) * 1 ≤ _ by omega) (by decide)) ?_
   rintro _ w305 ⟨A306, c307, F308, rfl, h309, S310, K311⟩
   replace b270 := K311.b 0 b270
   refine lP 1 (wN (tN (wT (tR ?_))))
   obtain rfl := sj M
   have S312 := S310.pulls [(is g2), F308] [1] rfl
   exact ret1 rfl rfl  kr ⟨A266, c267, A306, c307, F308, H264, rfl, h268, l269, b270, h309, S312⟩
  refine cT (bT q288) (wK (tN (wQ (wp_block (wR (lP 1 ?_))))))
  obtain ⟨q289, M⟩ := chk M
  have S290 := S282.pulls [F279, (is g2)] [1] rfl
  have S291 := S290.unit
  have S292 := S291.pulls [F279, no, (is g2)] [1] rfl
  refine lW 77 (e_append_str (n := x276.length) (xs := x276) (cap := c278) (A := A277) (ys := ([43, 49] : List UInt8)) (z := .int .u8 0) (bytes := 1) S292 underlying22 underlying9 kr rfl kr rfl rfl h280 (show (x276.length + ([43, 49] : List UInt8).length) * 1 ≤ _ by omega) (by decide)) ?_
  rintro _ w293 ⟨A294, c295, F296, rfl, h297, S298, K299⟩
  replace b270 := K299.b 0 b270
  refine lP 1 (wN (inb_n (tN (wR (lP 3 (wN (tN ?_)))))))
  have S300 := S298.pulls [(is g2), F296] [1] rfl
  exact ⟨k287, (by omega), _, (x276 ++ ([43, 49] : List UInt8)), A294, c295, F296, (i64.wrap (x281 + 1)), (hdw (hdc (hdc (hdc rfl kr) kr) kr)), b270, h297, S300, M⟩
 refine cF (bF q250) (wK (tN (wQ (wR (lP 1 ?_)))))
 obtain ⟨t313, u314, M⟩ := bnd M
 refine lC 81 (eE func22) (spec_l4term.calls t8.2 h15 l16 b17 (St.own' (Fa := [(is g2)]) (Fr := []) S18) u314) ?_
 rintro _ w315 ⟨A318, c319, A323, c324, F326, H316, rfl, h320, l321, b322, h325, T317⟩
 refine ⟨_, rfl, ?_⟩
 obtain ⟨S327, K328⟩ := St.call (Fa := [(is g2)]) (Fr := []) S18 T317
 have E329 := T317.ext
 refine lP 1 (wN (tN (wQ (wQ (wR (lP 1 ?_))))))
 obtain ⟨t330, u331, M⟩ := bnd M
 refine lC 83 (eE func23) (by have l332 := h325.le; have S333 := S327.pull (F := F326) (Fr := [(is g2)]) 1 rfl rfl; obtain ⟨H334, S335, E336, h337, z338⟩ := S333.frzRow h325; exact (spec_ValidTerm.calls h337 l332 S335.own0 u331)) ?_
 rintro _ w339 ⟨rfl, C340⟩
 refine ⟨_, rfl, ?_⟩
 obtain ⟨S341, K342⟩ := S327.still C340
 replace b322 := K342.b 0 b322
 replace h325 := h325.move (K342.a 1)
 refine lV 84 (e_notv (c := t330) kr) (wN (tN ?_))
 obtain ⟨q343, M⟩ | ⟨q343, M⟩ := ifd M
 ·refine cF (bF q343) (wK (tN (wQ (wR ?_))))
  obtain ⟨t404, u405, M⟩ := bnd M
  refine lC 86 (eE func26) (spec_DefaultOps.calls  (St.own' (Fa := []) (Fr := [(is g2), F326]) S341) u405) ?_
  rintro _ w406 ⟨A409, c410, F412, H407, rfl, h411, T408⟩
  refine ⟨_, rfl, ?_⟩
  obtain ⟨S413, K414⟩ := St.call (Fa := []) (Fr := [(is g2), F326]) S341 T408
  replace b322 := K414.b 0 b322
  replace h325 := h325.move (K414.a 1)
  have E415 := T408.ext
  replace h325 := h325.ext E415
  refine lP 1 ?_
  have l416 := h411.le
  obtain ⟨H417, S418, E419, h420, z421⟩ := S413.frzRow h411
  replace h325 := h325.ext E419
  replace h420 := h420.unro
  have l422 := h325.le
  have S423 := S418.pulls [F326, (is g2)] [1] rfl
  obtain ⟨H424, S425, E426, h427, z428⟩ := S423.frzRow h325
  obtain ⟨t429, u430, M⟩ := bnd M
  refine lC 88 (eE func25) (spec_WriteTerm.calls (h420.ext E426) l416 h427 l422 (Rd.nil _ _ none) (Nat.le_refl _) (St.own' (Fa := []) (Fr := [(is g2)]) S425) u430) ?_
  rintro _ w431 ⟨A434, c435, F437, H432, rfl, h436, T433⟩
  refine ⟨_, rfl, ?_⟩
  obtain ⟨S438, K439⟩ := St.call (Fa := []) (Fr := [(is g2)]) S425 T433
  replace b322 := K439.b 0 b322
  have E440 := T433.ext
  refine lP 1 (wN (tN (wQ (wR (lP 1 ?_)))))
  obtain ⟨q441, M⟩ := chk M
  have S442 := S438.unit
  have S443 := S442.pulls [F437, no, (is g2)] [1] rfl
  refine lW 90 (e_append_str (n := t429.length) (xs := t429) (cap := c435) (A := A434) (ys := ([32, 46, 10] : List UInt8)) (z := .int .u8 0) (bytes := 1) S443 underlying22 underlying9 kr rfl kr rfl rfl h436 (show (t429.length + ([32, 46, 10] : List UInt8).length) * 1 ≤ _ by omega) (by decide)) ?_
  rintro _ w444 ⟨A445, c446, F447, rfl, h448, S449, K450⟩
  replace b322 := K450.b 0 b322
  refine lP 1 (wN (tN (wT ?_)))
  obtain rfl := sj M
  have S451 := S449.pulls [(is g2), F447] [1] rfl
  exact ret1 rfl rfl  kr ⟨A318, c319, A445, c446, F447, H432, rfl, (h320.ext (((E415.trans E419).trans E426).trans E440)), l321, b322, h448, S451⟩
 refine cT (bT q343) (wR ?_)
 obtain ⟨t344, u345, M⟩ := bnd M
 refine lC 85 (eE func24) (spec_l2atom.calls  (St.own' (Fa := []) (Fr := [(is g2), F326]) S341) u345) ?_
 rintro _ w346 ⟨A349, c350, F352, H347, rfl, h351, T348⟩
 refine ⟨_, rfl, ?_⟩
 obtain ⟨S353, K354⟩ := St.call (Fa := []) (Fr := [(is g2), F326]) S341 T348
 replace b322 := K354.b 0 b322
 have E355 := T348.ext
 refine lP 1 (wN (tN (wQ (wR ?_))))
 obtain ⟨t356, u357, M⟩ := bnd M
 refine lC 86 (eE func26) (spec_DefaultOps.calls  (St.own' (Fa := []) (Fr := [F352, (is g2), F326]) S353) u357) ?_
 rintro _ w358 ⟨A361, c362, F364, H359, rfl, h363, T360⟩
 refine ⟨_, rfl, ?_⟩
 obtain ⟨S365, K366⟩ := St.call (Fa := []) (Fr := [F352, (is g2), F326]) S353 T360
 replace h351 := h351.move (K366.a 0)
 replace b322 := K366.b 1 b322
 have E367 := T360.ext
 replace h351 := h351.ext E367
 refine lP 1 ?_
 have l368 := h363.le
 obtain ⟨H369, S370, E371, h372, z373⟩ := S365.frzRow h363
 replace h351 := h351.ext E371
 replace h372 := h372.unro
 have l374 := h351.le
 obtain ⟨H375, S376, E377, h378, z379⟩ := S370.frzRow h351
 obtain ⟨t380, u381, M⟩ := bnd M
 refine lC 88 (eE func25) (spec_WriteTerm.calls (h372.ext E377) l368 h378 l374 (Rd.nil _ _ none) (Nat.le_refl _) (St.own' (Fa := []) (Fr := [(is g2), F326]) S376) u381) ?_
 rintro _ w382 ⟨A385, c386, F388, H383, rfl, h387, T384⟩
 refine ⟨_, rfl, ?_⟩
 obtain ⟨S389, K390⟩ := St.call (Fa := []) (Fr := [(is g2), F326]) S376 T384
 replace b322 := K390.b 0 b322
 have E391 := T384.ext
 refine lP 1 (wN (tN (wQ (wR (lP 1 ?_)))))
 obtain ⟨q392, M⟩ := chk M
 have S393 := S389.unit
 have S394 := S393.pulls [F388, no, (is g2), F326] [1] rfl
 refine lW 90 (e_append_str (n := t380.length) (xs := t380) (cap := c386) (A := A385) (ys := ([32, 46, 10] : List UInt8)) (z := .int .u8 0) (bytes := 1) S394 underlying22 underlying9 kr rfl kr rfl rfl h387 (show (t380.length + ([32, 46, 10] : List UInt8).length) * 1 ≤ _ by omega) (by decide)) ?_
 rintro _ w395 ⟨A396, c397, F398, rfl, h399, S400, K401⟩
 replace b322 := K401.b 0 b322
 refine lP 1 (wN (tN (wT ?_)))
 obtain rfl := sj M
 have S402 := S400.pulls [(is g2), F398, F326] [1] rfl
 have S403 := St.first (Fa := [(is g2), F398]) (Fr := [F326]) S402
 exact ret1 rfl rfl  kr ⟨A318, c319, A396, c397, F398, H383, rfl, (h320.ext ((((E355.trans E367).trans E371).trans E377).trans E391)), l321, b322, h399, S403⟩
def spec_DrawLex.f (k : Nat) (x1 : List UInt8) : Option (List UInt8) := ((spec_l4open.f x1).bind fun t6 => ((spec_l4source.f k t6).bind fun t20 => some t20.1))
theorem spec_DrawLex.calls {k : Nat} {w : World} {H : Hp} {x1 : List UInt8} {A2 : Option Addr} {c3 : Nat} (h4 : Rd tByte H A2 x1) (l5 : x1.length ≤ c3) (S : Own [] H w) {r : List UInt8} (M : spec_DrawLex.f k x1 = some r) :
  Calls Tryz.prog 4 #[.slice A2 x1.length c3] w (fun e e_w => ∃ (A_1 : Option Addr) (c_1 : Nat) (F_1 : Foot) (H_ : Hp), e = .returned (.slice A_1 r.length c_1) ∧ Row tByte 5 H_ (hp e_w) F_1 A_1 c_1 r ∧ St (anyOf []) H w [F_1] H_ e_w) := by
 rw [spec_DrawLex.f] at M
 refine enter (l := [.slice A2 x1.length c3]) 6 func4 rfl rfl rfl ?_
 have S0_ := S.st
 refine wQ (wR (lP 1 (wN (tN (wQ (wR (lP 1 ?_)))))))
 obtain ⟨t6, u7, M⟩ := bnd M
 refine lC 4 (eE func11) (spec_l4open.calls h4 l5 (St.own' (Fa := []) (Fr := []) S0_) u7) ?_
 rintro _ w8 ⟨g11, A13, c14, H9, rfl, h15, l16, b12, T10⟩
 refine ⟨_, rfl, ?_⟩
 obtain ⟨S17, K18⟩ := St.call (Fa := []) (Fr := []) S0_ T10
 have E19 := T10.ext
 obtain ⟨t20, u21, M⟩ := bnd M
 refine lC 5 (eE func10) (spec_l4source.calls t6 h15 l16 b12 (St.own' (Fa := [(is g11)]) (Fr := []) S17) u21) ?_
 rintro _ w22 ⟨A25, c26, A30, c31, F33, H23, rfl, h27, l28, b29, h32, T24⟩
 refine ⟨_, rfl, ?_⟩
 obtain ⟨S34, K35⟩ := St.call (Fa := [(is g11)]) (Fr := []) S17 T24
 have E36 := T24.ext
 refine lP 1 (wN (tN (wT ?_)))
 obtain rfl := sj M
 have S37 := S34.pulls [F33, (is g11)] [1] rfl
 have S38 := St.first (Fa := [F33]) (Fr := [(is g11)]) S37
 exact ret1 rfl rfl  kr ⟨A30, c31, F33, H23, rfl, h32, S38⟩
def spec_l1blank.f (x1 : UInt8) : Option Bool := (if (x1.toNat : Int) = 32 then some true else (if (x1.toNat : Int) = 9 then some true else (if (x1.toNat : Int) = 10 then some true else some (decide ((x1.toNat : Int) = 13)))))
theorem spec_l1blank.calls {w : World} {H : Hp} {x1 : UInt8} (S : Own [] H w) {r : Bool} (M : spec_l1blank.f x1 = some r) :
  Calls Tryz.prog 27 #[.int .u8 (x1.toNat : Int)] w (fun e e_w => e = .returned (.bool r) ∧ Chg no w e_w) := by
 rw [spec_l1blank.f] at M
 refine enter (l := [.int .u8 (x1.toNat : Int)]) 17 func27 rfl rfl rfl ?_
 have S0_ := S.st
 refine wQ (wR (lP 1 (wN (tN (wQ (wR (lP 3 ?_)))))))
 obtain ⟨q2, M⟩ | ⟨q2, M⟩ := ifc M
 ·refine lP1 12 5 (bT q2) (wN (tN (wT ?_)))
  obtain rfl := sj M
  exact ret1 rfl rfl  kr ⟨rfl, S0_.chg⟩
 refine lP1 4 5 (bF q2) ?_
 obtain ⟨q3, M⟩ | ⟨q3, M⟩ := ifc M
 ·refine lP1 8 9 (bT q3) (wN (tN (wT ?_)))
  obtain rfl := sj M
  exact ret1 rfl rfl  kr ⟨rfl, S0_.chg⟩
 refine lP1 4 9 (bF q3) ?_
 obtain ⟨q4, M⟩ | ⟨q4, M⟩ := ifc M
 ·refine lP1 4 13 (bT q4) (wN (tN (wT ?_)))
  obtain rfl := sj M
  exact ret1 rfl rfl  kr ⟨rfl, S0_.chg⟩
 refine lP1 4 13 (bF q4) (wN (tN (wT ?_)))
 obtain rfl := sj M
 exact ret1 rfl rfl  kr ⟨rfl, S0_.chg⟩
end Go.Proofs.YtdkbfcmekppnmaaGreatDoor
