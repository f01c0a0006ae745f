import Derived.Test.YtdiphholophdcabGreatDoorXSAbDom
set_option linter.all false
/- EQUALITY THAT THE RUN DECIDES. -/
namespace Go.Ab
mutual
def AV.beq (a b : AV) : Bool := match a with
  | .undef  => match b with
    | .undef  => true
    | _ => false
  | .int a0 a1 => match b with
    | .int b0 b1 => decide (a0 = b0) && a1 == b1
    | _ => false
  | .bool a0 => match b with
    | .bool b0 => a0 == b0
    | _ => false
  | .str a0 => match b with
    | .str b0 => a0 == b0
    | _ => false
  | .nilptr  => match b with
    | .nilptr  => true
    | _ => false
  | .ptr a0 a1 => match b with
    | .ptr b0 b1 => a0 == b0 && a1 == b1
    | _ => false
  | .iptr a0 => match b with
    | .iptr b0 => AV.beqs a0 b0
    | _ => false
  | .sl a0 => match b with
    | .sl b0 => AV.beqs a0 b0
    | _ => false
  | .slr a0 a1 a2 => match b with
    | .slr b0 b1 b2 => a0 == b0 && a1 == b1 && a2 == b2
    | _ => false
  | .buf a0 a1 => match b with
    | .buf b0 b1 => a0 == b0 && a1 == b1
    | _ => false
  | .bptr a0 a1 => match b with
    | .bptr b0 b1 => a0 == b0 && a1 == b1
    | _ => false
  | .bself a0 a1 => match b with
    | .bself b0 b1 => a0 == b0 && a1 == b1
    | _ => false
  | .nilfn  => match b with
    | .nilfn  => true
    | _ => false
  | .fn a0 a1 a2 => match b with
    | .fn b0 b1 b2 => a0 == b0 && AV.beqs a1 b1 && AV.beqs a2 b2
    | _ => false
  | .nili  => match b with
    | .nili  => true
    | _ => false
  | .iface a0 a1 => match b with
    | .iface b0 b1 => a0 == b0 && AV.beq a1 b1
    | _ => false
  | .agg a0 => match b with
    | .agg b0 => AV.beqs a0 b0
    | _ => false
  | .tup a0 => match b with
    | .tup b0 => AV.beqs a0 b0
    | _ => false
def AV.beqs : List AV → List AV → Bool
  | [], [] => true
  | a :: x, b :: y => AV.beq a b && AV.beqs x y
  | _, _ => false
end
mutual
def Tag.beq : Tag → Tag → Bool
  | .no, .no => true
  | .full, .full => true
  | .tok a, .tok b => a == b
  | .agg a, .agg b => Tag.beqs a b
  | _, _ => false
def Tag.beqs : List Tag → List Tag → Bool
  | [], [] => true
  | a :: x, b :: y => Tag.beq a b && Tag.beqs x y
  | _, _ => false
end
def SV.beq (a b : SV) : Bool := a.1.beq b.1 && a.2.beq b.2
def SV.beqs : List SV → List SV → Bool
  | [], [] => true
  | a :: x, b :: y => SV.beq a b && SV.beqs x y
  | _, _ => false


end Go.Ab

