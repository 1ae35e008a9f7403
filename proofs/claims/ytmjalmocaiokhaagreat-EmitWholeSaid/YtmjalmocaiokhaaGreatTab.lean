/- The table of types of this translation, laid by a program, and the kernel's word that it is the program's own. No condition. -/
import Derived.Test.YtmjalmocaiokhaaGreatFwA
import Derived.Test.YtmjalmocaiokhaaGreatProg
import Derived.KernelRfl
namespace Go.Proofs.Tab
open Go Go.Fw
set_option maxRecDepth 100000
noncomputable def ty (t : Nat) : TInfo := bif Nat.ble 194 t then TInfo.none else
 bif Nat.ble (Nat.succ t) 97 then
  bif Nat.ble (Nat.succ t) 48 then
   bif Nat.ble (Nat.succ t) 24 then
    bif Nat.ble (Nat.succ t) 12 then
     bif Nat.ble (Nat.succ t) 6 then
      bif Nat.ble (Nat.succ t) 3 then
       bif Nat.ble (Nat.succ t) 1 then
        .none
       else
        bif Nat.ble (Nat.succ t) 2 then
         ⟨.func, 1, 8, false, [.nilFunc], []⟩
        else
         ⟨.int .i64, 1, 8, false, [.int .i64 0], []⟩
      else
       bif Nat.ble (Nat.succ t) 4 then
        ⟨.int .i64, 1, 8, false, [.int .i64 0], []⟩
       else
        bif Nat.ble (Nat.succ t) 5 then
         ⟨.bool, 1, 1, false, [.bool false], []⟩
        else
         ⟨.int .u8, 1, 1, false, [.int .u8 0], []⟩
     else
      bif Nat.ble (Nat.succ t) 9 then
       bif Nat.ble (Nat.succ t) 7 then
        ⟨.int .u8, 1, 1, false, [.int .u8 0], []⟩
       else
        bif Nat.ble (Nat.succ t) 8 then
         ⟨.struct, 4, 24, true, [.int .i64 0, .int .i64 0, .bool false, .int .u8 0], [(0, 1, false), (1, 1, false), (2, 1, false), (3, 1, false)]⟩
        else
         ⟨.struct, 4, 24, true, [.int .i64 0, .int .i64 0, .bool false, .int .u8 0], [(0, 1, false), (1, 1, false), (2, 1, false), (3, 1, false)]⟩
      else
       bif Nat.ble (Nat.succ t) 10 then
        ⟨.str, 1, 16, false, [.string ⟨#[]⟩], []⟩
       else
        bif Nat.ble (Nat.succ t) 11 then
         ⟨.str, 1, 16, false, [.string ⟨#[]⟩], []⟩
        else
         ⟨.str, 1, 16, false, [.string ⟨#[]⟩], []⟩
    else
     bif Nat.ble (Nat.succ t) 18 then
      bif Nat.ble (Nat.succ t) 15 then
       bif Nat.ble (Nat.succ t) 13 then
        ⟨.int .u64, 1, 8, false, [.int .u64 0], []⟩
       else
        bif Nat.ble (Nat.succ t) 14 then
         ⟨.struct, 2, 24, true, [.string ⟨#[]⟩, .int .u64 0], [(0, 1, false), (1, 1, false)]⟩
        else
         ⟨.struct, 2, 24, true, [.string ⟨#[]⟩, .int .u64 0], [(0, 1, false), (1, 1, false)]⟩
      else
       bif Nat.ble (Nat.succ t) 16 then
        ⟨.ptr 180, 1, 8, false, [.pointer none], []⟩
       else
        bif Nat.ble (Nat.succ t) 17 then
         ⟨.ptr 183, 1, 8, false, [.pointer none], []⟩
        else
         ⟨.ptr 192, 1, 8, false, [.pointer none], []⟩
     else
      bif Nat.ble (Nat.succ t) 21 then
       bif Nat.ble (Nat.succ t) 19 then
        ⟨.struct, 1, 8, true, [.pointer none], [(0, 1, false)]⟩
       else
        bif Nat.ble (Nat.succ t) 20 then
         ⟨.struct, 1, 8, true, [.pointer none], [(0, 1, false)]⟩
        else
         ⟨.iface, 1, 16, false, [.nilIface], []⟩
      else
       bif Nat.ble (Nat.succ t) 22 then
        ⟨.int .i32, 1, 4, false, [.int .i32 0], []⟩
       else
        bif Nat.ble (Nat.succ t) 23 then
         ⟨.slice 33, 1, 24, false, [.slice none 0 0], []⟩
        else
         ⟨.func, 1, 8, false, [.nilFunc], []⟩
   else
    bif Nat.ble (Nat.succ t) 36 then
     bif Nat.ble (Nat.succ t) 30 then
      bif Nat.ble (Nat.succ t) 27 then
       bif Nat.ble (Nat.succ t) 25 then
        ⟨.func, 1, 8, false, [.nilFunc], []⟩
       else
        bif Nat.ble (Nat.succ t) 26 then
         ⟨.slice 2, 1, 24, false, [.slice none 0 0], []⟩
        else
         ⟨.slice 9, 1, 24, false, [.slice none 0 0], []⟩
      else
       bif Nat.ble (Nat.succ t) 28 then
        .none
       else
        bif Nat.ble (Nat.succ t) 29 then
         ⟨.func, 1, 8, false, [.nilFunc], []⟩
        else
         ⟨.func, 1, 8, false, [.nilFunc], []⟩
     else
      bif Nat.ble (Nat.succ t) 33 then
       bif Nat.ble (Nat.succ t) 31 then
        ⟨.func, 1, 8, false, [.nilFunc], []⟩
       else
        bif Nat.ble (Nat.succ t) 32 then
         ⟨.slice 37, 1, 24, false, [.slice none 0 0], []⟩
        else
         ⟨.struct, 6, 88, true, [.string ⟨#[]⟩, .int .i64 0, .int .i64 0, .int .i64 0, .slice none 0 0, .slice none 0 0], [(0, 1, false), (1, 1, false), (2, 1, false), (3, 1, false), (4, 1, false), (5, 1, false)]⟩
      else
       bif Nat.ble (Nat.succ t) 34 then
        ⟨.struct, 6, 88, true, [.string ⟨#[]⟩, .int .i64 0, .int .i64 0, .int .i64 0, .slice none 0 0, .slice none 0 0], [(0, 1, false), (1, 1, false), (2, 1, false), (3, 1, false), (4, 1, false), (5, 1, false)]⟩
       else
        bif Nat.ble (Nat.succ t) 35 then
         ⟨.slice 51, 1, 24, false, [.slice none 0 0], []⟩
        else
         ⟨.slice 53, 1, 24, false, [.slice none 0 0], []⟩
    else
     bif Nat.ble (Nat.succ t) 42 then
      bif Nat.ble (Nat.succ t) 39 then
       bif Nat.ble (Nat.succ t) 37 then
        ⟨.struct, 4, 64, true, [.int .i64 0, .slice none 0 0, .bool false, .slice none 0 0], [(0, 1, false), (1, 1, false), (2, 1, false), (3, 1, false)]⟩
       else
        bif Nat.ble (Nat.succ t) 38 then
         ⟨.struct, 4, 64, true, [.int .i64 0, .slice none 0 0, .bool false, .slice none 0 0], [(0, 1, false), (1, 1, false), (2, 1, false), (3, 1, false)]⟩
        else
         ⟨.slice 5, 1, 24, false, [.slice none 0 0], []⟩
      else
       bif Nat.ble (Nat.succ t) 40 then
        ⟨.int .i64, 1, 8, false, [.int .i64 0], []⟩
       else
        bif Nat.ble (Nat.succ t) 41 then
         .none
        else
         ⟨.func, 1, 8, false, [.nilFunc], []⟩
     else
      bif Nat.ble (Nat.succ t) 45 then
       bif Nat.ble (Nat.succ t) 43 then
        ⟨.func, 1, 8, false, [.nilFunc], []⟩
       else
        bif Nat.ble (Nat.succ t) 44 then
         ⟨.func, 1, 8, false, [.nilFunc], []⟩
        else
         ⟨.func, 1, 8, false, [.nilFunc], []⟩
      else
       bif Nat.ble (Nat.succ t) 46 then
        ⟨.func, 1, 8, false, [.nilFunc], []⟩
       else
        bif Nat.ble (Nat.succ t) 47 then
         ⟨.func, 1, 8, false, [.nilFunc], []⟩
        else
         ⟨.func, 1, 8, false, [.nilFunc], []⟩
  else
   bif Nat.ble (Nat.succ t) 72 then
    bif Nat.ble (Nat.succ t) 60 then
     bif Nat.ble (Nat.succ t) 54 then
      bif Nat.ble (Nat.succ t) 51 then
       bif Nat.ble (Nat.succ t) 49 then
        ⟨.func, 1, 8, false, [.nilFunc], []⟩
       else
        bif Nat.ble (Nat.succ t) 50 then
         ⟨.map 2 3, 1, 8, false, [.map none], []⟩
        else
         ⟨.map 9 3, 1, 8, false, [.map none], []⟩
      else
       bif Nat.ble (Nat.succ t) 52 then
        ⟨.int .i8, 1, 1, false, [.int .i8 0], []⟩
       else
        bif Nat.ble (Nat.succ t) 53 then
         ⟨.struct, 7, 56, true, [.int .i8 0, .int .i8 0, .int .i64 0, .int .i64 0, .string ⟨#[]⟩, .int .i64 0, .int .i64 0], [(0, 1, false), (1, 1, false), (2, 1, false), (3, 1, false), (4, 1, false), (5, 1, false), (6, 1, false)]⟩
        else
         ⟨.struct, 7, 56, true, [.int .i8 0, .int .i8 0, .int .i64 0, .int .i64 0, .string ⟨#[]⟩, .int .i64 0, .int .i64 0], [(0, 1, false), (1, 1, false), (2, 1, false), (3, 1, false), (4, 1, false), (5, 1, false), (6, 1, false)]⟩
     else
      bif Nat.ble (Nat.succ t) 57 then
       bif Nat.ble (Nat.succ t) 55 then
        ⟨.func, 1, 8, false, [.nilFunc], []⟩
       else
        bif Nat.ble (Nat.succ t) 56 then
         ⟨.func, 1, 8, false, [.nilFunc], []⟩
        else
         ⟨.func, 1, 8, false, [.nilFunc], []⟩
      else
       bif Nat.ble (Nat.succ t) 58 then
        ⟨.func, 1, 8, false, [.nilFunc], []⟩
       else
        bif Nat.ble (Nat.succ t) 59 then
         ⟨.func, 1, 8, false, [.nilFunc], []⟩
        else
         ⟨.func, 1, 8, false, [.nilFunc], []⟩
    else
     bif Nat.ble (Nat.succ t) 66 then
      bif Nat.ble (Nat.succ t) 63 then
       bif Nat.ble (Nat.succ t) 61 then
        .none
       else
        bif Nat.ble (Nat.succ t) 62 then
         ⟨.func, 1, 8, false, [.nilFunc], []⟩
        else
         ⟨.func, 1, 8, false, [.nilFunc], []⟩
      else
       bif Nat.ble (Nat.succ t) 64 then
        ⟨.func, 1, 8, false, [.nilFunc], []⟩
       else
        bif Nat.ble (Nat.succ t) 65 then
         ⟨.func, 1, 8, false, [.nilFunc], []⟩
        else
         ⟨.func, 1, 8, false, [.nilFunc], []⟩
     else
      bif Nat.ble (Nat.succ t) 69 then
       bif Nat.ble (Nat.succ t) 67 then
        ⟨.slice 71, 1, 24, false, [.slice none 0 0], []⟩
       else
        bif Nat.ble (Nat.succ t) 68 then
         .none
        else
         ⟨.func, 1, 8, false, [.nilFunc], []⟩
      else
       bif Nat.ble (Nat.succ t) 70 then
        ⟨.func, 1, 8, false, [.nilFunc], []⟩
       else
        bif Nat.ble (Nat.succ t) 71 then
         ⟨.struct, 5, 40, true, [.int .i64 0, .int .u8 0, .int .i64 0, .int .i64 0, .int .i64 0], [(0, 1, false), (1, 1, false), (2, 1, false), (3, 1, false), (4, 1, false)]⟩
        else
         ⟨.struct, 5, 40, true, [.int .i64 0, .int .u8 0, .int .i64 0, .int .i64 0, .int .i64 0], [(0, 1, false), (1, 1, false), (2, 1, false), (3, 1, false), (4, 1, false)]⟩
   else
    bif Nat.ble (Nat.succ t) 84 then
     bif Nat.ble (Nat.succ t) 78 then
      bif Nat.ble (Nat.succ t) 75 then
       bif Nat.ble (Nat.succ t) 73 then
        ⟨.slice 4, 1, 24, false, [.slice none 0 0], []⟩
       else
        bif Nat.ble (Nat.succ t) 74 then
         ⟨.func, 1, 8, false, [.nilFunc], []⟩
        else
         ⟨.func, 1, 8, false, [.nilFunc], []⟩
      else
       bif Nat.ble (Nat.succ t) 76 then
        ⟨.func, 1, 8, false, [.nilFunc], []⟩
       else
        bif Nat.ble (Nat.succ t) 77 then
         ⟨.func, 1, 8, false, [.nilFunc], []⟩
        else
         ⟨.func, 1, 8, false, [.nilFunc], []⟩
     else
      bif Nat.ble (Nat.succ t) 81 then
       bif Nat.ble (Nat.succ t) 79 then
        ⟨.ptr 81, 1, 8, false, [.pointer none], []⟩
       else
        bif Nat.ble (Nat.succ t) 80 then
         ⟨.map 3 4, 1, 8, false, [.map none], []⟩
        else
         ⟨.struct, 4, 64, true, [.slice none 0 0, .slice none 0 0, .map none, .bool false], [(0, 1, false), (1, 1, false), (2, 1, false), (3, 1, false)]⟩
      else
       bif Nat.ble (Nat.succ t) 82 then
        ⟨.struct, 4, 64, true, [.slice none 0 0, .slice none 0 0, .map none, .bool false], [(0, 1, false), (1, 1, false), (2, 1, false), (3, 1, false)]⟩
       else
        bif Nat.ble (Nat.succ t) 83 then
         ⟨.func, 1, 8, false, [.nilFunc], []⟩
        else
         ⟨.func, 1, 8, false, [.nilFunc], []⟩
    else
     bif Nat.ble (Nat.succ t) 90 then
      bif Nat.ble (Nat.succ t) 87 then
       bif Nat.ble (Nat.succ t) 85 then
        ⟨.func, 1, 8, false, [.nilFunc], []⟩
       else
        bif Nat.ble (Nat.succ t) 86 then
         ⟨.func, 1, 8, false, [.nilFunc], []⟩
        else
         ⟨.ptr 91, 1, 8, false, [.pointer none], []⟩
      else
       bif Nat.ble (Nat.succ t) 88 then
        ⟨.map 51 110, 1, 8, false, [.map none], []⟩
       else
        bif Nat.ble (Nat.succ t) 89 then
         ⟨.func, 1, 8, false, [.nilFunc], []⟩
        else
         ⟨.slice 1, 1, 24, false, [.slice none 0 0], []⟩
     else
      bif Nat.ble (Nat.succ t) 93 then
       bif Nat.ble (Nat.succ t) 91 then
        ⟨.struct, 7, 104, true, [.slice none 0 0, .map none, .map none, .slice none 0 0, .bool false, .map none, .slice none 0 0], [(0, 1, false), (1, 1, false), (2, 1, false), (3, 1, false), (4, 1, false), (5, 1, false), (6, 1, false)]⟩
       else
        bif Nat.ble (Nat.succ t) 92 then
         ⟨.struct, 7, 104, true, [.slice none 0 0, .map none, .map none, .slice none 0 0, .bool false, .map none, .slice none 0 0], [(0, 1, false), (1, 1, false), (2, 1, false), (3, 1, false), (4, 1, false), (5, 1, false), (6, 1, false)]⟩
        else
         ⟨.func, 1, 8, false, [.nilFunc], []⟩
      else
       bif Nat.ble (Nat.succ t) 95 then
        bif Nat.ble (Nat.succ t) 94 then
         ⟨.func, 1, 8, false, [.nilFunc], []⟩
        else
         .none
       else
        bif Nat.ble (Nat.succ t) 96 then
         .none
        else
         ⟨.func, 1, 8, false, [.nilFunc], []⟩
 else
  bif Nat.ble (Nat.succ t) 145 then
   bif Nat.ble (Nat.succ t) 121 then
    bif Nat.ble (Nat.succ t) 109 then
     bif Nat.ble (Nat.succ t) 103 then
      bif Nat.ble (Nat.succ t) 100 then
       bif Nat.ble (Nat.succ t) 98 then
        ⟨.func, 1, 8, false, [.nilFunc], []⟩
       else
        bif Nat.ble (Nat.succ t) 99 then
         ⟨.func, 1, 8, false, [.nilFunc], []⟩
        else
         ⟨.func, 1, 8, false, [.nilFunc], []⟩
      else
       bif Nat.ble (Nat.succ t) 101 then
        ⟨.int .u64, 1, 8, false, [.int .u64 0], []⟩
       else
        bif Nat.ble (Nat.succ t) 102 then
         ⟨.func, 1, 8, false, [.nilFunc], []⟩
        else
         ⟨.func, 1, 8, false, [.nilFunc], []⟩
     else
      bif Nat.ble (Nat.succ t) 106 then
       bif Nat.ble (Nat.succ t) 104 then
        ⟨.func, 1, 8, false, [.nilFunc], []⟩
       else
        bif Nat.ble (Nat.succ t) 105 then
         ⟨.func, 1, 8, false, [.nilFunc], []⟩
        else
         ⟨.slice 3, 1, 24, false, [.slice none 0 0], []⟩
      else
       bif Nat.ble (Nat.succ t) 107 then
        ⟨.func, 1, 8, false, [.nilFunc], []⟩
       else
        bif Nat.ble (Nat.succ t) 108 then
         ⟨.func, 1, 8, false, [.nilFunc], []⟩
        else
         ⟨.func, 1, 8, false, [.nilFunc], []⟩
    else
     bif Nat.ble (Nat.succ t) 115 then
      bif Nat.ble (Nat.succ t) 112 then
       bif Nat.ble (Nat.succ t) 110 then
        ⟨.struct, 1, 8, true, [.nilFunc], [(0, 1, false)]⟩
       else
        bif Nat.ble (Nat.succ t) 111 then
         ⟨.struct, 1, 8, true, [.nilFunc], [(0, 1, false)]⟩
        else
         ⟨.func, 1, 8, false, [.nilFunc], []⟩
      else
       bif Nat.ble (Nat.succ t) 113 then
        ⟨.func, 1, 8, false, [.nilFunc], []⟩
       else
        bif Nat.ble (Nat.succ t) 114 then
         ⟨.func, 1, 8, false, [.nilFunc], []⟩
        else
         ⟨.struct, 3, 32, true, [.string ⟨#[]⟩, .int .i64 0, .nilFunc], [(0, 1, false), (1, 1, false), (2, 1, false)]⟩
     else
      bif Nat.ble (Nat.succ t) 118 then
       bif Nat.ble (Nat.succ t) 116 then
        ⟨.struct, 3, 32, true, [.string ⟨#[]⟩, .int .i64 0, .nilFunc], [(0, 1, false), (1, 1, false), (2, 1, false)]⟩
       else
        bif Nat.ble (Nat.succ t) 117 then
         .none
        else
         ⟨.func, 1, 8, false, [.nilFunc], []⟩
      else
       bif Nat.ble (Nat.succ t) 119 then
        ⟨.func, 1, 8, false, [.nilFunc], []⟩
       else
        bif Nat.ble (Nat.succ t) 120 then
         .none
        else
         ⟨.func, 1, 8, false, [.nilFunc], []⟩
   else
    bif Nat.ble (Nat.succ t) 133 then
     bif Nat.ble (Nat.succ t) 127 then
      bif Nat.ble (Nat.succ t) 124 then
       bif Nat.ble (Nat.succ t) 122 then
        ⟨.int .i64, 1, 8, false, [.int .i64 0], []⟩
       else
        bif Nat.ble (Nat.succ t) 123 then
         .none
        else
         ⟨.func, 1, 8, false, [.nilFunc], []⟩
      else
       bif Nat.ble (Nat.succ t) 125 then
        ⟨.func, 1, 8, false, [.nilFunc], []⟩
       else
        bif Nat.ble (Nat.succ t) 126 then
         ⟨.func, 1, 8, false, [.nilFunc], []⟩
        else
         ⟨.func, 1, 8, false, [.nilFunc], []⟩
     else
      bif Nat.ble (Nat.succ t) 130 then
       bif Nat.ble (Nat.succ t) 128 then
        ⟨.func, 1, 8, false, [.nilFunc], []⟩
       else
        bif Nat.ble (Nat.succ t) 129 then
         ⟨.func, 1, 8, false, [.nilFunc], []⟩
        else
         ⟨.int .u32, 1, 4, false, [.int .u32 0], []⟩
      else
       bif Nat.ble (Nat.succ t) 131 then
        ⟨.func, 1, 8, false, [.nilFunc], []⟩
       else
        bif Nat.ble (Nat.succ t) 132 then
         ⟨.int .u64, 1, 8, false, [.int .u64 0], []⟩
        else
         ⟨.func, 1, 8, false, [.nilFunc], []⟩
    else
     bif Nat.ble (Nat.succ t) 139 then
      bif Nat.ble (Nat.succ t) 136 then
       bif Nat.ble (Nat.succ t) 134 then
        ⟨.func, 1, 8, false, [.nilFunc], []⟩
       else
        bif Nat.ble (Nat.succ t) 135 then
         ⟨.func, 1, 8, false, [.nilFunc], []⟩
        else
         ⟨.func, 1, 8, false, [.nilFunc], []⟩
      else
       bif Nat.ble (Nat.succ t) 137 then
        ⟨.func, 1, 8, false, [.nilFunc], []⟩
       else
        bif Nat.ble (Nat.succ t) 138 then
         ⟨.func, 1, 8, false, [.nilFunc], []⟩
        else
         .none
     else
      bif Nat.ble (Nat.succ t) 142 then
       bif Nat.ble (Nat.succ t) 140 then
        ⟨.func, 1, 8, false, [.nilFunc], []⟩
       else
        bif Nat.ble (Nat.succ t) 141 then
         ⟨.func, 1, 8, false, [.nilFunc], []⟩
        else
         ⟨.func, 1, 8, false, [.nilFunc], []⟩
      else
       bif Nat.ble (Nat.succ t) 143 then
        ⟨.func, 1, 8, false, [.nilFunc], []⟩
       else
        bif Nat.ble (Nat.succ t) 144 then
         ⟨.func, 1, 8, false, [.nilFunc], []⟩
        else
         ⟨.func, 1, 8, false, [.nilFunc], []⟩
  else
   bif Nat.ble (Nat.succ t) 169 then
    bif Nat.ble (Nat.succ t) 157 then
     bif Nat.ble (Nat.succ t) 151 then
      bif Nat.ble (Nat.succ t) 148 then
       bif Nat.ble (Nat.succ t) 146 then
        ⟨.struct, 4, 56, true, [.string ⟨#[]⟩, .slice none 0 0, .int .i8 0, .nilFunc], [(0, 1, false), (1, 1, false), (2, 1, false), (3, 1, false)]⟩
       else
        bif Nat.ble (Nat.succ t) 147 then
         ⟨.struct, 4, 56, true, [.string ⟨#[]⟩, .slice none 0 0, .int .i8 0, .nilFunc], [(0, 1, false), (1, 1, false), (2, 1, false), (3, 1, false)]⟩
        else
         .none
      else
       bif Nat.ble (Nat.succ t) 149 then
        ⟨.func, 1, 8, false, [.nilFunc], []⟩
       else
        bif Nat.ble (Nat.succ t) 150 then
         ⟨.slice 146, 1, 24, false, [.slice none 0 0], []⟩
        else
         ⟨.func, 1, 8, false, [.nilFunc], []⟩
     else
      bif Nat.ble (Nat.succ t) 154 then
       bif Nat.ble (Nat.succ t) 152 then
        ⟨.func, 1, 8, false, [.nilFunc], []⟩
       else
        bif Nat.ble (Nat.succ t) 153 then
         ⟨.func, 1, 8, false, [.nilFunc], []⟩
        else
         ⟨.func, 1, 8, false, [.nilFunc], []⟩
      else
       bif Nat.ble (Nat.succ t) 155 then
        ⟨.array 9 5, 9, 9, true, [.int .u8 0, .int .u8 0, .int .u8 0, .int .u8 0, .int .u8 0, .int .u8 0, .int .u8 0, .int .u8 0, .int .u8 0], []⟩
       else
        bif Nat.ble (Nat.succ t) 156 then
         ⟨.func, 1, 8, false, [.nilFunc], []⟩
        else
         ⟨.array 4 113, 4, 32, true, [.nilFunc, .nilFunc, .nilFunc, .nilFunc], []⟩
    else
     bif Nat.ble (Nat.succ t) 163 then
      bif Nat.ble (Nat.succ t) 160 then
       bif Nat.ble (Nat.succ t) 158 then
        ⟨.map 5 115, 1, 8, false, [.map none], []⟩
       else
        bif Nat.ble (Nat.succ t) 159 then
         ⟨.func, 1, 8, false, [.nilFunc], []⟩
        else
         ⟨.int .u64, 1, 8, false, [.int .u64 0], []⟩
      else
       bif Nat.ble (Nat.succ t) 161 then
        ⟨.func, 1, 8, false, [.nilFunc], []⟩
       else
        bif Nat.ble (Nat.succ t) 162 then
         ⟨.func, 1, 8, false, [.nilFunc], []⟩
        else
         ⟨.func, 1, 8, false, [.nilFunc], []⟩
     else
      bif Nat.ble (Nat.succ t) 166 then
       bif Nat.ble (Nat.succ t) 164 then
        ⟨.ptr 3, 1, 8, false, [.pointer none], []⟩
       else
        bif Nat.ble (Nat.succ t) 165 then
         ⟨.func, 1, 8, false, [.nilFunc], []⟩
        else
         ⟨.func, 1, 8, false, [.nilFunc], []⟩
      else
       bif Nat.ble (Nat.succ t) 167 then
        ⟨.func, 1, 8, false, [.nilFunc], []⟩
       else
        bif Nat.ble (Nat.succ t) 168 then
         ⟨.func, 1, 8, false, [.nilFunc], []⟩
        else
         ⟨.func, 1, 8, false, [.nilFunc], []⟩
   else
    bif Nat.ble (Nat.succ t) 181 then
     bif Nat.ble (Nat.succ t) 175 then
      bif Nat.ble (Nat.succ t) 172 then
       bif Nat.ble (Nat.succ t) 170 then
        .none
       else
        bif Nat.ble (Nat.succ t) 171 then
         ⟨.func, 1, 8, false, [.nilFunc], []⟩
        else
         ⟨.func, 1, 8, false, [.nilFunc], []⟩
      else
       bif Nat.ble (Nat.succ t) 173 then
        ⟨.ptr 159, 1, 8, false, [.pointer none], []⟩
       else
        bif Nat.ble (Nat.succ t) 174 then
         .none
        else
         ⟨.func, 1, 8, false, [.nilFunc], []⟩
     else
      bif Nat.ble (Nat.succ t) 178 then
       bif Nat.ble (Nat.succ t) 176 then
        ⟨.func, 1, 8, false, [.nilFunc], []⟩
       else
        bif Nat.ble (Nat.succ t) 177 then
         .none
        else
         ⟨.func, 1, 8, false, [.nilFunc], []⟩
      else
       bif Nat.ble (Nat.succ t) 179 then
        ⟨.func, 1, 8, false, [.nilFunc], []⟩
       else
        bif Nat.ble (Nat.succ t) 180 then
         ⟨.struct, 4, 40, true, [.pointer none, .pointer none, .pointer none, .string ⟨#[]⟩], [(0, 1, false), (1, 1, false), (2, 1, false), (3, 1, false)]⟩
        else
         ⟨.struct, 4, 40, true, [.pointer none, .pointer none, .pointer none, .string ⟨#[]⟩], [(0, 1, false), (1, 1, false), (2, 1, false), (3, 1, false)]⟩
    else
     bif Nat.ble (Nat.succ t) 187 then
      bif Nat.ble (Nat.succ t) 184 then
       bif Nat.ble (Nat.succ t) 182 then
        ⟨.array 0 16, 0, 0, true, [], []⟩
       else
        bif Nat.ble (Nat.succ t) 183 then
         ⟨.struct, 0, 0, true, [], [(0, 0, true)]⟩
        else
         ⟨.struct, 0, 0, true, [], [(0, 0, true)]⟩
      else
       bif Nat.ble (Nat.succ t) 185 then
        ⟨.func, 1, 8, false, [.nilFunc], []⟩
       else
        bif Nat.ble (Nat.succ t) 186 then
         ⟨.int .u8, 1, 1, false, [.int .u8 0], []⟩
        else
         ⟨.int .u8, 1, 1, false, [.int .u8 0], []⟩
     else
      bif Nat.ble (Nat.succ t) 190 then
       bif Nat.ble (Nat.succ t) 188 then
        ⟨.func, 1, 8, false, [.nilFunc], []⟩
       else
        bif Nat.ble (Nat.succ t) 189 then
         ⟨.ptr 5, 1, 8, false, [.pointer none], []⟩
        else
         ⟨.int .i32, 1, 4, false, [.int .i32 0], []⟩
      else
       bif Nat.ble (Nat.succ t) 192 then
        bif Nat.ble (Nat.succ t) 191 then
         ⟨.int .i32, 1, 4, false, [.int .i32 0], []⟩
        else
         ⟨.struct, 11, 48, true, [.int .u64 0, .int .u64 0, .int .u32 0, .int .u8 0, .int .u8 0, .int .u8 0, .int .u8 0, .nilFunc, .pointer none, .int .i32 0, .int .i32 0], [(0, 1, false), (1, 1, false), (2, 1, false), (3, 1, false), (4, 1, false), (5, 1, false), (6, 1, false), (7, 1, false), (8, 1, false), (9, 1, false), (10, 1, false)]⟩
       else
        bif Nat.ble (Nat.succ t) 193 then
         ⟨.struct, 11, 48, true, [.int .u64 0, .int .u64 0, .int .u32 0, .int .u8 0, .int .u8 0, .int .u8 0, .int .u8 0, .nilFunc, .pointer none, .int .i32 0, .int .i32 0], [(0, 1, false), (1, 1, false), (2, 1, false), (3, 1, false), (4, 1, false), (5, 1, false), (6, 1, false), (7, 1, false), (8, 1, false), (9, 1, false), (10, 1, false)]⟩
        else
         .none

theorem ty_all : ((List.range 194).all fun t => chkT Tryz.prog t (ty t)) = true := by kernel_rfl
theorem ty_ok (t : Nat) : chkT Tryz.prog t (ty t) = true := by
  by_cases h : t < 194
  · exact List.all_eq_true.1 ty_all t (List.mem_range.2 h)
  · have : ty t = TInfo.none := by
      unfold ty
      rw [show Nat.ble 194 t = true from Nat.ble_eq_true_of_le (by omega)]
      rfl
    rw [this]; rfl
theorem wideOrders : Tryz.prog.follows .mixedOrders = true := by kernel_rfl
end Go.Proofs.Tab
