/- Small functions of the cluster, walked. -/
import Derived.Test.YtlnpgjfdlefmoaaGreatDoorCnGrow
import Derived.Test.YtlnpgjfdlefmoaaGreatDoorCnClosed
namespace Go.Cn
set_option linter.unusedVariables false
set_option linter.unusedSimpArgs false

def ac4t : AC := .seq (.seq (.reg [⟨0, (some 9), none, .mov, [.c (.int .i64 (.ofNat (nat_lit 0)))], []⟩])
      (.block 3 (.loop (.seq (.seq (.reg [⟨0, (some 90), none, .mov, [.t 9], []⟩,
            ⟨1, (some 91), none, .mov, [.t 5], []⟩,
            ⟨2, (some 92), none, (.call 20), [.t 91], []⟩,
            ⟨3, (some 93), none, (.bin .lss), [.t 90, .t 92], []⟩])
          (.cond (.t 93) (.skip)
           (.exit 3)))
         (.seq (.block 4 (.seq (.reg [⟨0, (some 96), none, .mov, [.t 5], []⟩,
              ⟨1, (some 97), none, .mov, [.t 9], []⟩,
              ⟨2, (some 98), none, (.call 22), [.t 96, .t 97], []⟩,
              ⟨3, (some 10), none, .mov, [.t 98], []⟩])
            (.seq (.reg [⟨0, (some 99), none, .mov, [.t 10], []⟩,
               ⟨1, (some 100), none, (.eqN false), [.t 99, .c (.ptr none)], []⟩,
               ⟨2, (some 101), none, .mov, [.t 100], []⟩,
               ⟨3, (some 102), (some (101, false)), .mov, [.t 10], []⟩,
               ⟨4, (some 103), (some (101, false)), (.call 23), [.t 102], []⟩,
               ⟨5, (some 104), (some (101, false)), (.bld [(.int .i64 (.ofNat (nat_lit 0))), (.int .i64 (.ofNat (nat_lit 0))), (.int .i64 (.ofNat (nat_lit 0))), (.int .i64 (.ofNat (nat_lit 0))), (.int .i64 (.ofNat (nat_lit 0))), (.int .i64 (.ofNat (nat_lit 0))), (.int .i64 (.ofNat (nat_lit 0)))] []), [], []⟩,
               ⟨6, (some 105), (some (101, false)), (.eqF true [.i, .i, .i, .i, .i, .i, .i]), [.t 103, .t 104], []⟩,
               ⟨7, (some 106), none, .pick, [.t 101, .c (.bool true), .t 105], []⟩,
               ⟨8, (some 107), none, .mov, [.t 106], []⟩,
               ⟨9, (some 108), (some (107, false)), .mov, [.t 10], []⟩,
               ⟨10, (some 109), (some (107, false)), (.call 14), [.t 108], []⟩,
               ⟨11, (some 110), (some (107, false)), (.bld [(.int .i64 (.ofNat (nat_lit 0))), (.int .i64 (.ofNat (nat_lit 0))), (.int .i64 (.ofNat (nat_lit 0))), (.int .i64 (.ofNat (nat_lit 0))), (.int .i64 (.ofNat (nat_lit 0))), (.int .i64 (.ofNat (nat_lit 0))), (.int .i64 (.ofNat (nat_lit 0)))] []), [], []⟩,
               ⟨12, (some 111), (some (107, false)), (.eqF true [.i, .i, .i, .i, .i, .i, .i]), [.t 109, .t 110], []⟩,
               ⟨13, (some 112), none, .pick, [.t 107, .c (.bool true), .t 111], []⟩])
             (.cond (.t 112) (.seq (.reg [⟨0, (some 4), none, .mov, [.c (.bool false)], []⟩])
               (.ret))
              (.skip)))))
          (.reg [⟨0, (some 94), none, .mov, [.t 9], []⟩,
            ⟨1, (some 95), none, (.bin .add), [.t 94, .c (.int .i64 (.ofNat (nat_lit 1)))], []⟩,
            ⟨2, (some 9), none, .mov, [.t 95], []⟩]))))))
     (.seq (.reg [⟨0, (some 113), none, .mov, [.t 5], []⟩,
        ⟨1, (some 114), none, (.call 24), [.t 113], []⟩,
        ⟨2, (some 115), none, .lenS, [.t 114], []⟩,
        ⟨3, (some 116), none, (.bin .eql), [.t 115, .c (.int .i64 (.ofNat (nat_lit 0)))], []⟩,
        ⟨4, (some 117), none, .mov, [.t 116], []⟩,
        ⟨5, (some 118), (some (117, true)), .mov, [.t 5], []⟩,
        ⟨6, (some 119), (some (117, true)), (.call 25), [.t 118], []⟩,
        ⟨7, (some 120), (some (117, true)), .lenS, [.t 119], []⟩,
        ⟨8, (some 121), (some (117, true)), (.bin .eql), [.t 120, .c (.int .i64 (.ofNat (nat_lit 0)))], []⟩,
        ⟨9, (some 122), none, .pick, [.t 117, .t 121, .c (.bool false)], []⟩,
        ⟨10, (some 123), none, .mov, [.t 122], []⟩,
        ⟨11, (some 124), (some (123, true)), (.call 26), [], []⟩,
        ⟨12, (some 125), none, .pick, [.t 123, .t 124, .c (.bool false)], []⟩,
        ⟨13, (some 4), none, .mov, [.t 125], []⟩])
      (.ret))

def ac4d : AC := .seq (.reg [⟨0, (some 87), none, .mov, [.t 5], []⟩,
                ⟨1, (some 88), none, (.ld (some 12)), [.t 8], []⟩,
                ⟨2, (some 89), none, (.call 21), [.t 87, .t 88], []⟩])
              (.cond (.t 89) (.seq (.reg [⟨0, (some 4), none, .mov, [.c (.bool false)], []⟩])
                (.ret))
               (.skip))

def ac4s : AC := .seq (.reg [⟨0, (some 43), none, (.fa 0), [.t 8], []⟩,
                ⟨1, (some 44), none, (.ld none), [.t 43], []⟩])
              (.block 2 (.seq (.reg [⟨0, (some 46), none, (.bin .eql), [.t 44, .c (.int .i64 (.ofNat (nat_lit 1)))], []⟩,
                  ⟨1, (some 45), none, .mov, [.t 46], []⟩])
                (.cond (.t 45) (.reg [⟨0, (some 47), none, (.fa 3), [.t 8], []⟩,
                   ⟨1, (some 48), none, (.ld none), [.t 47], []⟩,
                   ⟨2, (some 49), none, (.call 11), [.t 48, .c (.int .i64 (.ofNat (nat_lit 0))), .c (.int .i64 (.ofNat (nat_lit 9)))], []⟩,
                   ⟨3, (some 50), none, (.un .neg), [.t 49], []⟩,
                   ⟨4, (some 51), none, (.fa 3), [.t 8], []⟩,
                   ⟨5, none, none, (.st 1), [.t 51, .t 50], []⟩])
                 (.seq (.seq (.reg [⟨0, (some 53), none, (.bin .eql), [.t 44, .c (.int .i64 (.ofNat (nat_lit 5)))], []⟩,
                     ⟨1, (some 52), none, .mov, [.t 53], []⟩])
                   (.cond (.t 52) (.skip)
                    (.seq (.reg [⟨0, (some 54), none, (.bin .eql), [.t 44, .c (.int .i64 (.ofNat (nat_lit 7)))], []⟩,
                       ⟨1, (some 52), none, .mov, [.t 54], []⟩])
                     (.cond (.t 52) (.skip)
                      (.reg [⟨0, (some 55), none, (.bin .eql), [.t 44, .c (.int .i64 (.ofNat (nat_lit 8)))], []⟩,
                        ⟨1, (some 52), none, .mov, [.t 55], []⟩])))))
                  (.cond (.t 52) (.reg [⟨0, (some 56), none, .mov, [.t 5], []⟩,
                     ⟨2, (some 58), none, (.fa 1), [.t 8], []⟩,
                     ⟨3, (some 59), none, (.ld none), [.t 58], []⟩,
                     ⟨1, (some 57), none, (.call 20), [.t 56], [3]⟩,
                     ⟨4, (some 60), none, (.call 11), [.t 59, .c (.int .i64 (.ofNat (nat_lit 0))), .c (.int .i64 (.ofNat (nat_lit 9)))], []⟩,
                     ⟨5, (some 61), none, (.bin .add), [.t 57, .t 60], []⟩,
                     ⟨6, (some 62), none, (.fa 1), [.t 8], []⟩,
                     ⟨7, none, none, (.st 1), [.t 62, .t 61], []⟩])
                   (.seq (.reg [⟨0, (some 64), none, (.bin .eql), [.t 44, .c (.int .i64 (.ofNat (nat_lit 9)))], []⟩,
                      ⟨1, (some 63), none, .mov, [.t 64], []⟩])
                    (.cond (.t 63) (.reg [⟨0, (some 65), none, (.fa 1), [.t 8], []⟩,
                       ⟨1, (some 66), none, (.ld none), [.t 65], []⟩,
                       ⟨2, (some 67), none, .mov, [.t 5], []⟩,
                       ⟨3, (some 68), none, (.call 20), [.t 67], [1]⟩,
                       ⟨4, (some 69), none, (.bin .sub), [.t 68, .c (.int .i64 (.ofNat (nat_lit 1)))], []⟩,
                       ⟨5, (some 70), none, (.call 11), [.t 66, .c (.int .i64 (.ofNat (nat_lit 0))), .t 69], []⟩,
                       ⟨6, (some 71), none, (.fa 1), [.t 8], []⟩,
                       ⟨7, none, none, (.st 1), [.t 71, .t 70], []⟩])
                     (.seq (.reg [⟨0, (some 73), none, (.bin .eql), [.t 44, .c (.int .i64 (.ofNat (nat_lit 6)))], []⟩,
                        ⟨1, (some 72), none, .mov, [.t 73], []⟩])
                      (.cond (.t 72) (.reg [⟨0, (some 74), none, (.fa 1), [.t 8], []⟩,
                         ⟨1, (some 75), none, (.ld none), [.t 74], []⟩,
                         ⟨2, (some 76), none, (.call 11), [.t 75, .c (.int .i64 (.ofNat (nat_lit 0))), .c (.int .i64 (.ofNat (nat_lit 9)))], []⟩,
                         ⟨3, (some 77), none, (.un .neg), [.t 76], []⟩,
                         ⟨4, (some 78), none, (.fa 1), [.t 8], []⟩,
                         ⟨5, none, none, (.st 1), [.t 78, .t 77], []⟩])
                       (.seq (.seq (.reg [⟨0, (some 80), none, (.bin .eql), [.t 44, .c (.int .i64 (.ofNat (nat_lit 2)))], []⟩,
                           ⟨1, (some 79), none, .mov, [.t 80], []⟩])
                         (.cond (.t 79) (.skip)
                          (.seq (.reg [⟨0, (some 81), none, (.bin .eql), [.t 44, .c (.int .i64 (.ofNat (nat_lit 3)))], []⟩,
                             ⟨1, (some 79), none, .mov, [.t 81], []⟩])
                           (.cond (.t 79) (.skip)
                            (.reg [⟨0, (some 82), none, (.bin .eql), [.t 44, .c (.int .i64 (.ofNat (nat_lit 4)))], []⟩,
                              ⟨1, (some 79), none, .mov, [.t 82], []⟩])))))
                        (.cond (.t 79) (.reg [⟨0, (some 83), none, (.fa 1), [.t 8], []⟩,
                           ⟨1, (some 84), none, (.ld none), [.t 83], []⟩,
                           ⟨2, (some 85), none, (.call 11), [.t 84, .c (.int .i64 (.ofNat (nat_lit 0))), .c (.int .i64 (.ofNat (nat_lit 9)))], []⟩,
                           ⟨3, (some 86), none, (.fa 1), [.t 8], []⟩,
                           ⟨4, none, none, (.st 1), [.t 86, .t 85], []⟩])
                         (.skip))))))))))))

def ac4 : AC := .seq (.reg [⟨0, (some 4), none, .mov, [.c (.bool false)], []⟩])
 (.seq (.reg [⟨0, (some 12), none, (.bsl 1 3 [(.int .i64 (.ofNat (nat_lit 0))), (.int .i64 (.ofNat (nat_lit 0))), (.int .i64 (.ofNat (nat_lit 0)))] [(0, 1), (1, 1), (2, 1)]), [.c (.int .i64 (.ofNat (nat_lit 3))), .c (.int .i64 (.ofNat (nat_lit 5))), .c (.int .i64 (.ofNat (nat_lit 7)))], []⟩,
    ⟨1, (some 13), none, .mov, [.t 0], []⟩,
    ⟨2, (some 14), none, (.call 11), [.t 13, .c (.int .i64 (.ofNat (nat_lit 0))), .c (.int .i64 (.ofNat (nat_lit 2)))], []⟩,
    ⟨3, (some 15), none, (.iaS 1), [.t 12, .t 14], []⟩,
    ⟨4, (some 16), none, (.ld none), [.t 15], []⟩,
    ⟨5, (some 17), none, (.call 18), [.t 16], []⟩,
    ⟨6, (some 11), none, .mov, [.t 17], []⟩,
    ⟨7, (some 18), none, (.ext 0), [.t 11], []⟩,
    ⟨8, (some 19), none, (.ext 1), [.t 11], []⟩,
    ⟨9, (some 5), none, .mov, [.t 18], []⟩,
    ⟨10, (some 6), none, .mov, [.t 19], []⟩])
  (.seq (.seq (.reg [⟨0, (some 20), none, .mov, [.t 5], []⟩,
      ⟨1, (some 21), none, (.eqN false), [.t 20, .c (.ptr none)], []⟩,
      ⟨2, (some 22), none, .mov, [.t 21], []⟩,
      ⟨3, (some 23), (some (22, false)), .mov, [.t 6], []⟩,
      ⟨4, (some 24), (some (22, false)), (.bin .neq), [.t 23, .c (.int .i64 (.ofNat (nat_lit 0)))], []⟩,
      ⟨5, (some 25), none, .pick, [.t 22, .c (.bool true), .t 24], []⟩])
    (.cond (.t 25) (.seq (.reg [⟨0, (some 4), none, .mov, [.c (.bool false)], []⟩])
      (.ret))
     (.skip)))
   (.seq (.seq (.reg [⟨0, (some 7), none, .mov, [.c (.int .i64 (.ofNat (nat_lit 0)))], []⟩])
     (.block 0 (.loop (.seq (.seq (.reg [⟨0, (some 26), none, .mov, [.t 7], []⟩,
           ⟨1, (some 27), none, .mov, [.t 1], []⟩,
           ⟨2, (some 28), none, .lenS, [.t 27], []⟩,
           ⟨3, (some 29), none, (.bin .lss), [.t 26, .t 28], []⟩,
           ⟨4, (some 30), none, .mov, [.t 29], []⟩,
           ⟨5, (some 31), (some (30, true)), .mov, [.t 7], []⟩,
           ⟨6, (some 32), (some (30, true)), (.bin .lss), [.t 31, .c (.int .i64 (.ofNat (nat_lit 40)))], []⟩,
           ⟨7, (some 33), none, .pick, [.t 30, .t 32, .c (.bool false)], []⟩])
         (.cond (.t 33) (.skip)
          (.exit 0)))
        (.seq (.block 1 (.seq (.reg [⟨0, (some 36), none, .mov, [.t 1], []⟩,
             ⟨1, (some 37), none, .mov, [.t 7], []⟩,
             ⟨2, (some 38), none, (.iaS 12), [.t 36, .t 37], []⟩,
             ⟨3, (some 39), none, (.ld (some 12)), [.t 38], []⟩,
             ⟨4, (some 8), none, (.alloc [(.int .i64 (.ofNat (nat_lit 0))), (.int .i64 (.ofNat (nat_lit 0))), (.int .i64 (.ofNat (nat_lit 0))), (.int .i64 (.ofNat (nat_lit 0))), (.int .i64 (.ofNat (nat_lit 0))), (.int .i64 (.ofNat (nat_lit 0))), (.int .i64 (.ofNat (nat_lit 0))), (.str (sb [])), (.str (sb [])), (.str (sb [])), (.str (sb [])), (.slice none 0 true 0)]), [], []⟩,
             ⟨5, none, none, (.st 12), [.t 8, .t 39], []⟩])
           (.seq (.seq (.reg [⟨0, (some 40), none, (.ld (some 12)), [.t 8], []⟩,
               ⟨1, (some 41), none, (.call 19), [.t 40], []⟩,
               ⟨2, (some 42), none, (.un .not), [.t 41], []⟩])
             (.cond (.t 42) (.exit 1)
              (.skip)))
            (.seq ac4s
             ac4d))))
         (.reg [⟨0, (some 34), none, .mov, [.t 7], []⟩,
           ⟨1, (some 35), none, (.bin .add), [.t 34, .c (.int .i64 (.ofNat (nat_lit 1)))], []⟩,
           ⟨2, (some 7), none, .mov, [.t 35], []⟩]))))))
    ac4t)))

def rv4 : List Rv := [.tmp 4]
def ac11 : AC := .seq (.reg [⟨0, (some 6), none, .mov, [.c (.int .i64 (.ofNat (nat_lit 0)))], []⟩])
 (.seq (.reg [⟨0, (some 7), none, .mov, [.t 0], []⟩,
    ⟨1, (some 8), none, .mov, [.t 2], []⟩,
    ⟨2, (some 9), none, .mov, [.t 1], []⟩,
    ⟨3, (some 10), none, (.bin .sub), [.t 8, .t 9], []⟩,
    ⟨4, (some 11), none, (.bin .add), [.t 10, .c (.int .i64 (.ofNat (nat_lit 1)))], []⟩,
    ⟨5, (some 12), none, (.bin .rem), [.t 7, .t 11], []⟩,
    ⟨6, (some 0), none, .mov, [.t 12], []⟩])
  (.seq (.seq (.reg [⟨0, (some 13), none, .mov, [.t 0], []⟩,
      ⟨1, (some 14), none, (.bin .lss), [.t 13, .c (.int .i64 (.ofNat (nat_lit 0)))], []⟩])
    (.cond (.t 14) (.reg [⟨0, (some 15), none, .mov, [.t 0], []⟩,
       ⟨1, (some 16), none, .mov, [.t 2], []⟩,
       ⟨2, (some 17), none, (.bin .add), [.t 15, .t 16], []⟩,
       ⟨3, (some 18), none, .mov, [.t 1], []⟩,
       ⟨4, (some 19), none, (.bin .sub), [.t 17, .t 18], []⟩,
       ⟨5, (some 20), none, (.bin .add), [.t 19, .c (.int .i64 (.ofNat (nat_lit 1)))], []⟩,
       ⟨6, (some 0), none, .mov, [.t 20], []⟩])
     (.skip)))
   (.seq (.reg [⟨0, (some 21), none, .mov, [.t 1], []⟩,
      ⟨1, (some 22), none, .mov, [.t 0], []⟩,
      ⟨2, (some 23), none, (.bin .add), [.t 21, .t 22], []⟩,
      ⟨3, (some 6), none, .mov, [.t 23], []⟩])
    (.ret))))
def rv11 : List Rv := [.tmp 6]

def ac14 : AC := .seq (.reg [⟨0, (some 2), none, (.alloc [(.int .i64 (.ofNat (nat_lit 0))), (.int .i64 (.ofNat (nat_lit 0))), (.int .i64 (.ofNat (nat_lit 0))), (.int .i64 (.ofNat (nat_lit 0))), (.int .i64 (.ofNat (nat_lit 0))), (.int .i64 (.ofNat (nat_lit 0))), (.int .i64 (.ofNat (nat_lit 0)))]), [], []⟩])
 (.seq (.reg [⟨0, (some 3), none, .mov, [.t 0], []⟩,
    ⟨1, (some 4), none, .nilc, [.t 3], []⟩,
    ⟨2, (some 5), none, (.fa 4), [.t 4], []⟩,
    ⟨3, (some 6), none, (.ld none), [.t 5], []⟩,
    ⟨4, (some 7), none, (.call 52), [.t 6], []⟩,
    ⟨5, none, none, (.st 7), [.t 2, .t 7], []⟩])
  (.ret))
def rv14 : List Rv := [.cell 2 (some 7)]

def ac19 : AC := .seq (.reg [⟨0, (some 1), none, .box, [.t 0], []⟩,
   ⟨1, (some 2), none, .mov, [.c (.bool false)], []⟩])
 (.seq (.reg [⟨0, (some 3), none, (.fa 4), [.t 1], []⟩,
    ⟨1, (some 4), none, (.fa 3), [.t 3], []⟩,
    ⟨2, (some 5), none, (.ld none), [.t 4], []⟩,
    ⟨3, (some 6), none, .lenT, [.t 5], []⟩,
    ⟨4, (some 7), none, (.fa 4), [.t 1], []⟩,
    ⟨5, (some 8), none, (.fa 4), [.t 7], []⟩,
    ⟨6, (some 9), none, (.ld none), [.t 8], []⟩,
    ⟨7, (some 10), none, .lenT, [.t 9], []⟩,
    ⟨8, (some 11), none, (.bin .add), [.t 6, .t 10], []⟩,
    ⟨9, (some 12), none, (.fa 4), [.t 1], []⟩,
    ⟨10, (some 13), none, (.fa 5), [.t 12], []⟩,
    ⟨11, (some 14), none, (.ld none), [.t 13], []⟩,
    ⟨12, (some 15), none, .lenT, [.t 14], []⟩,
    ⟨13, (some 16), none, (.bin .add), [.t 11, .t 15], []⟩,
    ⟨14, (some 17), none, (.fa 4), [.t 1], []⟩,
    ⟨15, (some 18), none, (.fa 6), [.t 17], []⟩,
    ⟨16, (some 19), none, (.ld none), [.t 18], []⟩,
    ⟨17, (some 20), none, .lenT, [.t 19], []⟩,
    ⟨18, (some 21), none, (.bin .add), [.t 16, .t 20], []⟩,
    ⟨19, (some 22), none, (.fa 11), [.t 1], []⟩,
    ⟨20, (some 23), none, (.ld none), [.t 22], []⟩,
    ⟨21, (some 24), none, .lenS, [.t 23], []⟩,
    ⟨22, (some 25), none, (.bin .add), [.t 21, .t 24], []⟩,
    ⟨23, (some 26), none, (.bin .lss), [.t 25, .c (.int .i64 (.ofNat (nat_lit 1000)))], []⟩,
    ⟨24, (some 2), none, .mov, [.t 26], []⟩])
  (.ret))
def rv19 : List Rv := [.tmp 2]

def ac20 : AC := .seq (.reg [⟨0, (some 2), none, .mov, [.c (.int .i64 (.ofNat (nat_lit 0)))], []⟩])
 (.seq (.reg [⟨0, (some 3), none, .mov, [.t 0], []⟩,
    ⟨1, (some 4), none, .nilc, [.t 3], []⟩,
    ⟨2, (some 5), none, (.fa 0), [.t 4], []⟩,
    ⟨3, (some 6), none, (.ld none), [.t 5], []⟩,
    ⟨4, (some 2), none, .mov, [.t 6], []⟩])
  (.ret))
def rv20 : List Rv := [.tmp 2]

def ac21 : AC := .seq (.reg [⟨0, (some 3), none, .box, [.t 1], []⟩,
   ⟨1, (some 4), none, .mov, [.c (.bool false)], []⟩])
 (.seq (.seq (.reg [⟨0, (some 6), none, (.fa 0), [.t 3], []⟩,
     ⟨1, (some 7), none, (.ld none), [.t 6], []⟩])
   (.block 0 (.seq (.reg [⟨0, (some 9), none, (.bin .eql), [.t 7, .c (.int .i64 (.ofNat (nat_lit 1)))], []⟩,
       ⟨1, (some 8), none, .mov, [.t 9], []⟩])
     (.cond (.t 8) (.seq (.reg [⟨0, (some 10), none, .mov, [.t 0], []⟩,
         ⟨1, (some 11), none, (.ld (some 12)), [.t 3], []⟩,
         ⟨2, (some 12), none, (.call 61), [.t 10, .t 11], []⟩,
         ⟨3, (some 4), none, .mov, [.t 12], []⟩])
       (.ret))
      (.seq (.seq (.reg [⟨0, (some 14), none, (.bin .eql), [.t 7, .c (.int .i64 (.ofNat (nat_lit 2)))], []⟩,
          ⟨1, (some 13), none, .mov, [.t 14], []⟩])
        (.cond (.t 13) (.skip)
         (.seq (.reg [⟨0, (some 15), none, (.bin .eql), [.t 7, .c (.int .i64 (.ofNat (nat_lit 3)))], []⟩,
            ⟨1, (some 13), none, .mov, [.t 15], []⟩])
          (.cond (.t 13) (.skip)
           (.reg [⟨0, (some 16), none, (.bin .eql), [.t 7, .c (.int .i64 (.ofNat (nat_lit 4)))], []⟩,
             ⟨1, (some 13), none, .mov, [.t 16], []⟩])))))
       (.cond (.t 13) (.seq (.reg [⟨0, (some 17), none, .mov, [.t 0], []⟩,
           ⟨1, (some 18), none, (.ld (some 12)), [.t 3], []⟩,
           ⟨2, (some 19), none, (.call 62), [.t 17, .t 18], []⟩,
           ⟨3, (some 4), none, .mov, [.t 19], []⟩])
         (.ret))
        (.seq (.reg [⟨0, (some 21), none, (.bin .eql), [.t 7, .c (.int .i64 (.ofNat (nat_lit 6)))], []⟩,
           ⟨1, (some 20), none, .mov, [.t 21], []⟩])
         (.cond (.t 20) (.seq (.reg [⟨0, (some 22), none, .mov, [.t 0], []⟩,
             ⟨1, (some 23), none, (.fa 1), [.t 3], []⟩,
             ⟨2, (some 24), none, (.ld none), [.t 23], []⟩,
             ⟨3, (some 25), none, (.call 63), [.t 22, .t 24], []⟩,
             ⟨4, (some 4), none, .mov, [.t 25], []⟩])
           (.ret))
          (.seq (.reg [⟨0, (some 27), none, (.bin .eql), [.t 7, .c (.int .i64 (.ofNat (nat_lit 9)))], []⟩,
             ⟨1, (some 26), none, .mov, [.t 27], []⟩])
           (.cond (.t 26) (.seq (.reg [⟨0, (some 28), none, .mov, [.t 0], []⟩,
               ⟨1, (some 29), none, (.fa 1), [.t 3], []⟩,
               ⟨2, (some 30), none, (.ld none), [.t 29], []⟩,
               ⟨3, (some 31), none, (.call 64), [.t 28, .t 30], []⟩,
               ⟨4, (some 4), none, .mov, [.t 31], []⟩])
             (.ret))
            (.skip)))))))))))
  (.seq (.reg [⟨0, (some 32), none, .mov, [.t 0], []⟩,
     ⟨1, (some 33), none, (.fa 1), [.t 3], []⟩,
     ⟨2, (some 34), none, (.ld none), [.t 33], []⟩,
     ⟨3, (some 35), none, (.call 22), [.t 32, .t 34], []⟩,
     ⟨4, (some 5), none, .mov, [.t 35], []⟩])
   (.seq (.seq (.reg [⟨0, (some 36), none, .mov, [.t 5], []⟩,
       ⟨1, (some 37), none, (.eqN false), [.t 36, .c (.ptr none)], []⟩])
     (.cond (.t 37) (.seq (.reg [⟨0, (some 4), none, .mov, [.c (.bool false)], []⟩])
       (.ret))
      (.skip)))
    (.seq (.seq (.reg [⟨0, (some 38), none, (.fa 0), [.t 3], []⟩,
        ⟨1, (some 39), none, (.ld none), [.t 38], []⟩])
      (.block 1 (.seq (.reg [⟨0, (some 41), none, (.bin .eql), [.t 39, .c (.int .i64 (.ofNat (nat_lit 5)))], []⟩,
          ⟨1, (some 40), none, .mov, [.t 41], []⟩])
        (.cond (.t 40) (.seq (.reg [⟨0, (some 42), none, .mov, [.t 5], []⟩,
            ⟨1, (some 43), none, (.call 65), [.t 42], []⟩])
          (.reg [⟨0, (some 44), none, .mov, [.t 0], []⟩,
            ⟨1, (some 45), none, (.fa 1), [.t 3], []⟩,
            ⟨2, (some 46), none, (.ld none), [.t 45], []⟩,
            ⟨3, (some 47), none, (.call 60), [.t 44, .t 46], []⟩]))
         (.seq (.reg [⟨0, (some 49), none, (.bin .eql), [.t 39, .c (.int .i64 (.ofNat (nat_lit 7)))], []⟩,
            ⟨1, (some 48), none, .mov, [.t 49], []⟩])
          (.cond (.t 48) (.reg [⟨0, (some 50), none, .mov, [.t 0], []⟩,
             ⟨1, (some 51), none, .nilc, [.t 50], []⟩,
             ⟨2, (some 52), none, (.fa 1), [.t 51], []⟩,
             ⟨3, (some 53), none, (.ld none), [.t 52], []⟩,
             ⟨4, (some 54), none, (.fa 1), [.t 3], []⟩,
             ⟨5, (some 55), none, (.ld none), [.t 54], []⟩,
             ⟨6, (some 56), none, (.iaS 1), [.t 53, .t 55], []⟩,
             ⟨7, (some 57), none, (.ld none), [.t 56], []⟩,
             ⟨8, (some 58), none, (.fa 2), [.t 3], []⟩,
             ⟨9, (some 59), none, (.ld none), [.t 58], []⟩,
             ⟨10, (some 60), none, (.call 66), [.t 57, .t 59], []⟩])
           (.seq (.reg [⟨0, (some 62), none, (.bin .eql), [.t 39, .c (.int .i64 (.ofNat (nat_lit 8)))], []⟩,
              ⟨1, (some 61), none, .mov, [.t 62], []⟩])
            (.cond (.t 61) (.seq (.reg [⟨0, (some 63), none, .mov, [.t 0], []⟩,
                ⟨1, (some 64), none, .nilc, [.t 63], []⟩,
                ⟨2, (some 65), none, (.fa 2), [.t 64], []⟩,
                ⟨3, (some 66), none, (.ld none), [.t 65], []⟩,
                ⟨4, (some 67), none, (.fa 1), [.t 3], []⟩,
                ⟨5, (some 68), none, (.ld none), [.t 67], []⟩,
                ⟨6, (some 69), none, (.iaS 1), [.t 66, .t 68], []⟩,
                ⟨7, none, none, (.st 1), [.t 69, .c (.ptr none)], []⟩])
              (.reg [⟨0, (some 70), none, .mov, [.t 0], []⟩,
                ⟨1, (some 71), none, .nilc, [.t 70], []⟩,
                ⟨2, (some 72), none, (.fa 1), [.t 71], []⟩,
                ⟨3, (some 73), none, (.ld none), [.t 72], []⟩,
                ⟨4, (some 74), none, (.fa 1), [.t 3], []⟩,
                ⟨5, (some 75), none, (.ld none), [.t 74], []⟩,
                ⟨6, (some 76), none, (.iaS 1), [.t 73, .t 75], []⟩,
                ⟨7, (some 77), none, (.ld none), [.t 76], []⟩,
                ⟨8, (some 78), none, (.fa 11), [.t 3], []⟩,
                ⟨9, (some 79), none, (.ld none), [.t 78], []⟩,
                ⟨10, (some 80), none, (.call 67), [.t 77, .t 79], []⟩]))
             (.seq (.reg [⟨0, (some 4), none, .mov, [.c (.bool false)], []⟩])
              (.ret))))))))))
     (.seq (.reg [⟨0, (some 4), none, .mov, [.c (.bool true)], []⟩])
      (.ret))))))
def rv21 : List Rv := [.tmp 4]

def ac22 : AC := .seq (.reg [⟨0, (some 4), none, .mov, [.c (.ptr none)], []⟩])
 (.seq (.seq (.reg [⟨0, (some 5), none, .mov, [.t 1], []⟩,
     ⟨1, (some 6), none, (.bin .lss), [.t 5, .c (.int .i64 (.ofNat (nat_lit 0)))], []⟩,
     ⟨2, (some 7), none, .mov, [.t 6], []⟩,
     ⟨3, (some 8), (some (7, false)), .mov, [.t 1], []⟩,
     ⟨4, (some 9), (some (7, false)), .mov, [.t 0], []⟩,
     ⟨5, (some 10), (some (7, false)), .nilc, [.t 9], []⟩,
     ⟨6, (some 11), (some (7, false)), (.fa 0), [.t 10], []⟩,
     ⟨7, (some 12), (some (7, false)), (.ld none), [.t 11], []⟩,
     ⟨8, (some 13), (some (7, false)), (.bin .geq), [.t 8, .t 12], []⟩,
     ⟨9, (some 14), none, .pick, [.t 7, .c (.bool true), .t 13], []⟩])
   (.cond (.t 14) (.seq (.reg [⟨0, (some 4), none, .mov, [.c (.ptr none)], []⟩])
     (.ret))
    (.skip)))
  (.seq (.reg [⟨0, (some 15), none, .mov, [.t 0], []⟩,
     ⟨1, (some 16), none, .nilc, [.t 15], []⟩,
     ⟨2, (some 17), none, (.fa 2), [.t 16], []⟩,
     ⟨3, (some 18), none, (.ld none), [.t 17], []⟩,
     ⟨4, (some 19), none, .mov, [.t 1], []⟩,
     ⟨5, (some 20), none, (.iaS 1), [.t 18, .t 19], []⟩,
     ⟨6, (some 21), none, (.ld none), [.t 20], []⟩,
     ⟨7, (some 4), none, .mov, [.t 21], []⟩])
   (.ret)))
def rv22 : List Rv := [.tmp 4]

def ac23 : AC := .seq (.reg [⟨0, (some 2), none, (.alloc [(.int .i64 (.ofNat (nat_lit 0))), (.int .i64 (.ofNat (nat_lit 0))), (.int .i64 (.ofNat (nat_lit 0))), (.int .i64 (.ofNat (nat_lit 0))), (.int .i64 (.ofNat (nat_lit 0))), (.int .i64 (.ofNat (nat_lit 0))), (.int .i64 (.ofNat (nat_lit 0)))]), [], []⟩])
 (.seq (.reg [⟨0, (some 3), none, .mov, [.t 0], []⟩,
    ⟨1, (some 4), none, .nilc, [.t 3], []⟩,
    ⟨2, (some 5), none, (.fa 55), [.t 4], []⟩,
    ⟨3, (some 6), none, (.ld (some 7)), [.t 5], []⟩,
    ⟨4, none, none, (.st 7), [.t 2, .t 6], []⟩])
  (.ret))
def rv23 : List Rv := [.cell 2 (some 7)]

def ac24 : AC := .seq (.reg [⟨0, (some 2), none, .mov, [.c (.slice none 0 true 0)], []⟩])
 (.seq (.reg [⟨0, (some 3), none, .mov, [.t 0], []⟩,
    ⟨1, (some 4), none, .nilc, [.t 3], []⟩,
    ⟨2, (some 5), none, (.fa 5), [.t 4], []⟩,
    ⟨3, (some 6), none, (.ld none), [.t 5], []⟩,
    ⟨4, (some 7), none, (.call 68), [.t 6], []⟩,
    ⟨5, (some 2), none, .mov, [.t 7], []⟩])
  (.ret))
def rv24 : List Rv := [.tmp 2]

def ac25 : AC := .seq (.reg [⟨0, (some 2), none, .mov, [.c (.slice none 0 true 0)], []⟩])
 (.seq (.reg [⟨0, (some 5), none, .mov, [.t 0], []⟩,
    ⟨1, (some 6), none, .nilc, [.t 5], []⟩,
    ⟨2, (some 7), none, (.fa 6), [.t 6], []⟩,
    ⟨3, (some 8), none, (.ld none), [.t 7], []⟩,
    ⟨4, (some 9), none, (.call 69), [.t 8], []⟩,
    ⟨5, (some 3), none, .mov, [.t 9], []⟩])
  (.seq (.seq (.reg [⟨0, (some 10), none, .mov, [.t 3], []⟩,
      ⟨1, (some 11), none, .lenS, [.t 10], []⟩,
      ⟨2, (some 12), none, .mov, [.c (.int .i64 (.ofNat (nat_lit 0)))], []⟩])
    (.block 0 (.loop (.seq (.reg [⟨0, (some 13), none, (.bin .lss), [.t 12, .t 11], []⟩])
       (.seq (.cond (.t 13) (.skip)
         (.exit 0))
        (.seq (.block 1 (.seq (.reg [⟨0, (some 14), none, .mov, [.t 12], []⟩,
             ⟨1, (some 4), none, .mov, [.t 14], []⟩])
           (.reg [⟨0, (some 15), none, .mov, [.t 3], []⟩,
             ⟨1, (some 16), none, .mov, [.t 4], []⟩,
             ⟨2, (some 17), none, .mov, [.t 3], []⟩,
             ⟨3, (some 18), none, .mov, [.t 4], []⟩,
             ⟨4, (some 19), none, (.iaS 14), [.t 17, .t 18], []⟩,
             ⟨5, (some 20), none, (.fa 9), [.t 19], []⟩,
             ⟨6, (some 21), none, (.fa 4), [.t 20], []⟩,
             ⟨7, (some 22), none, (.ld none), [.t 21], []⟩,
             ⟨8, (some 23), none, (.call 70), [.t 22], []⟩,
             ⟨9, (some 24), none, (.iaS 14), [.t 15, .t 16], []⟩,
             ⟨10, (some 25), none, (.fa 9), [.t 24], []⟩,
             ⟨11, (some 26), none, (.fa 4), [.t 25], []⟩,
             ⟨12, none, none, (.st 1), [.t 26, .t 23], []⟩])))
         (.reg [⟨0, (some 27), none, (.bin .add), [.t 12, .c (.int .i64 (.ofNat (nat_lit 1)))], []⟩,
           ⟨1, (some 12), none, .mov, [.t 27], []⟩])))))))
   (.seq (.reg [⟨0, (some 28), none, .mov, [.t 3], []⟩,
      ⟨1, (some 2), none, .mov, [.t 28], []⟩])
    (.ret))))
def rv25 : List Rv := [.tmp 2]

def ac52 : AC := .seq (.reg [⟨0, (some 2), none, (.alloc [(.int .i64 (.ofNat (nat_lit 0))), (.int .i64 (.ofNat (nat_lit 0))), (.int .i64 (.ofNat (nat_lit 0))), (.int .i64 (.ofNat (nat_lit 0))), (.int .i64 (.ofNat (nat_lit 0))), (.int .i64 (.ofNat (nat_lit 0))), (.int .i64 (.ofNat (nat_lit 0)))]), [], []⟩])
 (.seq (.reg [⟨0, (some 3), none, .mov, [.t 0], []⟩,
    ⟨1, (some 4), none, .nilc, [.t 3], []⟩,
    ⟨2, (some 5), none, (.fa 2), [.t 4], []⟩,
    ⟨3, (some 6), none, (.ld none), [.t 5], []⟩,
    ⟨4, (some 7), none, (.call 125), [.t 6], []⟩,
    ⟨5, none, none, (.st 7), [.t 2, .t 7], []⟩])
  (.ret))
def rv52 : List Rv := [.cell 2 (some 7)]

def ac61 : AC := .seq (.reg [⟨0, (some 3), none, .box, [.t 1], []⟩,
   ⟨1, (some 4), none, .mov, [.c (.bool false)], []⟩])
 (.seq (.seq (.reg [⟨0, (some 7), none, (.fa 3), [.t 3], []⟩,
     ⟨1, (some 8), none, (.ld none), [.t 7], []⟩,
     ⟨2, (some 9), none, (.call 144), [.t 8], []⟩,
     ⟨3, (some 10), none, (.un .not), [.t 9], []⟩,
     ⟨4, (some 11), none, .mov, [.t 10], []⟩,
     ⟨5, (some 12), (some (11, false)), (.fa 1), [.t 3], []⟩,
     ⟨6, (some 13), (some (11, false)), (.ld none), [.t 12], []⟩,
     ⟨7, (some 14), (some (11, false)), (.bin .lss), [.t 13, .c (.int .i64 (.ofNat (nat_lit 0)))], []⟩,
     ⟨8, (some 15), none, .pick, [.t 11, .c (.bool true), .t 14], []⟩,
     ⟨9, (some 16), none, .mov, [.t 15], []⟩,
     ⟨10, (some 17), (some (16, false)), (.fa 1), [.t 3], []⟩,
     ⟨11, (some 18), (some (16, false)), (.ld none), [.t 17], []⟩,
     ⟨12, (some 19), (some (16, false)), .mov, [.t 0], []⟩,
     ⟨13, (some 20), (some (16, false)), .nilc, [.t 19], []⟩,
     ⟨14, (some 21), (some (16, false)), (.fa 0), [.t 20], []⟩,
     ⟨15, (some 22), (some (16, false)), (.ld none), [.t 21], []⟩,
     ⟨16, (some 23), (some (16, false)), (.bin .geq), [.t 18, .t 22], []⟩,
     ⟨17, (some 24), none, .pick, [.t 16, .c (.bool true), .t 23], []⟩])
   (.cond (.t 24) (.seq (.reg [⟨0, (some 4), none, .mov, [.c (.bool false)], []⟩])
     (.ret))
    (.skip)))
  (.seq (.reg [⟨0, (some 26), none, .mov, [.t 0], []⟩,
     ⟨1, (some 27), none, .nilc, [.t 26], []⟩,
     ⟨2, (some 28), none, (.fa 3), [.t 27], []⟩,
     ⟨3, (some 29), none, (.ld none), [.t 28], []⟩,
     ⟨4, (some 30), none, (.fa 3), [.t 3], []⟩,
     ⟨5, (some 31), none, (.ld none), [.t 30], []⟩,
     ⟨6, (some 32), none, (.bin .sub), [.t 31, .c (.int .i64 (.ofNat (nat_lit 1)))], []⟩,
     ⟨7, (some 33), none, (.iaS 1), [.t 29, .t 32], []⟩,
     ⟨8, (some 34), none, (.ld none), [.t 33], []⟩,
     ⟨9, (some 35), none, (.fa 4), [.t 3], []⟩,
     ⟨10, (some 36), none, (.ld (some 7)), [.t 35], []⟩,
     ⟨11, (some 37), none, (.fa 1), [.t 3], []⟩,
     ⟨12, (some 38), none, (.ld none), [.t 37], []⟩,
     ⟨17, (some 5), none, (.alloc [(.int .i64 (.ofNat (nat_lit 0))), (.int .i64 (.ofNat (nat_lit 0))), (.int .i64 (.ofNat (nat_lit 0))), (.str (sb [])), (.str (sb [])), (.str (sb [])), (.str (sb []))]), [], []⟩,
     ⟨13, (some 39), none, (.call 146), [.t 34, .t 36, .t 38], []⟩,
     ⟨14, (some 25), none, .mov, [.t 39], []⟩,
     ⟨15, (some 40), none, (.ext 0), [.t 25], []⟩,
     ⟨16, (some 41), none, (.ext 1), [.t 25], []⟩,
     ⟨18, none, none, (.st 7), [.t 5, .t 40], []⟩,
     ⟨19, (some 6), none, .mov, [.t 41], []⟩])
   (.seq (.seq (.reg [⟨0, (some 42), none, .mov, [.t 6], []⟩,
       ⟨1, (some 43), none, (.un .not), [.t 42], []⟩])
     (.cond (.t 43) (.seq (.reg [⟨0, (some 4), none, .mov, [.c (.bool false)], []⟩])
       (.ret))
      (.skip)))
    (.seq (.reg [⟨0, (some 44), none, .mov, [.t 0], []⟩,
       ⟨1, (some 45), none, .nilc, [.t 44], []⟩,
       ⟨2, (some 46), none, (.fa 4), [.t 45], []⟩,
       ⟨3, (some 47), none, (.ld none), [.t 46], []⟩,
       ⟨4, (some 48), none, (.fa 3), [.t 3], []⟩,
       ⟨5, (some 49), none, (.ld none), [.t 48], []⟩,
       ⟨6, (some 50), none, (.bin .sub), [.t 49, .c (.int .i64 (.ofNat (nat_lit 1)))], []⟩,
       ⟨7, (some 51), none, (.ld (some 7)), [.t 5], []⟩,
       ⟨8, (some 52), none, (.iaS 7), [.t 47, .t 50], []⟩,
       ⟨9, none, none, (.st 7), [.t 52, .t 51], []⟩])
     (.seq (.reg [⟨0, (some 53), none, .mov, [.t 0], []⟩,
        ⟨1, (some 54), none, .mov, [.t 0], []⟩,
        ⟨2, (some 55), none, .nilc, [.t 54], []⟩,
        ⟨3, (some 56), none, (.fa 6), [.t 55], []⟩,
        ⟨4, (some 57), none, (.ld none), [.t 56], []⟩,
        ⟨5, (some 58), none, (.fa 3), [.t 3], []⟩,
        ⟨6, (some 59), none, (.ld none), [.t 58], []⟩,
        ⟨7, (some 60), none, (.ld (some 7)), [.t 5], []⟩,
        ⟨8, (some 61), none, (.bld [(.int .i64 (.ofNat (nat_lit 0))), (.int .i64 (.ofNat (nat_lit 0))), (.int .i64 (.ofNat (nat_lit 0))), (.int .i64 (.ofNat (nat_lit 0))), (.int .i64 (.ofNat (nat_lit 0))), (.str (sb [])), (.str (sb [])), (.str (sb [])), (.str (sb [])), (.int .i64 (.ofNat (nat_lit 0))), (.bool false), (.str (sb [])), (.int .i64 (.ofNat (nat_lit 0))), (.slice none 0 true 0)] [(0, 1), (1, 1), (2, 7)]), [.c (.int .i64 (.ofNat (nat_lit 1))), .t 59, .t 60], []⟩,
        ⟨9, (some 62), none, (.bsl 14 1 [(.int .i64 (.ofNat (nat_lit 0))), (.int .i64 (.ofNat (nat_lit 0))), (.int .i64 (.ofNat (nat_lit 0))), (.int .i64 (.ofNat (nat_lit 0))), (.int .i64 (.ofNat (nat_lit 0))), (.str (sb [])), (.str (sb [])), (.str (sb [])), (.str (sb [])), (.int .i64 (.ofNat (nat_lit 0))), (.bool false), (.str (sb [])), (.int .i64 (.ofNat (nat_lit 0))), (.slice none 0 true 0)] [(0, 14)]), [.t 61], []⟩,
        ⟨10, (some 63), none, (.app 14 168), [.t 57, .t 62], []⟩,
        ⟨11, (some 64), none, .nilc, [.t 53], []⟩,
        ⟨12, (some 65), none, (.fa 6), [.t 64], []⟩,
        ⟨13, none, none, (.st 1), [.t 65, .t 63], []⟩])
      (.seq (.reg [⟨0, (some 66), none, .mov, [.t 0], []⟩,
         ⟨1, (some 67), none, (.ld (some 7)), [.t 5], []⟩,
         ⟨2, (some 68), none, (.fa 1), [.t 3], []⟩,
         ⟨3, (some 69), none, (.ld none), [.t 68], []⟩,
         ⟨4, (some 70), none, (.call 147), [.t 66, .t 67, .t 69], []⟩])
       (.seq (.reg [⟨0, (some 4), none, .mov, [.c (.bool true)], []⟩])
        (.ret))))))))
def rv61 : List Rv := [.tmp 4]

def ac62 : AC := .seq (.reg [⟨0, (some 3), none, .box, [.t 1], []⟩,
   ⟨1, (some 4), none, .mov, [.c (.bool false)], []⟩])
 (.seq (.seq (.reg [⟨0, (some 7), none, (.fa 1), [.t 3], []⟩,
     ⟨1, (some 8), none, (.ld none), [.t 7], []⟩,
     ⟨2, (some 9), none, (.bin .lss), [.t 8, .c (.int .i64 (.ofNat (nat_lit 0)))], []⟩,
     ⟨3, (some 10), none, .mov, [.t 9], []⟩,
     ⟨4, (some 11), (some (10, false)), (.fa 1), [.t 3], []⟩,
     ⟨5, (some 12), (some (10, false)), (.ld none), [.t 11], []⟩,
     ⟨6, (some 13), (some (10, false)), .mov, [.t 0], []⟩,
     ⟨7, (some 14), (some (10, false)), .nilc, [.t 13], []⟩,
     ⟨8, (some 15), (some (10, false)), (.fa 5), [.t 14], []⟩,
     ⟨9, (some 16), (some (10, false)), (.ld none), [.t 15], []⟩,
     ⟨10, (some 17), (some (10, false)), .lenS, [.t 16], []⟩,
     ⟨11, (some 18), (some (10, false)), (.bin .geq), [.t 12, .t 17], []⟩,
     ⟨12, (some 19), none, .pick, [.t 10, .c (.bool true), .t 18], []⟩])
   (.cond (.t 19) (.seq (.reg [⟨0, (some 4), none, .mov, [.c (.bool false)], []⟩])
     (.ret))
    (.skip)))
  (.seq (.reg [⟨0, (some 20), none, .mov, [.t 0], []⟩,
     ⟨1, (some 21), none, .nilc, [.t 20], []⟩,
     ⟨2, (some 22), none, (.fa 5), [.t 21], []⟩,
     ⟨3, (some 23), none, (.ld none), [.t 22], []⟩,
     ⟨4, (some 24), none, (.fa 1), [.t 3], []⟩,
     ⟨5, (some 25), none, (.ld none), [.t 24], []⟩,
     ⟨6, (some 26), none, (.iaS 51), [.t 23, .t 25], []⟩,
     ⟨7, (some 27), none, (.ld (some 51)), [.t 26], []⟩,
     ⟨8, (some 5), none, (.alloc [(.int .i64 (.ofNat (nat_lit 0))), (.int .i64 (.ofNat (nat_lit 0))), (.int .i64 (.ofNat (nat_lit 0))), (.int .i64 (.ofNat (nat_lit 0))), (.int .i64 (.ofNat (nat_lit 0))), (.int .i64 (.ofNat (nat_lit 0))), (.int .i64 (.ofNat (nat_lit 0))), (.int .i64 (.ofNat (nat_lit 0))), (.int .i64 (.ofNat (nat_lit 0))), (.int .i64 (.ofNat (nat_lit 0))), (.str (sb [])), (.str (sb [])), (.str (sb [])), (.str (sb [])), (.int .i64 (.ofNat (nat_lit 0))), (.int .i64 (.ofNat (nat_lit 0))), (.int .i64 (.ofNat (nat_lit 0))), (.int .i64 (.ofNat (nat_lit 0))), (.int .i64 (.ofNat (nat_lit 0))), (.int .i64 (.ofNat (nat_lit 0))), (.int .i64 (.ofNat (nat_lit 0))), (.int .i64 (.ofNat (nat_lit 0))), (.int .i64 (.ofNat (nat_lit 0))), (.int .i64 (.ofNat (nat_lit 0))), (.int .i64 (.ofNat (nat_lit 0))), (.int .i64 (.ofNat (nat_lit 0))), (.int .i64 (.ofNat (nat_lit 0))), (.int .i64 (.ofNat (nat_lit 0))), (.int .i64 (.ofNat (nat_lit 0))), (.int .i64 (.ofNat (nat_lit 0))), (.str (sb [])), (.str (sb [])), (.str (sb [])), (.str (sb [])), (.int .i64 (.ofNat (nat_lit 0))), (.int .i64 (.ofNat (nat_lit 0))), (.int .i64 (.ofNat (nat_lit 0))), (.int .i64 (.ofNat (nat_lit 0))), (.int .i64 (.ofNat (nat_lit 0))), (.int .i64 (.ofNat (nat_lit 0))), (.int .i64 (.ofNat (nat_lit 0))), (.int .i64 (.ofNat (nat_lit 0))), (.bool false), (.int .i64 (.ofNat (nat_lit 0))), (.int .i64 (.ofNat (nat_lit 0))), (.int .i64 (.ofNat (nat_lit 0))), (.int .i64 (.ofNat (nat_lit 0))), (.int .i64 (.ofNat (nat_lit 0))), (.int .i64 (.ofNat (nat_lit 0))), (.int .i64 (.ofNat (nat_lit 0))), (.str (sb []))]), [], []⟩,
     ⟨9, none, none, (.st 51), [.t 5, .t 27], []⟩])
   (.seq (.seq (.reg [⟨0, (some 28), none, (.fa 0), [.t 3], []⟩,
       ⟨1, (some 29), none, (.ld none), [.t 28], []⟩,
       ⟨2, (some 30), none, (.bin .neq), [.t 29, .c (.int .i64 (.ofNat (nat_lit 3)))], []⟩])
     (.cond (.t 30) (.reg [⟨0, (some 31), none, .mov, [.t 0], []⟩,
        ⟨1, (some 32), none, .mov, [.t 0], []⟩,
        ⟨2, (some 33), none, .nilc, [.t 32], []⟩,
        ⟨3, (some 34), none, (.fa 5), [.t 33], []⟩,
        ⟨4, (some 35), none, (.ld none), [.t 34], []⟩,
        ⟨5, (some 36), none, (.fa 1), [.t 3], []⟩,
        ⟨6, (some 37), none, (.ld none), [.t 36], []⟩,
        ⟨7, (some 38), none, (.fa 1), [.t 3], []⟩,
        ⟨8, (some 39), none, (.ld none), [.t 38], []⟩,
        ⟨9, (some 40), none, (.bin .add), [.t 39, .c (.int .i64 (.ofNat (nat_lit 1)))], []⟩,
        ⟨10, (some 41), none, (.call 148), [.t 35, .t 37, .t 40], []⟩,
        ⟨11, (some 42), none, .nilc, [.t 31], []⟩,
        ⟨12, (some 43), none, (.fa 5), [.t 42], []⟩,
        ⟨13, none, none, (.st 1), [.t 43, .t 41], []⟩])
      (.skip)))
    (.seq (.seq (.reg [⟨0, (some 44), none, .mov, [.t 0], []⟩,
        ⟨1, (some 45), none, (.fa 2), [.t 5], []⟩,
        ⟨2, (some 46), none, (.ld none), [.t 45], []⟩,
        ⟨3, (some 47), none, (.call 22), [.t 44, .t 46], []⟩,
        ⟨4, (some 6), none, .mov, [.t 47], []⟩])
      (.seq (.reg [⟨0, (some 48), none, (.fa 0), [.t 3], []⟩,
         ⟨1, (some 49), none, (.ld none), [.t 48], []⟩,
         ⟨2, (some 50), none, (.bin .neq), [.t 49, .c (.int .i64 (.ofNat (nat_lit 4)))], []⟩,
         ⟨3, (some 51), none, .mov, [.t 50], []⟩,
         ⟨4, (some 52), (some (51, true)), .mov, [.t 6], []⟩,
         ⟨5, (some 53), (some (51, true)), (.eqN true), [.t 52, .c (.ptr none)], []⟩,
         ⟨6, (some 54), none, .pick, [.t 51, .t 53, .c (.bool false)], []⟩])
       (.cond (.t 54) (.seq (.reg [⟨0, (some 55), none, .mov, [.t 6], []⟩,
           ⟨1, (some 56), none, (.ld (some 51)), [.t 5], []⟩,
           ⟨2, (some 57), none, (.call 16), [.t 55, .t 56], []⟩])
         (.reg [⟨0, (some 58), none, .mov, [.t 0], []⟩,
           ⟨1, (some 59), none, (.fa 2), [.t 5], []⟩,
           ⟨2, (some 60), none, (.ld none), [.t 59], []⟩,
           ⟨3, (some 61), none, (.call 60), [.t 58, .t 60], []⟩]))
        (.skip))))
     (.seq (.reg [⟨0, (some 4), none, .mov, [.c (.bool true)], []⟩])
      (.ret))))))
def rv62 : List Rv := [.tmp 4]

def ac63 : AC := .seq (.reg [⟨0, (some 4), none, .mov, [.c (.bool false)], []⟩])
 (.seq (.seq (.reg [⟨0, (some 8), none, .mov, [.t 1], []⟩,
     ⟨1, (some 9), none, (.call 144), [.t 8], []⟩,
     ⟨2, (some 10), none, (.un .not), [.t 9], []⟩])
   (.cond (.t 10) (.seq (.reg [⟨0, (some 4), none, .mov, [.c (.bool false)], []⟩])
     (.ret))
    (.skip)))
  (.seq (.seq (.reg [⟨0, (some 12), none, .mov, [.t 0], []⟩,
      ⟨1, (some 13), none, .nilc, [.t 12], []⟩,
      ⟨2, (some 14), none, (.fa 3), [.t 13], []⟩,
      ⟨3, (some 15), none, (.ld none), [.t 14], []⟩,
      ⟨4, (some 16), none, .mov, [.t 1], []⟩,
      ⟨5, (some 17), none, (.bin .sub), [.t 16, .c (.int .i64 (.ofNat (nat_lit 1)))], []⟩,
      ⟨6, (some 18), none, (.iaS 1), [.t 15, .t 17], []⟩,
      ⟨7, (some 19), none, (.ld none), [.t 18], []⟩,
      ⟨8, (some 20), none, .mov, [.t 0], []⟩,
      ⟨9, (some 21), none, .nilc, [.t 20], []⟩,
      ⟨10, (some 22), none, (.fa 0), [.t 21], []⟩,
      ⟨11, (some 23), none, (.ld none), [.t 22], []⟩,
      ⟨17, (some 5), none, (.alloc [(.int .i64 (.ofNat (nat_lit 0))), (.int .i64 (.ofNat (nat_lit 0))), (.int .i64 (.ofNat (nat_lit 0))), (.str (sb [])), (.str (sb [])), (.str (sb [])), (.str (sb []))]), [], []⟩,
      ⟨12, (some 24), none, (.call 149), [.t 19, .t 23], []⟩,
      ⟨13, (some 11), none, .mov, [.t 24], []⟩,
      ⟨14, (some 25), none, (.ext 0), [.t 11], []⟩,
      ⟨15, (some 26), none, (.ext 1), [.t 11], []⟩,
      ⟨16, (some 27), none, (.ext 2), [.t 11], []⟩,
      ⟨18, none, none, (.st 7), [.t 5, .t 25], []⟩,
      ⟨19, (some 6), none, .mov, [.t 26], []⟩,
      ⟨20, (some 7), none, .mov, [.t 27], []⟩])
    (.seq (.reg [⟨0, (some 28), none, .mov, [.t 7], []⟩])
     (.cond (.t 28) (.reg [⟨0, (some 29), none, .mov, [.t 0], []⟩,
        ⟨1, (some 30), none, (.ld (some 7)), [.t 5], []⟩,
        ⟨2, (some 31), none, .mov, [.t 6], []⟩,
        ⟨3, (some 32), none, (.call 147), [.t 29, .t 30, .t 31], []⟩])
      (.skip))))
   (.seq (.reg [⟨0, (some 4), none, .mov, [.c (.bool true)], []⟩])
    (.ret))))
def rv63 : List Rv := [.tmp 4]

def ac64 : AC := .seq (.reg [⟨0, (some 4), none, .mov, [.c (.bool false)], []⟩])
 (.seq (.seq (.reg [⟨0, (some 7), none, .mov, [.t 1], []⟩,
     ⟨1, (some 8), none, (.bin .lss), [.t 7, .c (.int .i64 (.ofNat (nat_lit 0)))], []⟩,
     ⟨2, (some 9), none, .mov, [.t 8], []⟩,
     ⟨3, (some 10), (some (9, false)), .mov, [.t 1], []⟩,
     ⟨4, (some 11), (some (9, false)), .mov, [.t 0], []⟩,
     ⟨5, (some 12), (some (9, false)), .nilc, [.t 11], []⟩,
     ⟨6, (some 13), (some (9, false)), (.fa 0), [.t 12], []⟩,
     ⟨7, (some 14), (some (9, false)), (.ld none), [.t 13], []⟩,
     ⟨8, (some 15), (some (9, false)), (.bin .geq), [.t 10, .t 14], []⟩,
     ⟨9, (some 16), none, .pick, [.t 9, .c (.bool true), .t 15], []⟩,
     ⟨10, (some 17), none, .mov, [.t 16], []⟩,
     ⟨11, (some 18), (some (17, false)), .mov, [.t 0], []⟩,
     ⟨12, (some 19), (some (17, false)), .nilc, [.t 18], []⟩,
     ⟨13, (some 20), (some (17, false)), (.fa 2), [.t 19], []⟩,
     ⟨14, (some 21), (some (17, false)), (.ld none), [.t 20], []⟩,
     ⟨15, (some 22), (some (17, false)), .mov, [.t 1], []⟩,
     ⟨16, (some 23), (some (17, false)), (.iaS 1), [.t 21, .t 22], []⟩,
     ⟨17, (some 24), (some (17, false)), (.ld none), [.t 23], []⟩,
     ⟨18, (some 25), (some (17, false)), (.eqN true), [.t 24, .c (.ptr none)], []⟩,
     ⟨19, (some 26), none, .pick, [.t 17, .c (.bool true), .t 25], []⟩])
   (.cond (.t 26) (.seq (.reg [⟨0, (some 4), none, .mov, [.c (.bool false)], []⟩])
     (.ret))
    (.skip)))
  (.seq (.reg [⟨0, (some 28), none, .mov, [.t 0], []⟩,
     ⟨1, (some 29), none, .nilc, [.t 28], []⟩,
     ⟨2, (some 30), none, (.fa 0), [.t 29], []⟩,
     ⟨3, (some 31), none, (.ld none), [.t 30], []⟩,
     ⟨4, (some 32), none, .mov, [.t 1], []⟩,
     ⟨5, (some 33), none, .mov, [.t 0], []⟩,
     ⟨6, (some 34), none, .nilc, [.t 33], []⟩,
     ⟨7, (some 35), none, (.fa 1), [.t 34], []⟩,
     ⟨8, (some 36), none, (.ld none), [.t 35], []⟩,
     ⟨9, (some 37), none, .mov, [.t 1], []⟩,
     ⟨10, (some 38), none, (.iaS 1), [.t 36, .t 37], []⟩,
     ⟨11, (some 39), none, (.ld none), [.t 38], []⟩,
     ⟨12, (some 40), none, (.call 9), [.t 31, .t 32, .t 39], []⟩,
     ⟨13, (some 27), none, .mov, [.t 40], []⟩,
     ⟨14, (some 41), none, (.ext 0), [.t 27], []⟩,
     ⟨15, (some 42), none, (.ext 1), [.t 27], []⟩,
     ⟨16, (some 5), none, .mov, [.t 41], []⟩,
     ⟨17, (some 6), none, .mov, [.t 42], []⟩])
   (.seq (.seq (.reg [⟨0, (some 43), none, .mov, [.t 6], []⟩,
       ⟨1, (some 44), none, (.bin .neq), [.t 43, .c (.int .i64 (.ofNat (nat_lit 0)))], []⟩])
     (.cond (.t 44) (.seq (.reg [⟨0, (some 4), none, .mov, [.c (.bool false)], []⟩])
       (.ret))
      (.skip)))
    (.seq (.reg [⟨0, (some 45), none, .mov, [.t 0], []⟩,
       ⟨1, (some 46), none, .nilc, [.t 45], []⟩,
       ⟨2, (some 47), none, (.fa 2), [.t 46], []⟩,
       ⟨3, (some 48), none, (.ld none), [.t 47], []⟩,
       ⟨4, (some 49), none, .mov, [.t 1], []⟩,
       ⟨5, (some 50), none, .mov, [.t 5], []⟩,
       ⟨6, (some 51), none, (.iaS 1), [.t 48, .t 49], []⟩,
       ⟨7, none, none, (.st 1), [.t 51, .t 50], []⟩])
     (.seq (.reg [⟨0, (some 52), none, .mov, [.t 0], []⟩,
        ⟨1, (some 53), none, .mov, [.t 1], []⟩,
        ⟨2, (some 54), none, (.call 60), [.t 52, .t 53], []⟩])
      (.seq (.reg [⟨0, (some 4), none, .mov, [.c (.bool true)], []⟩])
       (.ret)))))))
def rv64 : List Rv := [.tmp 4]

def ac68 : AC := .seq (.reg [⟨0, (some 2), none, .mov, [.c (.slice none 0 true 0)], []⟩])
 (.seq (.seq (.reg [⟨0, (some 3), none, .mov, [.t 0], []⟩,
     ⟨1, (some 4), none, (.eqN false), [.t 3, .c (.slice none 0 true 0)], []⟩])
   (.cond (.t 4) (.seq (.reg [⟨0, (some 2), none, .mov, [.c (.slice none 0 true 0)], []⟩])
     (.ret))
    (.skip)))
  (.seq (.reg [⟨0, (some 5), none, (.bsl 51 0 [] []), [], []⟩,
     ⟨1, (some 6), none, .mov, [.t 0], []⟩,
     ⟨2, (some 7), none, (.app 51 480), [.t 5, .t 6], []⟩,
     ⟨3, (some 2), none, .mov, [.t 7], []⟩])
   (.ret)))
def rv68 : List Rv := [.tmp 2]

def ac69 : AC := .seq (.reg [⟨0, (some 2), none, .mov, [.c (.slice none 0 true 0)], []⟩])
 (.seq (.seq (.reg [⟨0, (some 3), none, .mov, [.t 0], []⟩,
     ⟨1, (some 4), none, (.eqN false), [.t 3, .c (.slice none 0 true 0)], []⟩])
   (.cond (.t 4) (.seq (.reg [⟨0, (some 2), none, .mov, [.c (.slice none 0 true 0)], []⟩])
     (.ret))
    (.skip)))
  (.seq (.reg [⟨0, (some 5), none, (.bsl 14 0 [] []), [], []⟩,
     ⟨1, (some 6), none, .mov, [.t 0], []⟩,
     ⟨2, (some 7), none, (.app 14 168), [.t 5, .t 6], []⟩,
     ⟨3, (some 2), none, .mov, [.t 7], []⟩])
   (.ret)))
def rv69 : List Rv := [.tmp 2]

def ac125 : AC := .seq (.reg [⟨0, (some 2), none, (.alloc [(.int .i64 (.ofNat (nat_lit 0))), (.int .i64 (.ofNat (nat_lit 0))), (.int .i64 (.ofNat (nat_lit 0))), (.int .i64 (.ofNat (nat_lit 0))), (.int .i64 (.ofNat (nat_lit 0))), (.int .i64 (.ofNat (nat_lit 0))), (.int .i64 (.ofNat (nat_lit 0)))]), [], []⟩])
 (.seq (.reg [⟨0, (some 5), none, .mov, [.t 0], []⟩,
    ⟨1, (some 6), none, .nilc, [.t 5], []⟩,
    ⟨2, (some 7), none, (.fa 1), [.t 6], []⟩,
    ⟨3, (some 8), none, (.ld (some 7)), [.t 7], []⟩,
    ⟨4, (some 3), none, (.alloc [(.int .i64 (.ofNat (nat_lit 0))), (.int .i64 (.ofNat (nat_lit 0))), (.int .i64 (.ofNat (nat_lit 0))), (.int .i64 (.ofNat (nat_lit 0))), (.int .i64 (.ofNat (nat_lit 0))), (.int .i64 (.ofNat (nat_lit 0))), (.int .i64 (.ofNat (nat_lit 0)))]), [], []⟩,
    ⟨5, none, none, (.st 7), [.t 3, .t 8], []⟩])
  (.seq (.seq (.reg [⟨0, (some 9), none, .mov, [.t 0], []⟩,
      ⟨1, (some 10), none, .nilc, [.t 9], []⟩,
      ⟨2, (some 11), none, (.fa 0), [.t 10], []⟩,
      ⟨3, (some 12), none, (.ld none), [.t 11], []⟩,
      ⟨4, (some 13), none, .rng, [.t 12], []⟩])
    (.block 0 (.loop (.seq (.reg [⟨0, (some 14), none, .nxt, [.t 13], []⟩,
         ⟨1, (some 15), none, (.ext 0), [.t 14], []⟩])
       (.seq (.cond (.t 15) (.skip)
         (.exit 0))
        (.block 1 (.seq (.reg [⟨0, (some 16), none, .ent, [.t 13], []⟩,
            ⟨1, (some 17), none, (.ext 0), [.t 16], []⟩,
            ⟨2, (some 4), none, (.alloc [(.int .i64 (.ofNat (nat_lit 0))), (.int .i64 (.ofNat (nat_lit 0)))]), [], []⟩,
            ⟨3, none, none, (.st 2), [.t 4, .t 17], []⟩])
          (.reg [⟨0, (some 18), none, (.fa 0), [.t 4], []⟩,
            ⟨1, (some 19), none, (.ld none), [.t 18], []⟩,
            ⟨2, (some 20), none, (.fa 0), [.t 4], []⟩,
            ⟨3, (some 21), none, (.ld none), [.t 20], []⟩,
            ⟨4, (some 22), none, (.iaA 7 1), [.t 3, .t 21], []⟩,
            ⟨5, (some 23), none, (.ld none), [.t 22], []⟩,
            ⟨6, (some 24), none, (.fa 1), [.t 4], []⟩,
            ⟨7, (some 25), none, (.ld none), [.t 24], []⟩,
            ⟨8, (some 26), none, .maxI, [.t 23, .t 25], []⟩,
            ⟨9, (some 27), none, (.iaA 7 1), [.t 3, .t 19], []⟩,
            ⟨10, none, none, (.st 1), [.t 27, .t 26], []⟩]))))))))
   (.seq (.reg [⟨0, (some 28), none, (.ld (some 7)), [.t 3], []⟩,
      ⟨1, none, none, (.st 7), [.t 2, .t 28], []⟩])
    (.ret))))
def rv125 : List Rv := [.cell 2 (some 7)]

def ac144 : AC := .seq (.reg [⟨0, (some 2), none, .mov, [.c (.bool false)], []⟩])
 (.seq (.reg [⟨0, (some 3), none, .mov, [.t 0], []⟩,
    ⟨1, (some 4), none, (.bin .geq), [.t 3, .c (.int .i64 (.ofNat (nat_lit 1)))], []⟩,
    ⟨2, (some 5), none, .mov, [.t 4], []⟩,
    ⟨3, (some 6), (some (5, true)), .mov, [.t 0], []⟩,
    ⟨4, (some 7), (some (5, true)), (.bin .leq), [.t 6, .c (.int .i64 (.ofNat (nat_lit 8)))], []⟩,
    ⟨5, (some 8), none, .pick, [.t 5, .t 7, .c (.bool false)], []⟩,
    ⟨6, (some 2), none, .mov, [.t 8], []⟩])
  (.ret))
def rv144 : List Rv := [.tmp 2]


/-- The program's functions that are walked here, by number. -/
structure CIP (P : Program) : Prop where
  hm : P.follows .mixedOrders = true
  m4 : mkFun P 4 = some (ac4, rv4)
  m11 : mkFun P 11 = some (ac11, rv11)
  m14 : mkFun P 14 = some (ac14, rv14)
  m19 : mkFun P 19 = some (ac19, rv19)
  m20 : mkFun P 20 = some (ac20, rv20)
  m21 : mkFun P 21 = some (ac21, rv21)
  m22 : mkFun P 22 = some (ac22, rv22)
  m23 : mkFun P 23 = some (ac23, rv23)
  m24 : mkFun P 24 = some (ac24, rv24)
  m25 : mkFun P 25 = some (ac25, rv25)
  m52 : mkFun P 52 = some (ac52, rv52)
  m61 : mkFun P 61 = some (ac61, rv61)
  m62 : mkFun P 62 = some (ac62, rv62)
  m63 : mkFun P 63 = some (ac63, rv63)
  m64 : mkFun P 64 = some (ac64, rv64)
  m68 : mkFun P 68 = some (ac68, rv68)
  m69 : mkFun P 69 = some (ac69, rv69)
  m125 : mkFun P 125 = some (ac125, rv125)
  m144 : mkFun P 144 = some (ac144, rv144)

def ni (n : Int) : V := .int .i64 n

variable {P : Program} (C : CIP P)
include C


theorem c144 (a : Int) (ha : a ≤ 0) (H : Heap) : CallT P 144 [ni a] H fun v H' => v = .bool false ∧ H' = H := by
  refine callT_fun C.hm C.m144 ?_
  unfold ac144
  have h1 : decide (a ≥ 1) = false := decide_eq_false (by omega)
  repeat (first
    | ((with_reducible refine is_cons ?_); first
      | refine s_flat rfl rfl rfl rfl rfl rfl ?_
      | refine s_read rfl rfl rfl rfl (by simp only [Kind.ne, kLd, Heap.row, V.cells]; rfl) ?_
      | refine s_skip rfl ?_)
    | with_reducible refine s_nil ?_
    | with_reducible refine t_normal ?_
    | with_reducible refine w_seq ?_
    | with_reducible refine w_reg ?_
    | with_reducible refine w_block ?_
    | with_reducible refine w_skip ?_
    | with_reducible refine b_normal ?_
    | ((with_reducible refine is_cond ?_); first
      | refine w_true rfl ?_
      | refine w_false rfl ?_)
    | with_reducible refine w_ret ?_
    | with_reducible refine t_ret ?_
    | with_reducible refine b_ret ?_
    | with_reducible refine w_exit ?_
    | with_reducible refine t_exit ?_
    | with_reducible refine b_here ?_
    | with_reducible refine b_on (by decide) ?_)
  refine s_val (v := .bool false) rfl rfl rfl rfl (by show some (Eff.val (V.bool (decide (a ≥ 1)))) = _; rw [h1]) ?_
  repeat (first
    | ((with_reducible refine is_cons ?_); first
      | refine s_flat rfl rfl rfl rfl rfl rfl ?_
      | refine s_read rfl rfl rfl rfl (by simp only [Kind.ne, kLd, Heap.row, V.cells]; rfl) ?_
      | refine s_skip rfl ?_)
    | with_reducible refine s_nil ?_
    | with_reducible refine t_normal ?_
    | with_reducible refine w_seq ?_
    | with_reducible refine w_reg ?_
    | with_reducible refine w_block ?_
    | with_reducible refine w_skip ?_
    | with_reducible refine b_normal ?_
    | ((with_reducible refine is_cond ?_); first
      | refine w_true rfl ?_
      | refine w_false rfl ?_)
    | with_reducible refine w_ret ?_
    | with_reducible refine t_ret ?_
    | with_reducible refine b_ret ?_
    | with_reducible refine w_exit ?_
    | with_reducible refine t_exit ?_
    | with_reducible refine b_here ?_
    | with_reducible refine b_on (by decide) ?_)
  exact ⟨_, rfl, rfl, rfl⟩

/-- The cluster's own cells, as far as they are needed: 'k' nodes, all up; no letters, no history. -/
structure Idle (k c nb : Nat) (H : Heap) : Prop where
  pos : k ≤ 7
  cl : ∃ v1 f1 e1 v3 v4, H.blk c = .cells 0 false [ni k, v1, .slice (some (nb, 0)) k f1 e1, v3, v4, .slice none 0 true 0, .slice none 0 true 0]
  nodes : ∃ xs, H.blk nb = .cells 1 false xs ∧ xs.length = k ∧ ∀ x ∈ xs, ∃ p, x = .ptr (some p)
  lt : c < H.next ∧ nb < H.next

omit C in
theorem Idle.grow {k c nb : Nat} {H H' : Heap} (h : Idle k c nb H) (g : Grow H H') : Idle k c nb H' := by
  obtain ⟨h0, ⟨v1, f1, e1, v3, v4, h1⟩, ⟨xs, h2, h3⟩, h4, h5⟩ := h
  exact ⟨h0, ⟨v1, f1, e1, v3, v4, by rw [g.old c h4]; exact h1⟩, ⟨xs, by rw [g.old nb h5]; exact h2, h3⟩, Nat.lt_of_lt_of_le h4 g.le, Nat.lt_of_lt_of_le h5 g.le⟩

theorem c20 {k c nb : Nat} {H : Heap} (h : Idle k c nb H) : CallT P 20 [.ptr (some (c, 0))] H fun v H' => v = ni k ∧ H' = H := by
  obtain ⟨h0, ⟨v1, f1, e1, v3, v4, h1⟩, _⟩ := h
  refine callT_fun C.hm C.m20 ?_
  unfold ac20
  repeat (first
    | ((with_reducible refine is_cons ?_); first
      | refine s_flat rfl rfl rfl rfl rfl rfl ?_
      | refine s_read rfl rfl rfl rfl (by simp only [Kind.ne, kLd, Heap.row, V.cells, h1]; rfl) ?_
      | refine s_skip rfl ?_)
    | with_reducible refine s_nil ?_
    | with_reducible refine t_normal ?_
    | with_reducible refine w_seq ?_
    | with_reducible refine w_reg ?_
    | with_reducible refine w_block ?_
    | with_reducible refine w_skip ?_
    | with_reducible refine b_normal ?_
    | ((with_reducible refine is_cond ?_); first
      | refine w_true rfl ?_
      | refine w_false rfl ?_)
    | with_reducible refine w_ret ?_
    | with_reducible refine t_ret ?_
    | with_reducible refine b_ret ?_
    | with_reducible refine w_exit ?_
    | with_reducible refine t_exit ?_
    | with_reducible refine b_here ?_
    | with_reducible refine b_on (by decide) ?_)
  exact ⟨_, rfl, rfl, rfl⟩

/-- A node that is none. -/
theorem c22_none {k c nb : Nat} {H : Heap} (h : Idle k c nb H) (i : Int) (hi : i < 0 ∨ (k : Int) ≤ i) : CallT P 22 [.ptr (some (c, 0)), ni i] H fun v H' => v = .ptr none ∧ H' = H := by
  obtain ⟨h0, ⟨v1, f1, e1, v3, v4, h1⟩, _⟩ := h
  refine callT_fun C.hm C.m22 ?_
  unfold ac22
  repeat (first
    | ((with_reducible refine is_cons ?_); first
      | refine s_flat rfl rfl rfl rfl rfl rfl ?_
      | refine s_read rfl rfl rfl rfl (by simp only [Kind.ne, kLd, Heap.row, V.cells]; rfl) ?_
      | refine s_skip rfl ?_)
    | with_reducible refine s_nil ?_
    | with_reducible refine t_normal ?_
    | with_reducible refine w_seq ?_
    | with_reducible refine w_reg ?_
    | with_reducible refine w_block ?_
    | with_reducible refine w_skip ?_
    | with_reducible refine b_normal ?_
    | ((with_reducible refine is_cond ?_); first
      | refine w_true rfl ?_
      | refine w_false rfl ?_)
    | with_reducible refine w_ret ?_
    | with_reducible refine t_ret ?_
    | with_reducible refine b_ret ?_
    | with_reducible refine w_exit ?_
    | with_reducible refine t_exit ?_
    | with_reducible refine b_here ?_
    | with_reducible refine b_on (by decide) ?_)
  by_cases hneg : i < 0
  · have d1 : decide (i < 0) = true := decide_eq_true hneg
    refine s_val (v := .bool true) rfl rfl rfl rfl (by show some (Eff.val (V.bool (decide (i < 0)))) = _; rw [d1]) ?_
    repeat (first
      | ((with_reducible refine is_cons ?_); first
        | refine s_flat rfl rfl rfl rfl rfl rfl ?_
        | refine s_read rfl rfl rfl rfl (by simp only [Kind.ne, kLd, Heap.row, V.cells, h1]; rfl) ?_
        | refine s_skip rfl ?_)
      | with_reducible refine s_nil ?_
      | with_reducible refine t_normal ?_
      | with_reducible refine w_seq ?_
      | with_reducible refine w_reg ?_
      | with_reducible refine w_block ?_
      | with_reducible refine w_skip ?_
      | with_reducible refine b_normal ?_
      | ((with_reducible refine is_cond ?_); first
        | refine w_true rfl ?_
        | refine w_false rfl ?_)
      | with_reducible refine w_ret ?_
      | with_reducible refine t_ret ?_
      | with_reducible refine b_ret ?_
      | with_reducible refine w_exit ?_
      | with_reducible refine t_exit ?_
      | with_reducible refine b_here ?_
      | with_reducible refine b_on (by decide) ?_)
    exact ⟨_, rfl, rfl, rfl⟩
  · have d1 : decide (i < 0) = false := decide_eq_false hneg
    have d2 : decide (i ≥ (k : Int)) = true := decide_eq_true (by omega)
    refine s_val (v := .bool false) rfl rfl rfl rfl (by show some (Eff.val (V.bool (decide (i < 0)))) = _; rw [d1]) ?_
    repeat (first
      | ((with_reducible refine is_cons ?_); first
        | refine s_flat rfl rfl rfl rfl rfl rfl ?_
        | refine s_read rfl rfl rfl rfl (by simp only [Kind.ne, kLd, Heap.row, V.cells, h1]; rfl) ?_
        | refine s_skip rfl ?_)
      | with_reducible refine s_nil ?_
      | with_reducible refine t_normal ?_
      | with_reducible refine w_seq ?_
      | with_reducible refine w_reg ?_
      | with_reducible refine w_block ?_
      | with_reducible refine w_skip ?_
      | with_reducible refine b_normal ?_
      | ((with_reducible refine is_cond ?_); first
        | refine w_true rfl ?_
        | refine w_false rfl ?_)
      | with_reducible refine w_ret ?_
      | with_reducible refine t_ret ?_
      | with_reducible refine b_ret ?_
      | with_reducible refine w_exit ?_
      | with_reducible refine t_exit ?_
      | with_reducible refine b_here ?_
      | with_reducible refine b_on (by decide) ?_)
    refine s_val (v := .bool true) rfl rfl rfl rfl (by show some (Eff.val (V.bool (decide (i ≥ (k : Int))))) = _; rw [d2]) ?_
    repeat (first
      | ((with_reducible refine is_cons ?_); first
        | refine s_flat rfl rfl rfl rfl rfl rfl ?_
        | refine s_read rfl rfl rfl rfl (by simp only [Kind.ne, kLd, Heap.row, V.cells, h1]; rfl) ?_
        | refine s_skip rfl ?_)
      | with_reducible refine s_nil ?_
      | with_reducible refine t_normal ?_
      | with_reducible refine w_seq ?_
      | with_reducible refine w_reg ?_
      | with_reducible refine w_block ?_
      | with_reducible refine w_skip ?_
      | with_reducible refine b_normal ?_
      | ((with_reducible refine is_cond ?_); first
        | refine w_true rfl ?_
        | refine w_false rfl ?_)
      | with_reducible refine w_ret ?_
      | with_reducible refine t_ret ?_
      | with_reducible refine b_ret ?_
      | with_reducible refine w_exit ?_
      | with_reducible refine t_exit ?_
      | with_reducible refine b_here ?_
      | with_reducible refine b_on (by decide) ?_)
    exact ⟨_, rfl, rfl, rfl⟩
end Go.Cn

/- Steps that do not apply change nothing. -/
namespace Go.Cn
set_option linter.unusedVariables false
set_option linter.unusedSimpArgs false

variable {P : Program} (C : CIP P)
include C

theorem c22_some {k c nb : Nat} {H : Heap} (h : Idle k c nb H) (j : Nat) (hj : j < k) : CallT P 22 [.ptr (some (c, 0)), ni j] H fun v H' => (∃ p, v = .ptr (some p)) ∧ H' = H := by
  obtain ⟨h0, ⟨v1, f1, e1, v3, v4, h1⟩, ⟨xs, h2, h3, h4⟩, _⟩ := h
  obtain ⟨p, hp⟩ := h4 (xs[j]'(by omega)) (List.getElem_mem _)
  have hx : xs[j]? = some (.ptr (some p)) := by rw [List.getElem?_eq_getElem (by omega), hp]
  refine callT_fun C.hm C.m22 ?_
  unfold ac22
  have d1 : decide ((j : Int) < 0) = false := decide_eq_false (by omega)
  have d2 : decide ((j : Int) ≥ (k : Int)) = false := decide_eq_false (by omega)
  repeat (first
    | ((with_reducible refine is_cons ?_); first
      | refine s_flat rfl rfl rfl rfl rfl rfl ?_
      | refine s_read rfl rfl rfl rfl (by simp only [Kind.ne, kLd, Heap.row, V.cells]; rfl) ?_
      | refine s_skip rfl ?_)
    | with_reducible refine s_nil ?_
    | with_reducible refine t_normal ?_
    | with_reducible refine w_seq ?_
    | with_reducible refine w_reg ?_
    | with_reducible refine w_block ?_
    | with_reducible refine w_skip ?_
    | with_reducible refine b_normal ?_
    | ((with_reducible refine is_cond ?_); first
      | refine w_true rfl ?_
      | refine w_false rfl ?_)
    | with_reducible refine w_ret ?_
    | with_reducible refine t_ret ?_
    | with_reducible refine b_ret ?_
    | with_reducible refine w_exit ?_
    | with_reducible refine t_exit ?_
    | with_reducible refine b_here ?_
    | with_reducible refine b_on (by decide) ?_)
  refine s_val (v := .bool false) rfl rfl rfl rfl (by show some (Eff.val (V.bool (decide ((j : Int) < 0)))) = _; rw [d1]) ?_
  repeat (first
    | ((with_reducible refine is_cons ?_); first
      | refine s_flat rfl rfl rfl rfl rfl rfl ?_
      | refine s_read rfl rfl rfl rfl (by simp only [Kind.ne, kLd, Heap.row, V.cells, h1]; rfl) ?_
      | refine s_skip rfl ?_)
    | with_reducible refine s_nil ?_
    | with_reducible refine t_normal ?_
    | with_reducible refine w_seq ?_
    | with_reducible refine w_reg ?_
    | with_reducible refine w_block ?_
    | with_reducible refine w_skip ?_
    | with_reducible refine b_normal ?_
    | ((with_reducible refine is_cond ?_); first
      | refine w_true rfl ?_
      | refine w_false rfl ?_)
    | with_reducible refine w_ret ?_
    | with_reducible refine t_ret ?_
    | with_reducible refine b_ret ?_
    | with_reducible refine w_exit ?_
    | with_reducible refine t_exit ?_
    | with_reducible refine b_here ?_
    | with_reducible refine b_on (by decide) ?_)
  refine s_val (v := .bool false) rfl rfl rfl rfl (by show some (Eff.val (V.bool (decide ((j : Int) ≥ (k : Int))))) = _; rw [d2]) ?_
  repeat (first
    | ((with_reducible refine is_cons ?_); first
      | refine s_flat rfl rfl rfl rfl rfl rfl ?_
      | refine s_read rfl rfl rfl rfl (by simp only [Kind.ne, kLd, Heap.row, V.cells, h1]; rfl) ?_
      | refine s_skip rfl ?_)
    | with_reducible refine s_nil ?_
    | with_reducible refine t_normal ?_
    | with_reducible refine w_seq ?_
    | with_reducible refine w_reg ?_
    | with_reducible refine w_block ?_
    | with_reducible refine w_skip ?_
    | with_reducible refine b_normal ?_
    | ((with_reducible refine is_cond ?_); first
      | refine w_true rfl ?_
      | refine w_false rfl ?_)
    | with_reducible refine w_ret ?_
    | with_reducible refine t_ret ?_
    | with_reducible refine b_ret ?_
    | with_reducible refine w_exit ?_
    | with_reducible refine t_exit ?_
    | with_reducible refine b_here ?_
    | with_reducible refine b_on (by decide) ?_)
  refine s_val (v := .ptr (some (nb, j))) rfl rfl rfl rfl (by
    show kIaS 1 [.slice (some (nb, 0)) k f1 e1, ni j] = _
    simp only [ni, kIaS]
    rw [if_pos ⟨by omega, by omega⟩]
    simp) ?_
  refine s_read (v := .ptr (some p)) rfl rfl rfl rfl (by simp only [Kind.ne, kLd, h2, hx]; rfl) ?_
  repeat (first
    | ((with_reducible refine is_cons ?_); first
      | refine s_flat rfl rfl rfl rfl rfl rfl ?_
      | refine s_read rfl rfl rfl rfl (by simp only [Kind.ne, kLd, Heap.row, V.cells]; rfl) ?_
      | refine s_skip rfl ?_)
    | with_reducible refine s_nil ?_
    | with_reducible refine t_normal ?_
    | with_reducible refine w_seq ?_
    | with_reducible refine w_reg ?_
    | with_reducible refine w_block ?_
    | with_reducible refine w_skip ?_
    | with_reducible refine b_normal ?_
    | ((with_reducible refine is_cond ?_); first
      | refine w_true rfl ?_
      | refine w_false rfl ?_)
    | with_reducible refine w_ret ?_
    | with_reducible refine t_ret ?_
    | with_reducible refine b_ret ?_
    | with_reducible refine w_exit ?_
    | with_reducible refine t_exit ?_
    | with_reducible refine b_here ?_
    | with_reducible refine b_on (by decide) ?_)
  exact ⟨_, rfl, ⟨_, rfl⟩, rfl⟩

/-- A step's cells. -/
def srow (kd n cnt cl ck c2 c3 : Int) (k1 k2 k3 k4 : List UInt8) (pk : V) : List V := [ni kd, ni n, ni cnt, ni cl, ni ck, ni c2, ni c3, .str k1, .str k2, .str k3, .str k4, pk]

theorem c19 (kd n cnt cl ck c2 c3 : Int) (k1 k2 k3 k4 : List UInt8) (p : Option (Nat × Nat)) (len : Nat) (f : Bool) (es : Nat) (H : Heap) :
    CallT P 19 [.agg (srow kd n cnt cl ck c2 c3 k1 k2 k3 k4 (.slice p len f es))] H fun v H' => (∃ t, v = .bool t) ∧ Grow H H' := by
  refine callT_fun C.hm C.m19 ?_
  unfold ac19
  have hb := push_new H (.cells 0 false (srow kd n cnt cl ck c2 c3 k1 k2 k3 k4 (.slice p len f es)))
  refine w_seq (w_reg (s_new rfl rfl rfl rfl rfl ?_))
  repeat (first
    | ((with_reducible refine is_cons ?_); first
      | refine s_val rfl rfl rfl rfl rfl ?_
      | refine s_read rfl rfl rfl rfl (by simp only [Kind.ne, kLd, Heap.row, V.cells, hb]; rfl) ?_
      | refine s_skip rfl ?_)
    | with_reducible refine s_nil ?_
    | with_reducible refine t_normal ?_
    | with_reducible refine w_seq ?_
    | with_reducible refine w_reg ?_
    | with_reducible refine w_block ?_
    | with_reducible refine w_skip ?_
    | with_reducible refine b_normal ?_
    | ((with_reducible refine is_cond ?_); first
      | refine w_true rfl ?_
      | refine w_false rfl ?_)
    | with_reducible refine w_ret ?_
    | with_reducible refine t_ret ?_
    | with_reducible refine b_ret ?_
    | with_reducible refine w_exit ?_
    | with_reducible refine t_exit ?_
    | with_reducible refine b_here ?_
    | with_reducible refine b_on (by decide) ?_)
  exact ⟨_, rfl, ⟨_, rfl⟩, (Grow.refl H).push _⟩

theorem c61 {k c nb : Nat} {H : Heap} (h : Idle k c nb H) (kd n cnt cl ck c2 c3 : Int) (k1 k2 k3 k4 : List UInt8) (p : Option (Nat × Nat)) (len : Nat) (f : Bool) (es : Nat) (hcl : cl ≤ 0) :
    CallT P 61 [.ptr (some (c, 0)), .agg (srow kd n cnt cl ck c2 c3 k1 k2 k3 k4 (.slice p len f es))] H fun v H' => v = .bool false ∧ Grow H H' := by
  refine callT_fun C.hm C.m61 ?_
  unfold ac61
  have hb := push_new H (.cells 0 false (srow kd n cnt cl ck c2 c3 k1 k2 k3 k4 (.slice p len f es)))
  refine w_seq (w_reg (s_new rfl rfl rfl rfl rfl ?_))
  repeat (first
    | ((with_reducible refine is_cons ?_); first
      | refine s_val rfl rfl rfl rfl rfl ?_
      | refine s_read rfl rfl rfl rfl (by simp only [Kind.ne, kLd, Heap.row, V.cells, hb]; rfl) ?_
      | refine s_skip rfl ?_)
    | with_reducible refine s_nil ?_
    | with_reducible refine t_normal ?_
    | with_reducible refine w_seq ?_
    | with_reducible refine w_reg ?_
    | with_reducible refine w_block ?_
    | with_reducible refine w_skip ?_
    | with_reducible refine b_normal ?_
    | ((with_reducible refine is_cond ?_); first
      | refine w_true rfl ?_
      | refine w_false rfl ?_)
    | with_reducible refine w_ret ?_
    | with_reducible refine t_ret ?_
    | with_reducible refine b_ret ?_
    | with_reducible refine w_exit ?_
    | with_reducible refine t_exit ?_
    | with_reducible refine b_here ?_
    | with_reducible refine b_on (by decide) ?_)
  refine s_call0 rfl rfl ((c144 C cl hcl _).mono ?_)
  rintro v H' ⟨rfl, rfl⟩
  repeat (first
    | ((with_reducible refine is_cons ?_); first
      | refine s_val rfl rfl rfl rfl rfl ?_
      | refine s_read rfl rfl rfl rfl (by simp only [Kind.ne, kLd, Heap.row, V.cells, hb]; rfl) ?_
      | refine s_skip rfl ?_)
    | with_reducible refine s_nil ?_
    | with_reducible refine t_normal ?_
    | with_reducible refine w_seq ?_
    | with_reducible refine w_reg ?_
    | with_reducible refine w_block ?_
    | with_reducible refine w_skip ?_
    | with_reducible refine b_normal ?_
    | ((with_reducible refine is_cond ?_); first
      | refine w_true rfl ?_
      | refine w_false rfl ?_)
    | with_reducible refine w_ret ?_
    | with_reducible refine t_ret ?_
    | with_reducible refine b_ret ?_
    | with_reducible refine w_exit ?_
    | with_reducible refine t_exit ?_
    | with_reducible refine b_here ?_
    | with_reducible refine b_on (by decide) ?_)
  exact ⟨_, rfl, rfl, (Grow.refl H).push _⟩
end Go.Cn
